/- One part of the proof. -/
import Derived.Test.YtffennknofmjoaaGreatP4
import Derived.Test.YtffennknofmjoaaGreatChecked
set_option linter.unusedSimpArgs false
set_option linter.unusedVariables false
set_option linter.unusedVariables false
set_option maxRecDepth 100000
namespace Go.Vm.X
open Go.Proofs Go.Am Go.Vm
abbrev Kt := List PV → PHeap → Pt
def Z33 : List PV := [.str ⟨#[]⟩, .nilS, .bool false, .nilS, .bool false, .int .i64 0, .int .i64 0, .bool false, .int .i64 0, .int .i64 0, .bool false, .nilS, .bool false, .int .i64 0, .int .i64 0, .bool false, .int .i64 0, .int .i64 0, .bool false, .nilS, .bool false, .int .i64 0, .int .i64 0, .bool false, .int .i64 0, .int .i64 0, .int .i64 0, .int .i64 0, .int .i64 0, .int .i64 0, .int .i64 0, .int .i64 0, .int .i64 0]
def Z29 : List PV := [.str ⟨#[]⟩, .int .i64 0, .int .i64 0, .int .i64 0, .int .i64 0, .int .i64 0, .bool false, .bool false, .bool false, .int .i64 0, .int .i64 0, .int .i64 0, .bool false, .bool false, .bool false, .bool false, .int .i64 0, .bool false, .int .i64 0, .bool false, .bool false, .int .i64 0, .bool false, .bool false, .bool false, .bool false, .bool false, .bool false, .bool false]
def Z256 : List PV := [.bool false, .bool false, .bool false, .bool false, .bool false, .bool false, .bool false, .bool false, .bool false, .bool false, .bool false, .bool false, .bool false, .bool false, .bool false, .bool false, .bool false, .bool false, .bool false, .bool false, .bool false, .bool false, .bool false, .bool false, .bool false, .bool false, .bool false, .bool false, .bool false, .bool false, .bool false, .bool false, .bool false, .bool false, .bool false, .bool false, .bool false, .bool false, .bool false, .bool false, .bool false, .bool false, .bool false, .bool false, .bool false, .bool false, .bool false, .bool false, .bool false, .bool false, .bool false, .bool false, .bool false, .bool false, .bool false, .bool false, .bool false, .bool false, .bool false, .bool false, .bool false, .bool false, .bool false, .bool false, .bool false, .bool false, .bool false, .bool false, .bool false, .bool false, .bool false, .bool false, .bool false, .bool false, .bool false, .bool false, .bool false, .bool false, .bool false, .bool false, .bool false, .bool false, .bool false, .bool false, .bool false, .bool false, .bool false, .bool false, .bool false, .bool false, .bool false, .bool false, .bool false, .bool false, .bool false, .bool false, .bool false, .bool false, .bool false, .bool false, .bool false, .bool false, .bool false, .bool false, .bool false, .bool false, .bool false, .bool false, .bool false, .bool false, .bool false, .bool false, .bool false, .bool false, .bool false, .bool false, .bool false, .bool false, .bool false, .bool false, .bool false, .bool false, .bool false, .bool false, .bool false, .bool false, .bool false, .bool false, .bool false, .bool false, .bool false, .bool false, .bool false, .bool false, .bool false, .bool false, .bool false, .bool false, .bool false, .bool false, .bool false, .bool false, .bool false, .bool false, .bool false, .bool false, .bool false, .bool false, .bool false, .bool false, .bool false, .bool false, .bool false, .bool false, .bool false, .bool false, .bool false, .bool false, .bool false, .bool false, .bool false, .bool false, .bool false, .bool false, .bool false, .bool false, .bool false, .bool false, .bool false, .bool false, .bool false, .bool false, .bool false, .bool false, .bool false, .bool false, .bool false, .bool false, .bool false, .bool false, .bool false, .bool false, .bool false, .bool false, .bool false, .bool false, .bool false, .bool false, .bool false, .bool false, .bool false, .bool false, .bool false, .bool false, .bool false, .bool false, .bool false, .bool false, .bool false, .bool false, .bool false, .bool false, .bool false, .bool false, .bool false, .bool false, .bool false, .bool false, .bool false, .bool false, .bool false, .bool false, .bool false, .bool false, .bool false, .bool false, .bool false, .bool false, .bool false, .bool false, .bool false, .bool false, .bool false, .bool false, .bool false, .bool false, .bool false, .bool false, .bool false, .bool false, .bool false, .bool false, .bool false, .bool false, .bool false, .bool false, .bool false, .bool false, .bool false, .bool false, .bool false, .bool false, .bool false, .bool false, .bool false, .bool false, .bool false, .bool false, .bool false, .bool false, .bool false, .bool false, .bool false, .bool false, .bool false, .bool false]
def Z42 : List PV := [.str ⟨#[]⟩, .int .i64 0, .int .i64 0, .nilS, .int .i64 0, .int .i64 0, .int .i64 0, .int .i64 0, .bool false, .nilS, .nilS, .nilS, .nilS, .str ⟨#[]⟩, .int .i64 0, .int .i64 0, .int .i64 0, .int .i64 0, .int .i64 0, .bool false, .bool false, .bool false, .int .i64 0, .int .i64 0, .int .i64 0, .bool false, .bool false, .bool false, .bool false, .int .i64 0, .bool false, .int .i64 0, .bool false, .bool false, .int .i64 0, .bool false, .bool false, .bool false, .bool false, .bool false, .bool false, .bool false]
def Z32 : List PV := [.bool false, .bool false, .bool false, .bool false, .bool false, .bool false, .bool false, .bool false, .bool false, .bool false, .bool false, .bool false, .bool false, .bool false, .bool false, .bool false, .bool false, .bool false, .bool false, .bool false, .bool false, .bool false, .bool false, .bool false, .bool false, .bool false, .bool false, .bool false, .bool false, .bool false, .bool false, .bool false]
def Z203 : List PV := [.str ⟨#[]⟩, .int .i64 0, .int .i64 0, .int .i64 0, .int .i64 0, .int .i64 0, .bool false, .bool false, .bool false, .int .i64 0, .int .i64 0, .int .i64 0, .bool false, .bool false, .bool false, .bool false, .int .i64 0, .bool false, .int .i64 0, .bool false, .bool false, .int .i64 0, .bool false, .bool false, .bool false, .bool false, .bool false, .bool false, .bool false, .str ⟨#[]⟩, .int .i64 0, .int .i64 0, .int .i64 0, .int .i64 0, .int .i64 0, .bool false, .bool false, .bool false, .int .i64 0, .int .i64 0, .int .i64 0, .bool false, .bool false, .bool false, .bool false, .int .i64 0, .bool false, .int .i64 0, .bool false, .bool false, .int .i64 0, .bool false, .bool false, .bool false, .bool false, .bool false, .bool false, .bool false, .str ⟨#[]⟩, .int .i64 0, .int .i64 0, .int .i64 0, .int .i64 0, .int .i64 0, .bool false, .bool false, .bool false, .int .i64 0, .int .i64 0, .int .i64 0, .bool false, .bool false, .bool false, .bool false, .int .i64 0, .bool false, .int .i64 0, .bool false, .bool false, .int .i64 0, .bool false, .bool false, .bool false, .bool false, .bool false, .bool false, .bool false, .str ⟨#[]⟩, .int .i64 0, .int .i64 0, .int .i64 0, .int .i64 0, .int .i64 0, .bool false, .bool false, .bool false, .int .i64 0, .int .i64 0, .int .i64 0, .bool false, .bool false, .bool false, .bool false, .int .i64 0, .bool false, .int .i64 0, .bool false, .bool false, .int .i64 0, .bool false, .bool false, .bool false, .bool false, .bool false, .bool false, .bool false, .str ⟨#[]⟩, .int .i64 0, .int .i64 0, .int .i64 0, .int .i64 0, .int .i64 0, .bool false, .bool false, .bool false, .int .i64 0, .int .i64 0, .int .i64 0, .bool false, .bool false, .bool false, .bool false, .int .i64 0, .bool false, .int .i64 0, .bool false, .bool false, .int .i64 0, .bool false, .bool false, .bool false, .bool false, .bool false, .bool false, .bool false, .str ⟨#[]⟩, .int .i64 0, .int .i64 0, .int .i64 0, .int .i64 0, .int .i64 0, .bool false, .bool false, .bool false, .int .i64 0, .int .i64 0, .int .i64 0, .bool false, .bool false, .bool false, .bool false, .int .i64 0, .bool false, .int .i64 0, .bool false, .bool false, .int .i64 0, .bool false, .bool false, .bool false, .bool false, .bool false, .bool false, .bool false, .str ⟨#[]⟩, .int .i64 0, .int .i64 0, .int .i64 0, .int .i64 0, .int .i64 0, .bool false, .bool false, .bool false, .int .i64 0, .int .i64 0, .int .i64 0, .bool false, .bool false, .bool false, .bool false, .int .i64 0, .bool false, .int .i64 0, .bool false, .bool false, .int .i64 0, .bool false, .bool false, .bool false, .bool false, .bool false, .bool false, .bool false]
def V33 : List Value := [(.string ⟨#[]⟩), (.slice none 0 0), (.bool false), (.slice none 0 0), (.bool false), (.int .i64 0), (.int .i64 0), (.bool false), (.int .i64 0), (.int .i64 0), (.bool false), (.slice none 0 0), (.bool false), (.int .i64 0), (.int .i64 0), (.bool false), (.int .i64 0), (.int .i64 0), (.bool false), (.slice none 0 0), (.bool false), (.int .i64 0), (.int .i64 0), (.bool false), (.int .i64 0), (.int .i64 0), (.int .i64 0), (.int .i64 0), (.int .i64 0), (.int .i64 0), (.int .i64 0), (.int .i64 0), (.int .i64 0)]
def V29 : List Value := [(.string ⟨#[]⟩), (.int .i64 0), (.int .i64 0), (.int .i64 0), (.int .i64 0), (.int .i64 0), (.bool false), (.bool false), (.bool false), (.int .i64 0), (.int .i64 0), (.int .i64 0), (.bool false), (.bool false), (.bool false), (.bool false), (.int .i64 0), (.bool false), (.int .i64 0), (.bool false), (.bool false), (.int .i64 0), (.bool false), (.bool false), (.bool false), (.bool false), (.bool false), (.bool false), (.bool false)]
def V256 : List Value := [(.bool false), (.bool false), (.bool false), (.bool false), (.bool false), (.bool false), (.bool false), (.bool false), (.bool false), (.bool false), (.bool false), (.bool false), (.bool false), (.bool false), (.bool false), (.bool false), (.bool false), (.bool false), (.bool false), (.bool false), (.bool false), (.bool false), (.bool false), (.bool false), (.bool false), (.bool false), (.bool false), (.bool false), (.bool false), (.bool false), (.bool false), (.bool false), (.bool false), (.bool false), (.bool false), (.bool false), (.bool false), (.bool false), (.bool false), (.bool false), (.bool false), (.bool false), (.bool false), (.bool false), (.bool false), (.bool false), (.bool false), (.bool false), (.bool false), (.bool false), (.bool false), (.bool false), (.bool false), (.bool false), (.bool false), (.bool false), (.bool false), (.bool false), (.bool false), (.bool false), (.bool false), (.bool false), (.bool false), (.bool false), (.bool false), (.bool false), (.bool false), (.bool false), (.bool false), (.bool false), (.bool false), (.bool false), (.bool false), (.bool false), (.bool false), (.bool false), (.bool false), (.bool false), (.bool false), (.bool false), (.bool false), (.bool false), (.bool false), (.bool false), (.bool false), (.bool false), (.bool false), (.bool false), (.bool false), (.bool false), (.bool false), (.bool false), (.bool false), (.bool false), (.bool false), (.bool false), (.bool false), (.bool false), (.bool false), (.bool false), (.bool false), (.bool false), (.bool false), (.bool false), (.bool false), (.bool false), (.bool false), (.bool false), (.bool false), (.bool false), (.bool false), (.bool false), (.bool false), (.bool false), (.bool false), (.bool false), (.bool false), (.bool false), (.bool false), (.bool false), (.bool false), (.bool false), (.bool false), (.bool false), (.bool false), (.bool false), (.bool false), (.bool false), (.bool false), (.bool false), (.bool false), (.bool false), (.bool false), (.bool false), (.bool false), (.bool false), (.bool false), (.bool false), (.bool false), (.bool false), (.bool false), (.bool false), (.bool false), (.bool false), (.bool false), (.bool false), (.bool false), (.bool false), (.bool false), (.bool false), (.bool false), (.bool false), (.bool false), (.bool false), (.bool false), (.bool false), (.bool false), (.bool false), (.bool false), (.bool false), (.bool false), (.bool false), (.bool false), (.bool false), (.bool false), (.bool false), (.bool false), (.bool false), (.bool false), (.bool false), (.bool false), (.bool false), (.bool false), (.bool false), (.bool false), (.bool false), (.bool false), (.bool false), (.bool false), (.bool false), (.bool false), (.bool false), (.bool false), (.bool false), (.bool false), (.bool false), (.bool false), (.bool false), (.bool false), (.bool false), (.bool false), (.bool false), (.bool false), (.bool false), (.bool false), (.bool false), (.bool false), (.bool false), (.bool false), (.bool false), (.bool false), (.bool false), (.bool false), (.bool false), (.bool false), (.bool false), (.bool false), (.bool false), (.bool false), (.bool false), (.bool false), (.bool false), (.bool false), (.bool false), (.bool false), (.bool false), (.bool false), (.bool false), (.bool false), (.bool false), (.bool false), (.bool false), (.bool false), (.bool false), (.bool false), (.bool false), (.bool false), (.bool false), (.bool false), (.bool false), (.bool false), (.bool false), (.bool false), (.bool false), (.bool false), (.bool false), (.bool false), (.bool false), (.bool false), (.bool false), (.bool false), (.bool false), (.bool false), (.bool false), (.bool false), (.bool false), (.bool false), (.bool false), (.bool false), (.bool false), (.bool false), (.bool false), (.bool false), (.bool false), (.bool false), (.bool false)]
def V42 : List Value := [(.string ⟨#[]⟩), (.int .i64 0), (.int .i64 0), (.slice none 0 0), (.int .i64 0), (.int .i64 0), (.int .i64 0), (.int .i64 0), (.bool false), (.slice none 0 0), (.slice none 0 0), (.slice none 0 0), (.slice none 0 0), (.string ⟨#[]⟩), (.int .i64 0), (.int .i64 0), (.int .i64 0), (.int .i64 0), (.int .i64 0), (.bool false), (.bool false), (.bool false), (.int .i64 0), (.int .i64 0), (.int .i64 0), (.bool false), (.bool false), (.bool false), (.bool false), (.int .i64 0), (.bool false), (.int .i64 0), (.bool false), (.bool false), (.int .i64 0), (.bool false), (.bool false), (.bool false), (.bool false), (.bool false), (.bool false), (.bool false)]
def V32 : List Value := [(.bool false), (.bool false), (.bool false), (.bool false), (.bool false), (.bool false), (.bool false), (.bool false), (.bool false), (.bool false), (.bool false), (.bool false), (.bool false), (.bool false), (.bool false), (.bool false), (.bool false), (.bool false), (.bool false), (.bool false), (.bool false), (.bool false), (.bool false), (.bool false), (.bool false), (.bool false), (.bool false), (.bool false), (.bool false), (.bool false), (.bool false), (.bool false)]
def V203 : List Value := [(.string ⟨#[]⟩), (.int .i64 0), (.int .i64 0), (.int .i64 0), (.int .i64 0), (.int .i64 0), (.bool false), (.bool false), (.bool false), (.int .i64 0), (.int .i64 0), (.int .i64 0), (.bool false), (.bool false), (.bool false), (.bool false), (.int .i64 0), (.bool false), (.int .i64 0), (.bool false), (.bool false), (.int .i64 0), (.bool false), (.bool false), (.bool false), (.bool false), (.bool false), (.bool false), (.bool false), (.string ⟨#[]⟩), (.int .i64 0), (.int .i64 0), (.int .i64 0), (.int .i64 0), (.int .i64 0), (.bool false), (.bool false), (.bool false), (.int .i64 0), (.int .i64 0), (.int .i64 0), (.bool false), (.bool false), (.bool false), (.bool false), (.int .i64 0), (.bool false), (.int .i64 0), (.bool false), (.bool false), (.int .i64 0), (.bool false), (.bool false), (.bool false), (.bool false), (.bool false), (.bool false), (.bool false), (.string ⟨#[]⟩), (.int .i64 0), (.int .i64 0), (.int .i64 0), (.int .i64 0), (.int .i64 0), (.bool false), (.bool false), (.bool false), (.int .i64 0), (.int .i64 0), (.int .i64 0), (.bool false), (.bool false), (.bool false), (.bool false), (.int .i64 0), (.bool false), (.int .i64 0), (.bool false), (.bool false), (.int .i64 0), (.bool false), (.bool false), (.bool false), (.bool false), (.bool false), (.bool false), (.bool false), (.string ⟨#[]⟩), (.int .i64 0), (.int .i64 0), (.int .i64 0), (.int .i64 0), (.int .i64 0), (.bool false), (.bool false), (.bool false), (.int .i64 0), (.int .i64 0), (.int .i64 0), (.bool false), (.bool false), (.bool false), (.bool false), (.int .i64 0), (.bool false), (.int .i64 0), (.bool false), (.bool false), (.int .i64 0), (.bool false), (.bool false), (.bool false), (.bool false), (.bool false), (.bool false), (.bool false), (.string ⟨#[]⟩), (.int .i64 0), (.int .i64 0), (.int .i64 0), (.int .i64 0), (.int .i64 0), (.bool false), (.bool false), (.bool false), (.int .i64 0), (.int .i64 0), (.int .i64 0), (.bool false), (.bool false), (.bool false), (.bool false), (.int .i64 0), (.bool false), (.int .i64 0), (.bool false), (.bool false), (.int .i64 0), (.bool false), (.bool false), (.bool false), (.bool false), (.bool false), (.bool false), (.bool false), (.string ⟨#[]⟩), (.int .i64 0), (.int .i64 0), (.int .i64 0), (.int .i64 0), (.int .i64 0), (.bool false), (.bool false), (.bool false), (.int .i64 0), (.int .i64 0), (.int .i64 0), (.bool false), (.bool false), (.bool false), (.bool false), (.int .i64 0), (.bool false), (.int .i64 0), (.bool false), (.bool false), (.int .i64 0), (.bool false), (.bool false), (.bool false), (.bool false), (.bool false), (.bool false), (.bool false), (.string ⟨#[]⟩), (.int .i64 0), (.int .i64 0), (.int .i64 0), (.int .i64 0), (.int .i64 0), (.bool false), (.bool false), (.bool false), (.int .i64 0), (.int .i64 0), (.int .i64 0), (.bool false), (.bool false), (.bool false), (.bool false), (.int .i64 0), (.bool false), (.int .i64 0), (.bool false), (.bool false), (.int .i64 0), (.bool false), (.bool false), (.bool false), (.bool false), (.bool false), (.bool false), (.bool false)]
def SA13 : List FS := [.keep, .keep, .keep, (.flat 1), .keep, .keep, .keep, .keep, .keep, (.flat 1), (.sl 2 [.keep, (.flat 6)]), (.sl 13 [.keep, (.flat 1), .keep, .keep, .keep, .keep, .keep, .keep, .keep, .keep, .keep, .keep, .keep]), (.sl 33 [.keep, (.flat 2), .keep, (.flat 2), .keep, .keep, .keep, .keep, .keep, .keep, .keep, (.flat 2), .keep, .keep, .keep, .keep, .keep, .keep, .keep, (.flat 2), .keep, .keep, .keep, .keep, .keep, .keep, .keep, .keep, .keep, .keep, .keep, .keep, .keep])]
def SA33 : List FS := [.keep, (.flat 2), .keep, (.flat 2), .keep, .keep, .keep, .keep, .keep, .keep, .keep, (.flat 2), .keep, .keep, .keep, .keep, .keep, .keep, .keep, (.flat 2), .keep, .keep, .keep, .keep, .keep, .keep, .keep, .keep, .keep, .keep, .keep, .keep, .keep]
def SS13 : List FS := [.keep, (.flat 1), .keep, .keep, .keep, .keep, .keep, .keep, .keep, .keep, .keep, .keep, .keep]
def SA42 : List FS := [.keep, .keep, .keep, (.flat 1), .keep, .keep, .keep, .keep, .keep, (.flat 1), (.sl 2 [.keep, (.flat 6)]), (.sl 13 [.keep, (.flat 1), .keep, .keep, .keep, .keep, .keep, .keep, .keep, .keep, .keep, .keep, .keep]), (.sl 33 [.keep, (.flat 2), .keep, (.flat 2), .keep, .keep, .keep, .keep, .keep, .keep, .keep, (.flat 2), .keep, .keep, .keep, .keep, .keep, .keep, .keep, (.flat 2), .keep, .keep, .keep, .keep, .keep, .keep, .keep, .keep, .keep, .keep, .keep, .keep, .keep]), .keep, .keep, .keep, .keep, .keep, .keep, .keep, .keep, .keep, .keep, .keep, .keep, .keep, .keep, .keep, .keep, .keep, .keep, .keep, .keep, .keep, .keep, .keep, .keep, .keep, .keep, .keep, .keep, .keep]
open Go.Vm.G in
def A6 : PFun := ⟨3, 82, (S (R <| o 3 (.box 27 (t 0)) <| o 6 (.move (.const (.bool false))) <| z) <|
  (S (S (R <| o 19 (.load true 13 (t 3)) <| o 20 (.call 7 [(t 19)]) <| o 21 (.un .not (t 20)) <| z) <|
  (.cond (t 21) [] [6, 22]
  (S (R <| o 22 (.call 8 []) <| m 6 22 <| z) <|
  .ret)
  .skip)) <|
  (S (R <| o 24 (.load true 13 (t 3)) <| o 25 (.call 19 [(t 24)]) <| m 23 25 <| o 26 (.extract (t 23) 0) <| o 27 (.extract (t 23) 1) <| o 28 (.extract (t 23) 2) <| o 29 (.extract (t 23) 3) <| m 7 26 <| m 8 27 <| m 9 28 <| m 10 29 <| z) <|
  (S (R <| o 31 (.load true 13 (t 3)) <| o 32 (.call 20 [(t 31)]) <| m 30 32 <| o 33 (.extract (t 30) 0) <| o 34 (.extract (t 30) 1) <| o 35 (.extract (t 30) 2) <| o 36 (.extract (t 30) 3) <| m 11 33 <| m 12 34 <| m 13 35 <| m 14 36 <| z) <|
  (S (R <| o 38 (.load true 13 (t 3)) <| m 39 1 <| m 40 2 <| o 41 (.call 21 [(t 38), (t 39), (t 40)]) <| m 37 41 <| o 42 (.extract (t 37) 0) <| o 43 (.extract (t 37) 1) <| m 15 42 <| m 16 43 <| z) <|
  (S (R <| o 45 (.load true 13 (t 3)) <| m 46 1 <| m 47 2 <| o 48 (.call 22 [(t 45), (t 46), (t 47)]) <| m 44 48 <| o 49 (.extract (t 44) 0) <| o 50 (.extract (t 44) 1) <| m 17 49 <| m 18 50 <| z) <|
  (S (R <| m 51 10 <| m 52 14 <| b 53 .eql (t 51) (t 52) <| m 54 53 <| q 58 54 true [55, 56, 57] (m 55 7 <| m 56 11 <| o 57 (.call 23 [(t 55), (t 56)]) <| z) (t 57) <|
  m 59 58 <| q 63 59 true [60, 61, 62] (m 60 8 <| m 61 12 <| o 62 (.call 23 [(t 60), (t 61)]) <| z) (t 62) <|
  m 64 63 <| q 68 64 true [65, 66, 67] (m 65 9 <| m 66 13 <| o 67 (.call 23 [(t 65), (t 66)]) <| z) (t 67) <|
  m 69 68 <| q 73 69 true [70, 71, 72] (m 70 15 <| m 71 17 <| b 72 .eql (t 70) (t 71) <| z) (t 72) <|
  m 74 73 <| q 78 74 true [75, 76, 77] (m 75 16 <| m 76 18 <| b 77 .eql (t 75) (t 76) <| z) (t 77) <|
  m 79 78 <| q 81 79 true [80] (o 80 (.call 8 []) <| z) (t 80) <|
  m 6 81 <| z) <|
  .ret))))))), [.tmp 6], [.keep]⟩
theorem ok6 : ∃ fn c, FunOk Tryz.prog 6 fn c A6.erase := ⟨Tryz.f6, _, ⟨Tryz.func6, rfl, by kernel_rfl, by kernel_rfl, by kernel_rfl, of_decide_eq_true (by kernel_rfl), by kernel_rfl⟩⟩
noncomputable def s6 (Γ : PCallee) (n : Nat) (x0 : PV) (x1 : PV) (x2 : PV) (h : PHeap) : Pt := forkP (.ptr h.length 0) (h ++ [.box (cellsP x0) 27 .rw]) fun v0 h1 => (loadP true 13 v0 h1).bind fun v2 => (Γ 7 [v2] h1).bind fun p3 => (unP .not p3.1).bind fun v4 => KL (fun w6 h7 => (loadP true 13 v0 h7).bind fun v8 => (Γ 19 [v8] h7).bind fun p9 => (extractP p9.1 0).bind fun v10 => (extractP p9.1 1).bind fun v11 => (extractP p9.1 2).bind fun v12 => (extractP p9.1 3).bind fun v13 => (loadP true 13 v0 p9.2).bind fun v14 => (Γ 20 [v14] p9.2).bind fun p15 => (extractP p15.1 0).bind fun v16 => (extractP p15.1 1).bind fun v17 => (extractP p15.1 2).bind fun v18 => (extractP p15.1 3).bind fun v19 => (loadP true 13 v0 p15.2).bind fun v20 => (Γ 21 [v20, x1, x2] p15.2).bind fun p21 => (extractP p21.1 0).bind fun v22 => (extractP p21.1 1).bind fun v23 => (loadP true 13 v0 p21.2).bind fun v24 => (Γ 22 [v24, x1, x2] p21.2).bind fun p25 => (extractP p25.1 0).bind fun v26 => (extractP p25.1 1).bind fun v27 => (binP .eql v13 v19).bind fun v28 => K1 (fun v30 h31 => K1 (fun v33 h34 => K1 (fun v36 h37 => K1 (fun v39 h40 => K1 (fun v42 h43 => K1 (fun v45 h46 => finP [.keep] h h46 [v45]) fun j44 => scP v42 true ( (Γ 8 [] h43).bind fun p47 => j44 p47.1 p47.2) (j44 (.bool false) h43)) fun j41 => scP v39 true ( (binP .eql v23 v27).bind fun v48 => j41 v48 h40) (j41 (.bool false) h40)) fun j38 => scP v36 true ( (binP .eql v22 v26).bind fun v49 => j38 v49 h37) (j38 (.bool false) h37)) fun j35 => scP v33 true ( (Γ 23 [v12, v18] h34).bind fun p50 => j35 p50.1 p50.2) (j35 (.bool false) h34)) fun j32 => scP v30 true ( (Γ 23 [v11, v17] h31).bind fun p51 => j32 p51.1 p51.2) (j32 (.bool false) h31)) fun j29 => scP v28 true ( (Γ 23 [v10, v16] p25.2).bind fun p52 => j29 p52.1 p52.2) (j29 (.bool false) p25.2)) fun j5 => ifP v4 ( (Γ 8 [] p3.2).bind fun p53 => finP [.keep] h p53.2 [p53.1]) ( j5 [] p3.2)
theorem s6_eq (Γ : PCallee) (n : Nat) (x0 : PV) (x1 : PV) (x2 : PV) (h : PHeap) : pfunK Γ n A6 [x0, x1, x2] h = s6 Γ n x0 x1 x2 h := by kernel_rfl
open Go.Vm.G in
def A7 : PFun := ⟨1, 88, (S (R <| o 1 (.box 27 (t 0)) <| o 2 (.move (.const (.bool false))) <| z) <|
  (S (R <| f 10 3 1 <| l 11 10 <| o 12 (.len false (t 11)) <| f 13 9 1 <| l 14 13 <| o 15 (.len false (t 14)) <| b 16 .add (t 12) (t 15) <| f 17 0 1 <| l 18 17 <| o 19 (.len true (t 18)) <| b 20 .add (t 16) (t 19) <| m 3 20 <| z) <|
  (S (S (R <| f 21 10 1 <| l 22 21 <| o 23 (.len false (t 22)) <| o 24 (.move (i 0)) <| z) <|
  (.block 0 [3] ([5] ++ g 24 11)
  (.loop [3, 24] ([5] ++ g 25 10)
  (S (R <| b 25 .lss (t 24) (t 23) <| z) <|
  (S (.cond (t 25) [] []
  .skip
  (.exit 0)) <|
  (S (.block 1 [3] ([5] ++ g 26 8)
  (S (R <| o 26 (.indexAddr 2 (t 22) (t 24)) <| o 27 (.load true 2 (t 26)) <| o 5 (.new 39 [(.int .i64 0), (.slice none 0 0)]) <| n (.store 2 (t 5) (t 27)) <| z) <|
  (R <| m 28 3 <| f 29 1 5 <| l 30 29 <| o 31 (.len false (t 30)) <| b 32 .add (i 1) (t 31) <| b 33 .add (t 28) (t 32) <| m 3 33 <| z))) <|
  (R <| b 34 .add (t 24) (i 1) <| m 24 34 <| z))))))) <|
  (S (S (R <| f 35 11 1 <| l 36 35 <| o 37 (.len false (t 36)) <| o 38 (.move (i 0)) <| z) <|
  (.block 2 [3] ([7] ++ g 38 15)
  (.loop [3, 38] ([7] ++ g 39 14)
  (S (R <| b 39 .lss (t 38) (t 37) <| z) <|
  (S (.cond (t 39) [] []
  .skip
  (.exit 2)) <|
  (S (.block 3 [3] ([7] ++ g 40 12)
  (S (R <| o 40 (.indexAddr 13 (t 36) (t 38)) <| o 41 (.load true 13 (t 40)) <| o 7 (.new 43 [(.string ⟨#[]⟩), (.slice none 0 0), (.int .i64 0), (.int .i64 0), (.int .i64 0), (.int .i64 0), (.int .i64 0), (.int .i64 0), (.int .i64 0), (.int .i64 0), (.int .i64 0), (.int .i64 0), (.int .i64 0)]) <| n (.store 13 (t 7) (t 41)) <| z) <|
  (R <| m 42 3 <| f 43 1 7 <| l 44 43 <| o 45 (.len false (t 44)) <| b 46 .add (i 1) (t 45) <| f 47 0 7 <| l 48 47 <| o 49 (.len true (t 48)) <| b 50 .add (t 46) (t 49) <| b 51 .add (t 42) (t 50) <| m 3 51 <| z))) <|
  (R <| b 52 .add (t 38) (i 1) <| m 38 52 <| z))))))) <|
  (S (S (R <| f 53 12 1 <| l 54 53 <| o 55 (.len false (t 54)) <| o 56 (.move (i 0)) <| z) <|
  (.block 4 [3] ([9] ++ g 56 30)
  (.loop [3, 56] ([9] ++ g 57 29)
  (S (R <| b 57 .lss (t 56) (t 55) <| z) <|
  (S (.cond (t 57) [] []
  .skip
  (.exit 4)) <|
  (S (.block 5 [3] ([9] ++ g 58 27)
  (S (R <| o 58 (.indexAddr 33 (t 54) (t 56)) <| o 59 (.load true 33 (t 58)) <| o 9 (.new 57 V33) <| n (.store 33 (t 9) (t 59)) <| z) <|
  (R <| m 60 3 <| f 61 1 9 <| l 62 61 <| o 63 (.len false (t 62)) <| b 64 .add (i 1) (t 63) <| f 65 2 9 <| f 66 1 65 <| l 67 66 <| o 68 (.len false (t 67)) <| b 69 .add (t 64) (t 68) <| f 70 10 9 <| f 71 1 70 <| l 72 71 <| o 73 (.len false (t 72)) <| b 74 .add (t 69) (t 73) <| f 75 18 9 <| f 76 1 75 <| l 77 76 <| o 78 (.len false (t 77)) <| b 79 .add (t 74) (t 78) <| f 80 0 9 <| l 81 80 <| o 82 (.len true (t 81)) <| b 83 .add (t 79) (t 82) <| b 84 .add (t 60) (t 83) <| m 3 84 <| z))) <|
  (R <| b 85 .add (t 56) (i 1) <| m 56 85 <| z))))))) <|
  (S (R <| m 86 3 <| b 87 .leq (t 86) (i 60000) <| m 2 87 <| z) <|
  .ret)))))), [.tmp 2], [.keep]⟩
theorem ok7 : ∃ fn c, FunOk Tryz.prog 7 fn c A7.erase := ⟨Tryz.f7, _, ⟨Tryz.func7, rfl, by kernel_rfl, by kernel_rfl, by kernel_rfl, of_decide_eq_true (by kernel_rfl), by kernel_rfl⟩⟩
noncomputable def s7_L0 (Γ : PCallee) (n : Nat) (h24 : PHeap) (v26 : PV) (v27 : PV) (j28 : Kt) : (Kt) → Kt := fun c32 w33 h34 => (binP .lss (nthP w33 1) v27).bind fun v35 => KL (fun w37 h38 => KL (fun w40 h41 => (binP .add (nthP w33 1) (.int .i64 1 : PV)).bind fun v42 => c32 [(nthP w40 0), v42] (trim h24 [(nthP w40 0), v42] h41)) fun j39 => (indexAddrP 33 v26 (nthP w33 1)).bind fun v43 => (loadP true 33 v43 h38).bind fun v44 => forkP (.ptr h38.length 0) (h38 ++ [.box Z33 57 .rw]) fun v45 h46 => (storeP 33 v45 v44 h46).bind fun h47 => (fieldAddrP 1 v45).bind fun v48 => (loadP false 1 v48 h47).bind fun v49 => (lenP false v49).bind fun v50 => (binP .add (.int .i64 1 : PV) v50).bind fun v51 => (fieldAddrP 2 v45).bind fun v52 => (fieldAddrP 1 v52).bind fun v53 => (loadP false 1 v53 h47).bind fun v54 => (lenP false v54).bind fun v55 => (binP .add v51 v55).bind fun v56 => (fieldAddrP 10 v45).bind fun v57 => (fieldAddrP 1 v57).bind fun v58 => (loadP false 1 v58 h47).bind fun v59 => (lenP false v59).bind fun v60 => (binP .add v56 v60).bind fun v61 => (fieldAddrP 18 v45).bind fun v62 => (fieldAddrP 1 v62).bind fun v63 => (loadP false 1 v63 h47).bind fun v64 => (lenP false v64).bind fun v65 => (binP .add v61 v65).bind fun v66 => (fieldAddrP 0 v45).bind fun v67 => (loadP false 1 v67 h47).bind fun v68 => (lenP true v68).bind fun v69 => (binP .add v66 v69).bind fun v70 => (binP .add (nthP w33 0) v70).bind fun v71 => j39 [v71] h47) fun j36 => ifP v35 ( j36 [] h34) ( j28 [(nthP w33 0)] h34)
noncomputable def s7_L1 (Γ : PCallee) (n : Nat) (h18 : PHeap) (v20 : PV) (v21 : PV) (j22 : Kt) : (Kt) → Kt := fun c72 w73 h74 => (binP .lss (nthP w73 1) v21).bind fun v75 => KL (fun w77 h78 => KL (fun w80 h81 => (binP .add (nthP w73 1) (.int .i64 1 : PV)).bind fun v82 => c72 [(nthP w80 0), v82] (trim h18 [(nthP w80 0), v82] h81)) fun j79 => (indexAddrP 13 v20 (nthP w73 1)).bind fun v83 => (loadP true 13 v83 h78).bind fun v84 => forkP (.ptr h78.length 0) (h78 ++ [.box [.str ⟨#[]⟩, .nilS, .int .i64 0, .int .i64 0, .int .i64 0, .int .i64 0, .int .i64 0, .int .i64 0, .int .i64 0, .int .i64 0, .int .i64 0, .int .i64 0, .int .i64 0] 43 .rw]) fun v85 h86 => (storeP 13 v85 v84 h86).bind fun h87 => (fieldAddrP 1 v85).bind fun v88 => (loadP false 1 v88 h87).bind fun v89 => (lenP false v89).bind fun v90 => (binP .add (.int .i64 1 : PV) v90).bind fun v91 => (fieldAddrP 0 v85).bind fun v92 => (loadP false 1 v92 h87).bind fun v93 => (lenP true v93).bind fun v94 => (binP .add v91 v94).bind fun v95 => (binP .add (nthP w73 0) v95).bind fun v96 => j79 [v96] h87) fun j76 => ifP v75 ( j76 [] h74) ( j22 [(nthP w73 0)] h74)
noncomputable def s7_L2 (Γ : PCallee) (n : Nat) (h1 : PHeap) (v14 : PV) (v15 : PV) (j16 : Kt) : (Kt) → Kt := fun c97 w98 h99 => (binP .lss (nthP w98 1) v15).bind fun v100 => KL (fun w102 h103 => KL (fun w105 h106 => (binP .add (nthP w98 1) (.int .i64 1 : PV)).bind fun v107 => c97 [(nthP w105 0), v107] (trim h1 [(nthP w105 0), v107] h106)) fun j104 => (indexAddrP 2 v14 (nthP w98 1)).bind fun v108 => (loadP true 2 v108 h103).bind fun v109 => forkP (.ptr h103.length 0) (h103 ++ [.box [.int .i64 0, .nilS] 39 .rw]) fun v110 h111 => (storeP 2 v110 v109 h111).bind fun h112 => (fieldAddrP 1 v110).bind fun v113 => (loadP false 1 v113 h112).bind fun v114 => (lenP false v114).bind fun v115 => (binP .add (.int .i64 1 : PV) v115).bind fun v116 => (binP .add (nthP w98 0) v116).bind fun v117 => j104 [v117] h112) fun j101 => ifP v100 ( j101 [] h99) ( j16 [(nthP w98 0)] h99)
noncomputable def s7 (Γ : PCallee) (n : Nat) (x0 : PV) (h : PHeap) : Pt := forkP (.ptr h.length 0) (h ++ [.box (cellsP x0) 27 .rw]) fun v0 h1 => (fieldAddrP 3 v0).bind fun v2 => (loadP false 1 v2 h1).bind fun v3 => (lenP false v3).bind fun v4 => (fieldAddrP 9 v0).bind fun v5 => (loadP false 1 v5 h1).bind fun v6 => (lenP false v6).bind fun v7 => (binP .add v4 v7).bind fun v8 => (fieldAddrP 0 v0).bind fun v9 => (loadP false 1 v9 h1).bind fun v10 => (lenP true v10).bind fun v11 => (binP .add v8 v11).bind fun v12 => (fieldAddrP 10 v0).bind fun v13 => (loadP false 1 v13 h1).bind fun v14 => (lenP false v14).bind fun v15 => KL (fun w17 h18 => (fieldAddrP 11 v0).bind fun v19 => (loadP false 1 v19 h18).bind fun v20 => (lenP false v20).bind fun v21 => KL (fun w23 h24 => (fieldAddrP 12 v0).bind fun v25 => (loadP false 1 v25 h24).bind fun v26 => (lenP false v26).bind fun v27 => KL (fun w29 h30 => (binP .leq (nthP w29 0) (.int .i64 60000 : PV)).bind fun v31 => finP [.keep] h h30 [v31]) fun j28 => loopP (s7_L0 Γ n h24 v26 v27 j28) n [(nthP w23 0), (.int .i64 0 : PV)] h24) fun j22 => loopP (s7_L1 Γ n h18 v20 v21 j22) n [(nthP w17 0), (.int .i64 0 : PV)] h18) fun j16 => loopP (s7_L2 Γ n h1 v14 v15 j16) n [v12, (.int .i64 0 : PV)] h1
theorem s7_eq (Γ : PCallee) (n : Nat) (x0 : PV) (h : PHeap) : pfunK Γ n A7 [x0] h = s7 Γ n x0 h := by kernel_rfl
open Go.Vm.G in
def A8 : PFun := ⟨0, 50, (S (R <| o 0 (.move (.const (.bool false))) <| z) <|
  (S (R <| o 8 (.call 17 [(i 1), (i 4), (i 1)]) <| m 7 8 <| o 9 (.extract (t 7) 0) <| o 10 (.extract (t 7) 1) <| o 1 (.new 27 [(.string ⟨#[]⟩), (.int .i64 0), (.int .i64 0), (.slice none 0 0), (.int .i64 0), (.int .i64 0), (.int .i64 0), (.int .i64 0), (.bool false), (.slice none 0 0), (.slice none 0 0), (.slice none 0 0), (.slice none 0 0)]) <| n (.store 13 (t 1) (t 9)) <| m 2 10 <| z) <|
  (S (R <| o 11 (.load true 13 (t 1)) <| o 3 (.new 27 [(.string ⟨#[]⟩), (.int .i64 0), (.int .i64 0), (.slice none 0 0), (.int .i64 0), (.int .i64 0), (.int .i64 0), (.int .i64 0), (.bool false), (.slice none 0 0), (.slice none 0 0), (.slice none 0 0), (.slice none 0 0)]) <| n (.store 13 (t 3) (t 11)) <| z) <|
  (S (R <| f 12 8 3 <| n (.store 1 (t 12) (.const (.bool true))) <| z) <|
  (S (R <| o 14 (.load true 13 (t 3)) <| o 15 (.call 24 [(t 14)]) <| m 13 15 <| o 16 (.extract (t 13) 0) <| o 17 (.extract (t 13) 1) <| o 18 (.extract (t 13) 2) <| m 4 16 <| m 5 17 <| m 6 18 <| z) <|
  (S (R <| m 19 2 <| b 20 .eql (t 19) (i 0) <| m 21 20 <| q 24 21 true [22, 23] (o 22 (.load true 13 (t 1)) <| o 23 (.call 16 [(t 22)]) <| z) (t 23) <|
  m 25 24 <| q 30 25 true (g 26 4) (f 26 9 1 <| l 27 26 <| o 28 (.len false (t 27)) <| b 29 .eql (t 28) (i 4) <| z) (t 29) <|
  m 31 30 <| q 37 31 true (g 32 5) (f 32 9 1 <| l 33 32 <| o 34 (.indexAddr 1 (t 33) (i 1)) <| l 35 34 <| b 36 .eql (t 35) (i 256) <| z) (t 36) <|
  m 38 37 <| q 41 38 true [39, 40] (m 39 4 <| b 40 .eql (t 39) (.const (.string ⟨#[108, 105, 110, 101, 97, 114]⟩)) <| z) (t 40) <|
  m 42 41 <| q 45 42 true [43, 44] (m 43 5 <| b 44 .eql (t 43) (i 0) <| z) (t 44) <|
  m 46 45 <| q 49 46 true [47, 48] (m 47 6 <| b 48 .eql (t 47) (i 6) <| z) (t 48) <|
  m 0 49 <| z) <|
  .ret)))))), [.tmp 0], [.keep]⟩
theorem ok8 : ∃ fn c, FunOk Tryz.prog 8 fn c A8.erase := ⟨Tryz.f8, _, ⟨Tryz.func8, rfl, by kernel_rfl, by kernel_rfl, by kernel_rfl, of_decide_eq_true (by kernel_rfl), by kernel_rfl⟩⟩
noncomputable def s8 (Γ : PCallee) (n : Nat) (h : PHeap) : Pt := (Γ 17 [(.int .i64 1 : PV), (.int .i64 4 : PV), (.int .i64 1 : PV)] h).bind fun p0 => (extractP p0.1 0).bind fun v1 => (extractP p0.1 1).bind fun v2 => forkP (.ptr p0.2.length 0) (p0.2 ++ [.box [.str ⟨#[]⟩, .int .i64 0, .int .i64 0, .nilS, .int .i64 0, .int .i64 0, .int .i64 0, .int .i64 0, .bool false, .nilS, .nilS, .nilS, .nilS] 27 .rw]) fun v3 h4 => (storeP 13 v3 v1 h4).bind fun h5 => (loadP true 13 v3 h5).bind fun v6 => forkP (.ptr h5.length 0) (h5 ++ [.box [.str ⟨#[]⟩, .int .i64 0, .int .i64 0, .nilS, .int .i64 0, .int .i64 0, .int .i64 0, .int .i64 0, .bool false, .nilS, .nilS, .nilS, .nilS] 27 .rw]) fun v7 h8 => (storeP 13 v7 v6 h8).bind fun h9 => (fieldAddrP 8 v7).bind fun v10 => (storeP 1 v10 (.bool true : PV) h9).bind fun h11 => (loadP true 13 v7 h11).bind fun v12 => (Γ 24 [v12] h11).bind fun p13 => (extractP p13.1 0).bind fun v14 => (extractP p13.1 1).bind fun v15 => (extractP p13.1 2).bind fun v16 => (binP .eql v2 (.int .i64 0 : PV)).bind fun v17 => K1 (fun v19 h20 => K1 (fun v22 h23 => K1 (fun v25 h26 => K1 (fun v28 h29 => K1 (fun v31 h32 => K1 (fun v34 h35 => finP [.keep] h h35 [v34]) fun j33 => scP v31 true ( (binP .eql v16 (.int .i64 6 : PV)).bind fun v36 => j33 v36 h32) (j33 (.bool false) h32)) fun j30 => scP v28 true ( (binP .eql v15 (.int .i64 0 : PV)).bind fun v37 => j30 v37 h29) (j30 (.bool false) h29)) fun j27 => scP v25 true ( (binP .eql v14 (.str ⟨#[108, 105, 110, 101, 97, 114]⟩ : PV)).bind fun v38 => j27 v38 h26) (j27 (.bool false) h26)) fun j24 => scP v22 true ( (fieldAddrP 9 v3).bind fun v39 => (loadP false 1 v39 h23).bind fun v40 => (indexAddrP 1 v40 (.int .i64 1 : PV)).bind fun v41 => (loadP false 1 v41 h23).bind fun v42 => (binP .eql v42 (.int .i64 256 : PV)).bind fun v43 => j24 v43 h23) (j24 (.bool false) h23)) fun j21 => scP v19 true ( (fieldAddrP 9 v3).bind fun v44 => (loadP false 1 v44 h20).bind fun v45 => (lenP false v45).bind fun v46 => (binP .eql v46 (.int .i64 4 : PV)).bind fun v47 => j21 v47 h20) (j21 (.bool false) h20)) fun j18 => scP v17 true ( (loadP true 13 v3 p13.2).bind fun v48 => (Γ 16 [v48] p13.2).bind fun p49 => j18 p49.1 p49.2) (j18 (.bool false) p13.2)
theorem s8_eq (Γ : PCallee) (n : Nat) (h : PHeap) : pfunK Γ n A8 [] h = s8 Γ n h := by kernel_rfl
open Go.Vm.G in
def A16 : PFun := ⟨1, 14, (S (R <| o 1 (.box 27 (t 0)) <| o 2 (.move (.const (.bool false))) <| z) <|
  (S (R <| o 7 (.load true 13 (t 1)) <| o 8 (.call 24 [(t 7)]) <| m 6 8 <| o 9 (.extract (t 6) 0) <| o 10 (.extract (t 6) 1) <| o 11 (.extract (t 6) 2) <| m 3 9 <| m 4 10 <| m 5 11 <| z) <|
  (S (R <| m 12 5 <| b 13 .eql (t 12) (i 0) <| m 2 13 <| z) <|
  .ret))), [.tmp 2], [.keep]⟩
theorem ok16 : ∃ fn c, FunOk Tryz.prog 16 fn c A16.erase := ⟨Tryz.f16, _, ⟨Tryz.func16, rfl, by kernel_rfl, by kernel_rfl, by kernel_rfl, of_decide_eq_true (by kernel_rfl), by kernel_rfl⟩⟩
noncomputable def s16 (Γ : PCallee) (n : Nat) (x0 : PV) (h : PHeap) : Pt := forkP (.ptr h.length 0) (h ++ [.box (cellsP x0) 27 .rw]) fun v0 h1 => (loadP true 13 v0 h1).bind fun v2 => (Γ 24 [v2] h1).bind fun p3 => (extractP p3.1 0).bind fun v4 => (extractP p3.1 1).bind fun v5 => (extractP p3.1 2).bind fun v6 => (binP .eql v6 (.int .i64 0 : PV)).bind fun v7 => finP [.keep] h p3.2 [v7]
theorem s16_eq (Γ : PCallee) (n : Nat) (x0 : PV) (h : PHeap) : pfunK Γ n A16 [x0] h = s16 Γ n x0 h := by kernel_rfl
open Go.Vm.G in
def A17 : PFun := ⟨3, 82, (S (R <| o 6 (.new 27 [(.string ⟨#[]⟩), (.int .i64 0), (.int .i64 0), (.slice none 0 0), (.int .i64 0), (.int .i64 0), (.int .i64 0), (.int .i64 0), (.bool false), (.slice none 0 0), (.slice none 0 0), (.slice none 0 0), (.slice none 0 0)]) <| o 7 (.move (i 0)) <| z) <|
  (S (R <| m 17 0 <| o 18 (.call 53 [(t 17)]) <| m 16 18 <| o 19 (.extract (t 16) 0) <| o 20 (.extract (t 16) 1) <| o 8 (.new 83 V29) <| n (.store 29 (t 8) (t 19)) <| m 9 20 <| z) <|
  (S (.block 0 [] ([7] ++ g 21 17)
  (S (R <| m 22 9 <| b 23 .neq (t 22) (i 0) <| m 21 23 <| z) <|
  (.cond (t 21) [] ([7] ++ g 24 14)
  (S (R <| o 24 (.build [(.string ⟨#[]⟩), (.int .i64 0), (.int .i64 0), (.slice none 0 0), (.int .i64 0), (.int .i64 0), (.int .i64 0), (.int .i64 0), (.bool false), (.slice none 0 0), (.slice none 0 0), (.slice none 0 0), (.slice none 0 0)] []) <| m 25 9 <| n (.store 13 (t 6) (t 24)) <| m 7 25 <| z) <|
  .ret)
  (S (R <| m 27 1 <| f 28 1 8 <| l 29 28 <| o 30 (.call 54 [(t 27), (i 1), (t 29)]) <| o 31 (.un .not (t 30)) <| m 32 31 <| q 36 32 false [33, 34, 35] (m 33 2 <| o 34 (.call 54 [(t 33), (i 1), (i 32)]) <| o 35 (.un .not (t 34)) <| z) (t 35) <|
  m 26 36 <| z) <|
  (.cond (t 26) [] [7, 37]
  (S (R <| o 37 (.build [(.string ⟨#[]⟩), (.int .i64 0), (.int .i64 0), (.slice none 0 0), (.int .i64 0), (.int .i64 0), (.int .i64 0), (.int .i64 0), (.bool false), (.slice none 0 0), (.slice none 0 0), (.slice none 0 0), (.slice none 0 0)] []) <| n (.store 13 (t 6) (t 37)) <| o 7 (.move (i 5)) <| z) <|
  .ret)
  .skip))))) <|
  (S (R <| m 38 0 <| m 39 1 <| f 40 8 8 <| l 41 40 <| o 42 (.build [(.string ⟨#[]⟩), (.int .i64 0), (.int .i64 0), (.slice none 0 0), (.int .i64 0), (.int .i64 0), (.int .i64 0), (.int .i64 0), (.bool false), (.slice none 0 0), (.slice none 0 0), (.slice none 0 0), (.slice none 0 0)] [(1, 1, (t 38)), (2, 1, (t 39)), (5, 1, (i 6)), (6, 1, (i 125)), (7, 1, (i 128)), (8, 1, (t 41))]) <| o 10 (.new 27 [(.string ⟨#[]⟩), (.int .i64 0), (.int .i64 0), (.slice none 0 0), (.int .i64 0), (.int .i64 0), (.int .i64 0), (.int .i64 0), (.bool false), (.slice none 0 0), (.slice none 0 0), (.slice none 0 0), (.slice none 0 0)]) <| n (.store 13 (t 10) (t 42)) <| z) <|
  (S (S (R <| m 43 1 <| o 44 (.move (i 0)) <| z) <|
  (.block 1 [] ([11, 12] ++ g 44 15)
  (.loop [44] ([11, 12] ++ g 45 14)
  (S (R <| b 45 .lss (t 44) (t 43) <| z) <|
  (S (.cond (t 45) [] []
  .skip
  (.exit 1)) <|
  (S (.block 2 [] ([11, 12] ++ g 46 12)
  (S (R <| m 46 44 <| m 11 46 <| z) <|
  (S (R <| o 12 (.move (i 128)) <| z) <|
  (S (S (R <| m 47 0 <| b 48 .eql (t 47) (i 1) <| z) <|
  (.cond (t 48) [12] [49, 50, 51]
  (R <| o 49 (.build [(.int .i64 0), (.int .i64 0), (.int .i64 0), (.int .i64 0)] [(0, 1, (i 0)), (1, 1, (i 256)), (2, 1, (i 256)), (3, 1, (i 0))]) <| m 50 11 <| o 51 (.indexArr 4 false 1 (t 49) (t 50)) <| m 12 51 <| z)
  .skip)) <|
  (R <| f 52 9 10 <| l 53 52 <| m 54 12 <| (.op (some 55) (.buildF 3 [(.int .i64 0)] 1 [(0, 1, (t 54))]) false <| o 56 (.append 3 1 (t 53) (t 55)) <| f 57 9 10 <| n (.store 1 (t 57) (t 56)) <| z)))))) <|
  (R <| b 58 .add (t 44) (i 1) <| m 44 58 <| z))))))) <|
  (S (S (R <| m 59 2 <| o 60 (.move (i 0)) <| z) <|
  (.block 3 [] ([13, 14, 15] ++ g 60 21)
  (.loop [60] ([13, 14, 15] ++ g 61 20)
  (S (R <| b 61 .lss (t 60) (t 59) <| z) <|
  (S (.cond (t 61) [] []
  .skip
  (.exit 3)) <|
  (S (.block 4 [] ([13, 14, 15] ++ g 62 18)
  (S (R <| m 62 60 <| m 13 62 <| z) <|
  (S (R <| m 64 1 <| o 65 (.call 55 [(i 64), (t 64)]) <| m 63 65 <| o 66 (.extract (t 63) 0) <| o 67 (.extract (t 63) 1) <| o 14 (.new 39 [(.int .i64 0), (.slice none 0 0)]) <| n (.store 2 (t 14) (t 66)) <| m 15 67 <| z) <|
  (D <| f 68 10 10 <| l 69 68 <| o 70 (.load true 2 (t 14)) <| (.op (some 71) (.buildF 39 [(.int .i64 0), (.slice none 0 0)] 1 [(0, 2, (t 70))]) false <| O 72 (.append 39 2 (t 69) (t 71)) <| f 73 3 10 <| l 74 73 <| m 75 13 <| (.op (some 76) (.buildF 3 [(.int .i64 0)] 1 [(0, 1, (t 75))]) false <| o 77 (.append 3 1 (t 74) (t 76)) <| f 78 10 10 <| n (.store 1 (t 78) (t 72)) <| f 79 3 10 <| n (.store 1 (t 79) (t 77)) <| z)))))) <|
  (R <| b 80 .add (t 60) (i 1) <| m 60 80 <| z))))))) <|
  (S (R <| o 81 (.load true 13 (t 10)) <| n (.store 13 (t 6) (t 81)) <| o 7 (.move (i 0)) <| z) <|
  .ret))))))), [.cell 6 true 13, .tmp 7], [(.agg SA13), .keep]⟩
theorem ok17 : ∃ fn c, FunOk Tryz.prog 17 fn c A17.erase := ⟨Tryz.f17, _, ⟨Tryz.func17, rfl, by kernel_rfl, by kernel_rfl, by kernel_rfl, of_decide_eq_true (by kernel_rfl), by kernel_rfl⟩⟩
noncomputable def s17_L0 (Γ : PCallee) (n : Nat) (x1 : PV) (x2 : PV) (v14 : PV) (h19 : PHeap) (j20 : Kt) : (Kt) → Kt := fun c26 w27 h28 => (binP .lss (nthP w27 0) x2).bind fun v29 => KL (fun w31 h32 => KL (fun w34 h35 => (binP .add (nthP w27 0) (.int .i64 1 : PV)).bind fun v36 => c26 [v36] (trim h19 [v36] h35)) fun j33 => (Γ 55 [(.int .i64 64 : PV), x1] h32).bind fun p37 => (extractP p37.1 0).bind fun v38 => (extractP p37.1 1).bind fun v39 => forkP (.ptr p37.2.length 0) (p37.2 ++ [.box [.int .i64 0, .nilS] 39 .rw]) fun v40 h41 => (storeP 2 v40 v38 h41).bind fun h42 => (fieldAddrP 10 v14).bind fun v43 => (loadP false 1 v43 h42).bind fun v44 => (loadP true 2 v40 h42).bind fun v45 => (fillP (repP [.int .i64 0, .nilS] 1) [(0, 2, v45)]).bind fun l46 => guardP (l46.all pure1) ( forkP (.frz 2 (chunk 2 1 l46)) (h42) fun v47 h48 => (appendP 39 2 v44 v47 (lock h48)).bind fun p49 => unl h48 p49.2 fun h50 => (fieldAddrP 3 v14).bind fun v51 => (loadP false 1 v51 h50).bind fun v52 => (fillP (repP [.int .i64 0] 1) [(0, 1, (nthP w27 0))]).bind fun l53 => guardP (l53.all pure1) ( forkP (.frz 1 (chunk 1 1 l53)) (h50) fun v54 h55 => (appendP 3 1 v52 v54 h55).bind fun p56 => (fieldAddrP 10 v14).bind fun v57 => (storeP 1 v57 p49.1 p56.2).bind fun h58 => (fieldAddrP 3 v14).bind fun v59 => (storeP 1 v59 p56.1 h58).bind fun h60 => j33 [] h60))) fun j30 => ifP v29 ( j30 [] h28) ( j20 [] h28)
noncomputable def s17_L1 (Γ : PCallee) (n : Nat) (x0 : PV) (x1 : PV) (v14 : PV) (h16 : PHeap) (j17 : Kt) : (Kt) → Kt := fun c61 w62 h63 => (binP .lss (nthP w62 0) x1).bind fun v64 => KL (fun w66 h67 => KL (fun w69 h70 => (binP .add (nthP w62 0) (.int .i64 1 : PV)).bind fun v71 => c61 [v71] (trim h16 [v71] h70)) fun j68 => (binP .eql x0 (.int .i64 1 : PV)).bind fun v72 => KL (fun w74 h75 => (fieldAddrP 9 v14).bind fun v76 => (loadP false 1 v76 h75).bind fun v77 => (fillP (repP [.int .i64 0] 1) [(0, 1, (nthP w74 0))]).bind fun l78 => guardP (l78.all pure1) ( forkP (.frz 1 (chunk 1 1 l78)) (h75) fun v79 h80 => (appendP 3 1 v77 v79 h80).bind fun p81 => (fieldAddrP 9 v14).bind fun v82 => (storeP 1 v82 p81.1 p81.2).bind fun h83 => j68 [] h83)) fun j73 => ifP v72 ( (fillP [.int .i64 0, .int .i64 0, .int .i64 0, .int .i64 0] [(0, 1, (.int .i64 0 : PV)), (1, 1, (.int .i64 256 : PV)), (2, 1, (.int .i64 256 : PV)), (3, 1, (.int .i64 0 : PV))]).bind fun l84 => (indexArrP 4 false 1 (PV.agg l84) (nthP w62 0)).bind fun v85 => j73 [v85] h67) ( j73 [(.int .i64 128 : PV)] h67)) fun j65 => ifP v64 ( j65 [] h63) ( j17 [] h63)
noncomputable def s17 (Γ : PCallee) (n : Nat) (x0 : PV) (x1 : PV) (x2 : PV) (h : PHeap) : Pt := forkP (.ptr h.length 0) (h ++ [.box [.str ⟨#[]⟩, .int .i64 0, .int .i64 0, .nilS, .int .i64 0, .int .i64 0, .int .i64 0, .int .i64 0, .bool false, .nilS, .nilS, .nilS, .nilS] 27 .rw]) fun v0 h1 => (Γ 53 [x0] h1).bind fun p2 => (extractP p2.1 0).bind fun v3 => (extractP p2.1 1).bind fun v4 => forkP (.ptr p2.2.length 0) (p2.2 ++ [.box Z29 83 .rw]) fun v5 h6 => (storeP 29 v5 v3 h6).bind fun h7 => KL (fun w9 h10 => (fieldAddrP 8 v5).bind fun v11 => (loadP false 1 v11 h10).bind fun v12 => (fillP [.str ⟨#[]⟩, .int .i64 0, .int .i64 0, .nilS, .int .i64 0, .int .i64 0, .int .i64 0, .int .i64 0, .bool false, .nilS, .nilS, .nilS, .nilS] [(1, 1, x0), (2, 1, x1), (5, 1, (.int .i64 6 : PV)), (6, 1, (.int .i64 125 : PV)), (7, 1, (.int .i64 128 : PV)), (8, 1, v12)]).bind fun l13 => forkP (.ptr h10.length 0) (h10 ++ [.box [.str ⟨#[]⟩, .int .i64 0, .int .i64 0, .nilS, .int .i64 0, .int .i64 0, .int .i64 0, .int .i64 0, .bool false, .nilS, .nilS, .nilS, .nilS] 27 .rw]) fun v14 h15 => (storeP 13 v14 (PV.agg l13) h15).bind fun h16 => KL (fun w18 h19 => KL (fun w21 h22 => (loadP true 13 v14 h22).bind fun v23 => (storeP 13 v0 v23 h22).bind fun h24 => (loadP true 13 v0 h24).bind fun v25 => finP [(.agg SA13), .keep] h h24 [v25, (.int .i64 0 : PV)]) fun j20 => loopP (s17_L0 Γ n x1 x2 v14 h19 j20) n [(.int .i64 0 : PV)] h19) fun j17 => loopP (s17_L1 Γ n x0 x1 v14 h16 j17) n [(.int .i64 0 : PV)] h16) fun j8 => (binP .neq v4 (.int .i64 0 : PV)).bind fun v86 => KL (fun w88 h89 => j8 [] h89) fun j87 => ifP v86 ( (fillP [.str ⟨#[]⟩, .int .i64 0, .int .i64 0, .nilS, .int .i64 0, .int .i64 0, .int .i64 0, .int .i64 0, .bool false, .nilS, .nilS, .nilS, .nilS] []).bind fun l90 => (storeP 13 v0 (PV.agg l90) h7).bind fun h91 => (loadP true 13 v0 h91).bind fun v92 => finP [(.agg SA13), .keep] h h91 [v92, v4]) ( (fieldAddrP 1 v5).bind fun v93 => (loadP false 1 v93 h7).bind fun v94 => (Γ 54 [x1, (.int .i64 1 : PV), v94] h7).bind fun p95 => (unP .not p95.1).bind fun v96 => K1 (fun v98 h99 => KL (fun w101 h102 => j87 [] h102) fun j100 => ifP v98 ( (fillP [.str ⟨#[]⟩, .int .i64 0, .int .i64 0, .nilS, .int .i64 0, .int .i64 0, .int .i64 0, .int .i64 0, .bool false, .nilS, .nilS, .nilS, .nilS] []).bind fun l103 => (storeP 13 v0 (PV.agg l103) h99).bind fun h104 => (loadP true 13 v0 h104).bind fun v105 => finP [(.agg SA13), .keep] h h104 [v105, (.int .i64 5 : PV)]) ( j100 [] h99)) fun j97 => scP v96 false ( (Γ 54 [x2, (.int .i64 1 : PV), (.int .i64 32 : PV)] p95.2).bind fun p106 => (unP .not p106.1).bind fun v107 => j97 v107 p106.2) (j97 (.bool true) p95.2))
theorem s17_eq (Γ : PCallee) (n : Nat) (x0 : PV) (x1 : PV) (x2 : PV) (h : PHeap) : pfunK Γ n A17 [x0, x1, x2] h = s17 Γ n x0 x1 x2 h := by kernel_rfl
open Go.Vm.G in
def A19 : PFun := ⟨1, 29, (S (R <| o 1 (.box 27 (t 0)) <| o 2 (.move (.const (.slice none 0 0))) <| o 3 (.move (.const (.slice none 0 0))) <| o 4 (.move (.const (.slice none 0 0))) <| o 5 (.move (i 0)) <| z) <|
  (S (S (R <| o 7 (.load true 13 (t 1)) <| F 7 (.agg SA13) <| o 8 (.call 16 [(t 7)]) <| o 9 (.un .not (t 8)) <| z) <|
  (.cond (t 9) [] (g 2 4)
  (S (R <| o 2 (.move (.const (.slice none 0 0))) <| o 3 (.move (.const (.slice none 0 0))) <| o 4 (.move (.const (.slice none 0 0))) <| o 5 (.move (i 1)) <| z) <|
  .ret)
  .skip)) <|
  (S (R <| o 10 (.load true 13 (t 1)) <| F 10 (.agg SA13) <| o 11 (.call 41 [(t 10)]) <| o 12 (.call 60 [(t 11)]) <| m 2 12 <| z) <|
  (S (D <| o 13 (.load true 13 (t 1)) <| o 14 (.load true 13 (t 1)) <| F 14 (.agg SA13) <| O 15 (.call 41 [(t 14)]) <| F 13 (.agg SA13) <| O 16 (.call 43 [(t 13), (t 15)]) <| O 17 (.call 60 [(t 16)]) <| (.op (some 6) (.growBox true 22 3 1) false <| n (.store 1 (t 6) (t 17)) <| z)) <|
  (S (S (R <| o 18 (.load true 13 (t 1)) <| F 18 (.agg SA13) <| o 19 (.call 45 [(t 18)]) <| o 20 (.field false 6 1 (t 19)) <| o 21 (.un .not (t 20)) <| z) <|
  (.cond (t 21) [2] [3, 4, 5, 22, 23]
  (S (D <| m 22 2 <| l 23 6 <| m 2 22 <| m 3 23 <| o 4 (.move (.const (.slice none 0 0))) <| o 5 (.move (i 0)) <| z) <|
  .ret)
  .skip)) <|
  (S (R <| o 24 (.mkFunc 61 [] [(t 6), (t 1)]) <| o 25 (.call 60 [(t 24)]) <| m 3 25 <| z) <|
  (S (D <| m 26 2 <| m 27 3 <| l 28 6 <| m 2 26 <| m 3 27 <| m 4 28 <| o 5 (.move (i 0)) <| z) <|
  .ret))))))), [.tmp 2, .tmp 3, .tmp 4, .tmp 5], [(.flat 1), (.flat 1), (.flat 1), .keep]⟩
theorem ok19 : ∃ fn c, FunOk Tryz.prog 19 fn c A19.erase := ⟨Tryz.f19, _, ⟨Tryz.func19, rfl, by kernel_rfl, by kernel_rfl, by kernel_rfl, of_decide_eq_true (by kernel_rfl), by kernel_rfl⟩⟩
noncomputable def s19 (Γ : PCallee) (n : Nat) (x0 : PV) (h : PHeap) : Pt := forkP (.ptr h.length 0) (h ++ [.box (cellsP x0) 27 .rw]) fun v0 h1 => (loadP true 13 v0 h1).bind fun v2 => (fz (.agg SA13) v2 h1).bind fun q3 => (Γ 16 [q3.1] q3.2).bind fun p4 => (unP .not p4.1).bind fun v5 => KL (fun w7 h8 => (loadP true 13 v0 h8).bind fun v9 => (fz (.agg SA13) v9 h8).bind fun q10 => (Γ 41 [q10.1] q10.2).bind fun p11 => (Γ 60 [p11.1] p11.2).bind fun p12 => (loadP true 13 v0 p12.2).bind fun v13 => (loadP true 13 v0 p12.2).bind fun v14 => (fz (.agg SA13) v14 p12.2).bind fun q15 => (Γ 41 [q15.1] (lock q15.2)).bind fun p16 => unl q15.2 p16.2 fun h17 => (fz (.agg SA13) v13 h17).bind fun q18 => (Γ 43 [q18.1, p16.1] (lock q18.2)).bind fun p19 => unl q18.2 p19.2 fun h20 => (Γ 60 [p19.1] (lock h20)).bind fun p21 => unl h20 p21.2 fun h22 => forkP (.ptr (h22.length + 1) 0) (h22 ++ [.log [] 1 3 .rw, .box [.ref h22.length 0 0 0 1] 22 .rw]) fun v23 h24 => (storeP 1 v23 p21.1 h24).bind fun h25 => (loadP true 13 v0 h25).bind fun v26 => (fz (.agg SA13) v26 h25).bind fun q27 => (Γ 45 [q27.1] q27.2).bind fun p28 => (fieldP false 6 1 p28.1).bind fun v29 => (unP .not v29).bind fun v30 => KL (fun w32 h33 => (Γ 60 [(PV.func 61 [] [v23, v0])] h33).bind fun p34 => (loadP false 1 v23 p34.2).bind fun v35 => finP [(.flat 1), (.flat 1), (.flat 1), .keep] h p34.2 [(nthP w32 0), p34.1, v35, (.int .i64 0 : PV)]) fun j31 => ifP v30 ( (loadP false 1 v23 p28.2).bind fun v36 => finP [(.flat 1), (.flat 1), (.flat 1), .keep] h p28.2 [p12.1, v36, (.nilS : PV), (.int .i64 0 : PV)]) ( j31 [p12.1] p28.2)) fun j6 => ifP v5 ( finP [(.flat 1), (.flat 1), (.flat 1), .keep] h p4.2 [(.nilS : PV), (.nilS : PV), (.nilS : PV), (.int .i64 1 : PV)]) ( j6 [] p4.2)
theorem s19_eq (Γ : PCallee) (n : Nat) (x0 : PV) (h : PHeap) : pfunK Γ n A19 [x0] h = s19 Γ n x0 h := by kernel_rfl
open Go.Vm.G in
def A20 : PFun := ⟨1, 103, (S (R <| o 1 (.box 27 (t 0)) <| o 2 (.move (.const (.slice none 0 0))) <| o 3 (.move (.const (.slice none 0 0))) <| o 4 (.move (.const (.slice none 0 0))) <| o 5 (.move (i 0)) <| z) <|
  (S (S (R <| o 19 (.load true 13 (t 1)) <| o 20 (.call 47 [(t 19)]) <| o 21 (.un .not (t 20)) <| z) <|
  (.cond (t 21) [] (g 2 4)
  (S (R <| o 2 (.move (.const (.slice none 0 0))) <| o 3 (.move (.const (.slice none 0 0))) <| o 4 (.move (.const (.slice none 0 0))) <| o 5 (.move (i 1)) <| z) <|
  .ret)
  .skip)) <|
  (S (R <| o 6 (.new 100 V256) <| o 7 (.new 100 V256) <| o 8 (.new 100 V256) <| z) <|
  (S (S (R <| f 22 3 1 <| l 23 22 <| o 24 (.len false (t 23)) <| o 25 (.move (i 0)) <| z) <|
  (.block 0 [] ([10] ++ g 25 10)
  (.loop [25] ([10] ++ g 26 9)
  (S (R <| b 26 .lss (t 25) (t 24) <| z) <|
  (S (.cond (t 26) [] []
  .skip
  (.exit 0)) <|
  (S (.block 1 [] ([10] ++ g 27 7)
  (S (R <| o 27 (.indexAddr 1 (t 23) (t 25)) <| l 28 27 <| m 10 28 <| z) <|
  (S (R <| m 29 10 <| o 30 (.call 49 [(t 29)]) <| o 31 (.un .not (t 30)) <| z) <|
  (.cond (t 31) [] [32, 33]
  (R <| m 32 10 <| o 33 (.indexAddrArr 256 1 (t 6) (t 32)) <| n (.store 1 (t 33) (.const (.bool true))) <| z)
  .skip)))) <|
  (R <| b 34 .add (t 25) (i 1) <| m 25 34 <| z))))))) <|
  (S (S (R <| o 35 (.load true 256 (t 6)) <| o 36 (.call 63 [(t 35)]) <| o 37 (.len false (t 36)) <| o 38 (.move (i 0)) <| z) <|
  (.block 2 [] ([12, 14] ++ g 38 23)
  (.loop [38] ([12, 14] ++ g 39 22)
  (S (R <| b 39 .lss (t 38) (t 37) <| z) <|
  (S (.cond (t 39) [] []
  .skip
  (.exit 2)) <|
  (S (.block 3 [] ([12, 14] ++ g 40 20)
  (S (R <| o 40 (.indexAddr 1 (t 36) (t 38)) <| l 41 40 <| m 12 41 <| z) <|
  (S (R <| f 42 10 1 <| l 43 42 <| m 44 12 <| o 45 (.indexAddr 2 (t 43) (t 44)) <| f 46 1 45 <| l 47 46 <| o 48 (.len false (t 47)) <| o 49 (.move (i 0)) <| z) <|
  (.block 4 [] ([14] ++ g 49 11)
  (.loop [49] ([14] ++ g 50 10)
  (S (R <| b 50 .lss (t 49) (t 48) <| z) <|
  (S (.cond (t 50) [] []
  .skip
  (.exit 4)) <|
  (S (.block 5 [] ([14] ++ g 51 8)
  (S (R <| o 51 (.indexAddr 6 (t 47) (t 49)) <| o 52 (.load true 6 (t 51)) <| o 14 (.new 41 [(.int .i64 0), (.int .i64 0), (.int .i64 0), (.int .i64 0), (.int .i64 0), (.int .i64 0)]) <| n (.store 6 (t 14) (t 52)) <| z) <|
  (S (R <| f 53 1 14 <| l 54 53 <| b 55 .neq (t 54) (i 0) <| z) <|
  (.cond (t 55) [] [56, 57, 58]
  (R <| f 56 1 14 <| l 57 56 <| o 58 (.indexAddrArr 256 1 (t 8) (t 57)) <| n (.store 1 (t 58) (.const (.bool true))) <| z)
  .skip)))) <|
  (R <| b 59 .add (t 49) (i 1) <| m 49 59 <| z))))))))) <|
  (R <| b 60 .add (t 38) (i 1) <| m 38 60 <| z))))))) <|
  (S (S (R <| o 61 (.load true 13 (t 1)) <| o 62 (.call 52 [(t 61)]) <| o 63 (.un .not (t 62)) <| z) <|
  (.cond (t 63) [] (g 2 4 ++ g 64 4)
  (S (D <| o 64 (.load true 256 (t 6)) <| O 65 (.call 63 [(t 64)]) <| o 66 (.load true 256 (t 8)) <| o 67 (.call 63 [(t 66)]) <| m 2 65 <| m 3 67 <| o 4 (.move (.const (.slice none 0 0))) <| o 5 (.move (i 0)) <| z) <|
  .ret)
  .skip)) <|
  (S (S (R <| o 68 (.load true 256 (t 8)) <| o 69 (.call 63 [(t 68)]) <| o 70 (.len false (t 69)) <| o 71 (.move (i 0)) <| z) <|
  (.block 6 [] ([16, 18] ++ g 71 26)
  (.loop [71] ([16, 18] ++ g 72 25)
  (S (R <| b 72 .lss (t 71) (t 70) <| z) <|
  (S (.cond (t 72) [] []
  .skip
  (.exit 6)) <|
  (S (.block 7 [] ([16, 18] ++ g 73 23)
  (S (R <| o 73 (.indexAddr 1 (t 69) (t 71)) <| l 74 73 <| m 16 74 <| z) <|
  (S (R <| f 75 12 1 <| l 76 75 <| m 77 16 <| b 78 .sub (t 77) (i 1) <| o 79 (.indexAddr 33 (t 76) (t 78)) <| o 80 (.load true 33 (t 79)) <| m 81 16 <| o 82 (.call 64 [(t 80), (t 81)]) <| o 83 (.len false (t 82)) <| o 84 (.move (i 0)) <| z) <|
  (.block 8 [] ([18] ++ g 84 12)
  (.loop [84] ([18] ++ g 85 11)
  (S (R <| b 85 .lss (t 84) (t 83) <| z) <|
  (S (.cond (t 85) [] []
  .skip
  (.exit 8)) <|
  (S (.block 9 [] ([18] ++ g 86 9)
  (S (R <| o 86 (.indexAddr 1 (t 82) (t 84)) <| l 87 86 <| m 18 87 <| z) <|
  (S (R <| m 88 18 <| f 89 11 1 <| l 90 89 <| o 91 (.len false (t 90)) <| b 92 .leq (t 88) (t 91) <| z) <|
  (.cond (t 92) [] [93, 94]
  (R <| m 93 18 <| o 94 (.indexAddrArr 256 1 (t 7) (t 93)) <| n (.store 1 (t 94) (.const (.bool true))) <| z)
  .skip)))) <|
  (R <| b 95 .add (t 84) (i 1) <| m 84 95 <| z))))))))) <|
  (R <| b 96 .add (t 71) (i 1) <| m 71 96 <| z))))))) <|
  (S (D <| o 97 (.load true 256 (t 6)) <| O 98 (.call 63 [(t 97)]) <| o 99 (.load true 256 (t 7)) <| O 100 (.call 63 [(t 99)]) <| o 101 (.load true 256 (t 8)) <| o 102 (.call 63 [(t 101)]) <| m 2 98 <| m 3 100 <| m 4 102 <| o 5 (.move (i 0)) <| z) <|
  .ret)))))))), [.tmp 2, .tmp 3, .tmp 4, .tmp 5], [(.flat 1), (.flat 1), (.flat 1), .keep]⟩
theorem ok20 : ∃ fn c, FunOk Tryz.prog 20 fn c A20.erase := ⟨Tryz.f20, _, ⟨Tryz.func20, rfl, by kernel_rfl, by kernel_rfl, by kernel_rfl, of_decide_eq_true (by kernel_rfl), by kernel_rfl⟩⟩
noncomputable def s20_L0 (Γ : PCallee) (n : Nat) (v0 : PV) (v10 : PV) (p64 : PV × PHeap) (v65 : PV) (j66 : Kt) : (Kt) → Kt := fun c69 w70 h71 => (binP .lss (nthP w70 0) v65).bind fun v72 => KL (fun w74 h75 => KL (fun w77 h78 => (binP .add (nthP w70 0) (.int .i64 1 : PV)).bind fun v79 => c69 [v79] (trim p64.2 [v79] h78)) fun j76 => (indexAddrP 1 p64.1 (nthP w70 0)).bind fun v80 => (loadP false 1 v80 h75).bind fun v81 => (fieldAddrP 11 v0).bind fun v82 => (loadP false 1 v82 h75).bind fun v83 => (lenP false v83).bind fun v84 => (binP .leq v81 v84).bind fun v85 => KL (fun w87 h88 => j76 [] h88) fun j86 => ifP v85 ( (indexAddrArrP 256 1 v10 v81).bind fun v89 => (storeP 1 v89 (.bool true : PV) h75).bind fun h90 => j86 [] h90) ( j86 [] h75)) fun j73 => ifP v72 ( j73 [] h71) ( j66 [] h71)
noncomputable def s20_L1 (Γ : PCallee) (n : Nat) (v0 : PV) (v10 : PV) (p33 : PV × PHeap) (v34 : PV) (j35 : Kt) : (Kt) → Kt := fun c46 w47 h48 => (binP .lss (nthP w47 0) v34).bind fun v49 => KL (fun w51 h52 => KL (fun w54 h55 => (binP .add (nthP w47 0) (.int .i64 1 : PV)).bind fun v56 => c46 [v56] (trim p33.2 [v56] h55)) fun j53 => (indexAddrP 1 p33.1 (nthP w47 0)).bind fun v57 => (loadP false 1 v57 h52).bind fun v58 => (fieldAddrP 12 v0).bind fun v59 => (loadP false 1 v59 h52).bind fun v60 => (binP .sub v58 (.int .i64 1 : PV)).bind fun v61 => (indexAddrP 33 v60 v61).bind fun v62 => (loadP true 33 v62 h52).bind fun v63 => (Γ 64 [v63, v58] h52).bind fun p64 => (lenP false p64.1).bind fun v65 => KL (fun w67 h68 => j53 [] h68) fun j66 => loopP (s20_L0 Γ n v0 v10 p64 v65 j66) n [(.int .i64 0 : PV)] p64.2) fun j50 => ifP v49 ( j50 [] h48) ( j35 [] h48)
noncomputable def s20_L2 (Γ : PCallee) (n : Nat) (v12 : PV) (h102 : PHeap) (v113 : PV) (v114 : PV) (j115 : Kt) : (Kt) → Kt := fun c118 w119 h120 => (binP .lss (nthP w119 0) v114).bind fun v121 => KL (fun w123 h124 => KL (fun w126 h127 => (binP .add (nthP w119 0) (.int .i64 1 : PV)).bind fun v128 => c118 [v128] (trim h102 [v128] h127)) fun j125 => (indexAddrP 6 v113 (nthP w119 0)).bind fun v129 => (loadP true 6 v129 h124).bind fun v130 => forkP (.ptr h124.length 0) (h124 ++ [.box [.int .i64 0, .int .i64 0, .int .i64 0, .int .i64 0, .int .i64 0, .int .i64 0] 41 .rw]) fun v131 h132 => (storeP 6 v131 v130 h132).bind fun h133 => (fieldAddrP 1 v131).bind fun v134 => (loadP false 1 v134 h133).bind fun v135 => (binP .neq v135 (.int .i64 0 : PV)).bind fun v136 => KL (fun w138 h139 => j125 [] h139) fun j137 => ifP v136 ( (fieldAddrP 1 v131).bind fun v140 => (loadP false 1 v140 h133).bind fun v141 => (indexAddrArrP 256 1 v12 v141).bind fun v142 => (storeP 1 v142 (.bool true : PV) h133).bind fun h143 => j137 [] h143) ( j137 [] h133)) fun j122 => ifP v121 ( j122 [] h120) ( j115 [] h120)
noncomputable def s20_L3 (Γ : PCallee) (n : Nat) (v0 : PV) (v12 : PV) (p21 : PV × PHeap) (v22 : PV) (j23 : Kt) : (Kt) → Kt := fun c96 w97 h98 => (binP .lss (nthP w97 0) v22).bind fun v99 => KL (fun w101 h102 => KL (fun w104 h105 => (binP .add (nthP w97 0) (.int .i64 1 : PV)).bind fun v106 => c96 [v106] (trim p21.2 [v106] h105)) fun j103 => (indexAddrP 1 p21.1 (nthP w97 0)).bind fun v107 => (loadP false 1 v107 h102).bind fun v108 => (fieldAddrP 10 v0).bind fun v109 => (loadP false 1 v109 h102).bind fun v110 => (indexAddrP 2 v110 v108).bind fun v111 => (fieldAddrP 1 v111).bind fun v112 => (loadP false 1 v112 h102).bind fun v113 => (lenP false v113).bind fun v114 => KL (fun w116 h117 => j103 [] h117) fun j115 => loopP (s20_L2 Γ n v12 h102 v113 v114 j115) n [(.int .i64 0 : PV)] h102) fun j100 => ifP v99 ( j100 [] h98) ( j23 [] h98)
noncomputable def s20_L4 (Γ : PCallee) (n : Nat) (v8 : PV) (h13 : PHeap) (v15 : PV) (v16 : PV) (j17 : Kt) : (Kt) → Kt := fun c144 w145 h146 => (binP .lss (nthP w145 0) v16).bind fun v147 => KL (fun w149 h150 => KL (fun w152 h153 => (binP .add (nthP w145 0) (.int .i64 1 : PV)).bind fun v154 => c144 [v154] (trim h13 [v154] h153)) fun j151 => (indexAddrP 1 v15 (nthP w145 0)).bind fun v155 => (loadP false 1 v155 h150).bind fun v156 => (Γ 49 [v156] h150).bind fun p157 => (unP .not p157.1).bind fun v158 => KL (fun w160 h161 => j151 [] h161) fun j159 => ifP v158 ( (indexAddrArrP 256 1 v8 v156).bind fun v162 => (storeP 1 v162 (.bool true : PV) p157.2).bind fun h163 => j159 [] h163) ( j159 [] p157.2)) fun j148 => ifP v147 ( j148 [] h146) ( j17 [] h146)
noncomputable def s20 (Γ : PCallee) (n : Nat) (x0 : PV) (h : PHeap) : Pt := forkP (.ptr h.length 0) (h ++ [.box (cellsP x0) 27 .rw]) fun v0 h1 => (loadP true 13 v0 h1).bind fun v2 => (Γ 47 [v2] h1).bind fun p3 => (unP .not p3.1).bind fun v4 => KL (fun w6 h7 => forkP (.ptr h7.length 0) (h7 ++ [.box Z256 100 .rw]) fun v8 h9 => forkP (.ptr h9.length 0) (h9 ++ [.box Z256 100 .rw]) fun v10 h11 => forkP (.ptr h11.length 0) (h11 ++ [.box Z256 100 .rw]) fun v12 h13 => (fieldAddrP 3 v0).bind fun v14 => (loadP false 1 v14 h13).bind fun v15 => (lenP false v15).bind fun v16 => KL (fun w18 h19 => (loadP true 256 v8 h19).bind fun v20 => (Γ 63 [v20] h19).bind fun p21 => (lenP false p21.1).bind fun v22 => KL (fun w24 h25 => (loadP true 13 v0 h25).bind fun v26 => (Γ 52 [v26] h25).bind fun p27 => (unP .not p27.1).bind fun v28 => KL (fun w30 h31 => (loadP true 256 v12 h31).bind fun v32 => (Γ 63 [v32] h31).bind fun p33 => (lenP false p33.1).bind fun v34 => KL (fun w36 h37 => (loadP true 256 v8 h37).bind fun v38 => (Γ 63 [v38] (lock h37)).bind fun p39 => unl h37 p39.2 fun h40 => (loadP true 256 v10 h40).bind fun v41 => (Γ 63 [v41] (lock h40)).bind fun p42 => unl h40 p42.2 fun h43 => (loadP true 256 v12 h43).bind fun v44 => (Γ 63 [v44] h43).bind fun p45 => finP [(.flat 1), (.flat 1), (.flat 1), .keep] h p45.2 [p39.1, p42.1, p45.1, (.int .i64 0 : PV)]) fun j35 => loopP (s20_L1 Γ n v0 v10 p33 v34 j35) n [(.int .i64 0 : PV)] p33.2) fun j29 => ifP v28 ( (loadP true 256 v8 p27.2).bind fun v91 => (Γ 63 [v91] (lock p27.2)).bind fun p92 => unl p27.2 p92.2 fun h93 => (loadP true 256 v12 h93).bind fun v94 => (Γ 63 [v94] h93).bind fun p95 => finP [(.flat 1), (.flat 1), (.flat 1), .keep] h p95.2 [p92.1, p95.1, (.nilS : PV), (.int .i64 0 : PV)]) ( j29 [] p27.2)) fun j23 => loopP (s20_L3 Γ n v0 v12 p21 v22 j23) n [(.int .i64 0 : PV)] p21.2) fun j17 => loopP (s20_L4 Γ n v8 h13 v15 v16 j17) n [(.int .i64 0 : PV)] h13) fun j5 => ifP v4 ( finP [(.flat 1), (.flat 1), (.flat 1), .keep] h p3.2 [(.nilS : PV), (.nilS : PV), (.nilS : PV), (.int .i64 1 : PV)]) ( j5 [] p3.2)
theorem s20_eq (Γ : PCallee) (n : Nat) (x0 : PV) (h : PHeap) : pfunK Γ n A20 [x0] h = s20 Γ n x0 h := by kernel_rfl
open Go.Vm.G in
def A21 : PFun := ⟨3, 22, (S (R <| o 3 (.box 27 (t 0)) <| o 6 (.move (i 0)) <| o 7 (.move (i 0)) <| z) <|
  (S (S (R <| o 8 (.load true 13 (t 3)) <| o 9 (.call 16 [(t 8)]) <| o 10 (.un .not (t 9)) <| m 11 10 <| q 15 11 false [12, 13, 14] (m 12 2 <| o 13 (.call 54 [(t 12), (i 0), (i 119)]) <| o 14 (.un .not (t 13)) <| z) (t 14) <|
  z) <|
  (.cond (t 15) [] [6, 7]
  (S (R <| o 6 (.move (i 0)) <| o 7 (.move (i 0)) <| z) <|
  .ret)
  .skip)) <|
  (S (R <| o 16 (.load true 13 (t 3)) <| m 17 1 <| m 18 2 <| o 19 (.call 65 [(t 16), (t 17), (t 18)]) <| o 20 (.extract (t 19) 0) <| o 21 (.extract (t 19) 1) <| m 6 20 <| m 7 21 <| z) <|
  .ret))), [.tmp 6, .tmp 7], [.keep, .keep]⟩
theorem ok21 : ∃ fn c, FunOk Tryz.prog 21 fn c A21.erase := ⟨Tryz.f21, _, ⟨Tryz.func21, rfl, by kernel_rfl, by kernel_rfl, by kernel_rfl, of_decide_eq_true (by kernel_rfl), by kernel_rfl⟩⟩
noncomputable def s21 (Γ : PCallee) (n : Nat) (x0 : PV) (x1 : PV) (x2 : PV) (h : PHeap) : Pt := forkP (.ptr h.length 0) (h ++ [.box (cellsP x0) 27 .rw]) fun v0 h1 => (loadP true 13 v0 h1).bind fun v2 => (Γ 16 [v2] h1).bind fun p3 => (unP .not p3.1).bind fun v4 => K1 (fun v6 h7 => KL (fun w9 h10 => (loadP true 13 v0 h10).bind fun v11 => (Γ 65 [v11, x1, x2] h10).bind fun p12 => (extractP p12.1 0).bind fun v13 => (extractP p12.1 1).bind fun v14 => finP [.keep, .keep] h p12.2 [v13, v14]) fun j8 => ifP v6 ( finP [.keep, .keep] h h7 [(.int .i64 0 : PV), (.int .i64 0 : PV)]) ( j8 [] h7)) fun j5 => scP v4 false ( (Γ 54 [x2, (.int .i64 0 : PV), (.int .i64 119 : PV)] p3.2).bind fun p15 => (unP .not p15.1).bind fun v16 => j5 v16 p15.2) (j5 (.bool true) p3.2)
theorem s21_eq (Γ : PCallee) (n : Nat) (x0 : PV) (x1 : PV) (x2 : PV) (h : PHeap) : pfunK Γ n A21 [x0, x1, x2] h = s21 Γ n x0 x1 x2 h := by kernel_rfl
open Go.Vm.G in
def A22 : PFun := ⟨3, 17, (S (R <| o 3 (.box 27 (t 0)) <| o 6 (.move (i 0)) <| o 7 (.move (i 0)) <| z) <|
  (S (S (R <| o 8 (.load true 13 (t 3)) <| o 9 (.call 47 [(t 8)]) <| o 10 (.un .not (t 9)) <| z) <|
  (.cond (t 10) [] [6, 7]
  (S (R <| o 6 (.move (i 0)) <| o 7 (.move (i 0)) <| z) <|
  .ret)
  .skip)) <|
  (S (R <| o 11 (.load true 13 (t 3)) <| m 12 1 <| m 13 2 <| o 14 (.call 66 [(t 11), (t 12), (t 13)]) <| o 15 (.extract (t 14) 0) <| o 16 (.extract (t 14) 1) <| m 6 15 <| m 7 16 <| z) <|
  .ret))), [.tmp 6, .tmp 7], [.keep, .keep]⟩
theorem ok22 : ∃ fn c, FunOk Tryz.prog 22 fn c A22.erase := ⟨Tryz.f22, _, ⟨Tryz.func22, rfl, by kernel_rfl, by kernel_rfl, by kernel_rfl, of_decide_eq_true (by kernel_rfl), by kernel_rfl⟩⟩
noncomputable def s22 (Γ : PCallee) (n : Nat) (x0 : PV) (x1 : PV) (x2 : PV) (h : PHeap) : Pt := forkP (.ptr h.length 0) (h ++ [.box (cellsP x0) 27 .rw]) fun v0 h1 => (loadP true 13 v0 h1).bind fun v2 => (Γ 47 [v2] h1).bind fun p3 => (unP .not p3.1).bind fun v4 => KL (fun w6 h7 => (loadP true 13 v0 h7).bind fun v8 => (Γ 66 [v8, x1, x2] h7).bind fun p9 => (extractP p9.1 0).bind fun v10 => (extractP p9.1 1).bind fun v11 => finP [.keep, .keep] h p9.2 [v10, v11]) fun j5 => ifP v4 ( finP [.keep, .keep] h p3.2 [(.int .i64 0 : PV), (.int .i64 0 : PV)]) ( j5 [] p3.2)
theorem s22_eq (Γ : PCallee) (n : Nat) (x0 : PV) (x1 : PV) (x2 : PV) (h : PHeap) : pfunK Γ n A22 [x0, x1, x2] h = s22 Γ n x0 x1 x2 h := by kernel_rfl
open Go.Vm.G in
def A23 : PFun := ⟨2, 8, (S (R <| o 4 (.move (.const (.bool false))) <| z) <|
  (S (R <| m 5 0 <| m 6 1 <| o 7 (.call 67 [(t 5), (t 6)]) <| m 4 7 <| z) <|
  .ret)), [.tmp 4], [.keep]⟩
theorem ok23 : ∃ fn c, FunOk Tryz.prog 23 fn c A23.erase := ⟨Tryz.f23, _, ⟨Tryz.func23, rfl, by kernel_rfl, by kernel_rfl, by kernel_rfl, of_decide_eq_true (by kernel_rfl), by kernel_rfl⟩⟩
noncomputable def s23 (Γ : PCallee) (n : Nat) (x0 : PV) (x1 : PV) (h : PHeap) : Pt := (Γ 67 [x0, x1] h).bind fun p0 => finP [.keep] h p0.2 [p0.1]
theorem s23_eq (Γ : PCallee) (n : Nat) (x0 : PV) (x1 : PV) (h : PHeap) : pfunK Γ n A23 [x0, x1] h = s23 Γ n x0 x1 h := by kernel_rfl
open Go.Vm.G in
def A24 : PFun := ⟨1, 50, (S (R <| o 1 (.box 27 (t 0)) <| o 2 (.move (.const (.string ⟨#[]⟩))) <| o 3 (.move (i 0)) <| o 4 (.move (i 0)) <| z) <|
  (S (R <| f 13 1 1 <| l 14 13 <| o 15 (.call 53 [(t 14)]) <| m 12 15 <| o 16 (.extract (t 12) 0) <| o 17 (.extract (t 12) 1) <| o 5 (.new 83 V29) <| n (.store 29 (t 5) (t 16)) <| m 6 17 <| z) <|
  (S (R <| o 18 (.load true 13 (t 1)) <| o 19 (.load true 29 (t 5)) <| o 20 (.build V42 [(0, 13, (t 18)), (13, 29, (t 19))]) <| o 7 (.new 104 V42) <| n (.store 42 (t 7) (t 20)) <| z) <|
  (S (S (R <| o 21 (.load true 42 (t 7)) <| o 22 (.mkFunc 68 [(t 21)] []) <| o 23 (.load true 42 (t 7)) <| o 24 (.mkFunc 69 [(t 23)] []) <| o 25 (.load true 42 (t 7)) <| o 26 (.mkFunc 70 [(t 25)] []) <| o 27 (.load true 42 (t 7)) <| o 28 (.mkFunc 71 [(t 27)] []) <| o 29 (.load true 42 (t 7)) <| o 30 (.mkFunc 72 [(t 29)] []) <| o 31 (.buildSlice 105 [.nilFunc] 5 [(0, 1, (t 22)), (1, 1, (t 24)), (2, 1, (t 26)), (3, 1, (t 28)), (4, 1, (t 30))]) <| o 32 (.len false (t 31)) <| o 33 (.move (i 0)) <| z) <|
  (.block 0 [] ([2, 3, 4, 9, 10, 11] ++ g 33 17)
  (.loop [33] ([2, 3, 4, 9, 10, 11] ++ g 34 16)
  (S (R <| b 34 .lss (t 33) (t 32) <| z) <|
  (S (.cond (t 34) [] []
  .skip
  (.exit 0)) <|
  (S (.block 1 [] ([2, 3, 4, 9, 10, 11] ++ g 35 14)
  (S (R <| o 35 (.indexAddr 1 (t 31) (t 33)) <| l 36 35 <| m 9 36 <| z) <|
  (S (R <| m 38 9 <| o 39 (.callV (t 38) []) <| m 37 39 <| o 40 (.extract (t 37) 0) <| o 41 (.extract (t 37) 1) <| o 10 (.new 108 [(.string ⟨#[]⟩), (.int .i64 0), (.int .i64 0)]) <| n (.store 3 (t 10) (t 40)) <| m 11 41 <| z) <|
  (S (R <| m 42 11 <| z) <|
  (.cond (t 42) [] ([2, 3, 4] ++ g 43 6)
  (S (D <| f 43 0 10 <| l 44 43 <| f 45 1 10 <| l 46 45 <| f 47 2 10 <| l 48 47 <| m 2 44 <| m 3 46 <| m 4 48 <| z) <|
  .ret)
  .skip))))) <|
  (R <| b 49 .add (t 33) (i 1) <| m 33 49 <| z))))))) <|
  (S (R <| o 2 (.move (.const (.string ⟨#[]⟩))) <| o 3 (.move (i (-1))) <| o 4 (.move (i 0)) <| z) <|
  .ret))))), [.tmp 2, .tmp 3, .tmp 4], [.keep, .keep, .keep]⟩
theorem ok24 : ∃ fn c, FunOk Tryz.prog 24 fn c A24.erase := ⟨Tryz.f24, _, ⟨Tryz.func24, rfl, by kernel_rfl, by kernel_rfl, by kernel_rfl, of_decide_eq_true (by kernel_rfl), by kernel_rfl⟩⟩
noncomputable def s24_L0 (Γ : PCallee) (n : Nat) (h : PHeap) (v22 : PV) (h23 : PHeap) (v24 : PV) (j25 : Kt) : (Kt) → Kt := fun c28 w29 h30 => (binP .lss (nthP w29 0) v24).bind fun v31 => KL (fun w33 h34 => KL (fun w36 h37 => (binP .add (nthP w29 0) (.int .i64 1 : PV)).bind fun v38 => c28 [v38] (trim h23 [v38] h37)) fun j35 => (indexAddrP 1 v22 (nthP w29 0)).bind fun v39 => (loadP false 1 v39 h34).bind fun v40 => (callVP Γ v40 [] h34).bind fun p41 => (extractP p41.1 0).bind fun v42 => (extractP p41.1 1).bind fun v43 => forkP (.ptr p41.2.length 0) (p41.2 ++ [.box [.str ⟨#[]⟩, .int .i64 0, .int .i64 0] 108 .rw]) fun v44 h45 => (storeP 3 v44 v42 h45).bind fun h46 => KL (fun w48 h49 => j35 [] h49) fun j47 => ifP v43 ( (fieldAddrP 0 v44).bind fun v50 => (loadP false 1 v50 h46).bind fun v51 => (fieldAddrP 1 v44).bind fun v52 => (loadP false 1 v52 h46).bind fun v53 => (fieldAddrP 2 v44).bind fun v54 => (loadP false 1 v54 h46).bind fun v55 => finP [.keep, .keep, .keep] h h46 [v51, v53, v55]) ( j47 [] h46)) fun j32 => ifP v31 ( j32 [] h30) ( j25 [] h30)
noncomputable def s24 (Γ : PCallee) (n : Nat) (x0 : PV) (h : PHeap) : Pt := forkP (.ptr h.length 0) (h ++ [.box (cellsP x0) 27 .rw]) fun v0 h1 => (fieldAddrP 1 v0).bind fun v2 => (loadP false 1 v2 h1).bind fun v3 => (Γ 53 [v3] h1).bind fun p4 => (extractP p4.1 0).bind fun v5 => (extractP p4.1 1).bind fun v6 => forkP (.ptr p4.2.length 0) (p4.2 ++ [.box Z29 83 .rw]) fun v7 h8 => (storeP 29 v7 v5 h8).bind fun h9 => (loadP true 13 v0 h9).bind fun v10 => (loadP true 29 v7 h9).bind fun v11 => (fillP Z42 [(0, 13, v10), (13, 29, v11)]).bind fun l12 => forkP (.ptr h9.length 0) (h9 ++ [.box Z42 104 .rw]) fun v13 h14 => (storeP 42 v13 (PV.agg l12) h14).bind fun h15 => (loadP true 42 v13 h15).bind fun v16 => (loadP true 42 v13 h15).bind fun v17 => (loadP true 42 v13 h15).bind fun v18 => (loadP true 42 v13 h15).bind fun v19 => (loadP true 42 v13 h15).bind fun v20 => (fillP (repP [.nilF] 5) [(0, 1, (PV.func 68 [v16] [])), (1, 1, (PV.func 69 [v17] [])), (2, 1, (PV.func 70 [v18] [])), (3, 1, (PV.func 71 [v19] [])), (4, 1, (PV.func 72 [v20] []))]).bind fun l21 => forkP (.ref h15.length 0 5 5 1) (h15 ++ [.log (chunk 1 5 l21) 1 105 .rw]) fun v22 h23 => (lenP false v22).bind fun v24 => KL (fun w26 h27 => finP [.keep, .keep, .keep] h h27 [(.str ⟨#[]⟩ : PV), (.int .i64 (-1) : PV), (.int .i64 0 : PV)]) fun j25 => loopP (s24_L0 Γ n h v22 h23 v24 j25) n [(.int .i64 0 : PV)] h23
theorem s24_eq (Γ : PCallee) (n : Nat) (x0 : PV) (h : PHeap) : pfunK Γ n A24 [x0] h = s24 Γ n x0 h := by kernel_rfl
open Go.Vm.G in
def A41 : PFun := ⟨1, 4, (S (R <| o 1 (.box 27 (t 0)) <| o 2 (.move (.const .nilFunc)) <| z) <|
  (S (R <| o 3 (.mkFunc 94 [] [(t 1)]) <| m 2 3 <| z) <|
  .ret)), [.tmp 2], [.keep]⟩
theorem ok41 : ∃ fn c, FunOk Tryz.prog 41 fn c A41.erase := ⟨Tryz.f41, _, ⟨Tryz.func41, rfl, by kernel_rfl, by kernel_rfl, by kernel_rfl, of_decide_eq_true (by kernel_rfl), by kernel_rfl⟩⟩
noncomputable def s41 (Γ : PCallee) (n : Nat) (x0 : PV) (h : PHeap) : Pt := forkP (.ptr h.length 0) (h ++ [.box (cellsP x0) 27 .rw]) fun v0 h1 => finP [.keep] h h1 [(PV.func 94 [] [v0])]
theorem s41_eq (Γ : PCallee) (n : Nat) (x0 : PV) (h : PHeap) : pfunK Γ n A41 [x0] h = s41 Γ n x0 h := by kernel_rfl
open Go.Vm.G in
def A43 : PFun := ⟨2, 6, (S (R <| o 2 (.box 27 (t 0)) <| o 3 (.box 77 (t 1)) <| o 4 (.move (.const .nilFunc)) <| z) <|
  (S (R <| o 5 (.mkFunc 96 [] [(t 3), (t 2)]) <| m 4 5 <| z) <|
  .ret)), [.tmp 4], [.keep]⟩
theorem ok43 : ∃ fn c, FunOk Tryz.prog 43 fn c A43.erase := ⟨Tryz.f43, _, ⟨Tryz.func43, rfl, by kernel_rfl, by kernel_rfl, by kernel_rfl, of_decide_eq_true (by kernel_rfl), by kernel_rfl⟩⟩
noncomputable def s43 (Γ : PCallee) (n : Nat) (x0 : PV) (x1 : PV) (h : PHeap) : Pt := forkP (.ptr h.length 0) (h ++ [.box (cellsP x0) 27 .rw]) fun v0 h1 => forkP (.ptr h1.length 0) (h1 ++ [.box (cellsP x1) 77 .rw]) fun v2 h3 => finP [.keep] h h3 [(PV.func 96 [] [v2, v0])]
theorem s43_eq (Γ : PCallee) (n : Nat) (x0 : PV) (x1 : PV) (h : PHeap) : pfunK Γ n A43 [x0, x1] h = s43 Γ n x0 x1 h := by kernel_rfl
open Go.Vm.G in
def A45 : PFun := ⟨1, 12, (S (R <| o 1 (.box 27 (t 0)) <| o 2 (.new 83 V29) <| z) <|
  (S (R <| f 6 1 1 <| l 7 6 <| o 8 (.call 53 [(t 7)]) <| m 5 8 <| o 9 (.extract (t 5) 0) <| o 10 (.extract (t 5) 1) <| o 3 (.new 83 V29) <| n (.store 29 (t 3) (t 9)) <| m 4 10 <| z) <|
  (S (R <| o 11 (.load true 29 (t 3)) <| n (.store 29 (t 2) (t 11)) <| z) <|
  .ret))), [.cell 2 true 29], [.keep]⟩
theorem ok45 : ∃ fn c, FunOk Tryz.prog 45 fn c A45.erase := ⟨Tryz.f45, _, ⟨Tryz.func45, rfl, by kernel_rfl, by kernel_rfl, by kernel_rfl, of_decide_eq_true (by kernel_rfl), by kernel_rfl⟩⟩
noncomputable def s45 (Γ : PCallee) (n : Nat) (x0 : PV) (h : PHeap) : Pt := forkP (.ptr h.length 0) (h ++ [.box (cellsP x0) 27 .rw]) fun v0 h1 => forkP (.ptr h1.length 0) (h1 ++ [.box Z29 83 .rw]) fun v2 h3 => (fieldAddrP 1 v0).bind fun v4 => (loadP false 1 v4 h3).bind fun v5 => (Γ 53 [v5] h3).bind fun p6 => (extractP p6.1 0).bind fun v7 => (extractP p6.1 1).bind fun v8 => forkP (.ptr p6.2.length 0) (p6.2 ++ [.box Z29 83 .rw]) fun v9 h10 => (storeP 29 v9 v7 h10).bind fun h11 => (loadP true 29 v9 h11).bind fun v12 => (storeP 29 v2 v12 h11).bind fun h13 => (loadP true 29 v2 h13).bind fun v14 => finP [.keep] h h13 [v14]
theorem s45_eq (Γ : PCallee) (n : Nat) (x0 : PV) (h : PHeap) : pfunK Γ n A45 [x0] h = s45 Γ n x0 h := by kernel_rfl
open Go.Vm.G in
def A47 : PFun := ⟨1, 14, (S (R <| o 1 (.box 27 (t 0)) <| o 2 (.move (.const (.bool false))) <| z) <|
  (S (R <| o 7 (.load true 13 (t 1)) <| o 8 (.call 99 [(t 7)]) <| m 6 8 <| o 9 (.extract (t 6) 0) <| o 10 (.extract (t 6) 1) <| o 11 (.extract (t 6) 2) <| m 3 9 <| m 4 10 <| m 5 11 <| z) <|
  (S (R <| m 12 5 <| b 13 .eql (t 12) (i 0) <| m 2 13 <| z) <|
  .ret))), [.tmp 2], [.keep]⟩
theorem ok47 : ∃ fn c, FunOk Tryz.prog 47 fn c A47.erase := ⟨Tryz.f47, _, ⟨Tryz.func47, rfl, by kernel_rfl, by kernel_rfl, by kernel_rfl, of_decide_eq_true (by kernel_rfl), by kernel_rfl⟩⟩
noncomputable def s47 (Γ : PCallee) (n : Nat) (x0 : PV) (h : PHeap) : Pt := forkP (.ptr h.length 0) (h ++ [.box (cellsP x0) 27 .rw]) fun v0 h1 => (loadP true 13 v0 h1).bind fun v2 => (Γ 99 [v2] h1).bind fun p3 => (extractP p3.1 0).bind fun v4 => (extractP p3.1 1).bind fun v5 => (extractP p3.1 2).bind fun v6 => (binP .eql v6 (.int .i64 0 : PV)).bind fun v7 => finP [.keep] h p3.2 [v7]
theorem s47_eq (Γ : PCallee) (n : Nat) (x0 : PV) (h : PHeap) : pfunK Γ n A47 [x0] h = s47 Γ n x0 h := by kernel_rfl
open Go.Vm.G in
def A49 : PFun := ⟨1, 9, (S (R <| o 2 (.move (.const (.bool false))) <| z) <|
  (S (R <| m 3 0 <| b 4 .eql (t 3) (i 254) <| m 5 4 <| q 8 5 false [6, 7] (m 6 0 <| b 7 .eql (t 6) (i 255) <| z) (t 7) <|
  m 2 8 <| z) <|
  .ret)), [.tmp 2], [.keep]⟩
theorem ok49 : ∃ fn c, FunOk Tryz.prog 49 fn c A49.erase := ⟨Tryz.f49, _, ⟨Tryz.func49, rfl, by kernel_rfl, by kernel_rfl, by kernel_rfl, of_decide_eq_true (by kernel_rfl), by kernel_rfl⟩⟩
noncomputable def s49 (Γ : PCallee) (n : Nat) (x0 : PV) (h : PHeap) : Pt := (binP .eql x0 (.int .i64 254 : PV)).bind fun v0 => K1 (fun v2 h3 => finP [.keep] h h3 [v2]) fun j1 => scP v0 false ( (binP .eql x0 (.int .i64 255 : PV)).bind fun v4 => j1 v4 h) (j1 (.bool true) h)
theorem s49_eq (Γ : PCallee) (n : Nat) (x0 : PV) (h : PHeap) : pfunK Γ n A49 [x0] h = s49 Γ n x0 h := by kernel_rfl
open Go.Vm.G in
def A52 : PFun := ⟨1, 13, (S (R <| o 1 (.box 27 (t 0)) <| o 2 (.move (.const (.bool false))) <| z) <|
  (S (R <| f 6 1 1 <| l 7 6 <| o 8 (.call 56 [(t 7)]) <| m 5 8 <| o 9 (.extract (t 5) 0) <| o 10 (.extract (t 5) 1) <| o 3 (.new 83 V29) <| n (.store 29 (t 3) (t 9)) <| m 4 10 <| z) <|
  (S (R <| f 11 6 3 <| l 12 11 <| m 2 12 <| z) <|
  .ret))), [.tmp 2], [.keep]⟩
theorem ok52 : ∃ fn c, FunOk Tryz.prog 52 fn c A52.erase := ⟨Tryz.f52, _, ⟨Tryz.func52, rfl, by kernel_rfl, by kernel_rfl, by kernel_rfl, of_decide_eq_true (by kernel_rfl), by kernel_rfl⟩⟩
noncomputable def s52 (Γ : PCallee) (n : Nat) (x0 : PV) (h : PHeap) : Pt := forkP (.ptr h.length 0) (h ++ [.box (cellsP x0) 27 .rw]) fun v0 h1 => (fieldAddrP 1 v0).bind fun v2 => (loadP false 1 v2 h1).bind fun v3 => (Γ 56 [v3] h1).bind fun p4 => (extractP p4.1 0).bind fun v5 => (extractP p4.1 1).bind fun v6 => forkP (.ptr p4.2.length 0) (p4.2 ++ [.box Z29 83 .rw]) fun v7 h8 => (storeP 29 v7 v5 h8).bind fun h9 => (fieldAddrP 6 v7).bind fun v10 => (loadP false 1 v10 h9).bind fun v11 => finP [.keep] h h9 [v11]
theorem s52_eq (Γ : PCallee) (n : Nat) (x0 : PV) (h : PHeap) : pfunK Γ n A52 [x0] h = s52 Γ n x0 h := by kernel_rfl
open Go.Vm.G in
def A53 : PFun := ⟨1, 11, (S (R <| o 2 (.new 83 V29) <| o 3 (.move (i 0)) <| z) <|
  (S (S (R <| m 4 0 <| o 5 (.call 101 [(t 4)]) <| o 6 (.un .not (t 5)) <| z) <|
  (.cond (t 6) [] [3, 7]
  (S (R <| o 7 (.build V29 []) <| n (.store 29 (t 2) (t 7)) <| o 3 (.move (i 6)) <| z) <|
  .ret)
  .skip)) <|
  (S (R <| o 8 (.call 102 []) <| m 9 0 <| o 10 (.indexArr 7 true 29 (t 8) (t 9)) <| n (.store 29 (t 2) (t 10)) <| o 3 (.move (i 0)) <| z) <|
  .ret))), [.cell 2 true 29, .tmp 3], [.keep, .keep]⟩
theorem ok53 : ∃ fn c, FunOk Tryz.prog 53 fn c A53.erase := ⟨Tryz.f53, _, ⟨Tryz.func53, rfl, by kernel_rfl, by kernel_rfl, by kernel_rfl, of_decide_eq_true (by kernel_rfl), by kernel_rfl⟩⟩
noncomputable def s53 (Γ : PCallee) (n : Nat) (x0 : PV) (h : PHeap) : Pt := forkP (.ptr h.length 0) (h ++ [.box Z29 83 .rw]) fun v0 h1 => (Γ 101 [x0] h1).bind fun p2 => (unP .not p2.1).bind fun v3 => KL (fun w5 h6 => (Γ 102 [] h6).bind fun p7 => (indexArrP 7 true 29 p7.1 x0).bind fun v8 => (storeP 29 v0 v8 p7.2).bind fun h9 => (loadP true 29 v0 h9).bind fun v10 => finP [.keep, .keep] h h9 [v10, (.int .i64 0 : PV)]) fun j4 => ifP v3 ( (fillP Z29 []).bind fun l11 => (storeP 29 v0 (PV.agg l11) p2.2).bind fun h12 => (loadP true 29 v0 h12).bind fun v13 => finP [.keep, .keep] h h12 [v13, (.int .i64 6 : PV)]) ( j4 [] p2.2)
theorem s53_eq (Γ : PCallee) (n : Nat) (x0 : PV) (h : PHeap) : pfunK Γ n A53 [x0] h = s53 Γ n x0 h := by kernel_rfl
open Go.Vm.G in
def A54 : PFun := ⟨3, 15, (S (R <| o 6 (.move (.const (.bool false))) <| z) <|
  (S (R <| m 7 0 <| m 8 1 <| b 9 .geq (t 7) (t 8) <| m 10 9 <| q 14 10 true [11, 12, 13] (m 11 0 <| m 12 2 <| b 13 .leq (t 11) (t 12) <| z) (t 13) <|
  m 6 14 <| z) <|
  .ret)), [.tmp 6], [.keep]⟩
theorem ok54 : ∃ fn c, FunOk Tryz.prog 54 fn c A54.erase := ⟨Tryz.f54, _, ⟨Tryz.func54, rfl, by kernel_rfl, by kernel_rfl, by kernel_rfl, of_decide_eq_true (by kernel_rfl), by kernel_rfl⟩⟩
noncomputable def s54 (Γ : PCallee) (n : Nat) (x0 : PV) (x1 : PV) (x2 : PV) (h : PHeap) : Pt := (binP .geq x0 x1).bind fun v0 => K1 (fun v2 h3 => finP [.keep] h h3 [v2]) fun j1 => scP v0 true ( (binP .leq x0 x2).bind fun v4 => j1 v4 h) (j1 (.bool false) h)
theorem s54_eq (Γ : PCallee) (n : Nat) (x0 : PV) (x1 : PV) (x2 : PV) (h : PHeap) : pfunK Γ n A54 [x0, x1, x2] h = s54 Γ n x0 x1 x2 h := by kernel_rfl
open Go.Vm.G in
def A55 : PFun := ⟨2, 22, (S (R <| o 4 (.new 39 [(.int .i64 0), (.slice none 0 0)]) <| o 5 (.move (i 0)) <| z) <|
  (S (.block 0 [] (g 5 11)
  (S (R <| m 7 1 <| o 8 (.call 103 [(t 7)]) <| o 9 (.un .not (t 8)) <| m 6 9 <| z) <|
  (.cond (t 6) [] ([5] ++ g 10 6)
  (S (R <| o 10 (.build [(.int .i64 0), (.slice none 0 0)] []) <| n (.store 2 (t 4) (t 10)) <| o 5 (.move (i 1)) <| z) <|
  .ret)
  (S (R <| m 12 0 <| o 13 (.call 104 [(t 12), (i 1), (i 64)]) <| o 14 (.un .not (t 13)) <| m 11 14 <| z) <|
  (.cond (t 11) [] [5, 15]
  (S (R <| o 15 (.build [(.int .i64 0), (.slice none 0 0)] []) <| n (.store 2 (t 4) (t 15)) <| o 5 (.move (i 5)) <| z) <|
  .ret)
  .skip))))) <|
  (S (R <| m 16 0 <| m 17 0 <| m 18 1 <| b 19 .mul (t 17) (t 18) <| o 20 (.mkSlice 41 [(.int .i64 0), (.int .i64 0), (.int .i64 0), (.int .i64 0), (.int .i64 0), (.int .i64 0)] (t 19) (t 19)) <| o 21 (.build [(.int .i64 0), (.slice none 0 0)] [(0, 1, (t 16)), (1, 1, (t 20))]) <| n (.store 2 (t 4) (t 21)) <| o 5 (.move (i 0)) <| z) <|
  .ret))), [.cell 4 true 2, .tmp 5], [(.agg [.keep, (.flat 6)]), .keep]⟩
theorem ok55 : ∃ fn c, FunOk Tryz.prog 55 fn c A55.erase := ⟨Tryz.f55, _, ⟨Tryz.func55, rfl, by kernel_rfl, by kernel_rfl, by kernel_rfl, of_decide_eq_true (by kernel_rfl), by kernel_rfl⟩⟩
noncomputable def s55 (Γ : PCallee) (n : Nat) (x0 : PV) (x1 : PV) (h : PHeap) : Pt := forkP (.ptr h.length 0) (h ++ [.box [.int .i64 0, .nilS] 39 .rw]) fun v0 h1 => KL (fun w3 h4 => (binP .mul x0 x1).bind fun v5 => (mkSliceP 41 [.int .i64 0, .int .i64 0, .int .i64 0, .int .i64 0, .int .i64 0, .int .i64 0] v5 v5 h4).bind fun p6 => (fillP [.int .i64 0, .nilS] [(0, 1, x0), (1, 1, p6.1)]).bind fun l7 => (storeP 2 v0 (PV.agg l7) p6.2).bind fun h8 => (loadP true 2 v0 h8).bind fun v9 => finP [(.agg [.keep, (.flat 6)]), .keep] h h8 [v9, (.int .i64 0 : PV)]) fun j2 => (Γ 103 [x1] h1).bind fun p10 => (unP .not p10.1).bind fun v11 => KL (fun w13 h14 => j2 [] h14) fun j12 => ifP v11 ( (fillP [.int .i64 0, .nilS] []).bind fun l15 => (storeP 2 v0 (PV.agg l15) p10.2).bind fun h16 => (loadP true 2 v0 h16).bind fun v17 => finP [(.agg [.keep, (.flat 6)]), .keep] h h16 [v17, (.int .i64 1 : PV)]) ( (Γ 104 [x0, (.int .i64 1 : PV), (.int .i64 64 : PV)] p10.2).bind fun p18 => (unP .not p18.1).bind fun v19 => KL (fun w21 h22 => j12 [] h22) fun j20 => ifP v19 ( (fillP [.int .i64 0, .nilS] []).bind fun l23 => (storeP 2 v0 (PV.agg l23) p18.2).bind fun h24 => (loadP true 2 v0 h24).bind fun v25 => finP [(.agg [.keep, (.flat 6)]), .keep] h h24 [v25, (.int .i64 5 : PV)]) ( j20 [] p18.2))
theorem s55_eq (Γ : PCallee) (n : Nat) (x0 : PV) (x1 : PV) (h : PHeap) : pfunK Γ n A55 [x0, x1] h = s55 Γ n x0 x1 h := by kernel_rfl
open Go.Vm.G in
def A56 : PFun := ⟨1, 24, (S (R <| o 2 (.new 83 V29) <| o 3 (.move (i 0)) <| z) <|
  (S (S (R <| m 4 0 <| z) <|
  (.block 0 [] ([3] ++ g 5 18)
  (S (R <| b 6 .eql (t 4) (i 1) <| m 5 6 <| z) <|
  (.cond (t 5) [] ([3] ++ g 7 16)
  (S (R <| o 7 (.build V29 [(0, 1, (.const (.string ⟨#[102, 111, 117, 114]⟩))), (1, 1, (i 4)), (2, 1, (i 32)), (3, 1, (i 64)), (4, 1, (i 49)), (5, 1, (i 84)), (9, 1, (i 1)), (10, 1, (i 453)), (11, 1, (i 3424)), (16, 1, (i 5)), (17, 1, (.const (.bool true))), (18, 1, (i 1)), (19, 1, (.const (.bool true))), (21, 1, (i 1)), (22, 1, (.const (.bool true))), (25, 1, (.const (.bool true)))]) <| n (.store 29 (t 2) (t 7)) <| o 3 (.move (i 0)) <| z) <|
  .ret)
  (S (R <| b 9 .eql (t 4) (i 2) <| m 8 9 <| z) <|
  (.cond (t 8) [] ([3] ++ g 10 13)
  (S (R <| o 10 (.build V29 [(0, 1, (.const (.string ⟨#[115, 99, 114, 101, 97, 109]⟩))), (1, 1, (i 16)), (2, 1, (i 32)), (3, 1, (i 64)), (4, 1, (i 13)), (5, 1, (i 108)), (7, 1, (.const (.bool true))), (9, 1, (i 1)), (10, 1, (i 64)), (11, 1, (i 32767)), (16, 1, (i 5))]) <| n (.store 29 (t 2) (t 10)) <| o 3 (.move (i 0)) <| z) <|
  .ret)
  (S (R <| b 12 .eql (t 4) (i 3) <| m 11 12 <| z) <|
  (.cond (t 11) [] ([3] ++ g 13 10)
  (S (R <| o 13 (.build V29 [(0, 1, (.const (.string ⟨#[102, 97, 115, 116]⟩))), (1, 1, (i 16)), (2, 1, (i 32)), (4, 1, (i 1)), (5, 1, (i 96)), (6, 1, (.const (.bool true))), (7, 1, (.const (.bool true))), (8, 1, (.const (.bool true))), (10, 1, (i 32)), (11, 1, (i 65535)), (12, 1, (.const (.bool true))), (16, 1, (i 6)), (17, 1, (.const (.bool true))), (19, 1, (.const (.bool true))), (20, 1, (.const (.bool true))), (21, 1, (i 1)), (23, 1, (.const (.bool true))), (24, 1, (.const (.bool true))), (25, 1, (.const (.bool true))), (26, 1, (.const (.bool true))), (27, 1, (.const (.bool true)))]) <| n (.store 29 (t 2) (t 13)) <| o 3 (.move (i 0)) <| z) <|
  .ret)
  (S (R <| b 15 .eql (t 4) (i 4) <| m 14 15 <| z) <|
  (.cond (t 14) [] ([3] ++ g 16 7)
  (S (R <| o 16 (.build V29 [(0, 1, (.const (.string ⟨#[105, 109, 112, 117, 108, 115, 101]⟩))), (1, 1, (i 16)), (2, 1, (i 32)), (4, 1, (i 1)), (5, 1, (i 120)), (6, 1, (.const (.bool true))), (7, 1, (.const (.bool true))), (8, 1, (.const (.bool true))), (10, 1, (i 16)), (11, 1, (i 65535)), (15, 1, (.const (.bool true))), (16, 1, (i 6)), (19, 1, (.const (.bool true))), (21, 1, (i 2)), (23, 1, (.const (.bool true))), (27, 1, (.const (.bool true)))]) <| n (.store 29 (t 2) (t 16)) <| o 3 (.move (i 0)) <| z) <|
  .ret)
  (S (R <| b 18 .eql (t 4) (i 5) <| m 17 18 <| z) <|
  (.cond (t 17) [] ([3] ++ g 19 4)
  (S (R <| o 19 (.build V29 [(0, 1, (.const (.string ⟨#[99, 111, 109, 112, 111, 115, 101]⟩))), (1, 1, (i 8)), (2, 1, (i 32)), (3, 1, (i 64)), (4, 1, (i 13)), (5, 1, (i 72)), (9, 1, (i 2)), (13, 1, (.const (.bool true))), (16, 1, (i 5)), (18, 1, (i 2)), (28, 1, (.const (.bool true)))]) <| n (.store 29 (t 2) (t 19)) <| o 3 (.move (i 0)) <| z) <|
  .ret)
  (S (R <| b 21 .eql (t 4) (i 6) <| m 20 21 <| z) <|
  (.cond (t 20) [] [3, 22]
  (S (R <| o 22 (.build V29 [(0, 1, (.const (.string ⟨#[99, 104, 105, 112]⟩))), (1, 1, (i 4)), (2, 1, (i 32)), (4, 1, (i 13)), (5, 1, (i 108)), (6, 1, (.const (.bool true))), (9, 1, (i 1)), (10, 1, (i 16)), (11, 1, (i 65535)), (14, 1, (.const (.bool true))), (16, 1, (i 5)), (17, 1, (.const (.bool true))), (18, 1, (i 2)), (23, 1, (.const (.bool true))), (27, 1, (.const (.bool true)))]) <| n (.store 29 (t 2) (t 22)) <| o 3 (.move (i 0)) <| z) <|
  .ret)
  .skip)))))))))))))) <|
  (S (R <| o 23 (.build V29 []) <| n (.store 29 (t 2) (t 23)) <| o 3 (.move (i 6)) <| z) <|
  .ret))), [.cell 2 true 29, .tmp 3], [.keep, .keep]⟩
theorem ok56 : ∃ fn c, FunOk Tryz.prog 56 fn c A56.erase := ⟨Tryz.f56, _, ⟨Tryz.func56, rfl, by kernel_rfl, by kernel_rfl, by kernel_rfl, of_decide_eq_true (by kernel_rfl), by kernel_rfl⟩⟩
noncomputable def s56 (Γ : PCallee) (n : Nat) (x0 : PV) (h : PHeap) : Pt := forkP (.ptr h.length 0) (h ++ [.box Z29 83 .rw]) fun v0 h1 => KL (fun w3 h4 => (fillP Z29 []).bind fun l5 => (storeP 29 v0 (PV.agg l5) h4).bind fun h6 => (loadP true 29 v0 h6).bind fun v7 => finP [.keep, .keep] h h6 [v7, (.int .i64 6 : PV)]) fun j2 => (binP .eql x0 (.int .i64 1 : PV)).bind fun v8 => KL (fun w10 h11 => j2 [] h11) fun j9 => ifP v8 ( (fillP Z29 [(0, 1, (.str ⟨#[102, 111, 117, 114]⟩ : PV)), (1, 1, (.int .i64 4 : PV)), (2, 1, (.int .i64 32 : PV)), (3, 1, (.int .i64 64 : PV)), (4, 1, (.int .i64 49 : PV)), (5, 1, (.int .i64 84 : PV)), (9, 1, (.int .i64 1 : PV)), (10, 1, (.int .i64 453 : PV)), (11, 1, (.int .i64 3424 : PV)), (16, 1, (.int .i64 5 : PV)), (17, 1, (.bool true : PV)), (18, 1, (.int .i64 1 : PV)), (19, 1, (.bool true : PV)), (21, 1, (.int .i64 1 : PV)), (22, 1, (.bool true : PV)), (25, 1, (.bool true : PV))]).bind fun l12 => (storeP 29 v0 (PV.agg l12) h1).bind fun h13 => (loadP true 29 v0 h13).bind fun v14 => finP [.keep, .keep] h h13 [v14, (.int .i64 0 : PV)]) ( (binP .eql x0 (.int .i64 2 : PV)).bind fun v15 => KL (fun w17 h18 => j9 [] h18) fun j16 => ifP v15 ( (fillP Z29 [(0, 1, (.str ⟨#[115, 99, 114, 101, 97, 109]⟩ : PV)), (1, 1, (.int .i64 16 : PV)), (2, 1, (.int .i64 32 : PV)), (3, 1, (.int .i64 64 : PV)), (4, 1, (.int .i64 13 : PV)), (5, 1, (.int .i64 108 : PV)), (7, 1, (.bool true : PV)), (9, 1, (.int .i64 1 : PV)), (10, 1, (.int .i64 64 : PV)), (11, 1, (.int .i64 32767 : PV)), (16, 1, (.int .i64 5 : PV))]).bind fun l19 => (storeP 29 v0 (PV.agg l19) h1).bind fun h20 => (loadP true 29 v0 h20).bind fun v21 => finP [.keep, .keep] h h20 [v21, (.int .i64 0 : PV)]) ( (binP .eql x0 (.int .i64 3 : PV)).bind fun v22 => KL (fun w24 h25 => j16 [] h25) fun j23 => ifP v22 ( (fillP Z29 [(0, 1, (.str ⟨#[102, 97, 115, 116]⟩ : PV)), (1, 1, (.int .i64 16 : PV)), (2, 1, (.int .i64 32 : PV)), (4, 1, (.int .i64 1 : PV)), (5, 1, (.int .i64 96 : PV)), (6, 1, (.bool true : PV)), (7, 1, (.bool true : PV)), (8, 1, (.bool true : PV)), (10, 1, (.int .i64 32 : PV)), (11, 1, (.int .i64 65535 : PV)), (12, 1, (.bool true : PV)), (16, 1, (.int .i64 6 : PV)), (17, 1, (.bool true : PV)), (19, 1, (.bool true : PV)), (20, 1, (.bool true : PV)), (21, 1, (.int .i64 1 : PV)), (23, 1, (.bool true : PV)), (24, 1, (.bool true : PV)), (25, 1, (.bool true : PV)), (26, 1, (.bool true : PV)), (27, 1, (.bool true : PV))]).bind fun l26 => (storeP 29 v0 (PV.agg l26) h1).bind fun h27 => (loadP true 29 v0 h27).bind fun v28 => finP [.keep, .keep] h h27 [v28, (.int .i64 0 : PV)]) ( (binP .eql x0 (.int .i64 4 : PV)).bind fun v29 => KL (fun w31 h32 => j23 [] h32) fun j30 => ifP v29 ( (fillP Z29 [(0, 1, (.str ⟨#[105, 109, 112, 117, 108, 115, 101]⟩ : PV)), (1, 1, (.int .i64 16 : PV)), (2, 1, (.int .i64 32 : PV)), (4, 1, (.int .i64 1 : PV)), (5, 1, (.int .i64 120 : PV)), (6, 1, (.bool true : PV)), (7, 1, (.bool true : PV)), (8, 1, (.bool true : PV)), (10, 1, (.int .i64 16 : PV)), (11, 1, (.int .i64 65535 : PV)), (15, 1, (.bool true : PV)), (16, 1, (.int .i64 6 : PV)), (19, 1, (.bool true : PV)), (21, 1, (.int .i64 2 : PV)), (23, 1, (.bool true : PV)), (27, 1, (.bool true : PV))]).bind fun l33 => (storeP 29 v0 (PV.agg l33) h1).bind fun h34 => (loadP true 29 v0 h34).bind fun v35 => finP [.keep, .keep] h h34 [v35, (.int .i64 0 : PV)]) ( (binP .eql x0 (.int .i64 5 : PV)).bind fun v36 => KL (fun w38 h39 => j30 [] h39) fun j37 => ifP v36 ( (fillP Z29 [(0, 1, (.str ⟨#[99, 111, 109, 112, 111, 115, 101]⟩ : PV)), (1, 1, (.int .i64 8 : PV)), (2, 1, (.int .i64 32 : PV)), (3, 1, (.int .i64 64 : PV)), (4, 1, (.int .i64 13 : PV)), (5, 1, (.int .i64 72 : PV)), (9, 1, (.int .i64 2 : PV)), (13, 1, (.bool true : PV)), (16, 1, (.int .i64 5 : PV)), (18, 1, (.int .i64 2 : PV)), (28, 1, (.bool true : PV))]).bind fun l40 => (storeP 29 v0 (PV.agg l40) h1).bind fun h41 => (loadP true 29 v0 h41).bind fun v42 => finP [.keep, .keep] h h41 [v42, (.int .i64 0 : PV)]) ( (binP .eql x0 (.int .i64 6 : PV)).bind fun v43 => KL (fun w45 h46 => j37 [] h46) fun j44 => ifP v43 ( (fillP Z29 [(0, 1, (.str ⟨#[99, 104, 105, 112]⟩ : PV)), (1, 1, (.int .i64 4 : PV)), (2, 1, (.int .i64 32 : PV)), (4, 1, (.int .i64 13 : PV)), (5, 1, (.int .i64 108 : PV)), (6, 1, (.bool true : PV)), (9, 1, (.int .i64 1 : PV)), (10, 1, (.int .i64 16 : PV)), (11, 1, (.int .i64 65535 : PV)), (14, 1, (.bool true : PV)), (16, 1, (.int .i64 5 : PV)), (17, 1, (.bool true : PV)), (18, 1, (.int .i64 2 : PV)), (23, 1, (.bool true : PV)), (27, 1, (.bool true : PV))]).bind fun l47 => (storeP 29 v0 (PV.agg l47) h1).bind fun h48 => (loadP true 29 v0 h48).bind fun v49 => finP [.keep, .keep] h h48 [v49, (.int .i64 0 : PV)]) ( j44 [] h1))))))
theorem s56_eq (Γ : PCallee) (n : Nat) (x0 : PV) (h : PHeap) : pfunK Γ n A56 [x0] h = s56 Γ n x0 h := by kernel_rfl
open Go.Vm.G in
def A57 : PFun := ⟨3, 15, (S (R <| o 6 (.move (.const (.bool false))) <| z) <|
  (S (R <| m 7 1 <| m 8 0 <| b 9 .leq (t 7) (t 8) <| m 10 9 <| q 14 10 true [11, 12, 13] (m 11 0 <| m 12 2 <| b 13 .leq (t 11) (t 12) <| z) (t 13) <|
  m 6 14 <| z) <|
  .ret)), [.tmp 6], [.keep]⟩
theorem ok57 : ∃ fn c, FunOk Tryz.prog 57 fn c A57.erase := ⟨Tryz.f57, _, ⟨Tryz.func57, rfl, by kernel_rfl, by kernel_rfl, by kernel_rfl, of_decide_eq_true (by kernel_rfl), by kernel_rfl⟩⟩
noncomputable def s57 (Γ : PCallee) (n : Nat) (x0 : PV) (x1 : PV) (x2 : PV) (h : PHeap) : Pt := (binP .leq x1 x0).bind fun v0 => K1 (fun v2 h3 => finP [.keep] h h3 [v2]) fun j1 => scP v0 true ( (binP .leq x0 x2).bind fun v4 => j1 v4 h) (j1 (.bool false) h)
theorem s57_eq (Γ : PCallee) (n : Nat) (x0 : PV) (x1 : PV) (x2 : PV) (h : PHeap) : pfunK Γ n A57 [x0, x1, x2] h = s57 Γ n x0 x1 x2 h := by kernel_rfl
open Go.Vm.G in
def A60 : PFun := ⟨1, 8, (S (R <| o 2 (.move (.const (.slice none 0 0))) <| z) <|
  (S (R <| m 4 0 <| o 5 (.call 105 [(t 4)]) <| m 3 5 <| z) <|
  (S (R <| m 6 3 <| o 7 (.call 106 [(t 6)]) <| m 2 7 <| z) <|
  .ret))), [.tmp 2], [(.flat 1)]⟩
theorem ok60 : ∃ fn c, FunOk Tryz.prog 60 fn c A60.erase := ⟨Tryz.f60, _, ⟨Tryz.func60, rfl, by kernel_rfl, by kernel_rfl, by kernel_rfl, of_decide_eq_true (by kernel_rfl), by kernel_rfl⟩⟩
noncomputable def s60 (Γ : PCallee) (n : Nat) (x0 : PV) (h : PHeap) : Pt := (Γ 105 [x0] h).bind fun p0 => (Γ 106 [p0.1] p0.2).bind fun p1 => finP [(.flat 1)] h p1.2 [p1.1]
theorem s60_eq (Γ : PCallee) (n : Nat) (x0 : PV) (h : PHeap) : pfunK Γ n A60 [x0] h = s60 Γ n x0 h := by kernel_rfl
open Go.Vm.G in
def A61 : PFun := ⟨3, 28, (S (R <| l 8 1 <| o 9 (.len false (t 8)) <| o 10 (.move (i 0)) <| z) <|
  (.block 0 [] ([5, 7] ++ g 10 18)
  (.loop [10] ([5, 7] ++ g 11 17)
  (S (R <| b 11 .lss (t 10) (t 9) <| z) <|
  (S (.cond (t 11) [] []
  .skip
  (.exit 0)) <|
  (S (.block 1 [] ([5, 7] ++ g 12 15)
  (S (R <| o 12 (.indexAddr 1 (t 8) (t 10)) <| l 13 12 <| m 5 13 <| z) <|
  (S (R <| o 14 (.load true 13 (t 2)) <| m 15 5 <| F 14 (.agg SA13) <| o 16 (.call 62 [(t 14), (t 15)]) <| o 17 (.len false (t 16)) <| o 18 (.move (i 0)) <| z) <|
  (.block 2 [] ([7] ++ g 18 9)
  (.loop [18] ([7] ++ g 19 8)
  (S (R <| b 19 .lss (t 18) (t 17) <| z) <|
  (S (.cond (t 19) [] []
  .skip
  (.exit 2)) <|
  (S (.block 3 [] ([7] ++ g 20 6)
  (S (R <| o 20 (.indexAddr 1 (t 16) (t 18)) <| l 21 20 <| m 7 21 <| z) <|
  (S (R <| m 22 0 <| m 23 7 <| o 24 (.callV (t 22) [(t 23)]) <| o 25 (.un .not (t 24)) <| z) <|
  (.cond (t 25) [] []
  .ret
  .skip)))) <|
  (R <| b 26 .add (t 18) (i 1) <| m 18 26 <| z))))))))) <|
  (R <| b 27 .add (t 10) (i 1) <| m 10 27 <| z))))))), [], []⟩
theorem ok61 : ∃ fn c, FunOk Tryz.prog 61 fn c A61.erase := ⟨Tryz.f61, _, ⟨Tryz.func61, rfl, by kernel_rfl, by kernel_rfl, by kernel_rfl, of_decide_eq_true (by kernel_rfl), by kernel_rfl⟩⟩
noncomputable def s61_L0 (Γ : PCallee) (n : Nat) (x0 : PV) (h : PHeap) (p20 : PV × PHeap) (v21 : PV) (j22 : Kt) : (Kt) → Kt := fun c25 w26 h27 => (binP .lss (nthP w26 0) v21).bind fun v28 => KL (fun w30 h31 => KL (fun w33 h34 => (binP .add (nthP w26 0) (.int .i64 1 : PV)).bind fun v35 => c25 [v35] (trim p20.2 [v35] h34)) fun j32 => (indexAddrP 1 p20.1 (nthP w26 0)).bind fun v36 => (loadP false 1 v36 h31).bind fun v37 => (callVP Γ x0 [v37] h31).bind fun p38 => (unP .not p38.1).bind fun v39 => KL (fun w41 h42 => j32 [] h42) fun j40 => ifP v39 ( finP [] h p38.2 []) ( j40 [] p38.2)) fun j29 => ifP v28 ( j29 [] h27) ( j22 [] h27)
noncomputable def s61_L1 (Γ : PCallee) (n : Nat) (x0 : PV) (x2 : PV) (h : PHeap) (v0 : PV) (v1 : PV) (j2 : Kt) : (Kt) → Kt := fun c5 w6 h7 => (binP .lss (nthP w6 0) v1).bind fun v8 => KL (fun w10 h11 => KL (fun w13 h14 => (binP .add (nthP w6 0) (.int .i64 1 : PV)).bind fun v15 => c5 [v15] (trim h [v15] h14)) fun j12 => (indexAddrP 1 v0 (nthP w6 0)).bind fun v16 => (loadP false 1 v16 h11).bind fun v17 => (loadP true 13 x2 h11).bind fun v18 => (fz (.agg SA13) v18 h11).bind fun q19 => (Γ 62 [q19.1, v17] q19.2).bind fun p20 => (lenP false p20.1).bind fun v21 => KL (fun w23 h24 => j12 [] h24) fun j22 => loopP (s61_L0 Γ n x0 h p20 v21 j22) n [(.int .i64 0 : PV)] p20.2) fun j9 => ifP v8 ( j9 [] h7) ( j2 [] h7)
noncomputable def s61 (Γ : PCallee) (n : Nat) (x0 : PV) (x1 : PV) (x2 : PV) (h : PHeap) : Pt := (loadP false 1 x1 h).bind fun v0 => (lenP false v0).bind fun v1 => KL (fun w3 h4 => finP [] h h4 []) fun j2 => loopP (s61_L1 Γ n x0 x2 h v0 v1 j2) n [(.int .i64 0 : PV)] h
theorem s61_eq (Γ : PCallee) (n : Nat) (x0 : PV) (x1 : PV) (x2 : PV) (h : PHeap) : pfunK Γ n A61 [x0, x1, x2] h = s61 Γ n x0 x1 x2 h := by kernel_rfl
open Go.Vm.G in
def A62 : PFun := ⟨2, 15, (S (R <| o 2 (.box 27 (t 0)) <| o 4 (.move (.const (.slice none 0 0))) <| z) <|
  (S (R <| f 5 12 2 <| l 6 5 <| m 7 1 <| b 8 .sub (t 7) (i 1) <| o 9 (.indexAddr 33 (t 6) (t 8)) <| o 10 (.load true 33 (t 9)) <| m 11 1 <| F 10 (.agg SA33) <| o 12 (.call 108 [(t 10), (t 11)]) <| o 13 (.mkFunc 109 [] [(t 2)]) <| o 14 (.call 107 [(t 12), (t 13)]) <| m 4 14 <| z) <|
  .ret)), [.tmp 4], [(.flat 1)]⟩
theorem ok62 : ∃ fn c, FunOk Tryz.prog 62 fn c A62.erase := ⟨Tryz.f62, _, ⟨Tryz.func62, rfl, by kernel_rfl, by kernel_rfl, by kernel_rfl, of_decide_eq_true (by kernel_rfl), by kernel_rfl⟩⟩
noncomputable def s62 (Γ : PCallee) (n : Nat) (x0 : PV) (x1 : PV) (h : PHeap) : Pt := forkP (.ptr h.length 0) (h ++ [.box (cellsP x0) 27 .rw]) fun v0 h1 => (fieldAddrP 12 v0).bind fun v2 => (loadP false 1 v2 h1).bind fun v3 => (binP .sub x1 (.int .i64 1 : PV)).bind fun v4 => (indexAddrP 33 v3 v4).bind fun v5 => (loadP true 33 v5 h1).bind fun v6 => (fz (.agg SA33) v6 h1).bind fun q7 => (Γ 108 [q7.1, x1] q7.2).bind fun p8 => (Γ 107 [p8.1, (PV.func 109 [] [v0])] p8.2).bind fun p9 => finP [(.flat 1)] h p9.2 [p9.1]
theorem s62_eq (Γ : PCallee) (n : Nat) (x0 : PV) (x1 : PV) (h : PHeap) : pfunK Γ n A62 [x0, x1] h = s62 Γ n x0 x1 h := by kernel_rfl
open Go.Vm.G in
def A63 : PFun := ⟨1, 17, (S (R <| o 1 (.box 100 (t 0)) <| o 2 (.move (.const (.slice none 0 0))) <| z) <|
  (S (R <| (.op (some 3) (.growNil 3 1) false <| z)) <|
  (S (S (R <| o 4 (.move (i 0)) <| z) <|
  (.block 0 [3] (g 4 12)
  (.loop [3, 4] (g 5 11)
  (S (S (R <| m 5 4 <| b 6 .lss (t 5) (i 256) <| z) <|
  (.cond (t 6) [] []
  .skip
  (.exit 0))) <|
  (S (.block 1 [3] (g 9 7)
  (S (R <| m 9 4 <| o 10 (.indexAddrArr 256 1 (t 1) (t 9)) <| l 11 10 <| z) <|
  (.cond (t 11) [3] (g 12 4)
  (R <| m 12 3 <| m 13 4 <| (.op (some 14) (.buildF 3 [(.int .i64 0)] 1 [(0, 1, (t 13))]) false <| o 15 (.append 3 1 (t 12) (t 14)) <| m 3 15 <| z))
  .skip))) <|
  (R <| m 7 4 <| b 8 .add (t 7) (i 1) <| m 4 8 <| z)))))) <|
  (S (R <| m 16 3 <| m 2 16 <| z) <|
  .ret)))), [.tmp 2], [(.flat 1)]⟩
theorem ok63 : ∃ fn c, FunOk Tryz.prog 63 fn c A63.erase := ⟨Tryz.f63, _, ⟨Tryz.func63, rfl, by kernel_rfl, by kernel_rfl, by kernel_rfl, of_decide_eq_true (by kernel_rfl), by kernel_rfl⟩⟩
noncomputable def s63_L0 (Γ : PCallee) (n : Nat) (v0 : PV) (h3 : PHeap) (j4 : Kt) : (Kt) → Kt := fun c7 w8 h9 => (binP .lss (nthP w8 1) (.int .i64 256 : PV)).bind fun v10 => KL (fun w12 h13 => KL (fun w15 h16 => (binP .add (nthP w8 1) (.int .i64 1 : PV)).bind fun v17 => c7 [(nthP w15 0), v17] (trim h3 [(nthP w15 0), v17] h16)) fun j14 => (indexAddrArrP 256 1 v0 (nthP w8 1)).bind fun v18 => (loadP false 1 v18 h13).bind fun v19 => KL (fun w21 h22 => j14 [(nthP w21 0)] h22) fun j20 => ifP v19 ( (fillP (repP [.int .i64 0] 1) [(0, 1, (nthP w8 1))]).bind fun l23 => guardP (l23.all pure1) ( forkP (.frz 1 (chunk 1 1 l23)) (h13) fun v24 h25 => (appendP 3 1 (nthP w8 0) v24 h25).bind fun p26 => j20 [p26.1] p26.2)) ( j20 [(nthP w8 0)] h13)) fun j11 => ifP v10 ( j11 [] h9) ( j4 [(nthP w8 0)] h9)
noncomputable def s63 (Γ : PCallee) (n : Nat) (x0 : PV) (h : PHeap) : Pt := forkP (.ptr h.length 0) (h ++ [.box (cellsP x0) 100 .rw]) fun v0 h1 => forkP (.ref h1.length 0 0 0 1) (h1 ++ [.log [] 1 3 .rw]) fun v2 h3 => KL (fun w5 h6 => finP [(.flat 1)] h h6 [(nthP w5 0)]) fun j4 => loopP (s63_L0 Γ n v0 h3 j4) n [v2, (.int .i64 0 : PV)] h3
theorem s63_eq (Γ : PCallee) (n : Nat) (x0 : PV) (h : PHeap) : pfunK Γ n A63 [x0] h = s63 Γ n x0 h := by kernel_rfl
open Go.Vm.G in
def A64 : PFun := ⟨2, 46, (S (R <| o 2 (.box 57 (t 0)) <| o 4 (.move (.const (.slice none 0 0))) <| z) <|
  (S (S (R <| o 9 (.load true 33 (t 2)) <| o 10 (.call 110 [(t 9)]) <| o 11 (.un .not (t 10)) <| z) <|
  (.cond (t 11) [] [4]
  (S (R <| o 4 (.move (.const (.slice none 0 0))) <| z) <|
  .ret)
  .skip)) <|
  (S (S (R <| f 12 1 2 <| l 13 12 <| o 14 (.len false (t 13)) <| b 15 .eql (t 14) (i 0) <| z) <|
  (.cond (t 15) [] ([4] ++ g 16 4)
  (S (S (R <| m 16 1 <| b 17 .gtr (t 16) (i 0) <| z) <|
  (.cond (t 17) [] [4, 18, 19]
  (S (R <| m 18 1 <| (.op (some 19) (.buildF 3 [(.int .i64 0)] 1 [(0, 1, (t 18))]) false <| m 4 19 <| z)) <|
  .ret)
  .skip)) <|
  (S (R <| o 4 (.move (.const (.slice none 0 0))) <| z) <|
  .ret))
  .skip)) <|
  (S (R <| o 5 (.new 135 V32) <| z) <|
  (S (S (R <| o 6 (.move (i 0)) <| z) <|
  (.block 0 [] ([6] ++ g 20 14)
  (.loop [6] (g 20 14)
  (S (S (R <| m 20 6 <| f 21 1 2 <| l 22 21 <| o 23 (.len false (t 22)) <| b 24 .lss (t 20) (t 23) <| z) <|
  (.cond (t 24) [] []
  .skip
  (.exit 0))) <|
  (S (.block 1 [] (g 27 7)
  (R <| f 27 1 2 <| l 28 27 <| m 29 6 <| o 30 (.indexAddr 2 (t 28) (t 29)) <| f 31 1 30 <| l 32 31 <| o 33 (.indexAddrArr 32 1 (t 5) (t 32)) <| n (.store 1 (t 33) (.const (.bool true))) <| z)) <|
  (R <| m 25 6 <| b 26 .add (t 25) (i 1) <| m 6 26 <| z)))))) <|
  (S (R <| (.op (some 7) (.growNil 3 1) false <| z)) <|
  (S (S (R <| o 8 (.move (i 1)) <| z) <|
  (.block 2 [7] ([8] ++ g 34 11)
  (.loop [7, 8] (g 34 11)
  (S (S (R <| m 34 8 <| b 35 .leq (t 34) (i 31) <| z) <|
  (.cond (t 35) [] []
  .skip
  (.exit 2))) <|
  (S (.block 3 [7] (g 38 7)
  (S (R <| m 38 8 <| o 39 (.indexAddrArr 32 1 (t 5) (t 38)) <| l 40 39 <| z) <|
  (.cond (t 40) [7] (g 41 4)
  (R <| m 41 7 <| m 42 8 <| (.op (some 43) (.buildF 3 [(.int .i64 0)] 1 [(0, 1, (t 42))]) false <| o 44 (.append 3 1 (t 41) (t 43)) <| m 7 44 <| z))
  .skip))) <|
  (R <| m 36 8 <| b 37 .add (t 36) (i 1) <| m 8 37 <| z)))))) <|
  (S (R <| m 45 7 <| m 4 45 <| z) <|
  .ret)))))))), [.tmp 4], [(.flat 1)]⟩
theorem ok64 : ∃ fn c, FunOk Tryz.prog 64 fn c A64.erase := ⟨Tryz.f64, _, ⟨Tryz.func64, rfl, by kernel_rfl, by kernel_rfl, by kernel_rfl, of_decide_eq_true (by kernel_rfl), by kernel_rfl⟩⟩
noncomputable def s64_L0 (Γ : PCallee) (n : Nat) (v15 : PV) (h21 : PHeap) (j22 : Kt) : (Kt) → Kt := fun c25 w26 h27 => (binP .leq (nthP w26 1) (.int .i64 31 : PV)).bind fun v28 => KL (fun w30 h31 => KL (fun w33 h34 => (binP .add (nthP w26 1) (.int .i64 1 : PV)).bind fun v35 => c25 [(nthP w33 0), v35] (trim h21 [(nthP w33 0), v35] h34)) fun j32 => (indexAddrArrP 32 1 v15 (nthP w26 1)).bind fun v36 => (loadP false 1 v36 h31).bind fun v37 => KL (fun w39 h40 => j32 [(nthP w39 0)] h40) fun j38 => ifP v37 ( (fillP (repP [.int .i64 0] 1) [(0, 1, (nthP w26 1))]).bind fun l41 => guardP (l41.all pure1) ( forkP (.frz 1 (chunk 1 1 l41)) (h31) fun v42 h43 => (appendP 3 1 (nthP w26 0) v42 h43).bind fun p44 => j38 [p44.1] p44.2)) ( j38 [(nthP w26 0)] h31)) fun j29 => ifP v28 ( j29 [] h27) ( j22 [(nthP w26 0)] h27)
noncomputable def s64_L1 (Γ : PCallee) (n : Nat) (v0 : PV) (v15 : PV) (h16 : PHeap) (j17 : Kt) : (Kt) → Kt := fun c45 w46 h47 => (fieldAddrP 1 v0).bind fun v48 => (loadP false 1 v48 h47).bind fun v49 => (lenP false v49).bind fun v50 => (binP .lss (nthP w46 0) v50).bind fun v51 => KL (fun w53 h54 => KL (fun w56 h57 => (binP .add (nthP w46 0) (.int .i64 1 : PV)).bind fun v58 => c45 [v58] (trim h16 [v58] h57)) fun j55 => (fieldAddrP 1 v0).bind fun v59 => (loadP false 1 v59 h54).bind fun v60 => (indexAddrP 2 v60 (nthP w46 0)).bind fun v61 => (fieldAddrP 1 v61).bind fun v62 => (loadP false 1 v62 h54).bind fun v63 => (indexAddrArrP 32 1 v15 v63).bind fun v64 => (storeP 1 v64 (.bool true : PV) h54).bind fun h65 => j55 [] h65) fun j52 => ifP v51 ( j52 [] h47) ( j17 [] h47)
noncomputable def s64 (Γ : PCallee) (n : Nat) (x0 : PV) (x1 : PV) (h : PHeap) : Pt := forkP (.ptr h.length 0) (h ++ [.box (cellsP x0) 57 .rw]) fun v0 h1 => (loadP true 33 v0 h1).bind fun v2 => (Γ 110 [v2] h1).bind fun p3 => (unP .not p3.1).bind fun v4 => KL (fun w6 h7 => (fieldAddrP 1 v0).bind fun v8 => (loadP false 1 v8 h7).bind fun v9 => (lenP false v9).bind fun v10 => (binP .eql v10 (.int .i64 0 : PV)).bind fun v11 => KL (fun w13 h14 => forkP (.ptr h14.length 0) (h14 ++ [.box Z32 135 .rw]) fun v15 h16 => KL (fun w18 h19 => forkP (.ref h19.length 0 0 0 1) (h19 ++ [.log [] 1 3 .rw]) fun v20 h21 => KL (fun w23 h24 => finP [(.flat 1)] h h24 [(nthP w23 0)]) fun j22 => loopP (s64_L0 Γ n v15 h21 j22) n [v20, (.int .i64 1 : PV)] h21) fun j17 => loopP (s64_L1 Γ n v0 v15 h16 j17) n [(.int .i64 0 : PV)] h16) fun j12 => ifP v11 ( (binP .gtr x1 (.int .i64 0 : PV)).bind fun v66 => KL (fun w68 h69 => finP [(.flat 1)] h h69 [(.nilS : PV)]) fun j67 => ifP v66 ( (fillP (repP [.int .i64 0] 1) [(0, 1, x1)]).bind fun l70 => guardP (l70.all pure1) ( forkP (.frz 1 (chunk 1 1 l70)) (h7) fun v71 h72 => finP [(.flat 1)] h h72 [v71])) ( j67 [] h7)) ( j12 [] h7)) fun j5 => ifP v4 ( finP [(.flat 1)] h p3.2 [(.nilS : PV)]) ( j5 [] p3.2)
theorem s64_eq (Γ : PCallee) (n : Nat) (x0 : PV) (x1 : PV) (h : PHeap) : pfunK Γ n A64 [x0, x1] h = s64 Γ n x0 x1 h := by kernel_rfl
open Go.Vm.G in
def A65 : PFun := ⟨3, 57, (S (R <| o 3 (.box 27 (t 0)) <| o 6 (.move (i 0)) <| o 7 (.move (i 0)) <| z) <|
  (S (R <| o 9 (.load true 13 (t 3)) <| o 10 (.call 45 [(t 9)]) <| o 8 (.new 83 V29) <| n (.store 29 (t 8) (t 10)) <| z) <|
  (S (.block 0 [6, 7] (g 11 39)
  (S (R <| f 14 6 8 <| l 15 14 <| m 16 15 <| q 23 16 true (g 17 6) (m 17 1 <| f 18 12 3 <| l 19 18 <| o 20 (.len false (t 19)) <| o 21 (.call 54 [(t 17), (i 1), (t 20)]) <| o 22 (.un .not (t 21)) <| z) (t 22) <|
  m 13 23 <| z) <|
  (.cond (t 13) [6, 7] ([11, 12] ++ g 24 26)
  (S (S (R <| f 24 1 3 <| l 25 24 <| b 26 .eql (t 25) (i 6) <| z) <|
  (.cond (t 26) [] [6, 7, 27]
  (S (R <| m 27 2 <| m 6 27 <| o 7 (.move (i 0)) <| z) <|
  .ret)
  .skip)) <|
  (S (R <| o 6 (.move (i 0)) <| o 7 (.move (i 0)) <| z) <|
  .ret))
  (S (R <| f 29 6 8 <| l 30 29 <| m 28 30 <| z) <|
  (.cond (t 28) [6, 7] ([11, 12] ++ g 31 19)
  (R <| f 32 12 3 <| l 33 32 <| m 34 1 <| b 35 .sub (t 34) (i 1) <| o 36 (.indexAddr 33 (t 33) (t 35)) <| o 37 (.load true 33 (t 36)) <| m 38 2 <| m 39 1 <| o 40 (.call 111 [(t 37), (t 38), (t 39)]) <| m 31 40 <| o 41 (.extract (t 31) 0) <| o 42 (.extract (t 31) 1) <| m 6 41 <| m 7 42 <| z)
  (S (R <| m 44 1 <| f 45 11 3 <| l 46 45 <| o 47 (.len false (t 46)) <| o 48 (.call 54 [(t 44), (i 1), (t 47)]) <| o 49 (.un .not (t 48)) <| m 43 49 <| z) <|
  (.cond (t 43) [6, 7] [11, 12]
  (S (R <| o 6 (.move (i 0)) <| o 7 (.move (i 0)) <| z) <|
  .ret)
  (R <| m 11 2 <| m 12 1 <| m 6 11 <| m 7 12 <| z)))))))) <|
  (S (S (R <| m 50 7 <| f 51 11 3 <| l 52 51 <| o 53 (.len false (t 52)) <| b 54 .gtr (t 50) (t 53) <| z) <|
  (.cond (t 54) [7] []
  (R <| o 7 (.move (i 0)) <| z)
  .skip)) <|
  (S (R <| m 55 6 <| m 56 7 <| m 6 55 <| m 7 56 <| z) <|
  .ret))))), [.tmp 6, .tmp 7], [.keep, .keep]⟩
theorem ok65 : ∃ fn c, FunOk Tryz.prog 65 fn c A65.erase := ⟨Tryz.f65, _, ⟨Tryz.func65, rfl, by kernel_rfl, by kernel_rfl, by kernel_rfl, of_decide_eq_true (by kernel_rfl), by kernel_rfl⟩⟩
noncomputable def s65 (Γ : PCallee) (n : Nat) (x0 : PV) (x1 : PV) (x2 : PV) (h : PHeap) : Pt := forkP (.ptr h.length 0) (h ++ [.box (cellsP x0) 27 .rw]) fun v0 h1 => (loadP true 13 v0 h1).bind fun v2 => (Γ 45 [v2] h1).bind fun p3 => forkP (.ptr p3.2.length 0) (p3.2 ++ [.box Z29 83 .rw]) fun v4 h5 => (storeP 29 v4 p3.1 h5).bind fun h6 => KL (fun w8 h9 => (fieldAddrP 11 v0).bind fun v10 => (loadP false 1 v10 h9).bind fun v11 => (lenP false v11).bind fun v12 => (binP .gtr (nthP w8 1) v12).bind fun v13 => KL (fun w15 h16 => finP [.keep, .keep] h h16 [(nthP w8 0), (nthP w15 0)]) fun j14 => ifP v13 ( j14 [(.int .i64 0 : PV)] h9) ( j14 [(nthP w8 1)] h9)) fun j7 => (fieldAddrP 6 v4).bind fun v17 => (loadP false 1 v17 h6).bind fun v18 => K1 (fun v20 h21 => KL (fun w23 h24 => j7 [(nthP w23 0), (nthP w23 1)] h24) fun j22 => ifP v20 ( (fieldAddrP 1 v0).bind fun v25 => (loadP false 1 v25 h21).bind fun v26 => (binP .eql v26 (.int .i64 6 : PV)).bind fun v27 => KL (fun w29 h30 => finP [.keep, .keep] h h30 [(.int .i64 0 : PV), (.int .i64 0 : PV)]) fun j28 => ifP v27 ( finP [.keep, .keep] h h21 [x2, (.int .i64 0 : PV)]) ( j28 [] h21)) ( (fieldAddrP 6 v4).bind fun v31 => (loadP false 1 v31 h21).bind fun v32 => KL (fun w34 h35 => j22 [(nthP w34 0), (nthP w34 1)] h35) fun j33 => ifP v32 ( (fieldAddrP 12 v0).bind fun v36 => (loadP false 1 v36 h21).bind fun v37 => (binP .sub x1 (.int .i64 1 : PV)).bind fun v38 => (indexAddrP 33 v37 v38).bind fun v39 => (loadP true 33 v39 h21).bind fun v40 => (Γ 111 [v40, x2, x1] h21).bind fun p41 => (extractP p41.1 0).bind fun v42 => (extractP p41.1 1).bind fun v43 => j33 [v42, v43] p41.2) ( (fieldAddrP 11 v0).bind fun v44 => (loadP false 1 v44 h21).bind fun v45 => (lenP false v45).bind fun v46 => (Γ 54 [x1, (.int .i64 1 : PV), v46] h21).bind fun p47 => (unP .not p47.1).bind fun v48 => KL (fun w50 h51 => j33 [(nthP w50 0), (nthP w50 1)] h51) fun j49 => ifP v48 ( finP [.keep, .keep] h p47.2 [(.int .i64 0 : PV), (.int .i64 0 : PV)]) ( j49 [x2, x1] p47.2)))) fun j19 => scP v18 true ( (fieldAddrP 12 v0).bind fun v52 => (loadP false 1 v52 h6).bind fun v53 => (lenP false v53).bind fun v54 => (Γ 54 [x1, (.int .i64 1 : PV), v54] h6).bind fun p55 => (unP .not p55.1).bind fun v56 => j19 v56 p55.2) (j19 (.bool false) h6)
theorem s65_eq (Γ : PCallee) (n : Nat) (x0 : PV) (x1 : PV) (x2 : PV) (h : PHeap) : pfunK Γ n A65 [x0, x1, x2] h = s65 Γ n x0 x1 x2 h := by kernel_rfl
open Go.Vm.G in
def A66 : PFun := ⟨3, 44, (S (R <| o 3 (.box 27 (t 0)) <| o 6 (.move (i 0)) <| o 7 (.move (i 0)) <| z) <|
  (S (S (R <| m 8 2 <| o 9 (.call 57 [(t 8), (i 0), (i 119)]) <| o 10 (.un .not (t 9)) <| z) <|
  (.cond (t 10) [] [6, 7]
  (S (R <| o 6 (.move (i 0)) <| o 7 (.move (i 0)) <| z) <|
  .ret)
  .skip)) <|
  (S (S (R <| m 11 1 <| o 12 (.load true 13 (t 3)) <| o 13 (.call 112 [(t 12)]) <| o 14 (.call 57 [(t 11), (i 1), (t 13)]) <| o 15 (.un .not (t 14)) <| z) <|
  (.cond (t 15) [] ([6, 7] ++ g 16 4)
  (S (S (R <| f 16 1 3 <| l 17 16 <| b 18 .eql (t 17) (i 6) <| z) <|
  (.cond (t 18) [] [6, 7, 19]
  (S (R <| m 19 2 <| m 6 19 <| o 7 (.move (i 0)) <| z) <|
  .ret)
  .skip)) <|
  (S (R <| o 6 (.move (i 0)) <| o 7 (.move (i 0)) <| z) <|
  .ret))
  .skip)) <|
  (S (S (R <| o 20 (.load true 13 (t 3)) <| o 21 (.call 52 [(t 20)]) <| o 22 (.un .not (t 21)) <| z) <|
  (.cond (t 22) [] [6, 7, 23, 24]
  (S (R <| m 23 2 <| m 24 1 <| m 6 23 <| m 7 24 <| z) <|
  .ret)
  .skip)) <|
  (S (R <| f 26 12 3 <| l 27 26 <| m 28 1 <| b 29 .sub (t 28) (i 1) <| o 30 (.indexAddr 33 (t 27) (t 29)) <| o 31 (.load true 33 (t 30)) <| m 32 2 <| m 33 1 <| o 34 (.call 113 [(t 31), (t 32), (t 33)]) <| m 25 34 <| o 35 (.extract (t 25) 0) <| o 36 (.extract (t 25) 1) <| m 6 35 <| m 7 36 <| z) <|
  (S (S (R <| m 37 7 <| f 38 11 3 <| l 39 38 <| o 40 (.len false (t 39)) <| b 41 .gtr (t 37) (t 40) <| z) <|
  (.cond (t 41) [7] []
  (R <| o 7 (.move (i 0)) <| z)
  .skip)) <|
  (S (R <| m 42 6 <| m 43 7 <| m 6 42 <| m 7 43 <| z) <|
  .ret))))))), [.tmp 6, .tmp 7], [.keep, .keep]⟩
theorem ok66 : ∃ fn c, FunOk Tryz.prog 66 fn c A66.erase := ⟨Tryz.f66, _, ⟨Tryz.func66, rfl, by kernel_rfl, by kernel_rfl, by kernel_rfl, of_decide_eq_true (by kernel_rfl), by kernel_rfl⟩⟩
noncomputable def s66 (Γ : PCallee) (n : Nat) (x0 : PV) (x1 : PV) (x2 : PV) (h : PHeap) : Pt := forkP (.ptr h.length 0) (h ++ [.box (cellsP x0) 27 .rw]) fun v0 h1 => (Γ 57 [x2, (.int .i64 0 : PV), (.int .i64 119 : PV)] h1).bind fun p2 => (unP .not p2.1).bind fun v3 => KL (fun w5 h6 => (loadP true 13 v0 h6).bind fun v7 => (Γ 112 [v7] h6).bind fun p8 => (Γ 57 [x1, (.int .i64 1 : PV), p8.1] p8.2).bind fun p9 => (unP .not p9.1).bind fun v10 => KL (fun w12 h13 => (loadP true 13 v0 h13).bind fun v14 => (Γ 52 [v14] h13).bind fun p15 => (unP .not p15.1).bind fun v16 => KL (fun w18 h19 => (fieldAddrP 12 v0).bind fun v20 => (loadP false 1 v20 h19).bind fun v21 => (binP .sub x1 (.int .i64 1 : PV)).bind fun v22 => (indexAddrP 33 v21 v22).bind fun v23 => (loadP true 33 v23 h19).bind fun v24 => (Γ 113 [v24, x2, x1] h19).bind fun p25 => (extractP p25.1 0).bind fun v26 => (extractP p25.1 1).bind fun v27 => (fieldAddrP 11 v0).bind fun v28 => (loadP false 1 v28 p25.2).bind fun v29 => (lenP false v29).bind fun v30 => (binP .gtr v27 v30).bind fun v31 => KL (fun w33 h34 => finP [.keep, .keep] h h34 [v26, (nthP w33 0)]) fun j32 => ifP v31 ( j32 [(.int .i64 0 : PV)] p25.2) ( j32 [v27] p25.2)) fun j17 => ifP v16 ( finP [.keep, .keep] h p15.2 [x2, x1]) ( j17 [] p15.2)) fun j11 => ifP v10 ( (fieldAddrP 1 v0).bind fun v35 => (loadP false 1 v35 p9.2).bind fun v36 => (binP .eql v36 (.int .i64 6 : PV)).bind fun v37 => KL (fun w39 h40 => finP [.keep, .keep] h h40 [(.int .i64 0 : PV), (.int .i64 0 : PV)]) fun j38 => ifP v37 ( finP [.keep, .keep] h p9.2 [x2, (.int .i64 0 : PV)]) ( j38 [] p9.2)) ( j11 [] p9.2)) fun j4 => ifP v3 ( finP [.keep, .keep] h p2.2 [(.int .i64 0 : PV), (.int .i64 0 : PV)]) ( j4 [] p2.2)
theorem s66_eq (Γ : PCallee) (n : Nat) (x0 : PV) (x1 : PV) (x2 : PV) (h : PHeap) : pfunK Γ n A66 [x0, x1, x2] h = s66 Γ n x0 x1 x2 h := by kernel_rfl
open Go.Vm.G in
def A67 : PFun := ⟨2, 26, (S (R <| o 4 (.move (.const (.bool false))) <| z) <|
  (S (S (R <| m 6 0 <| o 7 (.len false (t 6)) <| m 8 1 <| o 9 (.len false (t 8)) <| b 10 .neq (t 7) (t 9) <| z) <|
  (.cond (t 10) [] [4]
  (S (R <| o 4 (.move (.const (.bool false))) <| z) <|
  .ret)
  .skip)) <|
  (S (S (R <| m 11 0 <| o 12 (.len false (t 11)) <| o 13 (.move (i 0)) <| z) <|
  (.block 0 [] ([4, 5] ++ g 13 13)
  (.loop [13] ([4, 5] ++ g 14 12)
  (S (R <| b 14 .lss (t 13) (t 12) <| z) <|
  (S (.cond (t 14) [] []
  .skip
  (.exit 0)) <|
  (S (.block 1 [] ([4, 5] ++ g 15 10)
  (S (R <| m 15 13 <| m 5 15 <| z) <|
  (S (D <| m 16 0 <| m 17 5 <| o 18 (.indexAddr 1 (t 16) (t 17)) <| l 19 18 <| m 20 1 <| m 21 5 <| o 22 (.indexAddr 1 (t 20) (t 21)) <| l 23 22 <| b 24 .neq (t 19) (t 23) <| z) <|
  (.cond (t 24) [] [4]
  (S (R <| o 4 (.move (.const (.bool false))) <| z) <|
  .ret)
  .skip)))) <|
  (R <| b 25 .add (t 13) (i 1) <| m 13 25 <| z))))))) <|
  (S (R <| o 4 (.move (.const (.bool true))) <| z) <|
  .ret)))), [.tmp 4], [.keep]⟩
theorem ok67 : ∃ fn c, FunOk Tryz.prog 67 fn c A67.erase := ⟨Tryz.f67, _, ⟨Tryz.func67, rfl, by kernel_rfl, by kernel_rfl, by kernel_rfl, of_decide_eq_true (by kernel_rfl), by kernel_rfl⟩⟩
noncomputable def s67_L0 (Γ : PCallee) (n : Nat) (x0 : PV) (x1 : PV) (h : PHeap) (h5 : PHeap) (v6 : PV) (j7 : Kt) : (Kt) → Kt := fun c10 w11 h12 => (binP .lss (nthP w11 0) v6).bind fun v13 => KL (fun w15 h16 => KL (fun w18 h19 => (binP .add (nthP w11 0) (.int .i64 1 : PV)).bind fun v20 => c10 [v20] (trim h5 [v20] h19)) fun j17 => (indexAddrP 1 x0 (nthP w11 0)).bind fun v21 => (loadP false 1 v21 h16).bind fun v22 => (indexAddrP 1 x1 (nthP w11 0)).bind fun v23 => (loadP false 1 v23 h16).bind fun v24 => (binP .neq v22 v24).bind fun v25 => KL (fun w27 h28 => j17 [] h28) fun j26 => ifP v25 ( finP [.keep] h h16 [(.bool false : PV)]) ( j26 [] h16)) fun j14 => ifP v13 ( j14 [] h12) ( j7 [] h12)
noncomputable def s67 (Γ : PCallee) (n : Nat) (x0 : PV) (x1 : PV) (h : PHeap) : Pt := (lenP false x0).bind fun v0 => (lenP false x1).bind fun v1 => (binP .neq v0 v1).bind fun v2 => KL (fun w4 h5 => (lenP false x0).bind fun v6 => KL (fun w8 h9 => finP [.keep] h h9 [(.bool true : PV)]) fun j7 => loopP (s67_L0 Γ n x0 x1 h h5 v6 j7) n [(.int .i64 0 : PV)] h5) fun j3 => ifP v2 ( finP [.keep] h h [(.bool false : PV)]) ( j3 [] h)
theorem s67_eq (Γ : PCallee) (n : Nat) (x0 : PV) (x1 : PV) (h : PHeap) : pfunK Γ n A67 [x0, x1] h = s67 Γ n x0 x1 h := by kernel_rfl
open Go.Vm.G in
def A68 : PFun := ⟨1, 28, (S (R <| o 1 (.box 104 (t 0)) <| o 2 (.new 108 [(.string ⟨#[]⟩), (.int .i64 0), (.int .i64 0)]) <| o 3 (.move (.const (.bool false))) <| z) <|
  (S (.block 0 [] (g 3 24)
  (S (R <| f 5 0 1 <| f 6 0 5 <| l 7 6 <| o 8 (.call 114 [(t 7)]) <| o 9 (.un .not (t 8)) <| m 4 9 <| z) <|
  (.cond (t 4) [] ([3] ++ g 10 17)
  (S (R <| o 10 (.build [(.string ⟨#[]⟩), (.int .i64 0), (.int .i64 0)] [(0, 1, (.const (.string ⟨#[110, 97, 109, 101]⟩))), (1, 1, (i 0)), (2, 1, (i 1))]) <| n (.store 3 (t 2) (t 10)) <| o 3 (.move (.const (.bool true))) <| z) <|
  .ret)
  (S (R <| f 12 13 1 <| f 13 1 12 <| l 14 13 <| b 15 .eql (t 14) (i 0) <| m 11 15 <| z) <|
  (.cond (t 11) [] ([3] ++ g 16 11)
  (S (R <| o 16 (.build [(.string ⟨#[]⟩), (.int .i64 0), (.int .i64 0)] [(0, 1, (.const (.string ⟨#[100, 105, 97, 108, 101, 99, 116]⟩))), (1, 1, (i 0)), (2, 1, (i 6))]) <| n (.store 3 (t 2) (t 16)) <| o 3 (.move (.const (.bool true))) <| z) <|
  .ret)
  (S (R <| f 18 0 1 <| f 19 2 18 <| l 20 19 <| f 21 13 1 <| f 22 1 21 <| l 23 22 <| o 24 (.call 54 [(t 20), (i 1), (t 23)]) <| o 25 (.un .not (t 24)) <| m 17 25 <| z) <|
  (.cond (t 17) [] [3, 26]
  (S (R <| o 26 (.build [(.string ⟨#[]⟩), (.int .i64 0), (.int .i64 0)] [(0, 1, (.const (.string ⟨#[99, 104, 97, 110, 110, 101, 108, 115]⟩))), (1, 1, (i 0)), (2, 1, (i 5))]) <| n (.store 3 (t 2) (t 26)) <| o 3 (.move (.const (.bool true))) <| z) <|
  .ret)
  .skip))))))) <|
  (S (R <| o 27 (.build [(.string ⟨#[]⟩), (.int .i64 0), (.int .i64 0)] []) <| n (.store 3 (t 2) (t 27)) <| o 3 (.move (.const (.bool false))) <| z) <|
  .ret))), [.cell 2 true 3, .tmp 3], [.keep, .keep]⟩
theorem ok68 : ∃ fn c, FunOk Tryz.prog 68 fn c A68.erase := ⟨Tryz.f68, _, ⟨Tryz.func68, rfl, by kernel_rfl, by kernel_rfl, by kernel_rfl, of_decide_eq_true (by kernel_rfl), by kernel_rfl⟩⟩
noncomputable def s68 (Γ : PCallee) (n : Nat) (x0 : PV) (h : PHeap) : Pt := forkP (.ptr h.length 0) (h ++ [.box (cellsP x0) 104 .rw]) fun v0 h1 => forkP (.ptr h1.length 0) (h1 ++ [.box [.str ⟨#[]⟩, .int .i64 0, .int .i64 0] 108 .rw]) fun v2 h3 => KL (fun w5 h6 => (fillP [.str ⟨#[]⟩, .int .i64 0, .int .i64 0] []).bind fun l7 => (storeP 3 v2 (PV.agg l7) h6).bind fun h8 => (loadP true 3 v2 h8).bind fun v9 => finP [.keep, .keep] h h8 [v9, (.bool false : PV)]) fun j4 => (fieldAddrP 0 v0).bind fun v10 => (fieldAddrP 0 v10).bind fun v11 => (loadP false 1 v11 h3).bind fun v12 => (Γ 114 [v12] h3).bind fun p13 => (unP .not p13.1).bind fun v14 => KL (fun w16 h17 => j4 [] h17) fun j15 => ifP v14 ( (fillP [.str ⟨#[]⟩, .int .i64 0, .int .i64 0] [(0, 1, (.str ⟨#[110, 97, 109, 101]⟩ : PV)), (1, 1, (.int .i64 0 : PV)), (2, 1, (.int .i64 1 : PV))]).bind fun l18 => (storeP 3 v2 (PV.agg l18) p13.2).bind fun h19 => (loadP true 3 v2 h19).bind fun v20 => finP [.keep, .keep] h h19 [v20, (.bool true : PV)]) ( (fieldAddrP 13 v0).bind fun v21 => (fieldAddrP 1 v21).bind fun v22 => (loadP false 1 v22 p13.2).bind fun v23 => (binP .eql v23 (.int .i64 0 : PV)).bind fun v24 => KL (fun w26 h27 => j15 [] h27) fun j25 => ifP v24 ( (fillP [.str ⟨#[]⟩, .int .i64 0, .int .i64 0] [(0, 1, (.str ⟨#[100, 105, 97, 108, 101, 99, 116]⟩ : PV)), (1, 1, (.int .i64 0 : PV)), (2, 1, (.int .i64 6 : PV))]).bind fun l28 => (storeP 3 v2 (PV.agg l28) p13.2).bind fun h29 => (loadP true 3 v2 h29).bind fun v30 => finP [.keep, .keep] h h29 [v30, (.bool true : PV)]) ( (fieldAddrP 0 v0).bind fun v31 => (fieldAddrP 2 v31).bind fun v32 => (loadP false 1 v32 p13.2).bind fun v33 => (fieldAddrP 13 v0).bind fun v34 => (fieldAddrP 1 v34).bind fun v35 => (loadP false 1 v35 p13.2).bind fun v36 => (Γ 54 [v33, (.int .i64 1 : PV), v36] p13.2).bind fun p37 => (unP .not p37.1).bind fun v38 => KL (fun w40 h41 => j25 [] h41) fun j39 => ifP v38 ( (fillP [.str ⟨#[]⟩, .int .i64 0, .int .i64 0] [(0, 1, (.str ⟨#[99, 104, 97, 110, 110, 101, 108, 115]⟩ : PV)), (1, 1, (.int .i64 0 : PV)), (2, 1, (.int .i64 5 : PV))]).bind fun l42 => (storeP 3 v2 (PV.agg l42) p37.2).bind fun h43 => (loadP true 3 v2 h43).bind fun v44 => finP [.keep, .keep] h h43 [v44, (.bool true : PV)]) ( j39 [] p37.2)))
theorem s68_eq (Γ : PCallee) (n : Nat) (x0 : PV) (h : PHeap) : pfunK Γ n A68 [x0] h = s68 Γ n x0 h := by kernel_rfl
open Go.Vm.G in
def A69 : PFun := ⟨1, 61, (S (R <| o 1 (.box 104 (t 0)) <| o 2 (.new 108 [(.string ⟨#[]⟩), (.int .i64 0), (.int .i64 0)]) <| o 3 (.move (.const (.bool false))) <| z) <|
  (S (S (R <| f 6 0 1 <| f 7 10 6 <| l 8 7 <| o 9 (.len false (t 8)) <| f 10 13 1 <| f 11 2 10 <| l 12 11 <| o 13 (.call 54 [(t 9), (i 1), (t 12)]) <| o 14 (.un .not (t 13)) <| z) <|
  (.cond (t 14) [] [3, 15]
  (S (R <| o 15 (.build [(.string ⟨#[]⟩), (.int .i64 0), (.int .i64 0)] [(0, 1, (.const (.string ⟨#[112, 97, 116, 116, 101, 114, 110, 115]⟩))), (1, 1, (i 0)), (2, 1, (i 4))]) <| n (.store 3 (t 2) (t 15)) <| o 3 (.move (.const (.bool true))) <| z) <|
  .ret)
  .skip)) <|
  (S (S (R <| f 16 0 1 <| f 17 10 16 <| l 18 17 <| o 19 (.len false (t 18)) <| o 20 (.move (i 0)) <| z) <|
  (.block 0 [] ([3, 4, 5] ++ g 20 40)
  (.loop [20] ([3, 4, 5] ++ g 21 39)
  (S (R <| b 21 .lss (t 20) (t 19) <| z) <|
  (S (.cond (t 21) [] []
  .skip
  (.exit 0)) <|
  (S (.block 1 [] ([3, 4, 5] ++ g 22 37)
  (S (R <| m 22 20 <| o 23 (.indexAddr 2 (t 18) (t 20)) <| o 24 (.load true 2 (t 23)) <| o 5 (.new 39 [(.int .i64 0), (.slice none 0 0)]) <| m 4 22 <| n (.store 2 (t 5) (t 24)) <| z) <|
  (S (S (R <| f 25 13 1 <| f 26 3 25 <| l 27 26 <| b 28 .neq (t 27) (i 0) <| m 29 28 <| q 36 29 true (g 30 6) (f 30 0 5 <| l 31 30 <| f 32 13 1 <| f 33 3 32 <| l 34 33 <| b 35 .neq (t 31) (t 34) <| z) (t 35) <|
  m 37 36 <| q 44 37 false (g 38 6) (o 38 (.load true 2 (t 5)) <| f 39 0 1 <| f 40 2 39 <| l 41 40 <| F 38 (.agg [.keep, (.flat 6)]) <| o 42 (.call 115 [(t 38), (t 41)]) <| o 43 (.un .not (t 42)) <| z) (t 43) <|
  m 45 44 <| q 50 45 false (g 46 4) (f 46 1 5 <| l 47 46 <| o 48 (.mkFunc 117 [] [(t 1)]) <| F 47 (.flat 6) <| o 49 (.call 116 [(t 47), (t 48)]) <| z) (t 49) <|
  z) <|
  (.cond (t 50) [] [3, 51, 52]
  (S (R <| m 51 4 <| o 52 (.build [(.string ⟨#[]⟩), (.int .i64 0), (.int .i64 0)] [(0, 1, (.const (.string ⟨#[112, 97, 116, 116, 101, 114, 110, 115]⟩))), (1, 1, (t 51)), (2, 1, (i 1))]) <| n (.store 3 (t 2) (t 52)) <| o 3 (.move (.const (.bool true))) <| z) <|
  .ret)
  .skip)) <|
  (S (R <| f 53 1 5 <| l 54 53 <| o 55 (.mkFunc 119 [] [(t 1)]) <| F 54 (.flat 6) <| o 56 (.call 116 [(t 54), (t 55)]) <| z) <|
  (.cond (t 56) [] [3, 57, 58]
  (S (R <| m 57 4 <| o 58 (.build [(.string ⟨#[]⟩), (.int .i64 0), (.int .i64 0)] [(0, 1, (.const (.string ⟨#[112, 97, 116, 116, 101, 114, 110, 115]⟩))), (1, 1, (t 57)), (2, 1, (i 10))]) <| n (.store 3 (t 2) (t 58)) <| o 3 (.move (.const (.bool true))) <| z) <|
  .ret)
  .skip))))) <|
  (R <| b 59 .add (t 20) (i 1) <| m 20 59 <| z))))))) <|
  (S (R <| o 60 (.build [(.string ⟨#[]⟩), (.int .i64 0), (.int .i64 0)] []) <| n (.store 3 (t 2) (t 60)) <| o 3 (.move (.const (.bool false))) <| z) <|
  .ret)))), [.cell 2 true 3, .tmp 3], [.keep, .keep]⟩
theorem ok69 : ∃ fn c, FunOk Tryz.prog 69 fn c A69.erase := ⟨Tryz.f69, _, ⟨Tryz.func69, rfl, by kernel_rfl, by kernel_rfl, by kernel_rfl, of_decide_eq_true (by kernel_rfl), by kernel_rfl⟩⟩
noncomputable def s69_L0 (Γ : PCallee) (n : Nat) (h : PHeap) (v0 : PV) (v2 : PV) (h15 : PHeap) (v18 : PV) (v19 : PV) (j20 : Kt) : (Kt) → Kt := fun c26 w27 h28 => (binP .lss (nthP w27 0) v19).bind fun v29 => KL (fun w31 h32 => KL (fun w34 h35 => (binP .add (nthP w27 0) (.int .i64 1 : PV)).bind fun v36 => c26 [v36] (trim h15 [v36] h35)) fun j33 => (indexAddrP 2 v18 (nthP w27 0)).bind fun v37 => (loadP true 2 v37 h32).bind fun v38 => forkP (.ptr h32.length 0) (h32 ++ [.box [.int .i64 0, .nilS] 39 .rw]) fun v39 h40 => (storeP 2 v39 v38 h40).bind fun h41 => (fieldAddrP 13 v0).bind fun v42 => (fieldAddrP 3 v42).bind fun v43 => (loadP false 1 v43 h41).bind fun v44 => (binP .neq v44 (.int .i64 0 : PV)).bind fun v45 => K1 (fun v47 h48 => K1 (fun v50 h51 => K1 (fun v53 h54 => KL (fun w56 h57 => (fieldAddrP 1 v39).bind fun v58 => (loadP false 1 v58 h57).bind fun v59 => (fz (.flat 6) v59 h57).bind fun q60 => (Γ 116 [q60.1, (PV.func 119 [] [v0])] q60.2).bind fun p61 => KL (fun w63 h64 => j33 [] h64) fun j62 => ifP p61.1 ( (fillP [.str ⟨#[]⟩, .int .i64 0, .int .i64 0] [(0, 1, (.str ⟨#[112, 97, 116, 116, 101, 114, 110, 115]⟩ : PV)), (1, 1, (nthP w27 0)), (2, 1, (.int .i64 10 : PV))]).bind fun l65 => (storeP 3 v2 (PV.agg l65) p61.2).bind fun h66 => (loadP true 3 v2 h66).bind fun v67 => finP [.keep, .keep] h h66 [v67, (.bool true : PV)]) ( j62 [] p61.2)) fun j55 => ifP v53 ( (fillP [.str ⟨#[]⟩, .int .i64 0, .int .i64 0] [(0, 1, (.str ⟨#[112, 97, 116, 116, 101, 114, 110, 115]⟩ : PV)), (1, 1, (nthP w27 0)), (2, 1, (.int .i64 1 : PV))]).bind fun l68 => (storeP 3 v2 (PV.agg l68) h54).bind fun h69 => (loadP true 3 v2 h69).bind fun v70 => finP [.keep, .keep] h h69 [v70, (.bool true : PV)]) ( j55 [] h54)) fun j52 => scP v50 false ( (fieldAddrP 1 v39).bind fun v71 => (loadP false 1 v71 h51).bind fun v72 => (fz (.flat 6) v72 h51).bind fun q73 => (Γ 116 [q73.1, (PV.func 117 [] [v0])] q73.2).bind fun p74 => j52 p74.1 p74.2) (j52 (.bool true) h51)) fun j49 => scP v47 false ( (loadP true 2 v39 h48).bind fun v75 => (fieldAddrP 0 v0).bind fun v76 => (fieldAddrP 2 v76).bind fun v77 => (loadP false 1 v77 h48).bind fun v78 => (fz (.agg [.keep, (.flat 6)]) v75 h48).bind fun q79 => (Γ 115 [q79.1, v78] q79.2).bind fun p80 => (unP .not p80.1).bind fun v81 => j49 v81 p80.2) (j49 (.bool true) h48)) fun j46 => scP v45 true ( (fieldAddrP 0 v39).bind fun v82 => (loadP false 1 v82 h41).bind fun v83 => (fieldAddrP 13 v0).bind fun v84 => (fieldAddrP 3 v84).bind fun v85 => (loadP false 1 v85 h41).bind fun v86 => (binP .neq v83 v86).bind fun v87 => j46 v87 h41) (j46 (.bool false) h41)) fun j30 => ifP v29 ( j30 [] h28) ( j20 [] h28)
noncomputable def s69 (Γ : PCallee) (n : Nat) (x0 : PV) (h : PHeap) : Pt := forkP (.ptr h.length 0) (h ++ [.box (cellsP x0) 104 .rw]) fun v0 h1 => forkP (.ptr h1.length 0) (h1 ++ [.box [.str ⟨#[]⟩, .int .i64 0, .int .i64 0] 108 .rw]) fun v2 h3 => (fieldAddrP 0 v0).bind fun v4 => (fieldAddrP 10 v4).bind fun v5 => (loadP false 1 v5 h3).bind fun v6 => (lenP false v6).bind fun v7 => (fieldAddrP 13 v0).bind fun v8 => (fieldAddrP 2 v8).bind fun v9 => (loadP false 1 v9 h3).bind fun v10 => (Γ 54 [v7, (.int .i64 1 : PV), v10] h3).bind fun p11 => (unP .not p11.1).bind fun v12 => KL (fun w14 h15 => (fieldAddrP 0 v0).bind fun v16 => (fieldAddrP 10 v16).bind fun v17 => (loadP false 1 v17 h15).bind fun v18 => (lenP false v18).bind fun v19 => KL (fun w21 h22 => (fillP [.str ⟨#[]⟩, .int .i64 0, .int .i64 0] []).bind fun l23 => (storeP 3 v2 (PV.agg l23) h22).bind fun h24 => (loadP true 3 v2 h24).bind fun v25 => finP [.keep, .keep] h h24 [v25, (.bool false : PV)]) fun j20 => loopP (s69_L0 Γ n h v0 v2 h15 v18 v19 j20) n [(.int .i64 0 : PV)] h15) fun j13 => ifP v12 ( (fillP [.str ⟨#[]⟩, .int .i64 0, .int .i64 0] [(0, 1, (.str ⟨#[112, 97, 116, 116, 101, 114, 110, 115]⟩ : PV)), (1, 1, (.int .i64 0 : PV)), (2, 1, (.int .i64 4 : PV))]).bind fun l88 => (storeP 3 v2 (PV.agg l88) p11.2).bind fun h89 => (loadP true 3 v2 h89).bind fun v90 => finP [.keep, .keep] h h89 [v90, (.bool true : PV)]) ( j13 [] p11.2)
theorem s69_eq (Γ : PCallee) (n : Nat) (x0 : PV) (h : PHeap) : pfunK Γ n A69 [x0] h = s69 Γ n x0 h := by kernel_rfl
open Go.Vm.G in
def A70 : PFun := ⟨1, 32, (S (R <| o 1 (.box 104 (t 0)) <| o 2 (.new 108 [(.string ⟨#[]⟩), (.int .i64 0), (.int .i64 0)]) <| o 3 (.move (.const (.bool false))) <| z) <|
  (S (S (R <| f 5 0 1 <| f 6 3 5 <| l 7 6 <| o 8 (.len false (t 7)) <| o 9 (.call 54 [(t 8), (i 1), (i 64)]) <| o 10 (.un .not (t 9)) <| z) <|
  (.cond (t 10) [] [3, 11]
  (S (R <| o 11 (.build [(.string ⟨#[]⟩), (.int .i64 0), (.int .i64 0)] [(0, 1, (.const (.string ⟨#[111, 114, 100, 101, 114, 115]⟩))), (1, 1, (i 0)), (2, 1, (i 4))]) <| n (.store 3 (t 2) (t 11)) <| o 3 (.move (.const (.bool true))) <| z) <|
  .ret)
  .skip)) <|
  (S (S (R <| f 12 0 1 <| f 13 3 12 <| l 14 13 <| o 15 (.mkFunc 122 [] [(t 1)]) <| F 14 (.flat 1) <| o 16 (.call 121 [(t 14), (t 15)]) <| m 4 16 <| z) <|
  (S (R <| m 17 4 <| b 18 .geq (t 17) (i 0) <| z) <|
  (.cond (t 18) [] [3, 19, 20]
  (S (R <| m 19 4 <| o 20 (.build [(.string ⟨#[]⟩), (.int .i64 0), (.int .i64 0)] [(0, 1, (.const (.string ⟨#[111, 114, 100, 101, 114, 115]⟩))), (1, 1, (t 19)), (2, 1, (i 10))]) <| n (.store 3 (t 2) (t 20)) <| o 3 (.move (.const (.bool true))) <| z) <|
  .ret)
  .skip))) <|
  (S (R <| o 21 (.build [(.string ⟨#[]⟩), (.int .i64 0), (.int .i64 0)] [(0, 1, (.const (.string ⟨#[114, 101, 115, 116, 97, 114, 116]⟩))), (1, 1, (i 0)), (2, 1, (i 5))]) <| f 22 0 1 <| f 23 4 22 <| l 24 23 <| f 25 0 1 <| f 26 3 25 <| l 27 26 <| o 28 (.len false (t 27)) <| b 29 .sub (t 28) (i 1) <| o 30 (.call 54 [(t 24), (i 0), (t 29)]) <| o 31 (.un .not (t 30)) <| n (.store 3 (t 2) (t 21)) <| m 3 31 <| z) <|
  .ret)))), [.cell 2 true 3, .tmp 3], [.keep, .keep]⟩
theorem ok70 : ∃ fn c, FunOk Tryz.prog 70 fn c A70.erase := ⟨Tryz.f70, _, ⟨Tryz.func70, rfl, by kernel_rfl, by kernel_rfl, by kernel_rfl, of_decide_eq_true (by kernel_rfl), by kernel_rfl⟩⟩
noncomputable def s70 (Γ : PCallee) (n : Nat) (x0 : PV) (h : PHeap) : Pt := forkP (.ptr h.length 0) (h ++ [.box (cellsP x0) 104 .rw]) fun v0 h1 => forkP (.ptr h1.length 0) (h1 ++ [.box [.str ⟨#[]⟩, .int .i64 0, .int .i64 0] 108 .rw]) fun v2 h3 => (fieldAddrP 0 v0).bind fun v4 => (fieldAddrP 3 v4).bind fun v5 => (loadP false 1 v5 h3).bind fun v6 => (lenP false v6).bind fun v7 => (Γ 54 [v7, (.int .i64 1 : PV), (.int .i64 64 : PV)] h3).bind fun p8 => (unP .not p8.1).bind fun v9 => KL (fun w11 h12 => (fieldAddrP 0 v0).bind fun v13 => (fieldAddrP 3 v13).bind fun v14 => (loadP false 1 v14 h12).bind fun v15 => (fz (.flat 1) v15 h12).bind fun q16 => (Γ 121 [q16.1, (PV.func 122 [] [v0])] q16.2).bind fun p17 => (binP .geq p17.1 (.int .i64 0 : PV)).bind fun v18 => KL (fun w20 h21 => (fillP [.str ⟨#[]⟩, .int .i64 0, .int .i64 0] [(0, 1, (.str ⟨#[114, 101, 115, 116, 97, 114, 116]⟩ : PV)), (1, 1, (.int .i64 0 : PV)), (2, 1, (.int .i64 5 : PV))]).bind fun l22 => (fieldAddrP 0 v0).bind fun v23 => (fieldAddrP 4 v23).bind fun v24 => (loadP false 1 v24 h21).bind fun v25 => (fieldAddrP 0 v0).bind fun v26 => (fieldAddrP 3 v26).bind fun v27 => (loadP false 1 v27 h21).bind fun v28 => (lenP false v28).bind fun v29 => (binP .sub v29 (.int .i64 1 : PV)).bind fun v30 => (Γ 54 [v25, (.int .i64 0 : PV), v30] h21).bind fun p31 => (unP .not p31.1).bind fun v32 => (storeP 3 v2 (PV.agg l22) p31.2).bind fun h33 => (loadP true 3 v2 h33).bind fun v34 => finP [.keep, .keep] h h33 [v34, v32]) fun j19 => ifP v18 ( (fillP [.str ⟨#[]⟩, .int .i64 0, .int .i64 0] [(0, 1, (.str ⟨#[111, 114, 100, 101, 114, 115]⟩ : PV)), (1, 1, p17.1), (2, 1, (.int .i64 10 : PV))]).bind fun l35 => (storeP 3 v2 (PV.agg l35) p17.2).bind fun h36 => (loadP true 3 v2 h36).bind fun v37 => finP [.keep, .keep] h h36 [v37, (.bool true : PV)]) ( j19 [] p17.2)) fun j10 => ifP v9 ( (fillP [.str ⟨#[]⟩, .int .i64 0, .int .i64 0] [(0, 1, (.str ⟨#[111, 114, 100, 101, 114, 115]⟩ : PV)), (1, 1, (.int .i64 0 : PV)), (2, 1, (.int .i64 4 : PV))]).bind fun l38 => (storeP 3 v2 (PV.agg l38) p8.2).bind fun h39 => (loadP true 3 v2 h39).bind fun v40 => finP [.keep, .keep] h h39 [v40, (.bool true : PV)]) ( j10 [] p8.2)
theorem s70_eq (Γ : PCallee) (n : Nat) (x0 : PV) (h : PHeap) : pfunK Γ n A70 [x0] h = s70 Γ n x0 h := by kernel_rfl
open Go.Vm.G in
def A71 : PFun := ⟨1, 55, (S (R <| o 1 (.box 104 (t 0)) <| o 2 (.new 108 [(.string ⟨#[]⟩), (.int .i64 0), (.int .i64 0)]) <| o 3 (.move (.const (.bool false))) <| z) <|
  (S (.block 0 [] ([3] ++ g 5 42)
  (S (R <| f 6 0 1 <| f 7 5 6 <| l 8 7 <| o 9 (.call 54 [(t 8), (i 1), (i 31)]) <| o 10 (.un .not (t 9)) <| m 5 10 <| z) <|
  (.cond (t 5) [] ([3] ++ g 11 36)
  (S (R <| o 11 (.build [(.string ⟨#[]⟩), (.int .i64 0), (.int .i64 0)] [(0, 1, (.const (.string ⟨#[115, 112, 101, 101, 100]⟩))), (1, 1, (i 0)), (2, 1, (i 5))]) <| n (.store 3 (t 2) (t 11)) <| o 3 (.move (.const (.bool true))) <| z) <|
  .ret)
  (S (R <| f 13 0 1 <| f 14 6 13 <| l 15 14 <| o 16 (.call 54 [(t 15), (i 32), (i 255)]) <| o 17 (.un .not (t 16)) <| m 12 17 <| z) <|
  (.cond (t 12) [] ([3] ++ g 18 29)
  (S (R <| o 18 (.build [(.string ⟨#[]⟩), (.int .i64 0), (.int .i64 0)] [(0, 1, (.const (.string ⟨#[116, 101, 109, 112, 111]⟩))), (1, 1, (i 0)), (2, 1, (i 5))]) <| n (.store 3 (t 2) (t 18)) <| o 3 (.move (.const (.bool true))) <| z) <|
  .ret)
  (S (R <| f 20 0 1 <| f 21 7 20 <| l 22 21 <| o 23 (.call 54 [(t 22), (i 0), (i 128)]) <| o 24 (.un .not (t 23)) <| m 19 24 <| z) <|
  (.cond (t 19) [] ([3] ++ g 25 22)
  (S (R <| o 25 (.build [(.string ⟨#[]⟩), (.int .i64 0), (.int .i64 0)] [(0, 1, (.const (.string ⟨#[103, 108, 111, 98, 97, 108]⟩))), (1, 1, (i 0)), (2, 1, (i 5))]) <| n (.store 3 (t 2) (t 25)) <| o 3 (.move (.const (.bool true))) <| z) <|
  .ret)
  (S (R <| f 27 0 1 <| f 28 8 27 <| l 29 28 <| m 30 29 <| q 35 30 true (g 31 4) (f 31 13 1 <| f 32 8 31 <| l 33 32 <| o 34 (.un .not (t 33)) <| z) (t 34) <|
  m 26 35 <| z) <|
  (.cond (t 26) [] ([3] ++ g 36 11)
  (S (R <| o 36 (.build [(.string ⟨#[]⟩), (.int .i64 0), (.int .i64 0)] [(0, 1, (.const (.string ⟨#[108, 105, 110, 101, 97, 114]⟩))), (1, 1, (i 0)), (2, 1, (i 6))]) <| n (.store 3 (t 2) (t 36)) <| o 3 (.move (.const (.bool true))) <| z) <|
  .ret)
  (S (R <| f 38 0 1 <| f 39 9 38 <| l 40 39 <| o 41 (.len false (t 40)) <| f 42 0 1 <| f 43 2 42 <| l 44 43 <| b 45 .neq (t 41) (t 44) <| m 37 45 <| z) <|
  (.cond (t 37) [] [3, 46]
  (S (R <| o 46 (.build [(.string ⟨#[]⟩), (.int .i64 0), (.int .i64 0)] [(0, 1, (.const (.string ⟨#[112, 97, 110, 115]⟩))), (1, 1, (i 0)), (2, 1, (i 4))]) <| n (.store 3 (t 2) (t 46)) <| o 3 (.move (.const (.bool true))) <| z) <|
  .ret)
  .skip))))))))))) <|
  (S (R <| f 47 0 1 <| f 48 9 47 <| l 49 48 <| o 50 (.call 121 [(t 49), (.func 123)]) <| m 4 50 <| z) <|
  (S (R <| m 51 4 <| o 52 (.build [(.string ⟨#[]⟩), (.int .i64 0), (.int .i64 0)] [(0, 1, (.const (.string ⟨#[112, 97, 110, 115]⟩))), (1, 1, (t 51)), (2, 1, (i 5))]) <| m 53 4 <| b 54 .geq (t 53) (i 0) <| n (.store 3 (t 2) (t 52)) <| m 3 54 <| z) <|
  .ret)))), [.cell 2 true 3, .tmp 3], [.keep, .keep]⟩
theorem ok71 : ∃ fn c, FunOk Tryz.prog 71 fn c A71.erase := ⟨Tryz.f71, _, ⟨Tryz.func71, rfl, by kernel_rfl, by kernel_rfl, by kernel_rfl, of_decide_eq_true (by kernel_rfl), by kernel_rfl⟩⟩
noncomputable def s71 (Γ : PCallee) (n : Nat) (x0 : PV) (h : PHeap) : Pt := forkP (.ptr h.length 0) (h ++ [.box (cellsP x0) 104 .rw]) fun v0 h1 => forkP (.ptr h1.length 0) (h1 ++ [.box [.str ⟨#[]⟩, .int .i64 0, .int .i64 0] 108 .rw]) fun v2 h3 => KL (fun w5 h6 => (fieldAddrP 0 v0).bind fun v7 => (fieldAddrP 9 v7).bind fun v8 => (loadP false 1 v8 h6).bind fun v9 => (Γ 121 [v9, (PV.func 123 [] [])] h6).bind fun p10 => (fillP [.str ⟨#[]⟩, .int .i64 0, .int .i64 0] [(0, 1, (.str ⟨#[112, 97, 110, 115]⟩ : PV)), (1, 1, p10.1), (2, 1, (.int .i64 5 : PV))]).bind fun l11 => (binP .geq p10.1 (.int .i64 0 : PV)).bind fun v12 => (storeP 3 v2 (PV.agg l11) p10.2).bind fun h13 => (loadP true 3 v2 h13).bind fun v14 => finP [.keep, .keep] h h13 [v14, v12]) fun j4 => (fieldAddrP 0 v0).bind fun v15 => (fieldAddrP 5 v15).bind fun v16 => (loadP false 1 v16 h3).bind fun v17 => (Γ 54 [v17, (.int .i64 1 : PV), (.int .i64 31 : PV)] h3).bind fun p18 => (unP .not p18.1).bind fun v19 => KL (fun w21 h22 => j4 [] h22) fun j20 => ifP v19 ( (fillP [.str ⟨#[]⟩, .int .i64 0, .int .i64 0] [(0, 1, (.str ⟨#[115, 112, 101, 101, 100]⟩ : PV)), (1, 1, (.int .i64 0 : PV)), (2, 1, (.int .i64 5 : PV))]).bind fun l23 => (storeP 3 v2 (PV.agg l23) p18.2).bind fun h24 => (loadP true 3 v2 h24).bind fun v25 => finP [.keep, .keep] h h24 [v25, (.bool true : PV)]) ( (fieldAddrP 0 v0).bind fun v26 => (fieldAddrP 6 v26).bind fun v27 => (loadP false 1 v27 p18.2).bind fun v28 => (Γ 54 [v28, (.int .i64 32 : PV), (.int .i64 255 : PV)] p18.2).bind fun p29 => (unP .not p29.1).bind fun v30 => KL (fun w32 h33 => j20 [] h33) fun j31 => ifP v30 ( (fillP [.str ⟨#[]⟩, .int .i64 0, .int .i64 0] [(0, 1, (.str ⟨#[116, 101, 109, 112, 111]⟩ : PV)), (1, 1, (.int .i64 0 : PV)), (2, 1, (.int .i64 5 : PV))]).bind fun l34 => (storeP 3 v2 (PV.agg l34) p29.2).bind fun h35 => (loadP true 3 v2 h35).bind fun v36 => finP [.keep, .keep] h h35 [v36, (.bool true : PV)]) ( (fieldAddrP 0 v0).bind fun v37 => (fieldAddrP 7 v37).bind fun v38 => (loadP false 1 v38 p29.2).bind fun v39 => (Γ 54 [v39, (.int .i64 0 : PV), (.int .i64 128 : PV)] p29.2).bind fun p40 => (unP .not p40.1).bind fun v41 => KL (fun w43 h44 => j31 [] h44) fun j42 => ifP v41 ( (fillP [.str ⟨#[]⟩, .int .i64 0, .int .i64 0] [(0, 1, (.str ⟨#[103, 108, 111, 98, 97, 108]⟩ : PV)), (1, 1, (.int .i64 0 : PV)), (2, 1, (.int .i64 5 : PV))]).bind fun l45 => (storeP 3 v2 (PV.agg l45) p40.2).bind fun h46 => (loadP true 3 v2 h46).bind fun v47 => finP [.keep, .keep] h h46 [v47, (.bool true : PV)]) ( (fieldAddrP 0 v0).bind fun v48 => (fieldAddrP 8 v48).bind fun v49 => (loadP false 1 v49 p40.2).bind fun v50 => K1 (fun v52 h53 => KL (fun w55 h56 => j42 [] h56) fun j54 => ifP v52 ( (fillP [.str ⟨#[]⟩, .int .i64 0, .int .i64 0] [(0, 1, (.str ⟨#[108, 105, 110, 101, 97, 114]⟩ : PV)), (1, 1, (.int .i64 0 : PV)), (2, 1, (.int .i64 6 : PV))]).bind fun l57 => (storeP 3 v2 (PV.agg l57) h53).bind fun h58 => (loadP true 3 v2 h58).bind fun v59 => finP [.keep, .keep] h h58 [v59, (.bool true : PV)]) ( (fieldAddrP 0 v0).bind fun v60 => (fieldAddrP 9 v60).bind fun v61 => (loadP false 1 v61 h53).bind fun v62 => (lenP false v62).bind fun v63 => (fieldAddrP 0 v0).bind fun v64 => (fieldAddrP 2 v64).bind fun v65 => (loadP false 1 v65 h53).bind fun v66 => (binP .neq v63 v66).bind fun v67 => KL (fun w69 h70 => j54 [] h70) fun j68 => ifP v67 ( (fillP [.str ⟨#[]⟩, .int .i64 0, .int .i64 0] [(0, 1, (.str ⟨#[112, 97, 110, 115]⟩ : PV)), (1, 1, (.int .i64 0 : PV)), (2, 1, (.int .i64 4 : PV))]).bind fun l71 => (storeP 3 v2 (PV.agg l71) h53).bind fun h72 => (loadP true 3 v2 h72).bind fun v73 => finP [.keep, .keep] h h72 [v73, (.bool true : PV)]) ( j68 [] h53))) fun j51 => scP v50 true ( (fieldAddrP 13 v0).bind fun v74 => (fieldAddrP 8 v74).bind fun v75 => (loadP false 1 v75 p40.2).bind fun v76 => (unP .not v76).bind fun v77 => j51 v77 p40.2) (j51 (.bool false) p40.2))))
theorem s71_eq (Γ : PCallee) (n : Nat) (x0 : PV) (h : PHeap) : pfunK Γ n A71 [x0] h = s71 Γ n x0 h := by kernel_rfl
open Go.Vm.G in
def A72 : PFun := ⟨1, 75, (S (R <| o 1 (.box 104 (t 0)) <| o 2 (.new 108 [(.string ⟨#[]⟩), (.int .i64 0), (.int .i64 0)]) <| o 3 (.move (.const (.bool false))) <| z) <|
  (S (S (R <| f 7 0 1 <| f 8 11 7 <| l 9 8 <| o 10 (.len false (t 9)) <| b 11 .gtr (t 10) (i 31) <| m 12 11 <| q 24 12 false (g 13 5 ++ [23] ++ g 18 5) (f 13 0 1 <| f 14 1 13 <| l 15 14 <| b 16 .eql (t 15) (i 6) <| m 17 16 <| q 23 17 true (g 18 5) (f 18 0 1 <| f 19 11 18 <| l 20 19 <| o 21 (.len false (t 20)) <| b 22 .gtr (t 21) (i 0) <| z) (t 22) <|
  z) (t 23) <|
  z) <|
  (.cond (t 24) [] [3, 25]
  (S (R <| o 25 (.build [(.string ⟨#[]⟩), (.int .i64 0), (.int .i64 0)] [(0, 1, (.const (.string ⟨#[115, 97, 109, 112, 108, 101, 115]⟩))), (1, 1, (i 0)), (2, 1, (i 4))]) <| n (.store 3 (t 2) (t 25)) <| o 3 (.move (.const (.bool true))) <| z) <|
  .ret)
  .skip)) <|
  (S (S (R <| f 26 0 1 <| f 27 11 26 <| l 28 27 <| F 28 (.sl 13 SS13) <| o 29 (.call 124 [(t 28), (.func 125)]) <| m 4 29 <| z) <|
  (S (R <| m 30 4 <| b 31 .geq (t 30) (i 0) <| z) <|
  (.cond (t 31) [] [3, 32, 33]
  (S (R <| m 32 4 <| o 33 (.build [(.string ⟨#[]⟩), (.int .i64 0), (.int .i64 0)] [(0, 1, (.const (.string ⟨#[115, 97, 109, 112, 108, 101, 115]⟩))), (1, 1, (t 32)), (2, 1, (i 1))]) <| n (.store 3 (t 2) (t 33)) <| o 3 (.move (.const (.bool true))) <| z) <|
  .ret)
  .skip))) <|
  (S (S (R <| f 34 0 1 <| f 35 12 34 <| l 36 35 <| o 37 (.len false (t 36)) <| b 38 .gtr (t 37) (i 31) <| m 39 38 <| q 51 39 false (g 40 5 ++ [50] ++ g 45 5) (f 40 13 1 <| f 41 6 40 <| l 42 41 <| o 43 (.un .not (t 42)) <| m 44 43 <| q 50 44 true (g 45 5) (f 45 0 1 <| f 46 12 45 <| l 47 46 <| o 48 (.len false (t 47)) <| b 49 .gtr (t 48) (i 0) <| z) (t 49) <|
  z) (t 50) <|
  z) <|
  (.cond (t 51) [] [3, 52]
  (S (R <| o 52 (.build [(.string ⟨#[]⟩), (.int .i64 0), (.int .i64 0)] [(0, 1, (.const (.string ⟨#[105, 110, 115, 116, 115]⟩))), (1, 1, (i 0)), (2, 1, (i 4))]) <| n (.store 3 (t 2) (t 52)) <| o 3 (.move (.const (.bool true))) <| z) <|
  .ret)
  .skip)) <|
  (S (S (R <| f 53 0 1 <| f 54 12 53 <| l 55 54 <| o 56 (.len false (t 55)) <| o 57 (.move (i 0)) <| z) <|
  (.block 0 [] ([3, 5, 6] ++ g 57 17)
  (.loop [57] ([3, 5, 6] ++ g 58 16)
  (S (R <| b 58 .lss (t 57) (t 56) <| z) <|
  (S (.cond (t 58) [] []
  .skip
  (.exit 0)) <|
  (S (.block 1 [] ([3, 5, 6] ++ g 59 14)
  (S (R <| m 59 57 <| o 60 (.indexAddr 33 (t 55) (t 57)) <| o 61 (.load true 33 (t 60)) <| o 6 (.new 57 V33) <| m 5 59 <| n (.store 33 (t 6) (t 61)) <| z) <|
  (S (S (R <| o 62 (.load true 33 (t 6)) <| F 62 (.agg SA33) <| o 63 (.call 127 [(t 62)]) <| o 64 (.un .not (t 63)) <| z) <|
  (.cond (t 64) [] [3, 65, 66]
  (S (R <| m 65 5 <| o 66 (.build [(.string ⟨#[]⟩), (.int .i64 0), (.int .i64 0)] [(0, 1, (.const (.string ⟨#[105, 110, 115, 116, 115]⟩))), (1, 1, (t 65)), (2, 1, (i 1))]) <| n (.store 3 (t 2) (t 66)) <| o 3 (.move (.const (.bool true))) <| z) <|
  .ret)
  .skip)) <|
  (S (R <| f 67 1 6 <| l 68 67 <| o 69 (.mkFunc 129 [] [(t 1)]) <| F 68 (.flat 2) <| o 70 (.call 128 [(t 68), (t 69)]) <| z) <|
  (.cond (t 70) [] [3, 71, 72]
  (S (R <| m 71 5 <| o 72 (.build [(.string ⟨#[]⟩), (.int .i64 0), (.int .i64 0)] [(0, 1, (.const (.string ⟨#[105, 110, 115, 116, 115]⟩))), (1, 1, (t 71)), (2, 1, (i 10))]) <| n (.store 3 (t 2) (t 72)) <| o 3 (.move (.const (.bool true))) <| z) <|
  .ret)
  .skip))))) <|
  (R <| b 73 .add (t 57) (i 1) <| m 57 73 <| z))))))) <|
  (S (R <| o 74 (.build [(.string ⟨#[]⟩), (.int .i64 0), (.int .i64 0)] []) <| n (.store 3 (t 2) (t 74)) <| o 3 (.move (.const (.bool false))) <| z) <|
  .ret)))))), [.cell 2 true 3, .tmp 3], [.keep, .keep]⟩
theorem ok72 : ∃ fn c, FunOk Tryz.prog 72 fn c A72.erase := ⟨Tryz.f72, _, ⟨Tryz.func72, rfl, by kernel_rfl, by kernel_rfl, by kernel_rfl, of_decide_eq_true (by kernel_rfl), by kernel_rfl⟩⟩
noncomputable def s72_L0 (Γ : PCallee) (n : Nat) (h : PHeap) (v0 : PV) (v2 : PV) (h34 : PHeap) (v37 : PV) (v38 : PV) (j39 : Kt) : (Kt) → Kt := fun c45 w46 h47 => (binP .lss (nthP w46 0) v38).bind fun v48 => KL (fun w50 h51 => KL (fun w53 h54 => (binP .add (nthP w46 0) (.int .i64 1 : PV)).bind fun v55 => c45 [v55] (trim h34 [v55] h54)) fun j52 => (indexAddrP 33 v37 (nthP w46 0)).bind fun v56 => (loadP true 33 v56 h51).bind fun v57 => forkP (.ptr h51.length 0) (h51 ++ [.box Z33 57 .rw]) fun v58 h59 => (storeP 33 v58 v57 h59).bind fun h60 => (loadP true 33 v58 h60).bind fun v61 => (fz (.agg SA33) v61 h60).bind fun q62 => (Γ 127 [q62.1] q62.2).bind fun p63 => (unP .not p63.1).bind fun v64 => KL (fun w66 h67 => (fieldAddrP 1 v58).bind fun v68 => (loadP false 1 v68 h67).bind fun v69 => (fz (.flat 2) v69 h67).bind fun q70 => (Γ 128 [q70.1, (PV.func 129 [] [v0])] q70.2).bind fun p71 => KL (fun w73 h74 => j52 [] h74) fun j72 => ifP p71.1 ( (fillP [.str ⟨#[]⟩, .int .i64 0, .int .i64 0] [(0, 1, (.str ⟨#[105, 110, 115, 116, 115]⟩ : PV)), (1, 1, (nthP w46 0)), (2, 1, (.int .i64 10 : PV))]).bind fun l75 => (storeP 3 v2 (PV.agg l75) p71.2).bind fun h76 => (loadP true 3 v2 h76).bind fun v77 => finP [.keep, .keep] h h76 [v77, (.bool true : PV)]) ( j72 [] p71.2)) fun j65 => ifP v64 ( (fillP [.str ⟨#[]⟩, .int .i64 0, .int .i64 0] [(0, 1, (.str ⟨#[105, 110, 115, 116, 115]⟩ : PV)), (1, 1, (nthP w46 0)), (2, 1, (.int .i64 1 : PV))]).bind fun l78 => (storeP 3 v2 (PV.agg l78) p63.2).bind fun h79 => (loadP true 3 v2 h79).bind fun v80 => finP [.keep, .keep] h h79 [v80, (.bool true : PV)]) ( j65 [] p63.2)) fun j49 => ifP v48 ( j49 [] h47) ( j39 [] h47)
noncomputable def s72 (Γ : PCallee) (n : Nat) (x0 : PV) (h : PHeap) : Pt := forkP (.ptr h.length 0) (h ++ [.box (cellsP x0) 104 .rw]) fun v0 h1 => forkP (.ptr h1.length 0) (h1 ++ [.box [.str ⟨#[]⟩, .int .i64 0, .int .i64 0] 108 .rw]) fun v2 h3 => (fieldAddrP 0 v0).bind fun v4 => (fieldAddrP 11 v4).bind fun v5 => (loadP false 1 v5 h3).bind fun v6 => (lenP false v6).bind fun v7 => (binP .gtr v7 (.int .i64 31 : PV)).bind fun v8 => K1 (fun v10 h11 => KL (fun w13 h14 => (fieldAddrP 0 v0).bind fun v15 => (fieldAddrP 11 v15).bind fun v16 => (loadP false 1 v16 h14).bind fun v17 => (fz (.sl 13 SS13) v17 h14).bind fun q18 => (Γ 124 [q18.1, (PV.func 125 [] [])] q18.2).bind fun p19 => (binP .geq p19.1 (.int .i64 0 : PV)).bind fun v20 => KL (fun w22 h23 => (fieldAddrP 0 v0).bind fun v24 => (fieldAddrP 12 v24).bind fun v25 => (loadP false 1 v25 h23).bind fun v26 => (lenP false v26).bind fun v27 => (binP .gtr v27 (.int .i64 31 : PV)).bind fun v28 => K1 (fun v30 h31 => KL (fun w33 h34 => (fieldAddrP 0 v0).bind fun v35 => (fieldAddrP 12 v35).bind fun v36 => (loadP false 1 v36 h34).bind fun v37 => (lenP false v37).bind fun v38 => KL (fun w40 h41 => (fillP [.str ⟨#[]⟩, .int .i64 0, .int .i64 0] []).bind fun l42 => (storeP 3 v2 (PV.agg l42) h41).bind fun h43 => (loadP true 3 v2 h43).bind fun v44 => finP [.keep, .keep] h h43 [v44, (.bool false : PV)]) fun j39 => loopP (s72_L0 Γ n h v0 v2 h34 v37 v38 j39) n [(.int .i64 0 : PV)] h34) fun j32 => ifP v30 ( (fillP [.str ⟨#[]⟩, .int .i64 0, .int .i64 0] [(0, 1, (.str ⟨#[105, 110, 115, 116, 115]⟩ : PV)), (1, 1, (.int .i64 0 : PV)), (2, 1, (.int .i64 4 : PV))]).bind fun l81 => (storeP 3 v2 (PV.agg l81) h31).bind fun h82 => (loadP true 3 v2 h82).bind fun v83 => finP [.keep, .keep] h h82 [v83, (.bool true : PV)]) ( j32 [] h31)) fun j29 => scP v28 false ( (fieldAddrP 13 v0).bind fun v84 => (fieldAddrP 6 v84).bind fun v85 => (loadP false 1 v85 h23).bind fun v86 => (unP .not v86).bind fun v87 => K1 (fun v89 h90 => j29 v89 h90) fun j88 => scP v87 true ( (fieldAddrP 0 v0).bind fun v91 => (fieldAddrP 12 v91).bind fun v92 => (loadP false 1 v92 h23).bind fun v93 => (lenP false v93).bind fun v94 => (binP .gtr v94 (.int .i64 0 : PV)).bind fun v95 => j88 v95 h23) (j88 (.bool false) h23)) (j29 (.bool true) h23)) fun j21 => ifP v20 ( (fillP [.str ⟨#[]⟩, .int .i64 0, .int .i64 0] [(0, 1, (.str ⟨#[115, 97, 109, 112, 108, 101, 115]⟩ : PV)), (1, 1, p19.1), (2, 1, (.int .i64 1 : PV))]).bind fun l96 => (storeP 3 v2 (PV.agg l96) p19.2).bind fun h97 => (loadP true 3 v2 h97).bind fun v98 => finP [.keep, .keep] h h97 [v98, (.bool true : PV)]) ( j21 [] p19.2)) fun j12 => ifP v10 ( (fillP [.str ⟨#[]⟩, .int .i64 0, .int .i64 0] [(0, 1, (.str ⟨#[115, 97, 109, 112, 108, 101, 115]⟩ : PV)), (1, 1, (.int .i64 0 : PV)), (2, 1, (.int .i64 4 : PV))]).bind fun l99 => (storeP 3 v2 (PV.agg l99) h11).bind fun h100 => (loadP true 3 v2 h100).bind fun v101 => finP [.keep, .keep] h h100 [v101, (.bool true : PV)]) ( j12 [] h11)) fun j9 => scP v8 false ( (fieldAddrP 0 v0).bind fun v102 => (fieldAddrP 1 v102).bind fun v103 => (loadP false 1 v103 h3).bind fun v104 => (binP .eql v104 (.int .i64 6 : PV)).bind fun v105 => K1 (fun v107 h108 => j9 v107 h108) fun j106 => scP v105 true ( (fieldAddrP 0 v0).bind fun v109 => (fieldAddrP 11 v109).bind fun v110 => (loadP false 1 v110 h3).bind fun v111 => (lenP false v111).bind fun v112 => (binP .gtr v112 (.int .i64 0 : PV)).bind fun v113 => j106 v113 h3) (j106 (.bool false) h3)) (j9 (.bool true) h3)
theorem s72_eq (Γ : PCallee) (n : Nat) (x0 : PV) (h : PHeap) : pfunK Γ n A72 [x0] h = s72 Γ n x0 h := by kernel_rfl
open Go.Vm.G in
def A87 : PFun := ⟨1, 9, (S (R <| o 2 (.move (.const (.bool false))) <| z) <|
  (S (R <| m 3 0 <| b 4 .eql (t 3) (i 254) <| m 5 4 <| q 8 5 false [6, 7] (m 6 0 <| b 7 .eql (t 6) (i 255) <| z) (t 7) <|
  m 2 8 <| z) <|
  .ret)), [.tmp 2], [.keep]⟩
theorem ok87 : ∃ fn c, FunOk Tryz.prog 87 fn c A87.erase := ⟨Tryz.f87, _, ⟨Tryz.func87, rfl, by kernel_rfl, by kernel_rfl, by kernel_rfl, of_decide_eq_true (by kernel_rfl), by kernel_rfl⟩⟩
noncomputable def s87 (Γ : PCallee) (n : Nat) (x0 : PV) (h : PHeap) : Pt := (binP .eql x0 (.int .i64 254 : PV)).bind fun v0 => K1 (fun v2 h3 => finP [.keep] h h3 [v2]) fun j1 => scP v0 false ( (binP .eql x0 (.int .i64 255 : PV)).bind fun v4 => j1 v4 h) (j1 (.bool true) h)
theorem s87_eq (Γ : PCallee) (n : Nat) (x0 : PV) (h : PHeap) : pfunK Γ n A87 [x0] h = s87 Γ n x0 h := by kernel_rfl
open Go.Vm.G in
def A94 : PFun := ⟨2, 28, (S (R <| o 6 .mkMap <| m 3 6 <| z) <|
  (S (R <| f 7 3 1 <| l 8 7 <| o 9 (.len false (t 8)) <| o 10 (.move (i 0)) <| z) <|
  (.block 0 [] ([5] ++ g 10 18)
  (.loop [10] ([5] ++ g 11 17)
  (S (R <| b 11 .lss (t 10) (t 9) <| z) <|
  (S (.cond (t 11) [] []
  .skip
  (.exit 0)) <|
  (S (.block 1 [] ([5] ++ g 12 15)
  (S (R <| o 12 (.indexAddr 1 (t 8) (t 10)) <| l 13 12 <| m 5 13 <| z) <|
  (S (S (R <| m 14 5 <| o 15 (.call 87 [(t 14)]) <| m 16 15 <| q 20 16 false [17, 18, 19] (m 17 3 <| m 18 5 <| o 19 (.lookup .int (.bool false) false (t 17) (t 18)) <| z) (t 19) <|
  z) <|
  (.cond (t 20) [] []
  (.exit 1)
  .skip)) <|
  (S (R <| m 21 3 <| m 22 5 <| n (.mapSet .int (t 21) (t 22) (.const (.bool true))) <| z) <|
  (S (R <| m 23 0 <| m 24 5 <| o 25 (.callV (t 23) [(t 24)]) <| o 26 (.un .not (t 25)) <| z) <|
  (.cond (t 26) [] []
  .ret
  .skip)))))) <|
  (R <| b 27 .add (t 10) (i 1) <| m 10 27 <| z)))))))), [], []⟩
theorem ok94 : ∃ fn c, FunOk Tryz.prog 94 fn c A94.erase := ⟨Tryz.f94, _, ⟨Tryz.func94, rfl, by kernel_rfl, by kernel_rfl, by kernel_rfl, of_decide_eq_true (by kernel_rfl), by kernel_rfl⟩⟩
noncomputable def s94_L0 (Γ : PCallee) (n : Nat) (x0 : PV) (h : PHeap) (v0 : PV) (h1 : PHeap) (v3 : PV) (v4 : PV) (j5 : Kt) : (Kt) → Kt := fun c8 w9 h10 => (binP .lss (nthP w9 0) v4).bind fun v11 => KL (fun w13 h14 => KL (fun w16 h17 => (binP .add (nthP w9 0) (.int .i64 1 : PV)).bind fun v18 => c8 [v18] (trim h1 [v18] h17)) fun j15 => (indexAddrP 1 v3 (nthP w9 0)).bind fun v19 => (loadP false 1 v19 h14).bind fun v20 => (Γ 87 [v20] h14).bind fun p21 => K1 (fun v23 h24 => KL (fun w26 h27 => (setMapP .int v0 v20 (.bool true : PV) h27).bind fun h28 => (callVP Γ x0 [v20] h28).bind fun p29 => (unP .not p29.1).bind fun v30 => KL (fun w32 h33 => j15 [] h33) fun j31 => ifP v30 ( finP [] h p29.2 []) ( j31 [] p29.2)) fun j25 => ifP v23 ( j15 [] h24) ( j25 [] h24)) fun j22 => scP p21.1 false ( (lookupP .int (.bool false) false v0 v20 p21.2).bind fun v34 => j22 v34 p21.2) (j22 (.bool true) p21.2)) fun j12 => ifP v11 ( j12 [] h10) ( j5 [] h10)
noncomputable def s94 (Γ : PCallee) (n : Nat) (x0 : PV) (x1 : PV) (h : PHeap) : Pt := forkP (.map h.length) (h ++ [.map [] .rw]) fun v0 h1 => (fieldAddrP 3 x1).bind fun v2 => (loadP false 1 v2 h1).bind fun v3 => (lenP false v3).bind fun v4 => KL (fun w6 h7 => finP [] h h7 []) fun j5 => loopP (s94_L0 Γ n x0 h v0 h1 v3 v4 j5) n [(.int .i64 0 : PV)] h1
theorem s94_eq (Γ : PCallee) (n : Nat) (x0 : PV) (x1 : PV) (h : PHeap) : pfunK Γ n A94 [x0, x1] h = s94 Γ n x0 x1 h := by kernel_rfl
open Go.Vm.G in
def L96_0a : PCode := (R <| m 4 8 <| z)
open Go.Vm.G in
def L96_0b : PCode := (.block 1 [] ([6] ++ g 9 22)
  (S (R <| f 9 10 2 <| l 10 9 <| m 11 4 <| o 12 (.indexAddr 2 (t 10) (t 11)) <| f 13 1 12 <| l 14 13 <| o 15 (.len false (t 14)) <| o 16 (.move (i 0)) <| z) <|
  (.block 2 [] ([6] ++ g 16 15)
  (.loop [16] ([6] ++ g 17 14)
  (S (R <| b 17 .lss (t 16) (t 15) <| z) <|
  (S (.cond (t 17) [] []
  .skip
  (.exit 2)) <|
  (S (.block 3 [] ([6] ++ g 18 12)
  (S (R <| o 18 (.indexAddr 6 (t 14) (t 16)) <| o 19 (.load true 6 (t 18)) <| o 6 (.new 41 [(.int .i64 0), (.int .i64 0), (.int .i64 0), (.int .i64 0), (.int .i64 0), (.int .i64 0)]) <| n (.store 6 (t 6) (t 19)) <| z) <|
  (S (R <| f 20 1 6 <| l 21 20 <| b 22 .gtr (t 21) (i 0) <| m 23 22 <| q 29 23 true (g 24 5) (l 24 3 <| f 25 1 6 <| l 26 25 <| o 27 (.callV (t 24) [(t 26)]) <| o 28 (.un .not (t 27)) <| z) (t 28) <|
  z) <|
  (.cond (t 29) [] []
  .ret
  .skip)))) <|
  (R <| b 30 .add (t 16) (i 1) <| m 16 30 <| z))))))))
open Go.Vm.G in
def A96 : PFun := ⟨3, 31, (S (R <| o 3 (.box 85 (t 0)) <| z) <|
  (S (R <| l 7 1 <| z) <|
  (.block 0 [] []
  (.rangeF (t 7) [2, 3] [8] L96_0a L96_0b)))), [], []⟩
theorem ok96 : ∃ fn c, FunOk Tryz.prog 96 fn c A96.erase := ⟨Tryz.f96, _, ⟨Tryz.func96, rfl, by kernel_rfl, by kernel_rfl, by kernel_rfl, of_decide_eq_true (by kernel_rfl), by kernel_rfl⟩⟩
noncomputable def s96 (Γ : PCallee) (n : Nat) (x0 : PV) (x1 : PV) (x2 : PV) (h : PHeap) : Pt := forkP (.ptr h.length 0) (h ++ [.box (cellsP x0) 85 .rw]) fun v0 h1 => (loadP false 1 x1 h1).bind fun v2 => KL (fun w4 h5 => finP [] h h5 []) fun j3 => (callFP Γ v2 [.yield h1.length] (h1 ++ [.loop [x2, v0] [2, 3] [8] L96_0a L96_0b .ready none .rw])).bind fun p6 => (pendOfP h1.length p6.2).bind fun o7 => forkP undefP (trim h1 [] (p6.2.set h1.length .dead)) fun v8 h9 =>
endF o7 ( j3 [] h9) (fun i10 => bif Nat.beq i10 0 then (j3 [] h9) else none) ( finP [] h h9 [])
theorem s96_eq (Γ : PCallee) (n : Nat) (x0 : PV) (x1 : PV) (x2 : PV) (h : PHeap) : pfunK Γ n A96 [x0, x1, x2] h = s96 Γ n x0 x1 x2 h := by kernel_rfl
noncomputable def r96_0_L0 (Γ : PCallee) (n : Nat) (w3 : PV) (b : Nat) (h : PHeap) (h0 : PHeap) (v8 : PV) (v9 : PV) (j10 : Kt) : (Kt) → Kt := fun c13 w14 h15 => (binP .lss (nthP w14 0) v9).bind fun v16 => KL (fun w18 h19 => KL (fun w21 h22 => (binP .add (nthP w14 0) (.int .i64 1 : PV)).bind fun v23 => c13 [v23] (trim h0 [v23] h22)) fun j20 => (indexAddrP 6 v8 (nthP w14 0)).bind fun v24 => (loadP true 6 v24 h19).bind fun v25 => forkP (.ptr h19.length 0) (h19 ++ [.box [.int .i64 0, .int .i64 0, .int .i64 0, .int .i64 0, .int .i64 0, .int .i64 0] 41 .rw]) fun v26 h27 => (storeP 6 v26 v25 h27).bind fun h28 => (fieldAddrP 1 v26).bind fun v29 => (loadP false 1 v29 h28).bind fun v30 => (binP .gtr v30 (.int .i64 0 : PV)).bind fun v31 => K1 (fun v33 h34 => KL (fun w36 h37 => j20 [] h37) fun j35 => ifP v33 ( (endRoundP b .ret h34).map fun q => (q.1, trim h [] q.2)) ( j35 [] h34)) fun j32 => scP v31 true ( (loadP false 1 w3 h28).bind fun v38 => (fieldAddrP 1 v26).bind fun v39 => (loadP false 1 v39 h28).bind fun v40 => (callVP Γ v38 [v40] h28).bind fun p41 => (unP .not p41.1).bind fun v42 => j32 v42 p41.2) (j32 (.bool false) h28)) fun j17 => ifP v16 ( j17 [] h15) ( j10 [] h15)
noncomputable def r96_0 (Γ : PCallee) (n : Nat) (w2 : PV) (w3 : PV) (a8 : PV) (b : Nat) (h : PHeap) : Pt := (beginRoundP b h).bind fun h0 => KL (fun w2 h3 => (endRoundP b .normal h3).map fun q => (q.1, trim h [] q.2)) fun j1 => (fieldAddrP 10 w2).bind fun v4 => (loadP false 1 v4 h0).bind fun v5 => (indexAddrP 2 v5 a8).bind fun v6 => (fieldAddrP 1 v6).bind fun v7 => (loadP false 1 v7 h0).bind fun v8 => (lenP false v8).bind fun v9 => KL (fun w11 h12 => j1 [] h12) fun j10 => loopP (r96_0_L0 Γ n w3 b h h0 v8 v9 j10) n [(.int .i64 0 : PV)] h0
theorem r96_0_eq (Γ : PCallee) (n : Nat) (w2 : PV) (w3 : PV) (a8 : PV) (b : Nat) (h : PHeap) (pend : Option AExit) (md : Md) (hb : h[b]? = some (.loop [w2, w3] [2, 3] [8] L96_0a L96_0b .ready pend md)) : proundK Γ n (.ptr b 0 :: [a8]) h = r96_0 Γ n w2 w3 a8 b h := (proundK_eq hb rfl).trans (by kernel_rfl)
open Go.Vm.G in
def A99 : PFun := ⟨1, 142, (S (R <| o 1 (.box 27 (t 0)) <| o 2 (.move (.const (.string ⟨#[]⟩))) <| o 3 (.move (i 0)) <| o 4 (.move (i 0)) <| z) <|
  (S (R <| f 10 1 1 <| l 11 10 <| o 12 (.call 56 [(t 11)]) <| m 9 12 <| o 13 (.extract (t 9) 0) <| o 14 (.extract (t 9) 1) <| o 5 (.new 83 V29) <| n (.store 29 (t 5) (t 13)) <| m 6 14 <| z) <|
  (S (D <| f 16 0 1 <| l 17 16 <| O 18 (.call 137 [(t 17)]) <| O 19 (.call 136 [(t 18), (.const (.string ⟨#[110, 97, 109, 101]⟩)), (i 1)]) <| m 20 6 <| b 21 .eql (t 20) (i 0) <| O 22 (.call 136 [(t 21), (.const (.string ⟨#[100, 105, 97, 108, 101, 99, 116]⟩)), (i 6)]) <| f 23 2 1 <| l 24 23 <| f 25 1 5 <| l 26 25 <| O 27 (.call 57 [(t 24), (i 1), (t 26)]) <| O 28 (.call 136 [(t 27), (.const (.string ⟨#[99, 104, 97, 110, 110, 101, 108, 115]⟩)), (i 5)]) <| (.op (some 29) (.buildF 154 [(.string ⟨#[]⟩), (.int .i64 0), (.int .i64 0)] 3 [(0, 3, (t 19)), (3, 3, (t 22)), (6, 3, (t 28))]) false <| O 30 (.call 135 [(t 29)]) <| m 15 30 <| o 31 (.extract (t 15) 0) <| o 32 (.extract (t 15) 1) <| o 7 (.new 154 [(.string ⟨#[]⟩), (.int .i64 0), (.int .i64 0)]) <| n (.store 3 (t 7) (t 31)) <| m 8 32 <| z)) <|
  (S (S (R <| m 33 8 <| z) <|
  (.cond (t 33) [] ([2, 3, 4] ++ g 34 6)
  (S (D <| f 34 0 7 <| l 35 34 <| f 36 1 7 <| l 37 36 <| f 38 2 7 <| l 39 38 <| m 2 35 <| m 3 37 <| m 4 39 <| z) <|
  .ret)
  .skip)) <|
  (S (D <| f 41 10 1 <| l 42 41 <| o 43 (.len false (t 42)) <| f 44 2 5 <| l 45 44 <| O 46 (.call 57 [(t 43), (i 1), (t 45)]) <| O 47 (.call 136 [(t 46), (.const (.string ⟨#[112, 97, 116, 116, 101, 114, 110, 115]⟩)), (i 4)]) <| o 48 (.load true 13 (t 1)) <| f 49 3 5 <| l 50 49 <| O 51 (.call 138 [(t 48), (t 50)]) <| f 52 3 1 <| l 53 52 <| o 54 (.len false (t 53)) <| O 55 (.call 57 [(t 54), (i 1), (i 64)]) <| O 56 (.call 136 [(t 55), (.const (.string ⟨#[111, 114, 100, 101, 114, 115]⟩)), (i 4)]) <| o 57 (.load true 13 (t 1)) <| O 58 (.call 139 [(t 57)]) <| f 59 4 1 <| l 60 59 <| f 61 3 1 <| l 62 61 <| o 63 (.len false (t 62)) <| b 64 .sub (t 63) (i 1) <| O 65 (.call 57 [(t 60), (i 0), (t 64)]) <| O 66 (.call 136 [(t 65), (.const (.string ⟨#[114, 101, 115, 116, 97, 114, 116]⟩)), (i 5)]) <| f 67 5 1 <| l 68 67 <| O 69 (.call 57 [(t 68), (i 1), (i 31)]) <| O 70 (.call 136 [(t 69), (.const (.string ⟨#[115, 112, 101, 101, 100]⟩)), (i 5)]) <| f 71 6 1 <| l 72 71 <| O 73 (.call 57 [(t 72), (i 32), (i 255)]) <| O 74 (.call 136 [(t 73), (.const (.string ⟨#[116, 101, 109, 112, 111]⟩)), (i 5)]) <| f 75 7 1 <| l 76 75 <| O 77 (.call 57 [(t 76), (i 0), (i 128)]) <| O 78 (.call 136 [(t 77), (.const (.string ⟨#[103, 108, 111, 98, 97, 108]⟩)), (i 5)]) <| f 79 8 1 <| l 80 79 <| o 81 (.un .not (t 80)) <| m 82 81 <| q 85 82 false [83, 84] (f 83 8 5 <| l 84 83 <| z) (t 84) <|
  O 86 (.call 136 [(t 85), (.const (.string ⟨#[108, 105, 110, 101, 97, 114]⟩)), (i 6)]) <| f 87 9 1 <| l 88 87 <| o 89 (.len false (t 88)) <| f 90 2 1 <| l 91 90 <| b 92 .eql (t 89) (t 91) <| O 93 (.call 136 [(t 92), (.const (.string ⟨#[112, 97, 110, 115]⟩)), (i 4)]) <| o 94 (.load true 13 (t 1)) <| O 95 (.call 140 [(t 94)]) <| f 96 11 1 <| l 97 96 <| o 98 (.len false (t 97)) <| b 99 .leq (t 98) (i 31) <| m 100 99 <| q 110 100 true (g 101 4 ++ [109] ++ g 105 4) (f 101 1 1 <| l 102 101 <| b 103 .neq (t 102) (i 6) <| m 104 103 <| q 109 104 false (g 105 4) (f 105 11 1 <| l 106 105 <| o 107 (.len false (t 106)) <| b 108 .eql (t 107) (i 0) <| z) (t 108) <|
  z) (t 109) <|
  O 111 (.call 136 [(t 110), (.const (.string ⟨#[115, 97, 109, 112, 108, 101, 115]⟩)), (i 4)]) <| o 112 (.load true 13 (t 1)) <| O 113 (.call 141 [(t 112)]) <| f 114 12 1 <| l 115 114 <| o 116 (.len false (t 115)) <| b 117 .leq (t 116) (i 31) <| m 118 117 <| q 127 118 true ([119, 120, 121, 126] ++ g 122 4) (f 119 6 5 <| l 120 119 <| m 121 120 <| q 126 121 false (g 122 4) (f 122 12 1 <| l 123 122 <| o 124 (.len false (t 123)) <| b 125 .eql (t 124) (i 0) <| z) (t 125) <|
  z) (t 126) <|
  O 128 (.call 136 [(t 127), (.const (.string ⟨#[105, 110, 115, 116, 115]⟩)), (i 4)]) <| o 129 (.load true 13 (t 1)) <| o 130 (.call 142 [(t 129)]) <| (.op (some 131) (.buildF 154 [(.string ⟨#[]⟩), (.int .i64 0), (.int .i64 0)] 15 [(0, 3, (t 47)), (3, 3, (t 51)), (6, 3, (t 56)), (9, 3, (t 58)), (12, 3, (t 66)), (15, 3, (t 70)), (18, 3, (t 74)), (21, 3, (t 78)), (24, 3, (t 86)), (27, 3, (t 93)), (30, 3, (t 95)), (33, 3, (t 111)), (36, 3, (t 113)), (39, 3, (t 128)), (42, 3, (t 130))]) false <| o 132 (.call 135 [(t 131)]) <| m 40 132 <| o 133 (.extract (t 40) 0) <| o 134 (.extract (t 40) 1) <| n (.store 3 (t 7) (t 133)) <| m 8 134 <| z)) <|
  (S (S (R <| m 135 8 <| z) <|
  (.cond (t 135) [] ([2, 3, 4] ++ g 136 6)
  (S (D <| f 136 0 7 <| l 137 136 <| f 138 1 7 <| l 139 138 <| f 140 2 7 <| l 141 140 <| m 2 137 <| m 3 139 <| m 4 141 <| z) <|
  .ret)
  .skip)) <|
  (S (R <| o 2 (.move (.const (.string ⟨#[]⟩))) <| o 3 (.move (i (-1))) <| o 4 (.move (i 0)) <| z) <|
  .ret))))))), [.tmp 2, .tmp 3, .tmp 4], [.keep, .keep, .keep]⟩
theorem ok99 : ∃ fn c, FunOk Tryz.prog 99 fn c A99.erase := ⟨Tryz.f99, _, ⟨Tryz.func99, rfl, by kernel_rfl, by kernel_rfl, by kernel_rfl, of_decide_eq_true (by kernel_rfl), by kernel_rfl⟩⟩
noncomputable def s99 (Γ : PCallee) (n : Nat) (x0 : PV) (h : PHeap) : Pt := forkP (.ptr h.length 0) (h ++ [.box (cellsP x0) 27 .rw]) fun v0 h1 => (fieldAddrP 1 v0).bind fun v2 => (loadP false 1 v2 h1).bind fun v3 => (Γ 56 [v3] h1).bind fun p4 => (extractP p4.1 0).bind fun v5 => (extractP p4.1 1).bind fun v6 => forkP (.ptr p4.2.length 0) (p4.2 ++ [.box Z29 83 .rw]) fun v7 h8 => (storeP 29 v7 v5 h8).bind fun h9 => (fieldAddrP 0 v0).bind fun v10 => (loadP false 1 v10 h9).bind fun v11 => (Γ 137 [v11] (lock h9)).bind fun p12 => unl h9 p12.2 fun h13 => (Γ 136 [p12.1, (.str ⟨#[110, 97, 109, 101]⟩ : PV), (.int .i64 1 : PV)] (lock h13)).bind fun p14 => unl h13 p14.2 fun h15 => (binP .eql v6 (.int .i64 0 : PV)).bind fun v16 => (Γ 136 [v16, (.str ⟨#[100, 105, 97, 108, 101, 99, 116]⟩ : PV), (.int .i64 6 : PV)] (lock h15)).bind fun p17 => unl h15 p17.2 fun h18 => (fieldAddrP 2 v0).bind fun v19 => (loadP false 1 v19 h18).bind fun v20 => (fieldAddrP 1 v7).bind fun v21 => (loadP false 1 v21 h18).bind fun v22 => (Γ 57 [v20, (.int .i64 1 : PV), v22] (lock h18)).bind fun p23 => unl h18 p23.2 fun h24 => (Γ 136 [p23.1, (.str ⟨#[99, 104, 97, 110, 110, 101, 108, 115]⟩ : PV), (.int .i64 5 : PV)] (lock h24)).bind fun p25 => unl h24 p25.2 fun h26 => (fillP (repP [.str ⟨#[]⟩, .int .i64 0, .int .i64 0] 3) [(0, 3, p14.1), (3, 3, p17.1), (6, 3, p25.1)]).bind fun l27 => guardP (l27.all pure1) ( forkP (.frz 3 (chunk 3 3 l27)) (h26) fun v28 h29 => (Γ 135 [v28] (lock h29)).bind fun p30 => unl h29 p30.2 fun h31 => (extractP p30.1 0).bind fun v32 => (extractP p30.1 1).bind fun v33 => forkP (.ptr h31.length 0) (h31 ++ [.box [.str ⟨#[]⟩, .int .i64 0, .int .i64 0] 154 .rw]) fun v34 h35 => (storeP 3 v34 v32 h35).bind fun h36 => KL (fun w38 h39 => (fieldAddrP 10 v0).bind fun v40 => (loadP false 1 v40 h39).bind fun v41 => (lenP false v41).bind fun v42 => (fieldAddrP 2 v7).bind fun v43 => (loadP false 1 v43 h39).bind fun v44 => (Γ 57 [v42, (.int .i64 1 : PV), v44] (lock h39)).bind fun p45 => unl h39 p45.2 fun h46 => (Γ 136 [p45.1, (.str ⟨#[112, 97, 116, 116, 101, 114, 110, 115]⟩ : PV), (.int .i64 4 : PV)] (lock h46)).bind fun p47 => unl h46 p47.2 fun h48 => (loadP true 13 v0 h48).bind fun v49 => (fieldAddrP 3 v7).bind fun v50 => (loadP false 1 v50 h48).bind fun v51 => (Γ 138 [v49, v51] (lock h48)).bind fun p52 => unl h48 p52.2 fun h53 => (fieldAddrP 3 v0).bind fun v54 => (loadP false 1 v54 h53).bind fun v55 => (lenP false v55).bind fun v56 => (Γ 57 [v56, (.int .i64 1 : PV), (.int .i64 64 : PV)] (lock h53)).bind fun p57 => unl h53 p57.2 fun h58 => (Γ 136 [p57.1, (.str ⟨#[111, 114, 100, 101, 114, 115]⟩ : PV), (.int .i64 4 : PV)] (lock h58)).bind fun p59 => unl h58 p59.2 fun h60 => (loadP true 13 v0 h60).bind fun v61 => (Γ 139 [v61] (lock h60)).bind fun p62 => unl h60 p62.2 fun h63 => (fieldAddrP 4 v0).bind fun v64 => (loadP false 1 v64 h63).bind fun v65 => (fieldAddrP 3 v0).bind fun v66 => (loadP false 1 v66 h63).bind fun v67 => (lenP false v67).bind fun v68 => (binP .sub v68 (.int .i64 1 : PV)).bind fun v69 => (Γ 57 [v65, (.int .i64 0 : PV), v69] (lock h63)).bind fun p70 => unl h63 p70.2 fun h71 => (Γ 136 [p70.1, (.str ⟨#[114, 101, 115, 116, 97, 114, 116]⟩ : PV), (.int .i64 5 : PV)] (lock h71)).bind fun p72 => unl h71 p72.2 fun h73 => (fieldAddrP 5 v0).bind fun v74 => (loadP false 1 v74 h73).bind fun v75 => (Γ 57 [v75, (.int .i64 1 : PV), (.int .i64 31 : PV)] (lock h73)).bind fun p76 => unl h73 p76.2 fun h77 => (Γ 136 [p76.1, (.str ⟨#[115, 112, 101, 101, 100]⟩ : PV), (.int .i64 5 : PV)] (lock h77)).bind fun p78 => unl h77 p78.2 fun h79 => (fieldAddrP 6 v0).bind fun v80 => (loadP false 1 v80 h79).bind fun v81 => (Γ 57 [v81, (.int .i64 32 : PV), (.int .i64 255 : PV)] (lock h79)).bind fun p82 => unl h79 p82.2 fun h83 => (Γ 136 [p82.1, (.str ⟨#[116, 101, 109, 112, 111]⟩ : PV), (.int .i64 5 : PV)] (lock h83)).bind fun p84 => unl h83 p84.2 fun h85 => (fieldAddrP 7 v0).bind fun v86 => (loadP false 1 v86 h85).bind fun v87 => (Γ 57 [v87, (.int .i64 0 : PV), (.int .i64 128 : PV)] (lock h85)).bind fun p88 => unl h85 p88.2 fun h89 => (Γ 136 [p88.1, (.str ⟨#[103, 108, 111, 98, 97, 108]⟩ : PV), (.int .i64 5 : PV)] (lock h89)).bind fun p90 => unl h89 p90.2 fun h91 => (fieldAddrP 8 v0).bind fun v92 => (loadP false 1 v92 h91).bind fun v93 => (unP .not v93).bind fun v94 => K1 (fun v96 h97 => (Γ 136 [v96, (.str ⟨#[108, 105, 110, 101, 97, 114]⟩ : PV), (.int .i64 6 : PV)] (lock h97)).bind fun p98 => unl h97 p98.2 fun h99 => (fieldAddrP 9 v0).bind fun v100 => (loadP false 1 v100 h99).bind fun v101 => (lenP false v101).bind fun v102 => (fieldAddrP 2 v0).bind fun v103 => (loadP false 1 v103 h99).bind fun v104 => (binP .eql v102 v104).bind fun v105 => (Γ 136 [v105, (.str ⟨#[112, 97, 110, 115]⟩ : PV), (.int .i64 4 : PV)] (lock h99)).bind fun p106 => unl h99 p106.2 fun h107 => (loadP true 13 v0 h107).bind fun v108 => (Γ 140 [v108] (lock h107)).bind fun p109 => unl h107 p109.2 fun h110 => (fieldAddrP 11 v0).bind fun v111 => (loadP false 1 v111 h110).bind fun v112 => (lenP false v112).bind fun v113 => (binP .leq v113 (.int .i64 31 : PV)).bind fun v114 => K1 (fun v116 h117 => (Γ 136 [v116, (.str ⟨#[115, 97, 109, 112, 108, 101, 115]⟩ : PV), (.int .i64 4 : PV)] (lock h117)).bind fun p118 => unl h117 p118.2 fun h119 => (loadP true 13 v0 h119).bind fun v120 => (Γ 141 [v120] (lock h119)).bind fun p121 => unl h119 p121.2 fun h122 => (fieldAddrP 12 v0).bind fun v123 => (loadP false 1 v123 h122).bind fun v124 => (lenP false v124).bind fun v125 => (binP .leq v125 (.int .i64 31 : PV)).bind fun v126 => K1 (fun v128 h129 => (Γ 136 [v128, (.str ⟨#[105, 110, 115, 116, 115]⟩ : PV), (.int .i64 4 : PV)] (lock h129)).bind fun p130 => unl h129 p130.2 fun h131 => (loadP true 13 v0 h131).bind fun v132 => (Γ 142 [v132] h131).bind fun p133 => (fillP (repP [.str ⟨#[]⟩, .int .i64 0, .int .i64 0] 15) [(0, 3, p47.1), (3, 3, p52.1), (6, 3, p59.1), (9, 3, p62.1), (12, 3, p72.1), (15, 3, p78.1), (18, 3, p84.1), (21, 3, p90.1), (24, 3, p98.1), (27, 3, p106.1), (30, 3, p109.1), (33, 3, p118.1), (36, 3, p121.1), (39, 3, p130.1), (42, 3, p133.1)]).bind fun l134 => guardP (l134.all pure1) ( forkP (.frz 3 (chunk 3 15 l134)) (p133.2) fun v135 h136 => (Γ 135 [v135] h136).bind fun p137 => (extractP p137.1 0).bind fun v138 => (extractP p137.1 1).bind fun v139 => (storeP 3 v34 v138 p137.2).bind fun h140 => KL (fun w142 h143 => finP [.keep, .keep, .keep] h h143 [(.str ⟨#[]⟩ : PV), (.int .i64 (-1) : PV), (.int .i64 0 : PV)]) fun j141 => ifP v139 ( (fieldAddrP 0 v34).bind fun v144 => (loadP false 1 v144 h140).bind fun v145 => (fieldAddrP 1 v34).bind fun v146 => (loadP false 1 v146 h140).bind fun v147 => (fieldAddrP 2 v34).bind fun v148 => (loadP false 1 v148 h140).bind fun v149 => finP [.keep, .keep, .keep] h h140 [v145, v147, v149]) ( j141 [] h140))) fun j127 => scP v126 true ( (fieldAddrP 6 v7).bind fun v150 => (loadP false 1 v150 h122).bind fun v151 => K1 (fun v153 h154 => j127 v153 h154) fun j152 => scP v151 false ( (fieldAddrP 12 v0).bind fun v155 => (loadP false 1 v155 h122).bind fun v156 => (lenP false v156).bind fun v157 => (binP .eql v157 (.int .i64 0 : PV)).bind fun v158 => j152 v158 h122) (j152 (.bool true) h122)) (j127 (.bool false) h122)) fun j115 => scP v114 true ( (fieldAddrP 1 v0).bind fun v159 => (loadP false 1 v159 h110).bind fun v160 => (binP .neq v160 (.int .i64 6 : PV)).bind fun v161 => K1 (fun v163 h164 => j115 v163 h164) fun j162 => scP v161 false ( (fieldAddrP 11 v0).bind fun v165 => (loadP false 1 v165 h110).bind fun v166 => (lenP false v166).bind fun v167 => (binP .eql v167 (.int .i64 0 : PV)).bind fun v168 => j162 v168 h110) (j162 (.bool true) h110)) (j115 (.bool false) h110)) fun j95 => scP v94 false ( (fieldAddrP 8 v7).bind fun v169 => (loadP false 1 v169 h91).bind fun v170 => j95 v170 h91) (j95 (.bool true) h91)) fun j37 => ifP v33 ( (fieldAddrP 0 v34).bind fun v171 => (loadP false 1 v171 h36).bind fun v172 => (fieldAddrP 1 v34).bind fun v173 => (loadP false 1 v173 h36).bind fun v174 => (fieldAddrP 2 v34).bind fun v175 => (loadP false 1 v175 h36).bind fun v176 => finP [.keep, .keep, .keep] h h36 [v172, v174, v176]) ( j37 [] h36))
theorem s99_eq (Γ : PCallee) (n : Nat) (x0 : PV) (h : PHeap) : pfunK Γ n A99 [x0] h = s99 Γ n x0 h := by kernel_rfl
open Go.Vm.G in
def A101 : PFun := ⟨1, 9, (S (R <| o 2 (.move (.const (.bool false))) <| z) <|
  (S (R <| m 3 0 <| b 4 .geq (t 3) (i 1) <| m 5 4 <| q 8 5 true [6, 7] (m 6 0 <| b 7 .leq (t 6) (i 6) <| z) (t 7) <|
  m 2 8 <| z) <|
  .ret)), [.tmp 2], [.keep]⟩
theorem ok101 : ∃ fn c, FunOk Tryz.prog 101 fn c A101.erase := ⟨Tryz.f101, _, ⟨Tryz.func101, rfl, by kernel_rfl, by kernel_rfl, by kernel_rfl, of_decide_eq_true (by kernel_rfl), by kernel_rfl⟩⟩
noncomputable def s101 (Γ : PCallee) (n : Nat) (x0 : PV) (h : PHeap) : Pt := (binP .geq x0 (.int .i64 1 : PV)).bind fun v0 => K1 (fun v2 h3 => finP [.keep] h h3 [v2]) fun j1 => scP v0 true ( (binP .leq x0 (.int .i64 6 : PV)).bind fun v4 => j1 v4 h) (j1 (.bool false) h)
theorem s101_eq (Γ : PCallee) (n : Nat) (x0 : PV) (h : PHeap) : pfunK Γ n A101 [x0] h = s101 Γ n x0 h := by kernel_rfl
open Go.Vm.G in
def A102 : PFun := ⟨0, 8, (S (R <| o 0 (.new 131 V203) <| z) <|
  (S (R <| o 1 (.build V29 [(0, 1, (.const (.string ⟨#[102, 111, 117, 114]⟩))), (1, 1, (i 4)), (2, 1, (i 32)), (3, 1, (i 64)), (4, 1, (i 49)), (5, 1, (i 84)), (9, 1, (i 1)), (10, 1, (i 453)), (11, 1, (i 3424)), (16, 1, (i 5)), (17, 1, (.const (.bool true))), (18, 1, (i 1)), (19, 1, (.const (.bool true))), (21, 1, (i 1)), (22, 1, (.const (.bool true))), (25, 1, (.const (.bool true)))]) <| o 2 (.build V29 [(0, 1, (.const (.string ⟨#[115, 99, 114, 101, 97, 109]⟩))), (1, 1, (i 16)), (2, 1, (i 32)), (3, 1, (i 64)), (4, 1, (i 13)), (5, 1, (i 108)), (7, 1, (.const (.bool true))), (9, 1, (i 1)), (10, 1, (i 64)), (11, 1, (i 32767)), (16, 1, (i 5))]) <| o 3 (.build V29 [(0, 1, (.const (.string ⟨#[102, 97, 115, 116]⟩))), (1, 1, (i 16)), (2, 1, (i 32)), (4, 1, (i 1)), (5, 1, (i 96)), (6, 1, (.const (.bool true))), (7, 1, (.const (.bool true))), (8, 1, (.const (.bool true))), (10, 1, (i 32)), (11, 1, (i 65535)), (12, 1, (.const (.bool true))), (16, 1, (i 6)), (17, 1, (.const (.bool true))), (19, 1, (.const (.bool true))), (20, 1, (.const (.bool true))), (21, 1, (i 1)), (23, 1, (.const (.bool true))), (24, 1, (.const (.bool true))), (25, 1, (.const (.bool true))), (26, 1, (.const (.bool true))), (27, 1, (.const (.bool true)))]) <| o 4 (.build V29 [(0, 1, (.const (.string ⟨#[105, 109, 112, 117, 108, 115, 101]⟩))), (1, 1, (i 16)), (2, 1, (i 32)), (4, 1, (i 1)), (5, 1, (i 120)), (6, 1, (.const (.bool true))), (7, 1, (.const (.bool true))), (8, 1, (.const (.bool true))), (10, 1, (i 16)), (11, 1, (i 65535)), (15, 1, (.const (.bool true))), (16, 1, (i 6)), (19, 1, (.const (.bool true))), (21, 1, (i 2)), (23, 1, (.const (.bool true))), (27, 1, (.const (.bool true)))]) <| o 5 (.build V29 [(0, 1, (.const (.string ⟨#[99, 111, 109, 112, 111, 115, 101]⟩))), (1, 1, (i 8)), (2, 1, (i 32)), (3, 1, (i 64)), (4, 1, (i 13)), (5, 1, (i 72)), (9, 1, (i 2)), (13, 1, (.const (.bool true))), (16, 1, (i 5)), (18, 1, (i 2)), (28, 1, (.const (.bool true)))]) <| o 6 (.build V29 [(0, 1, (.const (.string ⟨#[99, 104, 105, 112]⟩))), (1, 1, (i 4)), (2, 1, (i 32)), (4, 1, (i 13)), (5, 1, (i 108)), (6, 1, (.const (.bool true))), (9, 1, (i 1)), (10, 1, (i 16)), (11, 1, (i 65535)), (14, 1, (.const (.bool true))), (16, 1, (i 5)), (17, 1, (.const (.bool true))), (18, 1, (i 2)), (23, 1, (.const (.bool true))), (27, 1, (.const (.bool true)))]) <| o 7 (.build V203 [(29, 29, (t 1)), (58, 29, (t 2)), (87, 29, (t 3)), (116, 29, (t 4)), (145, 29, (t 5)), (174, 29, (t 6))]) <| n (.store 203 (t 0) (t 7)) <| z) <|
  .ret)), [.cell 0 true 203], [.keep]⟩
theorem ok102 : ∃ fn c, FunOk Tryz.prog 102 fn c A102.erase := ⟨Tryz.f102, _, ⟨Tryz.func102, rfl, by kernel_rfl, by kernel_rfl, by kernel_rfl, of_decide_eq_true (by kernel_rfl), by kernel_rfl⟩⟩
noncomputable def s102 (Γ : PCallee) (n : Nat) (h : PHeap) : Pt := forkP (.ptr h.length 0) (h ++ [.box Z203 131 .rw]) fun v0 h1 => (fillP Z29 [(0, 1, (.str ⟨#[102, 111, 117, 114]⟩ : PV)), (1, 1, (.int .i64 4 : PV)), (2, 1, (.int .i64 32 : PV)), (3, 1, (.int .i64 64 : PV)), (4, 1, (.int .i64 49 : PV)), (5, 1, (.int .i64 84 : PV)), (9, 1, (.int .i64 1 : PV)), (10, 1, (.int .i64 453 : PV)), (11, 1, (.int .i64 3424 : PV)), (16, 1, (.int .i64 5 : PV)), (17, 1, (.bool true : PV)), (18, 1, (.int .i64 1 : PV)), (19, 1, (.bool true : PV)), (21, 1, (.int .i64 1 : PV)), (22, 1, (.bool true : PV)), (25, 1, (.bool true : PV))]).bind fun l2 => (fillP Z29 [(0, 1, (.str ⟨#[115, 99, 114, 101, 97, 109]⟩ : PV)), (1, 1, (.int .i64 16 : PV)), (2, 1, (.int .i64 32 : PV)), (3, 1, (.int .i64 64 : PV)), (4, 1, (.int .i64 13 : PV)), (5, 1, (.int .i64 108 : PV)), (7, 1, (.bool true : PV)), (9, 1, (.int .i64 1 : PV)), (10, 1, (.int .i64 64 : PV)), (11, 1, (.int .i64 32767 : PV)), (16, 1, (.int .i64 5 : PV))]).bind fun l3 => (fillP Z29 [(0, 1, (.str ⟨#[102, 97, 115, 116]⟩ : PV)), (1, 1, (.int .i64 16 : PV)), (2, 1, (.int .i64 32 : PV)), (4, 1, (.int .i64 1 : PV)), (5, 1, (.int .i64 96 : PV)), (6, 1, (.bool true : PV)), (7, 1, (.bool true : PV)), (8, 1, (.bool true : PV)), (10, 1, (.int .i64 32 : PV)), (11, 1, (.int .i64 65535 : PV)), (12, 1, (.bool true : PV)), (16, 1, (.int .i64 6 : PV)), (17, 1, (.bool true : PV)), (19, 1, (.bool true : PV)), (20, 1, (.bool true : PV)), (21, 1, (.int .i64 1 : PV)), (23, 1, (.bool true : PV)), (24, 1, (.bool true : PV)), (25, 1, (.bool true : PV)), (26, 1, (.bool true : PV)), (27, 1, (.bool true : PV))]).bind fun l4 => (fillP Z29 [(0, 1, (.str ⟨#[105, 109, 112, 117, 108, 115, 101]⟩ : PV)), (1, 1, (.int .i64 16 : PV)), (2, 1, (.int .i64 32 : PV)), (4, 1, (.int .i64 1 : PV)), (5, 1, (.int .i64 120 : PV)), (6, 1, (.bool true : PV)), (7, 1, (.bool true : PV)), (8, 1, (.bool true : PV)), (10, 1, (.int .i64 16 : PV)), (11, 1, (.int .i64 65535 : PV)), (15, 1, (.bool true : PV)), (16, 1, (.int .i64 6 : PV)), (19, 1, (.bool true : PV)), (21, 1, (.int .i64 2 : PV)), (23, 1, (.bool true : PV)), (27, 1, (.bool true : PV))]).bind fun l5 => (fillP Z29 [(0, 1, (.str ⟨#[99, 111, 109, 112, 111, 115, 101]⟩ : PV)), (1, 1, (.int .i64 8 : PV)), (2, 1, (.int .i64 32 : PV)), (3, 1, (.int .i64 64 : PV)), (4, 1, (.int .i64 13 : PV)), (5, 1, (.int .i64 72 : PV)), (9, 1, (.int .i64 2 : PV)), (13, 1, (.bool true : PV)), (16, 1, (.int .i64 5 : PV)), (18, 1, (.int .i64 2 : PV)), (28, 1, (.bool true : PV))]).bind fun l6 => (fillP Z29 [(0, 1, (.str ⟨#[99, 104, 105, 112]⟩ : PV)), (1, 1, (.int .i64 4 : PV)), (2, 1, (.int .i64 32 : PV)), (4, 1, (.int .i64 13 : PV)), (5, 1, (.int .i64 108 : PV)), (6, 1, (.bool true : PV)), (9, 1, (.int .i64 1 : PV)), (10, 1, (.int .i64 16 : PV)), (11, 1, (.int .i64 65535 : PV)), (14, 1, (.bool true : PV)), (16, 1, (.int .i64 5 : PV)), (17, 1, (.bool true : PV)), (18, 1, (.int .i64 2 : PV)), (23, 1, (.bool true : PV)), (27, 1, (.bool true : PV))]).bind fun l7 => (fillP Z203 [(29, 29, (PV.agg l2)), (58, 29, (PV.agg l3)), (87, 29, (PV.agg l4)), (116, 29, (PV.agg l5)), (145, 29, (PV.agg l6)), (174, 29, (PV.agg l7))]).bind fun l8 => (storeP 203 v0 (PV.agg l8) h1).bind fun h9 => (loadP true 203 v0 h9).bind fun v10 => finP [.keep] h h9 [v10]
theorem s102_eq (Γ : PCallee) (n : Nat) (h : PHeap) : pfunK Γ n A102 [] h = s102 Γ n h := by kernel_rfl
open Go.Vm.G in
def A103 : PFun := ⟨1, 5, (S (R <| o 2 (.move (.const (.bool false))) <| z) <|
  (S (R <| m 3 0 <| o 4 (.call 104 [(t 3), (i 1), (i 16)]) <| m 2 4 <| z) <|
  .ret)), [.tmp 2], [.keep]⟩
theorem ok103 : ∃ fn c, FunOk Tryz.prog 103 fn c A103.erase := ⟨Tryz.f103, _, ⟨Tryz.func103, rfl, by kernel_rfl, by kernel_rfl, by kernel_rfl, of_decide_eq_true (by kernel_rfl), by kernel_rfl⟩⟩
noncomputable def s103 (Γ : PCallee) (n : Nat) (x0 : PV) (h : PHeap) : Pt := (Γ 104 [x0, (.int .i64 1 : PV), (.int .i64 16 : PV)] h).bind fun p0 => finP [.keep] h p0.2 [p0.1]
theorem s103_eq (Γ : PCallee) (n : Nat) (x0 : PV) (h : PHeap) : pfunK Γ n A103 [x0] h = s103 Γ n x0 h := by kernel_rfl
open Go.Vm.G in
def A104 : PFun := ⟨3, 15, (S (R <| o 6 (.move (.const (.bool false))) <| z) <|
  (S (R <| m 7 0 <| m 8 1 <| b 9 .geq (t 7) (t 8) <| m 10 9 <| q 14 10 true [11, 12, 13] (m 11 0 <| m 12 2 <| b 13 .leq (t 11) (t 12) <| z) (t 13) <|
  m 6 14 <| z) <|
  .ret)), [.tmp 6], [.keep]⟩
theorem ok104 : ∃ fn c, FunOk Tryz.prog 104 fn c A104.erase := ⟨Tryz.f104, _, ⟨Tryz.func104, rfl, by kernel_rfl, by kernel_rfl, by kernel_rfl, of_decide_eq_true (by kernel_rfl), by kernel_rfl⟩⟩
noncomputable def s104 (Γ : PCallee) (n : Nat) (x0 : PV) (x1 : PV) (x2 : PV) (h : PHeap) : Pt := (binP .geq x0 x1).bind fun v0 => K1 (fun v2 h3 => finP [.keep] h h3 [v2]) fun j1 => scP v0 true ( (binP .leq x0 x2).bind fun v4 => j1 v4 h) (j1 (.bool false) h)
theorem s104_eq (Γ : PCallee) (n : Nat) (x0 : PV) (x1 : PV) (x2 : PV) (h : PHeap) : pfunK Γ n A104 [x0, x1, x2] h = s104 Γ n x0 x1 x2 h := by kernel_rfl
open Go.Vm.G in
def A105 : PFun := ⟨1, 9, (S (R <| o 2 (.move (.const (.slice none 0 0))) <| z) <|
  (S (R <| m 4 0 <| o 5 (.call 143 [(t 4)]) <| m 3 5 <| z) <|
  (S (R <| m 6 3 <| o 7 (.call 144 [(t 6)]) <| z) <|
  (S (R <| m 8 3 <| m 2 8 <| z) <|
  .ret)))), [.tmp 2], [.raw]⟩
theorem ok105 : ∃ fn c, FunOk Tryz.prog 105 fn c A105.erase := ⟨Tryz.f105, _, ⟨Tryz.func105, rfl, by kernel_rfl, by kernel_rfl, by kernel_rfl, of_decide_eq_true (by kernel_rfl), by kernel_rfl⟩⟩
noncomputable def s105 (Γ : PCallee) (n : Nat) (x0 : PV) (h : PHeap) : Pt := (Γ 143 [x0] h).bind fun p0 => (Γ 144 [p0.1] p0.2).bind fun p1 => finP [.raw] h p1.2 [p0.1]
theorem s105_eq (Γ : PCallee) (n : Nat) (x0 : PV) (h : PHeap) : pfunK Γ n A105 [x0] h = s105 Γ n x0 h := by kernel_rfl
open Go.Vm.G in
def A106 : PFun := ⟨1, 61, (S (R <| o 2 (.move (.const (.slice none 0 0))) <| z) <|
  (S (S (R <| m 6 0 <| o 7 (.len false (t 6)) <| b 8 .lss (t 7) (i 2) <| z) <|
  (.cond (t 8) [] [2, 9]
  (S (R <| m 9 0 <| m 2 9 <| z) <|
  .ret)
  .skip)) <|
  (S (S (R <| o 3 (.move (i 1)) <| z) <|
  (.block 0 [] (g 2 4 ++ g 10 50)
  (.loop [3] ([2, 4, 5] ++ g 10 50)
  (S (S (R <| m 10 3 <| m 11 0 <| o 12 (.len false (t 11)) <| b 13 .lss (t 10) (t 12) <| z) <|
  (.cond (t 13) [] []
  .skip
  (.exit 0))) <|
  (S (.block 1 [3] ([2, 4, 5] ++ g 16 44)
  (S (D <| m 16 0 <| m 17 3 <| o 18 (.indexAddr 1 (t 16) (t 17)) <| l 19 18 <| m 20 0 <| m 21 3 <| b 22 .sub (t 21) (i 1) <| o 23 (.indexAddr 1 (t 20) (t 22)) <| l 24 23 <| b 25 .eql (t 19) (t 24) <| z) <|
  (.cond (t 25) [3] ([2, 4, 5] ++ g 26 34)
  (S (R <| m 26 0 <| m 27 3 <| o 28 (.slice 1 (t 26) (some (t 27)) none none) <| m 4 28 <| z) <|
  (S (S (R <| o 5 (.move (i 1)) <| z) <|
  (.block 2 [3] ([5] ++ g 29 25)
  (.loop [3, 5] (g 29 25)
  (S (S (R <| m 29 5 <| m 30 4 <| o 31 (.len false (t 30)) <| b 32 .lss (t 29) (t 31) <| z) <|
  (.cond (t 32) [] []
  .skip
  (.exit 2))) <|
  (S (.block 3 [3] (g 35 19)
  (S (D <| m 35 4 <| m 36 5 <| o 37 (.indexAddr 1 (t 35) (t 36)) <| l 38 37 <| m 39 4 <| m 40 5 <| b 41 .sub (t 40) (i 1) <| o 42 (.indexAddr 1 (t 39) (t 41)) <| l 43 42 <| b 44 .neq (t 38) (t 43) <| z) <|
  (.cond (t 44) [3] (g 45 9)
  (S (R <| m 45 0 <| m 46 3 <| m 47 4 <| m 48 5 <| o 49 (.indexAddr 1 (t 47) (t 48)) <| l 50 49 <| o 51 (.indexAddr 1 (t 45) (t 46)) <| n (.store 1 (t 51) (t 50)) <| z) <|
  (R <| m 52 3 <| b 53 .add (t 52) (i 1) <| m 3 53 <| z))
  .skip))) <|
  (R <| m 33 5 <| b 34 .add (t 33) (i 1) <| m 5 34 <| z)))))) <|
  (S (R <| m 54 0 <| m 55 3 <| o 56 (.slice 1 (t 54) (some (t 55)) none none) <| n (.clear [(.int .i64 0)] (t 56)) <| z) <|
  (S (R <| m 57 0 <| m 58 3 <| o 59 (.slice 1 (t 57) none (some (t 58)) none) <| m 2 59 <| z) <|
  .ret))))
  .skip))) <|
  (R <| m 14 3 <| b 15 .add (t 14) (i 1) <| m 3 15 <| z)))))) <|
  (S (R <| m 60 0 <| m 2 60 <| z) <|
  .ret)))), [.tmp 2], [.raw]⟩
theorem ok106 : ∃ fn c, FunOk Tryz.prog 106 fn c A106.erase := ⟨Tryz.f106, _, ⟨Tryz.func106, rfl, by kernel_rfl, by kernel_rfl, by kernel_rfl, of_decide_eq_true (by kernel_rfl), by kernel_rfl⟩⟩
noncomputable def s106_L0 (Γ : PCallee) (n : Nat) (x0 : PV) (h15 : PHeap) (v29 : PV) (j30 : Kt) : (Kt) → Kt := fun c36 w37 h38 => (lenP false v29).bind fun v39 => (binP .lss (nthP w37 1) v39).bind fun v40 => KL (fun w42 h43 => KL (fun w45 h46 => (binP .add (nthP w37 1) (.int .i64 1 : PV)).bind fun v47 => c36 [(nthP w45 0), v47] (trim h15 [(nthP w45 0), v47] h46)) fun j44 => (indexAddrP 1 v29 (nthP w37 1)).bind fun v48 => (loadP false 1 v48 h43).bind fun v49 => (binP .sub (nthP w37 1) (.int .i64 1 : PV)).bind fun v50 => (indexAddrP 1 v29 v50).bind fun v51 => (loadP false 1 v51 h43).bind fun v52 => (binP .neq v49 v52).bind fun v53 => KL (fun w55 h56 => j44 [(nthP w55 0)] h56) fun j54 => ifP v53 ( (indexAddrP 1 v29 (nthP w37 1)).bind fun v57 => (loadP false 1 v57 h43).bind fun v58 => (indexAddrP 1 x0 (nthP w37 0)).bind fun v59 => (storeP 1 v59 v58 h43).bind fun h60 => (binP .add (nthP w37 0) (.int .i64 1 : PV)).bind fun v61 => j54 [v61] h60) ( j54 [(nthP w37 0)] h43)) fun j41 => ifP v40 ( j41 [] h38) ( j30 [(nthP w37 0)] h38)
noncomputable def s106_L1 (Γ : PCallee) (n : Nat) (x0 : PV) (h : PHeap) (h4 : PHeap) (j5 : Kt) : (Kt) → Kt := fun c8 w9 h10 => (lenP false x0).bind fun v11 => (binP .lss (nthP w9 0) v11).bind fun v12 => KL (fun w14 h15 => KL (fun w17 h18 => (binP .add (nthP w17 0) (.int .i64 1 : PV)).bind fun v19 => c8 [v19] (trim h4 [v19] h18)) fun j16 => (indexAddrP 1 x0 (nthP w9 0)).bind fun v20 => (loadP false 1 v20 h15).bind fun v21 => (binP .sub (nthP w9 0) (.int .i64 1 : PV)).bind fun v22 => (indexAddrP 1 x0 v22).bind fun v23 => (loadP false 1 v23 h15).bind fun v24 => (binP .eql v21 v24).bind fun v25 => KL (fun w27 h28 => j16 [(nthP w27 0)] h28) fun j26 => ifP v25 ( (sliceP 1 x0 (some (nthP w9 0)) none none).bind fun v29 => KL (fun w31 h32 => (sliceP 1 x0 (some (nthP w31 0)) none none).bind fun v33 => (clearP [.int .i64 0] v33 h32).bind fun p34 => (sliceP 1 x0 none (some (nthP w31 0)) none).bind fun v35 => finP [.raw] h p34.2 [v35]) fun j30 => loopP (s106_L0 Γ n x0 h15 v29 j30) n [(nthP w9 0), (.int .i64 1 : PV)] h15) ( j26 [(nthP w9 0)] h15)) fun j13 => ifP v12 ( j13 [] h10) ( j5 [] h10)
noncomputable def s106 (Γ : PCallee) (n : Nat) (x0 : PV) (h : PHeap) : Pt := (lenP false x0).bind fun v0 => (binP .lss v0 (.int .i64 2 : PV)).bind fun v1 => KL (fun w3 h4 => KL (fun w6 h7 => finP [.raw] h h7 [x0]) fun j5 => loopP (s106_L1 Γ n x0 h h4 j5) n [(.int .i64 1 : PV)] h4) fun j2 => ifP v1 ( finP [.raw] h h [x0]) ( j2 [] h)
theorem s106_eq (Γ : PCallee) (n : Nat) (x0 : PV) (h : PHeap) : pfunK Γ n A106 [x0] h = s106 Γ n x0 h := by kernel_rfl
open Go.Vm.G in
def A107 : PFun := ⟨2, 42, (S (R <| o 4 (.move (.const (.slice none 0 0))) <| z) <|
  (S (R <| m 8 0 <| m 9 1 <| (.bor [(8, (.flat 1))] (some 10) (.a (.call 121 [(t 8), (t 9)])) false <| m 5 10 <| z)) <|
  (S (S (R <| m 11 5 <| b 12 .eql (t 11) (i (-1)) <| z) <|
  (.cond (t 12) [] [4, 13]
  (S (R <| m 13 0 <| m 4 13 <| z) <|
  .ret)
  .skip)) <|
  (S (S (R <| m 14 5 <| b 15 .add (t 14) (i 1) <| m 6 15 <| z) <|
  (.block 0 [5] ([6, 7] ++ g 16 20)
  (.loop [5, 6] ([7] ++ g 16 20)
  (S (S (R <| m 16 6 <| m 17 0 <| o 18 (.len false (t 17)) <| b 19 .lss (t 16) (t 18) <| z) <|
  (.cond (t 19) [] []
  .skip
  (.exit 0))) <|
  (S (.block 1 [5] ([7] ++ g 22 14)
  (S (R <| m 22 0 <| m 23 6 <| o 24 (.indexAddr 1 (t 22) (t 23)) <| l 25 24 <| m 7 25 <| z) <|
  (S (R <| m 26 1 <| m 27 7 <| o 28 (.callV (t 26) [(t 27)]) <| o 29 (.un .not (t 28)) <| z) <|
  (.cond (t 29) [5] (g 30 6)
  (S (R <| m 30 0 <| m 31 5 <| m 32 7 <| o 33 (.indexAddr 1 (t 30) (t 31)) <| n (.store 1 (t 33) (t 32)) <| z) <|
  (R <| m 34 5 <| b 35 .add (t 34) (i 1) <| m 5 35 <| z))
  .skip)))) <|
  (R <| m 20 6 <| b 21 .add (t 20) (i 1) <| m 6 21 <| z)))))) <|
  (S (R <| m 36 0 <| m 37 5 <| o 38 (.slice 1 (t 36) (some (t 37)) none none) <| n (.clear [(.int .i64 0)] (t 38)) <| z) <|
  (S (R <| m 39 0 <| m 40 5 <| o 41 (.slice 1 (t 39) none (some (t 40)) none) <| m 4 41 <| z) <|
  .ret)))))), [.tmp 4], [(.flat 1)]⟩
theorem ok107 : ∃ fn c, FunOk Tryz.prog 107 fn c A107.erase := ⟨Tryz.f107, _, ⟨Tryz.func107, rfl, by kernel_rfl, by kernel_rfl, by kernel_rfl, of_decide_eq_true (by kernel_rfl), by kernel_rfl⟩⟩
noncomputable def s107_L0 (Γ : PCallee) (n : Nat) (x0 : PV) (x1 : PV) (h5 : PHeap) (j7 : Kt) : (Kt) → Kt := fun c13 w14 h15 => (lenP false x0).bind fun v16 => (binP .lss (nthP w14 1) v16).bind fun v17 => KL (fun w19 h20 => KL (fun w22 h23 => (binP .add (nthP w14 1) (.int .i64 1 : PV)).bind fun v24 => c13 [(nthP w22 0), v24] (trim h5 [(nthP w22 0), v24] h23)) fun j21 => (indexAddrP 1 x0 (nthP w14 1)).bind fun v25 => (loadP false 1 v25 h20).bind fun v26 => (callVP Γ x1 [v26] h20).bind fun p27 => (unP .not p27.1).bind fun v28 => KL (fun w30 h31 => j21 [(nthP w30 0)] h31) fun j29 => ifP v28 ( (indexAddrP 1 x0 (nthP w14 0)).bind fun v32 => (storeP 1 v32 v26 p27.2).bind fun h33 => (binP .add (nthP w14 0) (.int .i64 1 : PV)).bind fun v34 => j29 [v34] h33) ( j29 [(nthP w14 0)] p27.2)) fun j18 => ifP v17 ( j18 [] h15) ( j7 [(nthP w14 0)] h15)
noncomputable def s107 (Γ : PCallee) (n : Nat) (x0 : PV) (x1 : PV) (h : PHeap) : Pt := (fz (.flat 1) x0 h).bind fun q0 => (Γ 121 [q0.1, x1] (lock q0.2)).bind fun p1 => guardP (scal p1.1) ( (binP .eql p1.1 (.int .i64 (-1) : PV)).bind fun v2 => KL (fun w4 h5 => (binP .add p1.1 (.int .i64 1 : PV)).bind fun v6 => KL (fun w8 h9 => (sliceP 1 x0 (some (nthP w8 0)) none none).bind fun v10 => (clearP [.int .i64 0] v10 h9).bind fun p11 => (sliceP 1 x0 none (some (nthP w8 0)) none).bind fun v12 => finP [(.flat 1)] h p11.2 [v12]) fun j7 => loopP (s107_L0 Γ n x0 x1 h5 j7) n [p1.1, v6] h5) fun j3 => ifP v2 ( finP [(.flat 1)] h h [x0]) ( j3 [] h))
theorem s107_eq (Γ : PCallee) (n : Nat) (x0 : PV) (x1 : PV) (h : PHeap) : pfunK Γ n A107 [x0, x1] h = s107 Γ n x0 x1 h := by kernel_rfl
open Go.Vm.G in
def A108 : PFun := ⟨2, 33, (S (R <| o 2 (.box 57 (t 0)) <| o 4 (.move (.const (.slice none 0 0))) <| z) <|
  (S (S (R <| o 9 (.load true 33 (t 2)) <| o 10 (.call 127 [(t 9)]) <| o 11 (.un .not (t 10)) <| z) <|
  (.cond (t 11) [] [4]
  (S (R <| o 4 (.move (.const (.slice none 0 0))) <| z) <|
  .ret)
  .skip)) <|
  (S (R <| (.op (some 5) (.growNil 3 1) false <| z)) <|
  (S (S (R <| o 12 (.move (i 0)) <| z) <|
  (.block 0 [5] ([6, 7, 8] ++ g 12 17)
  (.loop [5, 12] ([6, 7, 8] ++ g 13 16)
  (S (R <| b 13 .lss (t 12) (i 120) <| z) <|
  (S (.cond (t 13) [] []
  .skip
  (.exit 0)) <|
  (S (.block 1 [5] ([6, 7, 8] ++ g 14 14)
  (S (R <| m 14 12 <| m 6 14 <| z) <|
  (S (R <| o 16 (.load true 33 (t 2)) <| m 17 6 <| m 18 1 <| o 19 (.call 111 [(t 16), (t 17), (t 18)]) <| m 15 19 <| o 20 (.extract (t 15) 0) <| o 21 (.extract (t 15) 1) <| m 7 20 <| m 8 21 <| z) <|
  (S (R <| m 22 8 <| b 23 .gtr (t 22) (i 0) <| z) <|
  (.cond (t 23) [5] (g 24 4)
  (R <| m 24 5 <| m 25 8 <| (.op (some 26) (.buildF 3 [(.int .i64 0)] 1 [(0, 1, (t 25))]) false <| o 27 (.append 3 1 (t 24) (t 26)) <| m 5 27 <| z))
  .skip))))) <|
  (R <| b 28 .add (t 12) (i 1) <| m 12 28 <| z))))))) <|
  (S (R <| m 29 5 <| o 30 (.call 144 [(t 29)]) <| z) <|
  (S (R <| m 31 5 <| o 32 (.call 106 [(t 31)]) <| m 4 32 <| z) <|
  .ret)))))), [.tmp 4], [.raw]⟩
theorem ok108 : ∃ fn c, FunOk Tryz.prog 108 fn c A108.erase := ⟨Tryz.f108, _, ⟨Tryz.func108, rfl, by kernel_rfl, by kernel_rfl, by kernel_rfl, of_decide_eq_true (by kernel_rfl), by kernel_rfl⟩⟩
noncomputable def s108_L0 (Γ : PCallee) (n : Nat) (x1 : PV) (v0 : PV) (h9 : PHeap) (j10 : Kt) : (Kt) → Kt := fun c15 w16 h17 => (binP .lss (nthP w16 1) (.int .i64 120 : PV)).bind fun v18 => KL (fun w20 h21 => KL (fun w23 h24 => (binP .add (nthP w16 1) (.int .i64 1 : PV)).bind fun v25 => c15 [(nthP w23 0), v25] (trim h9 [(nthP w23 0), v25] h24)) fun j22 => (loadP true 33 v0 h21).bind fun v26 => (Γ 111 [v26, (nthP w16 1), x1] h21).bind fun p27 => (extractP p27.1 0).bind fun v28 => (extractP p27.1 1).bind fun v29 => (binP .gtr v29 (.int .i64 0 : PV)).bind fun v30 => KL (fun w32 h33 => j22 [(nthP w32 0)] h33) fun j31 => ifP v30 ( (fillP (repP [.int .i64 0] 1) [(0, 1, v29)]).bind fun l34 => guardP (l34.all pure1) ( forkP (.frz 1 (chunk 1 1 l34)) (p27.2) fun v35 h36 => (appendP 3 1 (nthP w16 0) v35 h36).bind fun p37 => j31 [p37.1] p37.2)) ( j31 [(nthP w16 0)] p27.2)) fun j19 => ifP v18 ( j19 [] h17) ( j10 [(nthP w16 0)] h17)
noncomputable def s108 (Γ : PCallee) (n : Nat) (x0 : PV) (x1 : PV) (h : PHeap) : Pt := forkP (.ptr h.length 0) (h ++ [.box (cellsP x0) 57 .rw]) fun v0 h1 => (loadP true 33 v0 h1).bind fun v2 => (Γ 127 [v2] h1).bind fun p3 => (unP .not p3.1).bind fun v4 => KL (fun w6 h7 => forkP (.ref h7.length 0 0 0 1) (h7 ++ [.log [] 1 3 .rw]) fun v8 h9 => KL (fun w11 h12 => (Γ 144 [(nthP w11 0)] h12).bind fun p13 => (Γ 106 [(nthP w11 0)] p13.2).bind fun p14 => finP [.raw] h p14.2 [p14.1]) fun j10 => loopP (s108_L0 Γ n x1 v0 h9 j10) n [v8, (.int .i64 0 : PV)] h9) fun j5 => ifP v4 ( finP [.raw] h p3.2 [(.nilS : PV)]) ( j5 [] p3.2)
theorem s108_eq (Γ : PCallee) (n : Nat) (x0 : PV) (x1 : PV) (h : PHeap) : pfunK Γ n A108 [x0, x1] h = s108 Γ n x0 x1 h := by kernel_rfl
open Go.Vm.G in
def A109 : PFun := ⟨2, 9, (S (R <| o 3 (.move (.const (.bool false))) <| z) <|
  (S (R <| m 4 0 <| f 5 11 1 <| l 6 5 <| o 7 (.len false (t 6)) <| b 8 .gtr (t 4) (t 7) <| m 3 8 <| z) <|
  .ret)), [.tmp 3], [.keep]⟩
theorem ok109 : ∃ fn c, FunOk Tryz.prog 109 fn c A109.erase := ⟨Tryz.f109, _, ⟨Tryz.func109, rfl, by kernel_rfl, by kernel_rfl, by kernel_rfl, of_decide_eq_true (by kernel_rfl), by kernel_rfl⟩⟩
noncomputable def s109 (Γ : PCallee) (n : Nat) (x0 : PV) (x1 : PV) (h : PHeap) : Pt := (fieldAddrP 11 x1).bind fun v0 => (loadP false 1 v0 h).bind fun v1 => (lenP false v1).bind fun v2 => (binP .gtr x0 v2).bind fun v3 => finP [.keep] h h [v3]
theorem s109_eq (Γ : PCallee) (n : Nat) (x0 : PV) (x1 : PV) (h : PHeap) : pfunK Γ n A109 [x0, x1] h = s109 Γ n x0 x1 h := by kernel_rfl
open Go.Vm.G in
def A110 : PFun := ⟨1, 135, (S (R <| o 1 (.box 57 (t 0)) <| o 2 (.move (.const (.bool false))) <| z) <|
  (S (S (R <| o 3 (.move (i 0)) <| z) <|
  (.block 0 [] (g 2 33)
  (.loop [3] ([2] ++ g 4 31)
  (S (S (R <| m 5 3 <| f 6 1 1 <| l 7 6 <| o 8 (.len false (t 7)) <| b 9 .lss (t 5) (t 8) <| z) <|
  (.cond (t 9) [] []
  .skip
  (.exit 0))) <|
  (S (.block 1 [] ([2, 4] ++ g 12 23)
  (S (R <| f 12 1 1 <| l 13 12 <| m 14 3 <| o 15 (.indexAddr 2 (t 13) (t 14)) <| o 16 (.load true 2 (t 15)) <| o 4 (.new 89 [(.int .i64 0), (.int .i64 0)]) <| n (.store 2 (t 4) (t 16)) <| z) <|
  (S (R <| f 17 0 4 <| l 18 17 <| b 19 .lss (t 18) (i 0) <| m 20 19 <| q 24 20 false [21, 22, 23] (f 21 0 4 <| l 22 21 <| b 23 .gtr (t 22) (i 119) <| z) (t 23) <|
  m 25 24 <| q 29 25 false [26, 27, 28] (f 26 1 4 <| l 27 26 <| b 28 .lss (t 27) (i 0) <| z) (t 28) <|
  m 30 29 <| q 34 30 false [31, 32, 33] (f 31 1 4 <| l 32 31 <| b 33 .gtr (t 32) (i 31) <| z) (t 33) <|
  z) <|
  (.cond (t 34) [] [2]
  (S (R <| o 2 (.move (.const (.bool false))) <| z) <|
  .ret)
  .skip)))) <|
  (R <| m 10 3 <| b 11 .add (t 10) (i 1) <| m 3 11 <| z)))))) <|
  (S (R <| f 35 0 1 <| l 36 35 <| o 37 (.call 137 [(t 36)]) <| m 38 37 <| q 49 38 true (g 39 5 ++ [48] ++ g 44 4) (f 39 1 1 <| l 40 39 <| o 41 (.len false (t 40)) <| b 42 .eql (t 41) (i 0) <| m 43 42 <| q 48 43 false (g 44 4) (f 44 1 1 <| l 45 44 <| o 46 (.len false (t 45)) <| b 47 .eql (t 46) (i 120) <| z) (t 47) <|
  z) (t 48) <|
  m 50 49 <| q 54 50 true [51, 52, 53] (f 51 2 1 <| o 52 (.load true 8 (t 51)) <| o 53 (.call 145 [(t 52), (i 0), (i 64)]) <| z) (t 53) <|
  m 55 54 <| q 59 55 true [56, 57, 58] (f 56 10 1 <| o 57 (.load true 8 (t 56)) <| o 58 (.call 145 [(t 57), (i (-32)), (i 32)]) <| z) (t 58) <|
  m 60 59 <| q 64 60 true [61, 62, 63] (f 61 18 1 <| o 62 (.load true 8 (t 61)) <| o 63 (.call 145 [(t 62), (i (-32)), (i 32)]) <| z) (t 63) <|
  m 65 64 <| q 69 65 true [66, 67, 68] (f 66 26 1 <| l 67 66 <| b 68 .leq (i 0) (t 67) <| z) (t 68) <|
  m 70 69 <| q 74 70 true [71, 72, 73] (f 71 26 1 <| l 72 71 <| b 73 .leq (t 72) (i 1024) <| z) (t 73) <|
  m 75 74 <| q 79 75 true [76, 77, 78] (f 76 27 1 <| l 77 76 <| b 78 .leq (i 0) (t 77) <| z) (t 78) <|
  m 80 79 <| q 84 80 true [81, 82, 83] (f 81 27 1 <| l 82 81 <| b 83 .leq (t 82) (i 3) <| z) (t 83) <|
  m 85 84 <| q 89 85 true [86, 87, 88] (f 86 28 1 <| l 87 86 <| b 88 .leq (i 0) (t 87) <| z) (t 88) <|
  m 90 89 <| q 94 90 true [91, 92, 93] (f 91 28 1 <| l 92 91 <| b 93 .leq (t 92) (i 3) <| z) (t 93) <|
  m 95 94 <| q 99 95 true [96, 97, 98] (f 96 29 1 <| l 97 96 <| b 98 .leq (i 0) (t 97) <| z) (t 98) <|
  m 100 99 <| q 104 100 true [101, 102, 103] (f 101 29 1 <| l 102 101 <| b 103 .leq (t 102) (i 2) <| z) (t 103) <|
  m 105 104 <| q 109 105 true [106, 107, 108] (f 106 30 1 <| l 107 106 <| b 108 .leq (i 0) (t 107) <| z) (t 108) <|
  m 110 109 <| q 114 110 true [111, 112, 113] (f 111 30 1 <| l 112 111 <| b 113 .leq (t 112) (i 64) <| z) (t 113) <|
  m 115 114 <| q 119 115 true [116, 117, 118] (f 116 31 1 <| l 117 116 <| b 118 .leq (i (-1)) (t 117) <| z) (t 118) <|
  m 120 119 <| q 124 120 true [121, 122, 123] (f 121 31 1 <| l 122 121 <| b 123 .leq (t 122) (i 127) <| z) (t 123) <|
  m 125 124 <| q 129 125 true [126, 127, 128] (f 126 32 1 <| l 127 126 <| b 128 .leq (i (-1)) (t 127) <| z) (t 128) <|
  m 130 129 <| q 134 130 true [131, 132, 133] (f 131 32 1 <| l 132 131 <| b 133 .leq (t 132) (i 127) <| z) (t 133) <|
  m 2 134 <| z) <|
  .ret))), [.tmp 2], [.keep]⟩
theorem ok110 : ∃ fn c, FunOk Tryz.prog 110 fn c A110.erase := ⟨Tryz.f110, _, ⟨Tryz.func110, rfl, by kernel_rfl, by kernel_rfl, by kernel_rfl, of_decide_eq_true (by kernel_rfl), by kernel_rfl⟩⟩
noncomputable def s110_L0 (Γ : PCallee) (n : Nat) (h : PHeap) (v0 : PV) (h1 : PHeap) (j2 : Kt) : (Kt) → Kt := fun c124 w125 h126 => (fieldAddrP 1 v0).bind fun v127 => (loadP false 1 v127 h126).bind fun v128 => (lenP false v128).bind fun v129 => (binP .lss (nthP w125 0) v129).bind fun v130 => KL (fun w132 h133 => KL (fun w135 h136 => (binP .add (nthP w125 0) (.int .i64 1 : PV)).bind fun v137 => c124 [v137] (trim h1 [v137] h136)) fun j134 => (fieldAddrP 1 v0).bind fun v138 => (loadP false 1 v138 h133).bind fun v139 => (indexAddrP 2 v139 (nthP w125 0)).bind fun v140 => (loadP true 2 v140 h133).bind fun v141 => forkP (.ptr h133.length 0) (h133 ++ [.box [.int .i64 0, .int .i64 0] 89 .rw]) fun v142 h143 => (storeP 2 v142 v141 h143).bind fun h144 => (fieldAddrP 0 v142).bind fun v145 => (loadP false 1 v145 h144).bind fun v146 => (binP .lss v146 (.int .i64 0 : PV)).bind fun v147 => K1 (fun v149 h150 => K1 (fun v152 h153 => K1 (fun v155 h156 => KL (fun w158 h159 => j134 [] h159) fun j157 => ifP v155 ( finP [.keep] h h156 [(.bool false : PV)]) ( j157 [] h156)) fun j154 => scP v152 false ( (fieldAddrP 1 v142).bind fun v160 => (loadP false 1 v160 h153).bind fun v161 => (binP .gtr v161 (.int .i64 31 : PV)).bind fun v162 => j154 v162 h153) (j154 (.bool true) h153)) fun j151 => scP v149 false ( (fieldAddrP 1 v142).bind fun v163 => (loadP false 1 v163 h150).bind fun v164 => (binP .lss v164 (.int .i64 0 : PV)).bind fun v165 => j151 v165 h150) (j151 (.bool true) h150)) fun j148 => scP v147 false ( (fieldAddrP 0 v142).bind fun v166 => (loadP false 1 v166 h144).bind fun v167 => (binP .gtr v167 (.int .i64 119 : PV)).bind fun v168 => j148 v168 h144) (j148 (.bool true) h144)) fun j131 => ifP v130 ( j131 [] h126) ( j2 [] h126)
noncomputable def s110 (Γ : PCallee) (n : Nat) (x0 : PV) (h : PHeap) : Pt := forkP (.ptr h.length 0) (h ++ [.box (cellsP x0) 57 .rw]) fun v0 h1 => KL (fun w3 h4 => (fieldAddrP 0 v0).bind fun v5 => (loadP false 1 v5 h4).bind fun v6 => (Γ 137 [v6] h4).bind fun p7 => K1 (fun v9 h10 => K1 (fun v12 h13 => K1 (fun v15 h16 => K1 (fun v18 h19 => K1 (fun v21 h22 => K1 (fun v24 h25 => K1 (fun v27 h28 => K1 (fun v30 h31 => K1 (fun v33 h34 => K1 (fun v36 h37 => K1 (fun v39 h40 => K1 (fun v42 h43 => K1 (fun v45 h46 => K1 (fun v48 h49 => K1 (fun v51 h52 => K1 (fun v54 h55 => K1 (fun v57 h58 => K1 (fun v60 h61 => finP [.keep] h h61 [v60]) fun j59 => scP v57 true ( (fieldAddrP 32 v0).bind fun v62 => (loadP false 1 v62 h58).bind fun v63 => (binP .leq v63 (.int .i64 127 : PV)).bind fun v64 => j59 v64 h58) (j59 (.bool false) h58)) fun j56 => scP v54 true ( (fieldAddrP 32 v0).bind fun v65 => (loadP false 1 v65 h55).bind fun v66 => (binP .leq (.int .i64 (-1) : PV) v66).bind fun v67 => j56 v67 h55) (j56 (.bool false) h55)) fun j53 => scP v51 true ( (fieldAddrP 31 v0).bind fun v68 => (loadP false 1 v68 h52).bind fun v69 => (binP .leq v69 (.int .i64 127 : PV)).bind fun v70 => j53 v70 h52) (j53 (.bool false) h52)) fun j50 => scP v48 true ( (fieldAddrP 31 v0).bind fun v71 => (loadP false 1 v71 h49).bind fun v72 => (binP .leq (.int .i64 (-1) : PV) v72).bind fun v73 => j50 v73 h49) (j50 (.bool false) h49)) fun j47 => scP v45 true ( (fieldAddrP 30 v0).bind fun v74 => (loadP false 1 v74 h46).bind fun v75 => (binP .leq v75 (.int .i64 64 : PV)).bind fun v76 => j47 v76 h46) (j47 (.bool false) h46)) fun j44 => scP v42 true ( (fieldAddrP 30 v0).bind fun v77 => (loadP false 1 v77 h43).bind fun v78 => (binP .leq (.int .i64 0 : PV) v78).bind fun v79 => j44 v79 h43) (j44 (.bool false) h43)) fun j41 => scP v39 true ( (fieldAddrP 29 v0).bind fun v80 => (loadP false 1 v80 h40).bind fun v81 => (binP .leq v81 (.int .i64 2 : PV)).bind fun v82 => j41 v82 h40) (j41 (.bool false) h40)) fun j38 => scP v36 true ( (fieldAddrP 29 v0).bind fun v83 => (loadP false 1 v83 h37).bind fun v84 => (binP .leq (.int .i64 0 : PV) v84).bind fun v85 => j38 v85 h37) (j38 (.bool false) h37)) fun j35 => scP v33 true ( (fieldAddrP 28 v0).bind fun v86 => (loadP false 1 v86 h34).bind fun v87 => (binP .leq v87 (.int .i64 3 : PV)).bind fun v88 => j35 v88 h34) (j35 (.bool false) h34)) fun j32 => scP v30 true ( (fieldAddrP 28 v0).bind fun v89 => (loadP false 1 v89 h31).bind fun v90 => (binP .leq (.int .i64 0 : PV) v90).bind fun v91 => j32 v91 h31) (j32 (.bool false) h31)) fun j29 => scP v27 true ( (fieldAddrP 27 v0).bind fun v92 => (loadP false 1 v92 h28).bind fun v93 => (binP .leq v93 (.int .i64 3 : PV)).bind fun v94 => j29 v94 h28) (j29 (.bool false) h28)) fun j26 => scP v24 true ( (fieldAddrP 27 v0).bind fun v95 => (loadP false 1 v95 h25).bind fun v96 => (binP .leq (.int .i64 0 : PV) v96).bind fun v97 => j26 v97 h25) (j26 (.bool false) h25)) fun j23 => scP v21 true ( (fieldAddrP 26 v0).bind fun v98 => (loadP false 1 v98 h22).bind fun v99 => (binP .leq v99 (.int .i64 1024 : PV)).bind fun v100 => j23 v100 h22) (j23 (.bool false) h22)) fun j20 => scP v18 true ( (fieldAddrP 26 v0).bind fun v101 => (loadP false 1 v101 h19).bind fun v102 => (binP .leq (.int .i64 0 : PV) v102).bind fun v103 => j20 v103 h19) (j20 (.bool false) h19)) fun j17 => scP v15 true ( (fieldAddrP 18 v0).bind fun v104 => (loadP true 8 v104 h16).bind fun v105 => (Γ 145 [v105, (.int .i64 (-32) : PV), (.int .i64 32 : PV)] h16).bind fun p106 => j17 p106.1 p106.2) (j17 (.bool false) h16)) fun j14 => scP v12 true ( (fieldAddrP 10 v0).bind fun v107 => (loadP true 8 v107 h13).bind fun v108 => (Γ 145 [v108, (.int .i64 (-32) : PV), (.int .i64 32 : PV)] h13).bind fun p109 => j14 p109.1 p109.2) (j14 (.bool false) h13)) fun j11 => scP v9 true ( (fieldAddrP 2 v0).bind fun v110 => (loadP true 8 v110 h10).bind fun v111 => (Γ 145 [v111, (.int .i64 0 : PV), (.int .i64 64 : PV)] h10).bind fun p112 => j11 p112.1 p112.2) (j11 (.bool false) h10)) fun j8 => scP p7.1 true ( (fieldAddrP 1 v0).bind fun v113 => (loadP false 1 v113 p7.2).bind fun v114 => (lenP false v114).bind fun v115 => (binP .eql v115 (.int .i64 0 : PV)).bind fun v116 => K1 (fun v118 h119 => j8 v118 h119) fun j117 => scP v116 false ( (fieldAddrP 1 v0).bind fun v120 => (loadP false 1 v120 p7.2).bind fun v121 => (lenP false v121).bind fun v122 => (binP .eql v122 (.int .i64 120 : PV)).bind fun v123 => j117 v123 p7.2) (j117 (.bool true) p7.2)) (j8 (.bool false) p7.2)) fun j2 => loopP (s110_L0 Γ n h v0 h1 j2) n [(.int .i64 0 : PV)] h1
theorem s110_eq (Γ : PCallee) (n : Nat) (x0 : PV) (h : PHeap) : pfunK Γ n A110 [x0] h = s110 Γ n x0 h := by kernel_rfl
open Go.Vm.G in
def A111 : PFun := ⟨3, 36, (S (R <| o 3 (.box 57 (t 0)) <| o 6 (.move (i 0)) <| o 7 (.move (i 0)) <| z) <|
  (S (.block 0 [] (g 6 18)
  (S (R <| o 9 (.load true 33 (t 3)) <| o 10 (.call 127 [(t 9)]) <| o 11 (.un .not (t 10)) <| m 12 11 <| q 16 12 false [13, 14, 15] (m 13 1 <| o 14 (.call 146 [(t 13), (i 0), (i 119)]) <| o 15 (.un .not (t 14)) <| z) (t 15) <|
  m 8 16 <| z) <|
  (.cond (t 8) [] ([6, 7] ++ g 17 7)
  (S (R <| o 6 (.move (i 0)) <| o 7 (.move (i 0)) <| z) <|
  .ret)
  (S (R <| f 18 1 3 <| l 19 18 <| o 20 (.len false (t 19)) <| b 21 .eql (t 20) (i 0) <| m 17 21 <| z) <|
  (.cond (t 17) [] [6, 7, 22, 23]
  (S (R <| m 22 1 <| m 23 2 <| m 6 22 <| m 7 23 <| z) <|
  .ret)
  .skip))))) <|
  (S (D <| f 24 1 3 <| l 25 24 <| m 26 1 <| o 27 (.indexAddr 2 (t 25) (t 26)) <| f 28 0 27 <| l 29 28 <| f 30 1 3 <| l 31 30 <| m 32 1 <| o 33 (.indexAddr 2 (t 31) (t 32)) <| f 34 1 33 <| l 35 34 <| m 6 29 <| m 7 35 <| z) <|
  .ret))), [.tmp 6, .tmp 7], [.keep, .keep]⟩
theorem ok111 : ∃ fn c, FunOk Tryz.prog 111 fn c A111.erase := ⟨Tryz.f111, _, ⟨Tryz.func111, rfl, by kernel_rfl, by kernel_rfl, by kernel_rfl, of_decide_eq_true (by kernel_rfl), by kernel_rfl⟩⟩
noncomputable def s111 (Γ : PCallee) (n : Nat) (x0 : PV) (x1 : PV) (x2 : PV) (h : PHeap) : Pt := forkP (.ptr h.length 0) (h ++ [.box (cellsP x0) 57 .rw]) fun v0 h1 => KL (fun w3 h4 => (fieldAddrP 1 v0).bind fun v5 => (loadP false 1 v5 h4).bind fun v6 => (indexAddrP 2 v6 x1).bind fun v7 => (fieldAddrP 0 v7).bind fun v8 => (loadP false 1 v8 h4).bind fun v9 => (fieldAddrP 1 v0).bind fun v10 => (loadP false 1 v10 h4).bind fun v11 => (indexAddrP 2 v11 x1).bind fun v12 => (fieldAddrP 1 v12).bind fun v13 => (loadP false 1 v13 h4).bind fun v14 => finP [.keep, .keep] h h4 [v9, v14]) fun j2 => (loadP true 33 v0 h1).bind fun v15 => (Γ 127 [v15] h1).bind fun p16 => (unP .not p16.1).bind fun v17 => K1 (fun v19 h20 => KL (fun w22 h23 => j2 [] h23) fun j21 => ifP v19 ( finP [.keep, .keep] h h20 [(.int .i64 0 : PV), (.int .i64 0 : PV)]) ( (fieldAddrP 1 v0).bind fun v24 => (loadP false 1 v24 h20).bind fun v25 => (lenP false v25).bind fun v26 => (binP .eql v26 (.int .i64 0 : PV)).bind fun v27 => KL (fun w29 h30 => j21 [] h30) fun j28 => ifP v27 ( finP [.keep, .keep] h h20 [x1, x2]) ( j28 [] h20))) fun j18 => scP v17 false ( (Γ 146 [x1, (.int .i64 0 : PV), (.int .i64 119 : PV)] p16.2).bind fun p31 => (unP .not p31.1).bind fun v32 => j18 v32 p31.2) (j18 (.bool true) p16.2)
theorem s111_eq (Γ : PCallee) (n : Nat) (x0 : PV) (x1 : PV) (x2 : PV) (h : PHeap) : pfunK Γ n A111 [x0, x1, x2] h = s111 Γ n x0 x1 x2 h := by kernel_rfl
open Go.Vm.G in
def A112 : PFun := ⟨1, 11, (S (R <| o 1 (.box 27 (t 0)) <| o 2 (.move (i 0)) <| z) <|
  (S (S (R <| o 3 (.load true 13 (t 1)) <| o 4 (.call 52 [(t 3)]) <| z) <|
  (.cond (t 4) [] [2, 5, 6, 7]
  (S (R <| f 5 12 1 <| l 6 5 <| o 7 (.len false (t 6)) <| m 2 7 <| z) <|
  .ret)
  .skip)) <|
  (S (R <| f 8 11 1 <| l 9 8 <| o 10 (.len false (t 9)) <| m 2 10 <| z) <|
  .ret))), [.tmp 2], [.keep]⟩
theorem ok112 : ∃ fn c, FunOk Tryz.prog 112 fn c A112.erase := ⟨Tryz.f112, _, ⟨Tryz.func112, rfl, by kernel_rfl, by kernel_rfl, by kernel_rfl, of_decide_eq_true (by kernel_rfl), by kernel_rfl⟩⟩
noncomputable def s112 (Γ : PCallee) (n : Nat) (x0 : PV) (h : PHeap) : Pt := forkP (.ptr h.length 0) (h ++ [.box (cellsP x0) 27 .rw]) fun v0 h1 => (loadP true 13 v0 h1).bind fun v2 => (Γ 52 [v2] h1).bind fun p3 => KL (fun w5 h6 => (fieldAddrP 11 v0).bind fun v7 => (loadP false 1 v7 h6).bind fun v8 => (lenP false v8).bind fun v9 => finP [.keep] h h6 [v9]) fun j4 => ifP p3.1 ( (fieldAddrP 12 v0).bind fun v10 => (loadP false 1 v10 p3.2).bind fun v11 => (lenP false v11).bind fun v12 => finP [.keep] h p3.2 [v12]) ( j4 [] p3.2)
theorem s112_eq (Γ : PCallee) (n : Nat) (x0 : PV) (h : PHeap) : pfunK Γ n A112 [x0] h = s112 Γ n x0 h := by kernel_rfl
open Go.Vm.G in
def A113 : PFun := ⟨3, 26, (S (R <| o 3 (.box 57 (t 0)) <| o 6 (.move (i 0)) <| o 7 (.move (i 0)) <| z) <|
  (S (S (R <| f 8 1 3 <| l 9 8 <| o 10 (.len false (t 9)) <| b 11 .eql (t 10) (i 0) <| z) <|
  (.cond (t 11) [] [6, 7, 12, 13]
  (S (R <| m 12 1 <| m 13 2 <| m 6 12 <| m 7 13 <| z) <|
  .ret)
  .skip)) <|
  (S (D <| f 14 1 3 <| l 15 14 <| m 16 1 <| o 17 (.indexAddr 2 (t 15) (t 16)) <| f 18 0 17 <| l 19 18 <| f 20 1 3 <| l 21 20 <| m 22 1 <| o 23 (.indexAddr 2 (t 21) (t 22)) <| f 24 1 23 <| l 25 24 <| m 6 19 <| m 7 25 <| z) <|
  .ret))), [.tmp 6, .tmp 7], [.keep, .keep]⟩
theorem ok113 : ∃ fn c, FunOk Tryz.prog 113 fn c A113.erase := ⟨Tryz.f113, _, ⟨Tryz.func113, rfl, by kernel_rfl, by kernel_rfl, by kernel_rfl, of_decide_eq_true (by kernel_rfl), by kernel_rfl⟩⟩
noncomputable def s113 (Γ : PCallee) (n : Nat) (x0 : PV) (x1 : PV) (x2 : PV) (h : PHeap) : Pt := forkP (.ptr h.length 0) (h ++ [.box (cellsP x0) 57 .rw]) fun v0 h1 => (fieldAddrP 1 v0).bind fun v2 => (loadP false 1 v2 h1).bind fun v3 => (lenP false v3).bind fun v4 => (binP .eql v4 (.int .i64 0 : PV)).bind fun v5 => KL (fun w7 h8 => (fieldAddrP 1 v0).bind fun v9 => (loadP false 1 v9 h8).bind fun v10 => (indexAddrP 2 v10 x1).bind fun v11 => (fieldAddrP 0 v11).bind fun v12 => (loadP false 1 v12 h8).bind fun v13 => (fieldAddrP 1 v0).bind fun v14 => (loadP false 1 v14 h8).bind fun v15 => (indexAddrP 2 v15 x1).bind fun v16 => (fieldAddrP 1 v16).bind fun v17 => (loadP false 1 v17 h8).bind fun v18 => finP [.keep, .keep] h h8 [v13, v18]) fun j6 => ifP v5 ( finP [.keep, .keep] h h1 [x1, x2]) ( j6 [] h1)
theorem s113_eq (Γ : PCallee) (n : Nat) (x0 : PV) (x1 : PV) (x2 : PV) (h : PHeap) : pfunK Γ n A113 [x0, x1, x2] h = s113 Γ n x0 x1 x2 h := by kernel_rfl
open Go.Vm.G in
def A114 : PFun := ⟨1, 19, (S (R <| o 2 (.move (.const (.bool false))) <| z) <|
  (S (S (R <| m 4 0 <| o 5 (.len true (t 4)) <| o 6 (.move (i 0)) <| z) <|
  (.block 0 [] ([2, 3] ++ g 6 10)
  (.loop [6] ([2, 3] ++ g 7 9)
  (S (R <| b 7 .lss (t 6) (t 5) <| z) <|
  (S (.cond (t 7) [] []
  .skip
  (.exit 0)) <|
  (S (.block 1 [] ([2, 3] ++ g 8 7)
  (S (R <| m 8 6 <| m 3 8 <| z) <|
  (S (R <| m 9 0 <| m 10 3 <| o 11 (.indexStr (t 9) (t 10)) <| o 12 (.conv .i64 (t 11)) <| o 13 (.call 54 [(t 12), (i 32), (i 126)]) <| o 14 (.un .not (t 13)) <| z) <|
  (.cond (t 14) [] [2]
  (S (R <| o 2 (.move (.const (.bool false))) <| z) <|
  .ret)
  .skip)))) <|
  (R <| b 15 .add (t 6) (i 1) <| m 6 15 <| z))))))) <|
  (S (R <| m 16 0 <| o 17 (.len true (t 16)) <| b 18 .leq (t 17) (i 22) <| m 2 18 <| z) <|
  .ret))), [.tmp 2], [.keep]⟩
theorem ok114 : ∃ fn c, FunOk Tryz.prog 114 fn c A114.erase := ⟨Tryz.f114, _, ⟨Tryz.func114, rfl, by kernel_rfl, by kernel_rfl, by kernel_rfl, of_decide_eq_true (by kernel_rfl), by kernel_rfl⟩⟩
noncomputable def s114_L0 (Γ : PCallee) (n : Nat) (x0 : PV) (h : PHeap) (v0 : PV) (j1 : Kt) : (Kt) → Kt := fun c6 w7 h8 => (binP .lss (nthP w7 0) v0).bind fun v9 => KL (fun w11 h12 => KL (fun w14 h15 => (binP .add (nthP w7 0) (.int .i64 1 : PV)).bind fun v16 => c6 [v16] (trim h [v16] h15)) fun j13 => (indexStrP x0 (nthP w7 0)).bind fun v17 => (convP .i64 v17).bind fun v18 => (Γ 54 [v18, (.int .i64 32 : PV), (.int .i64 126 : PV)] h12).bind fun p19 => (unP .not p19.1).bind fun v20 => KL (fun w22 h23 => j13 [] h23) fun j21 => ifP v20 ( finP [.keep] h p19.2 [(.bool false : PV)]) ( j21 [] p19.2)) fun j10 => ifP v9 ( j10 [] h8) ( j1 [] h8)
noncomputable def s114 (Γ : PCallee) (n : Nat) (x0 : PV) (h : PHeap) : Pt := (lenP true x0).bind fun v0 => KL (fun w2 h3 => (lenP true x0).bind fun v4 => (binP .leq v4 (.int .i64 22 : PV)).bind fun v5 => finP [.keep] h h3 [v5]) fun j1 => loopP (s114_L0 Γ n x0 h v0 j1) n [(.int .i64 0 : PV)] h
theorem s114_eq (Γ : PCallee) (n : Nat) (x0 : PV) (h : PHeap) : pfunK Γ n A114 [x0] h = s114 Γ n x0 h := by kernel_rfl
open Go.Vm.G in
def A115 : PFun := ⟨2, 28, (S (R <| o 2 (.box 39 (t 0)) <| o 4 (.move (.const (.bool false))) <| z) <|
  (S (R <| m 5 1 <| o 6 (.call 103 [(t 5)]) <| m 7 6 <| q 11 7 true [8, 9, 10] (f 8 0 2 <| l 9 8 <| o 10 (.call 104 [(t 9), (i 1), (i 64)]) <| z) (t 10) <|
  m 12 11 <| q 21 12 true (g 13 8) (f 13 1 2 <| l 14 13 <| o 15 (.len false (t 14)) <| f 16 0 2 <| l 17 16 <| m 18 1 <| b 19 .mul (t 17) (t 18) <| b 20 .eql (t 15) (t 19) <| z) (t 20) <|
  m 22 21 <| q 27 22 true (g 23 4) (f 23 1 2 <| l 24 23 <| o 25 (.call 116 [(t 24), (.func 147)]) <| o 26 (.un .not (t 25)) <| z) (t 26) <|
  m 4 27 <| z) <|
  .ret)), [.tmp 4], [.keep]⟩
theorem ok115 : ∃ fn c, FunOk Tryz.prog 115 fn c A115.erase := ⟨Tryz.f115, _, ⟨Tryz.func115, rfl, by kernel_rfl, by kernel_rfl, by kernel_rfl, of_decide_eq_true (by kernel_rfl), by kernel_rfl⟩⟩
noncomputable def s115 (Γ : PCallee) (n : Nat) (x0 : PV) (x1 : PV) (h : PHeap) : Pt := forkP (.ptr h.length 0) (h ++ [.box (cellsP x0) 39 .rw]) fun v0 h1 => (Γ 103 [x1] h1).bind fun p2 => K1 (fun v4 h5 => K1 (fun v7 h8 => K1 (fun v10 h11 => finP [.keep] h h11 [v10]) fun j9 => scP v7 true ( (fieldAddrP 1 v0).bind fun v12 => (loadP false 1 v12 h8).bind fun v13 => (Γ 116 [v13, (PV.func 147 [] [])] h8).bind fun p14 => (unP .not p14.1).bind fun v15 => j9 v15 p14.2) (j9 (.bool false) h8)) fun j6 => scP v4 true ( (fieldAddrP 1 v0).bind fun v16 => (loadP false 1 v16 h5).bind fun v17 => (lenP false v17).bind fun v18 => (fieldAddrP 0 v0).bind fun v19 => (loadP false 1 v19 h5).bind fun v20 => (binP .mul v20 x1).bind fun v21 => (binP .eql v18 v21).bind fun v22 => j6 v22 h5) (j6 (.bool false) h5)) fun j3 => scP p2.1 true ( (fieldAddrP 0 v0).bind fun v23 => (loadP false 1 v23 p2.2).bind fun v24 => (Γ 104 [v24, (.int .i64 1 : PV), (.int .i64 64 : PV)] p2.2).bind fun p25 => j3 p25.1 p25.2) (j3 (.bool false) p2.2)
theorem s115_eq (Γ : PCallee) (n : Nat) (x0 : PV) (x1 : PV) (h : PHeap) : pfunK Γ n A115 [x0, x1] h = s115 Γ n x0 x1 h := by kernel_rfl
open Go.Vm.G in
def A116 : PFun := ⟨2, 9, (S (R <| o 4 (.move (.const (.bool false))) <| z) <|
  (S (R <| m 5 0 <| m 6 1 <| o 7 (.call 149 [(t 5), (t 6)]) <| b 8 .geq (t 7) (i 0) <| m 4 8 <| z) <|
  .ret)), [.tmp 4], [.keep]⟩
theorem ok116 : ∃ fn c, FunOk Tryz.prog 116 fn c A116.erase := ⟨Tryz.f116, _, ⟨Tryz.func116, rfl, by kernel_rfl, by kernel_rfl, by kernel_rfl, of_decide_eq_true (by kernel_rfl), by kernel_rfl⟩⟩
noncomputable def s116 (Γ : PCallee) (n : Nat) (x0 : PV) (x1 : PV) (h : PHeap) : Pt := (Γ 149 [x0, x1] h).bind fun p0 => (binP .geq p0.1 (.int .i64 0 : PV)).bind fun v1 => finP [.keep] h p0.2 [v1]
theorem s116_eq (Γ : PCallee) (n : Nat) (x0 : PV) (x1 : PV) (h : PHeap) : pfunK Γ n A116 [x0, x1] h = s116 Γ n x0 x1 h := by kernel_rfl
open Go.Vm.G in
def A117 : PFun := ⟨2, 10, (S (R <| o 2 (.box 41 (t 0)) <| o 3 (.move (.const (.bool false))) <| z) <|
  (S (R <| f 4 0 1 <| f 5 1 4 <| l 6 5 <| o 7 (.load true 6 (t 2)) <| o 8 (.call 118 [(t 6), (t 7)]) <| o 9 (.un .not (t 8)) <| m 3 9 <| z) <|
  .ret)), [.tmp 3], [.keep]⟩
theorem ok117 : ∃ fn c, FunOk Tryz.prog 117 fn c A117.erase := ⟨Tryz.f117, _, ⟨Tryz.func117, rfl, by kernel_rfl, by kernel_rfl, by kernel_rfl, of_decide_eq_true (by kernel_rfl), by kernel_rfl⟩⟩
noncomputable def s117 (Γ : PCallee) (n : Nat) (x0 : PV) (x1 : PV) (h : PHeap) : Pt := forkP (.ptr h.length 0) (h ++ [.box (cellsP x0) 41 .rw]) fun v0 h1 => (fieldAddrP 0 x1).bind fun v2 => (fieldAddrP 1 v2).bind fun v3 => (loadP false 1 v3 h1).bind fun v4 => (loadP true 6 v0 h1).bind fun v5 => (Γ 118 [v4, v5] h1).bind fun p6 => (unP .not p6.1).bind fun v7 => finP [.keep] h p6.2 [v7]
theorem s117_eq (Γ : PCallee) (n : Nat) (x0 : PV) (x1 : PV) (h : PHeap) : pfunK Γ n A117 [x0, x1] h = s117 Γ n x0 x1 h := by kernel_rfl
open Go.Vm.G in
def A118 : PFun := ⟨2, 37, (S (R <| o 3 (.box 41 (t 1)) <| o 4 (.move (.const (.bool false))) <| z) <|
  (S (S (D <| m 5 0 <| o 6 (.call 101 [(t 5)]) <| o 7 (.un .not (t 6)) <| m 8 7 <| q 12 8 false [9, 10, 11] (o 9 (.load true 6 (t 3)) <| o 10 (.call 148 [(t 9)]) <| o 11 (.un .not (t 10)) <| z) (t 11) <|
  m 13 12 <| q 19 13 false (g 14 5) (m 14 0 <| f 15 0 3 <| l 16 15 <| o 17 (.call 150 [(t 14), (t 16)]) <| o 18 (.un .not (t 17)) <| z) (t 18) <|
  m 20 19 <| q 26 20 false (g 21 5) (f 21 2 3 <| l 22 21 <| m 23 0 <| O 24 (.call 151 [(t 23)]) <| b 25 .gtr (t 22) (t 24) <| z) (t 25) <|
  z) <|
  (.cond (t 26) [] [4]
  (S (R <| o 4 (.move (.const (.bool false))) <| z) <|
  .ret)
  .skip)) <|
  (S (S (R <| f 27 4 3 <| l 28 27 <| b 29 .eql (t 28) (i 0) <| z) <|
  (.cond (t 29) [] [4]
  (S (R <| o 4 (.move (.const (.bool true))) <| z) <|
  .ret)
  .skip)) <|
  (S (D <| m 30 0 <| O 31 (.call 153 [(t 30)]) <| f 32 4 3 <| l 33 32 <| o 34 (.call 154 [(t 33)]) <| o 35 (.call 152 [(t 31), (t 34)]) <| b 36 .geq (t 35) (i 0) <| m 4 36 <| z) <|
  .ret)))), [.tmp 4], [.keep]⟩
theorem ok118 : ∃ fn c, FunOk Tryz.prog 118 fn c A118.erase := ⟨Tryz.f118, _, ⟨Tryz.func118, rfl, by kernel_rfl, by kernel_rfl, by kernel_rfl, of_decide_eq_true (by kernel_rfl), by kernel_rfl⟩⟩
noncomputable def s118 (Γ : PCallee) (n : Nat) (x0 : PV) (x1 : PV) (h : PHeap) : Pt := forkP (.ptr h.length 0) (h ++ [.box (cellsP x1) 41 .rw]) fun v0 h1 => (Γ 101 [x0] h1).bind fun p2 => (unP .not p2.1).bind fun v3 => K1 (fun v5 h6 => K1 (fun v8 h9 => K1 (fun v11 h12 => KL (fun w14 h15 => (fieldAddrP 4 v0).bind fun v16 => (loadP false 1 v16 h15).bind fun v17 => (binP .eql v17 (.int .i64 0 : PV)).bind fun v18 => KL (fun w20 h21 => (Γ 153 [x0] (lock h21)).bind fun p22 => unl h21 p22.2 fun h23 => (fieldAddrP 4 v0).bind fun v24 => (loadP false 1 v24 h23).bind fun v25 => (Γ 154 [v25] h23).bind fun p26 => (Γ 152 [p22.1, p26.1] p26.2).bind fun p27 => (binP .geq p27.1 (.int .i64 0 : PV)).bind fun v28 => finP [.keep] h p27.2 [v28]) fun j19 => ifP v18 ( finP [.keep] h h15 [(.bool true : PV)]) ( j19 [] h15)) fun j13 => ifP v11 ( finP [.keep] h h12 [(.bool false : PV)]) ( j13 [] h12)) fun j10 => scP v8 false ( (fieldAddrP 2 v0).bind fun v29 => (loadP false 1 v29 h9).bind fun v30 => (Γ 151 [x0] (lock h9)).bind fun p31 => unl h9 p31.2 fun h32 => (binP .gtr v30 p31.1).bind fun v33 => j10 v33 h32) (j10 (.bool true) h9)) fun j7 => scP v5 false ( (fieldAddrP 0 v0).bind fun v34 => (loadP false 1 v34 h6).bind fun v35 => (Γ 150 [x0, v35] h6).bind fun p36 => (unP .not p36.1).bind fun v37 => j7 v37 p36.2) (j7 (.bool true) h6)) fun j4 => scP v3 false ( (loadP true 6 v0 p2.2).bind fun v38 => (Γ 148 [v38] p2.2).bind fun p39 => (unP .not p39.1).bind fun v40 => j4 v40 p39.2) (j4 (.bool true) p2.2)
theorem s118_eq (Γ : PCallee) (n : Nat) (x0 : PV) (x1 : PV) (h : PHeap) : pfunK Γ n A118 [x0, x1] h = s118 Γ n x0 x1 h := by kernel_rfl
open Go.Vm.G in
def A119 : PFun := ⟨2, 9, (S (R <| o 2 (.box 41 (t 0)) <| o 3 (.move (.const (.bool false))) <| z) <|
  (S (D <| f 4 1 2 <| l 5 4 <| o 6 (.load true 42 (t 1)) <| F 6 (.agg SA42) <| O 7 (.call 120 [(t 6)]) <| b 8 .gtr (t 5) (t 7) <| m 3 8 <| z) <|
  .ret)), [.tmp 3], [.keep]⟩
theorem ok119 : ∃ fn c, FunOk Tryz.prog 119 fn c A119.erase := ⟨Tryz.f119, _, ⟨Tryz.func119, rfl, by kernel_rfl, by kernel_rfl, by kernel_rfl, of_decide_eq_true (by kernel_rfl), by kernel_rfl⟩⟩
noncomputable def s119 (Γ : PCallee) (n : Nat) (x0 : PV) (x1 : PV) (h : PHeap) : Pt := forkP (.ptr h.length 0) (h ++ [.box (cellsP x0) 41 .rw]) fun v0 h1 => (fieldAddrP 1 v0).bind fun v2 => (loadP false 1 v2 h1).bind fun v3 => (loadP true 42 x1 h1).bind fun v4 => (fz (.agg SA42) v4 h1).bind fun q5 => (Γ 120 [q5.1] (lock q5.2)).bind fun p6 => unl q5.2 p6.2 fun h7 => (binP .gtr v3 p6.1).bind fun v8 => finP [.keep] h h7 [v8]
theorem s119_eq (Γ : PCallee) (n : Nat) (x0 : PV) (x1 : PV) (h : PHeap) : pfunK Γ n A119 [x0, x1] h = s119 Γ n x0 x1 h := by kernel_rfl
open Go.Vm.G in
def A120 : PFun := ⟨1, 14, (S (R <| o 1 (.box 104 (t 0)) <| o 2 (.move (i 0)) <| z) <|
  (S (S (R <| f 3 13 1 <| f 4 6 3 <| l 5 4 <| z) <|
  (.cond (t 5) [] ([2] ++ g 6 4)
  (S (R <| f 6 0 1 <| f 7 12 6 <| l 8 7 <| o 9 (.len false (t 8)) <| m 2 9 <| z) <|
  .ret)
  .skip)) <|
  (S (R <| f 10 0 1 <| f 11 11 10 <| l 12 11 <| o 13 (.len false (t 12)) <| m 2 13 <| z) <|
  .ret))), [.tmp 2], [.keep]⟩
theorem ok120 : ∃ fn c, FunOk Tryz.prog 120 fn c A120.erase := ⟨Tryz.f120, _, ⟨Tryz.func120, rfl, by kernel_rfl, by kernel_rfl, by kernel_rfl, of_decide_eq_true (by kernel_rfl), by kernel_rfl⟩⟩
noncomputable def s120 (Γ : PCallee) (n : Nat) (x0 : PV) (h : PHeap) : Pt := forkP (.ptr h.length 0) (h ++ [.box (cellsP x0) 104 .rw]) fun v0 h1 => (fieldAddrP 13 v0).bind fun v2 => (fieldAddrP 6 v2).bind fun v3 => (loadP false 1 v3 h1).bind fun v4 => KL (fun w6 h7 => (fieldAddrP 0 v0).bind fun v8 => (fieldAddrP 11 v8).bind fun v9 => (loadP false 1 v9 h7).bind fun v10 => (lenP false v10).bind fun v11 => finP [.keep] h h7 [v11]) fun j5 => ifP v4 ( (fieldAddrP 0 v0).bind fun v12 => (fieldAddrP 12 v12).bind fun v13 => (loadP false 1 v13 h1).bind fun v14 => (lenP false v14).bind fun v15 => finP [.keep] h h1 [v15]) ( j5 [] h1)
theorem s120_eq (Γ : PCallee) (n : Nat) (x0 : PV) (h : PHeap) : pfunK Γ n A120 [x0] h = s120 Γ n x0 h := by kernel_rfl
open Go.Vm.G in
def A121 : PFun := ⟨2, 19, (S (R <| o 4 (.move (i 0)) <| z) <|
  (S (S (R <| m 6 0 <| o 7 (.len false (t 6)) <| o 8 (.move (i 0)) <| z) <|
  (.block 0 [] ([4, 5] ++ g 8 11)
  (.loop [8] ([4, 5] ++ g 9 10)
  (S (R <| b 9 .lss (t 8) (t 7) <| z) <|
  (S (.cond (t 9) [] []
  .skip
  (.exit 0)) <|
  (S (.block 1 [] ([4, 5] ++ g 10 8)
  (S (R <| m 10 8 <| m 5 10 <| z) <|
  (S (R <| m 11 1 <| m 12 0 <| m 13 5 <| o 14 (.indexAddr 1 (t 12) (t 13)) <| l 15 14 <| o 16 (.callV (t 11) [(t 15)]) <| z) <|
  (.cond (t 16) [] [4, 17]
  (S (R <| m 17 5 <| m 4 17 <| z) <|
  .ret)
  .skip)))) <|
  (R <| b 18 .add (t 8) (i 1) <| m 8 18 <| z))))))) <|
  (S (R <| o 4 (.move (i (-1))) <| z) <|
  .ret))), [.tmp 4], [.keep]⟩
theorem ok121 : ∃ fn c, FunOk Tryz.prog 121 fn c A121.erase := ⟨Tryz.f121, _, ⟨Tryz.func121, rfl, by kernel_rfl, by kernel_rfl, by kernel_rfl, of_decide_eq_true (by kernel_rfl), by kernel_rfl⟩⟩
noncomputable def s121_L0 (Γ : PCallee) (n : Nat) (x0 : PV) (x1 : PV) (h : PHeap) (v0 : PV) (j1 : Kt) : (Kt) → Kt := fun c4 w5 h6 => (binP .lss (nthP w5 0) v0).bind fun v7 => KL (fun w9 h10 => KL (fun w12 h13 => (binP .add (nthP w5 0) (.int .i64 1 : PV)).bind fun v14 => c4 [v14] (trim h [v14] h13)) fun j11 => (indexAddrP 1 x0 (nthP w5 0)).bind fun v15 => (loadP false 1 v15 h10).bind fun v16 => (callVP Γ x1 [v16] h10).bind fun p17 => KL (fun w19 h20 => j11 [] h20) fun j18 => ifP p17.1 ( finP [.keep] h p17.2 [(nthP w5 0)]) ( j18 [] p17.2)) fun j8 => ifP v7 ( j8 [] h6) ( j1 [] h6)
noncomputable def s121 (Γ : PCallee) (n : Nat) (x0 : PV) (x1 : PV) (h : PHeap) : Pt := (lenP false x0).bind fun v0 => KL (fun w2 h3 => finP [.keep] h h3 [(.int .i64 (-1) : PV)]) fun j1 => loopP (s121_L0 Γ n x0 x1 h v0 j1) n [(.int .i64 0 : PV)] h
theorem s121_eq (Γ : PCallee) (n : Nat) (x0 : PV) (x1 : PV) (h : PHeap) : pfunK Γ n A121 [x0, x1] h = s121 Γ n x0 x1 h := by kernel_rfl
open Go.Vm.G in
def A122 : PFun := ⟨2, 17, (S (R <| o 3 (.move (.const (.bool false))) <| z) <|
  (S (R <| m 4 0 <| o 5 (.call 87 [(t 4)]) <| o 6 (.un .not (t 5)) <| m 7 6 <| q 16 7 true (g 8 8) (m 8 0 <| f 9 0 1 <| f 10 10 9 <| l 11 10 <| o 12 (.len false (t 11)) <| b 13 .sub (t 12) (i 1) <| o 14 (.call 54 [(t 8), (i 0), (t 13)]) <| o 15 (.un .not (t 14)) <| z) (t 15) <|
  m 3 16 <| z) <|
  .ret)), [.tmp 3], [.keep]⟩
theorem ok122 : ∃ fn c, FunOk Tryz.prog 122 fn c A122.erase := ⟨Tryz.f122, _, ⟨Tryz.func122, rfl, by kernel_rfl, by kernel_rfl, by kernel_rfl, of_decide_eq_true (by kernel_rfl), by kernel_rfl⟩⟩
noncomputable def s122 (Γ : PCallee) (n : Nat) (x0 : PV) (x1 : PV) (h : PHeap) : Pt := (Γ 87 [x0] h).bind fun p0 => (unP .not p0.1).bind fun v1 => K1 (fun v3 h4 => finP [.keep] h h4 [v3]) fun j2 => scP v1 true ( (fieldAddrP 0 x1).bind fun v5 => (fieldAddrP 10 v5).bind fun v6 => (loadP false 1 v6 p0.2).bind fun v7 => (lenP false v7).bind fun v8 => (binP .sub v8 (.int .i64 1 : PV)).bind fun v9 => (Γ 54 [x0, (.int .i64 0 : PV), v9] p0.2).bind fun p10 => (unP .not p10.1).bind fun v11 => j2 v11 p10.2) (j2 (.bool false) p0.2)
theorem s122_eq (Γ : PCallee) (n : Nat) (x0 : PV) (x1 : PV) (h : PHeap) : pfunK Γ n A122 [x0, x1] h = s122 Γ n x0 x1 h := by kernel_rfl
open Go.Vm.G in
def A123 : PFun := ⟨1, 6, (S (R <| o 2 (.move (.const (.bool false))) <| z) <|
  (S (R <| m 3 0 <| o 4 (.call 54 [(t 3), (i 0), (i 256)]) <| o 5 (.un .not (t 4)) <| m 2 5 <| z) <|
  .ret)), [.tmp 2], [.keep]⟩
theorem ok123 : ∃ fn c, FunOk Tryz.prog 123 fn c A123.erase := ⟨Tryz.f123, _, ⟨Tryz.func123, rfl, by kernel_rfl, by kernel_rfl, by kernel_rfl, of_decide_eq_true (by kernel_rfl), by kernel_rfl⟩⟩
noncomputable def s123 (Γ : PCallee) (n : Nat) (x0 : PV) (h : PHeap) : Pt := (Γ 54 [x0, (.int .i64 0 : PV), (.int .i64 256 : PV)] h).bind fun p0 => (unP .not p0.1).bind fun v1 => finP [.keep] h p0.2 [v1]
theorem s123_eq (Γ : PCallee) (n : Nat) (x0 : PV) (h : PHeap) : pfunK Γ n A123 [x0] h = s123 Γ n x0 h := by kernel_rfl
open Go.Vm.G in
def A124 : PFun := ⟨2, 19, (S (R <| o 4 (.move (i 0)) <| z) <|
  (S (S (R <| m 6 0 <| o 7 (.len false (t 6)) <| o 8 (.move (i 0)) <| z) <|
  (.block 0 [] ([4, 5] ++ g 8 11)
  (.loop [8] ([4, 5] ++ g 9 10)
  (S (R <| b 9 .lss (t 8) (t 7) <| z) <|
  (S (.cond (t 9) [] []
  .skip
  (.exit 0)) <|
  (S (.block 1 [] ([4, 5] ++ g 10 8)
  (S (R <| m 10 8 <| m 5 10 <| z) <|
  (S (R <| m 11 1 <| m 12 0 <| m 13 5 <| o 14 (.indexAddr 13 (t 12) (t 13)) <| o 15 (.load true 13 (t 14)) <| o 16 (.callV (t 11) [(t 15)]) <| z) <|
  (.cond (t 16) [] [4, 17]
  (S (R <| m 17 5 <| m 4 17 <| z) <|
  .ret)
  .skip)))) <|
  (R <| b 18 .add (t 8) (i 1) <| m 8 18 <| z))))))) <|
  (S (R <| o 4 (.move (i (-1))) <| z) <|
  .ret))), [.tmp 4], [.keep]⟩
theorem ok124 : ∃ fn c, FunOk Tryz.prog 124 fn c A124.erase := ⟨Tryz.f124, _, ⟨Tryz.func124, rfl, by kernel_rfl, by kernel_rfl, by kernel_rfl, of_decide_eq_true (by kernel_rfl), by kernel_rfl⟩⟩
noncomputable def s124_L0 (Γ : PCallee) (n : Nat) (x0 : PV) (x1 : PV) (h : PHeap) (v0 : PV) (j1 : Kt) : (Kt) → Kt := fun c4 w5 h6 => (binP .lss (nthP w5 0) v0).bind fun v7 => KL (fun w9 h10 => KL (fun w12 h13 => (binP .add (nthP w5 0) (.int .i64 1 : PV)).bind fun v14 => c4 [v14] (trim h [v14] h13)) fun j11 => (indexAddrP 13 x0 (nthP w5 0)).bind fun v15 => (loadP true 13 v15 h10).bind fun v16 => (callVP Γ x1 [v16] h10).bind fun p17 => KL (fun w19 h20 => j11 [] h20) fun j18 => ifP p17.1 ( finP [.keep] h p17.2 [(nthP w5 0)]) ( j18 [] p17.2)) fun j8 => ifP v7 ( j8 [] h6) ( j1 [] h6)
noncomputable def s124 (Γ : PCallee) (n : Nat) (x0 : PV) (x1 : PV) (h : PHeap) : Pt := (lenP false x0).bind fun v0 => KL (fun w2 h3 => finP [.keep] h h3 [(.int .i64 (-1) : PV)]) fun j1 => loopP (s124_L0 Γ n x0 x1 h v0 j1) n [(.int .i64 0 : PV)] h
theorem s124_eq (Γ : PCallee) (n : Nat) (x0 : PV) (x1 : PV) (h : PHeap) : pfunK Γ n A124 [x0, x1] h = s124 Γ n x0 x1 h := by kernel_rfl
open Go.Vm.G in
def A125 : PFun := ⟨1, 6, (S (R <| o 1 (.box 43 (t 0)) <| o 2 (.move (.const (.bool false))) <| z) <|
  (S (R <| o 3 (.load true 13 (t 1)) <| o 4 (.call 126 [(t 3)]) <| o 5 (.un .not (t 4)) <| m 2 5 <| z) <|
  .ret)), [.tmp 2], [.keep]⟩
theorem ok125 : ∃ fn c, FunOk Tryz.prog 125 fn c A125.erase := ⟨Tryz.f125, _, ⟨Tryz.func125, rfl, by kernel_rfl, by kernel_rfl, by kernel_rfl, of_decide_eq_true (by kernel_rfl), by kernel_rfl⟩⟩
noncomputable def s125 (Γ : PCallee) (n : Nat) (x0 : PV) (h : PHeap) : Pt := forkP (.ptr h.length 0) (h ++ [.box (cellsP x0) 43 .rw]) fun v0 h1 => (loadP true 13 v0 h1).bind fun v2 => (Γ 126 [v2] h1).bind fun p3 => (unP .not p3.1).bind fun v4 => finP [.keep] h p3.2 [v4]
theorem s125_eq (Γ : PCallee) (n : Nat) (x0 : PV) (h : PHeap) : pfunK Γ n A125 [x0] h = s125 Γ n x0 h := by kernel_rfl
open Go.Vm.G in
def A126 : PFun := ⟨1, 129, (S (R <| o 1 (.box 43 (t 0)) <| o 2 (.move (.const (.bool false))) <| z) <|
  (S (S (R <| f 8 0 1 <| l 9 8 <| o 10 (.len true (t 9)) <| b 11 .gtr (t 10) (i 22) <| m 12 11 <| q 21 12 false (g 13 4 ++ [20, 17, 18, 19]) (f 13 2 1 <| l 14 13 <| b 15 .neq (t 14) (i 8) <| m 16 15 <| q 20 16 true [17, 18, 19] (f 17 2 1 <| l 18 17 <| b 19 .neq (t 18) (i 16) <| z) (t 19) <|
  z) (t 20) <|
  m 22 21 <| q 27 22 false (g 23 4) (f 23 1 1 <| l 24 23 <| o 25 (.len false (t 24)) <| b 26 .gtr (t 25) (i 4096) <| z) (t 26) <|
  z) <|
  (.cond (t 27) [] [2]
  (S (R <| o 2 (.move (.const (.bool false))) <| z) <|
  .ret)
  .skip)) <|
  (S (S (R <| f 28 0 1 <| l 29 28 <| o 30 (.len true (t 29)) <| o 31 (.move (i 0)) <| z) <|
  (.block 0 [] ([2, 3] ++ g 31 16)
  (.loop [31] ([2, 3] ++ g 32 15)
  (S (R <| b 32 .lss (t 31) (t 30) <| z) <|
  (S (.cond (t 32) [] []
  .skip
  (.exit 0)) <|
  (S (.block 1 [] ([2, 3] ++ g 33 13)
  (S (R <| m 33 31 <| m 3 33 <| z) <|
  (S (R <| f 34 0 1 <| l 35 34 <| m 36 3 <| o 37 (.indexStr (t 35) (t 36)) <| b 38 .lss (t 37) (.const (.int .u8 32)) <| m 39 38 <| q 45 39 false (g 40 5) (f 40 0 1 <| l 41 40 <| m 42 3 <| o 43 (.indexStr (t 41) (t 42)) <| b 44 .gtr (t 43) (.const (.int .u8 126)) <| z) (t 44) <|
  z) <|
  (.cond (t 45) [] [2]
  (S (R <| o 2 (.move (.const (.bool false))) <| z) <|
  .ret)
  .skip)))) <|
  (R <| b 46 .add (t 31) (i 1) <| m 31 46 <| z))))))) <|
  (S (R <| f 48 2 1 <| l 49 48 <| o 50 (.call 155 [(t 49)]) <| m 47 50 <| o 51 (.extract (t 47) 0) <| o 52 (.extract (t 47) 1) <| m 4 51 <| m 5 52 <| z) <|
  (S (S (R <| f 53 1 1 <| l 54 53 <| o 55 (.len false (t 54)) <| o 56 (.move (i 0)) <| z) <|
  (.block 2 [] ([2, 7] ++ g 56 13)
  (.loop [56] ([2, 7] ++ g 57 12)
  (S (R <| b 57 .lss (t 56) (t 55) <| z) <|
  (S (.cond (t 57) [] []
  .skip
  (.exit 2)) <|
  (S (.block 3 [] ([2, 7] ++ g 58 10)
  (S (R <| o 58 (.indexAddr 1 (t 54) (t 56)) <| l 59 58 <| m 7 59 <| z) <|
  (S (R <| m 60 7 <| m 61 4 <| b 62 .lss (t 60) (t 61) <| m 63 62 <| q 67 63 false [64, 65, 66] (m 64 7 <| m 65 5 <| b 66 .gtr (t 64) (t 65) <| z) (t 66) <|
  z) <|
  (.cond (t 67) [] [2]
  (S (R <| o 2 (.move (.const (.bool false))) <| z) <|
  .ret)
  .skip)))) <|
  (R <| b 68 .add (t 56) (i 1) <| m 56 68 <| z))))))) <|
  (S (S (R <| f 69 3 1 <| l 70 69 <| b 71 .lss (t 70) (i 1) <| m 72 71 <| q 76 72 false [73, 74, 75] (f 73 3 1 <| l 74 73 <| b 75 .gtr (t 74) (i 65535) <| z) (t 75) <|
  m 77 76 <| q 81 77 false [78, 79, 80] (f 78 4 1 <| l 79 78 <| b 80 .lss (t 79) (i 0) <| z) (t 80) <|
  m 82 81 <| q 86 82 false [83, 84, 85] (f 83 4 1 <| l 84 83 <| b 85 .gtr (t 84) (i 64) <| z) (t 85) <|
  m 87 86 <| q 91 87 false [88, 89, 90] (f 88 5 1 <| l 89 88 <| b 90 .lss (t 89) (i (-1)) <| z) (t 90) <|
  m 92 91 <| q 96 92 false [93, 94, 95] (f 93 5 1 <| l 94 93 <| b 95 .gtr (t 94) (i 256) <| z) (t 95) <|
  m 97 96 <| q 101 97 false [98, 99, 100] (f 98 6 1 <| l 99 98 <| b 100 .lss (t 99) (i (-64)) <| z) (t 100) <|
  m 102 101 <| q 106 102 false [103, 104, 105] (f 103 6 1 <| l 104 103 <| b 105 .gtr (t 104) (i 63) <| z) (t 105) <|
  z) <|
  (.cond (t 106) [] [2]
  (S (R <| o 2 (.move (.const (.bool false))) <| z) <|
  .ret)
  .skip)) <|
  (S (R <| f 107 7 1 <| l 108 107 <| f 109 8 1 <| l 110 109 <| f 111 9 1 <| l 112 111 <| f 113 1 1 <| l 114 113 <| o 115 (.len false (t 114)) <| o 116 (.call 156 [(t 108), (t 110), (t 112), (t 115)]) <| m 117 116 <| q 128 117 true (g 118 10) (f 118 10 1 <| l 119 118 <| f 120 11 1 <| l 121 120 <| f 122 12 1 <| l 123 122 <| f 124 1 1 <| l 125 124 <| o 126 (.len false (t 125)) <| o 127 (.call 156 [(t 119), (t 121), (t 123), (t 126)]) <| z) (t 127) <|
  m 2 128 <| z) <|
  .ret))))))), [.tmp 2], [.keep]⟩
theorem ok126 : ∃ fn c, FunOk Tryz.prog 126 fn c A126.erase := ⟨Tryz.f126, _, ⟨Tryz.func126, rfl, by kernel_rfl, by kernel_rfl, by kernel_rfl, of_decide_eq_true (by kernel_rfl), by kernel_rfl⟩⟩
noncomputable def s126_L0 (Γ : PCallee) (n : Nat) (h : PHeap) (p23 : PV × PHeap) (v24 : PV) (v25 : PV) (v27 : PV) (v28 : PV) (j29 : Kt) : (Kt) → Kt := fun c103 w104 h105 => (binP .lss (nthP w104 0) v28).bind fun v106 => KL (fun w108 h109 => KL (fun w111 h112 => (binP .add (nthP w104 0) (.int .i64 1 : PV)).bind fun v113 => c103 [v113] (trim p23.2 [v113] h112)) fun j110 => (indexAddrP 1 v27 (nthP w104 0)).bind fun v114 => (loadP false 1 v114 h109).bind fun v115 => (binP .lss v115 v24).bind fun v116 => K1 (fun v118 h119 => KL (fun w121 h122 => j110 [] h122) fun j120 => ifP v118 ( finP [.keep] h h119 [(.bool false : PV)]) ( j120 [] h119)) fun j117 => scP v116 false ( (binP .gtr v115 v25).bind fun v123 => j117 v123 h109) (j117 (.bool true) h109)) fun j107 => ifP v106 ( j107 [] h105) ( j29 [] h105)
noncomputable def s126_L1 (Γ : PCallee) (n : Nat) (h : PHeap) (v0 : PV) (h14 : PHeap) (v17 : PV) (j18 : Kt) : (Kt) → Kt := fun c124 w125 h126 => (binP .lss (nthP w125 0) v17).bind fun v127 => KL (fun w129 h130 => KL (fun w132 h133 => (binP .add (nthP w125 0) (.int .i64 1 : PV)).bind fun v134 => c124 [v134] (trim h14 [v134] h133)) fun j131 => (fieldAddrP 0 v0).bind fun v135 => (loadP false 1 v135 h130).bind fun v136 => (indexStrP v136 (nthP w125 0)).bind fun v137 => (binP .lss v137 (.int .u8 32 : PV)).bind fun v138 => K1 (fun v140 h141 => KL (fun w143 h144 => j131 [] h144) fun j142 => ifP v140 ( finP [.keep] h h141 [(.bool false : PV)]) ( j142 [] h141)) fun j139 => scP v138 false ( (fieldAddrP 0 v0).bind fun v145 => (loadP false 1 v145 h130).bind fun v146 => (indexStrP v146 (nthP w125 0)).bind fun v147 => (binP .gtr v147 (.int .u8 126 : PV)).bind fun v148 => j139 v148 h130) (j139 (.bool true) h130)) fun j128 => ifP v127 ( j128 [] h126) ( j18 [] h126)
noncomputable def s126 (Γ : PCallee) (n : Nat) (x0 : PV) (h : PHeap) : Pt := forkP (.ptr h.length 0) (h ++ [.box (cellsP x0) 43 .rw]) fun v0 h1 => (fieldAddrP 0 v0).bind fun v2 => (loadP false 1 v2 h1).bind fun v3 => (lenP true v3).bind fun v4 => (binP .gtr v4 (.int .i64 22 : PV)).bind fun v5 => K1 (fun v7 h8 => K1 (fun v10 h11 => KL (fun w13 h14 => (fieldAddrP 0 v0).bind fun v15 => (loadP false 1 v15 h14).bind fun v16 => (lenP true v16).bind fun v17 => KL (fun w19 h20 => (fieldAddrP 2 v0).bind fun v21 => (loadP false 1 v21 h20).bind fun v22 => (Γ 155 [v22] h20).bind fun p23 => (extractP p23.1 0).bind fun v24 => (extractP p23.1 1).bind fun v25 => (fieldAddrP 1 v0).bind fun v26 => (loadP false 1 v26 p23.2).bind fun v27 => (lenP false v27).bind fun v28 => KL (fun w30 h31 => (fieldAddrP 3 v0).bind fun v32 => (loadP false 1 v32 h31).bind fun v33 => (binP .lss v33 (.int .i64 1 : PV)).bind fun v34 => K1 (fun v36 h37 => K1 (fun v39 h40 => K1 (fun v42 h43 => K1 (fun v45 h46 => K1 (fun v48 h49 => K1 (fun v51 h52 => K1 (fun v54 h55 => KL (fun w57 h58 => (fieldAddrP 7 v0).bind fun v59 => (loadP false 1 v59 h58).bind fun v60 => (fieldAddrP 8 v0).bind fun v61 => (loadP false 1 v61 h58).bind fun v62 => (fieldAddrP 9 v0).bind fun v63 => (loadP false 1 v63 h58).bind fun v64 => (fieldAddrP 1 v0).bind fun v65 => (loadP false 1 v65 h58).bind fun v66 => (lenP false v66).bind fun v67 => (Γ 156 [v60, v62, v64, v67] h58).bind fun p68 => K1 (fun v70 h71 => finP [.keep] h h71 [v70]) fun j69 => scP p68.1 true ( (fieldAddrP 10 v0).bind fun v72 => (loadP false 1 v72 p68.2).bind fun v73 => (fieldAddrP 11 v0).bind fun v74 => (loadP false 1 v74 p68.2).bind fun v75 => (fieldAddrP 12 v0).bind fun v76 => (loadP false 1 v76 p68.2).bind fun v77 => (fieldAddrP 1 v0).bind fun v78 => (loadP false 1 v78 p68.2).bind fun v79 => (lenP false v79).bind fun v80 => (Γ 156 [v73, v75, v77, v80] p68.2).bind fun p81 => j69 p81.1 p81.2) (j69 (.bool false) p68.2)) fun j56 => ifP v54 ( finP [.keep] h h55 [(.bool false : PV)]) ( j56 [] h55)) fun j53 => scP v51 false ( (fieldAddrP 6 v0).bind fun v82 => (loadP false 1 v82 h52).bind fun v83 => (binP .gtr v83 (.int .i64 63 : PV)).bind fun v84 => j53 v84 h52) (j53 (.bool true) h52)) fun j50 => scP v48 false ( (fieldAddrP 6 v0).bind fun v85 => (loadP false 1 v85 h49).bind fun v86 => (binP .lss v86 (.int .i64 (-64) : PV)).bind fun v87 => j50 v87 h49) (j50 (.bool true) h49)) fun j47 => scP v45 false ( (fieldAddrP 5 v0).bind fun v88 => (loadP false 1 v88 h46).bind fun v89 => (binP .gtr v89 (.int .i64 256 : PV)).bind fun v90 => j47 v90 h46) (j47 (.bool true) h46)) fun j44 => scP v42 false ( (fieldAddrP 5 v0).bind fun v91 => (loadP false 1 v91 h43).bind fun v92 => (binP .lss v92 (.int .i64 (-1) : PV)).bind fun v93 => j44 v93 h43) (j44 (.bool true) h43)) fun j41 => scP v39 false ( (fieldAddrP 4 v0).bind fun v94 => (loadP false 1 v94 h40).bind fun v95 => (binP .gtr v95 (.int .i64 64 : PV)).bind fun v96 => j41 v96 h40) (j41 (.bool true) h40)) fun j38 => scP v36 false ( (fieldAddrP 4 v0).bind fun v97 => (loadP false 1 v97 h37).bind fun v98 => (binP .lss v98 (.int .i64 0 : PV)).bind fun v99 => j38 v99 h37) (j38 (.bool true) h37)) fun j35 => scP v34 false ( (fieldAddrP 3 v0).bind fun v100 => (loadP false 1 v100 h31).bind fun v101 => (binP .gtr v101 (.int .i64 65535 : PV)).bind fun v102 => j35 v102 h31) (j35 (.bool true) h31)) fun j29 => loopP (s126_L0 Γ n h p23 v24 v25 v27 v28 j29) n [(.int .i64 0 : PV)] p23.2) fun j18 => loopP (s126_L1 Γ n h v0 h14 v17 j18) n [(.int .i64 0 : PV)] h14) fun j12 => ifP v10 ( finP [.keep] h h11 [(.bool false : PV)]) ( j12 [] h11)) fun j9 => scP v7 false ( (fieldAddrP 1 v0).bind fun v149 => (loadP false 1 v149 h8).bind fun v150 => (lenP false v150).bind fun v151 => (binP .gtr v151 (.int .i64 4096 : PV)).bind fun v152 => j9 v152 h8) (j9 (.bool true) h8)) fun j6 => scP v5 false ( (fieldAddrP 2 v0).bind fun v153 => (loadP false 1 v153 h1).bind fun v154 => (binP .neq v154 (.int .i64 8 : PV)).bind fun v155 => K1 (fun v157 h158 => j6 v157 h158) fun j156 => scP v155 true ( (fieldAddrP 2 v0).bind fun v159 => (loadP false 1 v159 h1).bind fun v160 => (binP .neq v160 (.int .i64 16 : PV)).bind fun v161 => j156 v161 h1) (j156 (.bool false) h1)) (j6 (.bool true) h1)
theorem s126_eq (Γ : PCallee) (n : Nat) (x0 : PV) (h : PHeap) : pfunK Γ n A126 [x0] h = s126 Γ n x0 h := by kernel_rfl
open Go.Vm.G in
def A127 : PFun := ⟨1, 71, (S (R <| o 1 (.box 57 (t 0)) <| o 2 (.move (.const (.bool false))) <| z) <|
  (S (S (R <| f 3 0 1 <| l 4 3 <| o 5 (.call 157 [(t 4)]) <| o 6 (.un .not (t 5)) <| m 7 6 <| q 18 7 false (g 8 5 ++ [17] ++ g 13 4) (f 8 1 1 <| l 9 8 <| o 10 (.len false (t 9)) <| b 11 .neq (t 10) (i 0) <| m 12 11 <| q 17 12 true (g 13 4) (f 13 1 1 <| l 14 13 <| o 15 (.len false (t 14)) <| b 16 .neq (t 15) (i 120) <| z) (t 16) <|
  z) (t 17) <|
  z) <|
  (.cond (t 18) [] [2]
  (S (R <| o 2 (.move (.const (.bool false))) <| z) <|
  .ret)
  .skip)) <|
  (S (S (R <| f 19 1 1 <| l 20 19 <| o 21 (.call 128 [(t 20), (.func 158)]) <| z) <|
  (.cond (t 21) [] [2]
  (S (R <| o 2 (.move (.const (.bool false))) <| z) <|
  .ret)
  .skip)) <|
  (S (S (R <| f 22 2 1 <| o 23 (.load true 8 (t 22)) <| o 24 (.call 159 [(t 23), (i 0), (i 64)]) <| o 25 (.un .not (t 24)) <| m 26 25 <| q 31 26 false (g 27 4) (f 27 10 1 <| o 28 (.load true 8 (t 27)) <| o 29 (.call 159 [(t 28), (i (-32)), (i 32)]) <| o 30 (.un .not (t 29)) <| z) (t 30) <|
  m 32 31 <| q 37 32 false (g 33 4) (f 33 18 1 <| o 34 (.load true 8 (t 33)) <| o 35 (.call 159 [(t 34), (i (-32)), (i 32)]) <| o 36 (.un .not (t 35)) <| z) (t 36) <|
  z) <|
  (.cond (t 37) [] [2]
  (S (R <| o 2 (.move (.const (.bool false))) <| z) <|
  .ret)
  .skip)) <|
  (S (R <| f 38 26 1 <| l 39 38 <| o 40 (.call 146 [(t 39), (i 0), (i 1024)]) <| m 41 40 <| q 45 41 true [42, 43, 44] (f 42 27 1 <| l 43 42 <| o 44 (.call 146 [(t 43), (i 0), (i 3)]) <| z) (t 44) <|
  m 46 45 <| q 50 46 true [47, 48, 49] (f 47 28 1 <| l 48 47 <| o 49 (.call 146 [(t 48), (i 0), (i 3)]) <| z) (t 49) <|
  m 51 50 <| q 55 51 true [52, 53, 54] (f 52 29 1 <| l 53 52 <| o 54 (.call 146 [(t 53), (i 0), (i 2)]) <| z) (t 54) <|
  m 56 55 <| q 60 56 true [57, 58, 59] (f 57 30 1 <| l 58 57 <| o 59 (.call 146 [(t 58), (i 0), (i 64)]) <| z) (t 59) <|
  m 61 60 <| q 65 61 true [62, 63, 64] (f 62 31 1 <| l 63 62 <| o 64 (.call 146 [(t 63), (i (-1)), (i 127)]) <| z) (t 64) <|
  m 66 65 <| q 70 66 true [67, 68, 69] (f 67 32 1 <| l 68 67 <| o 69 (.call 146 [(t 68), (i (-1)), (i 127)]) <| z) (t 69) <|
  m 2 70 <| z) <|
  .ret))))), [.tmp 2], [.keep]⟩
theorem ok127 : ∃ fn c, FunOk Tryz.prog 127 fn c A127.erase := ⟨Tryz.f127, _, ⟨Tryz.func127, rfl, by kernel_rfl, by kernel_rfl, by kernel_rfl, of_decide_eq_true (by kernel_rfl), by kernel_rfl⟩⟩
noncomputable def s127 (Γ : PCallee) (n : Nat) (x0 : PV) (h : PHeap) : Pt := forkP (.ptr h.length 0) (h ++ [.box (cellsP x0) 57 .rw]) fun v0 h1 => (fieldAddrP 0 v0).bind fun v2 => (loadP false 1 v2 h1).bind fun v3 => (Γ 157 [v3] h1).bind fun p4 => (unP .not p4.1).bind fun v5 => K1 (fun v7 h8 => KL (fun w10 h11 => (fieldAddrP 1 v0).bind fun v12 => (loadP false 1 v12 h11).bind fun v13 => (Γ 128 [v13, (PV.func 158 [] [])] h11).bind fun p14 => KL (fun w16 h17 => (fieldAddrP 2 v0).bind fun v18 => (loadP true 8 v18 h17).bind fun v19 => (Γ 159 [v19, (.int .i64 0 : PV), (.int .i64 64 : PV)] h17).bind fun p20 => (unP .not p20.1).bind fun v21 => K1 (fun v23 h24 => K1 (fun v26 h27 => KL (fun w29 h30 => (fieldAddrP 26 v0).bind fun v31 => (loadP false 1 v31 h30).bind fun v32 => (Γ 146 [v32, (.int .i64 0 : PV), (.int .i64 1024 : PV)] h30).bind fun p33 => K1 (fun v35 h36 => K1 (fun v38 h39 => K1 (fun v41 h42 => K1 (fun v44 h45 => K1 (fun v47 h48 => K1 (fun v50 h51 => finP [.keep] h h51 [v50]) fun j49 => scP v47 true ( (fieldAddrP 32 v0).bind fun v52 => (loadP false 1 v52 h48).bind fun v53 => (Γ 146 [v53, (.int .i64 (-1) : PV), (.int .i64 127 : PV)] h48).bind fun p54 => j49 p54.1 p54.2) (j49 (.bool false) h48)) fun j46 => scP v44 true ( (fieldAddrP 31 v0).bind fun v55 => (loadP false 1 v55 h45).bind fun v56 => (Γ 146 [v56, (.int .i64 (-1) : PV), (.int .i64 127 : PV)] h45).bind fun p57 => j46 p57.1 p57.2) (j46 (.bool false) h45)) fun j43 => scP v41 true ( (fieldAddrP 30 v0).bind fun v58 => (loadP false 1 v58 h42).bind fun v59 => (Γ 146 [v59, (.int .i64 0 : PV), (.int .i64 64 : PV)] h42).bind fun p60 => j43 p60.1 p60.2) (j43 (.bool false) h42)) fun j40 => scP v38 true ( (fieldAddrP 29 v0).bind fun v61 => (loadP false 1 v61 h39).bind fun v62 => (Γ 146 [v62, (.int .i64 0 : PV), (.int .i64 2 : PV)] h39).bind fun p63 => j40 p63.1 p63.2) (j40 (.bool false) h39)) fun j37 => scP v35 true ( (fieldAddrP 28 v0).bind fun v64 => (loadP false 1 v64 h36).bind fun v65 => (Γ 146 [v65, (.int .i64 0 : PV), (.int .i64 3 : PV)] h36).bind fun p66 => j37 p66.1 p66.2) (j37 (.bool false) h36)) fun j34 => scP p33.1 true ( (fieldAddrP 27 v0).bind fun v67 => (loadP false 1 v67 p33.2).bind fun v68 => (Γ 146 [v68, (.int .i64 0 : PV), (.int .i64 3 : PV)] p33.2).bind fun p69 => j34 p69.1 p69.2) (j34 (.bool false) p33.2)) fun j28 => ifP v26 ( finP [.keep] h h27 [(.bool false : PV)]) ( j28 [] h27)) fun j25 => scP v23 false ( (fieldAddrP 18 v0).bind fun v70 => (loadP true 8 v70 h24).bind fun v71 => (Γ 159 [v71, (.int .i64 (-32) : PV), (.int .i64 32 : PV)] h24).bind fun p72 => (unP .not p72.1).bind fun v73 => j25 v73 p72.2) (j25 (.bool true) h24)) fun j22 => scP v21 false ( (fieldAddrP 10 v0).bind fun v74 => (loadP true 8 v74 p20.2).bind fun v75 => (Γ 159 [v75, (.int .i64 (-32) : PV), (.int .i64 32 : PV)] p20.2).bind fun p76 => (unP .not p76.1).bind fun v77 => j22 v77 p76.2) (j22 (.bool true) p20.2)) fun j15 => ifP p14.1 ( finP [.keep] h p14.2 [(.bool false : PV)]) ( j15 [] p14.2)) fun j9 => ifP v7 ( finP [.keep] h h8 [(.bool false : PV)]) ( j9 [] h8)) fun j6 => scP v5 false ( (fieldAddrP 1 v0).bind fun v78 => (loadP false 1 v78 p4.2).bind fun v79 => (lenP false v79).bind fun v80 => (binP .neq v80 (.int .i64 0 : PV)).bind fun v81 => K1 (fun v83 h84 => j6 v83 h84) fun j82 => scP v81 true ( (fieldAddrP 1 v0).bind fun v85 => (loadP false 1 v85 p4.2).bind fun v86 => (lenP false v86).bind fun v87 => (binP .neq v87 (.int .i64 120 : PV)).bind fun v88 => j82 v88 p4.2) (j82 (.bool false) p4.2)) (j6 (.bool true) p4.2)
theorem s127_eq (Γ : PCallee) (n : Nat) (x0 : PV) (h : PHeap) : pfunK Γ n A127 [x0] h = s127 Γ n x0 h := by kernel_rfl
open Go.Vm.G in
def A128 : PFun := ⟨2, 9, (S (R <| o 4 (.move (.const (.bool false))) <| z) <|
  (S (R <| m 5 0 <| m 6 1 <| o 7 (.call 160 [(t 5), (t 6)]) <| b 8 .geq (t 7) (i 0) <| m 4 8 <| z) <|
  .ret)), [.tmp 4], [.keep]⟩
theorem ok128 : ∃ fn c, FunOk Tryz.prog 128 fn c A128.erase := ⟨Tryz.f128, _, ⟨Tryz.func128, rfl, by kernel_rfl, by kernel_rfl, by kernel_rfl, of_decide_eq_true (by kernel_rfl), by kernel_rfl⟩⟩
noncomputable def s128 (Γ : PCallee) (n : Nat) (x0 : PV) (x1 : PV) (h : PHeap) : Pt := (Γ 160 [x0, x1] h).bind fun p0 => (binP .geq p0.1 (.int .i64 0 : PV)).bind fun v1 => finP [.keep] h p0.2 [v1]
theorem s128_eq (Γ : PCallee) (n : Nat) (x0 : PV) (x1 : PV) (h : PHeap) : pfunK Γ n A128 [x0, x1] h = s128 Γ n x0 x1 h := by kernel_rfl
open Go.Vm.G in
def A129 : PFun := ⟨2, 11, (S (R <| o 2 (.box 89 (t 0)) <| o 3 (.move (.const (.bool false))) <| z) <|
  (S (R <| f 4 1 2 <| l 5 4 <| f 6 0 1 <| f 7 11 6 <| l 8 7 <| o 9 (.len false (t 8)) <| b 10 .gtr (t 5) (t 9) <| m 3 10 <| z) <|
  .ret)), [.tmp 3], [.keep]⟩
theorem ok129 : ∃ fn c, FunOk Tryz.prog 129 fn c A129.erase := ⟨Tryz.f129, _, ⟨Tryz.func129, rfl, by kernel_rfl, by kernel_rfl, by kernel_rfl, of_decide_eq_true (by kernel_rfl), by kernel_rfl⟩⟩
noncomputable def s129 (Γ : PCallee) (n : Nat) (x0 : PV) (x1 : PV) (h : PHeap) : Pt := forkP (.ptr h.length 0) (h ++ [.box (cellsP x0) 89 .rw]) fun v0 h1 => (fieldAddrP 1 v0).bind fun v2 => (loadP false 1 v2 h1).bind fun v3 => (fieldAddrP 0 x1).bind fun v4 => (fieldAddrP 11 v4).bind fun v5 => (loadP false 1 v5 h1).bind fun v6 => (lenP false v6).bind fun v7 => (binP .gtr v3 v7).bind fun v8 => finP [.keep] h h1 [v8]
theorem s129_eq (Γ : PCallee) (n : Nat) (x0 : PV) (x1 : PV) (h : PHeap) : pfunK Γ n A129 [x0, x1] h = s129 Γ n x0 x1 h := by kernel_rfl
open Go.Vm.G in
def A135 : PFun := ⟨1, 18, (S (R <| o 2 (.new 154 [(.string ⟨#[]⟩), (.int .i64 0), (.int .i64 0)]) <| o 3 (.move (.const (.bool false))) <| z) <|
  (S (S (R <| m 6 0 <| o 7 (.len false (t 6)) <| o 8 (.move (i 0)) <| z) <|
  (.block 0 [] ([3, 5] ++ g 8 9)
  (.loop [8] ([3, 5] ++ g 9 8)
  (S (R <| b 9 .lss (t 8) (t 7) <| z) <|
  (S (.cond (t 9) [] []
  .skip
  (.exit 0)) <|
  (S (.block 1 [] ([3, 5] ++ g 10 6)
  (S (R <| o 10 (.indexAddr 3 (t 6) (t 8)) <| o 11 (.load true 3 (t 10)) <| o 5 (.new 154 [(.string ⟨#[]⟩), (.int .i64 0), (.int .i64 0)]) <| n (.store 3 (t 5) (t 11)) <| z) <|
  (S (R <| f 12 2 5 <| l 13 12 <| b 14 .neq (t 13) (i 0) <| z) <|
  (.cond (t 14) [] [3, 15]
  (S (R <| o 15 (.load true 3 (t 5)) <| n (.store 3 (t 2) (t 15)) <| o 3 (.move (.const (.bool true))) <| z) <|
  .ret)
  .skip)))) <|
  (R <| b 16 .add (t 8) (i 1) <| m 8 16 <| z))))))) <|
  (S (R <| o 17 (.build [(.string ⟨#[]⟩), (.int .i64 0), (.int .i64 0)] []) <| n (.store 3 (t 2) (t 17)) <| o 3 (.move (.const (.bool false))) <| z) <|
  .ret))), [.cell 2 true 3, .tmp 3], [.keep, .keep]⟩
theorem ok135 : ∃ fn c, FunOk Tryz.prog 135 fn c A135.erase := ⟨Tryz.f135, _, ⟨Tryz.func135, rfl, by kernel_rfl, by kernel_rfl, by kernel_rfl, of_decide_eq_true (by kernel_rfl), by kernel_rfl⟩⟩
noncomputable def s135_L0 (Γ : PCallee) (n : Nat) (x0 : PV) (h : PHeap) (v0 : PV) (h1 : PHeap) (v2 : PV) (j3 : Kt) : (Kt) → Kt := fun c9 w10 h11 => (binP .lss (nthP w10 0) v2).bind fun v12 => KL (fun w14 h15 => KL (fun w17 h18 => (binP .add (nthP w10 0) (.int .i64 1 : PV)).bind fun v19 => c9 [v19] (trim h1 [v19] h18)) fun j16 => (indexAddrP 3 x0 (nthP w10 0)).bind fun v20 => (loadP true 3 v20 h15).bind fun v21 => forkP (.ptr h15.length 0) (h15 ++ [.box [.str ⟨#[]⟩, .int .i64 0, .int .i64 0] 154 .rw]) fun v22 h23 => (storeP 3 v22 v21 h23).bind fun h24 => (fieldAddrP 2 v22).bind fun v25 => (loadP false 1 v25 h24).bind fun v26 => (binP .neq v26 (.int .i64 0 : PV)).bind fun v27 => KL (fun w29 h30 => j16 [] h30) fun j28 => ifP v27 ( (loadP true 3 v22 h24).bind fun v31 => (storeP 3 v0 v31 h24).bind fun h32 => (loadP true 3 v0 h32).bind fun v33 => finP [.keep, .keep] h h32 [v33, (.bool true : PV)]) ( j28 [] h24)) fun j13 => ifP v12 ( j13 [] h11) ( j3 [] h11)
noncomputable def s135 (Γ : PCallee) (n : Nat) (x0 : PV) (h : PHeap) : Pt := forkP (.ptr h.length 0) (h ++ [.box [.str ⟨#[]⟩, .int .i64 0, .int .i64 0] 154 .rw]) fun v0 h1 => (lenP false x0).bind fun v2 => KL (fun w4 h5 => (fillP [.str ⟨#[]⟩, .int .i64 0, .int .i64 0] []).bind fun l6 => (storeP 3 v0 (PV.agg l6) h5).bind fun h7 => (loadP true 3 v0 h7).bind fun v8 => finP [.keep, .keep] h h7 [v8, (.bool false : PV)]) fun j3 => loopP (s135_L0 Γ n x0 h v0 h1 v2 j3) n [(.int .i64 0 : PV)] h1
theorem s135_eq (Γ : PCallee) (n : Nat) (x0 : PV) (h : PHeap) : pfunK Γ n A135 [x0] h = s135 Γ n x0 h := by kernel_rfl
open Go.Vm.G in
def A136 : PFun := ⟨3, 12, (S (R <| o 6 (.new 154 [(.string ⟨#[]⟩), (.int .i64 0), (.int .i64 0)]) <| z) <|
  (S (S (R <| m 7 0 <| z) <|
  (.cond (t 7) [] [8]
  (S (R <| o 8 (.build [(.string ⟨#[]⟩), (.int .i64 0), (.int .i64 0)] []) <| n (.store 3 (t 6) (t 8)) <| z) <|
  .ret)
  .skip)) <|
  (S (R <| m 9 1 <| m 10 2 <| o 11 (.build [(.string ⟨#[]⟩), (.int .i64 0), (.int .i64 0)] [(0, 1, (t 9)), (1, 1, (i 0)), (2, 1, (t 10))]) <| n (.store 3 (t 6) (t 11)) <| z) <|
  .ret))), [.cell 6 true 3], [.keep]⟩
theorem ok136 : ∃ fn c, FunOk Tryz.prog 136 fn c A136.erase := ⟨Tryz.f136, _, ⟨Tryz.func136, rfl, by kernel_rfl, by kernel_rfl, by kernel_rfl, of_decide_eq_true (by kernel_rfl), by kernel_rfl⟩⟩
noncomputable def s136 (Γ : PCallee) (n : Nat) (x0 : PV) (x1 : PV) (x2 : PV) (h : PHeap) : Pt := forkP (.ptr h.length 0) (h ++ [.box [.str ⟨#[]⟩, .int .i64 0, .int .i64 0] 154 .rw]) fun v0 h1 => KL (fun w3 h4 => (fillP [.str ⟨#[]⟩, .int .i64 0, .int .i64 0] [(0, 1, x1), (1, 1, (.int .i64 0 : PV)), (2, 1, x2)]).bind fun l5 => (storeP 3 v0 (PV.agg l5) h4).bind fun h6 => (loadP true 3 v0 h6).bind fun v7 => finP [.keep] h h6 [v7]) fun j2 => ifP x0 ( (fillP [.str ⟨#[]⟩, .int .i64 0, .int .i64 0] []).bind fun l8 => (storeP 3 v0 (PV.agg l8) h1).bind fun h9 => (loadP true 3 v0 h9).bind fun v10 => finP [.keep] h h9 [v10]) ( j2 [] h1)
theorem s136_eq (Γ : PCallee) (n : Nat) (x0 : PV) (x1 : PV) (x2 : PV) (h : PHeap) : pfunK Γ n A136 [x0, x1, x2] h = s136 Γ n x0 x1 x2 h := by kernel_rfl
open Go.Vm.G in
def A137 : PFun := ⟨1, 23, (S (R <| o 2 (.move (.const (.bool false))) <| z) <|
  (S (S (R <| m 4 0 <| o 5 (.len true (t 4)) <| b 6 .gtr (t 5) (i 22) <| z) <|
  (.cond (t 6) [] [2]
  (S (R <| o 2 (.move (.const (.bool false))) <| z) <|
  .ret)
  .skip)) <|
  (S (S (R <| o 3 (.move (i 0)) <| z) <|
  (.block 0 [] ([2, 3] ++ g 7 16)
  (.loop [3] ([2] ++ g 7 16)
  (S (S (R <| m 7 3 <| m 8 0 <| o 9 (.len true (t 8)) <| b 10 .lss (t 7) (t 9) <| z) <|
  (.cond (t 10) [] []
  .skip
  (.exit 0))) <|
  (S (.block 1 [] ([2] ++ g 13 10)
  (S (R <| m 13 0 <| m 14 3 <| o 15 (.indexStr (t 13) (t 14)) <| b 16 .lss (t 15) (.const (.int .u8 32)) <| m 17 16 <| q 22 17 false (g 18 4) (m 18 0 <| m 19 3 <| o 20 (.indexStr (t 18) (t 19)) <| b 21 .gtr (t 20) (.const (.int .u8 126)) <| z) (t 21) <|
  z) <|
  (.cond (t 22) [] [2]
  (S (R <| o 2 (.move (.const (.bool false))) <| z) <|
  .ret)
  .skip))) <|
  (R <| m 11 3 <| b 12 .add (t 11) (i 1) <| m 3 12 <| z)))))) <|
  (S (R <| o 2 (.move (.const (.bool true))) <| z) <|
  .ret)))), [.tmp 2], [.keep]⟩
theorem ok137 : ∃ fn c, FunOk Tryz.prog 137 fn c A137.erase := ⟨Tryz.f137, _, ⟨Tryz.func137, rfl, by kernel_rfl, by kernel_rfl, by kernel_rfl, of_decide_eq_true (by kernel_rfl), by kernel_rfl⟩⟩
noncomputable def s137_L0 (Γ : PCallee) (n : Nat) (x0 : PV) (h : PHeap) (h4 : PHeap) (j5 : Kt) : (Kt) → Kt := fun c8 w9 h10 => (lenP true x0).bind fun v11 => (binP .lss (nthP w9 0) v11).bind fun v12 => KL (fun w14 h15 => KL (fun w17 h18 => (binP .add (nthP w9 0) (.int .i64 1 : PV)).bind fun v19 => c8 [v19] (trim h4 [v19] h18)) fun j16 => (indexStrP x0 (nthP w9 0)).bind fun v20 => (binP .lss v20 (.int .u8 32 : PV)).bind fun v21 => K1 (fun v23 h24 => KL (fun w26 h27 => j16 [] h27) fun j25 => ifP v23 ( finP [.keep] h h24 [(.bool false : PV)]) ( j25 [] h24)) fun j22 => scP v21 false ( (indexStrP x0 (nthP w9 0)).bind fun v28 => (binP .gtr v28 (.int .u8 126 : PV)).bind fun v29 => j22 v29 h15) (j22 (.bool true) h15)) fun j13 => ifP v12 ( j13 [] h10) ( j5 [] h10)
noncomputable def s137 (Γ : PCallee) (n : Nat) (x0 : PV) (h : PHeap) : Pt := (lenP true x0).bind fun v0 => (binP .gtr v0 (.int .i64 22 : PV)).bind fun v1 => KL (fun w3 h4 => KL (fun w6 h7 => finP [.keep] h h7 [(.bool true : PV)]) fun j5 => loopP (s137_L0 Γ n x0 h h4 j5) n [(.int .i64 0 : PV)] h4) fun j2 => ifP v1 ( finP [.keep] h h [(.bool false : PV)]) ( j2 [] h)
theorem s137_eq (Γ : PCallee) (n : Nat) (x0 : PV) (h : PHeap) : pfunK Γ n A137 [x0] h = s137 Γ n x0 h := by kernel_rfl
open Go.Vm.G in
def A138 : PFun := ⟨2, 28, (S (R <| o 2 (.box 27 (t 0)) <| o 4 (.new 154 [(.string ⟨#[]⟩), (.int .i64 0), (.int .i64 0)]) <| z) <|
  (S (S (R <| f 7 10 2 <| l 8 7 <| o 9 (.len false (t 8)) <| o 10 (.move (i 0)) <| z) <|
  (.block 0 [] ([5, 6] ++ g 10 17)
  (.loop [10] ([5, 6] ++ g 11 16)
  (S (R <| b 11 .lss (t 10) (t 9) <| z) <|
  (S (.cond (t 11) [] []
  .skip
  (.exit 0)) <|
  (S (.block 1 [] ([5, 6] ++ g 12 14)
  (S (R <| m 12 10 <| m 5 12 <| z) <|
  (S (D <| o 13 (.load true 13 (t 2)) <| f 14 10 2 <| l 15 14 <| m 16 5 <| o 17 (.indexAddr 2 (t 15) (t 16)) <| o 18 (.load true 2 (t 17)) <| m 19 1 <| o 20 (.call 164 [(t 13), (t 18), (t 19)]) <| m 6 20 <| z) <|
  (S (R <| m 21 6 <| b 22 .neq (t 21) (i 0) <| z) <|
  (.cond (t 22) [] [23, 24, 25]
  (S (R <| m 23 5 <| m 24 6 <| o 25 (.build [(.string ⟨#[]⟩), (.int .i64 0), (.int .i64 0)] [(0, 1, (.const (.string ⟨#[112, 97, 116, 116, 101, 114, 110, 115]⟩))), (1, 1, (t 23)), (2, 1, (t 24))]) <| n (.store 3 (t 4) (t 25)) <| z) <|
  .ret)
  .skip))))) <|
  (R <| b 26 .add (t 10) (i 1) <| m 10 26 <| z))))))) <|
  (S (R <| o 27 (.build [(.string ⟨#[]⟩), (.int .i64 0), (.int .i64 0)] []) <| n (.store 3 (t 4) (t 27)) <| z) <|
  .ret))), [.cell 4 true 3], [.keep]⟩
theorem ok138 : ∃ fn c, FunOk Tryz.prog 138 fn c A138.erase := ⟨Tryz.f138, _, ⟨Tryz.func138, rfl, by kernel_rfl, by kernel_rfl, by kernel_rfl, of_decide_eq_true (by kernel_rfl), by kernel_rfl⟩⟩
noncomputable def s138_L0 (Γ : PCallee) (n : Nat) (x1 : PV) (h : PHeap) (v0 : PV) (v2 : PV) (h3 : PHeap) (v6 : PV) (j7 : Kt) : (Kt) → Kt := fun c13 w14 h15 => (binP .lss (nthP w14 0) v6).bind fun v16 => KL (fun w18 h19 => KL (fun w21 h22 => (binP .add (nthP w14 0) (.int .i64 1 : PV)).bind fun v23 => c13 [v23] (trim h3 [v23] h22)) fun j20 => (loadP true 13 v0 h19).bind fun v24 => (fieldAddrP 10 v0).bind fun v25 => (loadP false 1 v25 h19).bind fun v26 => (indexAddrP 2 v26 (nthP w14 0)).bind fun v27 => (loadP true 2 v27 h19).bind fun v28 => (Γ 164 [v24, v28, x1] h19).bind fun p29 => (binP .neq p29.1 (.int .i64 0 : PV)).bind fun v30 => KL (fun w32 h33 => j20 [] h33) fun j31 => ifP v30 ( (fillP [.str ⟨#[]⟩, .int .i64 0, .int .i64 0] [(0, 1, (.str ⟨#[112, 97, 116, 116, 101, 114, 110, 115]⟩ : PV)), (1, 1, (nthP w14 0)), (2, 1, p29.1)]).bind fun l34 => (storeP 3 v2 (PV.agg l34) p29.2).bind fun h35 => (loadP true 3 v2 h35).bind fun v36 => finP [.keep] h h35 [v36]) ( j31 [] p29.2)) fun j17 => ifP v16 ( j17 [] h15) ( j7 [] h15)
noncomputable def s138 (Γ : PCallee) (n : Nat) (x0 : PV) (x1 : PV) (h : PHeap) : Pt := forkP (.ptr h.length 0) (h ++ [.box (cellsP x0) 27 .rw]) fun v0 h1 => forkP (.ptr h1.length 0) (h1 ++ [.box [.str ⟨#[]⟩, .int .i64 0, .int .i64 0] 154 .rw]) fun v2 h3 => (fieldAddrP 10 v0).bind fun v4 => (loadP false 1 v4 h3).bind fun v5 => (lenP false v5).bind fun v6 => KL (fun w8 h9 => (fillP [.str ⟨#[]⟩, .int .i64 0, .int .i64 0] []).bind fun l10 => (storeP 3 v2 (PV.agg l10) h9).bind fun h11 => (loadP true 3 v2 h11).bind fun v12 => finP [.keep] h h11 [v12]) fun j7 => loopP (s138_L0 Γ n x1 h v0 v2 h3 v6 j7) n [(.int .i64 0 : PV)] h3
theorem s138_eq (Γ : PCallee) (n : Nat) (x0 : PV) (x1 : PV) (h : PHeap) : pfunK Γ n A138 [x0, x1] h = s138 Γ n x0 x1 h := by kernel_rfl
open Go.Vm.G in
def A139 : PFun := ⟨1, 29, (S (R <| o 1 (.box 27 (t 0)) <| o 2 (.new 154 [(.string ⟨#[]⟩), (.int .i64 0), (.int .i64 0)]) <| z) <|
  (S (S (R <| f 5 3 1 <| l 6 5 <| o 7 (.len false (t 6)) <| o 8 (.move (i 0)) <| z) <|
  (.block 0 [] ([3, 4] ++ g 8 20)
  (.loop [8] ([3, 4] ++ g 9 19)
  (S (R <| b 9 .lss (t 8) (t 7) <| z) <|
  (S (.cond (t 9) [] []
  .skip
  (.exit 0)) <|
  (S (.block 1 [] ([3, 4] ++ g 10 17)
  (S (R <| m 10 8 <| o 11 (.indexAddr 1 (t 6) (t 8)) <| l 12 11 <| m 3 10 <| m 4 12 <| z) <|
  (S (R <| m 13 4 <| o 14 (.call 49 [(t 13)]) <| o 15 (.un .not (t 14)) <| m 16 15 <| q 24 16 true (g 17 7) (m 17 4 <| f 18 10 1 <| l 19 18 <| o 20 (.len false (t 19)) <| b 21 .sub (t 20) (i 1) <| o 22 (.call 57 [(t 17), (i 0), (t 21)]) <| o 23 (.un .not (t 22)) <| z) (t 23) <|
  z) <|
  (.cond (t 24) [] [25, 26]
  (S (R <| m 25 3 <| o 26 (.build [(.string ⟨#[]⟩), (.int .i64 0), (.int .i64 0)] [(0, 1, (.const (.string ⟨#[111, 114, 100, 101, 114, 115]⟩))), (1, 1, (t 25)), (2, 1, (i 10))]) <| n (.store 3 (t 2) (t 26)) <| z) <|
  .ret)
  .skip)))) <|
  (R <| b 27 .add (t 8) (i 1) <| m 8 27 <| z))))))) <|
  (S (R <| o 28 (.build [(.string ⟨#[]⟩), (.int .i64 0), (.int .i64 0)] []) <| n (.store 3 (t 2) (t 28)) <| z) <|
  .ret))), [.cell 2 true 3], [.keep]⟩
theorem ok139 : ∃ fn c, FunOk Tryz.prog 139 fn c A139.erase := ⟨Tryz.f139, _, ⟨Tryz.func139, rfl, by kernel_rfl, by kernel_rfl, by kernel_rfl, of_decide_eq_true (by kernel_rfl), by kernel_rfl⟩⟩
noncomputable def s139_L0 (Γ : PCallee) (n : Nat) (h : PHeap) (v0 : PV) (v2 : PV) (h3 : PHeap) (v5 : PV) (v6 : PV) (j7 : Kt) : (Kt) → Kt := fun c13 w14 h15 => (binP .lss (nthP w14 0) v6).bind fun v16 => KL (fun w18 h19 => KL (fun w21 h22 => (binP .add (nthP w14 0) (.int .i64 1 : PV)).bind fun v23 => c13 [v23] (trim h3 [v23] h22)) fun j20 => (indexAddrP 1 v5 (nthP w14 0)).bind fun v24 => (loadP false 1 v24 h19).bind fun v25 => (Γ 49 [v25] h19).bind fun p26 => (unP .not p26.1).bind fun v27 => K1 (fun v29 h30 => KL (fun w32 h33 => j20 [] h33) fun j31 => ifP v29 ( (fillP [.str ⟨#[]⟩, .int .i64 0, .int .i64 0] [(0, 1, (.str ⟨#[111, 114, 100, 101, 114, 115]⟩ : PV)), (1, 1, (nthP w14 0)), (2, 1, (.int .i64 10 : PV))]).bind fun l34 => (storeP 3 v2 (PV.agg l34) h30).bind fun h35 => (loadP true 3 v2 h35).bind fun v36 => finP [.keep] h h35 [v36]) ( j31 [] h30)) fun j28 => scP v27 true ( (fieldAddrP 10 v0).bind fun v37 => (loadP false 1 v37 p26.2).bind fun v38 => (lenP false v38).bind fun v39 => (binP .sub v39 (.int .i64 1 : PV)).bind fun v40 => (Γ 57 [v25, (.int .i64 0 : PV), v40] p26.2).bind fun p41 => (unP .not p41.1).bind fun v42 => j28 v42 p41.2) (j28 (.bool false) p26.2)) fun j17 => ifP v16 ( j17 [] h15) ( j7 [] h15)
noncomputable def s139 (Γ : PCallee) (n : Nat) (x0 : PV) (h : PHeap) : Pt := forkP (.ptr h.length 0) (h ++ [.box (cellsP x0) 27 .rw]) fun v0 h1 => forkP (.ptr h1.length 0) (h1 ++ [.box [.str ⟨#[]⟩, .int .i64 0, .int .i64 0] 154 .rw]) fun v2 h3 => (fieldAddrP 3 v0).bind fun v4 => (loadP false 1 v4 h3).bind fun v5 => (lenP false v5).bind fun v6 => KL (fun w8 h9 => (fillP [.str ⟨#[]⟩, .int .i64 0, .int .i64 0] []).bind fun l10 => (storeP 3 v2 (PV.agg l10) h9).bind fun h11 => (loadP true 3 v2 h11).bind fun v12 => finP [.keep] h h11 [v12]) fun j7 => loopP (s139_L0 Γ n h v0 v2 h3 v5 v6 j7) n [(.int .i64 0 : PV)] h3
theorem s139_eq (Γ : PCallee) (n : Nat) (x0 : PV) (h : PHeap) : pfunK Γ n A139 [x0] h = s139 Γ n x0 h := by kernel_rfl
open Go.Vm.G in
def A140 : PFun := ⟨1, 20, (S (R <| o 1 (.box 27 (t 0)) <| o 2 (.new 154 [(.string ⟨#[]⟩), (.int .i64 0), (.int .i64 0)]) <| z) <|
  (S (S (R <| f 5 9 1 <| l 6 5 <| o 7 (.len false (t 6)) <| o 8 (.move (i 0)) <| z) <|
  (.block 0 [] ([3, 4] ++ g 8 11)
  (.loop [8] ([3, 4] ++ g 9 10)
  (S (R <| b 9 .lss (t 8) (t 7) <| z) <|
  (S (.cond (t 9) [] []
  .skip
  (.exit 0)) <|
  (S (.block 1 [] ([3, 4] ++ g 10 8)
  (S (R <| m 10 8 <| o 11 (.indexAddr 1 (t 6) (t 8)) <| l 12 11 <| m 3 10 <| m 4 12 <| z) <|
  (S (R <| m 13 4 <| o 14 (.call 57 [(t 13), (i 0), (i 256)]) <| o 15 (.un .not (t 14)) <| z) <|
  (.cond (t 15) [] [16, 17]
  (S (R <| m 16 3 <| o 17 (.build [(.string ⟨#[]⟩), (.int .i64 0), (.int .i64 0)] [(0, 1, (.const (.string ⟨#[112, 97, 110, 115]⟩))), (1, 1, (t 16)), (2, 1, (i 5))]) <| n (.store 3 (t 2) (t 17)) <| z) <|
  .ret)
  .skip)))) <|
  (R <| b 18 .add (t 8) (i 1) <| m 8 18 <| z))))))) <|
  (S (R <| o 19 (.build [(.string ⟨#[]⟩), (.int .i64 0), (.int .i64 0)] []) <| n (.store 3 (t 2) (t 19)) <| z) <|
  .ret))), [.cell 2 true 3], [.keep]⟩
theorem ok140 : ∃ fn c, FunOk Tryz.prog 140 fn c A140.erase := ⟨Tryz.f140, _, ⟨Tryz.func140, rfl, by kernel_rfl, by kernel_rfl, by kernel_rfl, of_decide_eq_true (by kernel_rfl), by kernel_rfl⟩⟩
noncomputable def s140_L0 (Γ : PCallee) (n : Nat) (h : PHeap) (v2 : PV) (h3 : PHeap) (v5 : PV) (v6 : PV) (j7 : Kt) : (Kt) → Kt := fun c13 w14 h15 => (binP .lss (nthP w14 0) v6).bind fun v16 => KL (fun w18 h19 => KL (fun w21 h22 => (binP .add (nthP w14 0) (.int .i64 1 : PV)).bind fun v23 => c13 [v23] (trim h3 [v23] h22)) fun j20 => (indexAddrP 1 v5 (nthP w14 0)).bind fun v24 => (loadP false 1 v24 h19).bind fun v25 => (Γ 57 [v25, (.int .i64 0 : PV), (.int .i64 256 : PV)] h19).bind fun p26 => (unP .not p26.1).bind fun v27 => KL (fun w29 h30 => j20 [] h30) fun j28 => ifP v27 ( (fillP [.str ⟨#[]⟩, .int .i64 0, .int .i64 0] [(0, 1, (.str ⟨#[112, 97, 110, 115]⟩ : PV)), (1, 1, (nthP w14 0)), (2, 1, (.int .i64 5 : PV))]).bind fun l31 => (storeP 3 v2 (PV.agg l31) p26.2).bind fun h32 => (loadP true 3 v2 h32).bind fun v33 => finP [.keep] h h32 [v33]) ( j28 [] p26.2)) fun j17 => ifP v16 ( j17 [] h15) ( j7 [] h15)
noncomputable def s140 (Γ : PCallee) (n : Nat) (x0 : PV) (h : PHeap) : Pt := forkP (.ptr h.length 0) (h ++ [.box (cellsP x0) 27 .rw]) fun v0 h1 => forkP (.ptr h1.length 0) (h1 ++ [.box [.str ⟨#[]⟩, .int .i64 0, .int .i64 0] 154 .rw]) fun v2 h3 => (fieldAddrP 9 v0).bind fun v4 => (loadP false 1 v4 h3).bind fun v5 => (lenP false v5).bind fun v6 => KL (fun w8 h9 => (fillP [.str ⟨#[]⟩, .int .i64 0, .int .i64 0] []).bind fun l10 => (storeP 3 v2 (PV.agg l10) h9).bind fun h11 => (loadP true 3 v2 h11).bind fun v12 => finP [.keep] h h11 [v12]) fun j7 => loopP (s140_L0 Γ n h v2 h3 v5 v6 j7) n [(.int .i64 0 : PV)] h3
theorem s140_eq (Γ : PCallee) (n : Nat) (x0 : PV) (h : PHeap) : pfunK Γ n A140 [x0] h = s140 Γ n x0 h := by kernel_rfl
open Go.Vm.G in
def A141 : PFun := ⟨1, 21, (S (R <| o 1 (.box 27 (t 0)) <| o 2 (.new 154 [(.string ⟨#[]⟩), (.int .i64 0), (.int .i64 0)]) <| z) <|
  (S (S (R <| f 4 11 1 <| l 5 4 <| o 6 (.len false (t 5)) <| o 7 (.move (i 0)) <| z) <|
  (.block 0 [] ([3] ++ g 7 13)
  (.loop [7] ([3] ++ g 8 12)
  (S (R <| b 8 .lss (t 7) (t 6) <| z) <|
  (S (.cond (t 8) [] []
  .skip
  (.exit 0)) <|
  (S (.block 1 [] ([3] ++ g 9 10)
  (S (R <| m 9 7 <| m 3 9 <| z) <|
  (S (R <| f 10 11 1 <| l 11 10 <| m 12 3 <| o 13 (.indexAddr 13 (t 11) (t 12)) <| o 14 (.load true 13 (t 13)) <| o 15 (.call 165 [(t 14)]) <| o 16 (.un .not (t 15)) <| z) <|
  (.cond (t 16) [] [17, 18]
  (S (R <| m 17 3 <| o 18 (.build [(.string ⟨#[]⟩), (.int .i64 0), (.int .i64 0)] [(0, 1, (.const (.string ⟨#[115, 97, 109, 112, 108, 101, 115]⟩))), (1, 1, (t 17)), (2, 1, (i 1))]) <| n (.store 3 (t 2) (t 18)) <| z) <|
  .ret)
  .skip)))) <|
  (R <| b 19 .add (t 7) (i 1) <| m 7 19 <| z))))))) <|
  (S (R <| o 20 (.build [(.string ⟨#[]⟩), (.int .i64 0), (.int .i64 0)] []) <| n (.store 3 (t 2) (t 20)) <| z) <|
  .ret))), [.cell 2 true 3], [.keep]⟩
theorem ok141 : ∃ fn c, FunOk Tryz.prog 141 fn c A141.erase := ⟨Tryz.f141, _, ⟨Tryz.func141, rfl, by kernel_rfl, by kernel_rfl, by kernel_rfl, of_decide_eq_true (by kernel_rfl), by kernel_rfl⟩⟩
noncomputable def s141_L0 (Γ : PCallee) (n : Nat) (h : PHeap) (v0 : PV) (v2 : PV) (h3 : PHeap) (v6 : PV) (j7 : Kt) : (Kt) → Kt := fun c13 w14 h15 => (binP .lss (nthP w14 0) v6).bind fun v16 => KL (fun w18 h19 => KL (fun w21 h22 => (binP .add (nthP w14 0) (.int .i64 1 : PV)).bind fun v23 => c13 [v23] (trim h3 [v23] h22)) fun j20 => (fieldAddrP 11 v0).bind fun v24 => (loadP false 1 v24 h19).bind fun v25 => (indexAddrP 13 v25 (nthP w14 0)).bind fun v26 => (loadP true 13 v26 h19).bind fun v27 => (Γ 165 [v27] h19).bind fun p28 => (unP .not p28.1).bind fun v29 => KL (fun w31 h32 => j20 [] h32) fun j30 => ifP v29 ( (fillP [.str ⟨#[]⟩, .int .i64 0, .int .i64 0] [(0, 1, (.str ⟨#[115, 97, 109, 112, 108, 101, 115]⟩ : PV)), (1, 1, (nthP w14 0)), (2, 1, (.int .i64 1 : PV))]).bind fun l33 => (storeP 3 v2 (PV.agg l33) p28.2).bind fun h34 => (loadP true 3 v2 h34).bind fun v35 => finP [.keep] h h34 [v35]) ( j30 [] p28.2)) fun j17 => ifP v16 ( j17 [] h15) ( j7 [] h15)
noncomputable def s141 (Γ : PCallee) (n : Nat) (x0 : PV) (h : PHeap) : Pt := forkP (.ptr h.length 0) (h ++ [.box (cellsP x0) 27 .rw]) fun v0 h1 => forkP (.ptr h1.length 0) (h1 ++ [.box [.str ⟨#[]⟩, .int .i64 0, .int .i64 0] 154 .rw]) fun v2 h3 => (fieldAddrP 11 v0).bind fun v4 => (loadP false 1 v4 h3).bind fun v5 => (lenP false v5).bind fun v6 => KL (fun w8 h9 => (fillP [.str ⟨#[]⟩, .int .i64 0, .int .i64 0] []).bind fun l10 => (storeP 3 v2 (PV.agg l10) h9).bind fun h11 => (loadP true 3 v2 h11).bind fun v12 => finP [.keep] h h11 [v12]) fun j7 => loopP (s141_L0 Γ n h v0 v2 h3 v6 j7) n [(.int .i64 0 : PV)] h3
theorem s141_eq (Γ : PCallee) (n : Nat) (x0 : PV) (h : PHeap) : pfunK Γ n A141 [x0] h = s141 Γ n x0 h := by kernel_rfl
open Go.Vm.G in
def A142 : PFun := ⟨1, 25, (S (R <| o 1 (.box 27 (t 0)) <| o 2 (.new 154 [(.string ⟨#[]⟩), (.int .i64 0), (.int .i64 0)]) <| z) <|
  (S (S (R <| f 5 12 1 <| l 6 5 <| o 7 (.len false (t 6)) <| o 8 (.move (i 0)) <| z) <|
  (.block 0 [] ([3, 4] ++ g 8 16)
  (.loop [8] ([3, 4] ++ g 9 15)
  (S (R <| b 9 .lss (t 8) (t 7) <| z) <|
  (S (.cond (t 9) [] []
  .skip
  (.exit 0)) <|
  (S (.block 1 [] ([3, 4] ++ g 10 13)
  (S (R <| m 10 8 <| m 3 10 <| z) <|
  (S (D <| o 11 (.load true 13 (t 1)) <| f 12 12 1 <| l 13 12 <| m 14 3 <| o 15 (.indexAddr 33 (t 13) (t 14)) <| o 16 (.load true 33 (t 15)) <| o 17 (.call 166 [(t 11), (t 16)]) <| m 4 17 <| z) <|
  (S (R <| m 18 4 <| b 19 .neq (t 18) (i 0) <| z) <|
  (.cond (t 19) [] [20, 21, 22]
  (S (R <| m 20 3 <| m 21 4 <| o 22 (.build [(.string ⟨#[]⟩), (.int .i64 0), (.int .i64 0)] [(0, 1, (.const (.string ⟨#[105, 110, 115, 116, 115]⟩))), (1, 1, (t 20)), (2, 1, (t 21))]) <| n (.store 3 (t 2) (t 22)) <| z) <|
  .ret)
  .skip))))) <|
  (R <| b 23 .add (t 8) (i 1) <| m 8 23 <| z))))))) <|
  (S (R <| o 24 (.build [(.string ⟨#[]⟩), (.int .i64 0), (.int .i64 0)] []) <| n (.store 3 (t 2) (t 24)) <| z) <|
  .ret))), [.cell 2 true 3], [.keep]⟩
theorem ok142 : ∃ fn c, FunOk Tryz.prog 142 fn c A142.erase := ⟨Tryz.f142, _, ⟨Tryz.func142, rfl, by kernel_rfl, by kernel_rfl, by kernel_rfl, of_decide_eq_true (by kernel_rfl), by kernel_rfl⟩⟩
noncomputable def s142_L0 (Γ : PCallee) (n : Nat) (h : PHeap) (v0 : PV) (v2 : PV) (h3 : PHeap) (v6 : PV) (j7 : Kt) : (Kt) → Kt := fun c13 w14 h15 => (binP .lss (nthP w14 0) v6).bind fun v16 => KL (fun w18 h19 => KL (fun w21 h22 => (binP .add (nthP w14 0) (.int .i64 1 : PV)).bind fun v23 => c13 [v23] (trim h3 [v23] h22)) fun j20 => (loadP true 13 v0 h19).bind fun v24 => (fieldAddrP 12 v0).bind fun v25 => (loadP false 1 v25 h19).bind fun v26 => (indexAddrP 33 v26 (nthP w14 0)).bind fun v27 => (loadP true 33 v27 h19).bind fun v28 => (Γ 166 [v24, v28] h19).bind fun p29 => (binP .neq p29.1 (.int .i64 0 : PV)).bind fun v30 => KL (fun w32 h33 => j20 [] h33) fun j31 => ifP v30 ( (fillP [.str ⟨#[]⟩, .int .i64 0, .int .i64 0] [(0, 1, (.str ⟨#[105, 110, 115, 116, 115]⟩ : PV)), (1, 1, (nthP w14 0)), (2, 1, p29.1)]).bind fun l34 => (storeP 3 v2 (PV.agg l34) p29.2).bind fun h35 => (loadP true 3 v2 h35).bind fun v36 => finP [.keep] h h35 [v36]) ( j31 [] p29.2)) fun j17 => ifP v16 ( j17 [] h15) ( j7 [] h15)
noncomputable def s142 (Γ : PCallee) (n : Nat) (x0 : PV) (h : PHeap) : Pt := forkP (.ptr h.length 0) (h ++ [.box (cellsP x0) 27 .rw]) fun v0 h1 => forkP (.ptr h1.length 0) (h1 ++ [.box [.str ⟨#[]⟩, .int .i64 0, .int .i64 0] 154 .rw]) fun v2 h3 => (fieldAddrP 12 v0).bind fun v4 => (loadP false 1 v4 h3).bind fun v5 => (lenP false v5).bind fun v6 => KL (fun w8 h9 => (fillP [.str ⟨#[]⟩, .int .i64 0, .int .i64 0] []).bind fun l10 => (storeP 3 v2 (PV.agg l10) h9).bind fun h11 => (loadP true 3 v2 h11).bind fun v12 => finP [.keep] h h11 [v12]) fun j7 => loopP (s142_L0 Γ n h v0 v2 h3 v6 j7) n [(.int .i64 0 : PV)] h3
theorem s142_eq (Γ : PCallee) (n : Nat) (x0 : PV) (h : PHeap) : pfunK Γ n A142 [x0] h = s142 Γ n x0 h := by kernel_rfl
open Go.Vm.G in
def A143 : PFun := ⟨1, 5, (S (R <| o 2 (.move (.const (.slice none 0 0))) <| z) <|
  (S (R <| m 3 0 <| o 4 (.call 167 [(.const (.slice none 0 0)), (t 3)]) <| m 2 4 <| z) <|
  .ret)), [.tmp 2], [.raw]⟩
theorem ok143 : ∃ fn c, FunOk Tryz.prog 143 fn c A143.erase := ⟨Tryz.f143, _, ⟨Tryz.func143, rfl, by kernel_rfl, by kernel_rfl, by kernel_rfl, of_decide_eq_true (by kernel_rfl), by kernel_rfl⟩⟩
noncomputable def s143 (Γ : PCallee) (n : Nat) (x0 : PV) (h : PHeap) : Pt := (Γ 167 [(.nilS : PV), x0] h).bind fun p0 => finP [.raw] h p0.2 [p0.1]
theorem s143_eq (Γ : PCallee) (n : Nat) (x0 : PV) (h : PHeap) : pfunK Γ n A143 [x0] h = s143 Γ n x0 h := by kernel_rfl
open Go.Vm.G in
def A145 : PFun := ⟨3, 91, (S (R <| o 3 (.box 55 (t 0)) <| o 6 (.move (.const (.bool false))) <| z) <|
  (S (R <| f 10 1 3 <| l 11 10 <| o 12 (.len false (t 11)) <| m 7 12 <| z) <|
  (S (S (R <| m 13 7 <| b 14 .gtr (t 13) (i 16) <| m 15 14 <| q 22 15 false [16, 17, 18, 21, 19, 20] (f 16 0 3 <| l 17 16 <| m 18 17 <| q 21 18 true [19, 20] (m 19 7 <| b 20 .eql (t 19) (i 0) <| z) (t 20) <|
  z) (t 21) <|
  z) <|
  (.cond (t 22) [] [6]
  (S (R <| o 6 (.move (.const (.bool false))) <| z) <|
  .ret)
  .skip)) <|
  (S (S (R <| o 8 (.move (i 0)) <| z) <|
  (.block 0 [] ([6, 8, 9] ++ g 23 50)
  (.loop [8] ([6, 9] ++ g 23 50)
  (S (S (R <| m 23 8 <| m 24 7 <| b 25 .lss (t 23) (t 24) <| z) <|
  (.cond (t 25) [] []
  .skip
  (.exit 0))) <|
  (S (.block 1 [] ([6, 9] ++ g 28 45)
  (S (R <| f 28 1 3 <| l 29 28 <| m 30 8 <| o 31 (.indexAddr 2 (t 29) (t 30)) <| o 32 (.load true 2 (t 31)) <| o 9 (.new 120 [(.int .i64 0), (.int .i64 0)]) <| n (.store 2 (t 9) (t 32)) <| z) <|
  (S (D <| m 33 8 <| b 34 .eql (t 33) (i 0) <| m 35 34 <| q 39 35 true [36, 37, 38] (f 36 0 9 <| l 37 36 <| b 38 .neq (t 37) (i 0) <| z) (t 38) <|
  m 40 39 <| q 55 40 false ([41, 42, 43, 54] ++ g 44 10) (m 41 8 <| b 42 .gtr (t 41) (i 0) <| m 43 42 <| q 54 43 true (g 44 10) (f 44 0 9 <| l 45 44 <| f 46 1 3 <| l 47 46 <| m 48 8 <| b 49 .sub (t 48) (i 1) <| o 50 (.indexAddr 2 (t 47) (t 49)) <| f 51 0 50 <| l 52 51 <| b 53 .leq (t 45) (t 52) <| z) (t 53) <|
  z) (t 54) <|
  m 56 55 <| q 60 56 false [57, 58, 59] (f 57 0 9 <| l 58 57 <| b 59 .gtr (t 58) (i 9999) <| z) (t 59) <|
  m 61 60 <| q 66 61 false (g 62 4) (f 62 1 9 <| l 63 62 <| m 64 1 <| b 65 .lss (t 63) (t 64) <| z) (t 65) <|
  m 67 66 <| q 72 67 false (g 68 4) (f 68 1 9 <| l 69 68 <| m 70 2 <| b 71 .gtr (t 69) (t 70) <| z) (t 71) <|
  z) <|
  (.cond (t 72) [] [6]
  (S (R <| o 6 (.move (.const (.bool false))) <| z) <|
  .ret)
  .skip)))) <|
  (R <| m 26 8 <| b 27 .add (t 26) (i 1) <| m 8 27 <| z)))))) <|
  (S (R <| f 73 2 3 <| l 74 73 <| f 75 3 3 <| l 76 75 <| f 77 4 3 <| l 78 77 <| m 79 7 <| o 80 (.call 170 [(t 74), (t 76), (t 78), (t 79)]) <| m 81 80 <| q 90 81 true (g 82 8) (f 82 5 3 <| l 83 82 <| f 84 6 3 <| l 85 84 <| f 86 7 3 <| l 87 86 <| m 88 7 <| o 89 (.call 170 [(t 83), (t 85), (t 87), (t 88)]) <| z) (t 89) <|
  m 6 90 <| z) <|
  .ret))))), [.tmp 6], [.keep]⟩
theorem ok145 : ∃ fn c, FunOk Tryz.prog 145 fn c A145.erase := ⟨Tryz.f145, _, ⟨Tryz.func145, rfl, by kernel_rfl, by kernel_rfl, by kernel_rfl, of_decide_eq_true (by kernel_rfl), by kernel_rfl⟩⟩
noncomputable def s145_L0 (Γ : PCallee) (n : Nat) (x1 : PV) (x2 : PV) (h : PHeap) (v0 : PV) (v4 : PV) (h11 : PHeap) (j12 : Kt) : (Kt) → Kt := fun c32 w33 h34 => (binP .lss (nthP w33 0) v4).bind fun v35 => KL (fun w37 h38 => KL (fun w40 h41 => (binP .add (nthP w33 0) (.int .i64 1 : PV)).bind fun v42 => c32 [v42] (trim h11 [v42] h41)) fun j39 => (fieldAddrP 1 v0).bind fun v43 => (loadP false 1 v43 h38).bind fun v44 => (indexAddrP 2 v44 (nthP w33 0)).bind fun v45 => (loadP true 2 v45 h38).bind fun v46 => forkP (.ptr h38.length 0) (h38 ++ [.box [.int .i64 0, .int .i64 0] 120 .rw]) fun v47 h48 => (storeP 2 v47 v46 h48).bind fun h49 => (binP .eql (nthP w33 0) (.int .i64 0 : PV)).bind fun v50 => K1 (fun v52 h53 => K1 (fun v55 h56 => K1 (fun v58 h59 => K1 (fun v61 h62 => K1 (fun v64 h65 => KL (fun w67 h68 => j39 [] h68) fun j66 => ifP v64 ( finP [.keep] h h65 [(.bool false : PV)]) ( j66 [] h65)) fun j63 => scP v61 false ( (fieldAddrP 1 v47).bind fun v69 => (loadP false 1 v69 h62).bind fun v70 => (binP .gtr v70 x2).bind fun v71 => j63 v71 h62) (j63 (.bool true) h62)) fun j60 => scP v58 false ( (fieldAddrP 1 v47).bind fun v72 => (loadP false 1 v72 h59).bind fun v73 => (binP .lss v73 x1).bind fun v74 => j60 v74 h59) (j60 (.bool true) h59)) fun j57 => scP v55 false ( (fieldAddrP 0 v47).bind fun v75 => (loadP false 1 v75 h56).bind fun v76 => (binP .gtr v76 (.int .i64 9999 : PV)).bind fun v77 => j57 v77 h56) (j57 (.bool true) h56)) fun j54 => scP v52 false ( (binP .gtr (nthP w33 0) (.int .i64 0 : PV)).bind fun v78 => K1 (fun v80 h81 => j54 v80 h81) fun j79 => scP v78 true ( (fieldAddrP 0 v47).bind fun v82 => (loadP false 1 v82 h53).bind fun v83 => (fieldAddrP 1 v0).bind fun v84 => (loadP false 1 v84 h53).bind fun v85 => (binP .sub (nthP w33 0) (.int .i64 1 : PV)).bind fun v86 => (indexAddrP 2 v85 v86).bind fun v87 => (fieldAddrP 0 v87).bind fun v88 => (loadP false 1 v88 h53).bind fun v89 => (binP .leq v83 v89).bind fun v90 => j79 v90 h53) (j79 (.bool false) h53)) (j54 (.bool true) h53)) fun j51 => scP v50 true ( (fieldAddrP 0 v47).bind fun v91 => (loadP false 1 v91 h49).bind fun v92 => (binP .neq v92 (.int .i64 0 : PV)).bind fun v93 => j51 v93 h49) (j51 (.bool false) h49)) fun j36 => ifP v35 ( j36 [] h34) ( j12 [] h34)
noncomputable def s145 (Γ : PCallee) (n : Nat) (x0 : PV) (x1 : PV) (x2 : PV) (h : PHeap) : Pt := forkP (.ptr h.length 0) (h ++ [.box (cellsP x0) 55 .rw]) fun v0 h1 => (fieldAddrP 1 v0).bind fun v2 => (loadP false 1 v2 h1).bind fun v3 => (lenP false v3).bind fun v4 => (binP .gtr v4 (.int .i64 16 : PV)).bind fun v5 => K1 (fun v7 h8 => KL (fun w10 h11 => KL (fun w13 h14 => (fieldAddrP 2 v0).bind fun v15 => (loadP false 1 v15 h14).bind fun v16 => (fieldAddrP 3 v0).bind fun v17 => (loadP false 1 v17 h14).bind fun v18 => (fieldAddrP 4 v0).bind fun v19 => (loadP false 1 v19 h14).bind fun v20 => (Γ 170 [v16, v18, v20, v4] h14).bind fun p21 => K1 (fun v23 h24 => finP [.keep] h h24 [v23]) fun j22 => scP p21.1 true ( (fieldAddrP 5 v0).bind fun v25 => (loadP false 1 v25 p21.2).bind fun v26 => (fieldAddrP 6 v0).bind fun v27 => (loadP false 1 v27 p21.2).bind fun v28 => (fieldAddrP 7 v0).bind fun v29 => (loadP false 1 v29 p21.2).bind fun v30 => (Γ 170 [v26, v28, v30, v4] p21.2).bind fun p31 => j22 p31.1 p31.2) (j22 (.bool false) p21.2)) fun j12 => loopP (s145_L0 Γ n x1 x2 h v0 v4 h11 j12) n [(.int .i64 0 : PV)] h11) fun j9 => ifP v7 ( finP [.keep] h h8 [(.bool false : PV)]) ( j9 [] h8)) fun j6 => scP v5 false ( (fieldAddrP 0 v0).bind fun v94 => (loadP false 1 v94 h1).bind fun v95 => K1 (fun v97 h98 => j6 v97 h98) fun j96 => scP v95 true ( (binP .eql v4 (.int .i64 0 : PV)).bind fun v99 => j96 v99 h1) (j96 (.bool false) h1)) (j6 (.bool true) h1)
theorem s145_eq (Γ : PCallee) (n : Nat) (x0 : PV) (x1 : PV) (x2 : PV) (h : PHeap) : pfunK Γ n A145 [x0, x1, x2] h = s145 Γ n x0 x1 x2 h := by kernel_rfl
end Go.Vm.X

