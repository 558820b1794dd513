/- One part of the proof. -/
import Derived.Test.YtffennknofmjoaaGreatP4
import Derived.Test.YtffennknofmjoaaGreatChecked
import Derived.TacticsInMore
import Derived.Lib.Walk
import Derived.WalkKit
import Derived.BigCall
import Derived.OwnWalkIn
set_option linter.unusedSimpArgs false
set_option linter.unusedVariables false
set_option linter.unusedVariables false
set_option maxRecDepth 100000
namespace Go.Vm.X
open Go.Proofs Go.Am Go.Vm
abbrev Kt := List PV → PHeap → Pt
def Z29 : List PV := [.str ⟨#[]⟩, .int .i64 0, .int .i64 0, .int .i64 0, .int .i64 0, .int .i64 0, .bool false, .bool false, .bool false, .int .i64 0, .int .i64 0, .int .i64 0, .bool false, .bool false, .bool false, .bool false, .int .i64 0, .bool false, .int .i64 0, .bool false, .bool false, .int .i64 0, .bool false, .bool false, .bool false, .bool false, .bool false, .bool false, .bool false]
def Z42 : List PV := [.str ⟨#[]⟩, .int .i64 0, .int .i64 0, .nilS, .int .i64 0, .int .i64 0, .int .i64 0, .int .i64 0, .bool false, .nilS, .nilS, .nilS, .nilS, .str ⟨#[]⟩, .int .i64 0, .int .i64 0, .int .i64 0, .int .i64 0, .int .i64 0, .bool false, .bool false, .bool false, .int .i64 0, .int .i64 0, .int .i64 0, .bool false, .bool false, .bool false, .bool false, .int .i64 0, .bool false, .int .i64 0, .bool false, .bool false, .int .i64 0, .bool false, .bool false, .bool false, .bool false, .bool false, .bool false, .bool false]
def Z33 : List PV := [.str ⟨#[]⟩, .nilS, .bool false, .nilS, .bool false, .int .i64 0, .int .i64 0, .bool false, .int .i64 0, .int .i64 0, .bool false, .nilS, .bool false, .int .i64 0, .int .i64 0, .bool false, .int .i64 0, .int .i64 0, .bool false, .nilS, .bool false, .int .i64 0, .int .i64 0, .bool false, .int .i64 0, .int .i64 0, .int .i64 0, .int .i64 0, .int .i64 0, .int .i64 0, .int .i64 0, .int .i64 0, .int .i64 0]
def Z203 : List PV := [.str ⟨#[]⟩, .int .i64 0, .int .i64 0, .int .i64 0, .int .i64 0, .int .i64 0, .bool false, .bool false, .bool false, .int .i64 0, .int .i64 0, .int .i64 0, .bool false, .bool false, .bool false, .bool false, .int .i64 0, .bool false, .int .i64 0, .bool false, .bool false, .int .i64 0, .bool false, .bool false, .bool false, .bool false, .bool false, .bool false, .bool false, .str ⟨#[]⟩, .int .i64 0, .int .i64 0, .int .i64 0, .int .i64 0, .int .i64 0, .bool false, .bool false, .bool false, .int .i64 0, .int .i64 0, .int .i64 0, .bool false, .bool false, .bool false, .bool false, .int .i64 0, .bool false, .int .i64 0, .bool false, .bool false, .int .i64 0, .bool false, .bool false, .bool false, .bool false, .bool false, .bool false, .bool false, .str ⟨#[]⟩, .int .i64 0, .int .i64 0, .int .i64 0, .int .i64 0, .int .i64 0, .bool false, .bool false, .bool false, .int .i64 0, .int .i64 0, .int .i64 0, .bool false, .bool false, .bool false, .bool false, .int .i64 0, .bool false, .int .i64 0, .bool false, .bool false, .int .i64 0, .bool false, .bool false, .bool false, .bool false, .bool false, .bool false, .bool false, .str ⟨#[]⟩, .int .i64 0, .int .i64 0, .int .i64 0, .int .i64 0, .int .i64 0, .bool false, .bool false, .bool false, .int .i64 0, .int .i64 0, .int .i64 0, .bool false, .bool false, .bool false, .bool false, .int .i64 0, .bool false, .int .i64 0, .bool false, .bool false, .int .i64 0, .bool false, .bool false, .bool false, .bool false, .bool false, .bool false, .bool false, .str ⟨#[]⟩, .int .i64 0, .int .i64 0, .int .i64 0, .int .i64 0, .int .i64 0, .bool false, .bool false, .bool false, .int .i64 0, .int .i64 0, .int .i64 0, .bool false, .bool false, .bool false, .bool false, .int .i64 0, .bool false, .int .i64 0, .bool false, .bool false, .int .i64 0, .bool false, .bool false, .bool false, .bool false, .bool false, .bool false, .bool false, .str ⟨#[]⟩, .int .i64 0, .int .i64 0, .int .i64 0, .int .i64 0, .int .i64 0, .bool false, .bool false, .bool false, .int .i64 0, .int .i64 0, .int .i64 0, .bool false, .bool false, .bool false, .bool false, .int .i64 0, .bool false, .int .i64 0, .bool false, .bool false, .int .i64 0, .bool false, .bool false, .bool false, .bool false, .bool false, .bool false, .bool false, .str ⟨#[]⟩, .int .i64 0, .int .i64 0, .int .i64 0, .int .i64 0, .int .i64 0, .bool false, .bool false, .bool false, .int .i64 0, .int .i64 0, .int .i64 0, .bool false, .bool false, .bool false, .bool false, .int .i64 0, .bool false, .int .i64 0, .bool false, .bool false, .int .i64 0, .bool false, .bool false, .bool false, .bool false, .bool false, .bool false, .bool false]
def V29 : List Value := [(.string ⟨#[]⟩), (.int .i64 0), (.int .i64 0), (.int .i64 0), (.int .i64 0), (.int .i64 0), (.bool false), (.bool false), (.bool false), (.int .i64 0), (.int .i64 0), (.int .i64 0), (.bool false), (.bool false), (.bool false), (.bool false), (.int .i64 0), (.bool false), (.int .i64 0), (.bool false), (.bool false), (.int .i64 0), (.bool false), (.bool false), (.bool false), (.bool false), (.bool false), (.bool false), (.bool false)]
def V42 : List Value := [(.string ⟨#[]⟩), (.int .i64 0), (.int .i64 0), (.slice none 0 0), (.int .i64 0), (.int .i64 0), (.int .i64 0), (.int .i64 0), (.bool false), (.slice none 0 0), (.slice none 0 0), (.slice none 0 0), (.slice none 0 0), (.string ⟨#[]⟩), (.int .i64 0), (.int .i64 0), (.int .i64 0), (.int .i64 0), (.int .i64 0), (.bool false), (.bool false), (.bool false), (.int .i64 0), (.int .i64 0), (.int .i64 0), (.bool false), (.bool false), (.bool false), (.bool false), (.int .i64 0), (.bool false), (.int .i64 0), (.bool false), (.bool false), (.int .i64 0), (.bool false), (.bool false), (.bool false), (.bool false), (.bool false), (.bool false), (.bool false)]
def V33 : List Value := [(.string ⟨#[]⟩), (.slice none 0 0), (.bool false), (.slice none 0 0), (.bool false), (.int .i64 0), (.int .i64 0), (.bool false), (.int .i64 0), (.int .i64 0), (.bool false), (.slice none 0 0), (.bool false), (.int .i64 0), (.int .i64 0), (.bool false), (.int .i64 0), (.int .i64 0), (.bool false), (.slice none 0 0), (.bool false), (.int .i64 0), (.int .i64 0), (.bool false), (.int .i64 0), (.int .i64 0), (.int .i64 0), (.int .i64 0), (.int .i64 0), (.int .i64 0), (.int .i64 0), (.int .i64 0), (.int .i64 0)]
def V203 : List Value := [(.string ⟨#[]⟩), (.int .i64 0), (.int .i64 0), (.int .i64 0), (.int .i64 0), (.int .i64 0), (.bool false), (.bool false), (.bool false), (.int .i64 0), (.int .i64 0), (.int .i64 0), (.bool false), (.bool false), (.bool false), (.bool false), (.int .i64 0), (.bool false), (.int .i64 0), (.bool false), (.bool false), (.int .i64 0), (.bool false), (.bool false), (.bool false), (.bool false), (.bool false), (.bool false), (.bool false), (.string ⟨#[]⟩), (.int .i64 0), (.int .i64 0), (.int .i64 0), (.int .i64 0), (.int .i64 0), (.bool false), (.bool false), (.bool false), (.int .i64 0), (.int .i64 0), (.int .i64 0), (.bool false), (.bool false), (.bool false), (.bool false), (.int .i64 0), (.bool false), (.int .i64 0), (.bool false), (.bool false), (.int .i64 0), (.bool false), (.bool false), (.bool false), (.bool false), (.bool false), (.bool false), (.bool false), (.string ⟨#[]⟩), (.int .i64 0), (.int .i64 0), (.int .i64 0), (.int .i64 0), (.int .i64 0), (.bool false), (.bool false), (.bool false), (.int .i64 0), (.int .i64 0), (.int .i64 0), (.bool false), (.bool false), (.bool false), (.bool false), (.int .i64 0), (.bool false), (.int .i64 0), (.bool false), (.bool false), (.int .i64 0), (.bool false), (.bool false), (.bool false), (.bool false), (.bool false), (.bool false), (.bool false), (.string ⟨#[]⟩), (.int .i64 0), (.int .i64 0), (.int .i64 0), (.int .i64 0), (.int .i64 0), (.bool false), (.bool false), (.bool false), (.int .i64 0), (.int .i64 0), (.int .i64 0), (.bool false), (.bool false), (.bool false), (.bool false), (.int .i64 0), (.bool false), (.int .i64 0), (.bool false), (.bool false), (.int .i64 0), (.bool false), (.bool false), (.bool false), (.bool false), (.bool false), (.bool false), (.bool false), (.string ⟨#[]⟩), (.int .i64 0), (.int .i64 0), (.int .i64 0), (.int .i64 0), (.int .i64 0), (.bool false), (.bool false), (.bool false), (.int .i64 0), (.int .i64 0), (.int .i64 0), (.bool false), (.bool false), (.bool false), (.bool false), (.int .i64 0), (.bool false), (.int .i64 0), (.bool false), (.bool false), (.int .i64 0), (.bool false), (.bool false), (.bool false), (.bool false), (.bool false), (.bool false), (.bool false), (.string ⟨#[]⟩), (.int .i64 0), (.int .i64 0), (.int .i64 0), (.int .i64 0), (.int .i64 0), (.bool false), (.bool false), (.bool false), (.int .i64 0), (.int .i64 0), (.int .i64 0), (.bool false), (.bool false), (.bool false), (.bool false), (.int .i64 0), (.bool false), (.int .i64 0), (.bool false), (.bool false), (.int .i64 0), (.bool false), (.bool false), (.bool false), (.bool false), (.bool false), (.bool false), (.bool false), (.string ⟨#[]⟩), (.int .i64 0), (.int .i64 0), (.int .i64 0), (.int .i64 0), (.int .i64 0), (.bool false), (.bool false), (.bool false), (.int .i64 0), (.int .i64 0), (.int .i64 0), (.bool false), (.bool false), (.bool false), (.bool false), (.int .i64 0), (.bool false), (.int .i64 0), (.bool false), (.bool false), (.int .i64 0), (.bool false), (.bool false), (.bool false), (.bool false), (.bool false), (.bool false), (.bool false)]
def SA13 : List FS := [.keep, .keep, .keep, (.flat 1), .keep, .keep, .keep, .keep, .keep, (.flat 1), (.sl 2 [.keep, (.flat 6)]), (.sl 13 [.keep, (.flat 1), .keep, .keep, .keep, .keep, .keep, .keep, .keep, .keep, .keep, .keep, .keep]), (.sl 33 [.keep, (.flat 2), .keep, (.flat 2), .keep, .keep, .keep, .keep, .keep, .keep, .keep, (.flat 2), .keep, .keep, .keep, .keep, .keep, .keep, .keep, (.flat 2), .keep, .keep, .keep, .keep, .keep, .keep, .keep, .keep, .keep, .keep, .keep, .keep, .keep])]
def SA33 : List FS := [.keep, (.flat 2), .keep, (.flat 2), .keep, .keep, .keep, .keep, .keep, .keep, .keep, (.flat 2), .keep, .keep, .keep, .keep, .keep, .keep, .keep, (.flat 2), .keep, .keep, .keep, .keep, .keep, .keep, .keep, .keep, .keep, .keep, .keep, .keep, .keep]
def SS13 : List FS := [.keep, (.flat 1), .keep, .keep, .keep, .keep, .keep, .keep, .keep, .keep, .keep, .keep, .keep]
def SA42 : List FS := [.keep, .keep, .keep, (.flat 1), .keep, .keep, .keep, .keep, .keep, (.flat 1), (.sl 2 [.keep, (.flat 6)]), (.sl 13 [.keep, (.flat 1), .keep, .keep, .keep, .keep, .keep, .keep, .keep, .keep, .keep, .keep, .keep]), (.sl 33 [.keep, (.flat 2), .keep, (.flat 2), .keep, .keep, .keep, .keep, .keep, .keep, .keep, (.flat 2), .keep, .keep, .keep, .keep, .keep, .keep, .keep, (.flat 2), .keep, .keep, .keep, .keep, .keep, .keep, .keep, .keep, .keep, .keep, .keep, .keep, .keep]), .keep, .keep, .keep, .keep, .keep, .keep, .keep, .keep, .keep, .keep, .keep, .keep, .keep, .keep, .keep, .keep, .keep, .keep, .keep, .keep, .keep, .keep, .keep, .keep, .keep, .keep, .keep, .keep, .keep]
open Go.Vm.G in
def A5 : PFun := ⟨3, 63, (S (R <| o 6 (.move (.const (.bool false))) <| z) <|
  (S (R <| m 16 0 <| m 17 1 <| m 18 2 <| o 19 (.call 17 [(t 16), (t 17), (t 18)]) <| m 15 19 <| o 20 (.extract (t 15) 0) <| o 21 (.extract (t 15) 1) <| o 7 (.new 27 [(.string ⟨#[]⟩), (.int .i64 0), (.int .i64 0), (.slice none 0 0), (.int .i64 0), (.int .i64 0), (.int .i64 0), (.int .i64 0), (.bool false), (.slice none 0 0), (.slice none 0 0), (.slice none 0 0), (.slice none 0 0)]) <| n (.store 13 (t 7) (t 20)) <| m 8 21 <| z) <|
  (S (R <| m 23 0 <| m 24 1 <| m 25 2 <| o 26 (.call 18 [(t 23), (t 24), (t 25)]) <| m 22 26 <| o 27 (.extract (t 22) 0) <| o 28 (.extract (t 22) 1) <| o 9 (.new 27 [(.string ⟨#[]⟩), (.int .i64 0), (.int .i64 0), (.slice none 0 0), (.int .i64 0), (.int .i64 0), (.int .i64 0), (.int .i64 0), (.bool false), (.slice none 0 0), (.slice none 0 0), (.slice none 0 0), (.slice none 0 0)]) <| n (.store 13 (t 9) (t 27)) <| m 10 28 <| z) <|
  (S (S (R <| m 29 8 <| m 30 10 <| b 31 .neq (t 29) (t 30) <| m 32 31 <| q 37 32 false (g 33 4) (o 33 (.load true 13 (t 7)) <| o 34 (.load true 13 (t 9)) <| o 35 (.call 12 [(t 33), (t 34)]) <| o 36 (.un .not (t 35)) <| z) (t 36) <|
  z) <|
  (.cond (t 37) [] [6]
  (S (R <| o 6 (.move (.const (.bool false))) <| z) <|
  .ret)
  .skip)) <|
  (S (S (R <| m 38 8 <| b 39 .neq (t 38) (i 0) <| z) <|
  (.cond (t 39) [] [6, 40]
  (S (R <| o 40 (.call 8 []) <| m 6 40 <| z) <|
  .ret)
  .skip)) <|
  (S (R <| o 42 (.load true 13 (t 7)) <| o 43 (.call 19 [(t 42)]) <| m 41 43 <| o 44 (.extract (t 41) 0) <| o 45 (.extract (t 41) 1) <| o 46 (.extract (t 41) 2) <| o 47 (.extract (t 41) 3) <| m 11 44 <| m 12 45 <| m 13 46 <| m 14 47 <| z) <|
  (S (R <| o 48 (.load true 13 (t 7)) <| o 49 (.call 16 [(t 48)]) <| m 50 49 <| q 53 50 true [51, 52] (m 51 14 <| b 52 .eql (t 51) (i 0) <| z) (t 52) <|
  m 54 53 <| q 59 54 true (g 55 4) (m 55 11 <| o 56 (.len false (t 55)) <| m 57 2 <| b 58 .eql (t 56) (t 57) <| z) (t 58) <|
  m 60 59 <| q 62 60 true [61] (o 61 (.call 8 []) <| z) (t 61) <|
  m 6 62 <| z) <|
  .ret))))))), [.tmp 6], [.keep]⟩
theorem ok5 : ∃ fn c, FunOk Tryz.prog 5 fn c A5.erase := ⟨Tryz.f5, _, ⟨Tryz.func5, rfl, by kernel_rfl, by kernel_rfl, by kernel_rfl, of_decide_eq_true (by kernel_rfl), by kernel_rfl⟩⟩
noncomputable def s5 (Γ : PCallee) (n : Nat) (x0 : PV) (x1 : PV) (x2 : PV) (h : PHeap) : Pt := (Γ 17 [x0, x1, x2] h).bind fun p0 => (extractP p0.1 0).bind fun v1 => (extractP p0.1 1).bind fun v2 => forkP (.ptr p0.2.length 0) (p0.2 ++ [.box [.str ⟨#[]⟩, .int .i64 0, .int .i64 0, .nilS, .int .i64 0, .int .i64 0, .int .i64 0, .int .i64 0, .bool false, .nilS, .nilS, .nilS, .nilS] 27 .rw]) fun v3 h4 => (storeP 13 v3 v1 h4).bind fun h5 => (Γ 18 [x0, x1, x2] h5).bind fun p6 => (extractP p6.1 0).bind fun v7 => (extractP p6.1 1).bind fun v8 => forkP (.ptr p6.2.length 0) (p6.2 ++ [.box [.str ⟨#[]⟩, .int .i64 0, .int .i64 0, .nilS, .int .i64 0, .int .i64 0, .int .i64 0, .int .i64 0, .bool false, .nilS, .nilS, .nilS, .nilS] 27 .rw]) fun v9 h10 => (storeP 13 v9 v7 h10).bind fun h11 => (binP .neq v2 v8).bind fun v12 => K1 (fun v14 h15 => KL (fun w17 h18 => (binP .neq v2 (.int .i64 0 : PV)).bind fun v19 => KL (fun w21 h22 => (loadP true 13 v3 h22).bind fun v23 => (Γ 19 [v23] h22).bind fun p24 => (extractP p24.1 0).bind fun v25 => (extractP p24.1 1).bind fun v26 => (extractP p24.1 2).bind fun v27 => (extractP p24.1 3).bind fun v28 => (loadP true 13 v3 p24.2).bind fun v29 => (Γ 16 [v29] p24.2).bind fun p30 => K1 (fun v32 h33 => K1 (fun v35 h36 => K1 (fun v38 h39 => finP [.keep] h h39 [v38]) fun j37 => scP v35 true ( (Γ 8 [] h36).bind fun p40 => j37 p40.1 p40.2) (j37 (.bool false) h36)) fun j34 => scP v32 true ( (lenP false v25).bind fun v41 => (binP .eql v41 x2).bind fun v42 => j34 v42 h33) (j34 (.bool false) h33)) fun j31 => scP p30.1 true ( (binP .eql v28 (.int .i64 0 : PV)).bind fun v43 => j31 v43 p30.2) (j31 (.bool false) p30.2)) fun j20 => ifP v19 ( (Γ 8 [] h18).bind fun p44 => finP [.keep] h p44.2 [p44.1]) ( j20 [] h18)) fun j16 => ifP v14 ( finP [.keep] h h15 [(.bool false : PV)]) ( j16 [] h15)) fun j13 => scP v12 false ( (loadP true 13 v3 h11).bind fun v45 => (loadP true 13 v9 h11).bind fun v46 => (Γ 12 [v45, v46] h11).bind fun p47 => (unP .not p47.1).bind fun v48 => j13 v48 p47.2) (j13 (.bool true) h11)
theorem s5_eq (Γ : PCallee) (n : Nat) (x0 : PV) (x1 : PV) (x2 : PV) (h : PHeap) : pfunK Γ n A5 [x0, x1, x2] h = s5 Γ n x0 x1 x2 h := by kernel_rfl
open Go.Vm.G in
def A8 : PFun := ⟨0, 50, (S (R <| o 0 (.move (.const (.bool false))) <| z) <|
  (S (R <| o 8 (.call 17 [(i 1), (i 4), (i 1)]) <| m 7 8 <| o 9 (.extract (t 7) 0) <| o 10 (.extract (t 7) 1) <| o 1 (.new 27 [(.string ⟨#[]⟩), (.int .i64 0), (.int .i64 0), (.slice none 0 0), (.int .i64 0), (.int .i64 0), (.int .i64 0), (.int .i64 0), (.bool false), (.slice none 0 0), (.slice none 0 0), (.slice none 0 0), (.slice none 0 0)]) <| n (.store 13 (t 1) (t 9)) <| m 2 10 <| z) <|
  (S (R <| o 11 (.load true 13 (t 1)) <| o 3 (.new 27 [(.string ⟨#[]⟩), (.int .i64 0), (.int .i64 0), (.slice none 0 0), (.int .i64 0), (.int .i64 0), (.int .i64 0), (.int .i64 0), (.bool false), (.slice none 0 0), (.slice none 0 0), (.slice none 0 0), (.slice none 0 0)]) <| n (.store 13 (t 3) (t 11)) <| z) <|
  (S (R <| f 12 8 3 <| n (.store 1 (t 12) (.const (.bool true))) <| z) <|
  (S (R <| o 14 (.load true 13 (t 3)) <| o 15 (.call 24 [(t 14)]) <| m 13 15 <| o 16 (.extract (t 13) 0) <| o 17 (.extract (t 13) 1) <| o 18 (.extract (t 13) 2) <| m 4 16 <| m 5 17 <| m 6 18 <| z) <|
  (S (R <| m 19 2 <| b 20 .eql (t 19) (i 0) <| m 21 20 <| q 24 21 true [22, 23] (o 22 (.load true 13 (t 1)) <| o 23 (.call 16 [(t 22)]) <| z) (t 23) <|
  m 25 24 <| q 30 25 true (g 26 4) (f 26 9 1 <| l 27 26 <| o 28 (.len false (t 27)) <| b 29 .eql (t 28) (i 4) <| z) (t 29) <|
  m 31 30 <| q 37 31 true (g 32 5) (f 32 9 1 <| l 33 32 <| o 34 (.indexAddr 1 (t 33) (i 1)) <| l 35 34 <| b 36 .eql (t 35) (i 256) <| z) (t 36) <|
  m 38 37 <| q 41 38 true [39, 40] (m 39 4 <| b 40 .eql (t 39) (.const (.string ⟨#[108, 105, 110, 101, 97, 114]⟩)) <| z) (t 40) <|
  m 42 41 <| q 45 42 true [43, 44] (m 43 5 <| b 44 .eql (t 43) (i 0) <| z) (t 44) <|
  m 46 45 <| q 49 46 true [47, 48] (m 47 6 <| b 48 .eql (t 47) (i 6) <| z) (t 48) <|
  m 0 49 <| z) <|
  .ret)))))), [.tmp 0], [.keep]⟩
theorem ok8 : ∃ fn c, FunOk Tryz.prog 8 fn c A8.erase := ⟨Tryz.f8, _, ⟨Tryz.func8, rfl, by kernel_rfl, by kernel_rfl, by kernel_rfl, of_decide_eq_true (by kernel_rfl), by kernel_rfl⟩⟩
noncomputable def s8 (Γ : PCallee) (n : Nat) (h : PHeap) : Pt := (Γ 17 [(.int .i64 1 : PV), (.int .i64 4 : PV), (.int .i64 1 : PV)] h).bind fun p0 => (extractP p0.1 0).bind fun v1 => (extractP p0.1 1).bind fun v2 => forkP (.ptr p0.2.length 0) (p0.2 ++ [.box [.str ⟨#[]⟩, .int .i64 0, .int .i64 0, .nilS, .int .i64 0, .int .i64 0, .int .i64 0, .int .i64 0, .bool false, .nilS, .nilS, .nilS, .nilS] 27 .rw]) fun v3 h4 => (storeP 13 v3 v1 h4).bind fun h5 => (loadP true 13 v3 h5).bind fun v6 => forkP (.ptr h5.length 0) (h5 ++ [.box [.str ⟨#[]⟩, .int .i64 0, .int .i64 0, .nilS, .int .i64 0, .int .i64 0, .int .i64 0, .int .i64 0, .bool false, .nilS, .nilS, .nilS, .nilS] 27 .rw]) fun v7 h8 => (storeP 13 v7 v6 h8).bind fun h9 => (fieldAddrP 8 v7).bind fun v10 => (storeP 1 v10 (.bool true : PV) h9).bind fun h11 => (loadP true 13 v7 h11).bind fun v12 => (Γ 24 [v12] h11).bind fun p13 => (extractP p13.1 0).bind fun v14 => (extractP p13.1 1).bind fun v15 => (extractP p13.1 2).bind fun v16 => (binP .eql v2 (.int .i64 0 : PV)).bind fun v17 => K1 (fun v19 h20 => K1 (fun v22 h23 => K1 (fun v25 h26 => K1 (fun v28 h29 => K1 (fun v31 h32 => K1 (fun v34 h35 => finP [.keep] h h35 [v34]) fun j33 => scP v31 true ( (binP .eql v16 (.int .i64 6 : PV)).bind fun v36 => j33 v36 h32) (j33 (.bool false) h32)) fun j30 => scP v28 true ( (binP .eql v15 (.int .i64 0 : PV)).bind fun v37 => j30 v37 h29) (j30 (.bool false) h29)) fun j27 => scP v25 true ( (binP .eql v14 (.str ⟨#[108, 105, 110, 101, 97, 114]⟩ : PV)).bind fun v38 => j27 v38 h26) (j27 (.bool false) h26)) fun j24 => scP v22 true ( (fieldAddrP 9 v3).bind fun v39 => (loadP false 1 v39 h23).bind fun v40 => (indexAddrP 1 v40 (.int .i64 1 : PV)).bind fun v41 => (loadP false 1 v41 h23).bind fun v42 => (binP .eql v42 (.int .i64 256 : PV)).bind fun v43 => j24 v43 h23) (j24 (.bool false) h23)) fun j21 => scP v19 true ( (fieldAddrP 9 v3).bind fun v44 => (loadP false 1 v44 h20).bind fun v45 => (lenP false v45).bind fun v46 => (binP .eql v46 (.int .i64 4 : PV)).bind fun v47 => j21 v47 h20) (j21 (.bool false) h20)) fun j18 => scP v17 true ( (loadP true 13 v3 p13.2).bind fun v48 => (Γ 16 [v48] p13.2).bind fun p49 => j18 p49.1 p49.2) (j18 (.bool false) p13.2)
theorem s8_eq (Γ : PCallee) (n : Nat) (h : PHeap) : pfunK Γ n A8 [] h = s8 Γ n h := by kernel_rfl
open Go.Vm.G in
def A12 : PFun := ⟨2, 78, (S (R <| o 2 (.box 27 (t 0)) <| o 3 (.box 27 (t 1)) <| o 4 (.move (.const (.bool false))) <| z) <|
  (S (R <| f 5 0 2 <| l 6 5 <| f 7 0 3 <| l 8 7 <| b 9 .eql (t 6) (t 8) <| m 10 9 <| q 16 10 true (g 11 5) (f 11 1 2 <| l 12 11 <| f 13 1 3 <| l 14 13 <| b 15 .eql (t 12) (t 14) <| z) (t 15) <|
  m 17 16 <| q 23 17 true (g 18 5) (f 18 2 2 <| l 19 18 <| f 20 2 3 <| l 21 20 <| b 22 .eql (t 19) (t 21) <| z) (t 22) <|
  m 24 23 <| q 30 24 true (g 25 5) (f 25 3 2 <| l 26 25 <| f 27 3 3 <| l 28 27 <| o 29 (.call 33 [(t 26), (t 28)]) <| z) (t 29) <|
  m 31 30 <| q 37 31 true (g 32 5) (f 32 4 2 <| l 33 32 <| f 34 4 3 <| l 35 34 <| b 36 .eql (t 33) (t 35) <| z) (t 36) <|
  m 38 37 <| q 44 38 true (g 39 5) (f 39 5 2 <| l 40 39 <| f 41 5 3 <| l 42 41 <| b 43 .eql (t 40) (t 42) <| z) (t 43) <|
  m 45 44 <| q 51 45 true (g 46 5) (f 46 6 2 <| l 47 46 <| f 48 6 3 <| l 49 48 <| b 50 .eql (t 47) (t 49) <| z) (t 50) <|
  m 52 51 <| q 58 52 true (g 53 5) (f 53 7 2 <| l 54 53 <| f 55 7 3 <| l 56 55 <| b 57 .eql (t 54) (t 56) <| z) (t 57) <|
  m 59 58 <| q 65 59 true (g 60 5) (f 60 8 2 <| l 61 60 <| f 62 8 3 <| l 63 62 <| o 64 (.eqBool false (t 61) (t 63)) <| z) (t 64) <|
  m 66 65 <| q 72 66 true (g 67 5) (f 67 9 2 <| l 68 67 <| f 69 9 3 <| l 70 69 <| o 71 (.call 33 [(t 68), (t 70)]) <| z) (t 71) <|
  m 73 72 <| q 77 73 true [74, 75, 76] (o 74 (.load true 13 (t 2)) <| o 75 (.load true 13 (t 3)) <| o 76 (.call 34 [(t 74), (t 75)]) <| z) (t 76) <|
  m 4 77 <| z) <|
  .ret)), [.tmp 4], [.keep]⟩
theorem ok12 : ∃ fn c, FunOk Tryz.prog 12 fn c A12.erase := ⟨Tryz.f12, _, ⟨Tryz.func12, rfl, by kernel_rfl, by kernel_rfl, by kernel_rfl, of_decide_eq_true (by kernel_rfl), by kernel_rfl⟩⟩
noncomputable def s12 (Γ : PCallee) (n : Nat) (x0 : PV) (x1 : PV) (h : PHeap) : Pt := forkP (.ptr h.length 0) (h ++ [.box (cellsP x0) 27 .rw]) fun v0 h1 => forkP (.ptr h1.length 0) (h1 ++ [.box (cellsP x1) 27 .rw]) fun v2 h3 => (fieldAddrP 0 v0).bind fun v4 => (loadP false 1 v4 h3).bind fun v5 => (fieldAddrP 0 v2).bind fun v6 => (loadP false 1 v6 h3).bind fun v7 => (binP .eql v5 v7).bind fun v8 => K1 (fun v10 h11 => K1 (fun v13 h14 => K1 (fun v16 h17 => K1 (fun v19 h20 => K1 (fun v22 h23 => K1 (fun v25 h26 => K1 (fun v28 h29 => K1 (fun v31 h32 => K1 (fun v34 h35 => K1 (fun v37 h38 => finP [.keep] h h38 [v37]) fun j36 => scP v34 true ( (loadP true 13 v0 h35).bind fun v39 => (loadP true 13 v2 h35).bind fun v40 => (Γ 34 [v39, v40] h35).bind fun p41 => j36 p41.1 p41.2) (j36 (.bool false) h35)) fun j33 => scP v31 true ( (fieldAddrP 9 v0).bind fun v42 => (loadP false 1 v42 h32).bind fun v43 => (fieldAddrP 9 v2).bind fun v44 => (loadP false 1 v44 h32).bind fun v45 => (Γ 33 [v43, v45] h32).bind fun p46 => j33 p46.1 p46.2) (j33 (.bool false) h32)) fun j30 => scP v28 true ( (fieldAddrP 8 v0).bind fun v47 => (loadP false 1 v47 h29).bind fun v48 => (fieldAddrP 8 v2).bind fun v49 => (loadP false 1 v49 h29).bind fun v50 => (eqBoolP false v48 v50).bind fun v51 => j30 v51 h29) (j30 (.bool false) h29)) fun j27 => scP v25 true ( (fieldAddrP 7 v0).bind fun v52 => (loadP false 1 v52 h26).bind fun v53 => (fieldAddrP 7 v2).bind fun v54 => (loadP false 1 v54 h26).bind fun v55 => (binP .eql v53 v55).bind fun v56 => j27 v56 h26) (j27 (.bool false) h26)) fun j24 => scP v22 true ( (fieldAddrP 6 v0).bind fun v57 => (loadP false 1 v57 h23).bind fun v58 => (fieldAddrP 6 v2).bind fun v59 => (loadP false 1 v59 h23).bind fun v60 => (binP .eql v58 v60).bind fun v61 => j24 v61 h23) (j24 (.bool false) h23)) fun j21 => scP v19 true ( (fieldAddrP 5 v0).bind fun v62 => (loadP false 1 v62 h20).bind fun v63 => (fieldAddrP 5 v2).bind fun v64 => (loadP false 1 v64 h20).bind fun v65 => (binP .eql v63 v65).bind fun v66 => j21 v66 h20) (j21 (.bool false) h20)) fun j18 => scP v16 true ( (fieldAddrP 4 v0).bind fun v67 => (loadP false 1 v67 h17).bind fun v68 => (fieldAddrP 4 v2).bind fun v69 => (loadP false 1 v69 h17).bind fun v70 => (binP .eql v68 v70).bind fun v71 => j18 v71 h17) (j18 (.bool false) h17)) fun j15 => scP v13 true ( (fieldAddrP 3 v0).bind fun v72 => (loadP false 1 v72 h14).bind fun v73 => (fieldAddrP 3 v2).bind fun v74 => (loadP false 1 v74 h14).bind fun v75 => (Γ 33 [v73, v75] h14).bind fun p76 => j15 p76.1 p76.2) (j15 (.bool false) h14)) fun j12 => scP v10 true ( (fieldAddrP 2 v0).bind fun v77 => (loadP false 1 v77 h11).bind fun v78 => (fieldAddrP 2 v2).bind fun v79 => (loadP false 1 v79 h11).bind fun v80 => (binP .eql v78 v80).bind fun v81 => j12 v81 h11) (j12 (.bool false) h11)) fun j9 => scP v8 true ( (fieldAddrP 1 v0).bind fun v82 => (loadP false 1 v82 h3).bind fun v83 => (fieldAddrP 1 v2).bind fun v84 => (loadP false 1 v84 h3).bind fun v85 => (binP .eql v83 v85).bind fun v86 => j9 v86 h3) (j9 (.bool false) h3)
theorem s12_eq (Γ : PCallee) (n : Nat) (x0 : PV) (x1 : PV) (h : PHeap) : pfunK Γ n A12 [x0, x1] h = s12 Γ n x0 x1 h := by kernel_rfl
open Go.Vm.G in
def A16 : PFun := ⟨1, 14, (S (R <| o 1 (.box 27 (t 0)) <| o 2 (.move (.const (.bool false))) <| z) <|
  (S (R <| o 7 (.load true 13 (t 1)) <| o 8 (.call 24 [(t 7)]) <| m 6 8 <| o 9 (.extract (t 6) 0) <| o 10 (.extract (t 6) 1) <| o 11 (.extract (t 6) 2) <| m 3 9 <| m 4 10 <| m 5 11 <| z) <|
  (S (R <| m 12 5 <| b 13 .eql (t 12) (i 0) <| m 2 13 <| z) <|
  .ret))), [.tmp 2], [.keep]⟩
theorem ok16 : ∃ fn c, FunOk Tryz.prog 16 fn c A16.erase := ⟨Tryz.f16, _, ⟨Tryz.func16, rfl, by kernel_rfl, by kernel_rfl, by kernel_rfl, of_decide_eq_true (by kernel_rfl), by kernel_rfl⟩⟩
noncomputable def s16 (Γ : PCallee) (n : Nat) (x0 : PV) (h : PHeap) : Pt := forkP (.ptr h.length 0) (h ++ [.box (cellsP x0) 27 .rw]) fun v0 h1 => (loadP true 13 v0 h1).bind fun v2 => (Γ 24 [v2] h1).bind fun p3 => (extractP p3.1 0).bind fun v4 => (extractP p3.1 1).bind fun v5 => (extractP p3.1 2).bind fun v6 => (binP .eql v6 (.int .i64 0 : PV)).bind fun v7 => finP [.keep] h p3.2 [v7]
theorem s16_eq (Γ : PCallee) (n : Nat) (x0 : PV) (h : PHeap) : pfunK Γ n A16 [x0] h = s16 Γ n x0 h := by kernel_rfl
open Go.Vm.G in
def A17 : PFun := ⟨3, 82, (S (R <| o 6 (.new 27 [(.string ⟨#[]⟩), (.int .i64 0), (.int .i64 0), (.slice none 0 0), (.int .i64 0), (.int .i64 0), (.int .i64 0), (.int .i64 0), (.bool false), (.slice none 0 0), (.slice none 0 0), (.slice none 0 0), (.slice none 0 0)]) <| o 7 (.move (i 0)) <| z) <|
  (S (R <| m 17 0 <| o 18 (.call 53 [(t 17)]) <| m 16 18 <| o 19 (.extract (t 16) 0) <| o 20 (.extract (t 16) 1) <| o 8 (.new 83 V29) <| n (.store 29 (t 8) (t 19)) <| m 9 20 <| z) <|
  (S (.block 0 [] ([7] ++ g 21 17)
  (S (R <| m 22 9 <| b 23 .neq (t 22) (i 0) <| m 21 23 <| z) <|
  (.cond (t 21) [] ([7] ++ g 24 14)
  (S (R <| o 24 (.build [(.string ⟨#[]⟩), (.int .i64 0), (.int .i64 0), (.slice none 0 0), (.int .i64 0), (.int .i64 0), (.int .i64 0), (.int .i64 0), (.bool false), (.slice none 0 0), (.slice none 0 0), (.slice none 0 0), (.slice none 0 0)] []) <| m 25 9 <| n (.store 13 (t 6) (t 24)) <| m 7 25 <| z) <|
  .ret)
  (S (R <| m 27 1 <| f 28 1 8 <| l 29 28 <| o 30 (.call 54 [(t 27), (i 1), (t 29)]) <| o 31 (.un .not (t 30)) <| m 32 31 <| q 36 32 false [33, 34, 35] (m 33 2 <| o 34 (.call 54 [(t 33), (i 1), (i 32)]) <| o 35 (.un .not (t 34)) <| z) (t 35) <|
  m 26 36 <| z) <|
  (.cond (t 26) [] [7, 37]
  (S (R <| o 37 (.build [(.string ⟨#[]⟩), (.int .i64 0), (.int .i64 0), (.slice none 0 0), (.int .i64 0), (.int .i64 0), (.int .i64 0), (.int .i64 0), (.bool false), (.slice none 0 0), (.slice none 0 0), (.slice none 0 0), (.slice none 0 0)] []) <| n (.store 13 (t 6) (t 37)) <| o 7 (.move (i 5)) <| z) <|
  .ret)
  .skip))))) <|
  (S (R <| m 38 0 <| m 39 1 <| f 40 8 8 <| l 41 40 <| o 42 (.build [(.string ⟨#[]⟩), (.int .i64 0), (.int .i64 0), (.slice none 0 0), (.int .i64 0), (.int .i64 0), (.int .i64 0), (.int .i64 0), (.bool false), (.slice none 0 0), (.slice none 0 0), (.slice none 0 0), (.slice none 0 0)] [(1, 1, (t 38)), (2, 1, (t 39)), (5, 1, (i 6)), (6, 1, (i 125)), (7, 1, (i 128)), (8, 1, (t 41))]) <| o 10 (.new 27 [(.string ⟨#[]⟩), (.int .i64 0), (.int .i64 0), (.slice none 0 0), (.int .i64 0), (.int .i64 0), (.int .i64 0), (.int .i64 0), (.bool false), (.slice none 0 0), (.slice none 0 0), (.slice none 0 0), (.slice none 0 0)]) <| n (.store 13 (t 10) (t 42)) <| z) <|
  (S (S (R <| m 43 1 <| o 44 (.move (i 0)) <| z) <|
  (.block 1 [] ([11, 12] ++ g 44 15)
  (.loop [44] ([11, 12] ++ g 45 14)
  (S (R <| b 45 .lss (t 44) (t 43) <| z) <|
  (S (.cond (t 45) [] []
  .skip
  (.exit 1)) <|
  (S (.block 2 [] ([11, 12] ++ g 46 12)
  (S (R <| m 46 44 <| m 11 46 <| z) <|
  (S (R <| o 12 (.move (i 128)) <| z) <|
  (S (S (R <| m 47 0 <| b 48 .eql (t 47) (i 1) <| z) <|
  (.cond (t 48) [12] [49, 50, 51]
  (R <| o 49 (.build [(.int .i64 0), (.int .i64 0), (.int .i64 0), (.int .i64 0)] [(0, 1, (i 0)), (1, 1, (i 256)), (2, 1, (i 256)), (3, 1, (i 0))]) <| m 50 11 <| o 51 (.indexArr 4 false 1 (t 49) (t 50)) <| m 12 51 <| z)
  .skip)) <|
  (R <| f 52 9 10 <| l 53 52 <| m 54 12 <| (.op (some 55) (.buildF 3 [(.int .i64 0)] 1 [(0, 1, (t 54))]) .no <| o 56 (.append 3 1 (t 53) (t 55)) <| f 57 9 10 <| n (.store 1 (t 57) (t 56)) <| z)))))) <|
  (R <| b 58 .add (t 44) (i 1) <| m 44 58 <| z))))))) <|
  (S (S (R <| m 59 2 <| o 60 (.move (i 0)) <| z) <|
  (.block 3 [] ([13, 14, 15] ++ g 60 21)
  (.loop [60] ([13, 14, 15] ++ g 61 20)
  (S (R <| b 61 .lss (t 60) (t 59) <| z) <|
  (S (.cond (t 61) [] []
  .skip
  (.exit 3)) <|
  (S (.block 4 [] ([13, 14, 15] ++ g 62 18)
  (S (R <| m 62 60 <| m 13 62 <| z) <|
  (S (R <| m 64 1 <| o 65 (.call 55 [(i 64), (t 64)]) <| m 63 65 <| o 66 (.extract (t 63) 0) <| o 67 (.extract (t 63) 1) <| o 14 (.new 39 [(.int .i64 0), (.slice none 0 0)]) <| n (.store 2 (t 14) (t 66)) <| m 15 67 <| z) <|
  (D <| f 68 10 10 <| l 69 68 <| o 70 (.load true 2 (t 14)) <| (.op (some 71) (.buildF 39 [(.int .i64 0), (.slice none 0 0)] 1 [(0, 2, (t 70))]) .no <| f 73 3 10 <| l 74 73 <| m 75 13 <| (.op (some 76) (.buildF 3 [(.int .i64 0)] 1 [(0, 1, (t 75))]) .no <| (.op (some 72) (.a (.append 39 2 (t 69) (t 71))) (.far [(69, 73)]) <| o 77 (.append 3 1 (t 74) (t 76)) <| f 78 10 10 <| n (.store 1 (t 78) (t 72)) <| f 79 3 10 <| n (.store 1 (t 79) (t 77)) <| z))))))) <|
  (R <| b 80 .add (t 60) (i 1) <| m 60 80 <| z))))))) <|
  (S (R <| o 81 (.load true 13 (t 10)) <| n (.store 13 (t 6) (t 81)) <| o 7 (.move (i 0)) <| z) <|
  .ret))))))), [.cell 6 true 13, .tmp 7], [(.agg SA13), .keep]⟩
theorem ok17 : ∃ fn c, FunOk Tryz.prog 17 fn c A17.erase := ⟨Tryz.f17, _, ⟨Tryz.func17, rfl, by kernel_rfl, by kernel_rfl, by kernel_rfl, of_decide_eq_true (by kernel_rfl), by kernel_rfl⟩⟩
noncomputable def s17_L0 (Γ : PCallee) (n : Nat) (x1 : PV) (x2 : PV) (v14 : PV) (h19 : PHeap) (j20 : Kt) : (Kt) → Kt := fun c26 w27 h28 => (binP .lss (nthP w27 0) x2).bind fun v29 => KL (fun w31 h32 => KL (fun w34 h35 => (binP .add (nthP w27 0) (.int .i64 1 : PV)).bind fun v36 => c26 [v36] (trim h19 [v36] h35)) fun j33 => (Γ 55 [(.int .i64 64 : PV), x1] h32).bind fun p37 => (extractP p37.1 0).bind fun v38 => (extractP p37.1 1).bind fun v39 => forkP (.ptr p37.2.length 0) (p37.2 ++ [.box [.int .i64 0, .nilS] 39 .rw]) fun v40 h41 => (storeP 2 v40 v38 h41).bind fun h42 => (fieldAddrP 10 v14).bind fun v43 => (loadP false 1 v43 h42).bind fun v44 => (loadP true 2 v40 h42).bind fun v45 => (fillP (repP [.int .i64 0, .nilS] 1) [(0, 2, v45)]).bind fun l46 => guardP (l46.all pure1) ( forkP (.frz 2 (chunk 2 1 l46)) (h42) fun v47 h48 => (fieldAddrP 3 v14).bind fun v49 => (loadP false 1 v49 h48).bind fun v50 => (fillP (repP [.int .i64 0] 1) [(0, 1, (nthP w27 0))]).bind fun l51 => guardP (l51.all pure1) ( forkP (.frz 1 (chunk 1 1 l51)) (h48) fun v52 h53 => guardP (farP v44 v49 h53 && true) ( (appendP 39 2 v44 v47 h53).bind fun p54 => (appendP 3 1 v50 v52 p54.2).bind fun p55 => (fieldAddrP 10 v14).bind fun v56 => (storeP 1 v56 p54.1 p55.2).bind fun h57 => (fieldAddrP 3 v14).bind fun v58 => (storeP 1 v58 p55.1 h57).bind fun h59 => j33 [] h59)))) fun j30 => ifP v29 ( j30 [] h28) ( j20 [] h28)
noncomputable def s17_L1 (Γ : PCallee) (n : Nat) (x0 : PV) (x1 : PV) (v14 : PV) (h16 : PHeap) (j17 : Kt) : (Kt) → Kt := fun c60 w61 h62 => (binP .lss (nthP w61 0) x1).bind fun v63 => KL (fun w65 h66 => KL (fun w68 h69 => (binP .add (nthP w61 0) (.int .i64 1 : PV)).bind fun v70 => c60 [v70] (trim h16 [v70] h69)) fun j67 => (binP .eql x0 (.int .i64 1 : PV)).bind fun v71 => KL (fun w73 h74 => (fieldAddrP 9 v14).bind fun v75 => (loadP false 1 v75 h74).bind fun v76 => (fillP (repP [.int .i64 0] 1) [(0, 1, (nthP w73 0))]).bind fun l77 => guardP (l77.all pure1) ( forkP (.frz 1 (chunk 1 1 l77)) (h74) fun v78 h79 => (appendP 3 1 v76 v78 h79).bind fun p80 => (fieldAddrP 9 v14).bind fun v81 => (storeP 1 v81 p80.1 p80.2).bind fun h82 => j67 [] h82)) fun j72 => ifP v71 ( (fillP [.int .i64 0, .int .i64 0, .int .i64 0, .int .i64 0] [(0, 1, (.int .i64 0 : PV)), (1, 1, (.int .i64 256 : PV)), (2, 1, (.int .i64 256 : PV)), (3, 1, (.int .i64 0 : PV))]).bind fun l83 => (indexArrP 4 false 1 (PV.agg l83) (nthP w61 0)).bind fun v84 => j72 [v84] h66) ( j72 [(.int .i64 128 : PV)] h66)) fun j64 => ifP v63 ( j64 [] h62) ( j17 [] h62)
noncomputable def s17 (Γ : PCallee) (n : Nat) (x0 : PV) (x1 : PV) (x2 : PV) (h : PHeap) : Pt := forkP (.ptr h.length 0) (h ++ [.box [.str ⟨#[]⟩, .int .i64 0, .int .i64 0, .nilS, .int .i64 0, .int .i64 0, .int .i64 0, .int .i64 0, .bool false, .nilS, .nilS, .nilS, .nilS] 27 .rw]) fun v0 h1 => (Γ 53 [x0] h1).bind fun p2 => (extractP p2.1 0).bind fun v3 => (extractP p2.1 1).bind fun v4 => forkP (.ptr p2.2.length 0) (p2.2 ++ [.box Z29 83 .rw]) fun v5 h6 => (storeP 29 v5 v3 h6).bind fun h7 => KL (fun w9 h10 => (fieldAddrP 8 v5).bind fun v11 => (loadP false 1 v11 h10).bind fun v12 => (fillP [.str ⟨#[]⟩, .int .i64 0, .int .i64 0, .nilS, .int .i64 0, .int .i64 0, .int .i64 0, .int .i64 0, .bool false, .nilS, .nilS, .nilS, .nilS] [(1, 1, x0), (2, 1, x1), (5, 1, (.int .i64 6 : PV)), (6, 1, (.int .i64 125 : PV)), (7, 1, (.int .i64 128 : PV)), (8, 1, v12)]).bind fun l13 => forkP (.ptr h10.length 0) (h10 ++ [.box [.str ⟨#[]⟩, .int .i64 0, .int .i64 0, .nilS, .int .i64 0, .int .i64 0, .int .i64 0, .int .i64 0, .bool false, .nilS, .nilS, .nilS, .nilS] 27 .rw]) fun v14 h15 => (storeP 13 v14 (PV.agg l13) h15).bind fun h16 => KL (fun w18 h19 => KL (fun w21 h22 => (loadP true 13 v14 h22).bind fun v23 => (storeP 13 v0 v23 h22).bind fun h24 => (loadP true 13 v0 h24).bind fun v25 => finP [(.agg SA13), .keep] h h24 [v25, (.int .i64 0 : PV)]) fun j20 => loopP (s17_L0 Γ n x1 x2 v14 h19 j20) n [(.int .i64 0 : PV)] h19) fun j17 => loopP (s17_L1 Γ n x0 x1 v14 h16 j17) n [(.int .i64 0 : PV)] h16) fun j8 => (binP .neq v4 (.int .i64 0 : PV)).bind fun v85 => KL (fun w87 h88 => j8 [] h88) fun j86 => ifP v85 ( (fillP [.str ⟨#[]⟩, .int .i64 0, .int .i64 0, .nilS, .int .i64 0, .int .i64 0, .int .i64 0, .int .i64 0, .bool false, .nilS, .nilS, .nilS, .nilS] []).bind fun l89 => (storeP 13 v0 (PV.agg l89) h7).bind fun h90 => (loadP true 13 v0 h90).bind fun v91 => finP [(.agg SA13), .keep] h h90 [v91, v4]) ( (fieldAddrP 1 v5).bind fun v92 => (loadP false 1 v92 h7).bind fun v93 => (Γ 54 [x1, (.int .i64 1 : PV), v93] h7).bind fun p94 => (unP .not p94.1).bind fun v95 => K1 (fun v97 h98 => KL (fun w100 h101 => j86 [] h101) fun j99 => ifP v97 ( (fillP [.str ⟨#[]⟩, .int .i64 0, .int .i64 0, .nilS, .int .i64 0, .int .i64 0, .int .i64 0, .int .i64 0, .bool false, .nilS, .nilS, .nilS, .nilS] []).bind fun l102 => (storeP 13 v0 (PV.agg l102) h98).bind fun h103 => (loadP true 13 v0 h103).bind fun v104 => finP [(.agg SA13), .keep] h h103 [v104, (.int .i64 5 : PV)]) ( j99 [] h98)) fun j96 => scP v95 false ( (Γ 54 [x2, (.int .i64 1 : PV), (.int .i64 32 : PV)] p94.2).bind fun p105 => (unP .not p105.1).bind fun v106 => j96 v106 p105.2) (j96 (.bool true) p94.2))
theorem s17_eq (Γ : PCallee) (n : Nat) (x0 : PV) (x1 : PV) (x2 : PV) (h : PHeap) : pfunK Γ n A17 [x0, x1, x2] h = s17 Γ n x0 x1 x2 h := by kernel_rfl
open Go.Vm.G in
def A18 : PFun := ⟨3, 72, (S (R <| o 6 (.new 27 [(.string ⟨#[]⟩), (.int .i64 0), (.int .i64 0), (.slice none 0 0), (.int .i64 0), (.int .i64 0), (.int .i64 0), (.int .i64 0), (.bool false), (.slice none 0 0), (.slice none 0 0), (.slice none 0 0), (.slice none 0 0)]) <| o 7 (.move (i 0)) <| z) <|
  (S (R <| m 15 0 <| o 16 (.call 56 [(t 15)]) <| m 14 16 <| o 17 (.extract (t 14) 0) <| o 18 (.extract (t 14) 1) <| o 8 (.new 83 V29) <| n (.store 29 (t 8) (t 17)) <| m 9 18 <| z) <|
  (S (.block 0 [] ([7] ++ g 19 16)
  (S (R <| m 20 9 <| b 21 .neq (t 20) (i 0) <| m 19 21 <| z) <|
  (.cond (t 19) [] ([7] ++ g 22 13)
  (S (R <| o 22 (.build [(.string ⟨#[]⟩), (.int .i64 0), (.int .i64 0), (.slice none 0 0), (.int .i64 0), (.int .i64 0), (.int .i64 0), (.int .i64 0), (.bool false), (.slice none 0 0), (.slice none 0 0), (.slice none 0 0), (.slice none 0 0)] []) <| n (.store 13 (t 6) (t 22)) <| o 7 (.move (i 6)) <| z) <|
  .ret)
  (S (R <| m 24 1 <| f 25 1 8 <| l 26 25 <| o 27 (.call 57 [(t 24), (i 1), (t 26)]) <| o 28 (.un .not (t 27)) <| m 29 28 <| q 33 29 false [30, 31, 32] (m 30 2 <| o 31 (.call 57 [(t 30), (i 1), (i 32)]) <| o 32 (.un .not (t 31)) <| z) (t 32) <|
  m 23 33 <| z) <|
  (.cond (t 23) [] [7, 34]
  (S (R <| o 34 (.build [(.string ⟨#[]⟩), (.int .i64 0), (.int .i64 0), (.slice none 0 0), (.int .i64 0), (.int .i64 0), (.int .i64 0), (.int .i64 0), (.bool false), (.slice none 0 0), (.slice none 0 0), (.slice none 0 0), (.slice none 0 0)] []) <| n (.store 13 (t 6) (t 34)) <| o 7 (.move (i 5)) <| z) <|
  .ret)
  .skip))))) <|
  (S (D <| m 35 0 <| m 36 1 <| m 37 2 <| O 38 (.call 58 [(t 37)]) <| f 39 8 8 <| l 40 39 <| o 41 (.build [(.string ⟨#[]⟩), (.int .i64 0), (.int .i64 0), (.slice none 0 0), (.int .i64 0), (.int .i64 0), (.int .i64 0), (.int .i64 0), (.bool false), (.slice none 0 0), (.slice none 0 0), (.slice none 0 0), (.slice none 0 0)] [(1, 1, (t 35)), (2, 1, (t 36)), (3, 1, (t 38)), (5, 1, (i 6)), (6, 1, (i 125)), (7, 1, (i 128)), (8, 1, (t 40))]) <| o 10 (.new 27 [(.string ⟨#[]⟩), (.int .i64 0), (.int .i64 0), (.slice none 0 0), (.int .i64 0), (.int .i64 0), (.int .i64 0), (.int .i64 0), (.bool false), (.slice none 0 0), (.slice none 0 0), (.slice none 0 0), (.slice none 0 0)]) <| n (.store 13 (t 10) (t 41)) <| z) <|
  (S (S (R <| o 11 (.move (i 0)) <| z) <|
  (.block 1 [] ([11, 12] ++ g 42 17)
  (.loop [11] ([12] ++ g 42 17)
  (S (S (R <| m 42 11 <| m 43 1 <| b 44 .lss (t 42) (t 43) <| z) <|
  (.cond (t 44) [] []
  .skip
  (.exit 1))) <|
  (S (.block 2 [] ([12] ++ g 47 12)
  (S (R <| o 12 (.move (i 128)) <| z) <|
  (S (S (R <| m 47 0 <| b 48 .eql (t 47) (i 1) <| z) <|
  (.cond (t 48) [12] (g 49 4)
  (R <| (.op (some 49) (.buildF 3 [(.int .i64 0)] 4 [(0, 1, (i 0)), (1, 1, (i 256)), (2, 1, (i 256)), (3, 1, (i 0))]) .no <| m 50 11 <| o 51 (.indexAddr 1 (t 49) (t 50)) <| l 52 51 <| m 12 52 <| z))
  .skip)) <|
  (R <| f 53 9 10 <| l 54 53 <| m 55 12 <| (.op (some 56) (.buildF 3 [(.int .i64 0)] 1 [(0, 1, (t 55))]) .no <| o 57 (.append 3 1 (t 54) (t 56)) <| f 58 9 10 <| n (.store 1 (t 58) (t 57)) <| z))))) <|
  (R <| m 45 11 <| b 46 .add (t 45) (i 1) <| m 11 46 <| z)))))) <|
  (S (S (R <| o 13 (.move (i 0)) <| z) <|
  (.block 3 [] ([13] ++ g 59 12)
  (.loop [13] (g 59 12)
  (S (S (R <| m 59 13 <| m 60 2 <| b 61 .lss (t 59) (t 60) <| z) <|
  (.cond (t 61) [] []
  .skip
  (.exit 3))) <|
  (S (.block 4 [] (g 64 7)
  (D <| f 64 10 10 <| l 65 64 <| m 66 1 <| O 67 (.call 59 [(i 64), (t 66)]) <| (.op (some 68) (.buildF 39 [(.int .i64 0), (.slice none 0 0)] 1 [(0, 2, (t 67))]) .no <| o 69 (.append 39 2 (t 65) (t 68)) <| f 70 10 10 <| n (.store 1 (t 70) (t 69)) <| z))) <|
  (R <| m 62 13 <| b 63 .add (t 62) (i 1) <| m 13 63 <| z)))))) <|
  (S (R <| o 71 (.load true 13 (t 10)) <| n (.store 13 (t 6) (t 71)) <| o 7 (.move (i 0)) <| z) <|
  .ret))))))), [.cell 6 true 13, .tmp 7], [(.agg SA13), .keep]⟩
theorem ok18 : ∃ fn c, FunOk Tryz.prog 18 fn c A18.erase := ⟨Tryz.f18, _, ⟨Tryz.func18, rfl, by kernel_rfl, by kernel_rfl, by kernel_rfl, of_decide_eq_true (by kernel_rfl), by kernel_rfl⟩⟩
noncomputable def s18_L0 (Γ : PCallee) (n : Nat) (x1 : PV) (x2 : PV) (v16 : PV) (h21 : PHeap) (j22 : Kt) : (Kt) → Kt := fun c28 w29 h30 => (binP .lss (nthP w29 0) x2).bind fun v31 => KL (fun w33 h34 => KL (fun w36 h37 => (binP .add (nthP w29 0) (.int .i64 1 : PV)).bind fun v38 => c28 [v38] (trim h21 [v38] h37)) fun j35 => (fieldAddrP 10 v16).bind fun v39 => (loadP false 1 v39 h34).bind fun v40 => (Γ 59 [(.int .i64 64 : PV), x1] (lock h34)).bind fun p41 => unl h34 p41.2 fun h42 => (fillP (repP [.int .i64 0, .nilS] 1) [(0, 2, p41.1)]).bind fun l43 => guardP (l43.all pure1) ( forkP (.frz 2 (chunk 2 1 l43)) (h42) fun v44 h45 => (appendP 39 2 v40 v44 h45).bind fun p46 => (fieldAddrP 10 v16).bind fun v47 => (storeP 1 v47 p46.1 p46.2).bind fun h48 => j35 [] h48)) fun j32 => ifP v31 ( j32 [] h30) ( j22 [] h30)
noncomputable def s18_L1 (Γ : PCallee) (n : Nat) (x0 : PV) (x1 : PV) (v16 : PV) (h18 : PHeap) (j19 : Kt) : (Kt) → Kt := fun c49 w50 h51 => (binP .lss (nthP w50 0) x1).bind fun v52 => KL (fun w54 h55 => KL (fun w57 h58 => (binP .add (nthP w50 0) (.int .i64 1 : PV)).bind fun v59 => c49 [v59] (trim h18 [v59] h58)) fun j56 => (binP .eql x0 (.int .i64 1 : PV)).bind fun v60 => KL (fun w62 h63 => (fieldAddrP 9 v16).bind fun v64 => (loadP false 1 v64 h63).bind fun v65 => (fillP (repP [.int .i64 0] 1) [(0, 1, (nthP w62 0))]).bind fun l66 => guardP (l66.all pure1) ( forkP (.frz 1 (chunk 1 1 l66)) (h63) fun v67 h68 => (appendP 3 1 v65 v67 h68).bind fun p69 => (fieldAddrP 9 v16).bind fun v70 => (storeP 1 v70 p69.1 p69.2).bind fun h71 => j56 [] h71)) fun j61 => ifP v60 ( (fillP (repP [.int .i64 0] 4) [(0, 1, (.int .i64 0 : PV)), (1, 1, (.int .i64 256 : PV)), (2, 1, (.int .i64 256 : PV)), (3, 1, (.int .i64 0 : PV))]).bind fun l72 => guardP (l72.all pure1) ( forkP (.frz 1 (chunk 1 4 l72)) (h55) fun v73 h74 => (indexAddrP 1 v73 (nthP w50 0)).bind fun v75 => (loadP false 1 v75 h74).bind fun v76 => j61 [v76] h74)) ( j61 [(.int .i64 128 : PV)] h55)) fun j53 => ifP v52 ( j53 [] h51) ( j19 [] h51)
noncomputable def s18 (Γ : PCallee) (n : Nat) (x0 : PV) (x1 : PV) (x2 : PV) (h : PHeap) : Pt := forkP (.ptr h.length 0) (h ++ [.box [.str ⟨#[]⟩, .int .i64 0, .int .i64 0, .nilS, .int .i64 0, .int .i64 0, .int .i64 0, .int .i64 0, .bool false, .nilS, .nilS, .nilS, .nilS] 27 .rw]) fun v0 h1 => (Γ 56 [x0] h1).bind fun p2 => (extractP p2.1 0).bind fun v3 => (extractP p2.1 1).bind fun v4 => forkP (.ptr p2.2.length 0) (p2.2 ++ [.box Z29 83 .rw]) fun v5 h6 => (storeP 29 v5 v3 h6).bind fun h7 => KL (fun w9 h10 => (Γ 58 [x2] (lock h10)).bind fun p11 => unl h10 p11.2 fun h12 => (fieldAddrP 8 v5).bind fun v13 => (loadP false 1 v13 h12).bind fun v14 => (fillP [.str ⟨#[]⟩, .int .i64 0, .int .i64 0, .nilS, .int .i64 0, .int .i64 0, .int .i64 0, .int .i64 0, .bool false, .nilS, .nilS, .nilS, .nilS] [(1, 1, x0), (2, 1, x1), (3, 1, p11.1), (5, 1, (.int .i64 6 : PV)), (6, 1, (.int .i64 125 : PV)), (7, 1, (.int .i64 128 : PV)), (8, 1, v14)]).bind fun l15 => forkP (.ptr h12.length 0) (h12 ++ [.box [.str ⟨#[]⟩, .int .i64 0, .int .i64 0, .nilS, .int .i64 0, .int .i64 0, .int .i64 0, .int .i64 0, .bool false, .nilS, .nilS, .nilS, .nilS] 27 .rw]) fun v16 h17 => (storeP 13 v16 (PV.agg l15) h17).bind fun h18 => KL (fun w20 h21 => KL (fun w23 h24 => (loadP true 13 v16 h24).bind fun v25 => (storeP 13 v0 v25 h24).bind fun h26 => (loadP true 13 v0 h26).bind fun v27 => finP [(.agg SA13), .keep] h h26 [v27, (.int .i64 0 : PV)]) fun j22 => loopP (s18_L0 Γ n x1 x2 v16 h21 j22) n [(.int .i64 0 : PV)] h21) fun j19 => loopP (s18_L1 Γ n x0 x1 v16 h18 j19) n [(.int .i64 0 : PV)] h18) fun j8 => (binP .neq v4 (.int .i64 0 : PV)).bind fun v77 => KL (fun w79 h80 => j8 [] h80) fun j78 => ifP v77 ( (fillP [.str ⟨#[]⟩, .int .i64 0, .int .i64 0, .nilS, .int .i64 0, .int .i64 0, .int .i64 0, .int .i64 0, .bool false, .nilS, .nilS, .nilS, .nilS] []).bind fun l81 => (storeP 13 v0 (PV.agg l81) h7).bind fun h82 => (loadP true 13 v0 h82).bind fun v83 => finP [(.agg SA13), .keep] h h82 [v83, (.int .i64 6 : PV)]) ( (fieldAddrP 1 v5).bind fun v84 => (loadP false 1 v84 h7).bind fun v85 => (Γ 57 [x1, (.int .i64 1 : PV), v85] h7).bind fun p86 => (unP .not p86.1).bind fun v87 => K1 (fun v89 h90 => KL (fun w92 h93 => j78 [] h93) fun j91 => ifP v89 ( (fillP [.str ⟨#[]⟩, .int .i64 0, .int .i64 0, .nilS, .int .i64 0, .int .i64 0, .int .i64 0, .int .i64 0, .bool false, .nilS, .nilS, .nilS, .nilS] []).bind fun l94 => (storeP 13 v0 (PV.agg l94) h90).bind fun h95 => (loadP true 13 v0 h95).bind fun v96 => finP [(.agg SA13), .keep] h h95 [v96, (.int .i64 5 : PV)]) ( j91 [] h90)) fun j88 => scP v87 false ( (Γ 57 [x2, (.int .i64 1 : PV), (.int .i64 32 : PV)] p86.2).bind fun p97 => (unP .not p97.1).bind fun v98 => j88 v98 p97.2) (j88 (.bool true) p86.2))
theorem s18_eq (Γ : PCallee) (n : Nat) (x0 : PV) (x1 : PV) (x2 : PV) (h : PHeap) : pfunK Γ n A18 [x0, x1, x2] h = s18 Γ n x0 x1 x2 h := by kernel_rfl
open Go.Vm.G in
def A19 : PFun := ⟨1, 29, (S (R <| o 1 (.box 27 (t 0)) <| o 2 (.move (.const (.slice none 0 0))) <| o 3 (.move (.const (.slice none 0 0))) <| o 4 (.move (.const (.slice none 0 0))) <| o 5 (.move (i 0)) <| z) <|
  (S (S (R <| o 7 (.load true 13 (t 1)) <| F 7 (.agg SA13) <| o 8 (.call 16 [(t 7)]) <| o 9 (.un .not (t 8)) <| z) <|
  (.cond (t 9) [] (g 2 4)
  (S (R <| o 2 (.move (.const (.slice none 0 0))) <| o 3 (.move (.const (.slice none 0 0))) <| o 4 (.move (.const (.slice none 0 0))) <| o 5 (.move (i 1)) <| z) <|
  .ret)
  .skip)) <|
  (S (R <| o 10 (.load true 13 (t 1)) <| F 10 (.agg SA13) <| o 11 (.call 41 [(t 10)]) <| o 12 (.call 60 [(t 11)]) <| m 2 12 <| z) <|
  (S (D <| o 13 (.load true 13 (t 1)) <| o 14 (.load true 13 (t 1)) <| F 14 (.agg SA13) <| O 15 (.call 41 [(t 14)]) <| F 13 (.agg SA13) <| O 16 (.call 43 [(t 13), (t 15)]) <| O 17 (.call 60 [(t 16)]) <| (.op (some 6) (.growBox true 22 3 1) .no <| n (.store 1 (t 6) (t 17)) <| z)) <|
  (S (S (R <| o 18 (.load true 13 (t 1)) <| F 18 (.agg SA13) <| o 19 (.call 45 [(t 18)]) <| o 20 (.field false 6 1 (t 19)) <| o 21 (.un .not (t 20)) <| z) <|
  (.cond (t 21) [2] [3, 4, 5, 22, 23]
  (S (D <| m 22 2 <| l 23 6 <| m 2 22 <| m 3 23 <| o 4 (.move (.const (.slice none 0 0))) <| o 5 (.move (i 0)) <| z) <|
  .ret)
  .skip)) <|
  (S (R <| o 24 (.mkFunc 61 [] [(t 6), (t 1)]) <| o 25 (.call 60 [(t 24)]) <| m 3 25 <| z) <|
  (S (D <| m 26 2 <| m 27 3 <| l 28 6 <| m 2 26 <| m 3 27 <| m 4 28 <| o 5 (.move (i 0)) <| z) <|
  .ret))))))), [.tmp 2, .tmp 3, .tmp 4, .tmp 5], [(.flat 1), (.flat 1), (.flat 1), .keep]⟩
theorem ok19 : ∃ fn c, FunOk Tryz.prog 19 fn c A19.erase := ⟨Tryz.f19, _, ⟨Tryz.func19, rfl, by kernel_rfl, by kernel_rfl, by kernel_rfl, of_decide_eq_true (by kernel_rfl), by kernel_rfl⟩⟩
noncomputable def s19 (Γ : PCallee) (n : Nat) (x0 : PV) (h : PHeap) : Pt := forkP (.ptr h.length 0) (h ++ [.box (cellsP x0) 27 .rw]) fun v0 h1 => (loadP true 13 v0 h1).bind fun v2 => (fz (.agg SA13) v2 h1).bind fun q3 => (Γ 16 [q3.1] q3.2).bind fun p4 => (unP .not p4.1).bind fun v5 => KL (fun w7 h8 => (loadP true 13 v0 h8).bind fun v9 => (fz (.agg SA13) v9 h8).bind fun q10 => (Γ 41 [q10.1] q10.2).bind fun p11 => (Γ 60 [p11.1] p11.2).bind fun p12 => (loadP true 13 v0 p12.2).bind fun v13 => (loadP true 13 v0 p12.2).bind fun v14 => (fz (.agg SA13) v14 p12.2).bind fun q15 => (Γ 41 [q15.1] (lock q15.2)).bind fun p16 => unl q15.2 p16.2 fun h17 => (fz (.agg SA13) v13 h17).bind fun q18 => (Γ 43 [q18.1, p16.1] (lock q18.2)).bind fun p19 => unl q18.2 p19.2 fun h20 => (Γ 60 [p19.1] (lock h20)).bind fun p21 => unl h20 p21.2 fun h22 => forkP (.ptr (h22.length + 1) 0) (h22 ++ [.log [] 1 3 .rw, .box [.ref h22.length 0 0 0 1] 22 .rw]) fun v23 h24 => (storeP 1 v23 p21.1 h24).bind fun h25 => (loadP true 13 v0 h25).bind fun v26 => (fz (.agg SA13) v26 h25).bind fun q27 => (Γ 45 [q27.1] q27.2).bind fun p28 => (fieldP false 6 1 p28.1).bind fun v29 => (unP .not v29).bind fun v30 => KL (fun w32 h33 => (Γ 60 [(PV.func 61 [] [v23, v0])] h33).bind fun p34 => (loadP false 1 v23 p34.2).bind fun v35 => finP [(.flat 1), (.flat 1), (.flat 1), .keep] h p34.2 [(nthP w32 0), p34.1, v35, (.int .i64 0 : PV)]) fun j31 => ifP v30 ( (loadP false 1 v23 p28.2).bind fun v36 => finP [(.flat 1), (.flat 1), (.flat 1), .keep] h p28.2 [p12.1, v36, (.nilS : PV), (.int .i64 0 : PV)]) ( j31 [p12.1] p28.2)) fun j6 => ifP v5 ( finP [(.flat 1), (.flat 1), (.flat 1), .keep] h p4.2 [(.nilS : PV), (.nilS : PV), (.nilS : PV), (.int .i64 1 : PV)]) ( j6 [] p4.2)
theorem s19_eq (Γ : PCallee) (n : Nat) (x0 : PV) (h : PHeap) : pfunK Γ n A19 [x0] h = s19 Γ n x0 h := by kernel_rfl
open Go.Vm.G in
def A24 : PFun := ⟨1, 50, (S (R <| o 1 (.box 27 (t 0)) <| o 2 (.move (.const (.string ⟨#[]⟩))) <| o 3 (.move (i 0)) <| o 4 (.move (i 0)) <| z) <|
  (S (R <| f 13 1 1 <| l 14 13 <| o 15 (.call 53 [(t 14)]) <| m 12 15 <| o 16 (.extract (t 12) 0) <| o 17 (.extract (t 12) 1) <| o 5 (.new 83 V29) <| n (.store 29 (t 5) (t 16)) <| m 6 17 <| z) <|
  (S (R <| o 18 (.load true 13 (t 1)) <| o 19 (.load true 29 (t 5)) <| o 20 (.build V42 [(0, 13, (t 18)), (13, 29, (t 19))]) <| o 7 (.new 104 V42) <| n (.store 42 (t 7) (t 20)) <| z) <|
  (S (S (R <| o 21 (.load true 42 (t 7)) <| o 22 (.mkFunc 68 [(t 21)] []) <| o 23 (.load true 42 (t 7)) <| o 24 (.mkFunc 69 [(t 23)] []) <| o 25 (.load true 42 (t 7)) <| o 26 (.mkFunc 70 [(t 25)] []) <| o 27 (.load true 42 (t 7)) <| o 28 (.mkFunc 71 [(t 27)] []) <| o 29 (.load true 42 (t 7)) <| o 30 (.mkFunc 72 [(t 29)] []) <| o 31 (.buildSlice 105 [.nilFunc] 5 [(0, 1, (t 22)), (1, 1, (t 24)), (2, 1, (t 26)), (3, 1, (t 28)), (4, 1, (t 30))]) <| o 32 (.len false (t 31)) <| o 33 (.move (i 0)) <| z) <|
  (.block 0 [] ([2, 3, 4, 9, 10, 11] ++ g 33 17)
  (.loop [33] ([2, 3, 4, 9, 10, 11] ++ g 34 16)
  (S (R <| b 34 .lss (t 33) (t 32) <| z) <|
  (S (.cond (t 34) [] []
  .skip
  (.exit 0)) <|
  (S (.block 1 [] ([2, 3, 4, 9, 10, 11] ++ g 35 14)
  (S (R <| o 35 (.indexAddr 1 (t 31) (t 33)) <| l 36 35 <| m 9 36 <| z) <|
  (S (R <| m 38 9 <| o 39 (.callV (t 38) []) <| m 37 39 <| o 40 (.extract (t 37) 0) <| o 41 (.extract (t 37) 1) <| o 10 (.new 108 [(.string ⟨#[]⟩), (.int .i64 0), (.int .i64 0)]) <| n (.store 3 (t 10) (t 40)) <| m 11 41 <| z) <|
  (S (R <| m 42 11 <| z) <|
  (.cond (t 42) [] ([2, 3, 4] ++ g 43 6)
  (S (D <| f 43 0 10 <| l 44 43 <| f 45 1 10 <| l 46 45 <| f 47 2 10 <| l 48 47 <| m 2 44 <| m 3 46 <| m 4 48 <| z) <|
  .ret)
  .skip))))) <|
  (R <| b 49 .add (t 33) (i 1) <| m 33 49 <| z))))))) <|
  (S (R <| o 2 (.move (.const (.string ⟨#[]⟩))) <| o 3 (.move (i (-1))) <| o 4 (.move (i 0)) <| z) <|
  .ret))))), [.tmp 2, .tmp 3, .tmp 4], [.keep, .keep, .keep]⟩
theorem ok24 : ∃ fn c, FunOk Tryz.prog 24 fn c A24.erase := ⟨Tryz.f24, _, ⟨Tryz.func24, rfl, by kernel_rfl, by kernel_rfl, by kernel_rfl, of_decide_eq_true (by kernel_rfl), by kernel_rfl⟩⟩
noncomputable def s24_L0 (Γ : PCallee) (n : Nat) (h : PHeap) (v22 : PV) (h23 : PHeap) (v24 : PV) (j25 : Kt) : (Kt) → Kt := fun c28 w29 h30 => (binP .lss (nthP w29 0) v24).bind fun v31 => KL (fun w33 h34 => KL (fun w36 h37 => (binP .add (nthP w29 0) (.int .i64 1 : PV)).bind fun v38 => c28 [v38] (trim h23 [v38] h37)) fun j35 => (indexAddrP 1 v22 (nthP w29 0)).bind fun v39 => (loadP false 1 v39 h34).bind fun v40 => (callVP Γ v40 [] h34).bind fun p41 => (extractP p41.1 0).bind fun v42 => (extractP p41.1 1).bind fun v43 => forkP (.ptr p41.2.length 0) (p41.2 ++ [.box [.str ⟨#[]⟩, .int .i64 0, .int .i64 0] 108 .rw]) fun v44 h45 => (storeP 3 v44 v42 h45).bind fun h46 => KL (fun w48 h49 => j35 [] h49) fun j47 => ifP v43 ( (fieldAddrP 0 v44).bind fun v50 => (loadP false 1 v50 h46).bind fun v51 => (fieldAddrP 1 v44).bind fun v52 => (loadP false 1 v52 h46).bind fun v53 => (fieldAddrP 2 v44).bind fun v54 => (loadP false 1 v54 h46).bind fun v55 => finP [.keep, .keep, .keep] h h46 [v51, v53, v55]) ( j47 [] h46)) fun j32 => ifP v31 ( j32 [] h30) ( j25 [] h30)
noncomputable def s24 (Γ : PCallee) (n : Nat) (x0 : PV) (h : PHeap) : Pt := forkP (.ptr h.length 0) (h ++ [.box (cellsP x0) 27 .rw]) fun v0 h1 => (fieldAddrP 1 v0).bind fun v2 => (loadP false 1 v2 h1).bind fun v3 => (Γ 53 [v3] h1).bind fun p4 => (extractP p4.1 0).bind fun v5 => (extractP p4.1 1).bind fun v6 => forkP (.ptr p4.2.length 0) (p4.2 ++ [.box Z29 83 .rw]) fun v7 h8 => (storeP 29 v7 v5 h8).bind fun h9 => (loadP true 13 v0 h9).bind fun v10 => (loadP true 29 v7 h9).bind fun v11 => (fillP Z42 [(0, 13, v10), (13, 29, v11)]).bind fun l12 => forkP (.ptr h9.length 0) (h9 ++ [.box Z42 104 .rw]) fun v13 h14 => (storeP 42 v13 (PV.agg l12) h14).bind fun h15 => (loadP true 42 v13 h15).bind fun v16 => (loadP true 42 v13 h15).bind fun v17 => (loadP true 42 v13 h15).bind fun v18 => (loadP true 42 v13 h15).bind fun v19 => (loadP true 42 v13 h15).bind fun v20 => (fillP (repP [.nilF] 5) [(0, 1, (PV.func 68 [v16] [])), (1, 1, (PV.func 69 [v17] [])), (2, 1, (PV.func 70 [v18] [])), (3, 1, (PV.func 71 [v19] [])), (4, 1, (PV.func 72 [v20] []))]).bind fun l21 => forkP (.ref h15.length 0 5 5 1) (h15 ++ [.log (chunk 1 5 l21) 1 105 .rw]) fun v22 h23 => (lenP false v22).bind fun v24 => KL (fun w26 h27 => finP [.keep, .keep, .keep] h h27 [(.str ⟨#[]⟩ : PV), (.int .i64 (-1) : PV), (.int .i64 0 : PV)]) fun j25 => loopP (s24_L0 Γ n h v22 h23 v24 j25) n [(.int .i64 0 : PV)] h23
theorem s24_eq (Γ : PCallee) (n : Nat) (x0 : PV) (h : PHeap) : pfunK Γ n A24 [x0] h = s24 Γ n x0 h := by kernel_rfl
open Go.Vm.G in
def A33 : PFun := ⟨2, 26, (S (R <| o 4 (.move (.const (.bool false))) <| z) <|
  (S (S (R <| m 6 0 <| o 7 (.len false (t 6)) <| m 8 1 <| o 9 (.len false (t 8)) <| b 10 .neq (t 7) (t 9) <| z) <|
  (.cond (t 10) [] [4]
  (S (R <| o 4 (.move (.const (.bool false))) <| z) <|
  .ret)
  .skip)) <|
  (S (S (R <| m 11 0 <| o 12 (.len false (t 11)) <| o 13 (.move (i 0)) <| z) <|
  (.block 0 [] ([4, 5] ++ g 13 13)
  (.loop [13] ([4, 5] ++ g 14 12)
  (S (R <| b 14 .lss (t 13) (t 12) <| z) <|
  (S (.cond (t 14) [] []
  .skip
  (.exit 0)) <|
  (S (.block 1 [] ([4, 5] ++ g 15 10)
  (S (R <| m 15 13 <| m 5 15 <| z) <|
  (S (D <| m 16 0 <| m 17 5 <| o 18 (.indexAddr 1 (t 16) (t 17)) <| l 19 18 <| m 20 1 <| m 21 5 <| o 22 (.indexAddr 1 (t 20) (t 21)) <| l 23 22 <| b 24 .neq (t 19) (t 23) <| z) <|
  (.cond (t 24) [] [4]
  (S (R <| o 4 (.move (.const (.bool false))) <| z) <|
  .ret)
  .skip)))) <|
  (R <| b 25 .add (t 13) (i 1) <| m 13 25 <| z))))))) <|
  (S (R <| o 4 (.move (.const (.bool true))) <| z) <|
  .ret)))), [.tmp 4], [.keep]⟩
theorem ok33 : ∃ fn c, FunOk Tryz.prog 33 fn c A33.erase := ⟨Tryz.f33, _, ⟨Tryz.func33, rfl, by kernel_rfl, by kernel_rfl, by kernel_rfl, of_decide_eq_true (by kernel_rfl), by kernel_rfl⟩⟩
noncomputable def s33_L0 (Γ : PCallee) (n : Nat) (x0 : PV) (x1 : PV) (h : PHeap) (h5 : PHeap) (v6 : PV) (j7 : Kt) : (Kt) → Kt := fun c10 w11 h12 => (binP .lss (nthP w11 0) v6).bind fun v13 => KL (fun w15 h16 => KL (fun w18 h19 => (binP .add (nthP w11 0) (.int .i64 1 : PV)).bind fun v20 => c10 [v20] (trim h5 [v20] h19)) fun j17 => (indexAddrP 1 x0 (nthP w11 0)).bind fun v21 => (loadP false 1 v21 h16).bind fun v22 => (indexAddrP 1 x1 (nthP w11 0)).bind fun v23 => (loadP false 1 v23 h16).bind fun v24 => (binP .neq v22 v24).bind fun v25 => KL (fun w27 h28 => j17 [] h28) fun j26 => ifP v25 ( finP [.keep] h h16 [(.bool false : PV)]) ( j26 [] h16)) fun j14 => ifP v13 ( j14 [] h12) ( j7 [] h12)
noncomputable def s33 (Γ : PCallee) (n : Nat) (x0 : PV) (x1 : PV) (h : PHeap) : Pt := (lenP false x0).bind fun v0 => (lenP false x1).bind fun v1 => (binP .neq v0 v1).bind fun v2 => KL (fun w4 h5 => (lenP false x0).bind fun v6 => KL (fun w8 h9 => finP [.keep] h h9 [(.bool true : PV)]) fun j7 => loopP (s33_L0 Γ n x0 x1 h h5 v6 j7) n [(.int .i64 0 : PV)] h5) fun j3 => ifP v2 ( finP [.keep] h h [(.bool false : PV)]) ( j3 [] h)
theorem s33_eq (Γ : PCallee) (n : Nat) (x0 : PV) (x1 : PV) (h : PHeap) : pfunK Γ n A33 [x0, x1] h = s33 Γ n x0 x1 h := by kernel_rfl
open Go.Vm.G in
def A34 : PFun := ⟨2, 90, (S (R <| o 2 (.box 27 (t 0)) <| o 3 (.box 27 (t 1)) <| o 4 (.move (.const (.bool false))) <| z) <|
  (S (S (R <| f 8 10 2 <| l 9 8 <| o 10 (.len false (t 9)) <| f 11 10 3 <| l 12 11 <| o 13 (.len false (t 12)) <| b 14 .neq (t 10) (t 13) <| m 15 14 <| q 23 15 false (g 16 7) (f 16 11 2 <| l 17 16 <| o 18 (.len false (t 17)) <| f 19 11 3 <| l 20 19 <| o 21 (.len false (t 20)) <| b 22 .neq (t 18) (t 21) <| z) (t 22) <|
  m 24 23 <| q 32 24 false (g 25 7) (f 25 12 2 <| l 26 25 <| o 27 (.len false (t 26)) <| f 28 12 3 <| l 29 28 <| o 30 (.len false (t 29)) <| b 31 .neq (t 27) (t 30) <| z) (t 31) <|
  z) <|
  (.cond (t 32) [] [4]
  (S (R <| o 4 (.move (.const (.bool false))) <| z) <|
  .ret)
  .skip)) <|
  (S (S (R <| f 33 10 2 <| l 34 33 <| o 35 (.len false (t 34)) <| o 36 (.move (i 0)) <| z) <|
  (.block 0 [] ([4, 5] ++ g 36 16)
  (.loop [36] ([4, 5] ++ g 37 15)
  (S (R <| b 37 .lss (t 36) (t 35) <| z) <|
  (S (.cond (t 37) [] []
  .skip
  (.exit 0)) <|
  (S (.block 1 [] ([4, 5] ++ g 38 13)
  (S (R <| m 38 36 <| m 5 38 <| z) <|
  (S (D <| f 39 10 2 <| l 40 39 <| m 41 5 <| o 42 (.indexAddr 2 (t 40) (t 41)) <| o 43 (.load true 2 (t 42)) <| f 44 10 3 <| l 45 44 <| m 46 5 <| o 47 (.indexAddr 2 (t 45) (t 46)) <| o 48 (.load true 2 (t 47)) <| o 49 (.call 76 [(t 43), (t 48)]) <| o 50 (.un .not (t 49)) <| z) <|
  (.cond (t 50) [] [4]
  (S (R <| o 4 (.move (.const (.bool false))) <| z) <|
  .ret)
  .skip)))) <|
  (R <| b 51 .add (t 36) (i 1) <| m 36 51 <| z))))))) <|
  (S (S (R <| f 52 11 2 <| l 53 52 <| o 54 (.len false (t 53)) <| o 55 (.move (i 0)) <| z) <|
  (.block 2 [] ([4, 6] ++ g 55 16)
  (.loop [55] ([4, 6] ++ g 56 15)
  (S (R <| b 56 .lss (t 55) (t 54) <| z) <|
  (S (.cond (t 56) [] []
  .skip
  (.exit 2)) <|
  (S (.block 3 [] ([4, 6] ++ g 57 13)
  (S (R <| m 57 55 <| m 6 57 <| z) <|
  (S (D <| f 58 11 2 <| l 59 58 <| m 60 6 <| o 61 (.indexAddr 13 (t 59) (t 60)) <| o 62 (.load true 13 (t 61)) <| f 63 11 3 <| l 64 63 <| m 65 6 <| o 66 (.indexAddr 13 (t 64) (t 65)) <| o 67 (.load true 13 (t 66)) <| o 68 (.call 77 [(t 62), (t 67)]) <| o 69 (.un .not (t 68)) <| z) <|
  (.cond (t 69) [] [4]
  (S (R <| o 4 (.move (.const (.bool false))) <| z) <|
  .ret)
  .skip)))) <|
  (R <| b 70 .add (t 55) (i 1) <| m 55 70 <| z))))))) <|
  (S (S (R <| f 71 12 2 <| l 72 71 <| o 73 (.len false (t 72)) <| o 74 (.move (i 0)) <| z) <|
  (.block 4 [] ([4, 7] ++ g 74 16)
  (.loop [74] ([4, 7] ++ g 75 15)
  (S (R <| b 75 .lss (t 74) (t 73) <| z) <|
  (S (.cond (t 75) [] []
  .skip
  (.exit 4)) <|
  (S (.block 5 [] ([4, 7] ++ g 76 13)
  (S (R <| m 76 74 <| m 7 76 <| z) <|
  (S (D <| f 77 12 2 <| l 78 77 <| m 79 7 <| o 80 (.indexAddr 33 (t 78) (t 79)) <| o 81 (.load true 33 (t 80)) <| f 82 12 3 <| l 83 82 <| m 84 7 <| o 85 (.indexAddr 33 (t 83) (t 84)) <| o 86 (.load true 33 (t 85)) <| o 87 (.call 78 [(t 81), (t 86)]) <| o 88 (.un .not (t 87)) <| z) <|
  (.cond (t 88) [] [4]
  (S (R <| o 4 (.move (.const (.bool false))) <| z) <|
  .ret)
  .skip)))) <|
  (R <| b 89 .add (t 74) (i 1) <| m 74 89 <| z))))))) <|
  (S (R <| o 4 (.move (.const (.bool true))) <| z) <|
  .ret)))))), [.tmp 4], [.keep]⟩
theorem ok34 : ∃ fn c, FunOk Tryz.prog 34 fn c A34.erase := ⟨Tryz.f34, _, ⟨Tryz.func34, rfl, by kernel_rfl, by kernel_rfl, by kernel_rfl, of_decide_eq_true (by kernel_rfl), by kernel_rfl⟩⟩
noncomputable def s34_L0 (Γ : PCallee) (n : Nat) (h : PHeap) (v0 : PV) (v2 : PV) (h31 : PHeap) (v34 : PV) (j35 : Kt) : (Kt) → Kt := fun c38 w39 h40 => (binP .lss (nthP w39 0) v34).bind fun v41 => KL (fun w43 h44 => KL (fun w46 h47 => (binP .add (nthP w39 0) (.int .i64 1 : PV)).bind fun v48 => c38 [v48] (trim h31 [v48] h47)) fun j45 => (fieldAddrP 12 v0).bind fun v49 => (loadP false 1 v49 h44).bind fun v50 => (indexAddrP 33 v50 (nthP w39 0)).bind fun v51 => (loadP true 33 v51 h44).bind fun v52 => (fieldAddrP 12 v2).bind fun v53 => (loadP false 1 v53 h44).bind fun v54 => (indexAddrP 33 v54 (nthP w39 0)).bind fun v55 => (loadP true 33 v55 h44).bind fun v56 => (Γ 78 [v52, v56] h44).bind fun p57 => (unP .not p57.1).bind fun v58 => KL (fun w60 h61 => j45 [] h61) fun j59 => ifP v58 ( finP [.keep] h p57.2 [(.bool false : PV)]) ( j59 [] p57.2)) fun j42 => ifP v41 ( j42 [] h40) ( j35 [] h40)
noncomputable def s34_L1 (Γ : PCallee) (n : Nat) (h : PHeap) (v0 : PV) (v2 : PV) (h25 : PHeap) (v28 : PV) (j29 : Kt) : (Kt) → Kt := fun c62 w63 h64 => (binP .lss (nthP w63 0) v28).bind fun v65 => KL (fun w67 h68 => KL (fun w70 h71 => (binP .add (nthP w63 0) (.int .i64 1 : PV)).bind fun v72 => c62 [v72] (trim h25 [v72] h71)) fun j69 => (fieldAddrP 11 v0).bind fun v73 => (loadP false 1 v73 h68).bind fun v74 => (indexAddrP 13 v74 (nthP w63 0)).bind fun v75 => (loadP true 13 v75 h68).bind fun v76 => (fieldAddrP 11 v2).bind fun v77 => (loadP false 1 v77 h68).bind fun v78 => (indexAddrP 13 v78 (nthP w63 0)).bind fun v79 => (loadP true 13 v79 h68).bind fun v80 => (Γ 77 [v76, v80] h68).bind fun p81 => (unP .not p81.1).bind fun v82 => KL (fun w84 h85 => j69 [] h85) fun j83 => ifP v82 ( finP [.keep] h p81.2 [(.bool false : PV)]) ( j83 [] p81.2)) fun j66 => ifP v65 ( j66 [] h64) ( j29 [] h64)
noncomputable def s34_L2 (Γ : PCallee) (n : Nat) (h : PHeap) (v0 : PV) (v2 : PV) (h19 : PHeap) (v22 : PV) (j23 : Kt) : (Kt) → Kt := fun c86 w87 h88 => (binP .lss (nthP w87 0) v22).bind fun v89 => KL (fun w91 h92 => KL (fun w94 h95 => (binP .add (nthP w87 0) (.int .i64 1 : PV)).bind fun v96 => c86 [v96] (trim h19 [v96] h95)) fun j93 => (fieldAddrP 10 v0).bind fun v97 => (loadP false 1 v97 h92).bind fun v98 => (indexAddrP 2 v98 (nthP w87 0)).bind fun v99 => (loadP true 2 v99 h92).bind fun v100 => (fieldAddrP 10 v2).bind fun v101 => (loadP false 1 v101 h92).bind fun v102 => (indexAddrP 2 v102 (nthP w87 0)).bind fun v103 => (loadP true 2 v103 h92).bind fun v104 => (Γ 76 [v100, v104] h92).bind fun p105 => (unP .not p105.1).bind fun v106 => KL (fun w108 h109 => j93 [] h109) fun j107 => ifP v106 ( finP [.keep] h p105.2 [(.bool false : PV)]) ( j107 [] p105.2)) fun j90 => ifP v89 ( j90 [] h88) ( j23 [] h88)
noncomputable def s34 (Γ : PCallee) (n : Nat) (x0 : PV) (x1 : PV) (h : PHeap) : Pt := forkP (.ptr h.length 0) (h ++ [.box (cellsP x0) 27 .rw]) fun v0 h1 => forkP (.ptr h1.length 0) (h1 ++ [.box (cellsP x1) 27 .rw]) fun v2 h3 => (fieldAddrP 10 v0).bind fun v4 => (loadP false 1 v4 h3).bind fun v5 => (lenP false v5).bind fun v6 => (fieldAddrP 10 v2).bind fun v7 => (loadP false 1 v7 h3).bind fun v8 => (lenP false v8).bind fun v9 => (binP .neq v6 v9).bind fun v10 => K1 (fun v12 h13 => K1 (fun v15 h16 => KL (fun w18 h19 => (fieldAddrP 10 v0).bind fun v20 => (loadP false 1 v20 h19).bind fun v21 => (lenP false v21).bind fun v22 => KL (fun w24 h25 => (fieldAddrP 11 v0).bind fun v26 => (loadP false 1 v26 h25).bind fun v27 => (lenP false v27).bind fun v28 => KL (fun w30 h31 => (fieldAddrP 12 v0).bind fun v32 => (loadP false 1 v32 h31).bind fun v33 => (lenP false v33).bind fun v34 => KL (fun w36 h37 => finP [.keep] h h37 [(.bool true : PV)]) fun j35 => loopP (s34_L0 Γ n h v0 v2 h31 v34 j35) n [(.int .i64 0 : PV)] h31) fun j29 => loopP (s34_L1 Γ n h v0 v2 h25 v28 j29) n [(.int .i64 0 : PV)] h25) fun j23 => loopP (s34_L2 Γ n h v0 v2 h19 v22 j23) n [(.int .i64 0 : PV)] h19) fun j17 => ifP v15 ( finP [.keep] h h16 [(.bool false : PV)]) ( j17 [] h16)) fun j14 => scP v12 false ( (fieldAddrP 12 v0).bind fun v110 => (loadP false 1 v110 h13).bind fun v111 => (lenP false v111).bind fun v112 => (fieldAddrP 12 v2).bind fun v113 => (loadP false 1 v113 h13).bind fun v114 => (lenP false v114).bind fun v115 => (binP .neq v112 v115).bind fun v116 => j14 v116 h13) (j14 (.bool true) h13)) fun j11 => scP v10 false ( (fieldAddrP 11 v0).bind fun v117 => (loadP false 1 v117 h3).bind fun v118 => (lenP false v118).bind fun v119 => (fieldAddrP 11 v2).bind fun v120 => (loadP false 1 v120 h3).bind fun v121 => (lenP false v121).bind fun v122 => (binP .neq v119 v122).bind fun v123 => j11 v123 h3) (j11 (.bool true) h3)
theorem s34_eq (Γ : PCallee) (n : Nat) (x0 : PV) (x1 : PV) (h : PHeap) : pfunK Γ n A34 [x0, x1] h = s34 Γ n x0 x1 h := by kernel_rfl
open Go.Vm.G in
def A41 : PFun := ⟨1, 4, (S (R <| o 1 (.box 27 (t 0)) <| o 2 (.move (.const .nilFunc)) <| z) <|
  (S (R <| o 3 (.mkFunc 94 [] [(t 1)]) <| m 2 3 <| z) <|
  .ret)), [.tmp 2], [.keep]⟩
theorem ok41 : ∃ fn c, FunOk Tryz.prog 41 fn c A41.erase := ⟨Tryz.f41, _, ⟨Tryz.func41, rfl, by kernel_rfl, by kernel_rfl, by kernel_rfl, of_decide_eq_true (by kernel_rfl), by kernel_rfl⟩⟩
noncomputable def s41 (Γ : PCallee) (n : Nat) (x0 : PV) (h : PHeap) : Pt := forkP (.ptr h.length 0) (h ++ [.box (cellsP x0) 27 .rw]) fun v0 h1 => finP [.keep] h h1 [(PV.func 94 [] [v0])]
theorem s41_eq (Γ : PCallee) (n : Nat) (x0 : PV) (h : PHeap) : pfunK Γ n A41 [x0] h = s41 Γ n x0 h := by kernel_rfl
open Go.Vm.G in
def A43 : PFun := ⟨2, 6, (S (R <| o 2 (.box 27 (t 0)) <| o 3 (.box 77 (t 1)) <| o 4 (.move (.const .nilFunc)) <| z) <|
  (S (R <| o 5 (.mkFunc 96 [] [(t 3), (t 2)]) <| m 4 5 <| z) <|
  .ret)), [.tmp 4], [.keep]⟩
theorem ok43 : ∃ fn c, FunOk Tryz.prog 43 fn c A43.erase := ⟨Tryz.f43, _, ⟨Tryz.func43, rfl, by kernel_rfl, by kernel_rfl, by kernel_rfl, of_decide_eq_true (by kernel_rfl), by kernel_rfl⟩⟩
noncomputable def s43 (Γ : PCallee) (n : Nat) (x0 : PV) (x1 : PV) (h : PHeap) : Pt := forkP (.ptr h.length 0) (h ++ [.box (cellsP x0) 27 .rw]) fun v0 h1 => forkP (.ptr h1.length 0) (h1 ++ [.box (cellsP x1) 77 .rw]) fun v2 h3 => finP [.keep] h h3 [(PV.func 96 [] [v2, v0])]
theorem s43_eq (Γ : PCallee) (n : Nat) (x0 : PV) (x1 : PV) (h : PHeap) : pfunK Γ n A43 [x0, x1] h = s43 Γ n x0 x1 h := by kernel_rfl
open Go.Vm.G in
def A45 : PFun := ⟨1, 12, (S (R <| o 1 (.box 27 (t 0)) <| o 2 (.new 83 V29) <| z) <|
  (S (R <| f 6 1 1 <| l 7 6 <| o 8 (.call 53 [(t 7)]) <| m 5 8 <| o 9 (.extract (t 5) 0) <| o 10 (.extract (t 5) 1) <| o 3 (.new 83 V29) <| n (.store 29 (t 3) (t 9)) <| m 4 10 <| z) <|
  (S (R <| o 11 (.load true 29 (t 3)) <| n (.store 29 (t 2) (t 11)) <| z) <|
  .ret))), [.cell 2 true 29], [.keep]⟩
theorem ok45 : ∃ fn c, FunOk Tryz.prog 45 fn c A45.erase := ⟨Tryz.f45, _, ⟨Tryz.func45, rfl, by kernel_rfl, by kernel_rfl, by kernel_rfl, of_decide_eq_true (by kernel_rfl), by kernel_rfl⟩⟩
noncomputable def s45 (Γ : PCallee) (n : Nat) (x0 : PV) (h : PHeap) : Pt := forkP (.ptr h.length 0) (h ++ [.box (cellsP x0) 27 .rw]) fun v0 h1 => forkP (.ptr h1.length 0) (h1 ++ [.box Z29 83 .rw]) fun v2 h3 => (fieldAddrP 1 v0).bind fun v4 => (loadP false 1 v4 h3).bind fun v5 => (Γ 53 [v5] h3).bind fun p6 => (extractP p6.1 0).bind fun v7 => (extractP p6.1 1).bind fun v8 => forkP (.ptr p6.2.length 0) (p6.2 ++ [.box Z29 83 .rw]) fun v9 h10 => (storeP 29 v9 v7 h10).bind fun h11 => (loadP true 29 v9 h11).bind fun v12 => (storeP 29 v2 v12 h11).bind fun h13 => (loadP true 29 v2 h13).bind fun v14 => finP [.keep] h h13 [v14]
theorem s45_eq (Γ : PCallee) (n : Nat) (x0 : PV) (h : PHeap) : pfunK Γ n A45 [x0] h = s45 Γ n x0 h := by kernel_rfl
open Go.Vm.G in
def A53 : PFun := ⟨1, 11, (S (R <| o 2 (.new 83 V29) <| o 3 (.move (i 0)) <| z) <|
  (S (S (R <| m 4 0 <| o 5 (.call 101 [(t 4)]) <| o 6 (.un .not (t 5)) <| z) <|
  (.cond (t 6) [] [3, 7]
  (S (R <| o 7 (.build V29 []) <| n (.store 29 (t 2) (t 7)) <| o 3 (.move (i 6)) <| z) <|
  .ret)
  .skip)) <|
  (S (R <| o 8 (.call 102 []) <| m 9 0 <| o 10 (.indexArr 7 true 29 (t 8) (t 9)) <| n (.store 29 (t 2) (t 10)) <| o 3 (.move (i 0)) <| z) <|
  .ret))), [.cell 2 true 29, .tmp 3], [.keep, .keep]⟩
theorem ok53 : ∃ fn c, FunOk Tryz.prog 53 fn c A53.erase := ⟨Tryz.f53, _, ⟨Tryz.func53, rfl, by kernel_rfl, by kernel_rfl, by kernel_rfl, of_decide_eq_true (by kernel_rfl), by kernel_rfl⟩⟩
noncomputable def s53 (Γ : PCallee) (n : Nat) (x0 : PV) (h : PHeap) : Pt := forkP (.ptr h.length 0) (h ++ [.box Z29 83 .rw]) fun v0 h1 => (Γ 101 [x0] h1).bind fun p2 => (unP .not p2.1).bind fun v3 => KL (fun w5 h6 => (Γ 102 [] h6).bind fun p7 => (indexArrP 7 true 29 p7.1 x0).bind fun v8 => (storeP 29 v0 v8 p7.2).bind fun h9 => (loadP true 29 v0 h9).bind fun v10 => finP [.keep, .keep] h h9 [v10, (.int .i64 0 : PV)]) fun j4 => ifP v3 ( (fillP Z29 []).bind fun l11 => (storeP 29 v0 (PV.agg l11) p2.2).bind fun h12 => (loadP true 29 v0 h12).bind fun v13 => finP [.keep, .keep] h h12 [v13, (.int .i64 6 : PV)]) ( j4 [] p2.2)
theorem s53_eq (Γ : PCallee) (n : Nat) (x0 : PV) (h : PHeap) : pfunK Γ n A53 [x0] h = s53 Γ n x0 h := by kernel_rfl
open Go.Vm.G in
def A54 : PFun := ⟨3, 15, (S (R <| o 6 (.move (.const (.bool false))) <| z) <|
  (S (R <| m 7 0 <| m 8 1 <| b 9 .geq (t 7) (t 8) <| m 10 9 <| q 14 10 true [11, 12, 13] (m 11 0 <| m 12 2 <| b 13 .leq (t 11) (t 12) <| z) (t 13) <|
  m 6 14 <| z) <|
  .ret)), [.tmp 6], [.keep]⟩
theorem ok54 : ∃ fn c, FunOk Tryz.prog 54 fn c A54.erase := ⟨Tryz.f54, _, ⟨Tryz.func54, rfl, by kernel_rfl, by kernel_rfl, by kernel_rfl, of_decide_eq_true (by kernel_rfl), by kernel_rfl⟩⟩
noncomputable def s54 (Γ : PCallee) (n : Nat) (x0 : PV) (x1 : PV) (x2 : PV) (h : PHeap) : Pt := (binP .geq x0 x1).bind fun v0 => K1 (fun v2 h3 => finP [.keep] h h3 [v2]) fun j1 => scP v0 true ( (binP .leq x0 x2).bind fun v4 => j1 v4 h) (j1 (.bool false) h)
theorem s54_eq (Γ : PCallee) (n : Nat) (x0 : PV) (x1 : PV) (x2 : PV) (h : PHeap) : pfunK Γ n A54 [x0, x1, x2] h = s54 Γ n x0 x1 x2 h := by kernel_rfl
open Go.Vm.G in
def A55 : PFun := ⟨2, 22, (S (R <| o 4 (.new 39 [(.int .i64 0), (.slice none 0 0)]) <| o 5 (.move (i 0)) <| z) <|
  (S (.block 0 [] (g 5 11)
  (S (R <| m 7 1 <| o 8 (.call 103 [(t 7)]) <| o 9 (.un .not (t 8)) <| m 6 9 <| z) <|
  (.cond (t 6) [] ([5] ++ g 10 6)
  (S (R <| o 10 (.build [(.int .i64 0), (.slice none 0 0)] []) <| n (.store 2 (t 4) (t 10)) <| o 5 (.move (i 1)) <| z) <|
  .ret)
  (S (R <| m 12 0 <| o 13 (.call 104 [(t 12), (i 1), (i 64)]) <| o 14 (.un .not (t 13)) <| m 11 14 <| z) <|
  (.cond (t 11) [] [5, 15]
  (S (R <| o 15 (.build [(.int .i64 0), (.slice none 0 0)] []) <| n (.store 2 (t 4) (t 15)) <| o 5 (.move (i 5)) <| z) <|
  .ret)
  .skip))))) <|
  (S (R <| m 16 0 <| m 17 0 <| m 18 1 <| b 19 .mul (t 17) (t 18) <| o 20 (.mkSlice 41 [(.int .i64 0), (.int .i64 0), (.int .i64 0), (.int .i64 0), (.int .i64 0), (.int .i64 0)] (t 19) (t 19)) <| o 21 (.build [(.int .i64 0), (.slice none 0 0)] [(0, 1, (t 16)), (1, 1, (t 20))]) <| n (.store 2 (t 4) (t 21)) <| o 5 (.move (i 0)) <| z) <|
  .ret))), [.cell 4 true 2, .tmp 5], [(.agg [.keep, (.flat 6)]), .keep]⟩
theorem ok55 : ∃ fn c, FunOk Tryz.prog 55 fn c A55.erase := ⟨Tryz.f55, _, ⟨Tryz.func55, rfl, by kernel_rfl, by kernel_rfl, by kernel_rfl, of_decide_eq_true (by kernel_rfl), by kernel_rfl⟩⟩
noncomputable def s55 (Γ : PCallee) (n : Nat) (x0 : PV) (x1 : PV) (h : PHeap) : Pt := forkP (.ptr h.length 0) (h ++ [.box [.int .i64 0, .nilS] 39 .rw]) fun v0 h1 => KL (fun w3 h4 => (binP .mul x0 x1).bind fun v5 => (mkSliceP 41 [.int .i64 0, .int .i64 0, .int .i64 0, .int .i64 0, .int .i64 0, .int .i64 0] v5 v5 h4).bind fun p6 => (fillP [.int .i64 0, .nilS] [(0, 1, x0), (1, 1, p6.1)]).bind fun l7 => (storeP 2 v0 (PV.agg l7) p6.2).bind fun h8 => (loadP true 2 v0 h8).bind fun v9 => finP [(.agg [.keep, (.flat 6)]), .keep] h h8 [v9, (.int .i64 0 : PV)]) fun j2 => (Γ 103 [x1] h1).bind fun p10 => (unP .not p10.1).bind fun v11 => KL (fun w13 h14 => j2 [] h14) fun j12 => ifP v11 ( (fillP [.int .i64 0, .nilS] []).bind fun l15 => (storeP 2 v0 (PV.agg l15) p10.2).bind fun h16 => (loadP true 2 v0 h16).bind fun v17 => finP [(.agg [.keep, (.flat 6)]), .keep] h h16 [v17, (.int .i64 1 : PV)]) ( (Γ 104 [x0, (.int .i64 1 : PV), (.int .i64 64 : PV)] p10.2).bind fun p18 => (unP .not p18.1).bind fun v19 => KL (fun w21 h22 => j12 [] h22) fun j20 => ifP v19 ( (fillP [.int .i64 0, .nilS] []).bind fun l23 => (storeP 2 v0 (PV.agg l23) p18.2).bind fun h24 => (loadP true 2 v0 h24).bind fun v25 => finP [(.agg [.keep, (.flat 6)]), .keep] h h24 [v25, (.int .i64 5 : PV)]) ( j20 [] p18.2))
theorem s55_eq (Γ : PCallee) (n : Nat) (x0 : PV) (x1 : PV) (h : PHeap) : pfunK Γ n A55 [x0, x1] h = s55 Γ n x0 x1 h := by kernel_rfl
open Go.Vm.G in
def A56 : PFun := ⟨1, 24, (S (R <| o 2 (.new 83 V29) <| o 3 (.move (i 0)) <| z) <|
  (S (S (R <| m 4 0 <| z) <|
  (.block 0 [] ([3] ++ g 5 18)
  (S (R <| b 6 .eql (t 4) (i 1) <| m 5 6 <| z) <|
  (.cond (t 5) [] ([3] ++ g 7 16)
  (S (R <| o 7 (.build V29 [(0, 1, (.const (.string ⟨#[102, 111, 117, 114]⟩))), (1, 1, (i 4)), (2, 1, (i 32)), (3, 1, (i 64)), (4, 1, (i 49)), (5, 1, (i 84)), (9, 1, (i 1)), (10, 1, (i 453)), (11, 1, (i 3424)), (16, 1, (i 5)), (17, 1, (.const (.bool true))), (18, 1, (i 1)), (19, 1, (.const (.bool true))), (21, 1, (i 1)), (22, 1, (.const (.bool true))), (25, 1, (.const (.bool true)))]) <| n (.store 29 (t 2) (t 7)) <| o 3 (.move (i 0)) <| z) <|
  .ret)
  (S (R <| b 9 .eql (t 4) (i 2) <| m 8 9 <| z) <|
  (.cond (t 8) [] ([3] ++ g 10 13)
  (S (R <| o 10 (.build V29 [(0, 1, (.const (.string ⟨#[115, 99, 114, 101, 97, 109]⟩))), (1, 1, (i 16)), (2, 1, (i 32)), (3, 1, (i 64)), (4, 1, (i 13)), (5, 1, (i 108)), (7, 1, (.const (.bool true))), (9, 1, (i 1)), (10, 1, (i 64)), (11, 1, (i 32767)), (16, 1, (i 5))]) <| n (.store 29 (t 2) (t 10)) <| o 3 (.move (i 0)) <| z) <|
  .ret)
  (S (R <| b 12 .eql (t 4) (i 3) <| m 11 12 <| z) <|
  (.cond (t 11) [] ([3] ++ g 13 10)
  (S (R <| o 13 (.build V29 [(0, 1, (.const (.string ⟨#[102, 97, 115, 116]⟩))), (1, 1, (i 16)), (2, 1, (i 32)), (4, 1, (i 1)), (5, 1, (i 96)), (6, 1, (.const (.bool true))), (7, 1, (.const (.bool true))), (8, 1, (.const (.bool true))), (10, 1, (i 32)), (11, 1, (i 65535)), (12, 1, (.const (.bool true))), (16, 1, (i 6)), (17, 1, (.const (.bool true))), (19, 1, (.const (.bool true))), (20, 1, (.const (.bool true))), (21, 1, (i 1)), (23, 1, (.const (.bool true))), (24, 1, (.const (.bool true))), (25, 1, (.const (.bool true))), (26, 1, (.const (.bool true))), (27, 1, (.const (.bool true)))]) <| n (.store 29 (t 2) (t 13)) <| o 3 (.move (i 0)) <| z) <|
  .ret)
  (S (R <| b 15 .eql (t 4) (i 4) <| m 14 15 <| z) <|
  (.cond (t 14) [] ([3] ++ g 16 7)
  (S (R <| o 16 (.build V29 [(0, 1, (.const (.string ⟨#[105, 109, 112, 117, 108, 115, 101]⟩))), (1, 1, (i 16)), (2, 1, (i 32)), (4, 1, (i 1)), (5, 1, (i 120)), (6, 1, (.const (.bool true))), (7, 1, (.const (.bool true))), (8, 1, (.const (.bool true))), (10, 1, (i 16)), (11, 1, (i 65535)), (15, 1, (.const (.bool true))), (16, 1, (i 6)), (19, 1, (.const (.bool true))), (21, 1, (i 2)), (23, 1, (.const (.bool true))), (27, 1, (.const (.bool true)))]) <| n (.store 29 (t 2) (t 16)) <| o 3 (.move (i 0)) <| z) <|
  .ret)
  (S (R <| b 18 .eql (t 4) (i 5) <| m 17 18 <| z) <|
  (.cond (t 17) [] ([3] ++ g 19 4)
  (S (R <| o 19 (.build V29 [(0, 1, (.const (.string ⟨#[99, 111, 109, 112, 111, 115, 101]⟩))), (1, 1, (i 8)), (2, 1, (i 32)), (3, 1, (i 64)), (4, 1, (i 13)), (5, 1, (i 72)), (9, 1, (i 2)), (13, 1, (.const (.bool true))), (16, 1, (i 5)), (18, 1, (i 2)), (28, 1, (.const (.bool true)))]) <| n (.store 29 (t 2) (t 19)) <| o 3 (.move (i 0)) <| z) <|
  .ret)
  (S (R <| b 21 .eql (t 4) (i 6) <| m 20 21 <| z) <|
  (.cond (t 20) [] [3, 22]
  (S (R <| o 22 (.build V29 [(0, 1, (.const (.string ⟨#[99, 104, 105, 112]⟩))), (1, 1, (i 4)), (2, 1, (i 32)), (4, 1, (i 13)), (5, 1, (i 108)), (6, 1, (.const (.bool true))), (9, 1, (i 1)), (10, 1, (i 16)), (11, 1, (i 65535)), (14, 1, (.const (.bool true))), (16, 1, (i 5)), (17, 1, (.const (.bool true))), (18, 1, (i 2)), (23, 1, (.const (.bool true))), (27, 1, (.const (.bool true)))]) <| n (.store 29 (t 2) (t 22)) <| o 3 (.move (i 0)) <| z) <|
  .ret)
  .skip)))))))))))))) <|
  (S (R <| o 23 (.build V29 []) <| n (.store 29 (t 2) (t 23)) <| o 3 (.move (i 6)) <| z) <|
  .ret))), [.cell 2 true 29, .tmp 3], [.keep, .keep]⟩
theorem ok56 : ∃ fn c, FunOk Tryz.prog 56 fn c A56.erase := ⟨Tryz.f56, _, ⟨Tryz.func56, rfl, by kernel_rfl, by kernel_rfl, by kernel_rfl, of_decide_eq_true (by kernel_rfl), by kernel_rfl⟩⟩
noncomputable def s56 (Γ : PCallee) (n : Nat) (x0 : PV) (h : PHeap) : Pt := forkP (.ptr h.length 0) (h ++ [.box Z29 83 .rw]) fun v0 h1 => KL (fun w3 h4 => (fillP Z29 []).bind fun l5 => (storeP 29 v0 (PV.agg l5) h4).bind fun h6 => (loadP true 29 v0 h6).bind fun v7 => finP [.keep, .keep] h h6 [v7, (.int .i64 6 : PV)]) fun j2 => (binP .eql x0 (.int .i64 1 : PV)).bind fun v8 => KL (fun w10 h11 => j2 [] h11) fun j9 => ifP v8 ( (fillP Z29 [(0, 1, (.str ⟨#[102, 111, 117, 114]⟩ : PV)), (1, 1, (.int .i64 4 : PV)), (2, 1, (.int .i64 32 : PV)), (3, 1, (.int .i64 64 : PV)), (4, 1, (.int .i64 49 : PV)), (5, 1, (.int .i64 84 : PV)), (9, 1, (.int .i64 1 : PV)), (10, 1, (.int .i64 453 : PV)), (11, 1, (.int .i64 3424 : PV)), (16, 1, (.int .i64 5 : PV)), (17, 1, (.bool true : PV)), (18, 1, (.int .i64 1 : PV)), (19, 1, (.bool true : PV)), (21, 1, (.int .i64 1 : PV)), (22, 1, (.bool true : PV)), (25, 1, (.bool true : PV))]).bind fun l12 => (storeP 29 v0 (PV.agg l12) h1).bind fun h13 => (loadP true 29 v0 h13).bind fun v14 => finP [.keep, .keep] h h13 [v14, (.int .i64 0 : PV)]) ( (binP .eql x0 (.int .i64 2 : PV)).bind fun v15 => KL (fun w17 h18 => j9 [] h18) fun j16 => ifP v15 ( (fillP Z29 [(0, 1, (.str ⟨#[115, 99, 114, 101, 97, 109]⟩ : PV)), (1, 1, (.int .i64 16 : PV)), (2, 1, (.int .i64 32 : PV)), (3, 1, (.int .i64 64 : PV)), (4, 1, (.int .i64 13 : PV)), (5, 1, (.int .i64 108 : PV)), (7, 1, (.bool true : PV)), (9, 1, (.int .i64 1 : PV)), (10, 1, (.int .i64 64 : PV)), (11, 1, (.int .i64 32767 : PV)), (16, 1, (.int .i64 5 : PV))]).bind fun l19 => (storeP 29 v0 (PV.agg l19) h1).bind fun h20 => (loadP true 29 v0 h20).bind fun v21 => finP [.keep, .keep] h h20 [v21, (.int .i64 0 : PV)]) ( (binP .eql x0 (.int .i64 3 : PV)).bind fun v22 => KL (fun w24 h25 => j16 [] h25) fun j23 => ifP v22 ( (fillP Z29 [(0, 1, (.str ⟨#[102, 97, 115, 116]⟩ : PV)), (1, 1, (.int .i64 16 : PV)), (2, 1, (.int .i64 32 : PV)), (4, 1, (.int .i64 1 : PV)), (5, 1, (.int .i64 96 : PV)), (6, 1, (.bool true : PV)), (7, 1, (.bool true : PV)), (8, 1, (.bool true : PV)), (10, 1, (.int .i64 32 : PV)), (11, 1, (.int .i64 65535 : PV)), (12, 1, (.bool true : PV)), (16, 1, (.int .i64 6 : PV)), (17, 1, (.bool true : PV)), (19, 1, (.bool true : PV)), (20, 1, (.bool true : PV)), (21, 1, (.int .i64 1 : PV)), (23, 1, (.bool true : PV)), (24, 1, (.bool true : PV)), (25, 1, (.bool true : PV)), (26, 1, (.bool true : PV)), (27, 1, (.bool true : PV))]).bind fun l26 => (storeP 29 v0 (PV.agg l26) h1).bind fun h27 => (loadP true 29 v0 h27).bind fun v28 => finP [.keep, .keep] h h27 [v28, (.int .i64 0 : PV)]) ( (binP .eql x0 (.int .i64 4 : PV)).bind fun v29 => KL (fun w31 h32 => j23 [] h32) fun j30 => ifP v29 ( (fillP Z29 [(0, 1, (.str ⟨#[105, 109, 112, 117, 108, 115, 101]⟩ : PV)), (1, 1, (.int .i64 16 : PV)), (2, 1, (.int .i64 32 : PV)), (4, 1, (.int .i64 1 : PV)), (5, 1, (.int .i64 120 : PV)), (6, 1, (.bool true : PV)), (7, 1, (.bool true : PV)), (8, 1, (.bool true : PV)), (10, 1, (.int .i64 16 : PV)), (11, 1, (.int .i64 65535 : PV)), (15, 1, (.bool true : PV)), (16, 1, (.int .i64 6 : PV)), (19, 1, (.bool true : PV)), (21, 1, (.int .i64 2 : PV)), (23, 1, (.bool true : PV)), (27, 1, (.bool true : PV))]).bind fun l33 => (storeP 29 v0 (PV.agg l33) h1).bind fun h34 => (loadP true 29 v0 h34).bind fun v35 => finP [.keep, .keep] h h34 [v35, (.int .i64 0 : PV)]) ( (binP .eql x0 (.int .i64 5 : PV)).bind fun v36 => KL (fun w38 h39 => j30 [] h39) fun j37 => ifP v36 ( (fillP Z29 [(0, 1, (.str ⟨#[99, 111, 109, 112, 111, 115, 101]⟩ : PV)), (1, 1, (.int .i64 8 : PV)), (2, 1, (.int .i64 32 : PV)), (3, 1, (.int .i64 64 : PV)), (4, 1, (.int .i64 13 : PV)), (5, 1, (.int .i64 72 : PV)), (9, 1, (.int .i64 2 : PV)), (13, 1, (.bool true : PV)), (16, 1, (.int .i64 5 : PV)), (18, 1, (.int .i64 2 : PV)), (28, 1, (.bool true : PV))]).bind fun l40 => (storeP 29 v0 (PV.agg l40) h1).bind fun h41 => (loadP true 29 v0 h41).bind fun v42 => finP [.keep, .keep] h h41 [v42, (.int .i64 0 : PV)]) ( (binP .eql x0 (.int .i64 6 : PV)).bind fun v43 => KL (fun w45 h46 => j37 [] h46) fun j44 => ifP v43 ( (fillP Z29 [(0, 1, (.str ⟨#[99, 104, 105, 112]⟩ : PV)), (1, 1, (.int .i64 4 : PV)), (2, 1, (.int .i64 32 : PV)), (4, 1, (.int .i64 13 : PV)), (5, 1, (.int .i64 108 : PV)), (6, 1, (.bool true : PV)), (9, 1, (.int .i64 1 : PV)), (10, 1, (.int .i64 16 : PV)), (11, 1, (.int .i64 65535 : PV)), (14, 1, (.bool true : PV)), (16, 1, (.int .i64 5 : PV)), (17, 1, (.bool true : PV)), (18, 1, (.int .i64 2 : PV)), (23, 1, (.bool true : PV)), (27, 1, (.bool true : PV))]).bind fun l47 => (storeP 29 v0 (PV.agg l47) h1).bind fun h48 => (loadP true 29 v0 h48).bind fun v49 => finP [.keep, .keep] h h48 [v49, (.int .i64 0 : PV)]) ( j44 [] h1))))))
theorem s56_eq (Γ : PCallee) (n : Nat) (x0 : PV) (h : PHeap) : pfunK Γ n A56 [x0] h = s56 Γ n x0 h := by kernel_rfl
open Go.Vm.G in
def A57 : PFun := ⟨3, 15, (S (R <| o 6 (.move (.const (.bool false))) <| z) <|
  (S (R <| m 7 1 <| m 8 0 <| b 9 .leq (t 7) (t 8) <| m 10 9 <| q 14 10 true [11, 12, 13] (m 11 0 <| m 12 2 <| b 13 .leq (t 11) (t 12) <| z) (t 13) <|
  m 6 14 <| z) <|
  .ret)), [.tmp 6], [.keep]⟩
theorem ok57 : ∃ fn c, FunOk Tryz.prog 57 fn c A57.erase := ⟨Tryz.f57, _, ⟨Tryz.func57, rfl, by kernel_rfl, by kernel_rfl, by kernel_rfl, of_decide_eq_true (by kernel_rfl), by kernel_rfl⟩⟩
noncomputable def s57 (Γ : PCallee) (n : Nat) (x0 : PV) (x1 : PV) (x2 : PV) (h : PHeap) : Pt := (binP .leq x1 x0).bind fun v0 => K1 (fun v2 h3 => finP [.keep] h h3 [v2]) fun j1 => scP v0 true ( (binP .leq x0 x2).bind fun v4 => j1 v4 h) (j1 (.bool false) h)
theorem s57_eq (Γ : PCallee) (n : Nat) (x0 : PV) (x1 : PV) (x2 : PV) (h : PHeap) : pfunK Γ n A57 [x0, x1, x2] h = s57 Γ n x0 x1 x2 h := by kernel_rfl
open Go.Vm.G in
def A58 : PFun := ⟨1, 15, (S (R <| o 2 (.move (.const (.slice none 0 0))) <| z) <|
  (S (R <| (.op (some 3) (.growNil 3 1) .no <| z)) <|
  (S (S (R <| o 4 (.move (i 0)) <| z) <|
  (.block 0 [3] (g 4 10)
  (.loop [3, 4] (g 5 9)
  (S (S (R <| m 5 4 <| m 6 0 <| b 7 .lss (t 5) (t 6) <| z) <|
  (.cond (t 7) [] []
  .skip
  (.exit 0))) <|
  (S (.block 1 [3] (g 10 4)
  (R <| m 10 3 <| m 11 4 <| (.op (some 12) (.buildF 3 [(.int .i64 0)] 1 [(0, 1, (t 11))]) .no <| o 13 (.append 3 1 (t 10) (t 12)) <| m 3 13 <| z))) <|
  (R <| m 8 4 <| b 9 .add (t 8) (i 1) <| m 4 9 <| z)))))) <|
  (S (R <| m 14 3 <| m 2 14 <| z) <|
  .ret)))), [.tmp 2], [(.flat 1)]⟩
theorem ok58 : ∃ fn c, FunOk Tryz.prog 58 fn c A58.erase := ⟨Tryz.f58, _, ⟨Tryz.func58, rfl, by kernel_rfl, by kernel_rfl, by kernel_rfl, of_decide_eq_true (by kernel_rfl), by kernel_rfl⟩⟩
noncomputable def s58_L0 (Γ : PCallee) (n : Nat) (x0 : PV) (h1 : PHeap) (j2 : Kt) : (Kt) → Kt := fun c5 w6 h7 => (binP .lss (nthP w6 1) x0).bind fun v8 => KL (fun w10 h11 => KL (fun w13 h14 => (binP .add (nthP w6 1) (.int .i64 1 : PV)).bind fun v15 => c5 [(nthP w13 0), v15] (trim h1 [(nthP w13 0), v15] h14)) fun j12 => (fillP (repP [.int .i64 0] 1) [(0, 1, (nthP w6 1))]).bind fun l16 => guardP (l16.all pure1) ( forkP (.frz 1 (chunk 1 1 l16)) (h11) fun v17 h18 => (appendP 3 1 (nthP w6 0) v17 h18).bind fun p19 => j12 [p19.1] p19.2)) fun j9 => ifP v8 ( j9 [] h7) ( j2 [(nthP w6 0)] h7)
noncomputable def s58 (Γ : PCallee) (n : Nat) (x0 : PV) (h : PHeap) : Pt := forkP (.ref h.length 0 0 0 1) (h ++ [.log [] 1 3 .rw]) fun v0 h1 => KL (fun w3 h4 => finP [(.flat 1)] h h4 [(nthP w3 0)]) fun j2 => loopP (s58_L0 Γ n x0 h1 j2) n [v0, (.int .i64 0 : PV)] h1
theorem s58_eq (Γ : PCallee) (n : Nat) (x0 : PV) (h : PHeap) : pfunK Γ n A58 [x0] h = s58 Γ n x0 h := by kernel_rfl
open Go.Vm.G in
def A59 : PFun := ⟨2, 11, (S (R <| o 4 (.new 39 [(.int .i64 0), (.slice none 0 0)]) <| z) <|
  (S (R <| m 5 0 <| m 6 0 <| m 7 1 <| b 8 .mul (t 6) (t 7) <| o 9 (.mkSlice 41 [(.int .i64 0), (.int .i64 0), (.int .i64 0), (.int .i64 0), (.int .i64 0), (.int .i64 0)] (t 8) (t 8)) <| o 10 (.build [(.int .i64 0), (.slice none 0 0)] [(0, 1, (t 5)), (1, 1, (t 9))]) <| n (.store 2 (t 4) (t 10)) <| z) <|
  .ret)), [.cell 4 true 2], [(.agg [.keep, (.flat 6)])]⟩
theorem ok59 : ∃ fn c, FunOk Tryz.prog 59 fn c A59.erase := ⟨Tryz.f59, _, ⟨Tryz.func59, rfl, by kernel_rfl, by kernel_rfl, by kernel_rfl, of_decide_eq_true (by kernel_rfl), by kernel_rfl⟩⟩
noncomputable def s59 (Γ : PCallee) (n : Nat) (x0 : PV) (x1 : PV) (h : PHeap) : Pt := forkP (.ptr h.length 0) (h ++ [.box [.int .i64 0, .nilS] 39 .rw]) fun v0 h1 => (binP .mul x0 x1).bind fun v2 => (mkSliceP 41 [.int .i64 0, .int .i64 0, .int .i64 0, .int .i64 0, .int .i64 0, .int .i64 0] v2 v2 h1).bind fun p3 => (fillP [.int .i64 0, .nilS] [(0, 1, x0), (1, 1, p3.1)]).bind fun l4 => (storeP 2 v0 (PV.agg l4) p3.2).bind fun h5 => (loadP true 2 v0 h5).bind fun v6 => finP [(.agg [.keep, (.flat 6)])] h h5 [v6]
theorem s59_eq (Γ : PCallee) (n : Nat) (x0 : PV) (x1 : PV) (h : PHeap) : pfunK Γ n A59 [x0, x1] h = s59 Γ n x0 x1 h := by kernel_rfl
open Go.Vm.G in
def A60 : PFun := ⟨1, 8, (S (R <| o 2 (.move (.const (.slice none 0 0))) <| z) <|
  (S (R <| m 4 0 <| o 5 (.call 105 [(t 4)]) <| m 3 5 <| z) <|
  (S (R <| m 6 3 <| o 7 (.call 106 [(t 6)]) <| m 2 7 <| z) <|
  .ret))), [.tmp 2], [(.flat 1)]⟩
theorem ok60 : ∃ fn c, FunOk Tryz.prog 60 fn c A60.erase := ⟨Tryz.f60, _, ⟨Tryz.func60, rfl, by kernel_rfl, by kernel_rfl, by kernel_rfl, of_decide_eq_true (by kernel_rfl), by kernel_rfl⟩⟩
noncomputable def s60 (Γ : PCallee) (n : Nat) (x0 : PV) (h : PHeap) : Pt := (Γ 105 [x0] h).bind fun p0 => (Γ 106 [p0.1] p0.2).bind fun p1 => finP [(.flat 1)] h p1.2 [p1.1]
theorem s60_eq (Γ : PCallee) (n : Nat) (x0 : PV) (h : PHeap) : pfunK Γ n A60 [x0] h = s60 Γ n x0 h := by kernel_rfl
open Go.Vm.G in
def A61 : PFun := ⟨3, 28, (S (R <| l 8 1 <| o 9 (.len false (t 8)) <| o 10 (.move (i 0)) <| z) <|
  (.block 0 [] ([5, 7] ++ g 10 18)
  (.loop [10] ([5, 7] ++ g 11 17)
  (S (R <| b 11 .lss (t 10) (t 9) <| z) <|
  (S (.cond (t 11) [] []
  .skip
  (.exit 0)) <|
  (S (.block 1 [] ([5, 7] ++ g 12 15)
  (S (R <| o 12 (.indexAddr 1 (t 8) (t 10)) <| l 13 12 <| m 5 13 <| z) <|
  (S (R <| o 14 (.load true 13 (t 2)) <| m 15 5 <| F 14 (.agg SA13) <| o 16 (.call 62 [(t 14), (t 15)]) <| o 17 (.len false (t 16)) <| o 18 (.move (i 0)) <| z) <|
  (.block 2 [] ([7] ++ g 18 9)
  (.loop [18] ([7] ++ g 19 8)
  (S (R <| b 19 .lss (t 18) (t 17) <| z) <|
  (S (.cond (t 19) [] []
  .skip
  (.exit 2)) <|
  (S (.block 3 [] ([7] ++ g 20 6)
  (S (R <| o 20 (.indexAddr 1 (t 16) (t 18)) <| l 21 20 <| m 7 21 <| z) <|
  (S (R <| m 22 0 <| m 23 7 <| o 24 (.callV (t 22) [(t 23)]) <| o 25 (.un .not (t 24)) <| z) <|
  (.cond (t 25) [] []
  .ret
  .skip)))) <|
  (R <| b 26 .add (t 18) (i 1) <| m 18 26 <| z))))))))) <|
  (R <| b 27 .add (t 10) (i 1) <| m 10 27 <| z))))))), [], []⟩
theorem ok61 : ∃ fn c, FunOk Tryz.prog 61 fn c A61.erase := ⟨Tryz.f61, _, ⟨Tryz.func61, rfl, by kernel_rfl, by kernel_rfl, by kernel_rfl, of_decide_eq_true (by kernel_rfl), by kernel_rfl⟩⟩
noncomputable def s61_L0 (Γ : PCallee) (n : Nat) (x0 : PV) (h : PHeap) (p20 : PV × PHeap) (v21 : PV) (j22 : Kt) : (Kt) → Kt := fun c25 w26 h27 => (binP .lss (nthP w26 0) v21).bind fun v28 => KL (fun w30 h31 => KL (fun w33 h34 => (binP .add (nthP w26 0) (.int .i64 1 : PV)).bind fun v35 => c25 [v35] (trim p20.2 [v35] h34)) fun j32 => (indexAddrP 1 p20.1 (nthP w26 0)).bind fun v36 => (loadP false 1 v36 h31).bind fun v37 => (callVP Γ x0 [v37] h31).bind fun p38 => (unP .not p38.1).bind fun v39 => KL (fun w41 h42 => j32 [] h42) fun j40 => ifP v39 ( finP [] h p38.2 []) ( j40 [] p38.2)) fun j29 => ifP v28 ( j29 [] h27) ( j22 [] h27)
noncomputable def s61_L1 (Γ : PCallee) (n : Nat) (x0 : PV) (x2 : PV) (h : PHeap) (v0 : PV) (v1 : PV) (j2 : Kt) : (Kt) → Kt := fun c5 w6 h7 => (binP .lss (nthP w6 0) v1).bind fun v8 => KL (fun w10 h11 => KL (fun w13 h14 => (binP .add (nthP w6 0) (.int .i64 1 : PV)).bind fun v15 => c5 [v15] (trim h [v15] h14)) fun j12 => (indexAddrP 1 v0 (nthP w6 0)).bind fun v16 => (loadP false 1 v16 h11).bind fun v17 => (loadP true 13 x2 h11).bind fun v18 => (fz (.agg SA13) v18 h11).bind fun q19 => (Γ 62 [q19.1, v17] q19.2).bind fun p20 => (lenP false p20.1).bind fun v21 => KL (fun w23 h24 => j12 [] h24) fun j22 => loopP (s61_L0 Γ n x0 h p20 v21 j22) n [(.int .i64 0 : PV)] p20.2) fun j9 => ifP v8 ( j9 [] h7) ( j2 [] h7)
noncomputable def s61 (Γ : PCallee) (n : Nat) (x0 : PV) (x1 : PV) (x2 : PV) (h : PHeap) : Pt := (loadP false 1 x1 h).bind fun v0 => (lenP false v0).bind fun v1 => KL (fun w3 h4 => finP [] h h4 []) fun j2 => loopP (s61_L1 Γ n x0 x2 h v0 v1 j2) n [(.int .i64 0 : PV)] h
theorem s61_eq (Γ : PCallee) (n : Nat) (x0 : PV) (x1 : PV) (x2 : PV) (h : PHeap) : pfunK Γ n A61 [x0, x1, x2] h = s61 Γ n x0 x1 x2 h := by kernel_rfl
open Go.Vm.G in
def A62 : PFun := ⟨2, 15, (S (R <| o 2 (.box 27 (t 0)) <| o 4 (.move (.const (.slice none 0 0))) <| z) <|
  (S (R <| f 5 12 2 <| l 6 5 <| m 7 1 <| b 8 .sub (t 7) (i 1) <| o 9 (.indexAddr 33 (t 6) (t 8)) <| o 10 (.load true 33 (t 9)) <| m 11 1 <| F 10 (.agg SA33) <| o 12 (.call 108 [(t 10), (t 11)]) <| o 13 (.mkFunc 109 [] [(t 2)]) <| o 14 (.call 107 [(t 12), (t 13)]) <| m 4 14 <| z) <|
  .ret)), [.tmp 4], [(.flat 1)]⟩
theorem ok62 : ∃ fn c, FunOk Tryz.prog 62 fn c A62.erase := ⟨Tryz.f62, _, ⟨Tryz.func62, rfl, by kernel_rfl, by kernel_rfl, by kernel_rfl, of_decide_eq_true (by kernel_rfl), by kernel_rfl⟩⟩
noncomputable def s62 (Γ : PCallee) (n : Nat) (x0 : PV) (x1 : PV) (h : PHeap) : Pt := forkP (.ptr h.length 0) (h ++ [.box (cellsP x0) 27 .rw]) fun v0 h1 => (fieldAddrP 12 v0).bind fun v2 => (loadP false 1 v2 h1).bind fun v3 => (binP .sub x1 (.int .i64 1 : PV)).bind fun v4 => (indexAddrP 33 v3 v4).bind fun v5 => (loadP true 33 v5 h1).bind fun v6 => (fz (.agg SA33) v6 h1).bind fun q7 => (Γ 108 [q7.1, x1] q7.2).bind fun p8 => (Γ 107 [p8.1, (PV.func 109 [] [v0])] p8.2).bind fun p9 => finP [(.flat 1)] h p9.2 [p9.1]
theorem s62_eq (Γ : PCallee) (n : Nat) (x0 : PV) (x1 : PV) (h : PHeap) : pfunK Γ n A62 [x0, x1] h = s62 Γ n x0 x1 h := by kernel_rfl
open Go.Vm.G in
def A68 : PFun := ⟨1, 28, (S (R <| o 1 (.box 104 (t 0)) <| o 2 (.new 108 [(.string ⟨#[]⟩), (.int .i64 0), (.int .i64 0)]) <| o 3 (.move (.const (.bool false))) <| z) <|
  (S (.block 0 [] (g 3 24)
  (S (R <| f 5 0 1 <| f 6 0 5 <| l 7 6 <| o 8 (.call 114 [(t 7)]) <| o 9 (.un .not (t 8)) <| m 4 9 <| z) <|
  (.cond (t 4) [] ([3] ++ g 10 17)
  (S (R <| o 10 (.build [(.string ⟨#[]⟩), (.int .i64 0), (.int .i64 0)] [(0, 1, (.const (.string ⟨#[110, 97, 109, 101]⟩))), (1, 1, (i 0)), (2, 1, (i 1))]) <| n (.store 3 (t 2) (t 10)) <| o 3 (.move (.const (.bool true))) <| z) <|
  .ret)
  (S (R <| f 12 13 1 <| f 13 1 12 <| l 14 13 <| b 15 .eql (t 14) (i 0) <| m 11 15 <| z) <|
  (.cond (t 11) [] ([3] ++ g 16 11)
  (S (R <| o 16 (.build [(.string ⟨#[]⟩), (.int .i64 0), (.int .i64 0)] [(0, 1, (.const (.string ⟨#[100, 105, 97, 108, 101, 99, 116]⟩))), (1, 1, (i 0)), (2, 1, (i 6))]) <| n (.store 3 (t 2) (t 16)) <| o 3 (.move (.const (.bool true))) <| z) <|
  .ret)
  (S (R <| f 18 0 1 <| f 19 2 18 <| l 20 19 <| f 21 13 1 <| f 22 1 21 <| l 23 22 <| o 24 (.call 54 [(t 20), (i 1), (t 23)]) <| o 25 (.un .not (t 24)) <| m 17 25 <| z) <|
  (.cond (t 17) [] [3, 26]
  (S (R <| o 26 (.build [(.string ⟨#[]⟩), (.int .i64 0), (.int .i64 0)] [(0, 1, (.const (.string ⟨#[99, 104, 97, 110, 110, 101, 108, 115]⟩))), (1, 1, (i 0)), (2, 1, (i 5))]) <| n (.store 3 (t 2) (t 26)) <| o 3 (.move (.const (.bool true))) <| z) <|
  .ret)
  .skip))))))) <|
  (S (R <| o 27 (.build [(.string ⟨#[]⟩), (.int .i64 0), (.int .i64 0)] []) <| n (.store 3 (t 2) (t 27)) <| o 3 (.move (.const (.bool false))) <| z) <|
  .ret))), [.cell 2 true 3, .tmp 3], [.keep, .keep]⟩
theorem ok68 : ∃ fn c, FunOk Tryz.prog 68 fn c A68.erase := ⟨Tryz.f68, _, ⟨Tryz.func68, rfl, by kernel_rfl, by kernel_rfl, by kernel_rfl, of_decide_eq_true (by kernel_rfl), by kernel_rfl⟩⟩
noncomputable def s68 (Γ : PCallee) (n : Nat) (x0 : PV) (h : PHeap) : Pt := forkP (.ptr h.length 0) (h ++ [.box (cellsP x0) 104 .rw]) fun v0 h1 => forkP (.ptr h1.length 0) (h1 ++ [.box [.str ⟨#[]⟩, .int .i64 0, .int .i64 0] 108 .rw]) fun v2 h3 => KL (fun w5 h6 => (fillP [.str ⟨#[]⟩, .int .i64 0, .int .i64 0] []).bind fun l7 => (storeP 3 v2 (PV.agg l7) h6).bind fun h8 => (loadP true 3 v2 h8).bind fun v9 => finP [.keep, .keep] h h8 [v9, (.bool false : PV)]) fun j4 => (fieldAddrP 0 v0).bind fun v10 => (fieldAddrP 0 v10).bind fun v11 => (loadP false 1 v11 h3).bind fun v12 => (Γ 114 [v12] h3).bind fun p13 => (unP .not p13.1).bind fun v14 => KL (fun w16 h17 => j4 [] h17) fun j15 => ifP v14 ( (fillP [.str ⟨#[]⟩, .int .i64 0, .int .i64 0] [(0, 1, (.str ⟨#[110, 97, 109, 101]⟩ : PV)), (1, 1, (.int .i64 0 : PV)), (2, 1, (.int .i64 1 : PV))]).bind fun l18 => (storeP 3 v2 (PV.agg l18) p13.2).bind fun h19 => (loadP true 3 v2 h19).bind fun v20 => finP [.keep, .keep] h h19 [v20, (.bool true : PV)]) ( (fieldAddrP 13 v0).bind fun v21 => (fieldAddrP 1 v21).bind fun v22 => (loadP false 1 v22 p13.2).bind fun v23 => (binP .eql v23 (.int .i64 0 : PV)).bind fun v24 => KL (fun w26 h27 => j15 [] h27) fun j25 => ifP v24 ( (fillP [.str ⟨#[]⟩, .int .i64 0, .int .i64 0] [(0, 1, (.str ⟨#[100, 105, 97, 108, 101, 99, 116]⟩ : PV)), (1, 1, (.int .i64 0 : PV)), (2, 1, (.int .i64 6 : PV))]).bind fun l28 => (storeP 3 v2 (PV.agg l28) p13.2).bind fun h29 => (loadP true 3 v2 h29).bind fun v30 => finP [.keep, .keep] h h29 [v30, (.bool true : PV)]) ( (fieldAddrP 0 v0).bind fun v31 => (fieldAddrP 2 v31).bind fun v32 => (loadP false 1 v32 p13.2).bind fun v33 => (fieldAddrP 13 v0).bind fun v34 => (fieldAddrP 1 v34).bind fun v35 => (loadP false 1 v35 p13.2).bind fun v36 => (Γ 54 [v33, (.int .i64 1 : PV), v36] p13.2).bind fun p37 => (unP .not p37.1).bind fun v38 => KL (fun w40 h41 => j25 [] h41) fun j39 => ifP v38 ( (fillP [.str ⟨#[]⟩, .int .i64 0, .int .i64 0] [(0, 1, (.str ⟨#[99, 104, 97, 110, 110, 101, 108, 115]⟩ : PV)), (1, 1, (.int .i64 0 : PV)), (2, 1, (.int .i64 5 : PV))]).bind fun l42 => (storeP 3 v2 (PV.agg l42) p37.2).bind fun h43 => (loadP true 3 v2 h43).bind fun v44 => finP [.keep, .keep] h h43 [v44, (.bool true : PV)]) ( j39 [] p37.2)))
theorem s68_eq (Γ : PCallee) (n : Nat) (x0 : PV) (h : PHeap) : pfunK Γ n A68 [x0] h = s68 Γ n x0 h := by kernel_rfl
open Go.Vm.G in
def A69 : PFun := ⟨1, 61, (S (R <| o 1 (.box 104 (t 0)) <| o 2 (.new 108 [(.string ⟨#[]⟩), (.int .i64 0), (.int .i64 0)]) <| o 3 (.move (.const (.bool false))) <| z) <|
  (S (S (R <| f 6 0 1 <| f 7 10 6 <| l 8 7 <| o 9 (.len false (t 8)) <| f 10 13 1 <| f 11 2 10 <| l 12 11 <| o 13 (.call 54 [(t 9), (i 1), (t 12)]) <| o 14 (.un .not (t 13)) <| z) <|
  (.cond (t 14) [] [3, 15]
  (S (R <| o 15 (.build [(.string ⟨#[]⟩), (.int .i64 0), (.int .i64 0)] [(0, 1, (.const (.string ⟨#[112, 97, 116, 116, 101, 114, 110, 115]⟩))), (1, 1, (i 0)), (2, 1, (i 4))]) <| n (.store 3 (t 2) (t 15)) <| o 3 (.move (.const (.bool true))) <| z) <|
  .ret)
  .skip)) <|
  (S (S (R <| f 16 0 1 <| f 17 10 16 <| l 18 17 <| o 19 (.len false (t 18)) <| o 20 (.move (i 0)) <| z) <|
  (.block 0 [] ([3, 4, 5] ++ g 20 40)
  (.loop [20] ([3, 4, 5] ++ g 21 39)
  (S (R <| b 21 .lss (t 20) (t 19) <| z) <|
  (S (.cond (t 21) [] []
  .skip
  (.exit 0)) <|
  (S (.block 1 [] ([3, 4, 5] ++ g 22 37)
  (S (R <| m 22 20 <| o 23 (.indexAddr 2 (t 18) (t 20)) <| o 24 (.load true 2 (t 23)) <| o 5 (.new 39 [(.int .i64 0), (.slice none 0 0)]) <| m 4 22 <| n (.store 2 (t 5) (t 24)) <| z) <|
  (S (S (R <| f 25 13 1 <| f 26 3 25 <| l 27 26 <| b 28 .neq (t 27) (i 0) <| m 29 28 <| q 36 29 true (g 30 6) (f 30 0 5 <| l 31 30 <| f 32 13 1 <| f 33 3 32 <| l 34 33 <| b 35 .neq (t 31) (t 34) <| z) (t 35) <|
  m 37 36 <| q 44 37 false (g 38 6) (o 38 (.load true 2 (t 5)) <| f 39 0 1 <| f 40 2 39 <| l 41 40 <| F 38 (.agg [.keep, (.flat 6)]) <| o 42 (.call 115 [(t 38), (t 41)]) <| o 43 (.un .not (t 42)) <| z) (t 43) <|
  m 45 44 <| q 50 45 false (g 46 4) (f 46 1 5 <| l 47 46 <| o 48 (.mkFunc 117 [] [(t 1)]) <| F 47 (.flat 6) <| o 49 (.call 116 [(t 47), (t 48)]) <| z) (t 49) <|
  z) <|
  (.cond (t 50) [] [3, 51, 52]
  (S (R <| m 51 4 <| o 52 (.build [(.string ⟨#[]⟩), (.int .i64 0), (.int .i64 0)] [(0, 1, (.const (.string ⟨#[112, 97, 116, 116, 101, 114, 110, 115]⟩))), (1, 1, (t 51)), (2, 1, (i 1))]) <| n (.store 3 (t 2) (t 52)) <| o 3 (.move (.const (.bool true))) <| z) <|
  .ret)
  .skip)) <|
  (S (R <| f 53 1 5 <| l 54 53 <| o 55 (.mkFunc 119 [] [(t 1)]) <| F 54 (.flat 6) <| o 56 (.call 116 [(t 54), (t 55)]) <| z) <|
  (.cond (t 56) [] [3, 57, 58]
  (S (R <| m 57 4 <| o 58 (.build [(.string ⟨#[]⟩), (.int .i64 0), (.int .i64 0)] [(0, 1, (.const (.string ⟨#[112, 97, 116, 116, 101, 114, 110, 115]⟩))), (1, 1, (t 57)), (2, 1, (i 10))]) <| n (.store 3 (t 2) (t 58)) <| o 3 (.move (.const (.bool true))) <| z) <|
  .ret)
  .skip))))) <|
  (R <| b 59 .add (t 20) (i 1) <| m 20 59 <| z))))))) <|
  (S (R <| o 60 (.build [(.string ⟨#[]⟩), (.int .i64 0), (.int .i64 0)] []) <| n (.store 3 (t 2) (t 60)) <| o 3 (.move (.const (.bool false))) <| z) <|
  .ret)))), [.cell 2 true 3, .tmp 3], [.keep, .keep]⟩
theorem ok69 : ∃ fn c, FunOk Tryz.prog 69 fn c A69.erase := ⟨Tryz.f69, _, ⟨Tryz.func69, rfl, by kernel_rfl, by kernel_rfl, by kernel_rfl, of_decide_eq_true (by kernel_rfl), by kernel_rfl⟩⟩
noncomputable def s69_L0 (Γ : PCallee) (n : Nat) (h : PHeap) (v0 : PV) (v2 : PV) (h15 : PHeap) (v18 : PV) (v19 : PV) (j20 : Kt) : (Kt) → Kt := fun c26 w27 h28 => (binP .lss (nthP w27 0) v19).bind fun v29 => KL (fun w31 h32 => KL (fun w34 h35 => (binP .add (nthP w27 0) (.int .i64 1 : PV)).bind fun v36 => c26 [v36] (trim h15 [v36] h35)) fun j33 => (indexAddrP 2 v18 (nthP w27 0)).bind fun v37 => (loadP true 2 v37 h32).bind fun v38 => forkP (.ptr h32.length 0) (h32 ++ [.box [.int .i64 0, .nilS] 39 .rw]) fun v39 h40 => (storeP 2 v39 v38 h40).bind fun h41 => (fieldAddrP 13 v0).bind fun v42 => (fieldAddrP 3 v42).bind fun v43 => (loadP false 1 v43 h41).bind fun v44 => (binP .neq v44 (.int .i64 0 : PV)).bind fun v45 => K1 (fun v47 h48 => K1 (fun v50 h51 => K1 (fun v53 h54 => KL (fun w56 h57 => (fieldAddrP 1 v39).bind fun v58 => (loadP false 1 v58 h57).bind fun v59 => (fz (.flat 6) v59 h57).bind fun q60 => (Γ 116 [q60.1, (PV.func 119 [] [v0])] q60.2).bind fun p61 => KL (fun w63 h64 => j33 [] h64) fun j62 => ifP p61.1 ( (fillP [.str ⟨#[]⟩, .int .i64 0, .int .i64 0] [(0, 1, (.str ⟨#[112, 97, 116, 116, 101, 114, 110, 115]⟩ : PV)), (1, 1, (nthP w27 0)), (2, 1, (.int .i64 10 : PV))]).bind fun l65 => (storeP 3 v2 (PV.agg l65) p61.2).bind fun h66 => (loadP true 3 v2 h66).bind fun v67 => finP [.keep, .keep] h h66 [v67, (.bool true : PV)]) ( j62 [] p61.2)) fun j55 => ifP v53 ( (fillP [.str ⟨#[]⟩, .int .i64 0, .int .i64 0] [(0, 1, (.str ⟨#[112, 97, 116, 116, 101, 114, 110, 115]⟩ : PV)), (1, 1, (nthP w27 0)), (2, 1, (.int .i64 1 : PV))]).bind fun l68 => (storeP 3 v2 (PV.agg l68) h54).bind fun h69 => (loadP true 3 v2 h69).bind fun v70 => finP [.keep, .keep] h h69 [v70, (.bool true : PV)]) ( j55 [] h54)) fun j52 => scP v50 false ( (fieldAddrP 1 v39).bind fun v71 => (loadP false 1 v71 h51).bind fun v72 => (fz (.flat 6) v72 h51).bind fun q73 => (Γ 116 [q73.1, (PV.func 117 [] [v0])] q73.2).bind fun p74 => j52 p74.1 p74.2) (j52 (.bool true) h51)) fun j49 => scP v47 false ( (loadP true 2 v39 h48).bind fun v75 => (fieldAddrP 0 v0).bind fun v76 => (fieldAddrP 2 v76).bind fun v77 => (loadP false 1 v77 h48).bind fun v78 => (fz (.agg [.keep, (.flat 6)]) v75 h48).bind fun q79 => (Γ 115 [q79.1, v78] q79.2).bind fun p80 => (unP .not p80.1).bind fun v81 => j49 v81 p80.2) (j49 (.bool true) h48)) fun j46 => scP v45 true ( (fieldAddrP 0 v39).bind fun v82 => (loadP false 1 v82 h41).bind fun v83 => (fieldAddrP 13 v0).bind fun v84 => (fieldAddrP 3 v84).bind fun v85 => (loadP false 1 v85 h41).bind fun v86 => (binP .neq v83 v86).bind fun v87 => j46 v87 h41) (j46 (.bool false) h41)) fun j30 => ifP v29 ( j30 [] h28) ( j20 [] h28)
noncomputable def s69 (Γ : PCallee) (n : Nat) (x0 : PV) (h : PHeap) : Pt := forkP (.ptr h.length 0) (h ++ [.box (cellsP x0) 104 .rw]) fun v0 h1 => forkP (.ptr h1.length 0) (h1 ++ [.box [.str ⟨#[]⟩, .int .i64 0, .int .i64 0] 108 .rw]) fun v2 h3 => (fieldAddrP 0 v0).bind fun v4 => (fieldAddrP 10 v4).bind fun v5 => (loadP false 1 v5 h3).bind fun v6 => (lenP false v6).bind fun v7 => (fieldAddrP 13 v0).bind fun v8 => (fieldAddrP 2 v8).bind fun v9 => (loadP false 1 v9 h3).bind fun v10 => (Γ 54 [v7, (.int .i64 1 : PV), v10] h3).bind fun p11 => (unP .not p11.1).bind fun v12 => KL (fun w14 h15 => (fieldAddrP 0 v0).bind fun v16 => (fieldAddrP 10 v16).bind fun v17 => (loadP false 1 v17 h15).bind fun v18 => (lenP false v18).bind fun v19 => KL (fun w21 h22 => (fillP [.str ⟨#[]⟩, .int .i64 0, .int .i64 0] []).bind fun l23 => (storeP 3 v2 (PV.agg l23) h22).bind fun h24 => (loadP true 3 v2 h24).bind fun v25 => finP [.keep, .keep] h h24 [v25, (.bool false : PV)]) fun j20 => loopP (s69_L0 Γ n h v0 v2 h15 v18 v19 j20) n [(.int .i64 0 : PV)] h15) fun j13 => ifP v12 ( (fillP [.str ⟨#[]⟩, .int .i64 0, .int .i64 0] [(0, 1, (.str ⟨#[112, 97, 116, 116, 101, 114, 110, 115]⟩ : PV)), (1, 1, (.int .i64 0 : PV)), (2, 1, (.int .i64 4 : PV))]).bind fun l88 => (storeP 3 v2 (PV.agg l88) p11.2).bind fun h89 => (loadP true 3 v2 h89).bind fun v90 => finP [.keep, .keep] h h89 [v90, (.bool true : PV)]) ( j13 [] p11.2)
theorem s69_eq (Γ : PCallee) (n : Nat) (x0 : PV) (h : PHeap) : pfunK Γ n A69 [x0] h = s69 Γ n x0 h := by kernel_rfl
open Go.Vm.G in
def A70 : PFun := ⟨1, 32, (S (R <| o 1 (.box 104 (t 0)) <| o 2 (.new 108 [(.string ⟨#[]⟩), (.int .i64 0), (.int .i64 0)]) <| o 3 (.move (.const (.bool false))) <| z) <|
  (S (S (R <| f 5 0 1 <| f 6 3 5 <| l 7 6 <| o 8 (.len false (t 7)) <| o 9 (.call 54 [(t 8), (i 1), (i 64)]) <| o 10 (.un .not (t 9)) <| z) <|
  (.cond (t 10) [] [3, 11]
  (S (R <| o 11 (.build [(.string ⟨#[]⟩), (.int .i64 0), (.int .i64 0)] [(0, 1, (.const (.string ⟨#[111, 114, 100, 101, 114, 115]⟩))), (1, 1, (i 0)), (2, 1, (i 4))]) <| n (.store 3 (t 2) (t 11)) <| o 3 (.move (.const (.bool true))) <| z) <|
  .ret)
  .skip)) <|
  (S (S (R <| f 12 0 1 <| f 13 3 12 <| l 14 13 <| o 15 (.mkFunc 122 [] [(t 1)]) <| F 14 (.flat 1) <| o 16 (.call 121 [(t 14), (t 15)]) <| m 4 16 <| z) <|
  (S (R <| m 17 4 <| b 18 .geq (t 17) (i 0) <| z) <|
  (.cond (t 18) [] [3, 19, 20]
  (S (R <| m 19 4 <| o 20 (.build [(.string ⟨#[]⟩), (.int .i64 0), (.int .i64 0)] [(0, 1, (.const (.string ⟨#[111, 114, 100, 101, 114, 115]⟩))), (1, 1, (t 19)), (2, 1, (i 10))]) <| n (.store 3 (t 2) (t 20)) <| o 3 (.move (.const (.bool true))) <| z) <|
  .ret)
  .skip))) <|
  (S (R <| o 21 (.build [(.string ⟨#[]⟩), (.int .i64 0), (.int .i64 0)] [(0, 1, (.const (.string ⟨#[114, 101, 115, 116, 97, 114, 116]⟩))), (1, 1, (i 0)), (2, 1, (i 5))]) <| f 22 0 1 <| f 23 4 22 <| l 24 23 <| f 25 0 1 <| f 26 3 25 <| l 27 26 <| o 28 (.len false (t 27)) <| b 29 .sub (t 28) (i 1) <| o 30 (.call 54 [(t 24), (i 0), (t 29)]) <| o 31 (.un .not (t 30)) <| n (.store 3 (t 2) (t 21)) <| m 3 31 <| z) <|
  .ret)))), [.cell 2 true 3, .tmp 3], [.keep, .keep]⟩
theorem ok70 : ∃ fn c, FunOk Tryz.prog 70 fn c A70.erase := ⟨Tryz.f70, _, ⟨Tryz.func70, rfl, by kernel_rfl, by kernel_rfl, by kernel_rfl, of_decide_eq_true (by kernel_rfl), by kernel_rfl⟩⟩
noncomputable def s70 (Γ : PCallee) (n : Nat) (x0 : PV) (h : PHeap) : Pt := forkP (.ptr h.length 0) (h ++ [.box (cellsP x0) 104 .rw]) fun v0 h1 => forkP (.ptr h1.length 0) (h1 ++ [.box [.str ⟨#[]⟩, .int .i64 0, .int .i64 0] 108 .rw]) fun v2 h3 => (fieldAddrP 0 v0).bind fun v4 => (fieldAddrP 3 v4).bind fun v5 => (loadP false 1 v5 h3).bind fun v6 => (lenP false v6).bind fun v7 => (Γ 54 [v7, (.int .i64 1 : PV), (.int .i64 64 : PV)] h3).bind fun p8 => (unP .not p8.1).bind fun v9 => KL (fun w11 h12 => (fieldAddrP 0 v0).bind fun v13 => (fieldAddrP 3 v13).bind fun v14 => (loadP false 1 v14 h12).bind fun v15 => (fz (.flat 1) v15 h12).bind fun q16 => (Γ 121 [q16.1, (PV.func 122 [] [v0])] q16.2).bind fun p17 => (binP .geq p17.1 (.int .i64 0 : PV)).bind fun v18 => KL (fun w20 h21 => (fillP [.str ⟨#[]⟩, .int .i64 0, .int .i64 0] [(0, 1, (.str ⟨#[114, 101, 115, 116, 97, 114, 116]⟩ : PV)), (1, 1, (.int .i64 0 : PV)), (2, 1, (.int .i64 5 : PV))]).bind fun l22 => (fieldAddrP 0 v0).bind fun v23 => (fieldAddrP 4 v23).bind fun v24 => (loadP false 1 v24 h21).bind fun v25 => (fieldAddrP 0 v0).bind fun v26 => (fieldAddrP 3 v26).bind fun v27 => (loadP false 1 v27 h21).bind fun v28 => (lenP false v28).bind fun v29 => (binP .sub v29 (.int .i64 1 : PV)).bind fun v30 => (Γ 54 [v25, (.int .i64 0 : PV), v30] h21).bind fun p31 => (unP .not p31.1).bind fun v32 => (storeP 3 v2 (PV.agg l22) p31.2).bind fun h33 => (loadP true 3 v2 h33).bind fun v34 => finP [.keep, .keep] h h33 [v34, v32]) fun j19 => ifP v18 ( (fillP [.str ⟨#[]⟩, .int .i64 0, .int .i64 0] [(0, 1, (.str ⟨#[111, 114, 100, 101, 114, 115]⟩ : PV)), (1, 1, p17.1), (2, 1, (.int .i64 10 : PV))]).bind fun l35 => (storeP 3 v2 (PV.agg l35) p17.2).bind fun h36 => (loadP true 3 v2 h36).bind fun v37 => finP [.keep, .keep] h h36 [v37, (.bool true : PV)]) ( j19 [] p17.2)) fun j10 => ifP v9 ( (fillP [.str ⟨#[]⟩, .int .i64 0, .int .i64 0] [(0, 1, (.str ⟨#[111, 114, 100, 101, 114, 115]⟩ : PV)), (1, 1, (.int .i64 0 : PV)), (2, 1, (.int .i64 4 : PV))]).bind fun l38 => (storeP 3 v2 (PV.agg l38) p8.2).bind fun h39 => (loadP true 3 v2 h39).bind fun v40 => finP [.keep, .keep] h h39 [v40, (.bool true : PV)]) ( j10 [] p8.2)
theorem s70_eq (Γ : PCallee) (n : Nat) (x0 : PV) (h : PHeap) : pfunK Γ n A70 [x0] h = s70 Γ n x0 h := by kernel_rfl
open Go.Vm.G in
def A71 : PFun := ⟨1, 55, (S (R <| o 1 (.box 104 (t 0)) <| o 2 (.new 108 [(.string ⟨#[]⟩), (.int .i64 0), (.int .i64 0)]) <| o 3 (.move (.const (.bool false))) <| z) <|
  (S (.block 0 [] ([3] ++ g 5 42)
  (S (R <| f 6 0 1 <| f 7 5 6 <| l 8 7 <| o 9 (.call 54 [(t 8), (i 1), (i 31)]) <| o 10 (.un .not (t 9)) <| m 5 10 <| z) <|
  (.cond (t 5) [] ([3] ++ g 11 36)
  (S (R <| o 11 (.build [(.string ⟨#[]⟩), (.int .i64 0), (.int .i64 0)] [(0, 1, (.const (.string ⟨#[115, 112, 101, 101, 100]⟩))), (1, 1, (i 0)), (2, 1, (i 5))]) <| n (.store 3 (t 2) (t 11)) <| o 3 (.move (.const (.bool true))) <| z) <|
  .ret)
  (S (R <| f 13 0 1 <| f 14 6 13 <| l 15 14 <| o 16 (.call 54 [(t 15), (i 32), (i 255)]) <| o 17 (.un .not (t 16)) <| m 12 17 <| z) <|
  (.cond (t 12) [] ([3] ++ g 18 29)
  (S (R <| o 18 (.build [(.string ⟨#[]⟩), (.int .i64 0), (.int .i64 0)] [(0, 1, (.const (.string ⟨#[116, 101, 109, 112, 111]⟩))), (1, 1, (i 0)), (2, 1, (i 5))]) <| n (.store 3 (t 2) (t 18)) <| o 3 (.move (.const (.bool true))) <| z) <|
  .ret)
  (S (R <| f 20 0 1 <| f 21 7 20 <| l 22 21 <| o 23 (.call 54 [(t 22), (i 0), (i 128)]) <| o 24 (.un .not (t 23)) <| m 19 24 <| z) <|
  (.cond (t 19) [] ([3] ++ g 25 22)
  (S (R <| o 25 (.build [(.string ⟨#[]⟩), (.int .i64 0), (.int .i64 0)] [(0, 1, (.const (.string ⟨#[103, 108, 111, 98, 97, 108]⟩))), (1, 1, (i 0)), (2, 1, (i 5))]) <| n (.store 3 (t 2) (t 25)) <| o 3 (.move (.const (.bool true))) <| z) <|
  .ret)
  (S (R <| f 27 0 1 <| f 28 8 27 <| l 29 28 <| m 30 29 <| q 35 30 true (g 31 4) (f 31 13 1 <| f 32 8 31 <| l 33 32 <| o 34 (.un .not (t 33)) <| z) (t 34) <|
  m 26 35 <| z) <|
  (.cond (t 26) [] ([3] ++ g 36 11)
  (S (R <| o 36 (.build [(.string ⟨#[]⟩), (.int .i64 0), (.int .i64 0)] [(0, 1, (.const (.string ⟨#[108, 105, 110, 101, 97, 114]⟩))), (1, 1, (i 0)), (2, 1, (i 6))]) <| n (.store 3 (t 2) (t 36)) <| o 3 (.move (.const (.bool true))) <| z) <|
  .ret)
  (S (R <| f 38 0 1 <| f 39 9 38 <| l 40 39 <| o 41 (.len false (t 40)) <| f 42 0 1 <| f 43 2 42 <| l 44 43 <| b 45 .neq (t 41) (t 44) <| m 37 45 <| z) <|
  (.cond (t 37) [] [3, 46]
  (S (R <| o 46 (.build [(.string ⟨#[]⟩), (.int .i64 0), (.int .i64 0)] [(0, 1, (.const (.string ⟨#[112, 97, 110, 115]⟩))), (1, 1, (i 0)), (2, 1, (i 4))]) <| n (.store 3 (t 2) (t 46)) <| o 3 (.move (.const (.bool true))) <| z) <|
  .ret)
  .skip))))))))))) <|
  (S (R <| f 47 0 1 <| f 48 9 47 <| l 49 48 <| o 50 (.call 121 [(t 49), (.func 123)]) <| m 4 50 <| z) <|
  (S (R <| m 51 4 <| o 52 (.build [(.string ⟨#[]⟩), (.int .i64 0), (.int .i64 0)] [(0, 1, (.const (.string ⟨#[112, 97, 110, 115]⟩))), (1, 1, (t 51)), (2, 1, (i 5))]) <| m 53 4 <| b 54 .geq (t 53) (i 0) <| n (.store 3 (t 2) (t 52)) <| m 3 54 <| z) <|
  .ret)))), [.cell 2 true 3, .tmp 3], [.keep, .keep]⟩
theorem ok71 : ∃ fn c, FunOk Tryz.prog 71 fn c A71.erase := ⟨Tryz.f71, _, ⟨Tryz.func71, rfl, by kernel_rfl, by kernel_rfl, by kernel_rfl, of_decide_eq_true (by kernel_rfl), by kernel_rfl⟩⟩
noncomputable def s71 (Γ : PCallee) (n : Nat) (x0 : PV) (h : PHeap) : Pt := forkP (.ptr h.length 0) (h ++ [.box (cellsP x0) 104 .rw]) fun v0 h1 => forkP (.ptr h1.length 0) (h1 ++ [.box [.str ⟨#[]⟩, .int .i64 0, .int .i64 0] 108 .rw]) fun v2 h3 => KL (fun w5 h6 => (fieldAddrP 0 v0).bind fun v7 => (fieldAddrP 9 v7).bind fun v8 => (loadP false 1 v8 h6).bind fun v9 => (Γ 121 [v9, (PV.func 123 [] [])] h6).bind fun p10 => (fillP [.str ⟨#[]⟩, .int .i64 0, .int .i64 0] [(0, 1, (.str ⟨#[112, 97, 110, 115]⟩ : PV)), (1, 1, p10.1), (2, 1, (.int .i64 5 : PV))]).bind fun l11 => (binP .geq p10.1 (.int .i64 0 : PV)).bind fun v12 => (storeP 3 v2 (PV.agg l11) p10.2).bind fun h13 => (loadP true 3 v2 h13).bind fun v14 => finP [.keep, .keep] h h13 [v14, v12]) fun j4 => (fieldAddrP 0 v0).bind fun v15 => (fieldAddrP 5 v15).bind fun v16 => (loadP false 1 v16 h3).bind fun v17 => (Γ 54 [v17, (.int .i64 1 : PV), (.int .i64 31 : PV)] h3).bind fun p18 => (unP .not p18.1).bind fun v19 => KL (fun w21 h22 => j4 [] h22) fun j20 => ifP v19 ( (fillP [.str ⟨#[]⟩, .int .i64 0, .int .i64 0] [(0, 1, (.str ⟨#[115, 112, 101, 101, 100]⟩ : PV)), (1, 1, (.int .i64 0 : PV)), (2, 1, (.int .i64 5 : PV))]).bind fun l23 => (storeP 3 v2 (PV.agg l23) p18.2).bind fun h24 => (loadP true 3 v2 h24).bind fun v25 => finP [.keep, .keep] h h24 [v25, (.bool true : PV)]) ( (fieldAddrP 0 v0).bind fun v26 => (fieldAddrP 6 v26).bind fun v27 => (loadP false 1 v27 p18.2).bind fun v28 => (Γ 54 [v28, (.int .i64 32 : PV), (.int .i64 255 : PV)] p18.2).bind fun p29 => (unP .not p29.1).bind fun v30 => KL (fun w32 h33 => j20 [] h33) fun j31 => ifP v30 ( (fillP [.str ⟨#[]⟩, .int .i64 0, .int .i64 0] [(0, 1, (.str ⟨#[116, 101, 109, 112, 111]⟩ : PV)), (1, 1, (.int .i64 0 : PV)), (2, 1, (.int .i64 5 : PV))]).bind fun l34 => (storeP 3 v2 (PV.agg l34) p29.2).bind fun h35 => (loadP true 3 v2 h35).bind fun v36 => finP [.keep, .keep] h h35 [v36, (.bool true : PV)]) ( (fieldAddrP 0 v0).bind fun v37 => (fieldAddrP 7 v37).bind fun v38 => (loadP false 1 v38 p29.2).bind fun v39 => (Γ 54 [v39, (.int .i64 0 : PV), (.int .i64 128 : PV)] p29.2).bind fun p40 => (unP .not p40.1).bind fun v41 => KL (fun w43 h44 => j31 [] h44) fun j42 => ifP v41 ( (fillP [.str ⟨#[]⟩, .int .i64 0, .int .i64 0] [(0, 1, (.str ⟨#[103, 108, 111, 98, 97, 108]⟩ : PV)), (1, 1, (.int .i64 0 : PV)), (2, 1, (.int .i64 5 : PV))]).bind fun l45 => (storeP 3 v2 (PV.agg l45) p40.2).bind fun h46 => (loadP true 3 v2 h46).bind fun v47 => finP [.keep, .keep] h h46 [v47, (.bool true : PV)]) ( (fieldAddrP 0 v0).bind fun v48 => (fieldAddrP 8 v48).bind fun v49 => (loadP false 1 v49 p40.2).bind fun v50 => K1 (fun v52 h53 => KL (fun w55 h56 => j42 [] h56) fun j54 => ifP v52 ( (fillP [.str ⟨#[]⟩, .int .i64 0, .int .i64 0] [(0, 1, (.str ⟨#[108, 105, 110, 101, 97, 114]⟩ : PV)), (1, 1, (.int .i64 0 : PV)), (2, 1, (.int .i64 6 : PV))]).bind fun l57 => (storeP 3 v2 (PV.agg l57) h53).bind fun h58 => (loadP true 3 v2 h58).bind fun v59 => finP [.keep, .keep] h h58 [v59, (.bool true : PV)]) ( (fieldAddrP 0 v0).bind fun v60 => (fieldAddrP 9 v60).bind fun v61 => (loadP false 1 v61 h53).bind fun v62 => (lenP false v62).bind fun v63 => (fieldAddrP 0 v0).bind fun v64 => (fieldAddrP 2 v64).bind fun v65 => (loadP false 1 v65 h53).bind fun v66 => (binP .neq v63 v66).bind fun v67 => KL (fun w69 h70 => j54 [] h70) fun j68 => ifP v67 ( (fillP [.str ⟨#[]⟩, .int .i64 0, .int .i64 0] [(0, 1, (.str ⟨#[112, 97, 110, 115]⟩ : PV)), (1, 1, (.int .i64 0 : PV)), (2, 1, (.int .i64 4 : PV))]).bind fun l71 => (storeP 3 v2 (PV.agg l71) h53).bind fun h72 => (loadP true 3 v2 h72).bind fun v73 => finP [.keep, .keep] h h72 [v73, (.bool true : PV)]) ( j68 [] h53))) fun j51 => scP v50 true ( (fieldAddrP 13 v0).bind fun v74 => (fieldAddrP 8 v74).bind fun v75 => (loadP false 1 v75 p40.2).bind fun v76 => (unP .not v76).bind fun v77 => j51 v77 p40.2) (j51 (.bool false) p40.2))))
theorem s71_eq (Γ : PCallee) (n : Nat) (x0 : PV) (h : PHeap) : pfunK Γ n A71 [x0] h = s71 Γ n x0 h := by kernel_rfl
open Go.Vm.G in
def A72 : PFun := ⟨1, 75, (S (R <| o 1 (.box 104 (t 0)) <| o 2 (.new 108 [(.string ⟨#[]⟩), (.int .i64 0), (.int .i64 0)]) <| o 3 (.move (.const (.bool false))) <| z) <|
  (S (S (R <| f 7 0 1 <| f 8 11 7 <| l 9 8 <| o 10 (.len false (t 9)) <| b 11 .gtr (t 10) (i 31) <| m 12 11 <| q 24 12 false (g 13 5 ++ [23] ++ g 18 5) (f 13 0 1 <| f 14 1 13 <| l 15 14 <| b 16 .eql (t 15) (i 6) <| m 17 16 <| q 23 17 true (g 18 5) (f 18 0 1 <| f 19 11 18 <| l 20 19 <| o 21 (.len false (t 20)) <| b 22 .gtr (t 21) (i 0) <| z) (t 22) <|
  z) (t 23) <|
  z) <|
  (.cond (t 24) [] [3, 25]
  (S (R <| o 25 (.build [(.string ⟨#[]⟩), (.int .i64 0), (.int .i64 0)] [(0, 1, (.const (.string ⟨#[115, 97, 109, 112, 108, 101, 115]⟩))), (1, 1, (i 0)), (2, 1, (i 4))]) <| n (.store 3 (t 2) (t 25)) <| o 3 (.move (.const (.bool true))) <| z) <|
  .ret)
  .skip)) <|
  (S (S (R <| f 26 0 1 <| f 27 11 26 <| l 28 27 <| F 28 (.sl 13 SS13) <| o 29 (.call 124 [(t 28), (.func 125)]) <| m 4 29 <| z) <|
  (S (R <| m 30 4 <| b 31 .geq (t 30) (i 0) <| z) <|
  (.cond (t 31) [] [3, 32, 33]
  (S (R <| m 32 4 <| o 33 (.build [(.string ⟨#[]⟩), (.int .i64 0), (.int .i64 0)] [(0, 1, (.const (.string ⟨#[115, 97, 109, 112, 108, 101, 115]⟩))), (1, 1, (t 32)), (2, 1, (i 1))]) <| n (.store 3 (t 2) (t 33)) <| o 3 (.move (.const (.bool true))) <| z) <|
  .ret)
  .skip))) <|
  (S (S (R <| f 34 0 1 <| f 35 12 34 <| l 36 35 <| o 37 (.len false (t 36)) <| b 38 .gtr (t 37) (i 31) <| m 39 38 <| q 51 39 false (g 40 5 ++ [50] ++ g 45 5) (f 40 13 1 <| f 41 6 40 <| l 42 41 <| o 43 (.un .not (t 42)) <| m 44 43 <| q 50 44 true (g 45 5) (f 45 0 1 <| f 46 12 45 <| l 47 46 <| o 48 (.len false (t 47)) <| b 49 .gtr (t 48) (i 0) <| z) (t 49) <|
  z) (t 50) <|
  z) <|
  (.cond (t 51) [] [3, 52]
  (S (R <| o 52 (.build [(.string ⟨#[]⟩), (.int .i64 0), (.int .i64 0)] [(0, 1, (.const (.string ⟨#[105, 110, 115, 116, 115]⟩))), (1, 1, (i 0)), (2, 1, (i 4))]) <| n (.store 3 (t 2) (t 52)) <| o 3 (.move (.const (.bool true))) <| z) <|
  .ret)
  .skip)) <|
  (S (S (R <| f 53 0 1 <| f 54 12 53 <| l 55 54 <| o 56 (.len false (t 55)) <| o 57 (.move (i 0)) <| z) <|
  (.block 0 [] ([3, 5, 6] ++ g 57 17)
  (.loop [57] ([3, 5, 6] ++ g 58 16)
  (S (R <| b 58 .lss (t 57) (t 56) <| z) <|
  (S (.cond (t 58) [] []
  .skip
  (.exit 0)) <|
  (S (.block 1 [] ([3, 5, 6] ++ g 59 14)
  (S (R <| m 59 57 <| o 60 (.indexAddr 33 (t 55) (t 57)) <| o 61 (.load true 33 (t 60)) <| o 6 (.new 57 V33) <| m 5 59 <| n (.store 33 (t 6) (t 61)) <| z) <|
  (S (S (R <| o 62 (.load true 33 (t 6)) <| F 62 (.agg SA33) <| o 63 (.call 127 [(t 62)]) <| o 64 (.un .not (t 63)) <| z) <|
  (.cond (t 64) [] [3, 65, 66]
  (S (R <| m 65 5 <| o 66 (.build [(.string ⟨#[]⟩), (.int .i64 0), (.int .i64 0)] [(0, 1, (.const (.string ⟨#[105, 110, 115, 116, 115]⟩))), (1, 1, (t 65)), (2, 1, (i 1))]) <| n (.store 3 (t 2) (t 66)) <| o 3 (.move (.const (.bool true))) <| z) <|
  .ret)
  .skip)) <|
  (S (R <| f 67 1 6 <| l 68 67 <| o 69 (.mkFunc 129 [] [(t 1)]) <| F 68 (.flat 2) <| o 70 (.call 128 [(t 68), (t 69)]) <| z) <|
  (.cond (t 70) [] [3, 71, 72]
  (S (R <| m 71 5 <| o 72 (.build [(.string ⟨#[]⟩), (.int .i64 0), (.int .i64 0)] [(0, 1, (.const (.string ⟨#[105, 110, 115, 116, 115]⟩))), (1, 1, (t 71)), (2, 1, (i 10))]) <| n (.store 3 (t 2) (t 72)) <| o 3 (.move (.const (.bool true))) <| z) <|
  .ret)
  .skip))))) <|
  (R <| b 73 .add (t 57) (i 1) <| m 57 73 <| z))))))) <|
  (S (R <| o 74 (.build [(.string ⟨#[]⟩), (.int .i64 0), (.int .i64 0)] []) <| n (.store 3 (t 2) (t 74)) <| o 3 (.move (.const (.bool false))) <| z) <|
  .ret)))))), [.cell 2 true 3, .tmp 3], [.keep, .keep]⟩
theorem ok72 : ∃ fn c, FunOk Tryz.prog 72 fn c A72.erase := ⟨Tryz.f72, _, ⟨Tryz.func72, rfl, by kernel_rfl, by kernel_rfl, by kernel_rfl, of_decide_eq_true (by kernel_rfl), by kernel_rfl⟩⟩
noncomputable def s72_L0 (Γ : PCallee) (n : Nat) (h : PHeap) (v0 : PV) (v2 : PV) (h34 : PHeap) (v37 : PV) (v38 : PV) (j39 : Kt) : (Kt) → Kt := fun c45 w46 h47 => (binP .lss (nthP w46 0) v38).bind fun v48 => KL (fun w50 h51 => KL (fun w53 h54 => (binP .add (nthP w46 0) (.int .i64 1 : PV)).bind fun v55 => c45 [v55] (trim h34 [v55] h54)) fun j52 => (indexAddrP 33 v37 (nthP w46 0)).bind fun v56 => (loadP true 33 v56 h51).bind fun v57 => forkP (.ptr h51.length 0) (h51 ++ [.box Z33 57 .rw]) fun v58 h59 => (storeP 33 v58 v57 h59).bind fun h60 => (loadP true 33 v58 h60).bind fun v61 => (fz (.agg SA33) v61 h60).bind fun q62 => (Γ 127 [q62.1] q62.2).bind fun p63 => (unP .not p63.1).bind fun v64 => KL (fun w66 h67 => (fieldAddrP 1 v58).bind fun v68 => (loadP false 1 v68 h67).bind fun v69 => (fz (.flat 2) v69 h67).bind fun q70 => (Γ 128 [q70.1, (PV.func 129 [] [v0])] q70.2).bind fun p71 => KL (fun w73 h74 => j52 [] h74) fun j72 => ifP p71.1 ( (fillP [.str ⟨#[]⟩, .int .i64 0, .int .i64 0] [(0, 1, (.str ⟨#[105, 110, 115, 116, 115]⟩ : PV)), (1, 1, (nthP w46 0)), (2, 1, (.int .i64 10 : PV))]).bind fun l75 => (storeP 3 v2 (PV.agg l75) p71.2).bind fun h76 => (loadP true 3 v2 h76).bind fun v77 => finP [.keep, .keep] h h76 [v77, (.bool true : PV)]) ( j72 [] p71.2)) fun j65 => ifP v64 ( (fillP [.str ⟨#[]⟩, .int .i64 0, .int .i64 0] [(0, 1, (.str ⟨#[105, 110, 115, 116, 115]⟩ : PV)), (1, 1, (nthP w46 0)), (2, 1, (.int .i64 1 : PV))]).bind fun l78 => (storeP 3 v2 (PV.agg l78) p63.2).bind fun h79 => (loadP true 3 v2 h79).bind fun v80 => finP [.keep, .keep] h h79 [v80, (.bool true : PV)]) ( j65 [] p63.2)) fun j49 => ifP v48 ( j49 [] h47) ( j39 [] h47)
noncomputable def s72 (Γ : PCallee) (n : Nat) (x0 : PV) (h : PHeap) : Pt := forkP (.ptr h.length 0) (h ++ [.box (cellsP x0) 104 .rw]) fun v0 h1 => forkP (.ptr h1.length 0) (h1 ++ [.box [.str ⟨#[]⟩, .int .i64 0, .int .i64 0] 108 .rw]) fun v2 h3 => (fieldAddrP 0 v0).bind fun v4 => (fieldAddrP 11 v4).bind fun v5 => (loadP false 1 v5 h3).bind fun v6 => (lenP false v6).bind fun v7 => (binP .gtr v7 (.int .i64 31 : PV)).bind fun v8 => K1 (fun v10 h11 => KL (fun w13 h14 => (fieldAddrP 0 v0).bind fun v15 => (fieldAddrP 11 v15).bind fun v16 => (loadP false 1 v16 h14).bind fun v17 => (fz (.sl 13 SS13) v17 h14).bind fun q18 => (Γ 124 [q18.1, (PV.func 125 [] [])] q18.2).bind fun p19 => (binP .geq p19.1 (.int .i64 0 : PV)).bind fun v20 => KL (fun w22 h23 => (fieldAddrP 0 v0).bind fun v24 => (fieldAddrP 12 v24).bind fun v25 => (loadP false 1 v25 h23).bind fun v26 => (lenP false v26).bind fun v27 => (binP .gtr v27 (.int .i64 31 : PV)).bind fun v28 => K1 (fun v30 h31 => KL (fun w33 h34 => (fieldAddrP 0 v0).bind fun v35 => (fieldAddrP 12 v35).bind fun v36 => (loadP false 1 v36 h34).bind fun v37 => (lenP false v37).bind fun v38 => KL (fun w40 h41 => (fillP [.str ⟨#[]⟩, .int .i64 0, .int .i64 0] []).bind fun l42 => (storeP 3 v2 (PV.agg l42) h41).bind fun h43 => (loadP true 3 v2 h43).bind fun v44 => finP [.keep, .keep] h h43 [v44, (.bool false : PV)]) fun j39 => loopP (s72_L0 Γ n h v0 v2 h34 v37 v38 j39) n [(.int .i64 0 : PV)] h34) fun j32 => ifP v30 ( (fillP [.str ⟨#[]⟩, .int .i64 0, .int .i64 0] [(0, 1, (.str ⟨#[105, 110, 115, 116, 115]⟩ : PV)), (1, 1, (.int .i64 0 : PV)), (2, 1, (.int .i64 4 : PV))]).bind fun l81 => (storeP 3 v2 (PV.agg l81) h31).bind fun h82 => (loadP true 3 v2 h82).bind fun v83 => finP [.keep, .keep] h h82 [v83, (.bool true : PV)]) ( j32 [] h31)) fun j29 => scP v28 false ( (fieldAddrP 13 v0).bind fun v84 => (fieldAddrP 6 v84).bind fun v85 => (loadP false 1 v85 h23).bind fun v86 => (unP .not v86).bind fun v87 => K1 (fun v89 h90 => j29 v89 h90) fun j88 => scP v87 true ( (fieldAddrP 0 v0).bind fun v91 => (fieldAddrP 12 v91).bind fun v92 => (loadP false 1 v92 h23).bind fun v93 => (lenP false v93).bind fun v94 => (binP .gtr v94 (.int .i64 0 : PV)).bind fun v95 => j88 v95 h23) (j88 (.bool false) h23)) (j29 (.bool true) h23)) fun j21 => ifP v20 ( (fillP [.str ⟨#[]⟩, .int .i64 0, .int .i64 0] [(0, 1, (.str ⟨#[115, 97, 109, 112, 108, 101, 115]⟩ : PV)), (1, 1, p19.1), (2, 1, (.int .i64 1 : PV))]).bind fun l96 => (storeP 3 v2 (PV.agg l96) p19.2).bind fun h97 => (loadP true 3 v2 h97).bind fun v98 => finP [.keep, .keep] h h97 [v98, (.bool true : PV)]) ( j21 [] p19.2)) fun j12 => ifP v10 ( (fillP [.str ⟨#[]⟩, .int .i64 0, .int .i64 0] [(0, 1, (.str ⟨#[115, 97, 109, 112, 108, 101, 115]⟩ : PV)), (1, 1, (.int .i64 0 : PV)), (2, 1, (.int .i64 4 : PV))]).bind fun l99 => (storeP 3 v2 (PV.agg l99) h11).bind fun h100 => (loadP true 3 v2 h100).bind fun v101 => finP [.keep, .keep] h h100 [v101, (.bool true : PV)]) ( j12 [] h11)) fun j9 => scP v8 false ( (fieldAddrP 0 v0).bind fun v102 => (fieldAddrP 1 v102).bind fun v103 => (loadP false 1 v103 h3).bind fun v104 => (binP .eql v104 (.int .i64 6 : PV)).bind fun v105 => K1 (fun v107 h108 => j9 v107 h108) fun j106 => scP v105 true ( (fieldAddrP 0 v0).bind fun v109 => (fieldAddrP 11 v109).bind fun v110 => (loadP false 1 v110 h3).bind fun v111 => (lenP false v111).bind fun v112 => (binP .gtr v112 (.int .i64 0 : PV)).bind fun v113 => j106 v113 h3) (j106 (.bool false) h3)) (j9 (.bool true) h3)
theorem s72_eq (Γ : PCallee) (n : Nat) (x0 : PV) (h : PHeap) : pfunK Γ n A72 [x0] h = s72 Γ n x0 h := by kernel_rfl
open Go.Vm.G in
def A76 : PFun := ⟨2, 17, (S (R <| o 2 (.box 39 (t 0)) <| o 3 (.box 39 (t 1)) <| o 4 (.move (.const (.bool false))) <| z) <|
  (S (R <| f 5 0 2 <| l 6 5 <| f 7 0 3 <| l 8 7 <| b 9 .eql (t 6) (t 8) <| m 10 9 <| q 16 10 true (g 11 5) (f 11 1 2 <| l 12 11 <| f 13 1 3 <| l 14 13 <| o 15 (.call 131 [(t 12), (t 14)]) <| z) (t 15) <|
  m 4 16 <| z) <|
  .ret)), [.tmp 4], [.keep]⟩
theorem ok76 : ∃ fn c, FunOk Tryz.prog 76 fn c A76.erase := ⟨Tryz.f76, _, ⟨Tryz.func76, rfl, by kernel_rfl, by kernel_rfl, by kernel_rfl, of_decide_eq_true (by kernel_rfl), by kernel_rfl⟩⟩
noncomputable def s76 (Γ : PCallee) (n : Nat) (x0 : PV) (x1 : PV) (h : PHeap) : Pt := forkP (.ptr h.length 0) (h ++ [.box (cellsP x0) 39 .rw]) fun v0 h1 => forkP (.ptr h1.length 0) (h1 ++ [.box (cellsP x1) 39 .rw]) fun v2 h3 => (fieldAddrP 0 v0).bind fun v4 => (loadP false 1 v4 h3).bind fun v5 => (fieldAddrP 0 v2).bind fun v6 => (loadP false 1 v6 h3).bind fun v7 => (binP .eql v5 v7).bind fun v8 => K1 (fun v10 h11 => finP [.keep] h h11 [v10]) fun j9 => scP v8 true ( (fieldAddrP 1 v0).bind fun v12 => (loadP false 1 v12 h3).bind fun v13 => (fieldAddrP 1 v2).bind fun v14 => (loadP false 1 v14 h3).bind fun v15 => (Γ 131 [v13, v15] h3).bind fun p16 => j9 p16.1 p16.2) (j9 (.bool false) h3)
theorem s76_eq (Γ : PCallee) (n : Nat) (x0 : PV) (x1 : PV) (h : PHeap) : pfunK Γ n A76 [x0, x1] h = s76 Γ n x0 x1 h := by kernel_rfl
open Go.Vm.G in
def A77 : PFun := ⟨2, 94, (S (R <| o 2 (.box 43 (t 0)) <| o 3 (.box 43 (t 1)) <| o 4 (.move (.const (.bool false))) <| z) <|
  (S (R <| f 5 1 2 <| l 6 5 <| f 7 1 3 <| l 8 7 <| o 9 (.call 33 [(t 6), (t 8)]) <| m 10 9 <| q 16 10 true (g 11 5) (f 11 0 2 <| l 12 11 <| f 13 0 3 <| l 14 13 <| b 15 .eql (t 12) (t 14) <| z) (t 15) <|
  m 17 16 <| q 23 17 true (g 18 5) (f 18 2 2 <| l 19 18 <| f 20 2 3 <| l 21 20 <| b 22 .eql (t 19) (t 21) <| z) (t 22) <|
  m 24 23 <| q 30 24 true (g 25 5) (f 25 3 2 <| l 26 25 <| f 27 3 3 <| l 28 27 <| b 29 .eql (t 26) (t 28) <| z) (t 29) <|
  m 31 30 <| q 37 31 true (g 32 5) (f 32 4 2 <| l 33 32 <| f 34 4 3 <| l 35 34 <| b 36 .eql (t 33) (t 35) <| z) (t 36) <|
  m 38 37 <| q 44 38 true (g 39 5) (f 39 5 2 <| l 40 39 <| f 41 5 3 <| l 42 41 <| b 43 .eql (t 40) (t 42) <| z) (t 43) <|
  m 45 44 <| q 51 45 true (g 46 5) (f 46 6 2 <| l 47 46 <| f 48 6 3 <| l 49 48 <| b 50 .eql (t 47) (t 49) <| z) (t 50) <|
  m 52 51 <| q 58 52 true (g 53 5) (f 53 7 2 <| l 54 53 <| f 55 7 3 <| l 56 55 <| b 57 .eql (t 54) (t 56) <| z) (t 57) <|
  m 59 58 <| q 65 59 true (g 60 5) (f 60 8 2 <| l 61 60 <| f 62 8 3 <| l 63 62 <| b 64 .eql (t 61) (t 63) <| z) (t 64) <|
  m 66 65 <| q 72 66 true (g 67 5) (f 67 9 2 <| l 68 67 <| f 69 9 3 <| l 70 69 <| b 71 .eql (t 68) (t 70) <| z) (t 71) <|
  m 73 72 <| q 79 73 true (g 74 5) (f 74 10 2 <| l 75 74 <| f 76 10 3 <| l 77 76 <| b 78 .eql (t 75) (t 77) <| z) (t 78) <|
  m 80 79 <| q 86 80 true (g 81 5) (f 81 11 2 <| l 82 81 <| f 83 11 3 <| l 84 83 <| b 85 .eql (t 82) (t 84) <| z) (t 85) <|
  m 87 86 <| q 93 87 true (g 88 5) (f 88 12 2 <| l 89 88 <| f 90 12 3 <| l 91 90 <| b 92 .eql (t 89) (t 91) <| z) (t 92) <|
  m 4 93 <| z) <|
  .ret)), [.tmp 4], [.keep]⟩
theorem ok77 : ∃ fn c, FunOk Tryz.prog 77 fn c A77.erase := ⟨Tryz.f77, _, ⟨Tryz.func77, rfl, by kernel_rfl, by kernel_rfl, by kernel_rfl, of_decide_eq_true (by kernel_rfl), by kernel_rfl⟩⟩
noncomputable def s77 (Γ : PCallee) (n : Nat) (x0 : PV) (x1 : PV) (h : PHeap) : Pt := forkP (.ptr h.length 0) (h ++ [.box (cellsP x0) 43 .rw]) fun v0 h1 => forkP (.ptr h1.length 0) (h1 ++ [.box (cellsP x1) 43 .rw]) fun v2 h3 => (fieldAddrP 1 v0).bind fun v4 => (loadP false 1 v4 h3).bind fun v5 => (fieldAddrP 1 v2).bind fun v6 => (loadP false 1 v6 h3).bind fun v7 => (Γ 33 [v5, v7] h3).bind fun p8 => K1 (fun v10 h11 => K1 (fun v13 h14 => K1 (fun v16 h17 => K1 (fun v19 h20 => K1 (fun v22 h23 => K1 (fun v25 h26 => K1 (fun v28 h29 => K1 (fun v31 h32 => K1 (fun v34 h35 => K1 (fun v37 h38 => K1 (fun v40 h41 => K1 (fun v43 h44 => finP [.keep] h h44 [v43]) fun j42 => scP v40 true ( (fieldAddrP 12 v0).bind fun v45 => (loadP false 1 v45 h41).bind fun v46 => (fieldAddrP 12 v2).bind fun v47 => (loadP false 1 v47 h41).bind fun v48 => (binP .eql v46 v48).bind fun v49 => j42 v49 h41) (j42 (.bool false) h41)) fun j39 => scP v37 true ( (fieldAddrP 11 v0).bind fun v50 => (loadP false 1 v50 h38).bind fun v51 => (fieldAddrP 11 v2).bind fun v52 => (loadP false 1 v52 h38).bind fun v53 => (binP .eql v51 v53).bind fun v54 => j39 v54 h38) (j39 (.bool false) h38)) fun j36 => scP v34 true ( (fieldAddrP 10 v0).bind fun v55 => (loadP false 1 v55 h35).bind fun v56 => (fieldAddrP 10 v2).bind fun v57 => (loadP false 1 v57 h35).bind fun v58 => (binP .eql v56 v58).bind fun v59 => j36 v59 h35) (j36 (.bool false) h35)) fun j33 => scP v31 true ( (fieldAddrP 9 v0).bind fun v60 => (loadP false 1 v60 h32).bind fun v61 => (fieldAddrP 9 v2).bind fun v62 => (loadP false 1 v62 h32).bind fun v63 => (binP .eql v61 v63).bind fun v64 => j33 v64 h32) (j33 (.bool false) h32)) fun j30 => scP v28 true ( (fieldAddrP 8 v0).bind fun v65 => (loadP false 1 v65 h29).bind fun v66 => (fieldAddrP 8 v2).bind fun v67 => (loadP false 1 v67 h29).bind fun v68 => (binP .eql v66 v68).bind fun v69 => j30 v69 h29) (j30 (.bool false) h29)) fun j27 => scP v25 true ( (fieldAddrP 7 v0).bind fun v70 => (loadP false 1 v70 h26).bind fun v71 => (fieldAddrP 7 v2).bind fun v72 => (loadP false 1 v72 h26).bind fun v73 => (binP .eql v71 v73).bind fun v74 => j27 v74 h26) (j27 (.bool false) h26)) fun j24 => scP v22 true ( (fieldAddrP 6 v0).bind fun v75 => (loadP false 1 v75 h23).bind fun v76 => (fieldAddrP 6 v2).bind fun v77 => (loadP false 1 v77 h23).bind fun v78 => (binP .eql v76 v78).bind fun v79 => j24 v79 h23) (j24 (.bool false) h23)) fun j21 => scP v19 true ( (fieldAddrP 5 v0).bind fun v80 => (loadP false 1 v80 h20).bind fun v81 => (fieldAddrP 5 v2).bind fun v82 => (loadP false 1 v82 h20).bind fun v83 => (binP .eql v81 v83).bind fun v84 => j21 v84 h20) (j21 (.bool false) h20)) fun j18 => scP v16 true ( (fieldAddrP 4 v0).bind fun v85 => (loadP false 1 v85 h17).bind fun v86 => (fieldAddrP 4 v2).bind fun v87 => (loadP false 1 v87 h17).bind fun v88 => (binP .eql v86 v88).bind fun v89 => j18 v89 h17) (j18 (.bool false) h17)) fun j15 => scP v13 true ( (fieldAddrP 3 v0).bind fun v90 => (loadP false 1 v90 h14).bind fun v91 => (fieldAddrP 3 v2).bind fun v92 => (loadP false 1 v92 h14).bind fun v93 => (binP .eql v91 v93).bind fun v94 => j15 v94 h14) (j15 (.bool false) h14)) fun j12 => scP v10 true ( (fieldAddrP 2 v0).bind fun v95 => (loadP false 1 v95 h11).bind fun v96 => (fieldAddrP 2 v2).bind fun v97 => (loadP false 1 v97 h11).bind fun v98 => (binP .eql v96 v98).bind fun v99 => j12 v99 h11) (j12 (.bool false) h11)) fun j9 => scP p8.1 true ( (fieldAddrP 0 v0).bind fun v100 => (loadP false 1 v100 p8.2).bind fun v101 => (fieldAddrP 0 v2).bind fun v102 => (loadP false 1 v102 p8.2).bind fun v103 => (binP .eql v101 v103).bind fun v104 => j9 v104 p8.2) (j9 (.bool false) p8.2)
theorem s77_eq (Γ : PCallee) (n : Nat) (x0 : PV) (x1 : PV) (h : PHeap) : pfunK Γ n A77 [x0, x1] h = s77 Γ n x0 x1 h := by kernel_rfl
open Go.Vm.G in
def A78 : PFun := ⟨2, 87, (S (R <| o 2 (.box 57 (t 0)) <| o 3 (.box 57 (t 1)) <| o 4 (.move (.const (.bool false))) <| z) <|
  (S (R <| f 5 1 2 <| l 6 5 <| f 7 1 3 <| l 8 7 <| o 9 (.call 132 [(t 6), (t 8)]) <| m 10 9 <| q 16 10 true (g 11 5) (f 11 2 2 <| o 12 (.load true 8 (t 11)) <| f 13 2 3 <| o 14 (.load true 8 (t 13)) <| o 15 (.call 133 [(t 12), (t 14)]) <| z) (t 15) <|
  m 17 16 <| q 23 17 true (g 18 5) (f 18 10 2 <| o 19 (.load true 8 (t 18)) <| f 20 10 3 <| o 21 (.load true 8 (t 20)) <| o 22 (.call 133 [(t 19), (t 21)]) <| z) (t 22) <|
  m 24 23 <| q 30 24 true (g 25 5) (f 25 18 2 <| o 26 (.load true 8 (t 25)) <| f 27 18 3 <| o 28 (.load true 8 (t 27)) <| o 29 (.call 133 [(t 26), (t 28)]) <| z) (t 29) <|
  m 31 30 <| q 37 31 true (g 32 5) (f 32 0 2 <| l 33 32 <| f 34 0 3 <| l 35 34 <| b 36 .eql (t 33) (t 35) <| z) (t 36) <|
  m 38 37 <| q 44 38 true (g 39 5) (f 39 26 2 <| l 40 39 <| f 41 26 3 <| l 42 41 <| b 43 .eql (t 40) (t 42) <| z) (t 43) <|
  m 45 44 <| q 51 45 true (g 46 5) (f 46 27 2 <| l 47 46 <| f 48 27 3 <| l 49 48 <| b 50 .eql (t 47) (t 49) <| z) (t 50) <|
  m 52 51 <| q 58 52 true (g 53 5) (f 53 28 2 <| l 54 53 <| f 55 28 3 <| l 56 55 <| b 57 .eql (t 54) (t 56) <| z) (t 57) <|
  m 59 58 <| q 65 59 true (g 60 5) (f 60 29 2 <| l 61 60 <| f 62 29 3 <| l 63 62 <| b 64 .eql (t 61) (t 63) <| z) (t 64) <|
  m 66 65 <| q 72 66 true (g 67 5) (f 67 30 2 <| l 68 67 <| f 69 30 3 <| l 70 69 <| b 71 .eql (t 68) (t 70) <| z) (t 71) <|
  m 73 72 <| q 79 73 true (g 74 5) (f 74 31 2 <| l 75 74 <| f 76 31 3 <| l 77 76 <| b 78 .eql (t 75) (t 77) <| z) (t 78) <|
  m 80 79 <| q 86 80 true (g 81 5) (f 81 32 2 <| l 82 81 <| f 83 32 3 <| l 84 83 <| b 85 .eql (t 82) (t 84) <| z) (t 85) <|
  m 4 86 <| z) <|
  .ret)), [.tmp 4], [.keep]⟩
theorem ok78 : ∃ fn c, FunOk Tryz.prog 78 fn c A78.erase := ⟨Tryz.f78, _, ⟨Tryz.func78, rfl, by kernel_rfl, by kernel_rfl, by kernel_rfl, of_decide_eq_true (by kernel_rfl), by kernel_rfl⟩⟩
noncomputable def s78 (Γ : PCallee) (n : Nat) (x0 : PV) (x1 : PV) (h : PHeap) : Pt := forkP (.ptr h.length 0) (h ++ [.box (cellsP x0) 57 .rw]) fun v0 h1 => forkP (.ptr h1.length 0) (h1 ++ [.box (cellsP x1) 57 .rw]) fun v2 h3 => (fieldAddrP 1 v0).bind fun v4 => (loadP false 1 v4 h3).bind fun v5 => (fieldAddrP 1 v2).bind fun v6 => (loadP false 1 v6 h3).bind fun v7 => (Γ 132 [v5, v7] h3).bind fun p8 => K1 (fun v10 h11 => K1 (fun v13 h14 => K1 (fun v16 h17 => K1 (fun v19 h20 => K1 (fun v22 h23 => K1 (fun v25 h26 => K1 (fun v28 h29 => K1 (fun v31 h32 => K1 (fun v34 h35 => K1 (fun v37 h38 => K1 (fun v40 h41 => finP [.keep] h h41 [v40]) fun j39 => scP v37 true ( (fieldAddrP 32 v0).bind fun v42 => (loadP false 1 v42 h38).bind fun v43 => (fieldAddrP 32 v2).bind fun v44 => (loadP false 1 v44 h38).bind fun v45 => (binP .eql v43 v45).bind fun v46 => j39 v46 h38) (j39 (.bool false) h38)) fun j36 => scP v34 true ( (fieldAddrP 31 v0).bind fun v47 => (loadP false 1 v47 h35).bind fun v48 => (fieldAddrP 31 v2).bind fun v49 => (loadP false 1 v49 h35).bind fun v50 => (binP .eql v48 v50).bind fun v51 => j36 v51 h35) (j36 (.bool false) h35)) fun j33 => scP v31 true ( (fieldAddrP 30 v0).bind fun v52 => (loadP false 1 v52 h32).bind fun v53 => (fieldAddrP 30 v2).bind fun v54 => (loadP false 1 v54 h32).bind fun v55 => (binP .eql v53 v55).bind fun v56 => j33 v56 h32) (j33 (.bool false) h32)) fun j30 => scP v28 true ( (fieldAddrP 29 v0).bind fun v57 => (loadP false 1 v57 h29).bind fun v58 => (fieldAddrP 29 v2).bind fun v59 => (loadP false 1 v59 h29).bind fun v60 => (binP .eql v58 v60).bind fun v61 => j30 v61 h29) (j30 (.bool false) h29)) fun j27 => scP v25 true ( (fieldAddrP 28 v0).bind fun v62 => (loadP false 1 v62 h26).bind fun v63 => (fieldAddrP 28 v2).bind fun v64 => (loadP false 1 v64 h26).bind fun v65 => (binP .eql v63 v65).bind fun v66 => j27 v66 h26) (j27 (.bool false) h26)) fun j24 => scP v22 true ( (fieldAddrP 27 v0).bind fun v67 => (loadP false 1 v67 h23).bind fun v68 => (fieldAddrP 27 v2).bind fun v69 => (loadP false 1 v69 h23).bind fun v70 => (binP .eql v68 v70).bind fun v71 => j24 v71 h23) (j24 (.bool false) h23)) fun j21 => scP v19 true ( (fieldAddrP 26 v0).bind fun v72 => (loadP false 1 v72 h20).bind fun v73 => (fieldAddrP 26 v2).bind fun v74 => (loadP false 1 v74 h20).bind fun v75 => (binP .eql v73 v75).bind fun v76 => j21 v76 h20) (j21 (.bool false) h20)) fun j18 => scP v16 true ( (fieldAddrP 0 v0).bind fun v77 => (loadP false 1 v77 h17).bind fun v78 => (fieldAddrP 0 v2).bind fun v79 => (loadP false 1 v79 h17).bind fun v80 => (binP .eql v78 v80).bind fun v81 => j18 v81 h17) (j18 (.bool false) h17)) fun j15 => scP v13 true ( (fieldAddrP 18 v0).bind fun v82 => (loadP true 8 v82 h14).bind fun v83 => (fieldAddrP 18 v2).bind fun v84 => (loadP true 8 v84 h14).bind fun v85 => (Γ 133 [v83, v85] h14).bind fun p86 => j15 p86.1 p86.2) (j15 (.bool false) h14)) fun j12 => scP v10 true ( (fieldAddrP 10 v0).bind fun v87 => (loadP true 8 v87 h11).bind fun v88 => (fieldAddrP 10 v2).bind fun v89 => (loadP true 8 v89 h11).bind fun v90 => (Γ 133 [v88, v90] h11).bind fun p91 => j12 p91.1 p91.2) (j12 (.bool false) h11)) fun j9 => scP p8.1 true ( (fieldAddrP 2 v0).bind fun v92 => (loadP true 8 v92 p8.2).bind fun v93 => (fieldAddrP 2 v2).bind fun v94 => (loadP true 8 v94 p8.2).bind fun v95 => (Γ 133 [v93, v95] p8.2).bind fun p96 => j9 p96.1 p96.2) (j9 (.bool false) p8.2)
theorem s78_eq (Γ : PCallee) (n : Nat) (x0 : PV) (x1 : PV) (h : PHeap) : pfunK Γ n A78 [x0, x1] h = s78 Γ n x0 x1 h := by kernel_rfl
open Go.Vm.G in
def A87 : PFun := ⟨1, 9, (S (R <| o 2 (.move (.const (.bool false))) <| z) <|
  (S (R <| m 3 0 <| b 4 .eql (t 3) (i 254) <| m 5 4 <| q 8 5 false [6, 7] (m 6 0 <| b 7 .eql (t 6) (i 255) <| z) (t 7) <|
  m 2 8 <| z) <|
  .ret)), [.tmp 2], [.keep]⟩
theorem ok87 : ∃ fn c, FunOk Tryz.prog 87 fn c A87.erase := ⟨Tryz.f87, _, ⟨Tryz.func87, rfl, by kernel_rfl, by kernel_rfl, by kernel_rfl, of_decide_eq_true (by kernel_rfl), by kernel_rfl⟩⟩
noncomputable def s87 (Γ : PCallee) (n : Nat) (x0 : PV) (h : PHeap) : Pt := (binP .eql x0 (.int .i64 254 : PV)).bind fun v0 => K1 (fun v2 h3 => finP [.keep] h h3 [v2]) fun j1 => scP v0 false ( (binP .eql x0 (.int .i64 255 : PV)).bind fun v4 => j1 v4 h) (j1 (.bool true) h)
theorem s87_eq (Γ : PCallee) (n : Nat) (x0 : PV) (h : PHeap) : pfunK Γ n A87 [x0] h = s87 Γ n x0 h := by kernel_rfl
open Go.Vm.G in
def A94 : PFun := ⟨2, 28, (S (R <| o 6 .mkMap <| m 3 6 <| z) <|
  (S (R <| f 7 3 1 <| l 8 7 <| o 9 (.len false (t 8)) <| o 10 (.move (i 0)) <| z) <|
  (.block 0 [] ([5] ++ g 10 18)
  (.loop [10] ([5] ++ g 11 17)
  (S (R <| b 11 .lss (t 10) (t 9) <| z) <|
  (S (.cond (t 11) [] []
  .skip
  (.exit 0)) <|
  (S (.block 1 [] ([5] ++ g 12 15)
  (S (R <| o 12 (.indexAddr 1 (t 8) (t 10)) <| l 13 12 <| m 5 13 <| z) <|
  (S (S (R <| m 14 5 <| o 15 (.call 87 [(t 14)]) <| m 16 15 <| q 20 16 false [17, 18, 19] (m 17 3 <| m 18 5 <| o 19 (.lookup .int (.bool false) false (t 17) (t 18)) <| z) (t 19) <|
  z) <|
  (.cond (t 20) [] []
  (.exit 1)
  .skip)) <|
  (S (R <| m 21 3 <| m 22 5 <| n (.mapSet .int (t 21) (t 22) (.const (.bool true))) <| z) <|
  (S (R <| m 23 0 <| m 24 5 <| o 25 (.callV (t 23) [(t 24)]) <| o 26 (.un .not (t 25)) <| z) <|
  (.cond (t 26) [] []
  .ret
  .skip)))))) <|
  (R <| b 27 .add (t 10) (i 1) <| m 10 27 <| z)))))))), [], []⟩
theorem ok94 : ∃ fn c, FunOk Tryz.prog 94 fn c A94.erase := ⟨Tryz.f94, _, ⟨Tryz.func94, rfl, by kernel_rfl, by kernel_rfl, by kernel_rfl, of_decide_eq_true (by kernel_rfl), by kernel_rfl⟩⟩
noncomputable def s94_L0 (Γ : PCallee) (n : Nat) (x0 : PV) (h : PHeap) (v0 : PV) (h1 : PHeap) (v3 : PV) (v4 : PV) (j5 : Kt) : (Kt) → Kt := fun c8 w9 h10 => (binP .lss (nthP w9 0) v4).bind fun v11 => KL (fun w13 h14 => KL (fun w16 h17 => (binP .add (nthP w9 0) (.int .i64 1 : PV)).bind fun v18 => c8 [v18] (trim h1 [v18] h17)) fun j15 => (indexAddrP 1 v3 (nthP w9 0)).bind fun v19 => (loadP false 1 v19 h14).bind fun v20 => (Γ 87 [v20] h14).bind fun p21 => K1 (fun v23 h24 => KL (fun w26 h27 => (setMapP .int v0 v20 (.bool true : PV) h27).bind fun h28 => (callVP Γ x0 [v20] h28).bind fun p29 => (unP .not p29.1).bind fun v30 => KL (fun w32 h33 => j15 [] h33) fun j31 => ifP v30 ( finP [] h p29.2 []) ( j31 [] p29.2)) fun j25 => ifP v23 ( j15 [] h24) ( j25 [] h24)) fun j22 => scP p21.1 false ( (lookupP .int (.bool false) false v0 v20 p21.2).bind fun v34 => j22 v34 p21.2) (j22 (.bool true) p21.2)) fun j12 => ifP v11 ( j12 [] h10) ( j5 [] h10)
noncomputable def s94 (Γ : PCallee) (n : Nat) (x0 : PV) (x1 : PV) (h : PHeap) : Pt := forkP (.map h.length) (h ++ [.map [] .rw]) fun v0 h1 => (fieldAddrP 3 x1).bind fun v2 => (loadP false 1 v2 h1).bind fun v3 => (lenP false v3).bind fun v4 => KL (fun w6 h7 => finP [] h h7 []) fun j5 => loopP (s94_L0 Γ n x0 h v0 h1 v3 v4 j5) n [(.int .i64 0 : PV)] h1
theorem s94_eq (Γ : PCallee) (n : Nat) (x0 : PV) (x1 : PV) (h : PHeap) : pfunK Γ n A94 [x0, x1] h = s94 Γ n x0 x1 h := by kernel_rfl
open Go.Vm.G in
def L96_0a : PCode := (R <| m 4 8 <| z)
open Go.Vm.G in
def L96_0b : PCode := (.block 1 [] ([6] ++ g 9 22)
  (S (R <| f 9 10 2 <| l 10 9 <| m 11 4 <| o 12 (.indexAddr 2 (t 10) (t 11)) <| f 13 1 12 <| l 14 13 <| o 15 (.len false (t 14)) <| o 16 (.move (i 0)) <| z) <|
  (.block 2 [] ([6] ++ g 16 15)
  (.loop [16] ([6] ++ g 17 14)
  (S (R <| b 17 .lss (t 16) (t 15) <| z) <|
  (S (.cond (t 17) [] []
  .skip
  (.exit 2)) <|
  (S (.block 3 [] ([6] ++ g 18 12)
  (S (R <| o 18 (.indexAddr 6 (t 14) (t 16)) <| o 19 (.load true 6 (t 18)) <| o 6 (.new 41 [(.int .i64 0), (.int .i64 0), (.int .i64 0), (.int .i64 0), (.int .i64 0), (.int .i64 0)]) <| n (.store 6 (t 6) (t 19)) <| z) <|
  (S (R <| f 20 1 6 <| l 21 20 <| b 22 .gtr (t 21) (i 0) <| m 23 22 <| q 29 23 true (g 24 5) (l 24 3 <| f 25 1 6 <| l 26 25 <| o 27 (.callV (t 24) [(t 26)]) <| o 28 (.un .not (t 27)) <| z) (t 28) <|
  z) <|
  (.cond (t 29) [] []
  .ret
  .skip)))) <|
  (R <| b 30 .add (t 16) (i 1) <| m 16 30 <| z))))))))
open Go.Vm.G in
def A96 : PFun := ⟨3, 31, (S (R <| o 3 (.box 85 (t 0)) <| z) <|
  (S (R <| l 7 1 <| z) <|
  (.block 0 [] []
  (.rangeF (t 7) [2, 3] [8] L96_0a L96_0b)))), [], []⟩
theorem ok96 : ∃ fn c, FunOk Tryz.prog 96 fn c A96.erase := ⟨Tryz.f96, _, ⟨Tryz.func96, rfl, by kernel_rfl, by kernel_rfl, by kernel_rfl, of_decide_eq_true (by kernel_rfl), by kernel_rfl⟩⟩
noncomputable def s96 (Γ : PCallee) (n : Nat) (x0 : PV) (x1 : PV) (x2 : PV) (h : PHeap) : Pt := forkP (.ptr h.length 0) (h ++ [.box (cellsP x0) 85 .rw]) fun v0 h1 => (loadP false 1 x1 h1).bind fun v2 => KL (fun w4 h5 => finP [] h h5 []) fun j3 => (callFP Γ v2 [.yield h1.length] (h1 ++ [.loop [x2, v0] [2, 3] [8] L96_0a L96_0b .ready none .rw])).bind fun p6 => (pendOfP h1.length p6.2).bind fun o7 => forkP undefP (trim h1 [] (p6.2.set h1.length .dead)) fun v8 h9 =>
endF o7 ( j3 [] h9) (fun i10 => bif Nat.beq i10 0 then (j3 [] h9) else none) ( finP [] h h9 [])
theorem s96_eq (Γ : PCallee) (n : Nat) (x0 : PV) (x1 : PV) (x2 : PV) (h : PHeap) : pfunK Γ n A96 [x0, x1, x2] h = s96 Γ n x0 x1 x2 h := by kernel_rfl
noncomputable def r96_0_L0 (Γ : PCallee) (n : Nat) (w3 : PV) (b : Nat) (h : PHeap) (h0 : PHeap) (v8 : PV) (v9 : PV) (j10 : Kt) : (Kt) → Kt := fun c13 w14 h15 => (binP .lss (nthP w14 0) v9).bind fun v16 => KL (fun w18 h19 => KL (fun w21 h22 => (binP .add (nthP w14 0) (.int .i64 1 : PV)).bind fun v23 => c13 [v23] (trim h0 [v23] h22)) fun j20 => (indexAddrP 6 v8 (nthP w14 0)).bind fun v24 => (loadP true 6 v24 h19).bind fun v25 => forkP (.ptr h19.length 0) (h19 ++ [.box [.int .i64 0, .int .i64 0, .int .i64 0, .int .i64 0, .int .i64 0, .int .i64 0] 41 .rw]) fun v26 h27 => (storeP 6 v26 v25 h27).bind fun h28 => (fieldAddrP 1 v26).bind fun v29 => (loadP false 1 v29 h28).bind fun v30 => (binP .gtr v30 (.int .i64 0 : PV)).bind fun v31 => K1 (fun v33 h34 => KL (fun w36 h37 => j20 [] h37) fun j35 => ifP v33 ( (endRoundP b .ret h34).map fun q => (q.1, trim h [] q.2)) ( j35 [] h34)) fun j32 => scP v31 true ( (loadP false 1 w3 h28).bind fun v38 => (fieldAddrP 1 v26).bind fun v39 => (loadP false 1 v39 h28).bind fun v40 => (callVP Γ v38 [v40] h28).bind fun p41 => (unP .not p41.1).bind fun v42 => j32 v42 p41.2) (j32 (.bool false) h28)) fun j17 => ifP v16 ( j17 [] h15) ( j10 [] h15)
noncomputable def r96_0 (Γ : PCallee) (n : Nat) (w2 : PV) (w3 : PV) (a8 : PV) (b : Nat) (h : PHeap) : Pt := (beginRoundP b h).bind fun h0 => KL (fun w2 h3 => (endRoundP b .normal h3).map fun q => (q.1, trim h [] q.2)) fun j1 => (fieldAddrP 10 w2).bind fun v4 => (loadP false 1 v4 h0).bind fun v5 => (indexAddrP 2 v5 a8).bind fun v6 => (fieldAddrP 1 v6).bind fun v7 => (loadP false 1 v7 h0).bind fun v8 => (lenP false v8).bind fun v9 => KL (fun w11 h12 => j1 [] h12) fun j10 => loopP (r96_0_L0 Γ n w3 b h h0 v8 v9 j10) n [(.int .i64 0 : PV)] h0
theorem r96_0_eq (Γ : PCallee) (n : Nat) (w2 : PV) (w3 : PV) (a8 : PV) (b : Nat) (h : PHeap) (pend : Option AExit) (md : Md) (hb : h[b]? = some (.loop [w2, w3] [2, 3] [8] L96_0a L96_0b .ready pend md)) : proundK Γ n (.ptr b 0 :: [a8]) h = r96_0 Γ n w2 w3 a8 b h := (proundK_eq hb rfl).trans (by kernel_rfl)
open Go.Vm.G in
def A101 : PFun := ⟨1, 9, (S (R <| o 2 (.move (.const (.bool false))) <| z) <|
  (S (R <| m 3 0 <| b 4 .geq (t 3) (i 1) <| m 5 4 <| q 8 5 true [6, 7] (m 6 0 <| b 7 .leq (t 6) (i 6) <| z) (t 7) <|
  m 2 8 <| z) <|
  .ret)), [.tmp 2], [.keep]⟩
theorem ok101 : ∃ fn c, FunOk Tryz.prog 101 fn c A101.erase := ⟨Tryz.f101, _, ⟨Tryz.func101, rfl, by kernel_rfl, by kernel_rfl, by kernel_rfl, of_decide_eq_true (by kernel_rfl), by kernel_rfl⟩⟩
noncomputable def s101 (Γ : PCallee) (n : Nat) (x0 : PV) (h : PHeap) : Pt := (binP .geq x0 (.int .i64 1 : PV)).bind fun v0 => K1 (fun v2 h3 => finP [.keep] h h3 [v2]) fun j1 => scP v0 true ( (binP .leq x0 (.int .i64 6 : PV)).bind fun v4 => j1 v4 h) (j1 (.bool false) h)
theorem s101_eq (Γ : PCallee) (n : Nat) (x0 : PV) (h : PHeap) : pfunK Γ n A101 [x0] h = s101 Γ n x0 h := by kernel_rfl
open Go.Vm.G in
def A102 : PFun := ⟨0, 8, (S (R <| o 0 (.new 131 V203) <| z) <|
  (S (R <| o 1 (.build V29 [(0, 1, (.const (.string ⟨#[102, 111, 117, 114]⟩))), (1, 1, (i 4)), (2, 1, (i 32)), (3, 1, (i 64)), (4, 1, (i 49)), (5, 1, (i 84)), (9, 1, (i 1)), (10, 1, (i 453)), (11, 1, (i 3424)), (16, 1, (i 5)), (17, 1, (.const (.bool true))), (18, 1, (i 1)), (19, 1, (.const (.bool true))), (21, 1, (i 1)), (22, 1, (.const (.bool true))), (25, 1, (.const (.bool true)))]) <| o 2 (.build V29 [(0, 1, (.const (.string ⟨#[115, 99, 114, 101, 97, 109]⟩))), (1, 1, (i 16)), (2, 1, (i 32)), (3, 1, (i 64)), (4, 1, (i 13)), (5, 1, (i 108)), (7, 1, (.const (.bool true))), (9, 1, (i 1)), (10, 1, (i 64)), (11, 1, (i 32767)), (16, 1, (i 5))]) <| o 3 (.build V29 [(0, 1, (.const (.string ⟨#[102, 97, 115, 116]⟩))), (1, 1, (i 16)), (2, 1, (i 32)), (4, 1, (i 1)), (5, 1, (i 96)), (6, 1, (.const (.bool true))), (7, 1, (.const (.bool true))), (8, 1, (.const (.bool true))), (10, 1, (i 32)), (11, 1, (i 65535)), (12, 1, (.const (.bool true))), (16, 1, (i 6)), (17, 1, (.const (.bool true))), (19, 1, (.const (.bool true))), (20, 1, (.const (.bool true))), (21, 1, (i 1)), (23, 1, (.const (.bool true))), (24, 1, (.const (.bool true))), (25, 1, (.const (.bool true))), (26, 1, (.const (.bool true))), (27, 1, (.const (.bool true)))]) <| o 4 (.build V29 [(0, 1, (.const (.string ⟨#[105, 109, 112, 117, 108, 115, 101]⟩))), (1, 1, (i 16)), (2, 1, (i 32)), (4, 1, (i 1)), (5, 1, (i 120)), (6, 1, (.const (.bool true))), (7, 1, (.const (.bool true))), (8, 1, (.const (.bool true))), (10, 1, (i 16)), (11, 1, (i 65535)), (15, 1, (.const (.bool true))), (16, 1, (i 6)), (19, 1, (.const (.bool true))), (21, 1, (i 2)), (23, 1, (.const (.bool true))), (27, 1, (.const (.bool true)))]) <| o 5 (.build V29 [(0, 1, (.const (.string ⟨#[99, 111, 109, 112, 111, 115, 101]⟩))), (1, 1, (i 8)), (2, 1, (i 32)), (3, 1, (i 64)), (4, 1, (i 13)), (5, 1, (i 72)), (9, 1, (i 2)), (13, 1, (.const (.bool true))), (16, 1, (i 5)), (18, 1, (i 2)), (28, 1, (.const (.bool true)))]) <| o 6 (.build V29 [(0, 1, (.const (.string ⟨#[99, 104, 105, 112]⟩))), (1, 1, (i 4)), (2, 1, (i 32)), (4, 1, (i 13)), (5, 1, (i 108)), (6, 1, (.const (.bool true))), (9, 1, (i 1)), (10, 1, (i 16)), (11, 1, (i 65535)), (14, 1, (.const (.bool true))), (16, 1, (i 5)), (17, 1, (.const (.bool true))), (18, 1, (i 2)), (23, 1, (.const (.bool true))), (27, 1, (.const (.bool true)))]) <| o 7 (.build V203 [(29, 29, (t 1)), (58, 29, (t 2)), (87, 29, (t 3)), (116, 29, (t 4)), (145, 29, (t 5)), (174, 29, (t 6))]) <| n (.store 203 (t 0) (t 7)) <| z) <|
  .ret)), [.cell 0 true 203], [.keep]⟩
theorem ok102 : ∃ fn c, FunOk Tryz.prog 102 fn c A102.erase := ⟨Tryz.f102, _, ⟨Tryz.func102, rfl, by kernel_rfl, by kernel_rfl, by kernel_rfl, of_decide_eq_true (by kernel_rfl), by kernel_rfl⟩⟩
noncomputable def s102 (Γ : PCallee) (n : Nat) (h : PHeap) : Pt := forkP (.ptr h.length 0) (h ++ [.box Z203 131 .rw]) fun v0 h1 => (fillP Z29 [(0, 1, (.str ⟨#[102, 111, 117, 114]⟩ : PV)), (1, 1, (.int .i64 4 : PV)), (2, 1, (.int .i64 32 : PV)), (3, 1, (.int .i64 64 : PV)), (4, 1, (.int .i64 49 : PV)), (5, 1, (.int .i64 84 : PV)), (9, 1, (.int .i64 1 : PV)), (10, 1, (.int .i64 453 : PV)), (11, 1, (.int .i64 3424 : PV)), (16, 1, (.int .i64 5 : PV)), (17, 1, (.bool true : PV)), (18, 1, (.int .i64 1 : PV)), (19, 1, (.bool true : PV)), (21, 1, (.int .i64 1 : PV)), (22, 1, (.bool true : PV)), (25, 1, (.bool true : PV))]).bind fun l2 => (fillP Z29 [(0, 1, (.str ⟨#[115, 99, 114, 101, 97, 109]⟩ : PV)), (1, 1, (.int .i64 16 : PV)), (2, 1, (.int .i64 32 : PV)), (3, 1, (.int .i64 64 : PV)), (4, 1, (.int .i64 13 : PV)), (5, 1, (.int .i64 108 : PV)), (7, 1, (.bool true : PV)), (9, 1, (.int .i64 1 : PV)), (10, 1, (.int .i64 64 : PV)), (11, 1, (.int .i64 32767 : PV)), (16, 1, (.int .i64 5 : PV))]).bind fun l3 => (fillP Z29 [(0, 1, (.str ⟨#[102, 97, 115, 116]⟩ : PV)), (1, 1, (.int .i64 16 : PV)), (2, 1, (.int .i64 32 : PV)), (4, 1, (.int .i64 1 : PV)), (5, 1, (.int .i64 96 : PV)), (6, 1, (.bool true : PV)), (7, 1, (.bool true : PV)), (8, 1, (.bool true : PV)), (10, 1, (.int .i64 32 : PV)), (11, 1, (.int .i64 65535 : PV)), (12, 1, (.bool true : PV)), (16, 1, (.int .i64 6 : PV)), (17, 1, (.bool true : PV)), (19, 1, (.bool true : PV)), (20, 1, (.bool true : PV)), (21, 1, (.int .i64 1 : PV)), (23, 1, (.bool true : PV)), (24, 1, (.bool true : PV)), (25, 1, (.bool true : PV)), (26, 1, (.bool true : PV)), (27, 1, (.bool true : PV))]).bind fun l4 => (fillP Z29 [(0, 1, (.str ⟨#[105, 109, 112, 117, 108, 115, 101]⟩ : PV)), (1, 1, (.int .i64 16 : PV)), (2, 1, (.int .i64 32 : PV)), (4, 1, (.int .i64 1 : PV)), (5, 1, (.int .i64 120 : PV)), (6, 1, (.bool true : PV)), (7, 1, (.bool true : PV)), (8, 1, (.bool true : PV)), (10, 1, (.int .i64 16 : PV)), (11, 1, (.int .i64 65535 : PV)), (15, 1, (.bool true : PV)), (16, 1, (.int .i64 6 : PV)), (19, 1, (.bool true : PV)), (21, 1, (.int .i64 2 : PV)), (23, 1, (.bool true : PV)), (27, 1, (.bool true : PV))]).bind fun l5 => (fillP Z29 [(0, 1, (.str ⟨#[99, 111, 109, 112, 111, 115, 101]⟩ : PV)), (1, 1, (.int .i64 8 : PV)), (2, 1, (.int .i64 32 : PV)), (3, 1, (.int .i64 64 : PV)), (4, 1, (.int .i64 13 : PV)), (5, 1, (.int .i64 72 : PV)), (9, 1, (.int .i64 2 : PV)), (13, 1, (.bool true : PV)), (16, 1, (.int .i64 5 : PV)), (18, 1, (.int .i64 2 : PV)), (28, 1, (.bool true : PV))]).bind fun l6 => (fillP Z29 [(0, 1, (.str ⟨#[99, 104, 105, 112]⟩ : PV)), (1, 1, (.int .i64 4 : PV)), (2, 1, (.int .i64 32 : PV)), (4, 1, (.int .i64 13 : PV)), (5, 1, (.int .i64 108 : PV)), (6, 1, (.bool true : PV)), (9, 1, (.int .i64 1 : PV)), (10, 1, (.int .i64 16 : PV)), (11, 1, (.int .i64 65535 : PV)), (14, 1, (.bool true : PV)), (16, 1, (.int .i64 5 : PV)), (17, 1, (.bool true : PV)), (18, 1, (.int .i64 2 : PV)), (23, 1, (.bool true : PV)), (27, 1, (.bool true : PV))]).bind fun l7 => (fillP Z203 [(29, 29, (PV.agg l2)), (58, 29, (PV.agg l3)), (87, 29, (PV.agg l4)), (116, 29, (PV.agg l5)), (145, 29, (PV.agg l6)), (174, 29, (PV.agg l7))]).bind fun l8 => (storeP 203 v0 (PV.agg l8) h1).bind fun h9 => (loadP true 203 v0 h9).bind fun v10 => finP [.keep] h h9 [v10]
theorem s102_eq (Γ : PCallee) (n : Nat) (h : PHeap) : pfunK Γ n A102 [] h = s102 Γ n h := by kernel_rfl
open Go.Vm.G in
def A103 : PFun := ⟨1, 5, (S (R <| o 2 (.move (.const (.bool false))) <| z) <|
  (S (R <| m 3 0 <| o 4 (.call 104 [(t 3), (i 1), (i 16)]) <| m 2 4 <| z) <|
  .ret)), [.tmp 2], [.keep]⟩
theorem ok103 : ∃ fn c, FunOk Tryz.prog 103 fn c A103.erase := ⟨Tryz.f103, _, ⟨Tryz.func103, rfl, by kernel_rfl, by kernel_rfl, by kernel_rfl, of_decide_eq_true (by kernel_rfl), by kernel_rfl⟩⟩
noncomputable def s103 (Γ : PCallee) (n : Nat) (x0 : PV) (h : PHeap) : Pt := (Γ 104 [x0, (.int .i64 1 : PV), (.int .i64 16 : PV)] h).bind fun p0 => finP [.keep] h p0.2 [p0.1]
theorem s103_eq (Γ : PCallee) (n : Nat) (x0 : PV) (h : PHeap) : pfunK Γ n A103 [x0] h = s103 Γ n x0 h := by kernel_rfl
open Go.Vm.G in
def A104 : PFun := ⟨3, 15, (S (R <| o 6 (.move (.const (.bool false))) <| z) <|
  (S (R <| m 7 0 <| m 8 1 <| b 9 .geq (t 7) (t 8) <| m 10 9 <| q 14 10 true [11, 12, 13] (m 11 0 <| m 12 2 <| b 13 .leq (t 11) (t 12) <| z) (t 13) <|
  m 6 14 <| z) <|
  .ret)), [.tmp 6], [.keep]⟩
theorem ok104 : ∃ fn c, FunOk Tryz.prog 104 fn c A104.erase := ⟨Tryz.f104, _, ⟨Tryz.func104, rfl, by kernel_rfl, by kernel_rfl, by kernel_rfl, of_decide_eq_true (by kernel_rfl), by kernel_rfl⟩⟩
noncomputable def s104 (Γ : PCallee) (n : Nat) (x0 : PV) (x1 : PV) (x2 : PV) (h : PHeap) : Pt := (binP .geq x0 x1).bind fun v0 => K1 (fun v2 h3 => finP [.keep] h h3 [v2]) fun j1 => scP v0 true ( (binP .leq x0 x2).bind fun v4 => j1 v4 h) (j1 (.bool false) h)
theorem s104_eq (Γ : PCallee) (n : Nat) (x0 : PV) (x1 : PV) (x2 : PV) (h : PHeap) : pfunK Γ n A104 [x0, x1, x2] h = s104 Γ n x0 x1 x2 h := by kernel_rfl
open Go.Vm.G in
def A105 : PFun := ⟨1, 9, (S (R <| o 2 (.move (.const (.slice none 0 0))) <| z) <|
  (S (R <| m 4 0 <| o 5 (.call 143 [(t 4)]) <| m 3 5 <| z) <|
  (S (R <| m 6 3 <| o 7 (.call 144 [(t 6)]) <| z) <|
  (S (R <| m 8 3 <| m 2 8 <| z) <|
  .ret)))), [.tmp 2], [.raw]⟩
theorem ok105 : ∃ fn c, FunOk Tryz.prog 105 fn c A105.erase := ⟨Tryz.f105, _, ⟨Tryz.func105, rfl, by kernel_rfl, by kernel_rfl, by kernel_rfl, of_decide_eq_true (by kernel_rfl), by kernel_rfl⟩⟩
noncomputable def s105 (Γ : PCallee) (n : Nat) (x0 : PV) (h : PHeap) : Pt := (Γ 143 [x0] h).bind fun p0 => (Γ 144 [p0.1] p0.2).bind fun p1 => finP [.raw] h p1.2 [p0.1]
theorem s105_eq (Γ : PCallee) (n : Nat) (x0 : PV) (h : PHeap) : pfunK Γ n A105 [x0] h = s105 Γ n x0 h := by kernel_rfl
open Go.Vm.G in
def A106 : PFun := ⟨1, 61, (S (R <| o 2 (.move (.const (.slice none 0 0))) <| z) <|
  (S (S (R <| m 6 0 <| o 7 (.len false (t 6)) <| b 8 .lss (t 7) (i 2) <| z) <|
  (.cond (t 8) [] [2, 9]
  (S (R <| m 9 0 <| m 2 9 <| z) <|
  .ret)
  .skip)) <|
  (S (S (R <| o 3 (.move (i 1)) <| z) <|
  (.block 0 [] (g 2 4 ++ g 10 50)
  (.loop [3] ([2, 4, 5] ++ g 10 50)
  (S (S (R <| m 10 3 <| m 11 0 <| o 12 (.len false (t 11)) <| b 13 .lss (t 10) (t 12) <| z) <|
  (.cond (t 13) [] []
  .skip
  (.exit 0))) <|
  (S (.block 1 [3] ([2, 4, 5] ++ g 16 44)
  (S (D <| m 16 0 <| m 17 3 <| o 18 (.indexAddr 1 (t 16) (t 17)) <| l 19 18 <| m 20 0 <| m 21 3 <| b 22 .sub (t 21) (i 1) <| o 23 (.indexAddr 1 (t 20) (t 22)) <| l 24 23 <| b 25 .eql (t 19) (t 24) <| z) <|
  (.cond (t 25) [3] ([2, 4, 5] ++ g 26 34)
  (S (R <| m 26 0 <| m 27 3 <| o 28 (.slice 1 (t 26) (some (t 27)) none none) <| m 4 28 <| z) <|
  (S (S (R <| o 5 (.move (i 1)) <| z) <|
  (.block 2 [3] ([5] ++ g 29 25)
  (.loop [3, 5] (g 29 25)
  (S (S (R <| m 29 5 <| m 30 4 <| o 31 (.len false (t 30)) <| b 32 .lss (t 29) (t 31) <| z) <|
  (.cond (t 32) [] []
  .skip
  (.exit 2))) <|
  (S (.block 3 [3] (g 35 19)
  (S (D <| m 35 4 <| m 36 5 <| o 37 (.indexAddr 1 (t 35) (t 36)) <| l 38 37 <| m 39 4 <| m 40 5 <| b 41 .sub (t 40) (i 1) <| o 42 (.indexAddr 1 (t 39) (t 41)) <| l 43 42 <| b 44 .neq (t 38) (t 43) <| z) <|
  (.cond (t 44) [3] (g 45 9)
  (S (R <| m 45 0 <| m 46 3 <| m 47 4 <| m 48 5 <| o 49 (.indexAddr 1 (t 47) (t 48)) <| l 50 49 <| o 51 (.indexAddr 1 (t 45) (t 46)) <| n (.store 1 (t 51) (t 50)) <| z) <|
  (R <| m 52 3 <| b 53 .add (t 52) (i 1) <| m 3 53 <| z))
  .skip))) <|
  (R <| m 33 5 <| b 34 .add (t 33) (i 1) <| m 5 34 <| z)))))) <|
  (S (R <| m 54 0 <| m 55 3 <| o 56 (.slice 1 (t 54) (some (t 55)) none none) <| n (.clear [(.int .i64 0)] (t 56)) <| z) <|
  (S (R <| m 57 0 <| m 58 3 <| o 59 (.slice 1 (t 57) none (some (t 58)) none) <| m 2 59 <| z) <|
  .ret))))
  .skip))) <|
  (R <| m 14 3 <| b 15 .add (t 14) (i 1) <| m 3 15 <| z)))))) <|
  (S (R <| m 60 0 <| m 2 60 <| z) <|
  .ret)))), [.tmp 2], [.raw]⟩
theorem ok106 : ∃ fn c, FunOk Tryz.prog 106 fn c A106.erase := ⟨Tryz.f106, _, ⟨Tryz.func106, rfl, by kernel_rfl, by kernel_rfl, by kernel_rfl, of_decide_eq_true (by kernel_rfl), by kernel_rfl⟩⟩
noncomputable def s106_L0 (Γ : PCallee) (n : Nat) (x0 : PV) (h15 : PHeap) (v29 : PV) (j30 : Kt) : (Kt) → Kt := fun c36 w37 h38 => (lenP false v29).bind fun v39 => (binP .lss (nthP w37 1) v39).bind fun v40 => KL (fun w42 h43 => KL (fun w45 h46 => (binP .add (nthP w37 1) (.int .i64 1 : PV)).bind fun v47 => c36 [(nthP w45 0), v47] (trim h15 [(nthP w45 0), v47] h46)) fun j44 => (indexAddrP 1 v29 (nthP w37 1)).bind fun v48 => (loadP false 1 v48 h43).bind fun v49 => (binP .sub (nthP w37 1) (.int .i64 1 : PV)).bind fun v50 => (indexAddrP 1 v29 v50).bind fun v51 => (loadP false 1 v51 h43).bind fun v52 => (binP .neq v49 v52).bind fun v53 => KL (fun w55 h56 => j44 [(nthP w55 0)] h56) fun j54 => ifP v53 ( (indexAddrP 1 v29 (nthP w37 1)).bind fun v57 => (loadP false 1 v57 h43).bind fun v58 => (indexAddrP 1 x0 (nthP w37 0)).bind fun v59 => (storeP 1 v59 v58 h43).bind fun h60 => (binP .add (nthP w37 0) (.int .i64 1 : PV)).bind fun v61 => j54 [v61] h60) ( j54 [(nthP w37 0)] h43)) fun j41 => ifP v40 ( j41 [] h38) ( j30 [(nthP w37 0)] h38)
noncomputable def s106_L1 (Γ : PCallee) (n : Nat) (x0 : PV) (h : PHeap) (h4 : PHeap) (j5 : Kt) : (Kt) → Kt := fun c8 w9 h10 => (lenP false x0).bind fun v11 => (binP .lss (nthP w9 0) v11).bind fun v12 => KL (fun w14 h15 => KL (fun w17 h18 => (binP .add (nthP w17 0) (.int .i64 1 : PV)).bind fun v19 => c8 [v19] (trim h4 [v19] h18)) fun j16 => (indexAddrP 1 x0 (nthP w9 0)).bind fun v20 => (loadP false 1 v20 h15).bind fun v21 => (binP .sub (nthP w9 0) (.int .i64 1 : PV)).bind fun v22 => (indexAddrP 1 x0 v22).bind fun v23 => (loadP false 1 v23 h15).bind fun v24 => (binP .eql v21 v24).bind fun v25 => KL (fun w27 h28 => j16 [(nthP w27 0)] h28) fun j26 => ifP v25 ( (sliceP 1 x0 (some (nthP w9 0)) none none).bind fun v29 => KL (fun w31 h32 => (sliceP 1 x0 (some (nthP w31 0)) none none).bind fun v33 => (clearP [.int .i64 0] v33 h32).bind fun p34 => (sliceP 1 x0 none (some (nthP w31 0)) none).bind fun v35 => finP [.raw] h p34.2 [v35]) fun j30 => loopP (s106_L0 Γ n x0 h15 v29 j30) n [(nthP w9 0), (.int .i64 1 : PV)] h15) ( j26 [(nthP w9 0)] h15)) fun j13 => ifP v12 ( j13 [] h10) ( j5 [] h10)
noncomputable def s106 (Γ : PCallee) (n : Nat) (x0 : PV) (h : PHeap) : Pt := (lenP false x0).bind fun v0 => (binP .lss v0 (.int .i64 2 : PV)).bind fun v1 => KL (fun w3 h4 => KL (fun w6 h7 => finP [.raw] h h7 [x0]) fun j5 => loopP (s106_L1 Γ n x0 h h4 j5) n [(.int .i64 1 : PV)] h4) fun j2 => ifP v1 ( finP [.raw] h h [x0]) ( j2 [] h)
theorem s106_eq (Γ : PCallee) (n : Nat) (x0 : PV) (h : PHeap) : pfunK Γ n A106 [x0] h = s106 Γ n x0 h := by kernel_rfl
open Go.Vm.G in
def A107 : PFun := ⟨2, 42, (S (R <| o 4 (.move (.const (.slice none 0 0))) <| z) <|
  (S (R <| m 8 0 <| m 9 1 <| (.bor [(8, (.flat 1))] (some 10) (.a (.call 121 [(t 8), (t 9)])) .no <| m 5 10 <| z)) <|
  (S (S (R <| m 11 5 <| b 12 .eql (t 11) (i (-1)) <| z) <|
  (.cond (t 12) [] [4, 13]
  (S (R <| m 13 0 <| m 4 13 <| z) <|
  .ret)
  .skip)) <|
  (S (S (R <| m 14 5 <| b 15 .add (t 14) (i 1) <| m 6 15 <| z) <|
  (.block 0 [5] ([6, 7] ++ g 16 20)
  (.loop [5, 6] ([7] ++ g 16 20)
  (S (S (R <| m 16 6 <| m 17 0 <| o 18 (.len false (t 17)) <| b 19 .lss (t 16) (t 18) <| z) <|
  (.cond (t 19) [] []
  .skip
  (.exit 0))) <|
  (S (.block 1 [5] ([7] ++ g 22 14)
  (S (R <| m 22 0 <| m 23 6 <| o 24 (.indexAddr 1 (t 22) (t 23)) <| l 25 24 <| m 7 25 <| z) <|
  (S (R <| m 26 1 <| m 27 7 <| o 28 (.callV (t 26) [(t 27)]) <| o 29 (.un .not (t 28)) <| z) <|
  (.cond (t 29) [5] (g 30 6)
  (S (R <| m 30 0 <| m 31 5 <| m 32 7 <| o 33 (.indexAddr 1 (t 30) (t 31)) <| n (.store 1 (t 33) (t 32)) <| z) <|
  (R <| m 34 5 <| b 35 .add (t 34) (i 1) <| m 5 35 <| z))
  .skip)))) <|
  (R <| m 20 6 <| b 21 .add (t 20) (i 1) <| m 6 21 <| z)))))) <|
  (S (R <| m 36 0 <| m 37 5 <| o 38 (.slice 1 (t 36) (some (t 37)) none none) <| n (.clear [(.int .i64 0)] (t 38)) <| z) <|
  (S (R <| m 39 0 <| m 40 5 <| o 41 (.slice 1 (t 39) none (some (t 40)) none) <| m 4 41 <| z) <|
  .ret)))))), [.tmp 4], [(.flat 1)]⟩
theorem ok107 : ∃ fn c, FunOk Tryz.prog 107 fn c A107.erase := ⟨Tryz.f107, _, ⟨Tryz.func107, rfl, by kernel_rfl, by kernel_rfl, by kernel_rfl, of_decide_eq_true (by kernel_rfl), by kernel_rfl⟩⟩
noncomputable def s107_L0 (Γ : PCallee) (n : Nat) (x0 : PV) (x1 : PV) (h5 : PHeap) (j7 : Kt) : (Kt) → Kt := fun c13 w14 h15 => (lenP false x0).bind fun v16 => (binP .lss (nthP w14 1) v16).bind fun v17 => KL (fun w19 h20 => KL (fun w22 h23 => (binP .add (nthP w14 1) (.int .i64 1 : PV)).bind fun v24 => c13 [(nthP w22 0), v24] (trim h5 [(nthP w22 0), v24] h23)) fun j21 => (indexAddrP 1 x0 (nthP w14 1)).bind fun v25 => (loadP false 1 v25 h20).bind fun v26 => (callVP Γ x1 [v26] h20).bind fun p27 => (unP .not p27.1).bind fun v28 => KL (fun w30 h31 => j21 [(nthP w30 0)] h31) fun j29 => ifP v28 ( (indexAddrP 1 x0 (nthP w14 0)).bind fun v32 => (storeP 1 v32 v26 p27.2).bind fun h33 => (binP .add (nthP w14 0) (.int .i64 1 : PV)).bind fun v34 => j29 [v34] h33) ( j29 [(nthP w14 0)] p27.2)) fun j18 => ifP v17 ( j18 [] h15) ( j7 [(nthP w14 0)] h15)
noncomputable def s107 (Γ : PCallee) (n : Nat) (x0 : PV) (x1 : PV) (h : PHeap) : Pt := (fz (.flat 1) x0 h).bind fun q0 => (Γ 121 [q0.1, x1] (lock q0.2)).bind fun p1 => guardP (scal p1.1) ( (binP .eql p1.1 (.int .i64 (-1) : PV)).bind fun v2 => KL (fun w4 h5 => (binP .add p1.1 (.int .i64 1 : PV)).bind fun v6 => KL (fun w8 h9 => (sliceP 1 x0 (some (nthP w8 0)) none none).bind fun v10 => (clearP [.int .i64 0] v10 h9).bind fun p11 => (sliceP 1 x0 none (some (nthP w8 0)) none).bind fun v12 => finP [(.flat 1)] h p11.2 [v12]) fun j7 => loopP (s107_L0 Γ n x0 x1 h5 j7) n [p1.1, v6] h5) fun j3 => ifP v2 ( finP [(.flat 1)] h h [x0]) ( j3 [] h))
theorem s107_eq (Γ : PCallee) (n : Nat) (x0 : PV) (x1 : PV) (h : PHeap) : pfunK Γ n A107 [x0, x1] h = s107 Γ n x0 x1 h := by kernel_rfl
open Go.Vm.G in
def A108 : PFun := ⟨2, 33, (S (R <| o 2 (.box 57 (t 0)) <| o 4 (.move (.const (.slice none 0 0))) <| z) <|
  (S (S (R <| o 9 (.load true 33 (t 2)) <| o 10 (.call 127 [(t 9)]) <| o 11 (.un .not (t 10)) <| z) <|
  (.cond (t 11) [] [4]
  (S (R <| o 4 (.move (.const (.slice none 0 0))) <| z) <|
  .ret)
  .skip)) <|
  (S (R <| (.op (some 5) (.growNil 3 1) .no <| z)) <|
  (S (S (R <| o 12 (.move (i 0)) <| z) <|
  (.block 0 [5] ([6, 7, 8] ++ g 12 17)
  (.loop [5, 12] ([6, 7, 8] ++ g 13 16)
  (S (R <| b 13 .lss (t 12) (i 120) <| z) <|
  (S (.cond (t 13) [] []
  .skip
  (.exit 0)) <|
  (S (.block 1 [5] ([6, 7, 8] ++ g 14 14)
  (S (R <| m 14 12 <| m 6 14 <| z) <|
  (S (R <| o 16 (.load true 33 (t 2)) <| m 17 6 <| m 18 1 <| o 19 (.call 111 [(t 16), (t 17), (t 18)]) <| m 15 19 <| o 20 (.extract (t 15) 0) <| o 21 (.extract (t 15) 1) <| m 7 20 <| m 8 21 <| z) <|
  (S (R <| m 22 8 <| b 23 .gtr (t 22) (i 0) <| z) <|
  (.cond (t 23) [5] (g 24 4)
  (R <| m 24 5 <| m 25 8 <| (.op (some 26) (.buildF 3 [(.int .i64 0)] 1 [(0, 1, (t 25))]) .no <| o 27 (.append 3 1 (t 24) (t 26)) <| m 5 27 <| z))
  .skip))))) <|
  (R <| b 28 .add (t 12) (i 1) <| m 12 28 <| z))))))) <|
  (S (R <| m 29 5 <| o 30 (.call 144 [(t 29)]) <| z) <|
  (S (R <| m 31 5 <| o 32 (.call 106 [(t 31)]) <| m 4 32 <| z) <|
  .ret)))))), [.tmp 4], [.raw]⟩
theorem ok108 : ∃ fn c, FunOk Tryz.prog 108 fn c A108.erase := ⟨Tryz.f108, _, ⟨Tryz.func108, rfl, by kernel_rfl, by kernel_rfl, by kernel_rfl, of_decide_eq_true (by kernel_rfl), by kernel_rfl⟩⟩
noncomputable def s108_L0 (Γ : PCallee) (n : Nat) (x1 : PV) (v0 : PV) (h9 : PHeap) (j10 : Kt) : (Kt) → Kt := fun c15 w16 h17 => (binP .lss (nthP w16 1) (.int .i64 120 : PV)).bind fun v18 => KL (fun w20 h21 => KL (fun w23 h24 => (binP .add (nthP w16 1) (.int .i64 1 : PV)).bind fun v25 => c15 [(nthP w23 0), v25] (trim h9 [(nthP w23 0), v25] h24)) fun j22 => (loadP true 33 v0 h21).bind fun v26 => (Γ 111 [v26, (nthP w16 1), x1] h21).bind fun p27 => (extractP p27.1 0).bind fun v28 => (extractP p27.1 1).bind fun v29 => (binP .gtr v29 (.int .i64 0 : PV)).bind fun v30 => KL (fun w32 h33 => j22 [(nthP w32 0)] h33) fun j31 => ifP v30 ( (fillP (repP [.int .i64 0] 1) [(0, 1, v29)]).bind fun l34 => guardP (l34.all pure1) ( forkP (.frz 1 (chunk 1 1 l34)) (p27.2) fun v35 h36 => (appendP 3 1 (nthP w16 0) v35 h36).bind fun p37 => j31 [p37.1] p37.2)) ( j31 [(nthP w16 0)] p27.2)) fun j19 => ifP v18 ( j19 [] h17) ( j10 [(nthP w16 0)] h17)
noncomputable def s108 (Γ : PCallee) (n : Nat) (x0 : PV) (x1 : PV) (h : PHeap) : Pt := forkP (.ptr h.length 0) (h ++ [.box (cellsP x0) 57 .rw]) fun v0 h1 => (loadP true 33 v0 h1).bind fun v2 => (Γ 127 [v2] h1).bind fun p3 => (unP .not p3.1).bind fun v4 => KL (fun w6 h7 => forkP (.ref h7.length 0 0 0 1) (h7 ++ [.log [] 1 3 .rw]) fun v8 h9 => KL (fun w11 h12 => (Γ 144 [(nthP w11 0)] h12).bind fun p13 => (Γ 106 [(nthP w11 0)] p13.2).bind fun p14 => finP [.raw] h p14.2 [p14.1]) fun j10 => loopP (s108_L0 Γ n x1 v0 h9 j10) n [v8, (.int .i64 0 : PV)] h9) fun j5 => ifP v4 ( finP [.raw] h p3.2 [(.nilS : PV)]) ( j5 [] p3.2)
theorem s108_eq (Γ : PCallee) (n : Nat) (x0 : PV) (x1 : PV) (h : PHeap) : pfunK Γ n A108 [x0, x1] h = s108 Γ n x0 x1 h := by kernel_rfl
open Go.Vm.G in
def A109 : PFun := ⟨2, 9, (S (R <| o 3 (.move (.const (.bool false))) <| z) <|
  (S (R <| m 4 0 <| f 5 11 1 <| l 6 5 <| o 7 (.len false (t 6)) <| b 8 .gtr (t 4) (t 7) <| m 3 8 <| z) <|
  .ret)), [.tmp 3], [.keep]⟩
theorem ok109 : ∃ fn c, FunOk Tryz.prog 109 fn c A109.erase := ⟨Tryz.f109, _, ⟨Tryz.func109, rfl, by kernel_rfl, by kernel_rfl, by kernel_rfl, of_decide_eq_true (by kernel_rfl), by kernel_rfl⟩⟩
noncomputable def s109 (Γ : PCallee) (n : Nat) (x0 : PV) (x1 : PV) (h : PHeap) : Pt := (fieldAddrP 11 x1).bind fun v0 => (loadP false 1 v0 h).bind fun v1 => (lenP false v1).bind fun v2 => (binP .gtr x0 v2).bind fun v3 => finP [.keep] h h [v3]
theorem s109_eq (Γ : PCallee) (n : Nat) (x0 : PV) (x1 : PV) (h : PHeap) : pfunK Γ n A109 [x0, x1] h = s109 Γ n x0 x1 h := by kernel_rfl
open Go.Vm.G in
def A111 : PFun := ⟨3, 36, (S (R <| o 3 (.box 57 (t 0)) <| o 6 (.move (i 0)) <| o 7 (.move (i 0)) <| z) <|
  (S (.block 0 [] (g 6 18)
  (S (R <| o 9 (.load true 33 (t 3)) <| o 10 (.call 127 [(t 9)]) <| o 11 (.un .not (t 10)) <| m 12 11 <| q 16 12 false [13, 14, 15] (m 13 1 <| o 14 (.call 146 [(t 13), (i 0), (i 119)]) <| o 15 (.un .not (t 14)) <| z) (t 15) <|
  m 8 16 <| z) <|
  (.cond (t 8) [] ([6, 7] ++ g 17 7)
  (S (R <| o 6 (.move (i 0)) <| o 7 (.move (i 0)) <| z) <|
  .ret)
  (S (R <| f 18 1 3 <| l 19 18 <| o 20 (.len false (t 19)) <| b 21 .eql (t 20) (i 0) <| m 17 21 <| z) <|
  (.cond (t 17) [] [6, 7, 22, 23]
  (S (R <| m 22 1 <| m 23 2 <| m 6 22 <| m 7 23 <| z) <|
  .ret)
  .skip))))) <|
  (S (D <| f 24 1 3 <| l 25 24 <| m 26 1 <| o 27 (.indexAddr 2 (t 25) (t 26)) <| f 28 0 27 <| l 29 28 <| f 30 1 3 <| l 31 30 <| m 32 1 <| o 33 (.indexAddr 2 (t 31) (t 32)) <| f 34 1 33 <| l 35 34 <| m 6 29 <| m 7 35 <| z) <|
  .ret))), [.tmp 6, .tmp 7], [.keep, .keep]⟩
theorem ok111 : ∃ fn c, FunOk Tryz.prog 111 fn c A111.erase := ⟨Tryz.f111, _, ⟨Tryz.func111, rfl, by kernel_rfl, by kernel_rfl, by kernel_rfl, of_decide_eq_true (by kernel_rfl), by kernel_rfl⟩⟩
noncomputable def s111 (Γ : PCallee) (n : Nat) (x0 : PV) (x1 : PV) (x2 : PV) (h : PHeap) : Pt := forkP (.ptr h.length 0) (h ++ [.box (cellsP x0) 57 .rw]) fun v0 h1 => KL (fun w3 h4 => (fieldAddrP 1 v0).bind fun v5 => (loadP false 1 v5 h4).bind fun v6 => (indexAddrP 2 v6 x1).bind fun v7 => (fieldAddrP 0 v7).bind fun v8 => (loadP false 1 v8 h4).bind fun v9 => (fieldAddrP 1 v0).bind fun v10 => (loadP false 1 v10 h4).bind fun v11 => (indexAddrP 2 v11 x1).bind fun v12 => (fieldAddrP 1 v12).bind fun v13 => (loadP false 1 v13 h4).bind fun v14 => finP [.keep, .keep] h h4 [v9, v14]) fun j2 => (loadP true 33 v0 h1).bind fun v15 => (Γ 127 [v15] h1).bind fun p16 => (unP .not p16.1).bind fun v17 => K1 (fun v19 h20 => KL (fun w22 h23 => j2 [] h23) fun j21 => ifP v19 ( finP [.keep, .keep] h h20 [(.int .i64 0 : PV), (.int .i64 0 : PV)]) ( (fieldAddrP 1 v0).bind fun v24 => (loadP false 1 v24 h20).bind fun v25 => (lenP false v25).bind fun v26 => (binP .eql v26 (.int .i64 0 : PV)).bind fun v27 => KL (fun w29 h30 => j21 [] h30) fun j28 => ifP v27 ( finP [.keep, .keep] h h20 [x1, x2]) ( j28 [] h20))) fun j18 => scP v17 false ( (Γ 146 [x1, (.int .i64 0 : PV), (.int .i64 119 : PV)] p16.2).bind fun p31 => (unP .not p31.1).bind fun v32 => j18 v32 p31.2) (j18 (.bool true) p16.2)
theorem s111_eq (Γ : PCallee) (n : Nat) (x0 : PV) (x1 : PV) (x2 : PV) (h : PHeap) : pfunK Γ n A111 [x0, x1, x2] h = s111 Γ n x0 x1 x2 h := by kernel_rfl
open Go.Vm.G in
def A114 : PFun := ⟨1, 19, (S (R <| o 2 (.move (.const (.bool false))) <| z) <|
  (S (S (R <| m 4 0 <| o 5 (.len true (t 4)) <| o 6 (.move (i 0)) <| z) <|
  (.block 0 [] ([2, 3] ++ g 6 10)
  (.loop [6] ([2, 3] ++ g 7 9)
  (S (R <| b 7 .lss (t 6) (t 5) <| z) <|
  (S (.cond (t 7) [] []
  .skip
  (.exit 0)) <|
  (S (.block 1 [] ([2, 3] ++ g 8 7)
  (S (R <| m 8 6 <| m 3 8 <| z) <|
  (S (R <| m 9 0 <| m 10 3 <| o 11 (.indexStr (t 9) (t 10)) <| o 12 (.conv .i64 (t 11)) <| o 13 (.call 54 [(t 12), (i 32), (i 126)]) <| o 14 (.un .not (t 13)) <| z) <|
  (.cond (t 14) [] [2]
  (S (R <| o 2 (.move (.const (.bool false))) <| z) <|
  .ret)
  .skip)))) <|
  (R <| b 15 .add (t 6) (i 1) <| m 6 15 <| z))))))) <|
  (S (R <| m 16 0 <| o 17 (.len true (t 16)) <| b 18 .leq (t 17) (i 22) <| m 2 18 <| z) <|
  .ret))), [.tmp 2], [.keep]⟩
theorem ok114 : ∃ fn c, FunOk Tryz.prog 114 fn c A114.erase := ⟨Tryz.f114, _, ⟨Tryz.func114, rfl, by kernel_rfl, by kernel_rfl, by kernel_rfl, of_decide_eq_true (by kernel_rfl), by kernel_rfl⟩⟩
noncomputable def s114_L0 (Γ : PCallee) (n : Nat) (x0 : PV) (h : PHeap) (v0 : PV) (j1 : Kt) : (Kt) → Kt := fun c6 w7 h8 => (binP .lss (nthP w7 0) v0).bind fun v9 => KL (fun w11 h12 => KL (fun w14 h15 => (binP .add (nthP w7 0) (.int .i64 1 : PV)).bind fun v16 => c6 [v16] (trim h [v16] h15)) fun j13 => (indexStrP x0 (nthP w7 0)).bind fun v17 => (convP .i64 v17).bind fun v18 => (Γ 54 [v18, (.int .i64 32 : PV), (.int .i64 126 : PV)] h12).bind fun p19 => (unP .not p19.1).bind fun v20 => KL (fun w22 h23 => j13 [] h23) fun j21 => ifP v20 ( finP [.keep] h p19.2 [(.bool false : PV)]) ( j21 [] p19.2)) fun j10 => ifP v9 ( j10 [] h8) ( j1 [] h8)
noncomputable def s114 (Γ : PCallee) (n : Nat) (x0 : PV) (h : PHeap) : Pt := (lenP true x0).bind fun v0 => KL (fun w2 h3 => (lenP true x0).bind fun v4 => (binP .leq v4 (.int .i64 22 : PV)).bind fun v5 => finP [.keep] h h3 [v5]) fun j1 => loopP (s114_L0 Γ n x0 h v0 j1) n [(.int .i64 0 : PV)] h
theorem s114_eq (Γ : PCallee) (n : Nat) (x0 : PV) (h : PHeap) : pfunK Γ n A114 [x0] h = s114 Γ n x0 h := by kernel_rfl
open Go.Vm.G in
def A115 : PFun := ⟨2, 28, (S (R <| o 2 (.box 39 (t 0)) <| o 4 (.move (.const (.bool false))) <| z) <|
  (S (R <| m 5 1 <| o 6 (.call 103 [(t 5)]) <| m 7 6 <| q 11 7 true [8, 9, 10] (f 8 0 2 <| l 9 8 <| o 10 (.call 104 [(t 9), (i 1), (i 64)]) <| z) (t 10) <|
  m 12 11 <| q 21 12 true (g 13 8) (f 13 1 2 <| l 14 13 <| o 15 (.len false (t 14)) <| f 16 0 2 <| l 17 16 <| m 18 1 <| b 19 .mul (t 17) (t 18) <| b 20 .eql (t 15) (t 19) <| z) (t 20) <|
  m 22 21 <| q 27 22 true (g 23 4) (f 23 1 2 <| l 24 23 <| o 25 (.call 116 [(t 24), (.func 147)]) <| o 26 (.un .not (t 25)) <| z) (t 26) <|
  m 4 27 <| z) <|
  .ret)), [.tmp 4], [.keep]⟩
theorem ok115 : ∃ fn c, FunOk Tryz.prog 115 fn c A115.erase := ⟨Tryz.f115, _, ⟨Tryz.func115, rfl, by kernel_rfl, by kernel_rfl, by kernel_rfl, of_decide_eq_true (by kernel_rfl), by kernel_rfl⟩⟩
noncomputable def s115 (Γ : PCallee) (n : Nat) (x0 : PV) (x1 : PV) (h : PHeap) : Pt := forkP (.ptr h.length 0) (h ++ [.box (cellsP x0) 39 .rw]) fun v0 h1 => (Γ 103 [x1] h1).bind fun p2 => K1 (fun v4 h5 => K1 (fun v7 h8 => K1 (fun v10 h11 => finP [.keep] h h11 [v10]) fun j9 => scP v7 true ( (fieldAddrP 1 v0).bind fun v12 => (loadP false 1 v12 h8).bind fun v13 => (Γ 116 [v13, (PV.func 147 [] [])] h8).bind fun p14 => (unP .not p14.1).bind fun v15 => j9 v15 p14.2) (j9 (.bool false) h8)) fun j6 => scP v4 true ( (fieldAddrP 1 v0).bind fun v16 => (loadP false 1 v16 h5).bind fun v17 => (lenP false v17).bind fun v18 => (fieldAddrP 0 v0).bind fun v19 => (loadP false 1 v19 h5).bind fun v20 => (binP .mul v20 x1).bind fun v21 => (binP .eql v18 v21).bind fun v22 => j6 v22 h5) (j6 (.bool false) h5)) fun j3 => scP p2.1 true ( (fieldAddrP 0 v0).bind fun v23 => (loadP false 1 v23 p2.2).bind fun v24 => (Γ 104 [v24, (.int .i64 1 : PV), (.int .i64 64 : PV)] p2.2).bind fun p25 => j3 p25.1 p25.2) (j3 (.bool false) p2.2)
theorem s115_eq (Γ : PCallee) (n : Nat) (x0 : PV) (x1 : PV) (h : PHeap) : pfunK Γ n A115 [x0, x1] h = s115 Γ n x0 x1 h := by kernel_rfl
open Go.Vm.G in
def A116 : PFun := ⟨2, 9, (S (R <| o 4 (.move (.const (.bool false))) <| z) <|
  (S (R <| m 5 0 <| m 6 1 <| o 7 (.call 149 [(t 5), (t 6)]) <| b 8 .geq (t 7) (i 0) <| m 4 8 <| z) <|
  .ret)), [.tmp 4], [.keep]⟩
theorem ok116 : ∃ fn c, FunOk Tryz.prog 116 fn c A116.erase := ⟨Tryz.f116, _, ⟨Tryz.func116, rfl, by kernel_rfl, by kernel_rfl, by kernel_rfl, of_decide_eq_true (by kernel_rfl), by kernel_rfl⟩⟩
noncomputable def s116 (Γ : PCallee) (n : Nat) (x0 : PV) (x1 : PV) (h : PHeap) : Pt := (Γ 149 [x0, x1] h).bind fun p0 => (binP .geq p0.1 (.int .i64 0 : PV)).bind fun v1 => finP [.keep] h p0.2 [v1]
theorem s116_eq (Γ : PCallee) (n : Nat) (x0 : PV) (x1 : PV) (h : PHeap) : pfunK Γ n A116 [x0, x1] h = s116 Γ n x0 x1 h := by kernel_rfl
open Go.Vm.G in
def A117 : PFun := ⟨2, 10, (S (R <| o 2 (.box 41 (t 0)) <| o 3 (.move (.const (.bool false))) <| z) <|
  (S (R <| f 4 0 1 <| f 5 1 4 <| l 6 5 <| o 7 (.load true 6 (t 2)) <| o 8 (.call 118 [(t 6), (t 7)]) <| o 9 (.un .not (t 8)) <| m 3 9 <| z) <|
  .ret)), [.tmp 3], [.keep]⟩
theorem ok117 : ∃ fn c, FunOk Tryz.prog 117 fn c A117.erase := ⟨Tryz.f117, _, ⟨Tryz.func117, rfl, by kernel_rfl, by kernel_rfl, by kernel_rfl, of_decide_eq_true (by kernel_rfl), by kernel_rfl⟩⟩
noncomputable def s117 (Γ : PCallee) (n : Nat) (x0 : PV) (x1 : PV) (h : PHeap) : Pt := forkP (.ptr h.length 0) (h ++ [.box (cellsP x0) 41 .rw]) fun v0 h1 => (fieldAddrP 0 x1).bind fun v2 => (fieldAddrP 1 v2).bind fun v3 => (loadP false 1 v3 h1).bind fun v4 => (loadP true 6 v0 h1).bind fun v5 => (Γ 118 [v4, v5] h1).bind fun p6 => (unP .not p6.1).bind fun v7 => finP [.keep] h p6.2 [v7]
theorem s117_eq (Γ : PCallee) (n : Nat) (x0 : PV) (x1 : PV) (h : PHeap) : pfunK Γ n A117 [x0, x1] h = s117 Γ n x0 x1 h := by kernel_rfl
open Go.Vm.G in
def A118 : PFun := ⟨2, 37, (S (R <| o 3 (.box 41 (t 1)) <| o 4 (.move (.const (.bool false))) <| z) <|
  (S (S (D <| m 5 0 <| o 6 (.call 101 [(t 5)]) <| o 7 (.un .not (t 6)) <| m 8 7 <| q 12 8 false [9, 10, 11] (o 9 (.load true 6 (t 3)) <| o 10 (.call 148 [(t 9)]) <| o 11 (.un .not (t 10)) <| z) (t 11) <|
  m 13 12 <| q 19 13 false (g 14 5) (m 14 0 <| f 15 0 3 <| l 16 15 <| o 17 (.call 150 [(t 14), (t 16)]) <| o 18 (.un .not (t 17)) <| z) (t 18) <|
  m 20 19 <| q 26 20 false (g 21 5) (f 21 2 3 <| l 22 21 <| m 23 0 <| O 24 (.call 151 [(t 23)]) <| b 25 .gtr (t 22) (t 24) <| z) (t 25) <|
  z) <|
  (.cond (t 26) [] [4]
  (S (R <| o 4 (.move (.const (.bool false))) <| z) <|
  .ret)
  .skip)) <|
  (S (S (R <| f 27 4 3 <| l 28 27 <| b 29 .eql (t 28) (i 0) <| z) <|
  (.cond (t 29) [] [4]
  (S (R <| o 4 (.move (.const (.bool true))) <| z) <|
  .ret)
  .skip)) <|
  (S (D <| m 30 0 <| O 31 (.call 153 [(t 30)]) <| f 32 4 3 <| l 33 32 <| o 34 (.call 154 [(t 33)]) <| o 35 (.call 152 [(t 31), (t 34)]) <| b 36 .geq (t 35) (i 0) <| m 4 36 <| z) <|
  .ret)))), [.tmp 4], [.keep]⟩
theorem ok118 : ∃ fn c, FunOk Tryz.prog 118 fn c A118.erase := ⟨Tryz.f118, _, ⟨Tryz.func118, rfl, by kernel_rfl, by kernel_rfl, by kernel_rfl, of_decide_eq_true (by kernel_rfl), by kernel_rfl⟩⟩
noncomputable def s118 (Γ : PCallee) (n : Nat) (x0 : PV) (x1 : PV) (h : PHeap) : Pt := forkP (.ptr h.length 0) (h ++ [.box (cellsP x1) 41 .rw]) fun v0 h1 => (Γ 101 [x0] h1).bind fun p2 => (unP .not p2.1).bind fun v3 => K1 (fun v5 h6 => K1 (fun v8 h9 => K1 (fun v11 h12 => KL (fun w14 h15 => (fieldAddrP 4 v0).bind fun v16 => (loadP false 1 v16 h15).bind fun v17 => (binP .eql v17 (.int .i64 0 : PV)).bind fun v18 => KL (fun w20 h21 => (Γ 153 [x0] (lock h21)).bind fun p22 => unl h21 p22.2 fun h23 => (fieldAddrP 4 v0).bind fun v24 => (loadP false 1 v24 h23).bind fun v25 => (Γ 154 [v25] h23).bind fun p26 => (Γ 152 [p22.1, p26.1] p26.2).bind fun p27 => (binP .geq p27.1 (.int .i64 0 : PV)).bind fun v28 => finP [.keep] h p27.2 [v28]) fun j19 => ifP v18 ( finP [.keep] h h15 [(.bool true : PV)]) ( j19 [] h15)) fun j13 => ifP v11 ( finP [.keep] h h12 [(.bool false : PV)]) ( j13 [] h12)) fun j10 => scP v8 false ( (fieldAddrP 2 v0).bind fun v29 => (loadP false 1 v29 h9).bind fun v30 => (Γ 151 [x0] (lock h9)).bind fun p31 => unl h9 p31.2 fun h32 => (binP .gtr v30 p31.1).bind fun v33 => j10 v33 h32) (j10 (.bool true) h9)) fun j7 => scP v5 false ( (fieldAddrP 0 v0).bind fun v34 => (loadP false 1 v34 h6).bind fun v35 => (Γ 150 [x0, v35] h6).bind fun p36 => (unP .not p36.1).bind fun v37 => j7 v37 p36.2) (j7 (.bool true) h6)) fun j4 => scP v3 false ( (loadP true 6 v0 p2.2).bind fun v38 => (Γ 148 [v38] p2.2).bind fun p39 => (unP .not p39.1).bind fun v40 => j4 v40 p39.2) (j4 (.bool true) p2.2)
theorem s118_eq (Γ : PCallee) (n : Nat) (x0 : PV) (x1 : PV) (h : PHeap) : pfunK Γ n A118 [x0, x1] h = s118 Γ n x0 x1 h := by kernel_rfl
open Go.Vm.G in
def A119 : PFun := ⟨2, 9, (S (R <| o 2 (.box 41 (t 0)) <| o 3 (.move (.const (.bool false))) <| z) <|
  (S (D <| f 4 1 2 <| l 5 4 <| o 6 (.load true 42 (t 1)) <| F 6 (.agg SA42) <| O 7 (.call 120 [(t 6)]) <| b 8 .gtr (t 5) (t 7) <| m 3 8 <| z) <|
  .ret)), [.tmp 3], [.keep]⟩
theorem ok119 : ∃ fn c, FunOk Tryz.prog 119 fn c A119.erase := ⟨Tryz.f119, _, ⟨Tryz.func119, rfl, by kernel_rfl, by kernel_rfl, by kernel_rfl, of_decide_eq_true (by kernel_rfl), by kernel_rfl⟩⟩
noncomputable def s119 (Γ : PCallee) (n : Nat) (x0 : PV) (x1 : PV) (h : PHeap) : Pt := forkP (.ptr h.length 0) (h ++ [.box (cellsP x0) 41 .rw]) fun v0 h1 => (fieldAddrP 1 v0).bind fun v2 => (loadP false 1 v2 h1).bind fun v3 => (loadP true 42 x1 h1).bind fun v4 => (fz (.agg SA42) v4 h1).bind fun q5 => (Γ 120 [q5.1] (lock q5.2)).bind fun p6 => unl q5.2 p6.2 fun h7 => (binP .gtr v3 p6.1).bind fun v8 => finP [.keep] h h7 [v8]
theorem s119_eq (Γ : PCallee) (n : Nat) (x0 : PV) (x1 : PV) (h : PHeap) : pfunK Γ n A119 [x0, x1] h = s119 Γ n x0 x1 h := by kernel_rfl
open Go.Vm.G in
def A120 : PFun := ⟨1, 14, (S (R <| o 1 (.box 104 (t 0)) <| o 2 (.move (i 0)) <| z) <|
  (S (S (R <| f 3 13 1 <| f 4 6 3 <| l 5 4 <| z) <|
  (.cond (t 5) [] ([2] ++ g 6 4)
  (S (R <| f 6 0 1 <| f 7 12 6 <| l 8 7 <| o 9 (.len false (t 8)) <| m 2 9 <| z) <|
  .ret)
  .skip)) <|
  (S (R <| f 10 0 1 <| f 11 11 10 <| l 12 11 <| o 13 (.len false (t 12)) <| m 2 13 <| z) <|
  .ret))), [.tmp 2], [.keep]⟩
theorem ok120 : ∃ fn c, FunOk Tryz.prog 120 fn c A120.erase := ⟨Tryz.f120, _, ⟨Tryz.func120, rfl, by kernel_rfl, by kernel_rfl, by kernel_rfl, of_decide_eq_true (by kernel_rfl), by kernel_rfl⟩⟩
noncomputable def s120 (Γ : PCallee) (n : Nat) (x0 : PV) (h : PHeap) : Pt := forkP (.ptr h.length 0) (h ++ [.box (cellsP x0) 104 .rw]) fun v0 h1 => (fieldAddrP 13 v0).bind fun v2 => (fieldAddrP 6 v2).bind fun v3 => (loadP false 1 v3 h1).bind fun v4 => KL (fun w6 h7 => (fieldAddrP 0 v0).bind fun v8 => (fieldAddrP 11 v8).bind fun v9 => (loadP false 1 v9 h7).bind fun v10 => (lenP false v10).bind fun v11 => finP [.keep] h h7 [v11]) fun j5 => ifP v4 ( (fieldAddrP 0 v0).bind fun v12 => (fieldAddrP 12 v12).bind fun v13 => (loadP false 1 v13 h1).bind fun v14 => (lenP false v14).bind fun v15 => finP [.keep] h h1 [v15]) ( j5 [] h1)
theorem s120_eq (Γ : PCallee) (n : Nat) (x0 : PV) (h : PHeap) : pfunK Γ n A120 [x0] h = s120 Γ n x0 h := by kernel_rfl
open Go.Vm.G in
def A121 : PFun := ⟨2, 19, (S (R <| o 4 (.move (i 0)) <| z) <|
  (S (S (R <| m 6 0 <| o 7 (.len false (t 6)) <| o 8 (.move (i 0)) <| z) <|
  (.block 0 [] ([4, 5] ++ g 8 11)
  (.loop [8] ([4, 5] ++ g 9 10)
  (S (R <| b 9 .lss (t 8) (t 7) <| z) <|
  (S (.cond (t 9) [] []
  .skip
  (.exit 0)) <|
  (S (.block 1 [] ([4, 5] ++ g 10 8)
  (S (R <| m 10 8 <| m 5 10 <| z) <|
  (S (R <| m 11 1 <| m 12 0 <| m 13 5 <| o 14 (.indexAddr 1 (t 12) (t 13)) <| l 15 14 <| o 16 (.callV (t 11) [(t 15)]) <| z) <|
  (.cond (t 16) [] [4, 17]
  (S (R <| m 17 5 <| m 4 17 <| z) <|
  .ret)
  .skip)))) <|
  (R <| b 18 .add (t 8) (i 1) <| m 8 18 <| z))))))) <|
  (S (R <| o 4 (.move (i (-1))) <| z) <|
  .ret))), [.tmp 4], [.keep]⟩
theorem ok121 : ∃ fn c, FunOk Tryz.prog 121 fn c A121.erase := ⟨Tryz.f121, _, ⟨Tryz.func121, rfl, by kernel_rfl, by kernel_rfl, by kernel_rfl, of_decide_eq_true (by kernel_rfl), by kernel_rfl⟩⟩
noncomputable def s121_L0 (Γ : PCallee) (n : Nat) (x0 : PV) (x1 : PV) (h : PHeap) (v0 : PV) (j1 : Kt) : (Kt) → Kt := fun c4 w5 h6 => (binP .lss (nthP w5 0) v0).bind fun v7 => KL (fun w9 h10 => KL (fun w12 h13 => (binP .add (nthP w5 0) (.int .i64 1 : PV)).bind fun v14 => c4 [v14] (trim h [v14] h13)) fun j11 => (indexAddrP 1 x0 (nthP w5 0)).bind fun v15 => (loadP false 1 v15 h10).bind fun v16 => (callVP Γ x1 [v16] h10).bind fun p17 => KL (fun w19 h20 => j11 [] h20) fun j18 => ifP p17.1 ( finP [.keep] h p17.2 [(nthP w5 0)]) ( j18 [] p17.2)) fun j8 => ifP v7 ( j8 [] h6) ( j1 [] h6)
noncomputable def s121 (Γ : PCallee) (n : Nat) (x0 : PV) (x1 : PV) (h : PHeap) : Pt := (lenP false x0).bind fun v0 => KL (fun w2 h3 => finP [.keep] h h3 [(.int .i64 (-1) : PV)]) fun j1 => loopP (s121_L0 Γ n x0 x1 h v0 j1) n [(.int .i64 0 : PV)] h
theorem s121_eq (Γ : PCallee) (n : Nat) (x0 : PV) (x1 : PV) (h : PHeap) : pfunK Γ n A121 [x0, x1] h = s121 Γ n x0 x1 h := by kernel_rfl
open Go.Vm.G in
def A122 : PFun := ⟨2, 17, (S (R <| o 3 (.move (.const (.bool false))) <| z) <|
  (S (R <| m 4 0 <| o 5 (.call 87 [(t 4)]) <| o 6 (.un .not (t 5)) <| m 7 6 <| q 16 7 true (g 8 8) (m 8 0 <| f 9 0 1 <| f 10 10 9 <| l 11 10 <| o 12 (.len false (t 11)) <| b 13 .sub (t 12) (i 1) <| o 14 (.call 54 [(t 8), (i 0), (t 13)]) <| o 15 (.un .not (t 14)) <| z) (t 15) <|
  m 3 16 <| z) <|
  .ret)), [.tmp 3], [.keep]⟩
theorem ok122 : ∃ fn c, FunOk Tryz.prog 122 fn c A122.erase := ⟨Tryz.f122, _, ⟨Tryz.func122, rfl, by kernel_rfl, by kernel_rfl, by kernel_rfl, of_decide_eq_true (by kernel_rfl), by kernel_rfl⟩⟩
noncomputable def s122 (Γ : PCallee) (n : Nat) (x0 : PV) (x1 : PV) (h : PHeap) : Pt := (Γ 87 [x0] h).bind fun p0 => (unP .not p0.1).bind fun v1 => K1 (fun v3 h4 => finP [.keep] h h4 [v3]) fun j2 => scP v1 true ( (fieldAddrP 0 x1).bind fun v5 => (fieldAddrP 10 v5).bind fun v6 => (loadP false 1 v6 p0.2).bind fun v7 => (lenP false v7).bind fun v8 => (binP .sub v8 (.int .i64 1 : PV)).bind fun v9 => (Γ 54 [x0, (.int .i64 0 : PV), v9] p0.2).bind fun p10 => (unP .not p10.1).bind fun v11 => j2 v11 p10.2) (j2 (.bool false) p0.2)
theorem s122_eq (Γ : PCallee) (n : Nat) (x0 : PV) (x1 : PV) (h : PHeap) : pfunK Γ n A122 [x0, x1] h = s122 Γ n x0 x1 h := by kernel_rfl
open Go.Vm.G in
def A123 : PFun := ⟨1, 6, (S (R <| o 2 (.move (.const (.bool false))) <| z) <|
  (S (R <| m 3 0 <| o 4 (.call 54 [(t 3), (i 0), (i 256)]) <| o 5 (.un .not (t 4)) <| m 2 5 <| z) <|
  .ret)), [.tmp 2], [.keep]⟩
theorem ok123 : ∃ fn c, FunOk Tryz.prog 123 fn c A123.erase := ⟨Tryz.f123, _, ⟨Tryz.func123, rfl, by kernel_rfl, by kernel_rfl, by kernel_rfl, of_decide_eq_true (by kernel_rfl), by kernel_rfl⟩⟩
noncomputable def s123 (Γ : PCallee) (n : Nat) (x0 : PV) (h : PHeap) : Pt := (Γ 54 [x0, (.int .i64 0 : PV), (.int .i64 256 : PV)] h).bind fun p0 => (unP .not p0.1).bind fun v1 => finP [.keep] h p0.2 [v1]
theorem s123_eq (Γ : PCallee) (n : Nat) (x0 : PV) (h : PHeap) : pfunK Γ n A123 [x0] h = s123 Γ n x0 h := by kernel_rfl
open Go.Vm.G in
def A124 : PFun := ⟨2, 19, (S (R <| o 4 (.move (i 0)) <| z) <|
  (S (S (R <| m 6 0 <| o 7 (.len false (t 6)) <| o 8 (.move (i 0)) <| z) <|
  (.block 0 [] ([4, 5] ++ g 8 11)
  (.loop [8] ([4, 5] ++ g 9 10)
  (S (R <| b 9 .lss (t 8) (t 7) <| z) <|
  (S (.cond (t 9) [] []
  .skip
  (.exit 0)) <|
  (S (.block 1 [] ([4, 5] ++ g 10 8)
  (S (R <| m 10 8 <| m 5 10 <| z) <|
  (S (R <| m 11 1 <| m 12 0 <| m 13 5 <| o 14 (.indexAddr 13 (t 12) (t 13)) <| o 15 (.load true 13 (t 14)) <| o 16 (.callV (t 11) [(t 15)]) <| z) <|
  (.cond (t 16) [] [4, 17]
  (S (R <| m 17 5 <| m 4 17 <| z) <|
  .ret)
  .skip)))) <|
  (R <| b 18 .add (t 8) (i 1) <| m 8 18 <| z))))))) <|
  (S (R <| o 4 (.move (i (-1))) <| z) <|
  .ret))), [.tmp 4], [.keep]⟩
theorem ok124 : ∃ fn c, FunOk Tryz.prog 124 fn c A124.erase := ⟨Tryz.f124, _, ⟨Tryz.func124, rfl, by kernel_rfl, by kernel_rfl, by kernel_rfl, of_decide_eq_true (by kernel_rfl), by kernel_rfl⟩⟩
noncomputable def s124_L0 (Γ : PCallee) (n : Nat) (x0 : PV) (x1 : PV) (h : PHeap) (v0 : PV) (j1 : Kt) : (Kt) → Kt := fun c4 w5 h6 => (binP .lss (nthP w5 0) v0).bind fun v7 => KL (fun w9 h10 => KL (fun w12 h13 => (binP .add (nthP w5 0) (.int .i64 1 : PV)).bind fun v14 => c4 [v14] (trim h [v14] h13)) fun j11 => (indexAddrP 13 x0 (nthP w5 0)).bind fun v15 => (loadP true 13 v15 h10).bind fun v16 => (callVP Γ x1 [v16] h10).bind fun p17 => KL (fun w19 h20 => j11 [] h20) fun j18 => ifP p17.1 ( finP [.keep] h p17.2 [(nthP w5 0)]) ( j18 [] p17.2)) fun j8 => ifP v7 ( j8 [] h6) ( j1 [] h6)
noncomputable def s124 (Γ : PCallee) (n : Nat) (x0 : PV) (x1 : PV) (h : PHeap) : Pt := (lenP false x0).bind fun v0 => KL (fun w2 h3 => finP [.keep] h h3 [(.int .i64 (-1) : PV)]) fun j1 => loopP (s124_L0 Γ n x0 x1 h v0 j1) n [(.int .i64 0 : PV)] h
theorem s124_eq (Γ : PCallee) (n : Nat) (x0 : PV) (x1 : PV) (h : PHeap) : pfunK Γ n A124 [x0, x1] h = s124 Γ n x0 x1 h := by kernel_rfl
open Go.Vm.G in
def A125 : PFun := ⟨1, 6, (S (R <| o 1 (.box 43 (t 0)) <| o 2 (.move (.const (.bool false))) <| z) <|
  (S (R <| o 3 (.load true 13 (t 1)) <| o 4 (.call 126 [(t 3)]) <| o 5 (.un .not (t 4)) <| m 2 5 <| z) <|
  .ret)), [.tmp 2], [.keep]⟩
theorem ok125 : ∃ fn c, FunOk Tryz.prog 125 fn c A125.erase := ⟨Tryz.f125, _, ⟨Tryz.func125, rfl, by kernel_rfl, by kernel_rfl, by kernel_rfl, of_decide_eq_true (by kernel_rfl), by kernel_rfl⟩⟩
noncomputable def s125 (Γ : PCallee) (n : Nat) (x0 : PV) (h : PHeap) : Pt := forkP (.ptr h.length 0) (h ++ [.box (cellsP x0) 43 .rw]) fun v0 h1 => (loadP true 13 v0 h1).bind fun v2 => (Γ 126 [v2] h1).bind fun p3 => (unP .not p3.1).bind fun v4 => finP [.keep] h p3.2 [v4]
theorem s125_eq (Γ : PCallee) (n : Nat) (x0 : PV) (h : PHeap) : pfunK Γ n A125 [x0] h = s125 Γ n x0 h := by kernel_rfl
open Go.Vm.G in
def A126 : PFun := ⟨1, 129, (S (R <| o 1 (.box 43 (t 0)) <| o 2 (.move (.const (.bool false))) <| z) <|
  (S (S (R <| f 8 0 1 <| l 9 8 <| o 10 (.len true (t 9)) <| b 11 .gtr (t 10) (i 22) <| m 12 11 <| q 21 12 false (g 13 4 ++ [20, 17, 18, 19]) (f 13 2 1 <| l 14 13 <| b 15 .neq (t 14) (i 8) <| m 16 15 <| q 20 16 true [17, 18, 19] (f 17 2 1 <| l 18 17 <| b 19 .neq (t 18) (i 16) <| z) (t 19) <|
  z) (t 20) <|
  m 22 21 <| q 27 22 false (g 23 4) (f 23 1 1 <| l 24 23 <| o 25 (.len false (t 24)) <| b 26 .gtr (t 25) (i 4096) <| z) (t 26) <|
  z) <|
  (.cond (t 27) [] [2]
  (S (R <| o 2 (.move (.const (.bool false))) <| z) <|
  .ret)
  .skip)) <|
  (S (S (R <| f 28 0 1 <| l 29 28 <| o 30 (.len true (t 29)) <| o 31 (.move (i 0)) <| z) <|
  (.block 0 [] ([2, 3] ++ g 31 16)
  (.loop [31] ([2, 3] ++ g 32 15)
  (S (R <| b 32 .lss (t 31) (t 30) <| z) <|
  (S (.cond (t 32) [] []
  .skip
  (.exit 0)) <|
  (S (.block 1 [] ([2, 3] ++ g 33 13)
  (S (R <| m 33 31 <| m 3 33 <| z) <|
  (S (R <| f 34 0 1 <| l 35 34 <| m 36 3 <| o 37 (.indexStr (t 35) (t 36)) <| b 38 .lss (t 37) (.const (.int .u8 32)) <| m 39 38 <| q 45 39 false (g 40 5) (f 40 0 1 <| l 41 40 <| m 42 3 <| o 43 (.indexStr (t 41) (t 42)) <| b 44 .gtr (t 43) (.const (.int .u8 126)) <| z) (t 44) <|
  z) <|
  (.cond (t 45) [] [2]
  (S (R <| o 2 (.move (.const (.bool false))) <| z) <|
  .ret)
  .skip)))) <|
  (R <| b 46 .add (t 31) (i 1) <| m 31 46 <| z))))))) <|
  (S (R <| f 48 2 1 <| l 49 48 <| o 50 (.call 155 [(t 49)]) <| m 47 50 <| o 51 (.extract (t 47) 0) <| o 52 (.extract (t 47) 1) <| m 4 51 <| m 5 52 <| z) <|
  (S (S (R <| f 53 1 1 <| l 54 53 <| o 55 (.len false (t 54)) <| o 56 (.move (i 0)) <| z) <|
  (.block 2 [] ([2, 7] ++ g 56 13)
  (.loop [56] ([2, 7] ++ g 57 12)
  (S (R <| b 57 .lss (t 56) (t 55) <| z) <|
  (S (.cond (t 57) [] []
  .skip
  (.exit 2)) <|
  (S (.block 3 [] ([2, 7] ++ g 58 10)
  (S (R <| o 58 (.indexAddr 1 (t 54) (t 56)) <| l 59 58 <| m 7 59 <| z) <|
  (S (R <| m 60 7 <| m 61 4 <| b 62 .lss (t 60) (t 61) <| m 63 62 <| q 67 63 false [64, 65, 66] (m 64 7 <| m 65 5 <| b 66 .gtr (t 64) (t 65) <| z) (t 66) <|
  z) <|
  (.cond (t 67) [] [2]
  (S (R <| o 2 (.move (.const (.bool false))) <| z) <|
  .ret)
  .skip)))) <|
  (R <| b 68 .add (t 56) (i 1) <| m 56 68 <| z))))))) <|
  (S (S (R <| f 69 3 1 <| l 70 69 <| b 71 .lss (t 70) (i 1) <| m 72 71 <| q 76 72 false [73, 74, 75] (f 73 3 1 <| l 74 73 <| b 75 .gtr (t 74) (i 65535) <| z) (t 75) <|
  m 77 76 <| q 81 77 false [78, 79, 80] (f 78 4 1 <| l 79 78 <| b 80 .lss (t 79) (i 0) <| z) (t 80) <|
  m 82 81 <| q 86 82 false [83, 84, 85] (f 83 4 1 <| l 84 83 <| b 85 .gtr (t 84) (i 64) <| z) (t 85) <|
  m 87 86 <| q 91 87 false [88, 89, 90] (f 88 5 1 <| l 89 88 <| b 90 .lss (t 89) (i (-1)) <| z) (t 90) <|
  m 92 91 <| q 96 92 false [93, 94, 95] (f 93 5 1 <| l 94 93 <| b 95 .gtr (t 94) (i 256) <| z) (t 95) <|
  m 97 96 <| q 101 97 false [98, 99, 100] (f 98 6 1 <| l 99 98 <| b 100 .lss (t 99) (i (-64)) <| z) (t 100) <|
  m 102 101 <| q 106 102 false [103, 104, 105] (f 103 6 1 <| l 104 103 <| b 105 .gtr (t 104) (i 63) <| z) (t 105) <|
  z) <|
  (.cond (t 106) [] [2]
  (S (R <| o 2 (.move (.const (.bool false))) <| z) <|
  .ret)
  .skip)) <|
  (S (R <| f 107 7 1 <| l 108 107 <| f 109 8 1 <| l 110 109 <| f 111 9 1 <| l 112 111 <| f 113 1 1 <| l 114 113 <| o 115 (.len false (t 114)) <| o 116 (.call 156 [(t 108), (t 110), (t 112), (t 115)]) <| m 117 116 <| q 128 117 true (g 118 10) (f 118 10 1 <| l 119 118 <| f 120 11 1 <| l 121 120 <| f 122 12 1 <| l 123 122 <| f 124 1 1 <| l 125 124 <| o 126 (.len false (t 125)) <| o 127 (.call 156 [(t 119), (t 121), (t 123), (t 126)]) <| z) (t 127) <|
  m 2 128 <| z) <|
  .ret))))))), [.tmp 2], [.keep]⟩
theorem ok126 : ∃ fn c, FunOk Tryz.prog 126 fn c A126.erase := ⟨Tryz.f126, _, ⟨Tryz.func126, rfl, by kernel_rfl, by kernel_rfl, by kernel_rfl, of_decide_eq_true (by kernel_rfl), by kernel_rfl⟩⟩
noncomputable def s126_L0 (Γ : PCallee) (n : Nat) (h : PHeap) (p23 : PV × PHeap) (v24 : PV) (v25 : PV) (v27 : PV) (v28 : PV) (j29 : Kt) : (Kt) → Kt := fun c103 w104 h105 => (binP .lss (nthP w104 0) v28).bind fun v106 => KL (fun w108 h109 => KL (fun w111 h112 => (binP .add (nthP w104 0) (.int .i64 1 : PV)).bind fun v113 => c103 [v113] (trim p23.2 [v113] h112)) fun j110 => (indexAddrP 1 v27 (nthP w104 0)).bind fun v114 => (loadP false 1 v114 h109).bind fun v115 => (binP .lss v115 v24).bind fun v116 => K1 (fun v118 h119 => KL (fun w121 h122 => j110 [] h122) fun j120 => ifP v118 ( finP [.keep] h h119 [(.bool false : PV)]) ( j120 [] h119)) fun j117 => scP v116 false ( (binP .gtr v115 v25).bind fun v123 => j117 v123 h109) (j117 (.bool true) h109)) fun j107 => ifP v106 ( j107 [] h105) ( j29 [] h105)
noncomputable def s126_L1 (Γ : PCallee) (n : Nat) (h : PHeap) (v0 : PV) (h14 : PHeap) (v17 : PV) (j18 : Kt) : (Kt) → Kt := fun c124 w125 h126 => (binP .lss (nthP w125 0) v17).bind fun v127 => KL (fun w129 h130 => KL (fun w132 h133 => (binP .add (nthP w125 0) (.int .i64 1 : PV)).bind fun v134 => c124 [v134] (trim h14 [v134] h133)) fun j131 => (fieldAddrP 0 v0).bind fun v135 => (loadP false 1 v135 h130).bind fun v136 => (indexStrP v136 (nthP w125 0)).bind fun v137 => (binP .lss v137 (.int .u8 32 : PV)).bind fun v138 => K1 (fun v140 h141 => KL (fun w143 h144 => j131 [] h144) fun j142 => ifP v140 ( finP [.keep] h h141 [(.bool false : PV)]) ( j142 [] h141)) fun j139 => scP v138 false ( (fieldAddrP 0 v0).bind fun v145 => (loadP false 1 v145 h130).bind fun v146 => (indexStrP v146 (nthP w125 0)).bind fun v147 => (binP .gtr v147 (.int .u8 126 : PV)).bind fun v148 => j139 v148 h130) (j139 (.bool true) h130)) fun j128 => ifP v127 ( j128 [] h126) ( j18 [] h126)
noncomputable def s126 (Γ : PCallee) (n : Nat) (x0 : PV) (h : PHeap) : Pt := forkP (.ptr h.length 0) (h ++ [.box (cellsP x0) 43 .rw]) fun v0 h1 => (fieldAddrP 0 v0).bind fun v2 => (loadP false 1 v2 h1).bind fun v3 => (lenP true v3).bind fun v4 => (binP .gtr v4 (.int .i64 22 : PV)).bind fun v5 => K1 (fun v7 h8 => K1 (fun v10 h11 => KL (fun w13 h14 => (fieldAddrP 0 v0).bind fun v15 => (loadP false 1 v15 h14).bind fun v16 => (lenP true v16).bind fun v17 => KL (fun w19 h20 => (fieldAddrP 2 v0).bind fun v21 => (loadP false 1 v21 h20).bind fun v22 => (Γ 155 [v22] h20).bind fun p23 => (extractP p23.1 0).bind fun v24 => (extractP p23.1 1).bind fun v25 => (fieldAddrP 1 v0).bind fun v26 => (loadP false 1 v26 p23.2).bind fun v27 => (lenP false v27).bind fun v28 => KL (fun w30 h31 => (fieldAddrP 3 v0).bind fun v32 => (loadP false 1 v32 h31).bind fun v33 => (binP .lss v33 (.int .i64 1 : PV)).bind fun v34 => K1 (fun v36 h37 => K1 (fun v39 h40 => K1 (fun v42 h43 => K1 (fun v45 h46 => K1 (fun v48 h49 => K1 (fun v51 h52 => K1 (fun v54 h55 => KL (fun w57 h58 => (fieldAddrP 7 v0).bind fun v59 => (loadP false 1 v59 h58).bind fun v60 => (fieldAddrP 8 v0).bind fun v61 => (loadP false 1 v61 h58).bind fun v62 => (fieldAddrP 9 v0).bind fun v63 => (loadP false 1 v63 h58).bind fun v64 => (fieldAddrP 1 v0).bind fun v65 => (loadP false 1 v65 h58).bind fun v66 => (lenP false v66).bind fun v67 => (Γ 156 [v60, v62, v64, v67] h58).bind fun p68 => K1 (fun v70 h71 => finP [.keep] h h71 [v70]) fun j69 => scP p68.1 true ( (fieldAddrP 10 v0).bind fun v72 => (loadP false 1 v72 p68.2).bind fun v73 => (fieldAddrP 11 v0).bind fun v74 => (loadP false 1 v74 p68.2).bind fun v75 => (fieldAddrP 12 v0).bind fun v76 => (loadP false 1 v76 p68.2).bind fun v77 => (fieldAddrP 1 v0).bind fun v78 => (loadP false 1 v78 p68.2).bind fun v79 => (lenP false v79).bind fun v80 => (Γ 156 [v73, v75, v77, v80] p68.2).bind fun p81 => j69 p81.1 p81.2) (j69 (.bool false) p68.2)) fun j56 => ifP v54 ( finP [.keep] h h55 [(.bool false : PV)]) ( j56 [] h55)) fun j53 => scP v51 false ( (fieldAddrP 6 v0).bind fun v82 => (loadP false 1 v82 h52).bind fun v83 => (binP .gtr v83 (.int .i64 63 : PV)).bind fun v84 => j53 v84 h52) (j53 (.bool true) h52)) fun j50 => scP v48 false ( (fieldAddrP 6 v0).bind fun v85 => (loadP false 1 v85 h49).bind fun v86 => (binP .lss v86 (.int .i64 (-64) : PV)).bind fun v87 => j50 v87 h49) (j50 (.bool true) h49)) fun j47 => scP v45 false ( (fieldAddrP 5 v0).bind fun v88 => (loadP false 1 v88 h46).bind fun v89 => (binP .gtr v89 (.int .i64 256 : PV)).bind fun v90 => j47 v90 h46) (j47 (.bool true) h46)) fun j44 => scP v42 false ( (fieldAddrP 5 v0).bind fun v91 => (loadP false 1 v91 h43).bind fun v92 => (binP .lss v92 (.int .i64 (-1) : PV)).bind fun v93 => j44 v93 h43) (j44 (.bool true) h43)) fun j41 => scP v39 false ( (fieldAddrP 4 v0).bind fun v94 => (loadP false 1 v94 h40).bind fun v95 => (binP .gtr v95 (.int .i64 64 : PV)).bind fun v96 => j41 v96 h40) (j41 (.bool true) h40)) fun j38 => scP v36 false ( (fieldAddrP 4 v0).bind fun v97 => (loadP false 1 v97 h37).bind fun v98 => (binP .lss v98 (.int .i64 0 : PV)).bind fun v99 => j38 v99 h37) (j38 (.bool true) h37)) fun j35 => scP v34 false ( (fieldAddrP 3 v0).bind fun v100 => (loadP false 1 v100 h31).bind fun v101 => (binP .gtr v101 (.int .i64 65535 : PV)).bind fun v102 => j35 v102 h31) (j35 (.bool true) h31)) fun j29 => loopP (s126_L0 Γ n h p23 v24 v25 v27 v28 j29) n [(.int .i64 0 : PV)] p23.2) fun j18 => loopP (s126_L1 Γ n h v0 h14 v17 j18) n [(.int .i64 0 : PV)] h14) fun j12 => ifP v10 ( finP [.keep] h h11 [(.bool false : PV)]) ( j12 [] h11)) fun j9 => scP v7 false ( (fieldAddrP 1 v0).bind fun v149 => (loadP false 1 v149 h8).bind fun v150 => (lenP false v150).bind fun v151 => (binP .gtr v151 (.int .i64 4096 : PV)).bind fun v152 => j9 v152 h8) (j9 (.bool true) h8)) fun j6 => scP v5 false ( (fieldAddrP 2 v0).bind fun v153 => (loadP false 1 v153 h1).bind fun v154 => (binP .neq v154 (.int .i64 8 : PV)).bind fun v155 => K1 (fun v157 h158 => j6 v157 h158) fun j156 => scP v155 true ( (fieldAddrP 2 v0).bind fun v159 => (loadP false 1 v159 h1).bind fun v160 => (binP .neq v160 (.int .i64 16 : PV)).bind fun v161 => j156 v161 h1) (j156 (.bool false) h1)) (j6 (.bool true) h1)
theorem s126_eq (Γ : PCallee) (n : Nat) (x0 : PV) (h : PHeap) : pfunK Γ n A126 [x0] h = s126 Γ n x0 h := by kernel_rfl
open Go.Vm.G in
def A127 : PFun := ⟨1, 71, (S (R <| o 1 (.box 57 (t 0)) <| o 2 (.move (.const (.bool false))) <| z) <|
  (S (S (R <| f 3 0 1 <| l 4 3 <| o 5 (.call 157 [(t 4)]) <| o 6 (.un .not (t 5)) <| m 7 6 <| q 18 7 false (g 8 5 ++ [17] ++ g 13 4) (f 8 1 1 <| l 9 8 <| o 10 (.len false (t 9)) <| b 11 .neq (t 10) (i 0) <| m 12 11 <| q 17 12 true (g 13 4) (f 13 1 1 <| l 14 13 <| o 15 (.len false (t 14)) <| b 16 .neq (t 15) (i 120) <| z) (t 16) <|
  z) (t 17) <|
  z) <|
  (.cond (t 18) [] [2]
  (S (R <| o 2 (.move (.const (.bool false))) <| z) <|
  .ret)
  .skip)) <|
  (S (S (R <| f 19 1 1 <| l 20 19 <| o 21 (.call 128 [(t 20), (.func 158)]) <| z) <|
  (.cond (t 21) [] [2]
  (S (R <| o 2 (.move (.const (.bool false))) <| z) <|
  .ret)
  .skip)) <|
  (S (S (R <| f 22 2 1 <| o 23 (.load true 8 (t 22)) <| o 24 (.call 159 [(t 23), (i 0), (i 64)]) <| o 25 (.un .not (t 24)) <| m 26 25 <| q 31 26 false (g 27 4) (f 27 10 1 <| o 28 (.load true 8 (t 27)) <| o 29 (.call 159 [(t 28), (i (-32)), (i 32)]) <| o 30 (.un .not (t 29)) <| z) (t 30) <|
  m 32 31 <| q 37 32 false (g 33 4) (f 33 18 1 <| o 34 (.load true 8 (t 33)) <| o 35 (.call 159 [(t 34), (i (-32)), (i 32)]) <| o 36 (.un .not (t 35)) <| z) (t 36) <|
  z) <|
  (.cond (t 37) [] [2]
  (S (R <| o 2 (.move (.const (.bool false))) <| z) <|
  .ret)
  .skip)) <|
  (S (R <| f 38 26 1 <| l 39 38 <| o 40 (.call 146 [(t 39), (i 0), (i 1024)]) <| m 41 40 <| q 45 41 true [42, 43, 44] (f 42 27 1 <| l 43 42 <| o 44 (.call 146 [(t 43), (i 0), (i 3)]) <| z) (t 44) <|
  m 46 45 <| q 50 46 true [47, 48, 49] (f 47 28 1 <| l 48 47 <| o 49 (.call 146 [(t 48), (i 0), (i 3)]) <| z) (t 49) <|
  m 51 50 <| q 55 51 true [52, 53, 54] (f 52 29 1 <| l 53 52 <| o 54 (.call 146 [(t 53), (i 0), (i 2)]) <| z) (t 54) <|
  m 56 55 <| q 60 56 true [57, 58, 59] (f 57 30 1 <| l 58 57 <| o 59 (.call 146 [(t 58), (i 0), (i 64)]) <| z) (t 59) <|
  m 61 60 <| q 65 61 true [62, 63, 64] (f 62 31 1 <| l 63 62 <| o 64 (.call 146 [(t 63), (i (-1)), (i 127)]) <| z) (t 64) <|
  m 66 65 <| q 70 66 true [67, 68, 69] (f 67 32 1 <| l 68 67 <| o 69 (.call 146 [(t 68), (i (-1)), (i 127)]) <| z) (t 69) <|
  m 2 70 <| z) <|
  .ret))))), [.tmp 2], [.keep]⟩
theorem ok127 : ∃ fn c, FunOk Tryz.prog 127 fn c A127.erase := ⟨Tryz.f127, _, ⟨Tryz.func127, rfl, by kernel_rfl, by kernel_rfl, by kernel_rfl, of_decide_eq_true (by kernel_rfl), by kernel_rfl⟩⟩
noncomputable def s127 (Γ : PCallee) (n : Nat) (x0 : PV) (h : PHeap) : Pt := forkP (.ptr h.length 0) (h ++ [.box (cellsP x0) 57 .rw]) fun v0 h1 => (fieldAddrP 0 v0).bind fun v2 => (loadP false 1 v2 h1).bind fun v3 => (Γ 157 [v3] h1).bind fun p4 => (unP .not p4.1).bind fun v5 => K1 (fun v7 h8 => KL (fun w10 h11 => (fieldAddrP 1 v0).bind fun v12 => (loadP false 1 v12 h11).bind fun v13 => (Γ 128 [v13, (PV.func 158 [] [])] h11).bind fun p14 => KL (fun w16 h17 => (fieldAddrP 2 v0).bind fun v18 => (loadP true 8 v18 h17).bind fun v19 => (Γ 159 [v19, (.int .i64 0 : PV), (.int .i64 64 : PV)] h17).bind fun p20 => (unP .not p20.1).bind fun v21 => K1 (fun v23 h24 => K1 (fun v26 h27 => KL (fun w29 h30 => (fieldAddrP 26 v0).bind fun v31 => (loadP false 1 v31 h30).bind fun v32 => (Γ 146 [v32, (.int .i64 0 : PV), (.int .i64 1024 : PV)] h30).bind fun p33 => K1 (fun v35 h36 => K1 (fun v38 h39 => K1 (fun v41 h42 => K1 (fun v44 h45 => K1 (fun v47 h48 => K1 (fun v50 h51 => finP [.keep] h h51 [v50]) fun j49 => scP v47 true ( (fieldAddrP 32 v0).bind fun v52 => (loadP false 1 v52 h48).bind fun v53 => (Γ 146 [v53, (.int .i64 (-1) : PV), (.int .i64 127 : PV)] h48).bind fun p54 => j49 p54.1 p54.2) (j49 (.bool false) h48)) fun j46 => scP v44 true ( (fieldAddrP 31 v0).bind fun v55 => (loadP false 1 v55 h45).bind fun v56 => (Γ 146 [v56, (.int .i64 (-1) : PV), (.int .i64 127 : PV)] h45).bind fun p57 => j46 p57.1 p57.2) (j46 (.bool false) h45)) fun j43 => scP v41 true ( (fieldAddrP 30 v0).bind fun v58 => (loadP false 1 v58 h42).bind fun v59 => (Γ 146 [v59, (.int .i64 0 : PV), (.int .i64 64 : PV)] h42).bind fun p60 => j43 p60.1 p60.2) (j43 (.bool false) h42)) fun j40 => scP v38 true ( (fieldAddrP 29 v0).bind fun v61 => (loadP false 1 v61 h39).bind fun v62 => (Γ 146 [v62, (.int .i64 0 : PV), (.int .i64 2 : PV)] h39).bind fun p63 => j40 p63.1 p63.2) (j40 (.bool false) h39)) fun j37 => scP v35 true ( (fieldAddrP 28 v0).bind fun v64 => (loadP false 1 v64 h36).bind fun v65 => (Γ 146 [v65, (.int .i64 0 : PV), (.int .i64 3 : PV)] h36).bind fun p66 => j37 p66.1 p66.2) (j37 (.bool false) h36)) fun j34 => scP p33.1 true ( (fieldAddrP 27 v0).bind fun v67 => (loadP false 1 v67 p33.2).bind fun v68 => (Γ 146 [v68, (.int .i64 0 : PV), (.int .i64 3 : PV)] p33.2).bind fun p69 => j34 p69.1 p69.2) (j34 (.bool false) p33.2)) fun j28 => ifP v26 ( finP [.keep] h h27 [(.bool false : PV)]) ( j28 [] h27)) fun j25 => scP v23 false ( (fieldAddrP 18 v0).bind fun v70 => (loadP true 8 v70 h24).bind fun v71 => (Γ 159 [v71, (.int .i64 (-32) : PV), (.int .i64 32 : PV)] h24).bind fun p72 => (unP .not p72.1).bind fun v73 => j25 v73 p72.2) (j25 (.bool true) h24)) fun j22 => scP v21 false ( (fieldAddrP 10 v0).bind fun v74 => (loadP true 8 v74 p20.2).bind fun v75 => (Γ 159 [v75, (.int .i64 (-32) : PV), (.int .i64 32 : PV)] p20.2).bind fun p76 => (unP .not p76.1).bind fun v77 => j22 v77 p76.2) (j22 (.bool true) p20.2)) fun j15 => ifP p14.1 ( finP [.keep] h p14.2 [(.bool false : PV)]) ( j15 [] p14.2)) fun j9 => ifP v7 ( finP [.keep] h h8 [(.bool false : PV)]) ( j9 [] h8)) fun j6 => scP v5 false ( (fieldAddrP 1 v0).bind fun v78 => (loadP false 1 v78 p4.2).bind fun v79 => (lenP false v79).bind fun v80 => (binP .neq v80 (.int .i64 0 : PV)).bind fun v81 => K1 (fun v83 h84 => j6 v83 h84) fun j82 => scP v81 true ( (fieldAddrP 1 v0).bind fun v85 => (loadP false 1 v85 p4.2).bind fun v86 => (lenP false v86).bind fun v87 => (binP .neq v87 (.int .i64 120 : PV)).bind fun v88 => j82 v88 p4.2) (j82 (.bool false) p4.2)) (j6 (.bool true) p4.2)
theorem s127_eq (Γ : PCallee) (n : Nat) (x0 : PV) (h : PHeap) : pfunK Γ n A127 [x0] h = s127 Γ n x0 h := by kernel_rfl
open Go.Vm.G in
def A128 : PFun := ⟨2, 9, (S (R <| o 4 (.move (.const (.bool false))) <| z) <|
  (S (R <| m 5 0 <| m 6 1 <| o 7 (.call 160 [(t 5), (t 6)]) <| b 8 .geq (t 7) (i 0) <| m 4 8 <| z) <|
  .ret)), [.tmp 4], [.keep]⟩
theorem ok128 : ∃ fn c, FunOk Tryz.prog 128 fn c A128.erase := ⟨Tryz.f128, _, ⟨Tryz.func128, rfl, by kernel_rfl, by kernel_rfl, by kernel_rfl, of_decide_eq_true (by kernel_rfl), by kernel_rfl⟩⟩
noncomputable def s128 (Γ : PCallee) (n : Nat) (x0 : PV) (x1 : PV) (h : PHeap) : Pt := (Γ 160 [x0, x1] h).bind fun p0 => (binP .geq p0.1 (.int .i64 0 : PV)).bind fun v1 => finP [.keep] h p0.2 [v1]
theorem s128_eq (Γ : PCallee) (n : Nat) (x0 : PV) (x1 : PV) (h : PHeap) : pfunK Γ n A128 [x0, x1] h = s128 Γ n x0 x1 h := by kernel_rfl
open Go.Vm.G in
def A129 : PFun := ⟨2, 11, (S (R <| o 2 (.box 89 (t 0)) <| o 3 (.move (.const (.bool false))) <| z) <|
  (S (R <| f 4 1 2 <| l 5 4 <| f 6 0 1 <| f 7 11 6 <| l 8 7 <| o 9 (.len false (t 8)) <| b 10 .gtr (t 5) (t 9) <| m 3 10 <| z) <|
  .ret)), [.tmp 3], [.keep]⟩
theorem ok129 : ∃ fn c, FunOk Tryz.prog 129 fn c A129.erase := ⟨Tryz.f129, _, ⟨Tryz.func129, rfl, by kernel_rfl, by kernel_rfl, by kernel_rfl, of_decide_eq_true (by kernel_rfl), by kernel_rfl⟩⟩
noncomputable def s129 (Γ : PCallee) (n : Nat) (x0 : PV) (x1 : PV) (h : PHeap) : Pt := forkP (.ptr h.length 0) (h ++ [.box (cellsP x0) 89 .rw]) fun v0 h1 => (fieldAddrP 1 v0).bind fun v2 => (loadP false 1 v2 h1).bind fun v3 => (fieldAddrP 0 x1).bind fun v4 => (fieldAddrP 11 v4).bind fun v5 => (loadP false 1 v5 h1).bind fun v6 => (lenP false v6).bind fun v7 => (binP .gtr v3 v7).bind fun v8 => finP [.keep] h h1 [v8]
theorem s129_eq (Γ : PCallee) (n : Nat) (x0 : PV) (x1 : PV) (h : PHeap) : pfunK Γ n A129 [x0, x1] h = s129 Γ n x0 x1 h := by kernel_rfl
open Go.Vm.G in
def A131 : PFun := ⟨2, 26, (S (R <| o 4 (.move (.const (.bool false))) <| z) <|
  (S (S (R <| m 6 0 <| o 7 (.len false (t 6)) <| m 8 1 <| o 9 (.len false (t 8)) <| b 10 .neq (t 7) (t 9) <| z) <|
  (.cond (t 10) [] [4]
  (S (R <| o 4 (.move (.const (.bool false))) <| z) <|
  .ret)
  .skip)) <|
  (S (S (R <| m 11 0 <| o 12 (.len false (t 11)) <| o 13 (.move (i 0)) <| z) <|
  (.block 0 [] ([4, 5] ++ g 13 13)
  (.loop [13] ([4, 5] ++ g 14 12)
  (S (R <| b 14 .lss (t 13) (t 12) <| z) <|
  (S (.cond (t 14) [] []
  .skip
  (.exit 0)) <|
  (S (.block 1 [] ([4, 5] ++ g 15 10)
  (S (R <| m 15 13 <| m 5 15 <| z) <|
  (S (D <| m 16 0 <| m 17 5 <| o 18 (.indexAddr 6 (t 16) (t 17)) <| o 19 (.load true 6 (t 18)) <| m 20 1 <| m 21 5 <| o 22 (.indexAddr 6 (t 20) (t 21)) <| o 23 (.load true 6 (t 22)) <| o 24 (.eqAgg [.int, .int, .int, .int, .int, .int] true (t 19) (t 23)) <| z) <|
  (.cond (t 24) [] [4]
  (S (R <| o 4 (.move (.const (.bool false))) <| z) <|
  .ret)
  .skip)))) <|
  (R <| b 25 .add (t 13) (i 1) <| m 13 25 <| z))))))) <|
  (S (R <| o 4 (.move (.const (.bool true))) <| z) <|
  .ret)))), [.tmp 4], [.keep]⟩
theorem ok131 : ∃ fn c, FunOk Tryz.prog 131 fn c A131.erase := ⟨Tryz.f131, _, ⟨Tryz.func131, rfl, by kernel_rfl, by kernel_rfl, by kernel_rfl, of_decide_eq_true (by kernel_rfl), by kernel_rfl⟩⟩
noncomputable def s131_L0 (Γ : PCallee) (n : Nat) (x0 : PV) (x1 : PV) (h : PHeap) (h5 : PHeap) (v6 : PV) (j7 : Kt) : (Kt) → Kt := fun c10 w11 h12 => (binP .lss (nthP w11 0) v6).bind fun v13 => KL (fun w15 h16 => KL (fun w18 h19 => (binP .add (nthP w11 0) (.int .i64 1 : PV)).bind fun v20 => c10 [v20] (trim h5 [v20] h19)) fun j17 => (indexAddrP 6 x0 (nthP w11 0)).bind fun v21 => (loadP true 6 v21 h16).bind fun v22 => (indexAddrP 6 x1 (nthP w11 0)).bind fun v23 => (loadP true 6 v23 h16).bind fun v24 => (eqAggP [.int, .int, .int, .int, .int, .int] true v22 v24).bind fun v25 => KL (fun w27 h28 => j17 [] h28) fun j26 => ifP v25 ( finP [.keep] h h16 [(.bool false : PV)]) ( j26 [] h16)) fun j14 => ifP v13 ( j14 [] h12) ( j7 [] h12)
noncomputable def s131 (Γ : PCallee) (n : Nat) (x0 : PV) (x1 : PV) (h : PHeap) : Pt := (lenP false x0).bind fun v0 => (lenP false x1).bind fun v1 => (binP .neq v0 v1).bind fun v2 => KL (fun w4 h5 => (lenP false x0).bind fun v6 => KL (fun w8 h9 => finP [.keep] h h9 [(.bool true : PV)]) fun j7 => loopP (s131_L0 Γ n x0 x1 h h5 v6 j7) n [(.int .i64 0 : PV)] h5) fun j3 => ifP v2 ( finP [.keep] h h [(.bool false : PV)]) ( j3 [] h)
theorem s131_eq (Γ : PCallee) (n : Nat) (x0 : PV) (x1 : PV) (h : PHeap) : pfunK Γ n A131 [x0, x1] h = s131 Γ n x0 x1 h := by kernel_rfl
open Go.Vm.G in
def A132 : PFun := ⟨2, 26, (S (R <| o 4 (.move (.const (.bool false))) <| z) <|
  (S (S (R <| m 6 0 <| o 7 (.len false (t 6)) <| m 8 1 <| o 9 (.len false (t 8)) <| b 10 .neq (t 7) (t 9) <| z) <|
  (.cond (t 10) [] [4]
  (S (R <| o 4 (.move (.const (.bool false))) <| z) <|
  .ret)
  .skip)) <|
  (S (S (R <| m 11 0 <| o 12 (.len false (t 11)) <| o 13 (.move (i 0)) <| z) <|
  (.block 0 [] ([4, 5] ++ g 13 13)
  (.loop [13] ([4, 5] ++ g 14 12)
  (S (R <| b 14 .lss (t 13) (t 12) <| z) <|
  (S (.cond (t 14) [] []
  .skip
  (.exit 0)) <|
  (S (.block 1 [] ([4, 5] ++ g 15 10)
  (S (R <| m 15 13 <| m 5 15 <| z) <|
  (S (D <| m 16 0 <| m 17 5 <| o 18 (.indexAddr 2 (t 16) (t 17)) <| o 19 (.load true 2 (t 18)) <| m 20 1 <| m 21 5 <| o 22 (.indexAddr 2 (t 20) (t 21)) <| o 23 (.load true 2 (t 22)) <| o 24 (.eqAgg [.int, .int] true (t 19) (t 23)) <| z) <|
  (.cond (t 24) [] [4]
  (S (R <| o 4 (.move (.const (.bool false))) <| z) <|
  .ret)
  .skip)))) <|
  (R <| b 25 .add (t 13) (i 1) <| m 13 25 <| z))))))) <|
  (S (R <| o 4 (.move (.const (.bool true))) <| z) <|
  .ret)))), [.tmp 4], [.keep]⟩
theorem ok132 : ∃ fn c, FunOk Tryz.prog 132 fn c A132.erase := ⟨Tryz.f132, _, ⟨Tryz.func132, rfl, by kernel_rfl, by kernel_rfl, by kernel_rfl, of_decide_eq_true (by kernel_rfl), by kernel_rfl⟩⟩
noncomputable def s132_L0 (Γ : PCallee) (n : Nat) (x0 : PV) (x1 : PV) (h : PHeap) (h5 : PHeap) (v6 : PV) (j7 : Kt) : (Kt) → Kt := fun c10 w11 h12 => (binP .lss (nthP w11 0) v6).bind fun v13 => KL (fun w15 h16 => KL (fun w18 h19 => (binP .add (nthP w11 0) (.int .i64 1 : PV)).bind fun v20 => c10 [v20] (trim h5 [v20] h19)) fun j17 => (indexAddrP 2 x0 (nthP w11 0)).bind fun v21 => (loadP true 2 v21 h16).bind fun v22 => (indexAddrP 2 x1 (nthP w11 0)).bind fun v23 => (loadP true 2 v23 h16).bind fun v24 => (eqAggP [.int, .int] true v22 v24).bind fun v25 => KL (fun w27 h28 => j17 [] h28) fun j26 => ifP v25 ( finP [.keep] h h16 [(.bool false : PV)]) ( j26 [] h16)) fun j14 => ifP v13 ( j14 [] h12) ( j7 [] h12)
noncomputable def s132 (Γ : PCallee) (n : Nat) (x0 : PV) (x1 : PV) (h : PHeap) : Pt := (lenP false x0).bind fun v0 => (lenP false x1).bind fun v1 => (binP .neq v0 v1).bind fun v2 => KL (fun w4 h5 => (lenP false x0).bind fun v6 => KL (fun w8 h9 => finP [.keep] h h9 [(.bool true : PV)]) fun j7 => loopP (s132_L0 Γ n x0 x1 h h5 v6 j7) n [(.int .i64 0 : PV)] h5) fun j3 => ifP v2 ( finP [.keep] h h [(.bool false : PV)]) ( j3 [] h)
theorem s132_eq (Γ : PCallee) (n : Nat) (x0 : PV) (x1 : PV) (h : PHeap) : pfunK Γ n A132 [x0, x1] h = s132 Γ n x0 x1 h := by kernel_rfl
open Go.Vm.G in
def A133 : PFun := ⟨2, 59, (S (R <| o 2 (.box 55 (t 0)) <| o 3 (.box 55 (t 1)) <| o 4 (.move (.const (.bool false))) <| z) <|
  (S (R <| f 5 1 2 <| l 6 5 <| f 7 1 3 <| l 8 7 <| o 9 (.call 161 [(t 6), (t 8)]) <| m 10 9 <| q 16 10 true (g 11 5) (f 11 0 2 <| l 12 11 <| f 13 0 3 <| l 14 13 <| o 15 (.eqBool false (t 12) (t 14)) <| z) (t 15) <|
  m 17 16 <| q 23 17 true (g 18 5) (f 18 2 2 <| l 19 18 <| f 20 2 3 <| l 21 20 <| o 22 (.eqBool false (t 19) (t 21)) <| z) (t 22) <|
  m 24 23 <| q 30 24 true (g 25 5) (f 25 3 2 <| l 26 25 <| f 27 3 3 <| l 28 27 <| b 29 .eql (t 26) (t 28) <| z) (t 29) <|
  m 31 30 <| q 37 31 true (g 32 5) (f 32 4 2 <| l 33 32 <| f 34 4 3 <| l 35 34 <| b 36 .eql (t 33) (t 35) <| z) (t 36) <|
  m 38 37 <| q 44 38 true (g 39 5) (f 39 5 2 <| l 40 39 <| f 41 5 3 <| l 42 41 <| o 43 (.eqBool false (t 40) (t 42)) <| z) (t 43) <|
  m 45 44 <| q 51 45 true (g 46 5) (f 46 6 2 <| l 47 46 <| f 48 6 3 <| l 49 48 <| b 50 .eql (t 47) (t 49) <| z) (t 50) <|
  m 52 51 <| q 58 52 true (g 53 5) (f 53 7 2 <| l 54 53 <| f 55 7 3 <| l 56 55 <| b 57 .eql (t 54) (t 56) <| z) (t 57) <|
  m 4 58 <| z) <|
  .ret)), [.tmp 4], [.keep]⟩
theorem ok133 : ∃ fn c, FunOk Tryz.prog 133 fn c A133.erase := ⟨Tryz.f133, _, ⟨Tryz.func133, rfl, by kernel_rfl, by kernel_rfl, by kernel_rfl, of_decide_eq_true (by kernel_rfl), by kernel_rfl⟩⟩
noncomputable def s133 (Γ : PCallee) (n : Nat) (x0 : PV) (x1 : PV) (h : PHeap) : Pt := forkP (.ptr h.length 0) (h ++ [.box (cellsP x0) 55 .rw]) fun v0 h1 => forkP (.ptr h1.length 0) (h1 ++ [.box (cellsP x1) 55 .rw]) fun v2 h3 => (fieldAddrP 1 v0).bind fun v4 => (loadP false 1 v4 h3).bind fun v5 => (fieldAddrP 1 v2).bind fun v6 => (loadP false 1 v6 h3).bind fun v7 => (Γ 161 [v5, v7] h3).bind fun p8 => K1 (fun v10 h11 => K1 (fun v13 h14 => K1 (fun v16 h17 => K1 (fun v19 h20 => K1 (fun v22 h23 => K1 (fun v25 h26 => K1 (fun v28 h29 => finP [.keep] h h29 [v28]) fun j27 => scP v25 true ( (fieldAddrP 7 v0).bind fun v30 => (loadP false 1 v30 h26).bind fun v31 => (fieldAddrP 7 v2).bind fun v32 => (loadP false 1 v32 h26).bind fun v33 => (binP .eql v31 v33).bind fun v34 => j27 v34 h26) (j27 (.bool false) h26)) fun j24 => scP v22 true ( (fieldAddrP 6 v0).bind fun v35 => (loadP false 1 v35 h23).bind fun v36 => (fieldAddrP 6 v2).bind fun v37 => (loadP false 1 v37 h23).bind fun v38 => (binP .eql v36 v38).bind fun v39 => j24 v39 h23) (j24 (.bool false) h23)) fun j21 => scP v19 true ( (fieldAddrP 5 v0).bind fun v40 => (loadP false 1 v40 h20).bind fun v41 => (fieldAddrP 5 v2).bind fun v42 => (loadP false 1 v42 h20).bind fun v43 => (eqBoolP false v41 v43).bind fun v44 => j21 v44 h20) (j21 (.bool false) h20)) fun j18 => scP v16 true ( (fieldAddrP 4 v0).bind fun v45 => (loadP false 1 v45 h17).bind fun v46 => (fieldAddrP 4 v2).bind fun v47 => (loadP false 1 v47 h17).bind fun v48 => (binP .eql v46 v48).bind fun v49 => j18 v49 h17) (j18 (.bool false) h17)) fun j15 => scP v13 true ( (fieldAddrP 3 v0).bind fun v50 => (loadP false 1 v50 h14).bind fun v51 => (fieldAddrP 3 v2).bind fun v52 => (loadP false 1 v52 h14).bind fun v53 => (binP .eql v51 v53).bind fun v54 => j15 v54 h14) (j15 (.bool false) h14)) fun j12 => scP v10 true ( (fieldAddrP 2 v0).bind fun v55 => (loadP false 1 v55 h11).bind fun v56 => (fieldAddrP 2 v2).bind fun v57 => (loadP false 1 v57 h11).bind fun v58 => (eqBoolP false v56 v58).bind fun v59 => j12 v59 h11) (j12 (.bool false) h11)) fun j9 => scP p8.1 true ( (fieldAddrP 0 v0).bind fun v60 => (loadP false 1 v60 p8.2).bind fun v61 => (fieldAddrP 0 v2).bind fun v62 => (loadP false 1 v62 p8.2).bind fun v63 => (eqBoolP false v61 v63).bind fun v64 => j9 v64 p8.2) (j9 (.bool false) p8.2)
theorem s133_eq (Γ : PCallee) (n : Nat) (x0 : PV) (x1 : PV) (h : PHeap) : pfunK Γ n A133 [x0, x1] h = s133 Γ n x0 x1 h := by kernel_rfl
open Go.Vm.G in
def A143 : PFun := ⟨1, 5, (S (R <| o 2 (.move (.const (.slice none 0 0))) <| z) <|
  (S (R <| m 3 0 <| o 4 (.call 167 [(.const (.slice none 0 0)), (t 3)]) <| m 2 4 <| z) <|
  .ret)), [.tmp 2], [.raw]⟩
theorem ok143 : ∃ fn c, FunOk Tryz.prog 143 fn c A143.erase := ⟨Tryz.f143, _, ⟨Tryz.func143, rfl, by kernel_rfl, by kernel_rfl, by kernel_rfl, of_decide_eq_true (by kernel_rfl), by kernel_rfl⟩⟩
noncomputable def s143 (Γ : PCallee) (n : Nat) (x0 : PV) (h : PHeap) : Pt := (Γ 167 [(.nilS : PV), x0] h).bind fun p0 => finP [.raw] h p0.2 [p0.1]
theorem s143_eq (Γ : PCallee) (n : Nat) (x0 : PV) (h : PHeap) : pfunK Γ n A143 [x0] h = s143 Γ n x0 h := by kernel_rfl
open Go.Vm.G in
def A146 : PFun := ⟨3, 15, (S (R <| o 6 (.move (.const (.bool false))) <| z) <|
  (S (R <| m 7 0 <| m 8 1 <| b 9 .geq (t 7) (t 8) <| m 10 9 <| q 14 10 true [11, 12, 13] (m 11 0 <| m 12 2 <| b 13 .leq (t 11) (t 12) <| z) (t 13) <|
  m 6 14 <| z) <|
  .ret)), [.tmp 6], [.keep]⟩
theorem ok146 : ∃ fn c, FunOk Tryz.prog 146 fn c A146.erase := ⟨Tryz.f146, _, ⟨Tryz.func146, rfl, by kernel_rfl, by kernel_rfl, by kernel_rfl, of_decide_eq_true (by kernel_rfl), by kernel_rfl⟩⟩
noncomputable def s146 (Γ : PCallee) (n : Nat) (x0 : PV) (x1 : PV) (x2 : PV) (h : PHeap) : Pt := (binP .geq x0 x1).bind fun v0 => K1 (fun v2 h3 => finP [.keep] h h3 [v2]) fun j1 => scP v0 true ( (binP .leq x0 x2).bind fun v4 => j1 v4 h) (j1 (.bool false) h)
theorem s146_eq (Γ : PCallee) (n : Nat) (x0 : PV) (x1 : PV) (x2 : PV) (h : PHeap) : pfunK Γ n A146 [x0, x1, x2] h = s146 Γ n x0 x1 x2 h := by kernel_rfl
open Go.Vm.G in
def A147 : PFun := ⟨1, 6, (S (R <| o 1 (.box 41 (t 0)) <| o 2 (.move (.const (.bool false))) <| z) <|
  (S (R <| o 3 (.load true 6 (t 1)) <| o 4 (.call 148 [(t 3)]) <| o 5 (.un .not (t 4)) <| m 2 5 <| z) <|
  .ret)), [.tmp 2], [.keep]⟩
theorem ok147 : ∃ fn c, FunOk Tryz.prog 147 fn c A147.erase := ⟨Tryz.f147, _, ⟨Tryz.func147, rfl, by kernel_rfl, by kernel_rfl, by kernel_rfl, of_decide_eq_true (by kernel_rfl), by kernel_rfl⟩⟩
noncomputable def s147 (Γ : PCallee) (n : Nat) (x0 : PV) (h : PHeap) : Pt := forkP (.ptr h.length 0) (h ++ [.box (cellsP x0) 41 .rw]) fun v0 h1 => (loadP true 6 v0 h1).bind fun v2 => (Γ 148 [v2] h1).bind fun p3 => (unP .not p3.1).bind fun v4 => finP [.keep] h p3.2 [v4]
theorem s147_eq (Γ : PCallee) (n : Nat) (x0 : PV) (h : PHeap) : pfunK Γ n A147 [x0] h = s147 Γ n x0 h := by kernel_rfl
open Go.Vm.G in
def A148 : PFun := ⟨1, 72, (S (R <| o 1 (.box 41 (t 0)) <| o 2 (.move (.const (.bool false))) <| z) <|
  (S (R <| f 6 0 1 <| l 7 6 <| o 8 (.call 104 [(t 7), (i 0), (i 120)]) <| m 9 8 <| q 13 9 false [10, 11, 12] (f 10 0 1 <| l 11 10 <| b 12 .eql (t 11) (i 253) <| z) (t 12) <|
  m 14 13 <| q 18 14 false [15, 16, 17] (f 15 0 1 <| l 16 15 <| b 17 .eql (t 16) (i 254) <| z) (t 17) <|
  m 19 18 <| q 23 19 false [20, 21, 22] (f 20 0 1 <| l 21 20 <| b 22 .eql (t 21) (i 255) <| z) (t 22) <|
  m 3 23 <| z) <|
  (S (R <| f 24 2 1 <| l 25 24 <| o 26 (.call 104 [(t 25), (i 0), (i 12)]) <| m 27 26 <| q 31 27 true [28, 29, 30] (f 28 3 1 <| l 29 28 <| o 30 (.call 104 [(t 29), (i 0), (i 99)]) <| z) (t 30) <|
  m 32 31 <| q 41 32 true (g 33 4 ++ [40, 37, 38, 39]) (f 33 2 1 <| l 34 33 <| b 35 .gtr (t 34) (i 0) <| m 36 35 <| q 40 36 false [37, 38, 39] (f 37 3 1 <| l 38 37 <| b 39 .eql (t 38) (i 0) <| z) (t 39) <|
  z) (t 40) <|
  m 4 41 <| z) <|
  (S (R <| f 42 4 1 <| l 43 42 <| o 44 (.call 104 [(t 43), (i 0), (i 36)]) <| m 45 44 <| q 49 45 true [46, 47, 48] (f 46 5 1 <| l 47 46 <| o 48 (.call 104 [(t 47), (i 0), (i 255)]) <| z) (t 48) <|
  m 50 49 <| q 59 50 true (g 51 4 ++ [58, 55, 56, 57]) (f 51 4 1 <| l 52 51 <| b 53 .gtr (t 52) (i 0) <| m 54 53 <| q 58 54 false [55, 56, 57] (f 55 5 1 <| l 56 55 <| b 57 .eql (t 56) (i 0) <| z) (t 57) <|
  z) (t 58) <|
  m 5 59 <| z) <|
  (S (R <| m 60 3 <| m 61 60 <| q 65 61 true [62, 63, 64] (f 62 1 1 <| l 63 62 <| o 64 (.call 104 [(t 63), (i 0), (i 31)]) <| z) (t 64) <|
  m 66 65 <| q 68 66 true [67] (m 67 4 <| z) (t 67) <|
  m 69 68 <| q 71 69 true [70] (m 70 5 <| z) (t 70) <|
  m 2 71 <| z) <|
  .ret))))), [.tmp 2], [.keep]⟩
theorem ok148 : ∃ fn c, FunOk Tryz.prog 148 fn c A148.erase := ⟨Tryz.f148, _, ⟨Tryz.func148, rfl, by kernel_rfl, by kernel_rfl, by kernel_rfl, of_decide_eq_true (by kernel_rfl), by kernel_rfl⟩⟩
noncomputable def s148 (Γ : PCallee) (n : Nat) (x0 : PV) (h : PHeap) : Pt := forkP (.ptr h.length 0) (h ++ [.box (cellsP x0) 41 .rw]) fun v0 h1 => (fieldAddrP 0 v0).bind fun v2 => (loadP false 1 v2 h1).bind fun v3 => (Γ 104 [v3, (.int .i64 0 : PV), (.int .i64 120 : PV)] h1).bind fun p4 => K1 (fun v6 h7 => K1 (fun v9 h10 => K1 (fun v12 h13 => (fieldAddrP 2 v0).bind fun v14 => (loadP false 1 v14 h13).bind fun v15 => (Γ 104 [v15, (.int .i64 0 : PV), (.int .i64 12 : PV)] h13).bind fun p16 => K1 (fun v18 h19 => K1 (fun v21 h22 => (fieldAddrP 4 v0).bind fun v23 => (loadP false 1 v23 h22).bind fun v24 => (Γ 104 [v24, (.int .i64 0 : PV), (.int .i64 36 : PV)] h22).bind fun p25 => K1 (fun v27 h28 => K1 (fun v30 h31 => K1 (fun v33 h34 => K1 (fun v36 h37 => K1 (fun v39 h40 => finP [.keep] h h40 [v39]) fun j38 => scP v36 true ( j38 v30 h37) (j38 (.bool false) h37)) fun j35 => scP v33 true ( j35 v21 h34) (j35 (.bool false) h34)) fun j32 => scP v12 true ( (fieldAddrP 1 v0).bind fun v41 => (loadP false 1 v41 h31).bind fun v42 => (Γ 104 [v42, (.int .i64 0 : PV), (.int .i64 31 : PV)] h31).bind fun p43 => j32 p43.1 p43.2) (j32 (.bool false) h31)) fun j29 => scP v27 true ( (fieldAddrP 4 v0).bind fun v44 => (loadP false 1 v44 h28).bind fun v45 => (binP .gtr v45 (.int .i64 0 : PV)).bind fun v46 => K1 (fun v48 h49 => j29 v48 h49) fun j47 => scP v46 false ( (fieldAddrP 5 v0).bind fun v50 => (loadP false 1 v50 h28).bind fun v51 => (binP .eql v51 (.int .i64 0 : PV)).bind fun v52 => j47 v52 h28) (j47 (.bool true) h28)) (j29 (.bool false) h28)) fun j26 => scP p25.1 true ( (fieldAddrP 5 v0).bind fun v53 => (loadP false 1 v53 p25.2).bind fun v54 => (Γ 104 [v54, (.int .i64 0 : PV), (.int .i64 255 : PV)] p25.2).bind fun p55 => j26 p55.1 p55.2) (j26 (.bool false) p25.2)) fun j20 => scP v18 true ( (fieldAddrP 2 v0).bind fun v56 => (loadP false 1 v56 h19).bind fun v57 => (binP .gtr v57 (.int .i64 0 : PV)).bind fun v58 => K1 (fun v60 h61 => j20 v60 h61) fun j59 => scP v58 false ( (fieldAddrP 3 v0).bind fun v62 => (loadP false 1 v62 h19).bind fun v63 => (binP .eql v63 (.int .i64 0 : PV)).bind fun v64 => j59 v64 h19) (j59 (.bool true) h19)) (j20 (.bool false) h19)) fun j17 => scP p16.1 true ( (fieldAddrP 3 v0).bind fun v65 => (loadP false 1 v65 p16.2).bind fun v66 => (Γ 104 [v66, (.int .i64 0 : PV), (.int .i64 99 : PV)] p16.2).bind fun p67 => j17 p67.1 p67.2) (j17 (.bool false) p16.2)) fun j11 => scP v9 false ( (fieldAddrP 0 v0).bind fun v68 => (loadP false 1 v68 h10).bind fun v69 => (binP .eql v69 (.int .i64 255 : PV)).bind fun v70 => j11 v70 h10) (j11 (.bool true) h10)) fun j8 => scP v6 false ( (fieldAddrP 0 v0).bind fun v71 => (loadP false 1 v71 h7).bind fun v72 => (binP .eql v72 (.int .i64 254 : PV)).bind fun v73 => j8 v73 h7) (j8 (.bool true) h7)) fun j5 => scP p4.1 false ( (fieldAddrP 0 v0).bind fun v74 => (loadP false 1 v74 p4.2).bind fun v75 => (binP .eql v75 (.int .i64 253 : PV)).bind fun v76 => j5 v76 p4.2) (j5 (.bool true) p4.2)
theorem s148_eq (Γ : PCallee) (n : Nat) (x0 : PV) (h : PHeap) : pfunK Γ n A148 [x0] h = s148 Γ n x0 h := by kernel_rfl
open Go.Vm.G in
def A149 : PFun := ⟨2, 19, (S (R <| o 4 (.move (i 0)) <| z) <|
  (S (S (R <| m 6 0 <| o 7 (.len false (t 6)) <| o 8 (.move (i 0)) <| z) <|
  (.block 0 [] ([4, 5] ++ g 8 11)
  (.loop [8] ([4, 5] ++ g 9 10)
  (S (R <| b 9 .lss (t 8) (t 7) <| z) <|
  (S (.cond (t 9) [] []
  .skip
  (.exit 0)) <|
  (S (.block 1 [] ([4, 5] ++ g 10 8)
  (S (R <| m 10 8 <| m 5 10 <| z) <|
  (S (R <| m 11 1 <| m 12 0 <| m 13 5 <| o 14 (.indexAddr 6 (t 12) (t 13)) <| o 15 (.load true 6 (t 14)) <| o 16 (.callV (t 11) [(t 15)]) <| z) <|
  (.cond (t 16) [] [4, 17]
  (S (R <| m 17 5 <| m 4 17 <| z) <|
  .ret)
  .skip)))) <|
  (R <| b 18 .add (t 8) (i 1) <| m 8 18 <| z))))))) <|
  (S (R <| o 4 (.move (i (-1))) <| z) <|
  .ret))), [.tmp 4], [.keep]⟩
theorem ok149 : ∃ fn c, FunOk Tryz.prog 149 fn c A149.erase := ⟨Tryz.f149, _, ⟨Tryz.func149, rfl, by kernel_rfl, by kernel_rfl, by kernel_rfl, of_decide_eq_true (by kernel_rfl), by kernel_rfl⟩⟩
noncomputable def s149_L0 (Γ : PCallee) (n : Nat) (x0 : PV) (x1 : PV) (h : PHeap) (v0 : PV) (j1 : Kt) : (Kt) → Kt := fun c4 w5 h6 => (binP .lss (nthP w5 0) v0).bind fun v7 => KL (fun w9 h10 => KL (fun w12 h13 => (binP .add (nthP w5 0) (.int .i64 1 : PV)).bind fun v14 => c4 [v14] (trim h [v14] h13)) fun j11 => (indexAddrP 6 x0 (nthP w5 0)).bind fun v15 => (loadP true 6 v15 h10).bind fun v16 => (callVP Γ x1 [v16] h10).bind fun p17 => KL (fun w19 h20 => j11 [] h20) fun j18 => ifP p17.1 ( finP [.keep] h p17.2 [(nthP w5 0)]) ( j18 [] p17.2)) fun j8 => ifP v7 ( j8 [] h6) ( j1 [] h6)
noncomputable def s149 (Γ : PCallee) (n : Nat) (x0 : PV) (x1 : PV) (h : PHeap) : Pt := (lenP false x0).bind fun v0 => KL (fun w2 h3 => finP [.keep] h h3 [(.int .i64 (-1) : PV)]) fun j1 => loopP (s149_L0 Γ n x0 x1 h v0 j1) n [(.int .i64 0 : PV)] h
theorem s149_eq (Γ : PCallee) (n : Nat) (x0 : PV) (x1 : PV) (h : PHeap) : pfunK Γ n A149 [x0, x1] h = s149 Γ n x0 x1 h := by kernel_rfl
open Go.Vm.G in
def A150 : PFun := ⟨2, 46, (S (R <| o 4 (.move (.const (.bool false))) <| z) <|
  (S (R <| o 6 (.call 102 []) <| m 7 0 <| o 8 (.indexArr 7 true 29 (t 6) (t 7)) <| o 5 (.new 83 V29) <| n (.store 29 (t 5) (t 8)) <| z) <|
  (S (S (R <| m 9 1 <| z) <|
  (.block 0 [] ([4] ++ g 10 26)
  (S (R <| b 11 .eql (t 9) (i 0) <| m 10 11 <| z) <|
  (.cond (t 10) [] ([4] ++ g 12 24)
  (S (R <| o 4 (.move (.const (.bool true))) <| z) <|
  .ret)
  (S (R <| b 13 .eql (t 9) (i 255) <| m 12 13 <| z) <|
  (.cond (t 12) [] ([4] ++ g 14 22)
  (S (R <| m 14 0 <| b 15 .eql (t 14) (i 3) <| m 16 15 <| q 19 16 false [17, 18] (m 17 0 <| b 18 .eql (t 17) (i 4) <| z) (t 18) <|
  m 20 19 <| q 23 20 false [21, 22] (m 21 0 <| b 22 .eql (t 21) (i 6) <| z) (t 22) <|
  m 4 23 <| z) <|
  .ret)
  (S (R <| b 25 .eql (t 9) (i 254) <| m 24 25 <| z) <|
  (.cond (t 24) [] ([4] ++ g 26 10)
  (S (R <| m 26 0 <| b 27 .eql (t 26) (i 2) <| m 28 27 <| q 31 28 false [29, 30] (m 29 0 <| b 30 .eql (t 29) (i 4) <| z) (t 30) <|
  m 4 31 <| z) <|
  .ret)
  (S (R <| b 33 .eql (t 9) (i 253) <| m 32 33 <| z) <|
  (.cond (t 32) [] [4, 34, 35]
  (S (R <| m 34 0 <| b 35 .eql (t 34) (i 4) <| m 4 35 <| z) <|
  .ret)
  .skip)))))))))) <|
  (S (R <| m 36 1 <| f 37 4 5 <| l 38 37 <| b 39 .geq (t 36) (t 38) <| m 40 39 <| q 45 40 true (g 41 4) (m 41 1 <| f 42 5 5 <| l 43 42 <| b 44 .leq (t 41) (t 43) <| z) (t 44) <|
  m 4 45 <| z) <|
  .ret)))), [.tmp 4], [.keep]⟩
theorem ok150 : ∃ fn c, FunOk Tryz.prog 150 fn c A150.erase := ⟨Tryz.f150, _, ⟨Tryz.func150, rfl, by kernel_rfl, by kernel_rfl, by kernel_rfl, of_decide_eq_true (by kernel_rfl), by kernel_rfl⟩⟩
noncomputable def s150 (Γ : PCallee) (n : Nat) (x0 : PV) (x1 : PV) (h : PHeap) : Pt := (Γ 102 [] h).bind fun p0 => (indexArrP 7 true 29 p0.1 x0).bind fun v1 => forkP (.ptr p0.2.length 0) (p0.2 ++ [.box Z29 83 .rw]) fun v2 h3 => (storeP 29 v2 v1 h3).bind fun h4 => KL (fun w6 h7 => (fieldAddrP 4 v2).bind fun v8 => (loadP false 1 v8 h7).bind fun v9 => (binP .geq x1 v9).bind fun v10 => K1 (fun v12 h13 => finP [.keep] h h13 [v12]) fun j11 => scP v10 true ( (fieldAddrP 5 v2).bind fun v14 => (loadP false 1 v14 h7).bind fun v15 => (binP .leq x1 v15).bind fun v16 => j11 v16 h7) (j11 (.bool false) h7)) fun j5 => (binP .eql x1 (.int .i64 0 : PV)).bind fun v17 => KL (fun w19 h20 => j5 [] h20) fun j18 => ifP v17 ( finP [.keep] h h4 [(.bool true : PV)]) ( (binP .eql x1 (.int .i64 255 : PV)).bind fun v21 => KL (fun w23 h24 => j18 [] h24) fun j22 => ifP v21 ( (binP .eql x0 (.int .i64 3 : PV)).bind fun v25 => K1 (fun v27 h28 => K1 (fun v30 h31 => finP [.keep] h h31 [v30]) fun j29 => scP v27 false ( (binP .eql x0 (.int .i64 6 : PV)).bind fun v32 => j29 v32 h28) (j29 (.bool true) h28)) fun j26 => scP v25 false ( (binP .eql x0 (.int .i64 4 : PV)).bind fun v33 => j26 v33 h4) (j26 (.bool true) h4)) ( (binP .eql x1 (.int .i64 254 : PV)).bind fun v34 => KL (fun w36 h37 => j22 [] h37) fun j35 => ifP v34 ( (binP .eql x0 (.int .i64 2 : PV)).bind fun v38 => K1 (fun v40 h41 => finP [.keep] h h41 [v40]) fun j39 => scP v38 false ( (binP .eql x0 (.int .i64 4 : PV)).bind fun v42 => j39 v42 h4) (j39 (.bool true) h4)) ( (binP .eql x1 (.int .i64 253 : PV)).bind fun v43 => KL (fun w45 h46 => j35 [] h46) fun j44 => ifP v43 ( (binP .eql x0 (.int .i64 4 : PV)).bind fun v47 => finP [.keep] h h4 [v47]) ( j44 [] h4))))
theorem s150_eq (Γ : PCallee) (n : Nat) (x0 : PV) (x1 : PV) (h : PHeap) : pfunK Γ n A150 [x0, x1] h = s150 Γ n x0 x1 h := by kernel_rfl
open Go.Vm.G in
def A151 : PFun := ⟨1, 7, (S (R <| o 2 (.move (i 0)) <| z) <|
  (S (R <| o 3 .mkMap <| n (.mapSet .int (t 3) (i 2) (i 1)) <| n (.mapSet .int (t 3) (i 3) (i 8)) <| n (.mapSet .int (t 3) (i 4) (i 10)) <| m 4 3 <| m 5 0 <| o 6 (.lookup .int (.int .i64 0) false (t 4) (t 5)) <| m 2 6 <| z) <|
  .ret)), [.tmp 2], [.keep]⟩
theorem ok151 : ∃ fn c, FunOk Tryz.prog 151 fn c A151.erase := ⟨Tryz.f151, _, ⟨Tryz.func151, rfl, by kernel_rfl, by kernel_rfl, by kernel_rfl, of_decide_eq_true (by kernel_rfl), by kernel_rfl⟩⟩
noncomputable def s151 (Γ : PCallee) (n : Nat) (x0 : PV) (h : PHeap) : Pt := forkP (.map h.length) (h ++ [.map [] .rw]) fun v0 h1 => (setMapP .int v0 (.int .i64 2 : PV) (.int .i64 1 : PV) h1).bind fun h2 => (setMapP .int v0 (.int .i64 3 : PV) (.int .i64 8 : PV) h2).bind fun h3 => (setMapP .int v0 (.int .i64 4 : PV) (.int .i64 10 : PV) h3).bind fun h4 => (lookupP .int (.int .i64 0) false v0 x0 h4).bind fun v5 => finP [.keep] h h4 [v5]
theorem s151_eq (Γ : PCallee) (n : Nat) (x0 : PV) (h : PHeap) : pfunK Γ n A151 [x0] h = s151 Γ n x0 h := by kernel_rfl
open Go.Vm.G in
def A152 : PFun := ⟨2, 8, (S (R <| o 4 (.move (i 0)) <| z) <|
  (S (R <| m 5 0 <| m 6 1 <| o 7 (.call 171 [(t 5), (t 6)]) <| m 4 7 <| z) <|
  .ret)), [.tmp 4], [.keep]⟩
theorem ok152 : ∃ fn c, FunOk Tryz.prog 152 fn c A152.erase := ⟨Tryz.f152, _, ⟨Tryz.func152, rfl, by kernel_rfl, by kernel_rfl, by kernel_rfl, of_decide_eq_true (by kernel_rfl), by kernel_rfl⟩⟩
noncomputable def s152 (Γ : PCallee) (n : Nat) (x0 : PV) (x1 : PV) (h : PHeap) : Pt := (Γ 171 [x0, x1] h).bind fun p0 => finP [.keep] h p0.2 [p0.1]
theorem s152_eq (Γ : PCallee) (n : Nat) (x0 : PV) (x1 : PV) (h : PHeap) : pfunK Γ n A152 [x0, x1] h = s152 Γ n x0 x1 h := by kernel_rfl
open Go.Vm.G in
def A153 : PFun := ⟨1, 9, (S (R <| o 2 (.move (.const (.string ⟨#[]⟩))) <| z) <|
  (S (S (R <| m 3 0 <| o 4 (.call 101 [(t 3)]) <| o 5 (.un .not (t 4)) <| z) <|
  (.cond (t 5) [] [2]
  (S (R <| o 2 (.move (.const (.string ⟨#[]⟩))) <| z) <|
  .ret)
  .skip)) <|
  (S (R <| o 6 (.build [(.string ⟨#[]⟩), (.string ⟨#[]⟩), (.string ⟨#[]⟩), (.string ⟨#[]⟩), (.string ⟨#[]⟩), (.string ⟨#[]⟩), (.string ⟨#[]⟩)] [(1, 1, (.const (.string ⟨#[48, 49, 50, 51, 52, 53, 54, 55, 56, 57, 65, 66, 67, 68, 69, 70]⟩))), (2, 1, (.const (.string ⟨#[65, 66, 67, 68, 69, 70, 71, 72, 73, 74, 75, 76, 79, 81, 82, 83, 84, 85, 86, 88]⟩))), (3, 1, (.const (.string ⟨#[48, 49, 50, 51, 52, 53, 54, 55, 56, 57, 65, 66, 67, 68, 69, 70, 71, 72, 75, 76, 80, 82, 84, 88]⟩))), (4, 1, (.const (.string ⟨#[65, 66, 67, 68, 69, 70, 71, 72, 73, 74, 75, 76, 77, 78, 79, 80, 81, 82, 83, 84, 85, 86, 87, 88, 89, 90]⟩))), (5, 1, (.const (.string ⟨#[48, 49, 50, 51, 52, 53]⟩))), (6, 1, (.const (.string ⟨#[48, 49, 50, 51, 52, 65, 66, 67, 68, 69, 70, 78, 83]⟩)))]) <| m 7 0 <| o 8 (.indexArr 7 false 1 (t 6) (t 7)) <| m 2 8 <| z) <|
  .ret))), [.tmp 2], [.keep]⟩
theorem ok153 : ∃ fn c, FunOk Tryz.prog 153 fn c A153.erase := ⟨Tryz.f153, _, ⟨Tryz.func153, rfl, by kernel_rfl, by kernel_rfl, by kernel_rfl, of_decide_eq_true (by kernel_rfl), by kernel_rfl⟩⟩
noncomputable def s153 (Γ : PCallee) (n : Nat) (x0 : PV) (h : PHeap) : Pt := (Γ 101 [x0] h).bind fun p0 => (unP .not p0.1).bind fun v1 => KL (fun w3 h4 => (fillP [.str ⟨#[]⟩, .str ⟨#[]⟩, .str ⟨#[]⟩, .str ⟨#[]⟩, .str ⟨#[]⟩, .str ⟨#[]⟩, .str ⟨#[]⟩] [(1, 1, (.str ⟨#[48, 49, 50, 51, 52, 53, 54, 55, 56, 57, 65, 66, 67, 68, 69, 70]⟩ : PV)), (2, 1, (.str ⟨#[65, 66, 67, 68, 69, 70, 71, 72, 73, 74, 75, 76, 79, 81, 82, 83, 84, 85, 86, 88]⟩ : PV)), (3, 1, (.str ⟨#[48, 49, 50, 51, 52, 53, 54, 55, 56, 57, 65, 66, 67, 68, 69, 70, 71, 72, 75, 76, 80, 82, 84, 88]⟩ : PV)), (4, 1, (.str ⟨#[65, 66, 67, 68, 69, 70, 71, 72, 73, 74, 75, 76, 77, 78, 79, 80, 81, 82, 83, 84, 85, 86, 87, 88, 89, 90]⟩ : PV)), (5, 1, (.str ⟨#[48, 49, 50, 51, 52, 53]⟩ : PV)), (6, 1, (.str ⟨#[48, 49, 50, 51, 52, 65, 66, 67, 68, 69, 70, 78, 83]⟩ : PV))]).bind fun l5 => (indexArrP 7 false 1 (PV.agg l5) x0).bind fun v6 => finP [.keep] h h4 [v6]) fun j2 => ifP v1 ( finP [.keep] h p0.2 [(.str ⟨#[]⟩ : PV)]) ( j2 [] p0.2)
theorem s153_eq (Γ : PCallee) (n : Nat) (x0 : PV) (h : PHeap) : pfunK Γ n A153 [x0] h = s153 Γ n x0 h := by kernel_rfl
open Go.Vm.G in
def A154 : PFun := ⟨1, 6, (S (R <| o 2 (.move (.const (.int .u8 0))) <| z) <|
  (S (R <| m 3 0 <| b 4 .sub (t 3) (i 1) <| o 5 (.indexStr (.const (.string ⟨#[48, 49, 50, 51, 52, 53, 54, 55, 56, 57, 65, 66, 67, 68, 69, 70, 71, 72, 73, 74, 75, 76, 77, 78, 79, 80, 81, 82, 83, 84, 85, 86, 87, 88, 89, 90]⟩)) (t 4)) <| m 2 5 <| z) <|
  .ret)), [.tmp 2], [.keep]⟩
theorem ok154 : ∃ fn c, FunOk Tryz.prog 154 fn c A154.erase := ⟨Tryz.f154, _, ⟨Tryz.func154, rfl, by kernel_rfl, by kernel_rfl, by kernel_rfl, of_decide_eq_true (by kernel_rfl), by kernel_rfl⟩⟩
noncomputable def s154 (Γ : PCallee) (n : Nat) (x0 : PV) (h : PHeap) : Pt := (binP .sub x0 (.int .i64 1 : PV)).bind fun v0 => (indexStrP (.str ⟨#[48, 49, 50, 51, 52, 53, 54, 55, 56, 57, 65, 66, 67, 68, 69, 70, 71, 72, 73, 74, 75, 76, 77, 78, 79, 80, 81, 82, 83, 84, 85, 86, 87, 88, 89, 90]⟩ : PV) v0).bind fun v1 => finP [.keep] h h [v1]
theorem s154_eq (Γ : PCallee) (n : Nat) (x0 : PV) (h : PHeap) : pfunK Γ n A154 [x0] h = s154 Γ n x0 h := by kernel_rfl
open Go.Vm.G in
def A155 : PFun := ⟨1, 11, (S (R <| o 2 (.move (i 0)) <| o 3 (.move (i 0)) <| z) <|
  (S (D <| m 4 0 <| b 5 .sub (t 4) (i 1) <| b 6 .shl (i (-1)) (t 5) <| m 7 0 <| b 8 .sub (t 7) (i 1) <| b 9 .shl (i 1) (t 8) <| b 10 .sub (t 9) (i 1) <| m 2 6 <| m 3 10 <| z) <|
  .ret)), [.tmp 2, .tmp 3], [.keep, .keep]⟩
theorem ok155 : ∃ fn c, FunOk Tryz.prog 155 fn c A155.erase := ⟨Tryz.f155, _, ⟨Tryz.func155, rfl, by kernel_rfl, by kernel_rfl, by kernel_rfl, of_decide_eq_true (by kernel_rfl), by kernel_rfl⟩⟩
noncomputable def s155 (Γ : PCallee) (n : Nat) (x0 : PV) (h : PHeap) : Pt := (binP .sub x0 (.int .i64 1 : PV)).bind fun v0 => (binP .shl (.int .i64 (-1) : PV) v0).bind fun v1 => (binP .sub x0 (.int .i64 1 : PV)).bind fun v2 => (binP .shl (.int .i64 1 : PV) v2).bind fun v3 => (binP .sub v3 (.int .i64 1 : PV)).bind fun v4 => finP [.keep, .keep] h h [v1, v4]
theorem s155_eq (Γ : PCallee) (n : Nat) (x0 : PV) (h : PHeap) : pfunK Γ n A155 [x0] h = s155 Γ n x0 h := by kernel_rfl
open Go.Vm.G in
def A156 : PFun := ⟨4, 33, (S (R <| o 8 (.move (.const (.bool false))) <| z) <|
  (S (S (R <| m 9 0 <| z) <|
  (.block 0 [] ([8] ++ g 10 23)
  (S (R <| b 11 .eql (t 9) (i 0) <| m 10 11 <| z) <|
  (.cond (t 10) [] ([8] ++ g 12 21)
  (S (R <| m 12 1 <| b 13 .eql (t 12) (i 0) <| m 14 13 <| q 17 14 true [15, 16] (m 15 2 <| b 16 .eql (t 15) (i 0) <| z) (t 16) <|
  m 8 17 <| z) <|
  .ret)
  (S (S (R <| b 19 .eql (t 9) (i 1) <| m 18 19 <| z) <|
  (.cond (t 18) [18] [20]
  .skip
  (R <| b 20 .eql (t 9) (i 2) <| m 18 20 <| z))) <|
  (.cond (t 18) [] ([8] ++ g 21 12)
  (S (R <| m 21 1 <| b 22 .leq (i 0) (t 21) <| m 23 22 <| q 27 23 true [24, 25, 26] (m 24 1 <| m 25 2 <| b 26 .lss (t 24) (t 25) <| z) (t 26) <|
  m 28 27 <| q 32 28 true [29, 30, 31] (m 29 2 <| m 30 3 <| b 31 .leq (t 29) (t 30) <| z) (t 31) <|
  m 8 32 <| z) <|
  .ret)
  .skip)))))) <|
  (S (R <| o 8 (.move (.const (.bool false))) <| z) <|
  .ret))), [.tmp 8], [.keep]⟩
theorem ok156 : ∃ fn c, FunOk Tryz.prog 156 fn c A156.erase := ⟨Tryz.f156, _, ⟨Tryz.func156, rfl, by kernel_rfl, by kernel_rfl, by kernel_rfl, of_decide_eq_true (by kernel_rfl), by kernel_rfl⟩⟩
noncomputable def s156 (Γ : PCallee) (n : Nat) (x0 : PV) (x1 : PV) (x2 : PV) (x3 : PV) (h : PHeap) : Pt := KL (fun w1 h2 => finP [.keep] h h2 [(.bool false : PV)]) fun j0 => (binP .eql x0 (.int .i64 0 : PV)).bind fun v3 => KL (fun w5 h6 => j0 [] h6) fun j4 => ifP v3 ( (binP .eql x1 (.int .i64 0 : PV)).bind fun v7 => K1 (fun v9 h10 => finP [.keep] h h10 [v9]) fun j8 => scP v7 true ( (binP .eql x2 (.int .i64 0 : PV)).bind fun v11 => j8 v11 h) (j8 (.bool false) h)) ( (binP .eql x0 (.int .i64 1 : PV)).bind fun v12 => KL (fun w14 h15 => KL (fun w17 h18 => j4 [] h18) fun j16 => ifP (nthP w14 0) ( (binP .leq (.int .i64 0 : PV) x1).bind fun v19 => K1 (fun v21 h22 => K1 (fun v24 h25 => finP [.keep] h h25 [v24]) fun j23 => scP v21 true ( (binP .leq x2 x3).bind fun v26 => j23 v26 h22) (j23 (.bool false) h22)) fun j20 => scP v19 true ( (binP .lss x1 x2).bind fun v27 => j20 v27 h15) (j20 (.bool false) h15)) ( j16 [] h15)) fun j13 => ifP v12 ( j13 [v12] h) ( (binP .eql x0 (.int .i64 2 : PV)).bind fun v28 => j13 [v28] h))
theorem s156_eq (Γ : PCallee) (n : Nat) (x0 : PV) (x1 : PV) (x2 : PV) (x3 : PV) (h : PHeap) : pfunK Γ n A156 [x0, x1, x2, x3] h = s156 Γ n x0 x1 x2 x3 h := by kernel_rfl
open Go.Vm.G in
def A157 : PFun := ⟨1, 23, (S (R <| o 2 (.move (.const (.bool false))) <| z) <|
  (S (S (R <| m 4 0 <| o 5 (.len true (t 4)) <| o 6 (.move (i 0)) <| z) <|
  (.block 0 [] ([2, 3] ++ g 6 14)
  (.loop [6] ([2, 3] ++ g 7 13)
  (S (R <| b 7 .lss (t 6) (t 5) <| z) <|
  (S (.cond (t 7) [] []
  .skip
  (.exit 0)) <|
  (S (.block 1 [] ([2, 3] ++ g 8 11)
  (S (R <| m 8 6 <| m 3 8 <| z) <|
  (S (R <| m 9 0 <| m 10 3 <| o 11 (.indexStr (t 9) (t 10)) <| b 12 .lss (t 11) (.const (.int .u8 32)) <| m 13 12 <| q 18 13 false (g 14 4) (m 14 0 <| m 15 3 <| o 16 (.indexStr (t 14) (t 15)) <| b 17 .gtr (t 16) (.const (.int .u8 126)) <| z) (t 17) <|
  z) <|
  (.cond (t 18) [] [2]
  (S (R <| o 2 (.move (.const (.bool false))) <| z) <|
  .ret)
  .skip)))) <|
  (R <| b 19 .add (t 6) (i 1) <| m 6 19 <| z))))))) <|
  (S (R <| m 20 0 <| o 21 (.len true (t 20)) <| b 22 .leq (t 21) (i 22) <| m 2 22 <| z) <|
  .ret))), [.tmp 2], [.keep]⟩
theorem ok157 : ∃ fn c, FunOk Tryz.prog 157 fn c A157.erase := ⟨Tryz.f157, _, ⟨Tryz.func157, rfl, by kernel_rfl, by kernel_rfl, by kernel_rfl, of_decide_eq_true (by kernel_rfl), by kernel_rfl⟩⟩
noncomputable def s157_L0 (Γ : PCallee) (n : Nat) (x0 : PV) (h : PHeap) (v0 : PV) (j1 : Kt) : (Kt) → Kt := fun c6 w7 h8 => (binP .lss (nthP w7 0) v0).bind fun v9 => KL (fun w11 h12 => KL (fun w14 h15 => (binP .add (nthP w7 0) (.int .i64 1 : PV)).bind fun v16 => c6 [v16] (trim h [v16] h15)) fun j13 => (indexStrP x0 (nthP w7 0)).bind fun v17 => (binP .lss v17 (.int .u8 32 : PV)).bind fun v18 => K1 (fun v20 h21 => KL (fun w23 h24 => j13 [] h24) fun j22 => ifP v20 ( finP [.keep] h h21 [(.bool false : PV)]) ( j22 [] h21)) fun j19 => scP v18 false ( (indexStrP x0 (nthP w7 0)).bind fun v25 => (binP .gtr v25 (.int .u8 126 : PV)).bind fun v26 => j19 v26 h12) (j19 (.bool true) h12)) fun j10 => ifP v9 ( j10 [] h8) ( j1 [] h8)
noncomputable def s157 (Γ : PCallee) (n : Nat) (x0 : PV) (h : PHeap) : Pt := (lenP true x0).bind fun v0 => KL (fun w2 h3 => (lenP true x0).bind fun v4 => (binP .leq v4 (.int .i64 22 : PV)).bind fun v5 => finP [.keep] h h3 [v5]) fun j1 => loopP (s157_L0 Γ n x0 h v0 j1) n [(.int .i64 0 : PV)] h
theorem s157_eq (Γ : PCallee) (n : Nat) (x0 : PV) (h : PHeap) : pfunK Γ n A157 [x0] h = s157 Γ n x0 h := by kernel_rfl
open Go.Vm.G in
def A158 : PFun := ⟨1, 13, (S (R <| o 1 (.box 89 (t 0)) <| o 2 (.move (.const (.bool false))) <| z) <|
  (S (R <| f 3 0 1 <| l 4 3 <| o 5 (.call 146 [(t 4), (i 0), (i 119)]) <| o 6 (.un .not (t 5)) <| m 7 6 <| q 12 7 false (g 8 4) (f 8 1 1 <| l 9 8 <| o 10 (.call 146 [(t 9), (i 0), (i 31)]) <| o 11 (.un .not (t 10)) <| z) (t 11) <|
  m 2 12 <| z) <|
  .ret)), [.tmp 2], [.keep]⟩
theorem ok158 : ∃ fn c, FunOk Tryz.prog 158 fn c A158.erase := ⟨Tryz.f158, _, ⟨Tryz.func158, rfl, by kernel_rfl, by kernel_rfl, by kernel_rfl, of_decide_eq_true (by kernel_rfl), by kernel_rfl⟩⟩
noncomputable def s158 (Γ : PCallee) (n : Nat) (x0 : PV) (h : PHeap) : Pt := forkP (.ptr h.length 0) (h ++ [.box (cellsP x0) 89 .rw]) fun v0 h1 => (fieldAddrP 0 v0).bind fun v2 => (loadP false 1 v2 h1).bind fun v3 => (Γ 146 [v3, (.int .i64 0 : PV), (.int .i64 119 : PV)] h1).bind fun p4 => (unP .not p4.1).bind fun v5 => K1 (fun v7 h8 => finP [.keep] h h8 [v7]) fun j6 => scP v5 false ( (fieldAddrP 1 v0).bind fun v9 => (loadP false 1 v9 p4.2).bind fun v10 => (Γ 146 [v10, (.int .i64 0 : PV), (.int .i64 31 : PV)] p4.2).bind fun p11 => (unP .not p11.1).bind fun v12 => j6 v12 p11.2) (j6 (.bool true) p4.2)
theorem s158_eq (Γ : PCallee) (n : Nat) (x0 : PV) (h : PHeap) : pfunK Γ n A158 [x0] h = s158 Γ n x0 h := by kernel_rfl
open Go.Vm.G in
def A159 : PFun := ⟨3, 92, (S (R <| o 3 (.box 55 (t 0)) <| o 6 (.move (.const (.bool false))) <| z) <|
  (S (S (R <| f 10 1 3 <| l 11 10 <| o 12 (.len false (t 11)) <| b 13 .gtr (t 12) (i 16) <| m 14 13 <| q 23 14 false ([15, 16, 17, 22] ++ g 18 4) (f 15 0 3 <| l 16 15 <| m 17 16 <| q 22 17 true (g 18 4) (f 18 1 3 <| l 19 18 <| o 20 (.len false (t 19)) <| b 21 .eql (t 20) (i 0) <| z) (t 21) <|
  z) (t 22) <|
  z) <|
  (.cond (t 23) [] [6]
  (S (R <| o 6 (.move (.const (.bool false))) <| z) <|
  .ret)
  .skip)) <|
  (S (S (R <| f 24 1 3 <| l 25 24 <| o 26 (.len false (t 25)) <| o 27 (.move (i 0)) <| z) <|
  (.block 0 [] ([6, 7, 8] ++ g 27 46)
  (.loop [27] ([6, 7, 8] ++ g 28 45)
  (S (R <| b 28 .lss (t 27) (t 26) <| z) <|
  (S (.cond (t 28) [] []
  .skip
  (.exit 0)) <|
  (S (.block 1 [] ([6, 7, 8] ++ g 29 43)
  (S (R <| m 29 27 <| o 30 (.indexAddr 2 (t 25) (t 27)) <| o 31 (.load true 2 (t 30)) <| o 8 (.new 120 [(.int .i64 0), (.int .i64 0)]) <| m 7 29 <| n (.store 2 (t 8) (t 31)) <| z) <|
  (S (D <| m 32 7 <| b 33 .eql (t 32) (i 0) <| m 34 33 <| q 38 34 true [35, 36, 37] (f 35 0 8 <| l 36 35 <| b 37 .neq (t 36) (i 0) <| z) (t 37) <|
  m 39 38 <| q 54 39 false ([40, 41, 42, 53] ++ g 43 10) (m 40 7 <| b 41 .gtr (t 40) (i 0) <| m 42 41 <| q 53 42 true (g 43 10) (f 43 0 8 <| l 44 43 <| f 45 1 3 <| l 46 45 <| m 47 7 <| b 48 .sub (t 47) (i 1) <| o 49 (.indexAddr 2 (t 46) (t 48)) <| f 50 0 49 <| l 51 50 <| b 52 .leq (t 44) (t 51) <| z) (t 52) <|
  z) (t 53) <|
  m 55 54 <| q 59 55 false [56, 57, 58] (f 56 0 8 <| l 57 56 <| b 58 .gtr (t 57) (i 9999) <| z) (t 58) <|
  m 60 59 <| q 65 60 false (g 61 4) (f 61 1 8 <| l 62 61 <| m 63 1 <| b 64 .lss (t 62) (t 63) <| z) (t 64) <|
  m 66 65 <| q 71 66 false (g 67 4) (f 67 1 8 <| l 68 67 <| m 69 2 <| b 70 .gtr (t 68) (t 69) <| z) (t 70) <|
  z) <|
  (.cond (t 71) [] [6]
  (S (R <| o 6 (.move (.const (.bool false))) <| z) <|
  .ret)
  .skip)))) <|
  (R <| b 72 .add (t 27) (i 1) <| m 27 72 <| z))))))) <|
  (S (R <| o 73 (.mkFunc 172 [] [(t 3)]) <| m 9 73 <| z) <|
  (S (R <| m 74 9 <| f 75 2 3 <| l 76 75 <| f 77 3 3 <| l 78 77 <| f 79 4 3 <| l 80 79 <| o 81 (.callV (t 74) [(t 76), (t 78), (t 80)]) <| m 82 81 <| q 91 82 true (g 83 8) (m 83 9 <| f 84 5 3 <| l 85 84 <| f 86 6 3 <| l 87 86 <| f 88 7 3 <| l 89 88 <| o 90 (.callV (t 83) [(t 85), (t 87), (t 89)]) <| z) (t 90) <|
  m 6 91 <| z) <|
  .ret))))), [.tmp 6], [.keep]⟩
theorem ok159 : ∃ fn c, FunOk Tryz.prog 159 fn c A159.erase := ⟨Tryz.f159, _, ⟨Tryz.func159, rfl, by kernel_rfl, by kernel_rfl, by kernel_rfl, of_decide_eq_true (by kernel_rfl), by kernel_rfl⟩⟩
noncomputable def s159_L0 (Γ : PCallee) (n : Nat) (x1 : PV) (x2 : PV) (h : PHeap) (v0 : PV) (h11 : PHeap) (v13 : PV) (v14 : PV) (j15 : Kt) : (Kt) → Kt := fun c35 w36 h37 => (binP .lss (nthP w36 0) v14).bind fun v38 => KL (fun w40 h41 => KL (fun w43 h44 => (binP .add (nthP w36 0) (.int .i64 1 : PV)).bind fun v45 => c35 [v45] (trim h11 [v45] h44)) fun j42 => (indexAddrP 2 v13 (nthP w36 0)).bind fun v46 => (loadP true 2 v46 h41).bind fun v47 => forkP (.ptr h41.length 0) (h41 ++ [.box [.int .i64 0, .int .i64 0] 120 .rw]) fun v48 h49 => (storeP 2 v48 v47 h49).bind fun h50 => (binP .eql (nthP w36 0) (.int .i64 0 : PV)).bind fun v51 => K1 (fun v53 h54 => K1 (fun v56 h57 => K1 (fun v59 h60 => K1 (fun v62 h63 => K1 (fun v65 h66 => KL (fun w68 h69 => j42 [] h69) fun j67 => ifP v65 ( finP [.keep] h h66 [(.bool false : PV)]) ( j67 [] h66)) fun j64 => scP v62 false ( (fieldAddrP 1 v48).bind fun v70 => (loadP false 1 v70 h63).bind fun v71 => (binP .gtr v71 x2).bind fun v72 => j64 v72 h63) (j64 (.bool true) h63)) fun j61 => scP v59 false ( (fieldAddrP 1 v48).bind fun v73 => (loadP false 1 v73 h60).bind fun v74 => (binP .lss v74 x1).bind fun v75 => j61 v75 h60) (j61 (.bool true) h60)) fun j58 => scP v56 false ( (fieldAddrP 0 v48).bind fun v76 => (loadP false 1 v76 h57).bind fun v77 => (binP .gtr v77 (.int .i64 9999 : PV)).bind fun v78 => j58 v78 h57) (j58 (.bool true) h57)) fun j55 => scP v53 false ( (binP .gtr (nthP w36 0) (.int .i64 0 : PV)).bind fun v79 => K1 (fun v81 h82 => j55 v81 h82) fun j80 => scP v79 true ( (fieldAddrP 0 v48).bind fun v83 => (loadP false 1 v83 h54).bind fun v84 => (fieldAddrP 1 v0).bind fun v85 => (loadP false 1 v85 h54).bind fun v86 => (binP .sub (nthP w36 0) (.int .i64 1 : PV)).bind fun v87 => (indexAddrP 2 v86 v87).bind fun v88 => (fieldAddrP 0 v88).bind fun v89 => (loadP false 1 v89 h54).bind fun v90 => (binP .leq v84 v90).bind fun v91 => j80 v91 h54) (j80 (.bool false) h54)) (j55 (.bool true) h54)) fun j52 => scP v51 true ( (fieldAddrP 0 v48).bind fun v92 => (loadP false 1 v92 h50).bind fun v93 => (binP .neq v93 (.int .i64 0 : PV)).bind fun v94 => j52 v94 h50) (j52 (.bool false) h50)) fun j39 => ifP v38 ( j39 [] h37) ( j15 [] h37)
noncomputable def s159 (Γ : PCallee) (n : Nat) (x0 : PV) (x1 : PV) (x2 : PV) (h : PHeap) : Pt := forkP (.ptr h.length 0) (h ++ [.box (cellsP x0) 55 .rw]) fun v0 h1 => (fieldAddrP 1 v0).bind fun v2 => (loadP false 1 v2 h1).bind fun v3 => (lenP false v3).bind fun v4 => (binP .gtr v4 (.int .i64 16 : PV)).bind fun v5 => K1 (fun v7 h8 => KL (fun w10 h11 => (fieldAddrP 1 v0).bind fun v12 => (loadP false 1 v12 h11).bind fun v13 => (lenP false v13).bind fun v14 => KL (fun w16 h17 => (fieldAddrP 2 v0).bind fun v18 => (loadP false 1 v18 h17).bind fun v19 => (fieldAddrP 3 v0).bind fun v20 => (loadP false 1 v20 h17).bind fun v21 => (fieldAddrP 4 v0).bind fun v22 => (loadP false 1 v22 h17).bind fun v23 => (callVP Γ (PV.func 172 [] [v0]) [v19, v21, v23] h17).bind fun p24 => K1 (fun v26 h27 => finP [.keep] h h27 [v26]) fun j25 => scP p24.1 true ( (fieldAddrP 5 v0).bind fun v28 => (loadP false 1 v28 p24.2).bind fun v29 => (fieldAddrP 6 v0).bind fun v30 => (loadP false 1 v30 p24.2).bind fun v31 => (fieldAddrP 7 v0).bind fun v32 => (loadP false 1 v32 p24.2).bind fun v33 => (callVP Γ (PV.func 172 [] [v0]) [v29, v31, v33] p24.2).bind fun p34 => j25 p34.1 p34.2) (j25 (.bool false) p24.2)) fun j15 => loopP (s159_L0 Γ n x1 x2 h v0 h11 v13 v14 j15) n [(.int .i64 0 : PV)] h11) fun j9 => ifP v7 ( finP [.keep] h h8 [(.bool false : PV)]) ( j9 [] h8)) fun j6 => scP v5 false ( (fieldAddrP 0 v0).bind fun v95 => (loadP false 1 v95 h1).bind fun v96 => K1 (fun v98 h99 => j6 v98 h99) fun j97 => scP v96 true ( (fieldAddrP 1 v0).bind fun v100 => (loadP false 1 v100 h1).bind fun v101 => (lenP false v101).bind fun v102 => (binP .eql v102 (.int .i64 0 : PV)).bind fun v103 => j97 v103 h1) (j97 (.bool false) h1)) (j6 (.bool true) h1)
theorem s159_eq (Γ : PCallee) (n : Nat) (x0 : PV) (x1 : PV) (x2 : PV) (h : PHeap) : pfunK Γ n A159 [x0, x1, x2] h = s159 Γ n x0 x1 x2 h := by kernel_rfl
open Go.Vm.G in
def A160 : PFun := ⟨2, 19, (S (R <| o 4 (.move (i 0)) <| z) <|
  (S (S (R <| m 6 0 <| o 7 (.len false (t 6)) <| o 8 (.move (i 0)) <| z) <|
  (.block 0 [] ([4, 5] ++ g 8 11)
  (.loop [8] ([4, 5] ++ g 9 10)
  (S (R <| b 9 .lss (t 8) (t 7) <| z) <|
  (S (.cond (t 9) [] []
  .skip
  (.exit 0)) <|
  (S (.block 1 [] ([4, 5] ++ g 10 8)
  (S (R <| m 10 8 <| m 5 10 <| z) <|
  (S (R <| m 11 1 <| m 12 0 <| m 13 5 <| o 14 (.indexAddr 2 (t 12) (t 13)) <| o 15 (.load true 2 (t 14)) <| o 16 (.callV (t 11) [(t 15)]) <| z) <|
  (.cond (t 16) [] [4, 17]
  (S (R <| m 17 5 <| m 4 17 <| z) <|
  .ret)
  .skip)))) <|
  (R <| b 18 .add (t 8) (i 1) <| m 8 18 <| z))))))) <|
  (S (R <| o 4 (.move (i (-1))) <| z) <|
  .ret))), [.tmp 4], [.keep]⟩
theorem ok160 : ∃ fn c, FunOk Tryz.prog 160 fn c A160.erase := ⟨Tryz.f160, _, ⟨Tryz.func160, rfl, by kernel_rfl, by kernel_rfl, by kernel_rfl, of_decide_eq_true (by kernel_rfl), by kernel_rfl⟩⟩
noncomputable def s160_L0 (Γ : PCallee) (n : Nat) (x0 : PV) (x1 : PV) (h : PHeap) (v0 : PV) (j1 : Kt) : (Kt) → Kt := fun c4 w5 h6 => (binP .lss (nthP w5 0) v0).bind fun v7 => KL (fun w9 h10 => KL (fun w12 h13 => (binP .add (nthP w5 0) (.int .i64 1 : PV)).bind fun v14 => c4 [v14] (trim h [v14] h13)) fun j11 => (indexAddrP 2 x0 (nthP w5 0)).bind fun v15 => (loadP true 2 v15 h10).bind fun v16 => (callVP Γ x1 [v16] h10).bind fun p17 => KL (fun w19 h20 => j11 [] h20) fun j18 => ifP p17.1 ( finP [.keep] h p17.2 [(nthP w5 0)]) ( j18 [] p17.2)) fun j8 => ifP v7 ( j8 [] h6) ( j1 [] h6)
noncomputable def s160 (Γ : PCallee) (n : Nat) (x0 : PV) (x1 : PV) (h : PHeap) : Pt := (lenP false x0).bind fun v0 => KL (fun w2 h3 => finP [.keep] h h3 [(.int .i64 (-1) : PV)]) fun j1 => loopP (s160_L0 Γ n x0 x1 h v0 j1) n [(.int .i64 0 : PV)] h
theorem s160_eq (Γ : PCallee) (n : Nat) (x0 : PV) (x1 : PV) (h : PHeap) : pfunK Γ n A160 [x0, x1] h = s160 Γ n x0 x1 h := by kernel_rfl
open Go.Vm.G in
def A161 : PFun := ⟨2, 26, (S (R <| o 4 (.move (.const (.bool false))) <| z) <|
  (S (S (R <| m 6 0 <| o 7 (.len false (t 6)) <| m 8 1 <| o 9 (.len false (t 8)) <| b 10 .neq (t 7) (t 9) <| z) <|
  (.cond (t 10) [] [4]
  (S (R <| o 4 (.move (.const (.bool false))) <| z) <|
  .ret)
  .skip)) <|
  (S (S (R <| m 11 0 <| o 12 (.len false (t 11)) <| o 13 (.move (i 0)) <| z) <|
  (.block 0 [] ([4, 5] ++ g 13 13)
  (.loop [13] ([4, 5] ++ g 14 12)
  (S (R <| b 14 .lss (t 13) (t 12) <| z) <|
  (S (.cond (t 14) [] []
  .skip
  (.exit 0)) <|
  (S (.block 1 [] ([4, 5] ++ g 15 10)
  (S (R <| m 15 13 <| m 5 15 <| z) <|
  (S (D <| m 16 0 <| m 17 5 <| o 18 (.indexAddr 2 (t 16) (t 17)) <| o 19 (.load true 2 (t 18)) <| m 20 1 <| m 21 5 <| o 22 (.indexAddr 2 (t 20) (t 21)) <| o 23 (.load true 2 (t 22)) <| o 24 (.eqAgg [.int, .int] true (t 19) (t 23)) <| z) <|
  (.cond (t 24) [] [4]
  (S (R <| o 4 (.move (.const (.bool false))) <| z) <|
  .ret)
  .skip)))) <|
  (R <| b 25 .add (t 13) (i 1) <| m 13 25 <| z))))))) <|
  (S (R <| o 4 (.move (.const (.bool true))) <| z) <|
  .ret)))), [.tmp 4], [.keep]⟩
theorem ok161 : ∃ fn c, FunOk Tryz.prog 161 fn c A161.erase := ⟨Tryz.f161, _, ⟨Tryz.func161, rfl, by kernel_rfl, by kernel_rfl, by kernel_rfl, of_decide_eq_true (by kernel_rfl), by kernel_rfl⟩⟩
noncomputable def s161_L0 (Γ : PCallee) (n : Nat) (x0 : PV) (x1 : PV) (h : PHeap) (h5 : PHeap) (v6 : PV) (j7 : Kt) : (Kt) → Kt := fun c10 w11 h12 => (binP .lss (nthP w11 0) v6).bind fun v13 => KL (fun w15 h16 => KL (fun w18 h19 => (binP .add (nthP w11 0) (.int .i64 1 : PV)).bind fun v20 => c10 [v20] (trim h5 [v20] h19)) fun j17 => (indexAddrP 2 x0 (nthP w11 0)).bind fun v21 => (loadP true 2 v21 h16).bind fun v22 => (indexAddrP 2 x1 (nthP w11 0)).bind fun v23 => (loadP true 2 v23 h16).bind fun v24 => (eqAggP [.int, .int] true v22 v24).bind fun v25 => KL (fun w27 h28 => j17 [] h28) fun j26 => ifP v25 ( finP [.keep] h h16 [(.bool false : PV)]) ( j26 [] h16)) fun j14 => ifP v13 ( j14 [] h12) ( j7 [] h12)
noncomputable def s161 (Γ : PCallee) (n : Nat) (x0 : PV) (x1 : PV) (h : PHeap) : Pt := (lenP false x0).bind fun v0 => (lenP false x1).bind fun v1 => (binP .neq v0 v1).bind fun v2 => KL (fun w4 h5 => (lenP false x0).bind fun v6 => KL (fun w8 h9 => finP [.keep] h h9 [(.bool true : PV)]) fun j7 => loopP (s161_L0 Γ n x0 x1 h h5 v6 j7) n [(.int .i64 0 : PV)] h5) fun j3 => ifP v2 ( finP [.keep] h h [(.bool false : PV)]) ( j3 [] h)
theorem s161_eq (Γ : PCallee) (n : Nat) (x0 : PV) (x1 : PV) (h : PHeap) : pfunK Γ n A161 [x0, x1] h = s161 Γ n x0 x1 h := by kernel_rfl
open Go.Vm.G in
def L167_0a : PCode := (R <| m 5 7 <| z)
open Go.Vm.G in
def L167_0b : PCode := (.block 1 [] (g 8 4)
  (R <| l 8 2 <| m 9 5 <| (.op (some 10) (.buildF 3 [(.int .i64 0)] 1 [(0, 1, (t 9))]) .no <| o 11 (.append 3 1 (t 8) (t 10)) <| n (.store 1 (t 2) (t 11)) <| z)))
open Go.Vm.G in
def A167 : PFun := ⟨2, 13, (S (R <| .gr 0 3 1 <| o 2 (.box 22 (t 0)) <| o 4 (.move (.const (.slice none 0 0))) <| z) <|
  (S (S (R <| m 6 1 <| z) <|
  (.block 0 [] []
  (.rangeF (t 6) [2] [7] L167_0a L167_0b))) <|
  (S (R <| l 12 2 <| m 4 12 <| z) <|
  .ret))), [.tmp 4], [.raw]⟩
theorem ok167 : ∃ fn c, FunOk Tryz.prog 167 fn c A167.erase := ⟨Tryz.f167, _, ⟨Tryz.func167, rfl, by kernel_rfl, by kernel_rfl, by kernel_rfl, of_decide_eq_true (by kernel_rfl), by kernel_rfl⟩⟩
noncomputable def s167 (Γ : PCallee) (n : Nat) (x0 : PV) (x1 : PV) (h : PHeap) : Pt := (growP x0 3 1 h).bind fun q0 => forkP (.ptr q0.2.length 0) (q0.2 ++ [.box (cellsP q0.1) 22 .rw]) fun v1 h2 => KL (fun w4 h5 => (loadP false 1 v1 h5).bind fun v6 => finP [.raw] h h5 [v6]) fun j3 => (callFP Γ x1 [.yield h2.length] (h2 ++ [.loop [v1] [2] [7] L167_0a L167_0b .ready none .rw])).bind fun p7 => (pendOfP h2.length p7.2).bind fun o8 => forkP undefP (trim h2 [] (p7.2.set h2.length .dead)) fun v9 h10 =>
endF o8 ( j3 [] h10) (fun i11 => bif Nat.beq i11 0 then (j3 [] h10) else none) ( finP [.raw] h h10 [(.nilS : PV)])
theorem s167_eq (Γ : PCallee) (n : Nat) (x0 : PV) (x1 : PV) (h : PHeap) : pfunK Γ n A167 [x0, x1] h = s167 Γ n x0 x1 h := by kernel_rfl
noncomputable def r167_0 (Γ : PCallee) (n : Nat) (w2 : PV) (a7 : PV) (b : Nat) (h : PHeap) : Pt := (beginRoundP b h).bind fun h0 => KL (fun w2 h3 => (endRoundP b .normal h3).map fun q => (q.1, trim h [] q.2)) fun j1 => (loadP false 1 w2 h0).bind fun v4 => (fillP (repP [.int .i64 0] 1) [(0, 1, a7)]).bind fun l5 => guardP (l5.all pure1) ( forkP (.frz 1 (chunk 1 1 l5)) (h0) fun v6 h7 => (appendP 3 1 v4 v6 h7).bind fun p8 => (storeP 1 w2 p8.1 p8.2).bind fun h9 => j1 [] h9)
theorem r167_0_eq (Γ : PCallee) (n : Nat) (w2 : PV) (a7 : PV) (b : Nat) (h : PHeap) (pend : Option AExit) (md : Md) (hb : h[b]? = some (.loop [w2] [2] [7] L167_0a L167_0b .ready pend md)) : proundK Γ n (.ptr b 0 :: [a7]) h = r167_0 Γ n w2 a7 b h := (proundK_eq hb rfl).trans (by kernel_rfl)
open Go.Vm.G in
def A172 : PFun := ⟨4, 30, (S (R <| o 7 (.move (.const (.bool false))) <| z) <|
  (S (S (R <| m 8 0 <| o 9 (.un .not (t 8)) <| z) <|
  (.cond (t 9) [] ([7] ++ g 10 6)
  (S (R <| m 10 1 <| b 11 .eql (t 10) (i 0) <| m 12 11 <| q 15 12 true [13, 14] (m 13 2 <| b 14 .eql (t 13) (i 0) <| z) (t 14) <|
  m 7 15 <| z) <|
  .ret)
  .skip)) <|
  (S (R <| m 16 1 <| b 17 .geq (t 16) (i 0) <| m 18 17 <| q 22 18 true [19, 20, 21] (m 19 1 <| m 20 2 <| b 21 .leq (t 19) (t 20) <| z) (t 21) <|
  m 23 22 <| q 29 23 true (g 24 5) (m 24 2 <| f 25 1 3 <| l 26 25 <| o 27 (.len false (t 26)) <| b 28 .lss (t 24) (t 27) <| z) (t 28) <|
  m 7 29 <| z) <|
  .ret))), [.tmp 7], [.keep]⟩
theorem ok172 : ∃ fn c, FunOk Tryz.prog 172 fn c A172.erase := ⟨Tryz.f172, _, ⟨Tryz.func172, rfl, by kernel_rfl, by kernel_rfl, by kernel_rfl, of_decide_eq_true (by kernel_rfl), by kernel_rfl⟩⟩
noncomputable def s172 (Γ : PCallee) (n : Nat) (x0 : PV) (x1 : PV) (x2 : PV) (x3 : PV) (h : PHeap) : Pt := (unP .not x0).bind fun v0 => KL (fun w2 h3 => (binP .geq x1 (.int .i64 0 : PV)).bind fun v4 => K1 (fun v6 h7 => K1 (fun v9 h10 => finP [.keep] h h10 [v9]) fun j8 => scP v6 true ( (fieldAddrP 1 x3).bind fun v11 => (loadP false 1 v11 h7).bind fun v12 => (lenP false v12).bind fun v13 => (binP .lss x2 v13).bind fun v14 => j8 v14 h7) (j8 (.bool false) h7)) fun j5 => scP v4 true ( (binP .leq x1 x2).bind fun v15 => j5 v15 h3) (j5 (.bool false) h3)) fun j1 => ifP v0 ( (binP .eql x1 (.int .i64 0 : PV)).bind fun v16 => K1 (fun v18 h19 => finP [.keep] h h19 [v18]) fun j17 => scP v16 true ( (binP .eql x2 (.int .i64 0 : PV)).bind fun v20 => j17 v20 h) (j17 (.bool false) h)) ( j1 [] h)
theorem s172_eq (Γ : PCallee) (n : Nat) (x0 : PV) (x1 : PV) (x2 : PV) (x3 : PV) (h : PHeap) : pfunK Γ n A172 [x0, x1, x2, x3] h = s172 Γ n x0 x1 x2 x3 h := by kernel_rfl
def T : PTable := [(5, A5), (8, A8), (12, A12), (16, A16), (17, A17), (18, A18), (19, A19), (24, A24), (33, A33), (34, A34), (41, A41), (43, A43), (45, A45), (53, A53), (54, A54), (55, A55), (56, A56), (57, A57), (58, A58), (59, A59), (60, A60), (61, A61), (62, A62), (68, A68), (69, A69), (70, A70), (71, A71), (72, A72), (76, A76), (77, A77), (78, A78), (87, A87), (94, A94), (96, A96), (101, A101), (102, A102), (103, A103), (104, A104), (105, A105), (106, A106), (107, A107), (108, A108), (109, A109), (111, A111), (114, A114), (115, A115), (116, A116), (117, A117), (118, A118), (119, A119), (120, A120), (121, A121), (122, A122), (123, A123), (124, A124), (125, A125), (126, A126), (127, A127), (128, A128), (129, A129), (131, A131), (132, A132), (133, A133), (143, A143), (146, A146), (147, A147), (148, A148), (149, A149), (150, A150), (151, A151), (152, A152), (153, A153), (154, A154), (155, A155), (156, A156), (157, A157), (158, A158), (159, A159), (160, A160), (161, A161), (167, A167), (172, A172)]
noncomputable def Γ0 : PCallee := prun (orP (idxP 171) (sortP 144)) T
theorem gbody {f : FuncId} {F : PFun} (hT : T.get f = some F) (fuel : Nat) {args : List PV} {h : PHeap} {r : PV × PHeap} (hk : pfunK Γ0 fuel F args h = some r) (hf : Nat.beq f yieldId = false := by rfl) : Γ0 f args h = some r := prun_of_body hT fuel hk hf
theorem gbody_round (fuel : Nat) {args : List PV} {h : PHeap} {r : PV × PHeap} (hk : proundK Γ0 fuel args h = some r) : Γ0 yieldId args h = some r := prun_of_round fuel hk
end Go.Vm.X


set_option linter.unusedVariables false
namespace Go.Vm.X
open Go.Am Go.Vm Go.Proofs Go.RowKit
theorem idx_enters : ∀ (xs : Array Value) (w : World), (callFunc 171 xs).run Tryz.prog w = .ok (.enter 171 xs) w := fun xs w => enter_run Tryz.func171 rfl (by kernel_rfl)
set_option maxHeartbeats 1000000 in
set_option maxRecDepth 100000 in
theorem idx_calls (F : Fence) (n : Nat) (hF : WideF F) (s : ByteArray) (c : Int) (w : World) : CallsIn F.plain n Tryz.prog 171 #[.string s, .int .u8 c] w fun e w' => e = .returned (.int .i64 (Lib.indexByte s.data.toList c.toNat.toUInt8)) ∧ w' = w := by
  have mixed : Tryz.prog.follows .mixedOrders = true := by kernel_rfl
  have u3 := Tryz.underlying3
  have u5 := Tryz.underlying5
  have u9 := Tryz.underlying9
  refine callsIn_of_wp Tryz.func171 rfl (hF.1 171) ?_ rfl
  simp only [show Tryz.f171.ntmps = 8 from rfl, List.size_toArray, List.length_cons, List.length_nil, Nat.reduceAdd, Nat.reduceSub, Array.replicate_succ, Array.replicate_zero, List.push_toArray, List.append_toArray, List.nil_append, List.cons_append]
  gi_wp2
  refine ⟨hF.1 188, ?_⟩
  rw [run_callFunc_extern Tryz.func188 (by kernel_rfl) (by kernel_rfl) (by kernel_rfl) (e := Extern.BytealgIndexByte.indexByte) (by kernel_rfl), Lib.run_indexByteString]
  simp only [Result.andThen]
  rw [Oper.uponIn_value]
  gi_wp2
  go_ret
  exact ⟨rfl, rfl⟩
theorem idx_ok : CallOk Tryz.prog (idxA 171) := idxA_ok idx_enters idx_calls rfl
end Go.Vm.X


set_option linter.unusedSimpArgs false
set_option linter.unusedVariables false
namespace Go.Vm.X
open Go.Am Go.Vm
attribute [local congr] bind_c ifP_c loop_c K1_c
def inW (x lo hi : Int) : Bool := decide (lo ≤ x) && decide (x ≤ hi)
theorem c54 (x lo hi : Int) (h : PHeap) : Γ0 54 [.int .i64 x, .int .i64 lo, .int .i64 hi] h = some (.bool (inW x lo hi), h) := by
  refine gbody (F := A54) (by kernel_rfl) 1 ?_
  rw [s54_eq]
  unfold s54 inW
  simp only [bin_geq, bin_leq, bS, K1_and, fin_bool0, ge_iff_le]
theorem c104 (x lo hi : Int) (h : PHeap) : Γ0 104 [.int .i64 x, .int .i64 lo, .int .i64 hi] h = some (.bool (inW x lo hi), h) := by
  refine gbody (F := A104) (by kernel_rfl) 1 ?_
  rw [s104_eq]
  unfold s104 inW
  simp only [bin_geq, bin_leq, bS, K1_and, fin_bool0, ge_iff_le]
theorem c146 (x lo hi : Int) (h : PHeap) : Γ0 146 [.int .i64 x, .int .i64 lo, .int .i64 hi] h = some (.bool (inW x lo hi), h) := by
  refine gbody (F := A146) (by kernel_rfl) 1 ?_
  rw [s146_eq]
  unfold s146 inW
  simp only [bin_geq, bin_leq, bS, K1_and, fin_bool0, ge_iff_le]
theorem c57 (x lo hi : Int) (h : PHeap) : Γ0 57 [.int .i64 x, .int .i64 lo, .int .i64 hi] h = some (.bool (inW x lo hi), h) := by
  refine gbody (F := A57) (by kernel_rfl) 1 ?_
  rw [s57_eq]
  unfold s57 inW
  simp only [bin_geq, bin_leq, bS, K1_and, fin_bool0]
theorem c101 (d : Int) (h : PHeap) : Γ0 101 [.int .i64 d] h = some (.bool (inW d 1 6), h) := by
  refine gbody (F := A101) (by kernel_rfl) 1 ?_
  rw [s101_eq]
  unfold s101 inW
  simp only [bin_geq, bin_leq, bS, K1_and, fin_bool0, ge_iff_le]
theorem c103 (x : Int) (h : PHeap) : Γ0 103 [.int .i64 x] h = some (.bool (inW x 1 16), h) := by
  refine gbody (F := A103) (by kernel_rfl) 1 ?_
  rw [s103_eq]
  unfold s103
  simp only [c104, bS, fin_bool0]
structure Cell where
  (note inst vc va ef pa : Int)
def Cell.cs (c : Cell) : List PV := [.int .i64 c.note, .int .i64 c.inst, .int .i64 c.vc, .int .i64 c.va, .int .i64 c.ef, .int .i64 c.pa]
def cellOK (c : Cell) : Bool :=
  (inW c.note 0 120 || c.note == 253 || c.note == 254 || c.note == 255) && inW c.inst 0 31 && (inW c.vc 0 12 && inW c.va 0 99 && (decide (c.vc > 0) || c.va == 0)) && (inW c.ef 0 36 && inW c.pa 0 255 && (decide (c.ef > 0) || c.pa == 0))
section
variable {h : PHeap} {c : Cell} {t : TypeId}
theorem cl0 : loadP false 1 (.ptr h.length 0) (h ++ [.box c.cs t .rw]) = some (.int .i64 c.note) := load_new rfl
theorem cl1 : loadP false 1 (.ptr h.length 1) (h ++ [.box c.cs t .rw]) = some (.int .i64 c.inst) := load_new rfl
theorem cl2 : loadP false 1 (.ptr h.length 2) (h ++ [.box c.cs t .rw]) = some (.int .i64 c.vc) := load_new rfl
theorem cl3 : loadP false 1 (.ptr h.length 3) (h ++ [.box c.cs t .rw]) = some (.int .i64 c.va) := load_new rfl
theorem cl4 : loadP false 1 (.ptr h.length 4) (h ++ [.box c.cs t .rw]) = some (.int .i64 c.ef) := load_new rfl
theorem cl5 : loadP false 1 (.ptr h.length 5) (h ++ [.box c.cs t .rw]) = some (.int .i64 c.pa) := load_new rfl
theorem cells_agg (l : List PV) : cellsP (.agg l) = l := rfl
end
theorem c148 (c : Cell) (h : PHeap) : Γ0 148 [.agg c.cs] h = some (.bool (cellOK c), h) := by
  refine gbody (F := A148) (by kernel_rfl) 1 ?_
  rw [s148_eq]
  unfold s148 cellOK
  simp only [fork_def, cells_agg, field_new, cl0, cl1, cl2, cl3, cl4, cl5, c104, bin_eql, bin_gtr, bS, K1_or, K1_and, K1_one, fin_bool]
end Go.Vm.X


set_option linter.unusedSimpArgs false
set_option linter.unusedVariables false
namespace Go.Vm.X
open Go.Am Go.Vm
attribute [local congr] bind_c ifP_c loop_c K1_c
theorem first_not {α : Type} (p : α → Bool) (l : List α) : ∃ k, k ≤ l.length ∧ (∀ i a, i < k → l[i]? = some a → p a = true) ∧ (k = l.length ∧ l.all p = true ∨ ∃ a, l[k]? = some a ∧ p a = false ∧ l.all p = false) := by
  induction l with
  | nil => exact ⟨0, Nat.le_refl _, fun i a h => by omega, .inl ⟨rfl, rfl⟩⟩
  | cons x l ih =>
    cases hx : p x with
    | false => exact ⟨0, Nat.zero_le _, fun i a h => by omega, .inr ⟨x, rfl, hx, by simp [hx]⟩⟩
    | true =>
      obtain ⟨k, h1, h2, h3⟩ := ih
      refine ⟨k + 1, by simp; omega, fun i a hi ha => ?_, ?_⟩
      · cases i with
        | zero => cases ha; exact hx
        | succ i => exact h2 i a (by omega) ha
      · rcases h3 with ⟨h3, h4⟩ | ⟨a, h3, h4, h5⟩
        · exact .inl ⟨by simp [h3], by simp [hx, h4]⟩
        · exact .inr ⟨a, h3, h4, by simp [h5]⟩
def bys (s : ByteArray) : List UInt8 := s.data.toList
theorem bys_len (s : ByteArray) : (bys s).length = s.size := by unfold bys; rw [Array.length_toList]; rfl
theorem idx_by {s : ByteArray} {i : Nat} {b : UInt8} (h : (bys s)[i]? = some b) : indexStrP (.str s) (.int .i64 (i : Int)) = some (.int .u8 (b.toNat : Int)) := by
  have e : s.data[i]? = some b := by unfold bys at h; rwa [Array.getElem?_toList] at h
  simp only [indexStrP, Int.toNat_natCast, e]
  rw [if_pos (by omega)]
  rfl
theorem lt_l {α : Type} {l : List α} {i : Nat} (h : i < l.length) : ∃ a, l[i]? = some a := ⟨_, List.getElem?_eq_getElem h⟩
def byOK (b : UInt8) : Bool := inW (b.toNat : Int) 32 126
def nameOK (s : ByteArray) : Bool := (bys s).all byOK && decide (s.size ≤ 22)
theorem conv_by (b : UInt8) : convP .i64 (.int .u8 (b.toNat : Int)) = some (.int .i64 (b.toNat : Int)) := by
  have := b.toNat_lt
  rw [conv_int, wrap64 (by unfold isI64; omega)]
theorem c114 {s : ByteArray} (hs : s.size < 9223372036854775808) (h : PHeap) : Γ0 114 [.str s] h = some (.bool (nameOK s), h) := by
  have hbl := bys_len s
  refine gbody (F := A114) (by kernel_rfl) (s.size + 1) ?_
  rw [s114_eq]
  unfold s114 nameOK
  simp only [len_str, bS, ↓KLn]
  obtain ⟨k, h1, h2, h3⟩ := first_not byOK (bys s)
  refine loop_pure (fun i => [.int .i64 (i : Int)]) k (by omega) rfl (fun i hi K => ?_) fun K => ?_
  · obtain ⟨b, hb⟩ := lt_l (show i < (bys s).length by omega)
    have hlt : ((i : Int) < (s.size : Int)) = True := eq_true (by omega)
    have hok : inW (b.toNat : Int) 32 126 = true := h2 i b hi hb
    unfold s114_L0
    simp only [nth_zero, bin_lss, hlt, decide_true, bS, ↓KLn, if_bool, if_true, idx_by hb, conv_by, c54, hok, un_not, Bool.not_true, Bool.false_eq_true, if_false, bin_add, succ63 (show i < 9223372036854775807 by omega), trim_self]
  · rcases h3 with ⟨rfl, h4⟩ | ⟨b, h3, h4, h5⟩
    · have hlt : (((bys s).length : Int) < (s.size : Int)) = False := eq_false (by omega)
      have hle : decide ((s.size : Int) ≤ 22) = decide (s.size ≤ 22) := by rw [decide_eq_decide]; omega
      unfold s114_L0
      simp only [nth_zero, bin_lss, hlt, decide_false, bS, ↓KLn, if_bool, Bool.false_eq_true, if_false, bin_leq, h4, Bool.true_and, hle, fin_bool0]
    · have hk : k < (bys s).length := by
        obtain ⟨hh, _⟩ := List.getElem?_eq_some_iff.1 h3
        exact hh
      have hlt : ((k : Int) < (s.size : Int)) = True := eq_true (by omega)
      have hok : inW (b.toNat : Int) 32 126 = false := h4
      unfold s114_L0
      simp only [nth_zero, bin_lss, hlt, decide_true, bS, ↓KLn, if_bool, if_true, idx_by h3, conv_by, c54, hok, un_not, Bool.not_false, h5, Bool.false_and, fin_bool0]
def volc (d : Int) : Int := if d = 2 then 1 else if d = 3 then 8 else if d = 4 then 10 else 0
def lettersL : Int → List UInt8 := fun d =>
  if d = 1 then [48, 49, 50, 51, 52, 53, 54, 55, 56, 57, 65, 66, 67, 68, 69, 70]
  else if d = 2 then [65, 66, 67, 68, 69, 70, 71, 72, 73, 74, 75, 76, 79, 81, 82, 83, 84, 85, 86, 88]
  else if d = 3 then [48, 49, 50, 51, 52, 53, 54, 55, 56, 57, 65, 66, 67, 68, 69, 70, 71, 72, 75, 76, 80, 82, 84, 88]
  else if d = 4 then [65, 66, 67, 68, 69, 70, 71, 72, 73, 74, 75, 76, 77, 78, 79, 80, 81, 82, 83, 84, 85, 86, 87, 88, 89, 90]
  else if d = 5 then [48, 49, 50, 51, 52, 53]
  else if d = 6 then [48, 49, 50, 51, 52, 65, 66, 67, 68, 69, 70, 78, 83]
  else []
def strOf (l : List UInt8) : PV := .str ⟨l.toArray⟩
theorem fin_str0 {h : PHeap} {s : ByteArray} : finP [.keep] h h [.str s] = some (.str s, h) := by
  have := fin_keep (h := h) (l := []) (v := .str s) fun _ => by simp [ltV]
  rwa [List.append_nil] at this
end Go.Vm.X


set_option linter.unusedSimpArgs false
set_option linter.unusedVariables false
namespace Go.Vm.X
open Go.Am Go.Vm
attribute [local congr] bind_c ifP_c loop_c K1_c
theorem pcall_base {Γ : PCallee} {T : PTable} {f : FuncId} (hf : Nat.beq f yieldId = false) (hT : T.get f = none) (args : List PV) (h : PHeap) : ∀ n, pcall Γ T n f args h = Γ f args h
  | 0 => by unfold pcall; rw [hf, hT]; rfl
  | n + 1 => by unfold pcall; rw [hf, hT]; rfl
theorem prun_base {Γ : PCallee} {T : PTable} {f : FuncId} (hf : Nat.beq f yieldId = false) (hT : T.get f = none) {args : List PV} {h : PHeap} {r : PV × PHeap} (hr : Γ f args h = some r) : prun Γ T f args h = some r := by
  unfold prun
  have H : ∃ n, (pcall Γ T n f args h).isSome = true := ⟨0, by rw [pcall_base hf hT, hr]; rfl⟩
  rw [dif_pos H, pcall_base hf hT, hr]
theorem c171 (s : ByteArray) (c : Int) (h : PHeap) : Γ0 171 [.str s, .int .u8 c] h = some (.int .i64 (Lib.indexByte (bys s) c.toNat.toUInt8), h) := prun_base rfl (by kernel_rfl) rfl
theorem c152 (s : ByteArray) (c : Int) (h : PHeap) : Γ0 152 [.str s, .int .u8 c] h = some (.int .i64 (Lib.indexByte (bys s) c.toNat.toUInt8), h) := by
  refine gbody (F := A152) (by kernel_rfl) 1 ?_
  rw [s152_eq]
  unfold s152
  simp only [c171, bS, fin_int0]
theorem index_has : ∀ (l : List UInt8) (c : UInt8), decide (Lib.indexByte l c ≥ 0) = l.contains c ∧ (Lib.indexByte l c = -1 ∨ 0 ≤ Lib.indexByte l c)
  | [], c => ⟨rfl, .inl rfl⟩
  | b :: l, c => by
    obtain ⟨h1, h2⟩ := index_has l c
    unfold Lib.indexByte
    by_cases hb : (b == c) = true
    · rw [if_pos hb]
      refine ⟨?_, .inr (by decide)⟩
      have : c = b := by rw [beq_iff_eq] at hb; exact hb.symm
      simp [this]
    · rw [if_neg hb]
      have hcb : (c == b) = false := by
        rw [beq_eq_false_iff_ne]
        intro e
        exact hb (by rw [e]; simp)
      rw [List.contains_cons, hcb, Bool.false_or, ← h1]
      rcases h2 with h2 | h2
      · rw [h2]; exact ⟨rfl, .inl rfl⟩
      · have : ¬ ((Lib.indexByte l c == -1) = true) := by rw [beq_iff_eq]; omega
        rw [if_neg this]
        refine ⟨?_, .inr (by omega)⟩
        rw [decide_eq_decide]; omega
def letterU (e : Int) : Nat := if e ≤ 10 then (47 + e).toNat else (54 + e).toNat
theorem c154 {e : Int} (he : 1 ≤ e ∧ e ≤ 36) (h : PHeap) : Γ0 154 [.int .i64 e] h = some (.int .u8 (letterU e : Int), h) := by
  refine gbody (F := A154) (by kernel_rfl) 1 ?_
  rw [s154_eq]
  unfold s154
  obtain ⟨k, rfl, hk⟩ : ∃ k : Nat, e = ((k + 1 : Nat) : Int) ∧ k < 36 := ⟨(e - 1).toNat, by omega, by omega⟩
  have w1 : IntKind.i64.wrap (((k + 1 : Nat) : Int) - 1) = (k : Int) := by rw [wrap64 (by unfold isI64; omega)]; omega
  have tab : ∀ k : Nat, k < 36 → indexStrP (.str ⟨#[48, 49, 50, 51, 52, 53, 54, 55, 56, 57, 65, 66, 67, 68, 69, 70, 71, 72, 73, 74, 75, 76, 77, 78, 79, 80, 81, 82, 83, 84, 85, 86, 87, 88, 89, 90]⟩) (.int .i64 (k : Int)) = some (.int .u8 (letterU ((k + 1 : Nat) : Int) : Int)) := by
    intro k hk
    have : k = 0 ∨ k = 1 ∨ k = 2 ∨ k = 3 ∨ k = 4 ∨ k = 5 ∨ k = 6 ∨ k = 7 ∨ k = 8 ∨ k = 9 ∨ k = 10 ∨ k = 11 ∨ k = 12 ∨ k = 13 ∨ k = 14 ∨ k = 15 ∨ k = 16 ∨ k = 17 ∨ k = 18 ∨ k = 19 ∨ k = 20 ∨ k = 21 ∨ k = 22 ∨ k = 23 ∨ k = 24 ∨ k = 25 ∨ k = 26 ∨ k = 27 ∨ k = 28 ∨ k = 29 ∨ k = 30 ∨ k = 31 ∨ k = 32 ∨ k = 33 ∨ k = 34 ∨ k = 35 := by omega
    rcases this with rfl | rfl | rfl | rfl | rfl | rfl | rfl | rfl | rfl | rfl | rfl | rfl | rfl | rfl | rfl | rfl | rfl | rfl | rfl | rfl | rfl | rfl | rfl | rfl | rfl | rfl | rfl | rfl | rfl | rfl | rfl | rfl | rfl | rfl | rfl | rfl <;> rfl
  simp only [bin_sub, w1, bS, tab k hk, fin_int0]
end Go.Vm.X

