/- Printed by a program of mine from the dump: the value machine's form of the program's functions. -/
import Derived.Test.YtjfppnnoeebcbaaPsGen1
import Derived.Test.YtjfppnnoeebcbaaMvE
import Derived.Test.YtjfppnnoeebcbaaChecked
set_option linter.unusedVariables false
set_option maxRecDepth 100000
namespace Go.Vm.X
open Go.Proofs Go.Am Go.Vm
open Go.Vm.G in
/-- orchestrion/orchestrionref04.Valid -/
def A85 : PFun := ⟨1, 135,
 (S (R <| o 1 (.box 54 (t 0)) <| o 2 (.move (.const (.bool false))) <| z) <|
  (S (S (R <| o 3 (.move (i 0)) <| z) <|
  (.block 0 [] (g 2 33)
  (.loop [3] ([2] ++ g 4 31)
  (S (S (R <| m 5 3 <| f 6 1 1 <| l 7 6 <| o 8 (.len false (t 7)) <| b 9 .lss (t 5) (t 8) <| z) <|
  (.cond (t 9) [] []
  .skip
  (.exit 0))) <|
  (S (.block 1 [] ([2, 4] ++ g 12 23)
  (S (R <| f 12 1 1 <| l 13 12 <| m 14 3 <| o 15 (.indexAddr 2 (t 13) (t 14)) <| o 16 (.load true 2 (t 15)) <| o 4 (.new 117 [(.int .i64 0), (.int .i64 0)]) <| n (.store 2 (t 4) (t 16)) <| z) <|
  (S (R <| f 17 0 4 <| l 18 17 <| b 19 .lss (t 18) (i 0) <| m 20 19 <| q 24 20 false [21, 22, 23] (f 21 0 4 <| l 22 21 <| b 23 .gtr (t 22) (i 119) <| z) (t 23) <|
  m 25 24 <| q 29 25 false [26, 27, 28] (f 26 1 4 <| l 27 26 <| b 28 .lss (t 27) (i 0) <| z) (t 28) <|
  m 30 29 <| q 34 30 false [31, 32, 33] (f 31 1 4 <| l 32 31 <| b 33 .gtr (t 32) (i 31) <| z) (t 33) <|
  z) <|
  (.cond (t 34) [] [2]
  (S (R <| o 2 (.move (.const (.bool false))) <| z) <|
  .ret)
  .skip)))) <|
  (R <| m 10 3 <| b 11 .add (t 10) (i 1) <| m 3 11 <| z)))))) <|
  (S (R <| f 35 0 1 <| l 36 35 <| o 37 (.call 32 [(t 36)]) <| m 38 37 <| q 49 38 true (g 39 5 ++ [48] ++ g 44 4) (f 39 1 1 <| l 40 39 <| o 41 (.len false (t 40)) <| b 42 .eql (t 41) (i 0) <| m 43 42 <| q 48 43 false (g 44 4) (f 44 1 1 <| l 45 44 <| o 46 (.len false (t 45)) <| b 47 .eql (t 46) (i 120) <| z) (t 47) <|
  z) (t 48) <|
  m 50 49 <| q 54 50 true [51, 52, 53] (f 51 2 1 <| o 52 (.load true 8 (t 51)) <| o 53 (.call 96 [(t 52), (i 0), (i 64)]) <| z) (t 53) <|
  m 55 54 <| q 59 55 true [56, 57, 58] (f 56 10 1 <| o 57 (.load true 8 (t 56)) <| o 58 (.call 96 [(t 57), (i (-32)), (i 32)]) <| z) (t 58) <|
  m 60 59 <| q 64 60 true [61, 62, 63] (f 61 18 1 <| o 62 (.load true 8 (t 61)) <| o 63 (.call 96 [(t 62), (i (-32)), (i 32)]) <| z) (t 63) <|
  m 65 64 <| q 69 65 true [66, 67, 68] (f 66 26 1 <| l 67 66 <| b 68 .leq (i 0) (t 67) <| z) (t 68) <|
  m 70 69 <| q 74 70 true [71, 72, 73] (f 71 26 1 <| l 72 71 <| b 73 .leq (t 72) (i 1024) <| z) (t 73) <|
  m 75 74 <| q 79 75 true [76, 77, 78] (f 76 27 1 <| l 77 76 <| b 78 .leq (i 0) (t 77) <| z) (t 78) <|
  m 80 79 <| q 84 80 true [81, 82, 83] (f 81 27 1 <| l 82 81 <| b 83 .leq (t 82) (i 3) <| z) (t 83) <|
  m 85 84 <| q 89 85 true [86, 87, 88] (f 86 28 1 <| l 87 86 <| b 88 .leq (i 0) (t 87) <| z) (t 88) <|
  m 90 89 <| q 94 90 true [91, 92, 93] (f 91 28 1 <| l 92 91 <| b 93 .leq (t 92) (i 3) <| z) (t 93) <|
  m 95 94 <| q 99 95 true [96, 97, 98] (f 96 29 1 <| l 97 96 <| b 98 .leq (i 0) (t 97) <| z) (t 98) <|
  m 100 99 <| q 104 100 true [101, 102, 103] (f 101 29 1 <| l 102 101 <| b 103 .leq (t 102) (i 2) <| z) (t 103) <|
  m 105 104 <| q 109 105 true [106, 107, 108] (f 106 30 1 <| l 107 106 <| b 108 .leq (i 0) (t 107) <| z) (t 108) <|
  m 110 109 <| q 114 110 true [111, 112, 113] (f 111 30 1 <| l 112 111 <| b 113 .leq (t 112) (i 64) <| z) (t 113) <|
  m 115 114 <| q 119 115 true [116, 117, 118] (f 116 31 1 <| l 117 116 <| b 118 .leq (i (-1)) (t 117) <| z) (t 118) <|
  m 120 119 <| q 124 120 true [121, 122, 123] (f 121 31 1 <| l 122 121 <| b 123 .leq (t 122) (i 127) <| z) (t 123) <|
  m 125 124 <| q 129 125 true [126, 127, 128] (f 126 32 1 <| l 127 126 <| b 128 .leq (i (-1)) (t 127) <| z) (t 128) <|
  m 130 129 <| q 134 130 true [131, 132, 133] (f 131 32 1 <| l 132 131 <| b 133 .leq (t 132) (i 127) <| z) (t 133) <|
  m 2 134 <| z) <|
  .ret))),
 [.tmp 2], [.keep]⟩
theorem ok85 : ∃ fn c, FunOk Try.prog 85 fn c A85.erase := ⟨Try.f85, _, ⟨Try.func85, rfl, by kernel_rfl, by kernel_rfl, by kernel_rfl, of_decide_eq_true (by kernel_rfl), by kernel_rfl⟩⟩
noncomputable def s85_L0 (Γ : PCallee) (n : Nat) (h : PHeap) (v0 : PV) (h1 : PHeap) (j2 : List PV → PHeap → Pt) : (List PV → PHeap → Pt) → List PV → PHeap → Pt := fun c124 w125 h126 =>
 (fieldAddrP 1 v0).bind fun v127 =>
 (loadP false 1 v127 h126).bind fun v128 =>
 (lenP false v128).bind fun v129 =>
 (binP .lss (nthP w125 0) v129).bind fun v130 =>
 KL (fun w132 h133 =>
 KL (fun w135 h136 =>
 (binP .add (nthP w125 0) (.int .i64 1 : PV)).bind fun v137 =>
 c124 [v137] (trim h1 [v137] h136)) fun j134 =>
 (fieldAddrP 1 v0).bind fun v138 =>
 (loadP false 1 v138 h133).bind fun v139 =>
 (indexAddrP 2 v139 (nthP w125 0)).bind fun v140 =>
 (loadP true 2 v140 h133).bind fun v141 =>
 forkP (.ptr h133.length 0) (h133 ++ [.box [.int .i64 0, .int .i64 0] 117 .rw]) fun v142 h143 =>
 (storeP 2 v142 v141 h143).bind fun h144 =>
 (fieldAddrP 0 v142).bind fun v145 =>
 (loadP false 1 v145 h144).bind fun v146 =>
 (binP .lss v146 (.int .i64 0 : PV)).bind fun v147 =>
 K1 (fun v149 h150 =>
 K1 (fun v152 h153 =>
 K1 (fun v155 h156 =>
 KL (fun w158 h159 =>
 j134 [] h159) fun j157 =>
 ifP v155 (
 finP [.keep] h h156 [(.bool false : PV)]) (
 j157 [] h156)) fun j154 =>
 scP v152 false (
 (fieldAddrP 1 v142).bind fun v160 =>
 (loadP false 1 v160 h153).bind fun v161 =>
 (binP .gtr v161 (.int .i64 31 : PV)).bind fun v162 =>
 j154 v162 h153)
 (j154 (.bool true) h153)) fun j151 =>
 scP v149 false (
 (fieldAddrP 1 v142).bind fun v163 =>
 (loadP false 1 v163 h150).bind fun v164 =>
 (binP .lss v164 (.int .i64 0 : PV)).bind fun v165 =>
 j151 v165 h150)
 (j151 (.bool true) h150)) fun j148 =>
 scP v147 false (
 (fieldAddrP 0 v142).bind fun v166 =>
 (loadP false 1 v166 h144).bind fun v167 =>
 (binP .gtr v167 (.int .i64 119 : PV)).bind fun v168 =>
 j148 v168 h144)
 (j148 (.bool true) h144)) fun j131 =>
 ifP v130 (
 j131 [] h126) (
 j2 [] h126)
noncomputable def s85 (Γ : PCallee) (n : Nat) (x0 : PV) (h : PHeap) : Pt :=
 forkP (.ptr h.length 0) (h ++ [.box (cellsP x0) 54 .rw]) fun v0 h1 =>
 KL (fun w3 h4 =>
 (fieldAddrP 0 v0).bind fun v5 =>
 (loadP false 1 v5 h4).bind fun v6 =>
 (Γ 32 [v6] h4).bind fun p7 =>
 K1 (fun v9 h10 =>
 K1 (fun v12 h13 =>
 K1 (fun v15 h16 =>
 K1 (fun v18 h19 =>
 K1 (fun v21 h22 =>
 K1 (fun v24 h25 =>
 K1 (fun v27 h28 =>
 K1 (fun v30 h31 =>
 K1 (fun v33 h34 =>
 K1 (fun v36 h37 =>
 K1 (fun v39 h40 =>
 K1 (fun v42 h43 =>
 K1 (fun v45 h46 =>
 K1 (fun v48 h49 =>
 K1 (fun v51 h52 =>
 K1 (fun v54 h55 =>
 K1 (fun v57 h58 =>
 K1 (fun v60 h61 =>
 finP [.keep] h h61 [v60]) fun j59 =>
 scP v57 true (
 (fieldAddrP 32 v0).bind fun v62 =>
 (loadP false 1 v62 h58).bind fun v63 =>
 (binP .leq v63 (.int .i64 127 : PV)).bind fun v64 =>
 j59 v64 h58)
 (j59 (.bool false) h58)) fun j56 =>
 scP v54 true (
 (fieldAddrP 32 v0).bind fun v65 =>
 (loadP false 1 v65 h55).bind fun v66 =>
 (binP .leq (.int .i64 (-1) : PV) v66).bind fun v67 =>
 j56 v67 h55)
 (j56 (.bool false) h55)) fun j53 =>
 scP v51 true (
 (fieldAddrP 31 v0).bind fun v68 =>
 (loadP false 1 v68 h52).bind fun v69 =>
 (binP .leq v69 (.int .i64 127 : PV)).bind fun v70 =>
 j53 v70 h52)
 (j53 (.bool false) h52)) fun j50 =>
 scP v48 true (
 (fieldAddrP 31 v0).bind fun v71 =>
 (loadP false 1 v71 h49).bind fun v72 =>
 (binP .leq (.int .i64 (-1) : PV) v72).bind fun v73 =>
 j50 v73 h49)
 (j50 (.bool false) h49)) fun j47 =>
 scP v45 true (
 (fieldAddrP 30 v0).bind fun v74 =>
 (loadP false 1 v74 h46).bind fun v75 =>
 (binP .leq v75 (.int .i64 64 : PV)).bind fun v76 =>
 j47 v76 h46)
 (j47 (.bool false) h46)) fun j44 =>
 scP v42 true (
 (fieldAddrP 30 v0).bind fun v77 =>
 (loadP false 1 v77 h43).bind fun v78 =>
 (binP .leq (.int .i64 0 : PV) v78).bind fun v79 =>
 j44 v79 h43)
 (j44 (.bool false) h43)) fun j41 =>
 scP v39 true (
 (fieldAddrP 29 v0).bind fun v80 =>
 (loadP false 1 v80 h40).bind fun v81 =>
 (binP .leq v81 (.int .i64 2 : PV)).bind fun v82 =>
 j41 v82 h40)
 (j41 (.bool false) h40)) fun j38 =>
 scP v36 true (
 (fieldAddrP 29 v0).bind fun v83 =>
 (loadP false 1 v83 h37).bind fun v84 =>
 (binP .leq (.int .i64 0 : PV) v84).bind fun v85 =>
 j38 v85 h37)
 (j38 (.bool false) h37)) fun j35 =>
 scP v33 true (
 (fieldAddrP 28 v0).bind fun v86 =>
 (loadP false 1 v86 h34).bind fun v87 =>
 (binP .leq v87 (.int .i64 3 : PV)).bind fun v88 =>
 j35 v88 h34)
 (j35 (.bool false) h34)) fun j32 =>
 scP v30 true (
 (fieldAddrP 28 v0).bind fun v89 =>
 (loadP false 1 v89 h31).bind fun v90 =>
 (binP .leq (.int .i64 0 : PV) v90).bind fun v91 =>
 j32 v91 h31)
 (j32 (.bool false) h31)) fun j29 =>
 scP v27 true (
 (fieldAddrP 27 v0).bind fun v92 =>
 (loadP false 1 v92 h28).bind fun v93 =>
 (binP .leq v93 (.int .i64 3 : PV)).bind fun v94 =>
 j29 v94 h28)
 (j29 (.bool false) h28)) fun j26 =>
 scP v24 true (
 (fieldAddrP 27 v0).bind fun v95 =>
 (loadP false 1 v95 h25).bind fun v96 =>
 (binP .leq (.int .i64 0 : PV) v96).bind fun v97 =>
 j26 v97 h25)
 (j26 (.bool false) h25)) fun j23 =>
 scP v21 true (
 (fieldAddrP 26 v0).bind fun v98 =>
 (loadP false 1 v98 h22).bind fun v99 =>
 (binP .leq v99 (.int .i64 1024 : PV)).bind fun v100 =>
 j23 v100 h22)
 (j23 (.bool false) h22)) fun j20 =>
 scP v18 true (
 (fieldAddrP 26 v0).bind fun v101 =>
 (loadP false 1 v101 h19).bind fun v102 =>
 (binP .leq (.int .i64 0 : PV) v102).bind fun v103 =>
 j20 v103 h19)
 (j20 (.bool false) h19)) fun j17 =>
 scP v15 true (
 (fieldAddrP 18 v0).bind fun v104 =>
 (loadP true 8 v104 h16).bind fun v105 =>
 (Γ 96 [v105, (.int .i64 (-32) : PV), (.int .i64 32 : PV)] h16).bind fun p106 =>
 j17 p106.1 p106.2)
 (j17 (.bool false) h16)) fun j14 =>
 scP v12 true (
 (fieldAddrP 10 v0).bind fun v107 =>
 (loadP true 8 v107 h13).bind fun v108 =>
 (Γ 96 [v108, (.int .i64 (-32) : PV), (.int .i64 32 : PV)] h13).bind fun p109 =>
 j14 p109.1 p109.2)
 (j14 (.bool false) h13)) fun j11 =>
 scP v9 true (
 (fieldAddrP 2 v0).bind fun v110 =>
 (loadP true 8 v110 h10).bind fun v111 =>
 (Γ 96 [v111, (.int .i64 0 : PV), (.int .i64 64 : PV)] h10).bind fun p112 =>
 j11 p112.1 p112.2)
 (j11 (.bool false) h10)) fun j8 =>
 scP p7.1 true (
 (fieldAddrP 1 v0).bind fun v113 =>
 (loadP false 1 v113 p7.2).bind fun v114 =>
 (lenP false v114).bind fun v115 =>
 (binP .eql v115 (.int .i64 0 : PV)).bind fun v116 =>
 K1 (fun v118 h119 =>
 j8 v118 h119) fun j117 =>
 scP v116 false (
 (fieldAddrP 1 v0).bind fun v120 =>
 (loadP false 1 v120 p7.2).bind fun v121 =>
 (lenP false v121).bind fun v122 =>
 (binP .eql v122 (.int .i64 120 : PV)).bind fun v123 =>
 j117 v123 p7.2)
 (j117 (.bool true) p7.2))
 (j8 (.bool false) p7.2)) fun j2 =>
 loopP (s85_L0 Γ n h v0 h1 j2) n [(.int .i64 0 : PV)] h1

theorem s85_eq (Γ : PCallee) (n : Nat) (x0 : PV) (h : PHeap) : pfunK Γ n A85 [x0] h = s85 Γ n x0 h := by kernel_rfl


open Go.Vm.G in
/-- orchestrion/inst.ValidEnvelope$1 -/
def A87 : PFun := ⟨4, 30,
 (S (R <| o 7 (.move (.const (.bool false))) <| z) <|
  (S (S (R <| m 8 0 <| o 9 (.un .not (t 8)) <| z) <|
  (.cond (t 9) [] ([7] ++ g 10 6)
  (S (R <| m 10 1 <| b 11 .eql (t 10) (i 0) <| m 12 11 <| q 15 12 true [13, 14] (m 13 2 <| b 14 .eql (t 13) (i 0) <| z) (t 14) <|
  m 7 15 <| z) <|
  .ret)
  .skip)) <|
  (S (R <| m 16 1 <| b 17 .geq (t 16) (i 0) <| m 18 17 <| q 22 18 true [19, 20, 21] (m 19 1 <| m 20 2 <| b 21 .leq (t 19) (t 20) <| z) (t 21) <|
  m 23 22 <| q 29 23 true (g 24 5) (m 24 2 <| f 25 1 3 <| l 26 25 <| o 27 (.len false (t 26)) <| b 28 .lss (t 24) (t 27) <| z) (t 28) <|
  m 7 29 <| z) <|
  .ret))),
 [.tmp 7], [.keep]⟩
theorem ok87 : ∃ fn c, FunOk Try.prog 87 fn c A87.erase := ⟨Try.f87, _, ⟨Try.func87, rfl, by kernel_rfl, by kernel_rfl, by kernel_rfl, of_decide_eq_true (by kernel_rfl), by kernel_rfl⟩⟩
noncomputable def s87 (Γ : PCallee) (n : Nat) (x0 : PV) (x1 : PV) (x2 : PV) (x3 : PV) (h : PHeap) : Pt :=
 (unP .not x0).bind fun v0 =>
 KL (fun w2 h3 =>
 (binP .geq x1 (.int .i64 0 : PV)).bind fun v4 =>
 K1 (fun v6 h7 =>
 K1 (fun v9 h10 =>
 finP [.keep] h h10 [v9]) fun j8 =>
 scP v6 true (
 (fieldAddrP 1 x3).bind fun v11 =>
 (loadP false 1 v11 h7).bind fun v12 =>
 (lenP false v12).bind fun v13 =>
 (binP .lss x2 v13).bind fun v14 =>
 j8 v14 h7)
 (j8 (.bool false) h7)) fun j5 =>
 scP v4 true (
 (binP .leq x1 x2).bind fun v15 =>
 j5 v15 h3)
 (j5 (.bool false) h3)) fun j1 =>
 ifP v0 (
 (binP .eql x1 (.int .i64 0 : PV)).bind fun v16 =>
 K1 (fun v18 h19 =>
 finP [.keep] h h19 [v18]) fun j17 =>
 scP v16 true (
 (binP .eql x2 (.int .i64 0 : PV)).bind fun v20 =>
 j17 v20 h)
 (j17 (.bool false) h)) (
 j1 [] h)

theorem s87_eq (Γ : PCallee) (n : Nat) (x0 : PV) (x1 : PV) (x2 : PV) (x3 : PV) (h : PHeap) : pfunK Γ n A87 [x0, x1, x2, x3] h = s87 Γ n x0 x1 x2 x3 h := by kernel_rfl


open Go.Vm.G in
/-- orchestrion/orchestrionref05.wide -/
def A88 : PFun := ⟨1, 9,
 (S (R <| o 2 (.move (.const (.bool false))) <| z) <|
  (S (R <| m 3 0 <| b 4 .leq (i 1) (t 3) <| m 5 4 <| q 8 5 true [6, 7] (m 6 0 <| b 7 .leq (t 6) (i 16) <| z) (t 7) <|
  m 2 8 <| z) <|
  .ret)),
 [.tmp 2], [.keep]⟩
theorem ok88 : ∃ fn c, FunOk Try.prog 88 fn c A88.erase := ⟨Try.f88, _, ⟨Try.func88, rfl, by kernel_rfl, by kernel_rfl, by kernel_rfl, of_decide_eq_true (by kernel_rfl), by kernel_rfl⟩⟩
noncomputable def s88 (Γ : PCallee) (n : Nat) (x0 : PV) (h : PHeap) : Pt :=
 (binP .leq (.int .i64 1 : PV) x0).bind fun v0 =>
 K1 (fun v2 h3 =>
 finP [.keep] h h3 [v2]) fun j1 =>
 scP v0 true (
 (binP .leq x0 (.int .i64 16 : PV)).bind fun v4 =>
 j1 v4 h)
 (j1 (.bool false) h)

theorem s88_eq (Γ : PCallee) (n : Nat) (x0 : PV) (h : PHeap) : pfunK Γ n A88 [x0] h = s88 Γ n x0 h := by kernel_rfl


open Go.Vm.G in
/-- orchestrion/orchestrionref05.ValidCell -/
def A89 : PFun := ⟨1, 102,
 (S (R <| o 1 (.box 107 (t 0)) <| o 2 (.move (.const (.bool false))) <| z) <|
  (S (R <| f 6 0 1 <| l 7 6 <| b 8 .leq (i 0) (t 7) <| m 9 8 <| q 13 9 true [10, 11, 12] (f 10 0 1 <| l 11 10 <| b 12 .leq (t 11) (i 120) <| z) (t 12) <|
  m 14 13 <| q 18 14 false [15, 16, 17] (f 15 0 1 <| l 16 15 <| b 17 .eql (t 16) (i 253) <| z) (t 17) <|
  m 19 18 <| q 23 19 false [20, 21, 22] (f 20 0 1 <| l 21 20 <| b 22 .eql (t 21) (i 254) <| z) (t 22) <|
  m 24 23 <| q 28 24 false [25, 26, 27] (f 25 0 1 <| l 26 25 <| b 27 .eql (t 26) (i 255) <| z) (t 27) <|
  m 3 28 <| z) <|
  (S (R <| f 29 2 1 <| l 30 29 <| b 31 .eql (t 30) (i 0) <| m 32 31 <| q 36 32 true [33, 34, 35] (f 33 3 1 <| l 34 33 <| b 35 .eql (t 34) (i 0) <| z) (t 35) <|
  m 37 36 <| q 56 37 false (g 38 4 ++ [45, 42, 43, 44, 46, 50, 47, 48, 49, 51, 55, 52, 53, 54]) (f 38 2 1 <| l 39 38 <| b 40 .leq (i 1) (t 39) <| m 41 40 <| q 45 41 true [42, 43, 44] (f 42 2 1 <| l 43 42 <| b 44 .leq (t 43) (i 12) <| z) (t 44) <|
  m 46 45 <| q 50 46 true [47, 48, 49] (f 47 3 1 <| l 48 47 <| b 49 .leq (i 0) (t 48) <| z) (t 49) <|
  m 51 50 <| q 55 51 true [52, 53, 54] (f 52 3 1 <| l 53 52 <| b 54 .leq (t 53) (i 99) <| z) (t 54) <|
  z) (t 55) <|
  m 4 56 <| z) <|
  (S (R <| f 57 4 1 <| l 58 57 <| b 59 .eql (t 58) (i 0) <| m 60 59 <| q 64 60 true [61, 62, 63] (f 61 5 1 <| l 62 61 <| b 63 .eql (t 62) (i 0) <| z) (t 63) <|
  m 65 64 <| q 84 65 false (g 66 4 ++ [73, 70, 71, 72, 74, 78, 75, 76, 77, 79, 83, 80, 81, 82]) (f 66 4 1 <| l 67 66 <| b 68 .leq (i 1) (t 67) <| m 69 68 <| q 73 69 true [70, 71, 72] (f 70 4 1 <| l 71 70 <| b 72 .leq (t 71) (i 36) <| z) (t 72) <|
  m 74 73 <| q 78 74 true [75, 76, 77] (f 75 5 1 <| l 76 75 <| b 77 .leq (i 0) (t 76) <| z) (t 77) <|
  m 79 78 <| q 83 79 true [80, 81, 82] (f 80 5 1 <| l 81 80 <| b 82 .leq (t 81) (i 255) <| z) (t 82) <|
  z) (t 83) <|
  m 5 84 <| z) <|
  (S (R <| m 85 3 <| m 86 85 <| q 88 86 true [87] (m 87 4 <| z) (t 87) <|
  m 89 88 <| q 91 89 true [90] (m 90 5 <| z) (t 90) <|
  m 92 91 <| q 96 92 true [93, 94, 95] (f 93 1 1 <| l 94 93 <| b 95 .leq (i 0) (t 94) <| z) (t 95) <|
  m 97 96 <| q 101 97 true [98, 99, 100] (f 98 1 1 <| l 99 98 <| b 100 .leq (t 99) (i 31) <| z) (t 100) <|
  m 2 101 <| z) <|
  .ret))))),
 [.tmp 2], [.keep]⟩
theorem ok89 : ∃ fn c, FunOk Try.prog 89 fn c A89.erase := ⟨Try.f89, _, ⟨Try.func89, rfl, by kernel_rfl, by kernel_rfl, by kernel_rfl, of_decide_eq_true (by kernel_rfl), by kernel_rfl⟩⟩
noncomputable def s89 (Γ : PCallee) (n : Nat) (x0 : PV) (h : PHeap) : Pt :=
 forkP (.ptr h.length 0) (h ++ [.box (cellsP x0) 107 .rw]) fun v0 h1 =>
 (fieldAddrP 0 v0).bind fun v2 =>
 (loadP false 1 v2 h1).bind fun v3 =>
 (binP .leq (.int .i64 0 : PV) v3).bind fun v4 =>
 K1 (fun v6 h7 =>
 K1 (fun v9 h10 =>
 K1 (fun v12 h13 =>
 K1 (fun v15 h16 =>
 (fieldAddrP 2 v0).bind fun v17 =>
 (loadP false 1 v17 h16).bind fun v18 =>
 (binP .eql v18 (.int .i64 0 : PV)).bind fun v19 =>
 K1 (fun v21 h22 =>
 K1 (fun v24 h25 =>
 (fieldAddrP 4 v0).bind fun v26 =>
 (loadP false 1 v26 h25).bind fun v27 =>
 (binP .eql v27 (.int .i64 0 : PV)).bind fun v28 =>
 K1 (fun v30 h31 =>
 K1 (fun v33 h34 =>
 K1 (fun v36 h37 =>
 K1 (fun v39 h40 =>
 K1 (fun v42 h43 =>
 K1 (fun v45 h46 =>
 finP [.keep] h h46 [v45]) fun j44 =>
 scP v42 true (
 (fieldAddrP 1 v0).bind fun v47 =>
 (loadP false 1 v47 h43).bind fun v48 =>
 (binP .leq v48 (.int .i64 31 : PV)).bind fun v49 =>
 j44 v49 h43)
 (j44 (.bool false) h43)) fun j41 =>
 scP v39 true (
 (fieldAddrP 1 v0).bind fun v50 =>
 (loadP false 1 v50 h40).bind fun v51 =>
 (binP .leq (.int .i64 0 : PV) v51).bind fun v52 =>
 j41 v52 h40)
 (j41 (.bool false) h40)) fun j38 =>
 scP v36 true (
 j38 v33 h37)
 (j38 (.bool false) h37)) fun j35 =>
 scP v15 true (
 j35 v24 h34)
 (j35 (.bool false) h34)) fun j32 =>
 scP v30 false (
 (fieldAddrP 4 v0).bind fun v53 =>
 (loadP false 1 v53 h31).bind fun v54 =>
 (binP .leq (.int .i64 1 : PV) v54).bind fun v55 =>
 K1 (fun v57 h58 =>
 K1 (fun v60 h61 =>
 K1 (fun v63 h64 =>
 j32 v63 h64) fun j62 =>
 scP v60 true (
 (fieldAddrP 5 v0).bind fun v65 =>
 (loadP false 1 v65 h61).bind fun v66 =>
 (binP .leq v66 (.int .i64 255 : PV)).bind fun v67 =>
 j62 v67 h61)
 (j62 (.bool false) h61)) fun j59 =>
 scP v57 true (
 (fieldAddrP 5 v0).bind fun v68 =>
 (loadP false 1 v68 h58).bind fun v69 =>
 (binP .leq (.int .i64 0 : PV) v69).bind fun v70 =>
 j59 v70 h58)
 (j59 (.bool false) h58)) fun j56 =>
 scP v55 true (
 (fieldAddrP 4 v0).bind fun v71 =>
 (loadP false 1 v71 h31).bind fun v72 =>
 (binP .leq v72 (.int .i64 36 : PV)).bind fun v73 =>
 j56 v73 h31)
 (j56 (.bool false) h31))
 (j32 (.bool true) h31)) fun j29 =>
 scP v28 true (
 (fieldAddrP 5 v0).bind fun v74 =>
 (loadP false 1 v74 h25).bind fun v75 =>
 (binP .eql v75 (.int .i64 0 : PV)).bind fun v76 =>
 j29 v76 h25)
 (j29 (.bool false) h25)) fun j23 =>
 scP v21 false (
 (fieldAddrP 2 v0).bind fun v77 =>
 (loadP false 1 v77 h22).bind fun v78 =>
 (binP .leq (.int .i64 1 : PV) v78).bind fun v79 =>
 K1 (fun v81 h82 =>
 K1 (fun v84 h85 =>
 K1 (fun v87 h88 =>
 j23 v87 h88) fun j86 =>
 scP v84 true (
 (fieldAddrP 3 v0).bind fun v89 =>
 (loadP false 1 v89 h85).bind fun v90 =>
 (binP .leq v90 (.int .i64 99 : PV)).bind fun v91 =>
 j86 v91 h85)
 (j86 (.bool false) h85)) fun j83 =>
 scP v81 true (
 (fieldAddrP 3 v0).bind fun v92 =>
 (loadP false 1 v92 h82).bind fun v93 =>
 (binP .leq (.int .i64 0 : PV) v93).bind fun v94 =>
 j83 v94 h82)
 (j83 (.bool false) h82)) fun j80 =>
 scP v79 true (
 (fieldAddrP 2 v0).bind fun v95 =>
 (loadP false 1 v95 h22).bind fun v96 =>
 (binP .leq v96 (.int .i64 12 : PV)).bind fun v97 =>
 j80 v97 h22)
 (j80 (.bool false) h22))
 (j23 (.bool true) h22)) fun j20 =>
 scP v19 true (
 (fieldAddrP 3 v0).bind fun v98 =>
 (loadP false 1 v98 h16).bind fun v99 =>
 (binP .eql v99 (.int .i64 0 : PV)).bind fun v100 =>
 j20 v100 h16)
 (j20 (.bool false) h16)) fun j14 =>
 scP v12 false (
 (fieldAddrP 0 v0).bind fun v101 =>
 (loadP false 1 v101 h13).bind fun v102 =>
 (binP .eql v102 (.int .i64 255 : PV)).bind fun v103 =>
 j14 v103 h13)
 (j14 (.bool true) h13)) fun j11 =>
 scP v9 false (
 (fieldAddrP 0 v0).bind fun v104 =>
 (loadP false 1 v104 h10).bind fun v105 =>
 (binP .eql v105 (.int .i64 254 : PV)).bind fun v106 =>
 j11 v106 h10)
 (j11 (.bool true) h10)) fun j8 =>
 scP v6 false (
 (fieldAddrP 0 v0).bind fun v107 =>
 (loadP false 1 v107 h7).bind fun v108 =>
 (binP .eql v108 (.int .i64 253 : PV)).bind fun v109 =>
 j8 v109 h7)
 (j8 (.bool true) h7)) fun j5 =>
 scP v4 true (
 (fieldAddrP 0 v0).bind fun v110 =>
 (loadP false 1 v110 h1).bind fun v111 =>
 (binP .leq v111 (.int .i64 120 : PV)).bind fun v112 =>
 j5 v112 h1)
 (j5 (.bool false) h1)

theorem s89_eq (Γ : PCallee) (n : Nat) (x0 : PV) (h : PHeap) : pfunK Γ n A89 [x0] h = s89 Γ n x0 h := by kernel_rfl


open Go.Vm.G in
/-- orchestrion/orchestrionref06.noted -/
def A90 : PFun := ⟨2, 49,
 (S (R <| o 4 (.move (.const (.bool false))) <| z) <|
  (S (R <| m 8 0 <| o 9 (.call 29 [(t 8)]) <| m 7 9 <| o 10 (.extract (t 7) 0) <| o 11 (.extract (t 7) 1) <| o 5 (.new 82 V29) <| n (.store 29 (t 5) (t 10)) <| m 6 11 <| z) <|
  (S (S (R <| m 12 1 <| z) <|
  (.block 0 [] ([4] ++ g 13 26)
  (S (R <| b 14 .eql (t 12) (i 0) <| m 13 14 <| z) <|
  (.cond (t 13) [] ([4] ++ g 15 24)
  (S (R <| o 4 (.move (.const (.bool true))) <| z) <|
  .ret)
  (S (R <| b 16 .eql (t 12) (i 255) <| m 15 16 <| z) <|
  (.cond (t 15) [] ([4] ++ g 17 22)
  (S (R <| m 17 0 <| b 18 .eql (t 17) (i 3) <| m 19 18 <| q 22 19 false [20, 21] (m 20 0 <| b 21 .eql (t 20) (i 4) <| z) (t 21) <|
  m 23 22 <| q 26 23 false [24, 25] (m 24 0 <| b 25 .eql (t 24) (i 6) <| z) (t 25) <|
  m 4 26 <| z) <|
  .ret)
  (S (R <| b 28 .eql (t 12) (i 254) <| m 27 28 <| z) <|
  (.cond (t 27) [] ([4] ++ g 29 10)
  (S (R <| m 29 0 <| b 30 .eql (t 29) (i 2) <| m 31 30 <| q 34 31 false [32, 33] (m 32 0 <| b 33 .eql (t 32) (i 4) <| z) (t 33) <|
  m 4 34 <| z) <|
  .ret)
  (S (R <| b 36 .eql (t 12) (i 253) <| m 35 36 <| z) <|
  (.cond (t 35) [] [4, 37, 38]
  (S (R <| m 37 0 <| b 38 .eql (t 37) (i 4) <| m 4 38 <| z) <|
  .ret)
  .skip)))))))))) <|
  (S (R <| f 39 4 5 <| l 40 39 <| m 41 1 <| b 42 .leq (t 40) (t 41) <| m 43 42 <| q 48 43 true (g 44 4) (m 44 1 <| f 45 5 5 <| l 46 45 <| b 47 .leq (t 44) (t 46) <| z) (t 47) <|
  m 4 48 <| z) <|
  .ret)))),
 [.tmp 4], [.keep]⟩
theorem ok90 : ∃ fn c, FunOk Try.prog 90 fn c A90.erase := ⟨Try.f90, _, ⟨Try.func90, rfl, by kernel_rfl, by kernel_rfl, by kernel_rfl, of_decide_eq_true (by kernel_rfl), by kernel_rfl⟩⟩
noncomputable def s90 (Γ : PCallee) (n : Nat) (x0 : PV) (x1 : PV) (h : PHeap) : Pt :=
 (Γ 29 [x0] h).bind fun p0 =>
 (extractP p0.1 0).bind fun v1 =>
 (extractP p0.1 1).bind fun v2 =>
 forkP (.ptr p0.2.length 0) (p0.2 ++ [.box Z29 82 .rw]) fun v3 h4 =>
 (storeP 29 v3 v1 h4).bind fun h5 =>
 KL (fun w7 h8 =>
 (fieldAddrP 4 v3).bind fun v9 =>
 (loadP false 1 v9 h8).bind fun v10 =>
 (binP .leq v10 x1).bind fun v11 =>
 K1 (fun v13 h14 =>
 finP [.keep] h h14 [v13]) fun j12 =>
 scP v11 true (
 (fieldAddrP 5 v3).bind fun v15 =>
 (loadP false 1 v15 h8).bind fun v16 =>
 (binP .leq x1 v16).bind fun v17 =>
 j12 v17 h8)
 (j12 (.bool false) h8)) fun j6 =>
 (binP .eql x1 (.int .i64 0 : PV)).bind fun v18 =>
 KL (fun w20 h21 =>
 j6 [] h21) fun j19 =>
 ifP v18 (
 finP [.keep] h h5 [(.bool true : PV)]) (
 (binP .eql x1 (.int .i64 255 : PV)).bind fun v22 =>
 KL (fun w24 h25 =>
 j19 [] h25) fun j23 =>
 ifP v22 (
 (binP .eql x0 (.int .i64 3 : PV)).bind fun v26 =>
 K1 (fun v28 h29 =>
 K1 (fun v31 h32 =>
 finP [.keep] h h32 [v31]) fun j30 =>
 scP v28 false (
 (binP .eql x0 (.int .i64 6 : PV)).bind fun v33 =>
 j30 v33 h29)
 (j30 (.bool true) h29)) fun j27 =>
 scP v26 false (
 (binP .eql x0 (.int .i64 4 : PV)).bind fun v34 =>
 j27 v34 h5)
 (j27 (.bool true) h5)) (
 (binP .eql x1 (.int .i64 254 : PV)).bind fun v35 =>
 KL (fun w37 h38 =>
 j23 [] h38) fun j36 =>
 ifP v35 (
 (binP .eql x0 (.int .i64 2 : PV)).bind fun v39 =>
 K1 (fun v41 h42 =>
 finP [.keep] h h42 [v41]) fun j40 =>
 scP v39 false (
 (binP .eql x0 (.int .i64 4 : PV)).bind fun v43 =>
 j40 v43 h5)
 (j40 (.bool true) h5)) (
 (binP .eql x1 (.int .i64 253 : PV)).bind fun v44 =>
 KL (fun w46 h47 =>
 j36 [] h47) fun j45 =>
 ifP v44 (
 (binP .eql x0 (.int .i64 4 : PV)).bind fun v48 =>
 finP [.keep] h h5 [v48]) (
 j45 [] h5))))

theorem s90_eq (Γ : PCallee) (n : Nat) (x0 : PV) (x1 : PV) (h : PHeap) : pfunK Γ n A90 [x0, x1] h = s90 Γ n x0 x1 h := by kernel_rfl


open Go.Vm.G in
/-- orchestrion/orchestrionref06.commands -/
def A91 : PFun := ⟨1, 10,
 (S (R <| o 2 (.move (i 0)) <| z) <|
  (S (S (R <| m 3 0 <| z) <|
  (.block 0 [] ([2] ++ g 4 6)
  (S (R <| b 5 .eql (t 3) (i 2) <| m 4 5 <| z) <|
  (.cond (t 4) [] ([2] ++ g 6 4)
  (S (R <| o 2 (.move (i 1)) <| z) <|
  .ret)
  (S (R <| b 7 .eql (t 3) (i 3) <| m 6 7 <| z) <|
  (.cond (t 6) [] [2, 8, 9]
  (S (R <| o 2 (.move (i 8)) <| z) <|
  .ret)
  (S (R <| b 9 .eql (t 3) (i 4) <| m 8 9 <| z) <|
  (.cond (t 8) [] [2]
  (S (R <| o 2 (.move (i 10)) <| z) <|
  .ret)
  .skip)))))))) <|
  (S (R <| o 2 (.move (i 0)) <| z) <|
  .ret))),
 [.tmp 2], [.keep]⟩
theorem ok91 : ∃ fn c, FunOk Try.prog 91 fn c A91.erase := ⟨Try.f91, _, ⟨Try.func91, rfl, by kernel_rfl, by kernel_rfl, by kernel_rfl, of_decide_eq_true (by kernel_rfl), by kernel_rfl⟩⟩
noncomputable def s91 (Γ : PCallee) (n : Nat) (x0 : PV) (h : PHeap) : Pt :=
 KL (fun w1 h2 =>
 finP [.keep] h h2 [(.int .i64 0 : PV)]) fun j0 =>
 (binP .eql x0 (.int .i64 2 : PV)).bind fun v3 =>
 KL (fun w5 h6 =>
 j0 [] h6) fun j4 =>
 ifP v3 (
 finP [.keep] h h [(.int .i64 1 : PV)]) (
 (binP .eql x0 (.int .i64 3 : PV)).bind fun v7 =>
 KL (fun w9 h10 =>
 j4 [] h10) fun j8 =>
 ifP v7 (
 finP [.keep] h h [(.int .i64 8 : PV)]) (
 (binP .eql x0 (.int .i64 4 : PV)).bind fun v11 =>
 KL (fun w13 h14 =>
 j8 [] h14) fun j12 =>
 ifP v11 (
 finP [.keep] h h [(.int .i64 10 : PV)]) (
 j12 [] h)))

theorem s91_eq (Γ : PCallee) (n : Nat) (x0 : PV) (h : PHeap) : pfunK Γ n A91 [x0] h = s91 Γ n x0 h := by kernel_rfl


open Go.Vm.G in
/-- orchestrion/orchestrionref06.has -/
def A92 : PFun := ⟨2, 17,
 (S (R <| o 4 (.move (.const (.bool false))) <| z) <|
  (S (S (R <| o 5 (.move (i 0)) <| z) <|
  (.block 0 [] (g 4 13)
  (.loop [5] ([4] ++ g 6 11)
  (S (S (R <| m 6 5 <| m 7 0 <| o 8 (.len true (t 7)) <| b 9 .lss (t 6) (t 8) <| z) <|
  (.cond (t 9) [] []
  .skip
  (.exit 0))) <|
  (S (.block 1 [] ([4] ++ g 12 5)
  (S (R <| m 12 0 <| m 13 5 <| o 14 (.indexStr (t 12) (t 13)) <| m 15 1 <| b 16 .eql (t 14) (t 15) <| z) <|
  (.cond (t 16) [] [4]
  (S (R <| o 4 (.move (.const (.bool true))) <| z) <|
  .ret)
  .skip))) <|
  (R <| m 10 5 <| b 11 .add (t 10) (i 1) <| m 5 11 <| z)))))) <|
  (S (R <| o 4 (.move (.const (.bool false))) <| z) <|
  .ret))),
 [.tmp 4], [.keep]⟩
theorem ok92 : ∃ fn c, FunOk Try.prog 92 fn c A92.erase := ⟨Try.f92, _, ⟨Try.func92, rfl, by kernel_rfl, by kernel_rfl, by kernel_rfl, of_decide_eq_true (by kernel_rfl), by kernel_rfl⟩⟩
noncomputable def s92_L0 (Γ : PCallee) (n : Nat) (x0 : PV) (x1 : PV) (h : PHeap) (j0 : List PV → PHeap → Pt) : (List PV → PHeap → Pt) → List PV → PHeap → Pt := fun c3 w4 h5 =>
 (lenP true x0).bind fun v6 =>
 (binP .lss (nthP w4 0) v6).bind fun v7 =>
 KL (fun w9 h10 =>
 KL (fun w12 h13 =>
 (binP .add (nthP w4 0) (.int .i64 1 : PV)).bind fun v14 =>
 c3 [v14] (trim h [v14] h13)) fun j11 =>
 (indexStrP x0 (nthP w4 0)).bind fun v15 =>
 (binP .eql v15 x1).bind fun v16 =>
 KL (fun w18 h19 =>
 j11 [] h19) fun j17 =>
 ifP v16 (
 finP [.keep] h h10 [(.bool true : PV)]) (
 j17 [] h10)) fun j8 =>
 ifP v7 (
 j8 [] h5) (
 j0 [] h5)
noncomputable def s92 (Γ : PCallee) (n : Nat) (x0 : PV) (x1 : PV) (h : PHeap) : Pt :=
 KL (fun w1 h2 =>
 finP [.keep] h h2 [(.bool false : PV)]) fun j0 =>
 loopP (s92_L0 Γ n x0 x1 h j0) n [(.int .i64 0 : PV)] h

theorem s92_eq (Γ : PCallee) (n : Nat) (x0 : PV) (x1 : PV) (h : PHeap) : pfunK Γ n A92 [x0, x1] h = s92 Γ n x0 x1 h := by kernel_rfl


open Go.Vm.G in
/-- orchestrion/orchestrionref06.Letters -/
def A93 : PFun := ⟨1, 16,
 (S (R <| o 2 (.move (.const (.string ⟨#[]⟩))) <| z) <|
  (S (S (R <| m 3 0 <| z) <|
  (.block 0 [] ([2] ++ g 4 12)
  (S (R <| b 5 .eql (t 3) (i 1) <| m 4 5 <| z) <|
  (.cond (t 4) [] ([2] ++ g 6 10)
  (S (R <| o 2 (.move (.const (.string ⟨#[48, 49, 50, 51, 52, 53, 54, 55, 56, 57, 65, 66, 67, 68, 69, 70]⟩))) <| z) <|
  .ret)
  (S (R <| b 7 .eql (t 3) (i 2) <| m 6 7 <| z) <|
  (.cond (t 6) [] ([2] ++ g 8 8)
  (S (R <| o 2 (.move (.const (.string ⟨#[65, 66, 67, 68, 69, 70, 71, 72, 73, 74, 75, 76, 79, 81, 82, 83, 84, 85, 86, 88]⟩))) <| z) <|
  .ret)
  (S (R <| b 9 .eql (t 3) (i 3) <| m 8 9 <| z) <|
  (.cond (t 8) [] ([2] ++ g 10 6)
  (S (R <| o 2 (.move (.const (.string ⟨#[48, 49, 50, 51, 52, 53, 54, 55, 56, 57, 65, 66, 67, 68, 69, 70, 71, 72, 75, 76, 80, 82, 84, 88]⟩))) <| z) <|
  .ret)
  (S (R <| b 11 .eql (t 3) (i 4) <| m 10 11 <| z) <|
  (.cond (t 10) [] ([2] ++ g 12 4)
  (S (R <| o 2 (.move (.const (.string ⟨#[65, 66, 67, 68, 69, 70, 71, 72, 73, 74, 75, 76, 77, 78, 79, 80, 81, 82, 83, 84, 85, 86, 87, 88, 89, 90]⟩))) <| z) <|
  .ret)
  (S (R <| b 13 .eql (t 3) (i 5) <| m 12 13 <| z) <|
  (.cond (t 12) [] [2, 14, 15]
  (S (R <| o 2 (.move (.const (.string ⟨#[48, 49, 50, 51, 52, 53]⟩))) <| z) <|
  .ret)
  (S (R <| b 15 .eql (t 3) (i 6) <| m 14 15 <| z) <|
  (.cond (t 14) [] [2]
  (S (R <| o 2 (.move (.const (.string ⟨#[48, 49, 50, 51, 52, 65, 66, 67, 68, 69, 70, 78, 83]⟩))) <| z) <|
  .ret)
  .skip)))))))))))))) <|
  (S (R <| o 2 (.move (.const (.string ⟨#[]⟩))) <| z) <|
  .ret))),
 [.tmp 2], [.keep]⟩
theorem ok93 : ∃ fn c, FunOk Try.prog 93 fn c A93.erase := ⟨Try.f93, _, ⟨Try.func93, rfl, by kernel_rfl, by kernel_rfl, by kernel_rfl, of_decide_eq_true (by kernel_rfl), by kernel_rfl⟩⟩
noncomputable def s93 (Γ : PCallee) (n : Nat) (x0 : PV) (h : PHeap) : Pt :=
 KL (fun w1 h2 =>
 finP [.keep] h h2 [(.str ⟨#[]⟩ : PV)]) fun j0 =>
 (binP .eql x0 (.int .i64 1 : PV)).bind fun v3 =>
 KL (fun w5 h6 =>
 j0 [] h6) fun j4 =>
 ifP v3 (
 finP [.keep] h h [(.str ⟨#[48, 49, 50, 51, 52, 53, 54, 55, 56, 57, 65, 66, 67, 68, 69, 70]⟩ : PV)]) (
 (binP .eql x0 (.int .i64 2 : PV)).bind fun v7 =>
 KL (fun w9 h10 =>
 j4 [] h10) fun j8 =>
 ifP v7 (
 finP [.keep] h h [(.str ⟨#[65, 66, 67, 68, 69, 70, 71, 72, 73, 74, 75, 76, 79, 81, 82, 83, 84, 85, 86, 88]⟩ : PV)]) (
 (binP .eql x0 (.int .i64 3 : PV)).bind fun v11 =>
 KL (fun w13 h14 =>
 j8 [] h14) fun j12 =>
 ifP v11 (
 finP [.keep] h h [(.str ⟨#[48, 49, 50, 51, 52, 53, 54, 55, 56, 57, 65, 66, 67, 68, 69, 70, 71, 72, 75, 76, 80, 82, 84, 88]⟩ : PV)]) (
 (binP .eql x0 (.int .i64 4 : PV)).bind fun v15 =>
 KL (fun w17 h18 =>
 j12 [] h18) fun j16 =>
 ifP v15 (
 finP [.keep] h h [(.str ⟨#[65, 66, 67, 68, 69, 70, 71, 72, 73, 74, 75, 76, 77, 78, 79, 80, 81, 82, 83, 84, 85, 86, 87, 88, 89, 90]⟩ : PV)]) (
 (binP .eql x0 (.int .i64 5 : PV)).bind fun v19 =>
 KL (fun w21 h22 =>
 j16 [] h22) fun j20 =>
 ifP v19 (
 finP [.keep] h h [(.str ⟨#[48, 49, 50, 51, 52, 53]⟩ : PV)]) (
 (binP .eql x0 (.int .i64 6 : PV)).bind fun v23 =>
 KL (fun w25 h26 =>
 j20 [] h26) fun j24 =>
 ifP v23 (
 finP [.keep] h h [(.str ⟨#[48, 49, 50, 51, 52, 65, 66, 67, 68, 69, 70, 78, 83]⟩ : PV)]) (
 j24 [] h))))))

theorem s93_eq (Γ : PCallee) (n : Nat) (x0 : PV) (h : PHeap) : pfunK Γ n A93 [x0] h = s93 Γ n x0 h := by kernel_rfl


open Go.Vm.G in
/-- orchestrion/orchestrionref06.letter -/
def A94 : PFun := ⟨1, 13,
 (S (R <| o 2 (.move (.const (.int .u8 0))) <| z) <|
  (S (S (R <| m 3 0 <| b 4 .leq (t 3) (i 10) <| z) <|
  (.cond (t 4) [] ([2] ++ g 5 4)
  (S (R <| m 5 0 <| b 6 .sub (t 5) (i 1) <| o 7 (.conv .u8 (t 6)) <| b 8 .add (.const (.int .u8 48)) (t 7) <| m 2 8 <| z) <|
  .ret)
  .skip)) <|
  (S (R <| m 9 0 <| b 10 .sub (t 9) (i 11) <| o 11 (.conv .u8 (t 10)) <| b 12 .add (.const (.int .u8 65)) (t 11) <| m 2 12 <| z) <|
  .ret))),
 [.tmp 2], [.keep]⟩
theorem ok94 : ∃ fn c, FunOk Try.prog 94 fn c A94.erase := ⟨Try.f94, _, ⟨Try.func94, rfl, by kernel_rfl, by kernel_rfl, by kernel_rfl, of_decide_eq_true (by kernel_rfl), by kernel_rfl⟩⟩
noncomputable def s94 (Γ : PCallee) (n : Nat) (x0 : PV) (h : PHeap) : Pt :=
 (binP .leq x0 (.int .i64 10 : PV)).bind fun v0 =>
 KL (fun w2 h3 =>
 (binP .sub x0 (.int .i64 11 : PV)).bind fun v4 =>
 (convP .u8 v4).bind fun v5 =>
 (binP .add (.int .u8 65 : PV) v5).bind fun v6 =>
 finP [.keep] h h3 [v6]) fun j1 =>
 ifP v0 (
 (binP .sub x0 (.int .i64 1 : PV)).bind fun v7 =>
 (convP .u8 v7).bind fun v8 =>
 (binP .add (.int .u8 48 : PV) v8).bind fun v9 =>
 finP [.keep] h h [v9]) (
 j1 [] h)

theorem s94_eq (Γ : PCallee) (n : Nat) (x0 : PV) (h : PHeap) : pfunK Γ n A94 [x0] h = s94 Γ n x0 h := by kernel_rfl


open Go.Vm.G in
/-- orchestrion/orchestrionref07.insts -/
def A95 : PFun := ⟨1, 13,
 (S (R <| o 1 (.box 27 (t 0)) <| o 2 (.move (.const (.bool false))) <| z) <|
  (S (R <| f 6 1 1 <| l 7 6 <| o 8 (.call 29 [(t 7)]) <| m 5 8 <| o 9 (.extract (t 5) 0) <| o 10 (.extract (t 5) 1) <| o 3 (.new 82 V29) <| n (.store 29 (t 3) (t 9)) <| m 4 10 <| z) <|
  (S (R <| f 11 6 3 <| l 12 11 <| m 2 12 <| z) <|
  .ret))),
 [.tmp 2], [.keep]⟩
theorem ok95 : ∃ fn c, FunOk Try.prog 95 fn c A95.erase := ⟨Try.f95, _, ⟨Try.func95, rfl, by kernel_rfl, by kernel_rfl, by kernel_rfl, of_decide_eq_true (by kernel_rfl), by kernel_rfl⟩⟩
noncomputable def s95 (Γ : PCallee) (n : Nat) (x0 : PV) (h : PHeap) : Pt :=
 forkP (.ptr h.length 0) (h ++ [.box (cellsP x0) 27 .rw]) fun v0 h1 =>
 (fieldAddrP 1 v0).bind fun v2 =>
 (loadP false 1 v2 h1).bind fun v3 =>
 (Γ 29 [v3] h1).bind fun p4 =>
 (extractP p4.1 0).bind fun v5 =>
 (extractP p4.1 1).bind fun v6 =>
 forkP (.ptr p4.2.length 0) (p4.2 ++ [.box Z29 82 .rw]) fun v7 h8 =>
 (storeP 29 v7 v5 h8).bind fun h9 =>
 (fieldAddrP 6 v7).bind fun v10 =>
 (loadP false 1 v10 h9).bind fun v11 =>
 finP [.keep] h h9 [v11]

theorem s95_eq (Γ : PCallee) (n : Nat) (x0 : PV) (h : PHeap) : pfunK Γ n A95 [x0] h = s95 Γ n x0 h := by kernel_rfl


open Go.Vm.G in
/-- orchestrion/orchestrionref04.ValidEnvelope -/
def A96 : PFun := ⟨3, 91,
 (S (R <| o 3 (.box 52 (t 0)) <| o 6 (.move (.const (.bool false))) <| z) <|
  (S (R <| f 10 1 3 <| l 11 10 <| o 12 (.len false (t 11)) <| m 7 12 <| z) <|
  (S (S (R <| m 13 7 <| b 14 .gtr (t 13) (i 16) <| m 15 14 <| q 22 15 false [16, 17, 18, 21, 19, 20] (f 16 0 3 <| l 17 16 <| m 18 17 <| q 21 18 true [19, 20] (m 19 7 <| b 20 .eql (t 19) (i 0) <| z) (t 20) <|
  z) (t 21) <|
  z) <|
  (.cond (t 22) [] [6]
  (S (R <| o 6 (.move (.const (.bool false))) <| z) <|
  .ret)
  .skip)) <|
  (S (S (R <| o 8 (.move (i 0)) <| z) <|
  (.block 0 [] ([6, 8, 9] ++ g 23 50)
  (.loop [8] ([6, 9] ++ g 23 50)
  (S (S (R <| m 23 8 <| m 24 7 <| b 25 .lss (t 23) (t 24) <| z) <|
  (.cond (t 25) [] []
  .skip
  (.exit 0))) <|
  (S (.block 1 [] ([6, 9] ++ g 28 45)
  (S (R <| f 28 1 3 <| l 29 28 <| m 30 8 <| o 31 (.indexAddr 2 (t 29) (t 30)) <| o 32 (.load true 2 (t 31)) <| o 9 (.new 137 [(.int .i64 0), (.int .i64 0)]) <| n (.store 2 (t 9) (t 32)) <| z) <|
  (S (D <| m 33 8 <| b 34 .eql (t 33) (i 0) <| m 35 34 <| q 39 35 true [36, 37, 38] (f 36 0 9 <| l 37 36 <| b 38 .neq (t 37) (i 0) <| z) (t 38) <|
  m 40 39 <| q 55 40 false ([41, 42, 43, 54] ++ g 44 10) (m 41 8 <| b 42 .gtr (t 41) (i 0) <| m 43 42 <| q 54 43 true (g 44 10) (f 44 0 9 <| l 45 44 <| f 46 1 3 <| l 47 46 <| m 48 8 <| b 49 .sub (t 48) (i 1) <| o 50 (.indexAddr 2 (t 47) (t 49)) <| f 51 0 50 <| l 52 51 <| b 53 .leq (t 45) (t 52) <| z) (t 53) <|
  z) (t 54) <|
  m 56 55 <| q 60 56 false [57, 58, 59] (f 57 0 9 <| l 58 57 <| b 59 .gtr (t 58) (i 9999) <| z) (t 59) <|
  m 61 60 <| q 66 61 false (g 62 4) (f 62 1 9 <| l 63 62 <| m 64 1 <| b 65 .lss (t 63) (t 64) <| z) (t 65) <|
  m 67 66 <| q 72 67 false (g 68 4) (f 68 1 9 <| l 69 68 <| m 70 2 <| b 71 .gtr (t 69) (t 70) <| z) (t 71) <|
  z) <|
  (.cond (t 72) [] [6]
  (S (R <| o 6 (.move (.const (.bool false))) <| z) <|
  .ret)
  .skip)))) <|
  (R <| m 26 8 <| b 27 .add (t 26) (i 1) <| m 8 27 <| z)))))) <|
  (S (R <| f 73 2 3 <| l 74 73 <| f 75 3 3 <| l 76 75 <| f 77 4 3 <| l 78 77 <| m 79 7 <| o 80 (.call 98 [(t 74), (t 76), (t 78), (t 79)]) <| m 81 80 <| q 90 81 true (g 82 8) (f 82 5 3 <| l 83 82 <| f 84 6 3 <| l 85 84 <| f 86 7 3 <| l 87 86 <| m 88 7 <| o 89 (.call 98 [(t 83), (t 85), (t 87), (t 88)]) <| z) (t 89) <|
  m 6 90 <| z) <|
  .ret))))),
 [.tmp 6], [.keep]⟩
theorem ok96 : ∃ fn c, FunOk Try.prog 96 fn c A96.erase := ⟨Try.f96, _, ⟨Try.func96, rfl, by kernel_rfl, by kernel_rfl, by kernel_rfl, of_decide_eq_true (by kernel_rfl), by kernel_rfl⟩⟩
noncomputable def s96_L0 (Γ : PCallee) (n : Nat) (x1 : PV) (x2 : PV) (h : PHeap) (v0 : PV) (v4 : PV) (h11 : PHeap) (j12 : List PV → PHeap → Pt) : (List PV → PHeap → Pt) → List PV → PHeap → Pt := fun c32 w33 h34 =>
 (binP .lss (nthP w33 0) v4).bind fun v35 =>
 KL (fun w37 h38 =>
 KL (fun w40 h41 =>
 (binP .add (nthP w33 0) (.int .i64 1 : PV)).bind fun v42 =>
 c32 [v42] (trim h11 [v42] h41)) fun j39 =>
 (fieldAddrP 1 v0).bind fun v43 =>
 (loadP false 1 v43 h38).bind fun v44 =>
 (indexAddrP 2 v44 (nthP w33 0)).bind fun v45 =>
 (loadP true 2 v45 h38).bind fun v46 =>
 forkP (.ptr h38.length 0) (h38 ++ [.box [.int .i64 0, .int .i64 0] 137 .rw]) fun v47 h48 =>
 (storeP 2 v47 v46 h48).bind fun h49 =>
 (binP .eql (nthP w33 0) (.int .i64 0 : PV)).bind fun v50 =>
 K1 (fun v52 h53 =>
 K1 (fun v55 h56 =>
 K1 (fun v58 h59 =>
 K1 (fun v61 h62 =>
 K1 (fun v64 h65 =>
 KL (fun w67 h68 =>
 j39 [] h68) fun j66 =>
 ifP v64 (
 finP [.keep] h h65 [(.bool false : PV)]) (
 j66 [] h65)) fun j63 =>
 scP v61 false (
 (fieldAddrP 1 v47).bind fun v69 =>
 (loadP false 1 v69 h62).bind fun v70 =>
 (binP .gtr v70 x2).bind fun v71 =>
 j63 v71 h62)
 (j63 (.bool true) h62)) fun j60 =>
 scP v58 false (
 (fieldAddrP 1 v47).bind fun v72 =>
 (loadP false 1 v72 h59).bind fun v73 =>
 (binP .lss v73 x1).bind fun v74 =>
 j60 v74 h59)
 (j60 (.bool true) h59)) fun j57 =>
 scP v55 false (
 (fieldAddrP 0 v47).bind fun v75 =>
 (loadP false 1 v75 h56).bind fun v76 =>
 (binP .gtr v76 (.int .i64 9999 : PV)).bind fun v77 =>
 j57 v77 h56)
 (j57 (.bool true) h56)) fun j54 =>
 scP v52 false (
 (binP .gtr (nthP w33 0) (.int .i64 0 : PV)).bind fun v78 =>
 K1 (fun v80 h81 =>
 j54 v80 h81) fun j79 =>
 scP v78 true (
 (fieldAddrP 0 v47).bind fun v82 =>
 (loadP false 1 v82 h53).bind fun v83 =>
 (fieldAddrP 1 v0).bind fun v84 =>
 (loadP false 1 v84 h53).bind fun v85 =>
 (binP .sub (nthP w33 0) (.int .i64 1 : PV)).bind fun v86 =>
 (indexAddrP 2 v85 v86).bind fun v87 =>
 (fieldAddrP 0 v87).bind fun v88 =>
 (loadP false 1 v88 h53).bind fun v89 =>
 (binP .leq v83 v89).bind fun v90 =>
 j79 v90 h53)
 (j79 (.bool false) h53))
 (j54 (.bool true) h53)) fun j51 =>
 scP v50 true (
 (fieldAddrP 0 v47).bind fun v91 =>
 (loadP false 1 v91 h49).bind fun v92 =>
 (binP .neq v92 (.int .i64 0 : PV)).bind fun v93 =>
 j51 v93 h49)
 (j51 (.bool false) h49)) fun j36 =>
 ifP v35 (
 j36 [] h34) (
 j12 [] h34)
noncomputable def s96 (Γ : PCallee) (n : Nat) (x0 : PV) (x1 : PV) (x2 : PV) (h : PHeap) : Pt :=
 forkP (.ptr h.length 0) (h ++ [.box (cellsP x0) 52 .rw]) fun v0 h1 =>
 (fieldAddrP 1 v0).bind fun v2 =>
 (loadP false 1 v2 h1).bind fun v3 =>
 (lenP false v3).bind fun v4 =>
 (binP .gtr v4 (.int .i64 16 : PV)).bind fun v5 =>
 K1 (fun v7 h8 =>
 KL (fun w10 h11 =>
 KL (fun w13 h14 =>
 (fieldAddrP 2 v0).bind fun v15 =>
 (loadP false 1 v15 h14).bind fun v16 =>
 (fieldAddrP 3 v0).bind fun v17 =>
 (loadP false 1 v17 h14).bind fun v18 =>
 (fieldAddrP 4 v0).bind fun v19 =>
 (loadP false 1 v19 h14).bind fun v20 =>
 (Γ 98 [v16, v18, v20, v4] h14).bind fun p21 =>
 K1 (fun v23 h24 =>
 finP [.keep] h h24 [v23]) fun j22 =>
 scP p21.1 true (
 (fieldAddrP 5 v0).bind fun v25 =>
 (loadP false 1 v25 p21.2).bind fun v26 =>
 (fieldAddrP 6 v0).bind fun v27 =>
 (loadP false 1 v27 p21.2).bind fun v28 =>
 (fieldAddrP 7 v0).bind fun v29 =>
 (loadP false 1 v29 p21.2).bind fun v30 =>
 (Γ 98 [v26, v28, v30, v4] p21.2).bind fun p31 =>
 j22 p31.1 p31.2)
 (j22 (.bool false) p21.2)) fun j12 =>
 loopP (s96_L0 Γ n x1 x2 h v0 v4 h11 j12) n [(.int .i64 0 : PV)] h11) fun j9 =>
 ifP v7 (
 finP [.keep] h h8 [(.bool false : PV)]) (
 j9 [] h8)) fun j6 =>
 scP v5 false (
 (fieldAddrP 0 v0).bind fun v94 =>
 (loadP false 1 v94 h1).bind fun v95 =>
 K1 (fun v97 h98 =>
 j6 v97 h98) fun j96 =>
 scP v95 true (
 (binP .eql v4 (.int .i64 0 : PV)).bind fun v99 =>
 j96 v99 h1)
 (j96 (.bool false) h1))
 (j6 (.bool true) h1)

theorem s96_eq (Γ : PCallee) (n : Nat) (x0 : PV) (x1 : PV) (x2 : PV) (h : PHeap) : pfunK Γ n A96 [x0, x1, x2] h = s96 Γ n x0 x1 x2 h := by kernel_rfl


open Go.Vm.G in
/-- orchestrion/orchestrionref04.paired -/
def A98 : PFun := ⟨4, 29,
 (S (R <| o 8 (.move (.const (.bool false))) <| z) <|
  (S (S (R <| m 9 0 <| o 10 (.un .not (t 9)) <| z) <|
  (.cond (t 10) [] ([8] ++ g 11 6)
  (S (R <| m 11 1 <| b 12 .eql (t 11) (i 0) <| m 13 12 <| q 16 13 true [14, 15] (m 14 2 <| b 15 .eql (t 14) (i 0) <| z) (t 15) <|
  m 8 16 <| z) <|
  .ret)
  .skip)) <|
  (S (R <| m 17 1 <| b 18 .leq (i 0) (t 17) <| m 19 18 <| q 23 19 true [20, 21, 22] (m 20 1 <| m 21 2 <| b 22 .leq (t 20) (t 21) <| z) (t 22) <|
  m 24 23 <| q 28 24 true [25, 26, 27] (m 25 2 <| m 26 3 <| b 27 .lss (t 25) (t 26) <| z) (t 27) <|
  m 8 28 <| z) <|
  .ret))),
 [.tmp 8], [.keep]⟩
theorem ok98 : ∃ fn c, FunOk Try.prog 98 fn c A98.erase := ⟨Try.f98, _, ⟨Try.func98, rfl, by kernel_rfl, by kernel_rfl, by kernel_rfl, of_decide_eq_true (by kernel_rfl), by kernel_rfl⟩⟩
noncomputable def s98 (Γ : PCallee) (n : Nat) (x0 : PV) (x1 : PV) (x2 : PV) (x3 : PV) (h : PHeap) : Pt :=
 (unP .not x0).bind fun v0 =>
 KL (fun w2 h3 =>
 (binP .leq (.int .i64 0 : PV) x1).bind fun v4 =>
 K1 (fun v6 h7 =>
 K1 (fun v9 h10 =>
 finP [.keep] h h10 [v9]) fun j8 =>
 scP v6 true (
 (binP .lss x2 x3).bind fun v11 =>
 j8 v11 h7)
 (j8 (.bool false) h7)) fun j5 =>
 scP v4 true (
 (binP .leq x1 x2).bind fun v12 =>
 j5 v12 h3)
 (j5 (.bool false) h3)) fun j1 =>
 ifP v0 (
 (binP .eql x1 (.int .i64 0 : PV)).bind fun v13 =>
 K1 (fun v15 h16 =>
 finP [.keep] h h16 [v15]) fun j14 =>
 scP v13 true (
 (binP .eql x2 (.int .i64 0 : PV)).bind fun v17 =>
 j14 v17 h)
 (j14 (.bool false) h)) (
 j1 [] h)

theorem s98_eq (Γ : PCallee) (n : Nat) (x0 : PV) (x1 : PV) (x2 : PV) (x3 : PV) (h : PHeap) : pfunK Γ n A98 [x0, x1, x2, x3] h = s98 Γ n x0 x1 x2 x3 h := by kernel_rfl


def T : PTable := [(3, A3), (4, A4), (5, A5), (6, A6), (7, A7), (8, A8), (9, A9), (10, A10), (11, A11), (12, A12), (13, A13), (14, A14), (15, A15), (16, A16), (17, A17), (18, A18), (19, A19), (20, A20), (21, A21), (22, A22), (23, A23), (24, A24), (25, A25), (26, A26), (27, A27), (28, A28), (29, A29), (30, A30), (31, A31), (32, A32), (33, A33), (34, A34), (35, A35), (36, A36), (37, A37), (38, A38), (39, A39), (40, A40), (41, A41), (42, A42), (43, A43), (44, A44), (45, A45), (46, A46), (47, A47), (48, A48), (49, A49), (50, A50), (51, A51), (52, A52), (53, A53), (54, A54), (55, A55), (56, A56), (57, A57), (58, A58), (59, A59), (60, A60), (61, A61), (62, A62), (63, A63), (64, A64), (65, A65), (66, A66), (67, A67), (68, A68), (69, A69), (70, A70), (71, A71), (72, A72), (73, A73), (74, A74), (75, A75), (76, A76), (77, A77), (78, A78), (79, A79), (80, A80), (81, A81), (82, A82), (83, A83), (84, A84), (85, A85), (87, A87), (88, A88), (89, A89), (90, A90), (91, A91), (92, A92), (93, A93), (94, A94), (95, A95), (96, A96), (98, A98)]
/-- What the calls come to. -/
noncomputable def Γ0 : PCallee := prun (idxP 86) T
theorem gbody {f : FuncId} {F : PFun} (hT : T.get f = some F) (fuel : Nat) {args : List PV} {h : PHeap} {r : PV × PHeap} (hk : pfunK Γ0 fuel F args h = some r) (hf : Nat.beq f yieldId = false := by rfl) : Γ0 f args h = some r := prun_of_body hT fuel hk hf
theorem gbody_round (fuel : Nat) {args : List PV} {h : PHeap} {r : PV × PHeap} (hk : proundK Γ0 fuel args h = some r) : Γ0 yieldId args h = some r := prun_of_round fuel hk
end Go.Vm.X
