/- Printed by a program of mine from the dump: the value machine's form of the program's functions. -/
import Derived.Test.YtaacaogceplhoaaMvE
import Derived.Test.YtaacaogceplhoaaChecked
set_option linter.unusedVariables false
set_option maxRecDepth 100000
namespace Go.Vm.X
open Go.Proofs Go.Am Go.Vm
def Z33 : List PV := [.str ⟨#[]⟩, .nilS, .bool false, .nilS, .bool false, .int .i64 0, .int .i64 0, .bool false, .int .i64 0, .int .i64 0, .bool false, .nilS, .bool false, .int .i64 0, .int .i64 0, .bool false, .int .i64 0, .int .i64 0, .bool false, .nilS, .bool false, .int .i64 0, .int .i64 0, .bool false, .int .i64 0, .int .i64 0, .int .i64 0, .int .i64 0, .int .i64 0, .int .i64 0, .int .i64 0, .int .i64 0, .int .i64 0]
def Z32 : List PV := [.bool false, .bool false, .bool false, .bool false, .bool false, .bool false, .bool false, .bool false, .bool false, .bool false, .bool false, .bool false, .bool false, .bool false, .bool false, .bool false, .bool false, .bool false, .bool false, .bool false, .bool false, .bool false, .bool false, .bool false, .bool false, .bool false, .bool false, .bool false, .bool false, .bool false, .bool false, .bool false]
def V33 : List Value := [(.string ⟨#[]⟩), (.slice none 0 0), (.bool false), (.slice none 0 0), (.bool false), (.int .i64 0), (.int .i64 0), (.bool false), (.int .i64 0), (.int .i64 0), (.bool false), (.slice none 0 0), (.bool false), (.int .i64 0), (.int .i64 0), (.bool false), (.int .i64 0), (.int .i64 0), (.bool false), (.slice none 0 0), (.bool false), (.int .i64 0), (.int .i64 0), (.bool false), (.int .i64 0), (.int .i64 0), (.int .i64 0), (.int .i64 0), (.int .i64 0), (.int .i64 0), (.int .i64 0), (.int .i64 0), (.int .i64 0)]
def V32 : List Value := [(.bool false), (.bool false), (.bool false), (.bool false), (.bool false), (.bool false), (.bool false), (.bool false), (.bool false), (.bool false), (.bool false), (.bool false), (.bool false), (.bool false), (.bool false), (.bool false), (.bool false), (.bool false), (.bool false), (.bool false), (.bool false), (.bool false), (.bool false), (.bool false), (.bool false), (.bool false), (.bool false), (.bool false), (.bool false), (.bool false), (.bool false), (.bool false)]
def SA33 : List FS := [.keep, (.flat 2), .keep, (.flat 2), .keep, .keep, .keep, .keep, .keep, .keep, .keep, (.flat 2), .keep, .keep, .keep, .keep, .keep, .keep, .keep, (.flat 2), .keep, .keep, .keep, .keep, .keep, .keep, .keep, .keep, .keep, .keep, .keep, .keep, .keep]
open Go.Vm.G in
/-- orchestrion/orchestrionlaw04.InstKeys -/
def A3 : PFun := ⟨1, 150,
 (S (R <| o 1 (.box 29 (t 0)) <| o 2 (.move (.const (.bool false))) <| z) <|
  (S (R <| f 14 0 1 <| o 15 (.load true 33 (t 14)) <| o 3 (.new 27 V33) <| n (.store 33 (t 3) (t 15)) <| z) <|
  (S (S (R <| f 16 1 3 <| l 17 16 <| o 18 (.len false (t 17)) <| b 19 .gtr (t 18) (i 500) <| m 20 19 <| q 36 20 false (g 21 15) (f 21 2 3 <| f 22 1 21 <| l 23 22 <| o 24 (.len false (t 23)) <| f 25 10 3 <| f 26 1 25 <| l 27 26 <| o 28 (.len false (t 27)) <| b 29 .add (t 24) (t 28) <| f 30 18 3 <| f 31 1 30 <| l 32 31 <| o 33 (.len false (t 32)) <| b 34 .add (t 29) (t 33) <| b 35 .gtr (t 34) (i 300) <| z) (t 35) <|
  z) <|
  (.cond (t 36) [] [2, 37]
  (S (R <| o 37 (.call 4 []) <| m 2 37 <| z) <|
  .ret)
  .skip)) <|
  (S (R <| o 38 (.buildSlice 42 [] 0 []) <| f 39 1 3 <| l 40 39 <| o 41 (.append 42 2 (t 38) (t 40)) <| m 4 41 <| z) <|
  (S (R <| o 43 (.load true 33 (t 3)) <| f 44 33 1 <| l 45 44 <| f 46 34 1 <| l 47 46 <| o 48 (.call 5 [(t 43), (t 45), (t 47)]) <| m 42 48 <| o 49 (.extract (t 42) 0) <| o 50 (.extract (t 42) 1) <| m 5 49 <| m 6 50 <| z) <|
  (S (R <| o 52 (.load true 33 (t 3)) <| f 53 33 1 <| l 54 53 <| f 55 34 1 <| l 56 55 <| o 57 (.call 6 [(t 52), (t 54), (t 56)]) <| m 51 57 <| o 58 (.extract (t 51) 0) <| o 59 (.extract (t 51) 1) <| m 7 58 <| m 8 59 <| z) <|
  (S (S (D <| o 60 (.load true 33 (t 3)) <| O 61 (.call 7 [(t 60)]) <| o 62 (.load true 33 (t 3)) <| o 63 (.call 8 [(t 62)]) <| o 64 (.eqBool true (t 61) (t 63)) <| m 65 64 <| q 69 65 false [66, 67, 68] (m 66 5 <| m 67 7 <| b 68 .neq (t 66) (t 67) <| z) (t 68) <|
  m 70 69 <| q 74 70 false [71, 72, 73] (m 71 6 <| m 72 8 <| b 73 .neq (t 71) (t 72) <| z) (t 73) <|
  m 75 74 <| q 86 75 false (g 76 10) (o 76 (.load true 33 (t 3)) <| f 77 34 1 <| l 78 77 <| O 79 (.call 10 [(t 76), (t 78)]) <| o 80 (.load true 33 (t 3)) <| f 81 34 1 <| l 82 81 <| o 83 (.call 11 [(t 80), (t 82)]) <| o 84 (.call 9 [(t 79), (t 83)]) <| o 85 (.un .not (t 84)) <| z) (t 85) <|
  z) <|
  (.cond (t 86) [] [2]
  (S (R <| o 2 (.move (.const (.bool false))) <| z) <|
  .ret)
  .skip)) <|
  (S (R <| o 88 (.load true 33 (t 3)) <| f 89 35 1 <| l 90 89 <| f 91 36 1 <| l 92 91 <| f 93 37 1 <| l 94 93 <| f 95 38 1 <| l 96 95 <| o 97 (.call 12 [(t 88), (t 90), (t 92), (t 94), (t 96)]) <| m 87 97 <| o 98 (.extract (t 87) 0) <| o 99 (.extract (t 87) 1) <| o 9 (.new 27 V33) <| n (.store 33 (t 9) (t 98)) <| m 10 99 <| z) <|
  (S (R <| o 101 (.load true 33 (t 3)) <| f 102 35 1 <| l 103 102 <| f 104 36 1 <| l 105 104 <| f 106 37 1 <| l 107 106 <| f 108 38 1 <| l 109 108 <| o 110 (.call 13 [(t 101), (t 103), (t 105), (t 107), (t 109)]) <| m 100 110 <| o 111 (.extract (t 100) 0) <| o 112 (.extract (t 100) 1) <| o 11 (.new 27 V33) <| n (.store 33 (t 11) (t 111)) <| m 12 112 <| z) <|
  (S (S (R <| m 113 10 <| m 114 12 <| b 115 .neq (t 113) (t 114) <| m 116 115 <| q 121 116 false (g 117 4) (o 117 (.load true 33 (t 9)) <| o 118 (.load true 33 (t 11)) <| (.bor [(117, (.agg SA33))] (some 119) (.a (.call 14 [(t 117), (t 118)])) false <| o 120 (.un .not (t 119)) <| z)) (t 120) <|
  m 122 121 <| q 130 122 false [123, 124, 125, 129, 126, 127, 128] (m 123 10 <| b 124 .eql (t 123) (i 0) <| m 125 124 <| q 129 125 true [126, 127, 128] (o 126 (.load true 33 (t 9)) <| (.bor [(126, (.agg SA33))] (some 127) (.a (.call 7 [(t 126)])) false <| o 128 (.un .not (t 127)) <| z)) (t 128) <|
  z) (t 129) <|
  z) <|
  (.cond (t 130) [] [2]
  (S (R <| o 2 (.move (.const (.bool false))) <| z) <|
  .ret)
  .skip)) <|
  (S (S (R <| f 131 1 9 <| l 132 131 <| o 133 (.len false (t 132)) <| o 134 (.move (i 0)) <| z) <|
  (.block 0 [] ([13] ++ g 134 9)
  (.loop [134] ([13] ++ g 135 8)
  (S (R <| b 135 .lss (t 134) (t 133) <| z) <|
  (S (.cond (t 135) [] []
  .skip
  (.exit 0)) <|
  (S (.block 1 [] ([13] ++ g 136 6)
  (S (R <| m 136 134 <| m 13 136 <| z) <|
  (R <| f 137 1 9 <| l 138 137 <| m 139 13 <| o 140 (.build [(.int .i64 0), (.int .i64 0)] []) <| o 141 (.indexAddr 2 (t 138) (t 139)) <| n (.store 2 (t 141) (t 140)) <| z))) <|
  (R <| b 142 .add (t 134) (i 1) <| m 134 142 <| z))))))) <|
  (S (R <| f 143 1 3 <| l 144 143 <| m 145 4 <| (.bor [(145, (.flat 2))] (some 146) (.a (.call 15 [(t 144), (t 145)])) false <| m 147 146 <| q 149 147 true [148] (o 148 (.call 4 []) <| z) (t 148) <|
  m 2 149 <| z)) <|
  .ret)))))))))))),
 [.tmp 2], [.keep]⟩
theorem ok3 : ∃ fn c, FunOk Try.prog 3 fn c A3.erase := ⟨Try.f3, _, ⟨Try.func3, rfl, by kernel_rfl, by kernel_rfl, by kernel_rfl, of_decide_eq_true (by kernel_rfl), by kernel_rfl⟩⟩
noncomputable def s3_L0 (Γ : PCallee) (n : Nat) (v66 : PV) (h93 : PHeap) (v96 : PV) (j97 : List PV → PHeap → Pt) : (List PV → PHeap → Pt) → List PV → PHeap → Pt := fun c108 w109 h110 =>
 (binP .lss (nthP w109 0) v96).bind fun v111 =>
 KL (fun w113 h114 =>
 KL (fun w116 h117 =>
 (binP .add (nthP w109 0) (.int .i64 1 : PV)).bind fun v118 =>
 c108 [v118] (trim h93 [v118] h117)) fun j115 =>
 (fieldAddrP 1 v66).bind fun v119 =>
 (loadP false 1 v119 h114).bind fun v120 =>
 (fillP [.int .i64 0, .int .i64 0] []).bind fun l121 =>
 (indexAddrP 2 v120 (nthP w109 0)).bind fun v122 =>
 (storeP 2 v122 (PV.agg l121) h114).bind fun h123 =>
 j115 [] h123) fun j112 =>
 ifP v111 (
 j112 [] h110) (
 j97 [] h110)
noncomputable def s3 (Γ : PCallee) (n : Nat) (x0 : PV) (h : PHeap) : Pt :=
 forkP (.ptr h.length 0) (h ++ [.box (cellsP x0) 29 .rw]) fun v0 h1 =>
 (fieldAddrP 0 v0).bind fun v2 =>
 (loadP true 33 v2 h1).bind fun v3 =>
 forkP (.ptr h1.length 0) (h1 ++ [.box Z33 27 .rw]) fun v4 h5 =>
 (storeP 33 v4 v3 h5).bind fun h6 =>
 (fieldAddrP 1 v4).bind fun v7 =>
 (loadP false 1 v7 h6).bind fun v8 =>
 (lenP false v8).bind fun v9 =>
 (binP .gtr v9 (.int .i64 500 : PV)).bind fun v10 =>
 K1 (fun v12 h13 =>
 KL (fun w15 h16 =>
 (fieldAddrP 1 v4).bind fun v17 =>
 (loadP false 1 v17 h16).bind fun v18 =>
 (appendP 42 2 PV.emp v18 h16).bind fun p19 =>
 (loadP true 33 v4 p19.2).bind fun v20 =>
 (fieldAddrP 33 v0).bind fun v21 =>
 (loadP false 1 v21 p19.2).bind fun v22 =>
 (fieldAddrP 34 v0).bind fun v23 =>
 (loadP false 1 v23 p19.2).bind fun v24 =>
 (Γ 5 [v20, v22, v24] p19.2).bind fun p25 =>
 (extractP p25.1 0).bind fun v26 =>
 (extractP p25.1 1).bind fun v27 =>
 (loadP true 33 v4 p25.2).bind fun v28 =>
 (fieldAddrP 33 v0).bind fun v29 =>
 (loadP false 1 v29 p25.2).bind fun v30 =>
 (fieldAddrP 34 v0).bind fun v31 =>
 (loadP false 1 v31 p25.2).bind fun v32 =>
 (Γ 6 [v28, v30, v32] p25.2).bind fun p33 =>
 (extractP p33.1 0).bind fun v34 =>
 (extractP p33.1 1).bind fun v35 =>
 (loadP true 33 v4 p33.2).bind fun v36 =>
 (Γ 7 [v36] (lock p33.2)).bind fun p37 =>
 unl p33.2 p37.2 fun h38 =>
 (loadP true 33 v4 h38).bind fun v39 =>
 (Γ 8 [v39] h38).bind fun p40 =>
 (eqBoolP true p37.1 p40.1).bind fun v41 =>
 K1 (fun v43 h44 =>
 K1 (fun v46 h47 =>
 K1 (fun v49 h50 =>
 KL (fun w52 h53 =>
 (loadP true 33 v4 h53).bind fun v54 =>
 (fieldAddrP 35 v0).bind fun v55 =>
 (loadP false 1 v55 h53).bind fun v56 =>
 (fieldAddrP 36 v0).bind fun v57 =>
 (loadP false 1 v57 h53).bind fun v58 =>
 (fieldAddrP 37 v0).bind fun v59 =>
 (loadP false 1 v59 h53).bind fun v60 =>
 (fieldAddrP 38 v0).bind fun v61 =>
 (loadP false 1 v61 h53).bind fun v62 =>
 (Γ 12 [v54, v56, v58, v60, v62] h53).bind fun p63 =>
 (extractP p63.1 0).bind fun v64 =>
 (extractP p63.1 1).bind fun v65 =>
 forkP (.ptr p63.2.length 0) (p63.2 ++ [.box Z33 27 .rw]) fun v66 h67 =>
 (storeP 33 v66 v64 h67).bind fun h68 =>
 (loadP true 33 v4 h68).bind fun v69 =>
 (fieldAddrP 35 v0).bind fun v70 =>
 (loadP false 1 v70 h68).bind fun v71 =>
 (fieldAddrP 36 v0).bind fun v72 =>
 (loadP false 1 v72 h68).bind fun v73 =>
 (fieldAddrP 37 v0).bind fun v74 =>
 (loadP false 1 v74 h68).bind fun v75 =>
 (fieldAddrP 38 v0).bind fun v76 =>
 (loadP false 1 v76 h68).bind fun v77 =>
 (Γ 13 [v69, v71, v73, v75, v77] h68).bind fun p78 =>
 (extractP p78.1 0).bind fun v79 =>
 (extractP p78.1 1).bind fun v80 =>
 forkP (.ptr p78.2.length 0) (p78.2 ++ [.box Z33 27 .rw]) fun v81 h82 =>
 (storeP 33 v81 v79 h82).bind fun h83 =>
 (binP .neq v65 v80).bind fun v84 =>
 K1 (fun v86 h87 =>
 K1 (fun v89 h90 =>
 KL (fun w92 h93 =>
 (fieldAddrP 1 v66).bind fun v94 =>
 (loadP false 1 v94 h93).bind fun v95 =>
 (lenP false v95).bind fun v96 =>
 KL (fun w98 h99 =>
 (fieldAddrP 1 v4).bind fun v100 =>
 (loadP false 1 v100 h99).bind fun v101 =>
 (fz (.flat 2) p19.1 h99).bind fun q102 =>
 (Γ 15 [v101, q102.1] (lock q102.2)).bind fun p103 =>
 guardP (scal p103.1) (
 K1 (fun v105 h106 =>
 finP [.keep] h h106 [v105]) fun j104 =>
 scP p103.1 true (
 (Γ 4 [] h99).bind fun p107 =>
 j104 p107.1 p107.2)
 (j104 (.bool false) h99))) fun j97 =>
 loopP (s3_L0 Γ n v66 h93 v96 j97) n [(.int .i64 0 : PV)] h93) fun j91 =>
 ifP v89 (
 finP [.keep] h h90 [(.bool false : PV)]) (
 j91 [] h90)) fun j88 =>
 scP v86 false (
 (binP .eql v65 (.int .i64 0 : PV)).bind fun v124 =>
 K1 (fun v126 h127 =>
 j88 v126 h127) fun j125 =>
 scP v124 true (
 (loadP true 33 v66 h87).bind fun v128 =>
 (fz (.agg SA33) v128 h87).bind fun q129 =>
 (Γ 7 [q129.1] (lock q129.2)).bind fun p130 =>
 guardP (scal p130.1) (
 (unP .not p130.1).bind fun v131 =>
 j125 v131 h87))
 (j125 (.bool false) h87))
 (j88 (.bool true) h87)) fun j85 =>
 scP v84 false (
 (loadP true 33 v66 h83).bind fun v132 =>
 (loadP true 33 v81 h83).bind fun v133 =>
 (fz (.agg SA33) v132 h83).bind fun q134 =>
 (Γ 14 [q134.1, v133] (lock q134.2)).bind fun p135 =>
 guardP (scal p135.1) (
 (unP .not p135.1).bind fun v136 =>
 j85 v136 h83))
 (j85 (.bool true) h83)) fun j51 =>
 ifP v49 (
 finP [.keep] h h50 [(.bool false : PV)]) (
 j51 [] h50)) fun j48 =>
 scP v46 false (
 (loadP true 33 v4 h47).bind fun v137 =>
 (fieldAddrP 34 v0).bind fun v138 =>
 (loadP false 1 v138 h47).bind fun v139 =>
 (Γ 10 [v137, v139] (lock h47)).bind fun p140 =>
 unl h47 p140.2 fun h141 =>
 (loadP true 33 v4 h141).bind fun v142 =>
 (fieldAddrP 34 v0).bind fun v143 =>
 (loadP false 1 v143 h141).bind fun v144 =>
 (Γ 11 [v142, v144] h141).bind fun p145 =>
 (Γ 9 [p140.1, p145.1] p145.2).bind fun p146 =>
 (unP .not p146.1).bind fun v147 =>
 j48 v147 p146.2)
 (j48 (.bool true) h47)) fun j45 =>
 scP v43 false (
 (binP .neq v27 v35).bind fun v148 =>
 j45 v148 h44)
 (j45 (.bool true) h44)) fun j42 =>
 scP v41 false (
 (binP .neq v26 v34).bind fun v149 =>
 j42 v149 p40.2)
 (j42 (.bool true) p40.2)) fun j14 =>
 ifP v12 (
 (Γ 4 [] h13).bind fun p150 =>
 finP [.keep] h p150.2 [p150.1]) (
 j14 [] h13)) fun j11 =>
 scP v10 false (
 (fieldAddrP 2 v4).bind fun v151 =>
 (fieldAddrP 1 v151).bind fun v152 =>
 (loadP false 1 v152 h6).bind fun v153 =>
 (lenP false v153).bind fun v154 =>
 (fieldAddrP 10 v4).bind fun v155 =>
 (fieldAddrP 1 v155).bind fun v156 =>
 (loadP false 1 v156 h6).bind fun v157 =>
 (lenP false v157).bind fun v158 =>
 (binP .add v154 v158).bind fun v159 =>
 (fieldAddrP 18 v4).bind fun v160 =>
 (fieldAddrP 1 v160).bind fun v161 =>
 (loadP false 1 v161 h6).bind fun v162 =>
 (lenP false v162).bind fun v163 =>
 (binP .add v159 v163).bind fun v164 =>
 (binP .gtr v164 (.int .i64 300 : PV)).bind fun v165 =>
 j11 v165 h6)
 (j11 (.bool true) h6)

theorem s3_eq (Γ : PCallee) (n : Nat) (x0 : PV) (h : PHeap) : pfunK Γ n A3 [x0] h = s3 Γ n x0 h := by kernel_rfl


open Go.Vm.G in
/-- orchestrion/orchestrionlaw04.awake -/
def A4 : PFun := ⟨0, 27,
 (S (R <| o 0 (.move (.const (.bool false))) <| z) <|
  (S (R <| o 2 (.build [(.int .i64 0), (.int .i64 0)] [(0, 1, (i 0)), (1, 1, (i 64))]) <| o 3 (.build [(.int .i64 0), (.int .i64 0)] [(0, 1, (i 10)), (1, 1, (i 0))]) <| o 4 (.buildSlice 46 [(.int .i64 0), (.int .i64 0)] 2 [(0, 2, (t 2)), (2, 2, (t 3))]) <| o 5 (.build [(.bool false), (.slice none 0 0), (.bool false), (.int .i64 0), (.int .i64 0), (.bool false), (.int .i64 0), (.int .i64 0)] [(0, 1, (.const (.bool true))), (1, 1, (t 4))]) <| o 1 (.new 25 [(.bool false), (.slice none 0 0), (.bool false), (.int .i64 0), (.int .i64 0), (.bool false), (.int .i64 0), (.int .i64 0)]) <| n (.store 8 (t 1) (t 5)) <| z) <|
  (S (R <| o 6 (.load true 8 (t 1)) <| F 6 (.agg [.keep, (.flat 2), .keep, .keep, .keep, .keep, .keep, .keep]) <| o 7 (.call 16 [(t 6), (i 3)]) <| b 8 .eql (t 7) (i 44) <| m 9 8 <| q 13 9 true [10, 11, 12] (o 10 (.load true 8 (t 1)) <| F 10 (.agg [.keep, (.flat 2), .keep, .keep, .keep, .keep, .keep, .keep]) <| o 11 (.call 16 [(t 10), (i 5)]) <| b 12 .eql (t 11) (i 32) <| z) (t 12) <|
  m 14 13 <| q 18 14 true [15, 16, 17] (o 15 (.load true 8 (t 1)) <| F 15 (.agg [.keep, (.flat 2), .keep, .keep, .keep, .keep, .keep, .keep]) <| o 16 (.call 17 [(t 15), (i 9), (.const (.bool true))]) <| b 17 .eql (t 16) (i 10) <| z) (t 17) <|
  m 19 18 <| q 22 19 true [20, 21] (o 20 (.load true 8 (t 1)) <| F 20 (.agg [.keep, (.flat 2), .keep, .keep, .keep, .keep, .keep, .keep]) <| o 21 (.call 18 [(t 20), (i 10), (.const (.bool false))]) <| z) (t 21) <|
  m 23 22 <| q 26 23 true [24, 25] (o 24 (.build V33 []) <| o 25 (.call 7 [(t 24)]) <| z) (t 25) <|
  m 0 26 <| z) <|
  .ret))),
 [.tmp 0], [.keep]⟩
theorem ok4 : ∃ fn c, FunOk Try.prog 4 fn c A4.erase := ⟨Try.f4, _, ⟨Try.func4, rfl, by kernel_rfl, by kernel_rfl, by kernel_rfl, of_decide_eq_true (by kernel_rfl), by kernel_rfl⟩⟩
noncomputable def s4 (Γ : PCallee) (n : Nat) (h : PHeap) : Pt :=
 (fillP [.int .i64 0, .int .i64 0] [(0, 1, (.int .i64 0 : PV)), (1, 1, (.int .i64 64 : PV))]).bind fun l0 =>
 (fillP [.int .i64 0, .int .i64 0] [(0, 1, (.int .i64 10 : PV)), (1, 1, (.int .i64 0 : PV))]).bind fun l1 =>
 (fillP (repP [.int .i64 0, .int .i64 0] 2) [(0, 2, (PV.agg l0)), (2, 2, (PV.agg l1))]).bind fun l2 =>
 forkP (.ref h.length 0 2 2 2) (h ++ [.log (chunk 2 2 l2) 2 46 .rw]) fun v3 h4 =>
 (fillP [.bool false, .nilS, .bool false, .int .i64 0, .int .i64 0, .bool false, .int .i64 0, .int .i64 0] [(0, 1, (.bool true : PV)), (1, 1, v3)]).bind fun l5 =>
 forkP (.ptr h4.length 0) (h4 ++ [.box [.bool false, .nilS, .bool false, .int .i64 0, .int .i64 0, .bool false, .int .i64 0, .int .i64 0] 25 .rw]) fun v6 h7 =>
 (storeP 8 v6 (PV.agg l5) h7).bind fun h8 =>
 (loadP true 8 v6 h8).bind fun v9 =>
 (fz (.agg [.keep, (.flat 2), .keep, .keep, .keep, .keep, .keep, .keep]) v9 h8).bind fun q10 =>
 (Γ 16 [q10.1, (.int .i64 3 : PV)] q10.2).bind fun p11 =>
 (binP .eql p11.1 (.int .i64 44 : PV)).bind fun v12 =>
 K1 (fun v14 h15 =>
 K1 (fun v17 h18 =>
 K1 (fun v20 h21 =>
 K1 (fun v23 h24 =>
 finP [.keep] h h24 [v23]) fun j22 =>
 scP v20 true (
 (fillP Z33 []).bind fun l25 =>
 (Γ 7 [(PV.agg l25)] h21).bind fun p26 =>
 j22 p26.1 p26.2)
 (j22 (.bool false) h21)) fun j19 =>
 scP v17 true (
 (loadP true 8 v6 h18).bind fun v27 =>
 (fz (.agg [.keep, (.flat 2), .keep, .keep, .keep, .keep, .keep, .keep]) v27 h18).bind fun q28 =>
 (Γ 18 [q28.1, (.int .i64 10 : PV), (.bool false : PV)] q28.2).bind fun p29 =>
 j19 p29.1 p29.2)
 (j19 (.bool false) h18)) fun j16 =>
 scP v14 true (
 (loadP true 8 v6 h15).bind fun v30 =>
 (fz (.agg [.keep, (.flat 2), .keep, .keep, .keep, .keep, .keep, .keep]) v30 h15).bind fun q31 =>
 (Γ 17 [q31.1, (.int .i64 9 : PV), (.bool true : PV)] q31.2).bind fun p32 =>
 (binP .eql p32.1 (.int .i64 10 : PV)).bind fun v33 =>
 j16 v33 p32.2)
 (j16 (.bool false) h15)) fun j13 =>
 scP v12 true (
 (loadP true 8 v6 p11.2).bind fun v34 =>
 (fz (.agg [.keep, (.flat 2), .keep, .keep, .keep, .keep, .keep, .keep]) v34 p11.2).bind fun q35 =>
 (Γ 16 [q35.1, (.int .i64 5 : PV)] q35.2).bind fun p36 =>
 (binP .eql p36.1 (.int .i64 32 : PV)).bind fun v37 =>
 j13 v37 p36.2)
 (j13 (.bool false) p11.2)

theorem s4_eq (Γ : PCallee) (n : Nat) (h : PHeap) : pfunK Γ n A4 [] h = s4 Γ n h := by kernel_rfl


open Go.Vm.G in
/-- orchestrion/inst.Key -/
def A5 : PFun := ⟨3, 36,
 (S (R <| o 3 (.box 27 (t 0)) <| o 6 (.move (i 0)) <| o 7 (.move (i 0)) <| z) <|
  (S (.block 0 [] (g 6 18)
  (S (R <| o 9 (.load true 33 (t 3)) <| o 10 (.call 7 [(t 9)]) <| o 11 (.un .not (t 10)) <| m 12 11 <| q 16 12 false [13, 14, 15] (m 13 1 <| o 14 (.call 19 [(t 13), (i 0), (i 119)]) <| o 15 (.un .not (t 14)) <| z) (t 15) <|
  m 8 16 <| z) <|
  (.cond (t 8) [] ([6, 7] ++ g 17 7)
  (S (R <| o 6 (.move (i 0)) <| o 7 (.move (i 0)) <| z) <|
  .ret)
  (S (R <| f 18 1 3 <| l 19 18 <| o 20 (.len false (t 19)) <| b 21 .eql (t 20) (i 0) <| m 17 21 <| z) <|
  (.cond (t 17) [] [6, 7, 22, 23]
  (S (R <| m 22 1 <| m 23 2 <| m 6 22 <| m 7 23 <| z) <|
  .ret)
  .skip))))) <|
  (S (D <| f 24 1 3 <| l 25 24 <| m 26 1 <| o 27 (.indexAddr 2 (t 25) (t 26)) <| f 28 0 27 <| l 29 28 <| f 30 1 3 <| l 31 30 <| m 32 1 <| o 33 (.indexAddr 2 (t 31) (t 32)) <| f 34 1 33 <| l 35 34 <| m 6 29 <| m 7 35 <| z) <|
  .ret))),
 [.tmp 6, .tmp 7], [.keep, .keep]⟩
theorem ok5 : ∃ fn c, FunOk Try.prog 5 fn c A5.erase := ⟨Try.f5, _, ⟨Try.func5, rfl, by kernel_rfl, by kernel_rfl, by kernel_rfl, of_decide_eq_true (by kernel_rfl), by kernel_rfl⟩⟩
noncomputable def s5 (Γ : PCallee) (n : Nat) (x0 : PV) (x1 : PV) (x2 : PV) (h : PHeap) : Pt :=
 forkP (.ptr h.length 0) (h ++ [.box (cellsP x0) 27 .rw]) fun v0 h1 =>
 KL (fun w3 h4 =>
 (fieldAddrP 1 v0).bind fun v5 =>
 (loadP false 1 v5 h4).bind fun v6 =>
 (indexAddrP 2 v6 x1).bind fun v7 =>
 (fieldAddrP 0 v7).bind fun v8 =>
 (loadP false 1 v8 h4).bind fun v9 =>
 (fieldAddrP 1 v0).bind fun v10 =>
 (loadP false 1 v10 h4).bind fun v11 =>
 (indexAddrP 2 v11 x1).bind fun v12 =>
 (fieldAddrP 1 v12).bind fun v13 =>
 (loadP false 1 v13 h4).bind fun v14 =>
 finP [.keep, .keep] h h4 [v9, v14]) fun j2 =>
 (loadP true 33 v0 h1).bind fun v15 =>
 (Γ 7 [v15] h1).bind fun p16 =>
 (unP .not p16.1).bind fun v17 =>
 K1 (fun v19 h20 =>
 KL (fun w22 h23 =>
 j2 [] h23) fun j21 =>
 ifP v19 (
 finP [.keep, .keep] h h20 [(.int .i64 0 : PV), (.int .i64 0 : PV)]) (
 (fieldAddrP 1 v0).bind fun v24 =>
 (loadP false 1 v24 h20).bind fun v25 =>
 (lenP false v25).bind fun v26 =>
 (binP .eql v26 (.int .i64 0 : PV)).bind fun v27 =>
 KL (fun w29 h30 =>
 j21 [] h30) fun j28 =>
 ifP v27 (
 finP [.keep, .keep] h h20 [x1, x2]) (
 j28 [] h20))) fun j18 =>
 scP v17 false (
 (Γ 19 [x1, (.int .i64 0 : PV), (.int .i64 119 : PV)] p16.2).bind fun p31 =>
 (unP .not p31.1).bind fun v32 =>
 j18 v32 p31.2)
 (j18 (.bool true) p16.2)

theorem s5_eq (Γ : PCallee) (n : Nat) (x0 : PV) (x1 : PV) (x2 : PV) (h : PHeap) : pfunK Γ n A5 [x0, x1, x2] h = s5 Γ n x0 x1 x2 h := by kernel_rfl


open Go.Vm.G in
/-- orchestrion/orchestrionref04.Key -/
def A6 : PFun := ⟨3, 25,
 (S (R <| o 3 (.box 27 (t 0)) <| o 6 (.move (i 0)) <| o 7 (.move (i 0)) <| z) <|
  (S (S (R <| o 8 (.load true 33 (t 3)) <| o 9 (.call 8 [(t 8)]) <| o 10 (.un .not (t 9)) <| m 11 10 <| q 14 11 false [12, 13] (m 12 1 <| b 13 .lss (t 12) (i 0) <| z) (t 13) <|
  m 15 14 <| q 18 15 false [16, 17] (m 16 1 <| b 17 .gtr (t 16) (i 119) <| z) (t 17) <|
  z) <|
  (.cond (t 18) [] [6, 7]
  (S (R <| o 6 (.move (i 0)) <| o 7 (.move (i 0)) <| z) <|
  .ret)
  .skip)) <|
  (S (R <| o 19 (.load true 33 (t 3)) <| m 20 1 <| m 21 2 <| o 22 (.call 20 [(t 19), (t 20), (t 21)]) <| o 23 (.extract (t 22) 0) <| o 24 (.extract (t 22) 1) <| m 6 23 <| m 7 24 <| z) <|
  .ret))),
 [.tmp 6, .tmp 7], [.keep, .keep]⟩
theorem ok6 : ∃ fn c, FunOk Try.prog 6 fn c A6.erase := ⟨Try.f6, _, ⟨Try.func6, rfl, by kernel_rfl, by kernel_rfl, by kernel_rfl, of_decide_eq_true (by kernel_rfl), by kernel_rfl⟩⟩
noncomputable def s6 (Γ : PCallee) (n : Nat) (x0 : PV) (x1 : PV) (x2 : PV) (h : PHeap) : Pt :=
 forkP (.ptr h.length 0) (h ++ [.box (cellsP x0) 27 .rw]) fun v0 h1 =>
 (loadP true 33 v0 h1).bind fun v2 =>
 (Γ 8 [v2] h1).bind fun p3 =>
 (unP .not p3.1).bind fun v4 =>
 K1 (fun v6 h7 =>
 K1 (fun v9 h10 =>
 KL (fun w12 h13 =>
 (loadP true 33 v0 h13).bind fun v14 =>
 (Γ 20 [v14, x1, x2] h13).bind fun p15 =>
 (extractP p15.1 0).bind fun v16 =>
 (extractP p15.1 1).bind fun v17 =>
 finP [.keep, .keep] h p15.2 [v16, v17]) fun j11 =>
 ifP v9 (
 finP [.keep, .keep] h h10 [(.int .i64 0 : PV), (.int .i64 0 : PV)]) (
 j11 [] h10)) fun j8 =>
 scP v6 false (
 (binP .gtr x1 (.int .i64 119 : PV)).bind fun v18 =>
 j8 v18 h7)
 (j8 (.bool true) h7)) fun j5 =>
 scP v4 false (
 (binP .lss x1 (.int .i64 0 : PV)).bind fun v19 =>
 j5 v19 p3.2)
 (j5 (.bool true) p3.2)

theorem s6_eq (Γ : PCallee) (n : Nat) (x0 : PV) (x1 : PV) (x2 : PV) (h : PHeap) : pfunK Γ n A6 [x0, x1, x2] h = s6 Γ n x0 x1 x2 h := by kernel_rfl


open Go.Vm.G in
/-- orchestrion/inst.Valid -/
def A7 : PFun := ⟨1, 71,
 (S (R <| o 1 (.box 27 (t 0)) <| o 2 (.move (.const (.bool false))) <| z) <|
  (S (S (R <| f 3 0 1 <| l 4 3 <| o 5 (.call 21 [(t 4)]) <| o 6 (.un .not (t 5)) <| m 7 6 <| q 18 7 false (g 8 5 ++ [17] ++ g 13 4) (f 8 1 1 <| l 9 8 <| o 10 (.len false (t 9)) <| b 11 .neq (t 10) (i 0) <| m 12 11 <| q 17 12 true (g 13 4) (f 13 1 1 <| l 14 13 <| o 15 (.len false (t 14)) <| b 16 .neq (t 15) (i 120) <| z) (t 16) <|
  z) (t 17) <|
  z) <|
  (.cond (t 18) [] [2]
  (S (R <| o 2 (.move (.const (.bool false))) <| z) <|
  .ret)
  .skip)) <|
  (S (S (R <| f 19 1 1 <| l 20 19 <| o 21 (.call 22 [(t 20), (.func 23)]) <| z) <|
  (.cond (t 21) [] [2]
  (S (R <| o 2 (.move (.const (.bool false))) <| z) <|
  .ret)
  .skip)) <|
  (S (S (R <| f 22 2 1 <| o 23 (.load true 8 (t 22)) <| o 24 (.call 24 [(t 23), (i 0), (i 64)]) <| o 25 (.un .not (t 24)) <| m 26 25 <| q 31 26 false (g 27 4) (f 27 10 1 <| o 28 (.load true 8 (t 27)) <| o 29 (.call 24 [(t 28), (i (-32)), (i 32)]) <| o 30 (.un .not (t 29)) <| z) (t 30) <|
  m 32 31 <| q 37 32 false (g 33 4) (f 33 18 1 <| o 34 (.load true 8 (t 33)) <| o 35 (.call 24 [(t 34), (i (-32)), (i 32)]) <| o 36 (.un .not (t 35)) <| z) (t 36) <|
  z) <|
  (.cond (t 37) [] [2]
  (S (R <| o 2 (.move (.const (.bool false))) <| z) <|
  .ret)
  .skip)) <|
  (S (R <| f 38 26 1 <| l 39 38 <| o 40 (.call 19 [(t 39), (i 0), (i 1024)]) <| m 41 40 <| q 45 41 true [42, 43, 44] (f 42 27 1 <| l 43 42 <| o 44 (.call 19 [(t 43), (i 0), (i 3)]) <| z) (t 44) <|
  m 46 45 <| q 50 46 true [47, 48, 49] (f 47 28 1 <| l 48 47 <| o 49 (.call 19 [(t 48), (i 0), (i 3)]) <| z) (t 49) <|
  m 51 50 <| q 55 51 true [52, 53, 54] (f 52 29 1 <| l 53 52 <| o 54 (.call 19 [(t 53), (i 0), (i 2)]) <| z) (t 54) <|
  m 56 55 <| q 60 56 true [57, 58, 59] (f 57 30 1 <| l 58 57 <| o 59 (.call 19 [(t 58), (i 0), (i 64)]) <| z) (t 59) <|
  m 61 60 <| q 65 61 true [62, 63, 64] (f 62 31 1 <| l 63 62 <| o 64 (.call 19 [(t 63), (i (-1)), (i 127)]) <| z) (t 64) <|
  m 66 65 <| q 70 66 true [67, 68, 69] (f 67 32 1 <| l 68 67 <| o 69 (.call 19 [(t 68), (i (-1)), (i 127)]) <| z) (t 69) <|
  m 2 70 <| z) <|
  .ret))))),
 [.tmp 2], [.keep]⟩
theorem ok7 : ∃ fn c, FunOk Try.prog 7 fn c A7.erase := ⟨Try.f7, _, ⟨Try.func7, rfl, by kernel_rfl, by kernel_rfl, by kernel_rfl, of_decide_eq_true (by kernel_rfl), by kernel_rfl⟩⟩
noncomputable def s7 (Γ : PCallee) (n : Nat) (x0 : PV) (h : PHeap) : Pt :=
 forkP (.ptr h.length 0) (h ++ [.box (cellsP x0) 27 .rw]) fun v0 h1 =>
 (fieldAddrP 0 v0).bind fun v2 =>
 (loadP false 1 v2 h1).bind fun v3 =>
 (Γ 21 [v3] h1).bind fun p4 =>
 (unP .not p4.1).bind fun v5 =>
 K1 (fun v7 h8 =>
 KL (fun w10 h11 =>
 (fieldAddrP 1 v0).bind fun v12 =>
 (loadP false 1 v12 h11).bind fun v13 =>
 (Γ 22 [v13, (PV.func 23 [] [])] h11).bind fun p14 =>
 KL (fun w16 h17 =>
 (fieldAddrP 2 v0).bind fun v18 =>
 (loadP true 8 v18 h17).bind fun v19 =>
 (Γ 24 [v19, (.int .i64 0 : PV), (.int .i64 64 : PV)] h17).bind fun p20 =>
 (unP .not p20.1).bind fun v21 =>
 K1 (fun v23 h24 =>
 K1 (fun v26 h27 =>
 KL (fun w29 h30 =>
 (fieldAddrP 26 v0).bind fun v31 =>
 (loadP false 1 v31 h30).bind fun v32 =>
 (Γ 19 [v32, (.int .i64 0 : PV), (.int .i64 1024 : PV)] h30).bind fun p33 =>
 K1 (fun v35 h36 =>
 K1 (fun v38 h39 =>
 K1 (fun v41 h42 =>
 K1 (fun v44 h45 =>
 K1 (fun v47 h48 =>
 K1 (fun v50 h51 =>
 finP [.keep] h h51 [v50]) fun j49 =>
 scP v47 true (
 (fieldAddrP 32 v0).bind fun v52 =>
 (loadP false 1 v52 h48).bind fun v53 =>
 (Γ 19 [v53, (.int .i64 (-1) : PV), (.int .i64 127 : PV)] h48).bind fun p54 =>
 j49 p54.1 p54.2)
 (j49 (.bool false) h48)) fun j46 =>
 scP v44 true (
 (fieldAddrP 31 v0).bind fun v55 =>
 (loadP false 1 v55 h45).bind fun v56 =>
 (Γ 19 [v56, (.int .i64 (-1) : PV), (.int .i64 127 : PV)] h45).bind fun p57 =>
 j46 p57.1 p57.2)
 (j46 (.bool false) h45)) fun j43 =>
 scP v41 true (
 (fieldAddrP 30 v0).bind fun v58 =>
 (loadP false 1 v58 h42).bind fun v59 =>
 (Γ 19 [v59, (.int .i64 0 : PV), (.int .i64 64 : PV)] h42).bind fun p60 =>
 j43 p60.1 p60.2)
 (j43 (.bool false) h42)) fun j40 =>
 scP v38 true (
 (fieldAddrP 29 v0).bind fun v61 =>
 (loadP false 1 v61 h39).bind fun v62 =>
 (Γ 19 [v62, (.int .i64 0 : PV), (.int .i64 2 : PV)] h39).bind fun p63 =>
 j40 p63.1 p63.2)
 (j40 (.bool false) h39)) fun j37 =>
 scP v35 true (
 (fieldAddrP 28 v0).bind fun v64 =>
 (loadP false 1 v64 h36).bind fun v65 =>
 (Γ 19 [v65, (.int .i64 0 : PV), (.int .i64 3 : PV)] h36).bind fun p66 =>
 j37 p66.1 p66.2)
 (j37 (.bool false) h36)) fun j34 =>
 scP p33.1 true (
 (fieldAddrP 27 v0).bind fun v67 =>
 (loadP false 1 v67 p33.2).bind fun v68 =>
 (Γ 19 [v68, (.int .i64 0 : PV), (.int .i64 3 : PV)] p33.2).bind fun p69 =>
 j34 p69.1 p69.2)
 (j34 (.bool false) p33.2)) fun j28 =>
 ifP v26 (
 finP [.keep] h h27 [(.bool false : PV)]) (
 j28 [] h27)) fun j25 =>
 scP v23 false (
 (fieldAddrP 18 v0).bind fun v70 =>
 (loadP true 8 v70 h24).bind fun v71 =>
 (Γ 24 [v71, (.int .i64 (-32) : PV), (.int .i64 32 : PV)] h24).bind fun p72 =>
 (unP .not p72.1).bind fun v73 =>
 j25 v73 p72.2)
 (j25 (.bool true) h24)) fun j22 =>
 scP v21 false (
 (fieldAddrP 10 v0).bind fun v74 =>
 (loadP true 8 v74 p20.2).bind fun v75 =>
 (Γ 24 [v75, (.int .i64 (-32) : PV), (.int .i64 32 : PV)] p20.2).bind fun p76 =>
 (unP .not p76.1).bind fun v77 =>
 j22 v77 p76.2)
 (j22 (.bool true) p20.2)) fun j15 =>
 ifP p14.1 (
 finP [.keep] h p14.2 [(.bool false : PV)]) (
 j15 [] p14.2)) fun j9 =>
 ifP v7 (
 finP [.keep] h h8 [(.bool false : PV)]) (
 j9 [] h8)) fun j6 =>
 scP v5 false (
 (fieldAddrP 1 v0).bind fun v78 =>
 (loadP false 1 v78 p4.2).bind fun v79 =>
 (lenP false v79).bind fun v80 =>
 (binP .neq v80 (.int .i64 0 : PV)).bind fun v81 =>
 K1 (fun v83 h84 =>
 j6 v83 h84) fun j82 =>
 scP v81 true (
 (fieldAddrP 1 v0).bind fun v85 =>
 (loadP false 1 v85 p4.2).bind fun v86 =>
 (lenP false v86).bind fun v87 =>
 (binP .neq v87 (.int .i64 120 : PV)).bind fun v88 =>
 j82 v88 p4.2)
 (j82 (.bool false) p4.2))
 (j6 (.bool true) p4.2)

theorem s7_eq (Γ : PCallee) (n : Nat) (x0 : PV) (h : PHeap) : pfunK Γ n A7 [x0] h = s7 Γ n x0 h := by kernel_rfl


open Go.Vm.G in
/-- orchestrion/orchestrionref04.Valid -/
def A8 : PFun := ⟨1, 135,
 (S (R <| o 1 (.box 27 (t 0)) <| o 2 (.move (.const (.bool false))) <| z) <|
  (S (S (R <| o 3 (.move (i 0)) <| z) <|
  (.block 0 [] (g 2 33)
  (.loop [3] ([2] ++ g 4 31)
  (S (S (R <| m 5 3 <| f 6 1 1 <| l 7 6 <| o 8 (.len false (t 7)) <| b 9 .lss (t 5) (t 8) <| z) <|
  (.cond (t 9) [] []
  .skip
  (.exit 0))) <|
  (S (.block 1 [] ([2, 4] ++ g 12 23)
  (S (R <| f 12 1 1 <| l 13 12 <| m 14 3 <| o 15 (.indexAddr 2 (t 13) (t 14)) <| o 16 (.load true 2 (t 15)) <| o 4 (.new 42 [(.int .i64 0), (.int .i64 0)]) <| n (.store 2 (t 4) (t 16)) <| z) <|
  (S (R <| f 17 0 4 <| l 18 17 <| b 19 .lss (t 18) (i 0) <| m 20 19 <| q 24 20 false [21, 22, 23] (f 21 0 4 <| l 22 21 <| b 23 .gtr (t 22) (i 119) <| z) (t 23) <|
  m 25 24 <| q 29 25 false [26, 27, 28] (f 26 1 4 <| l 27 26 <| b 28 .lss (t 27) (i 0) <| z) (t 28) <|
  m 30 29 <| q 34 30 false [31, 32, 33] (f 31 1 4 <| l 32 31 <| b 33 .gtr (t 32) (i 31) <| z) (t 33) <|
  z) <|
  (.cond (t 34) [] [2]
  (S (R <| o 2 (.move (.const (.bool false))) <| z) <|
  .ret)
  .skip)))) <|
  (R <| m 10 3 <| b 11 .add (t 10) (i 1) <| m 3 11 <| z)))))) <|
  (S (R <| f 35 0 1 <| l 36 35 <| o 37 (.call 25 [(t 36)]) <| m 38 37 <| q 49 38 true (g 39 5 ++ [48] ++ g 44 4) (f 39 1 1 <| l 40 39 <| o 41 (.len false (t 40)) <| b 42 .eql (t 41) (i 0) <| m 43 42 <| q 48 43 false (g 44 4) (f 44 1 1 <| l 45 44 <| o 46 (.len false (t 45)) <| b 47 .eql (t 46) (i 120) <| z) (t 47) <|
  z) (t 48) <|
  m 50 49 <| q 54 50 true [51, 52, 53] (f 51 2 1 <| o 52 (.load true 8 (t 51)) <| o 53 (.call 26 [(t 52), (i 0), (i 64)]) <| z) (t 53) <|
  m 55 54 <| q 59 55 true [56, 57, 58] (f 56 10 1 <| o 57 (.load true 8 (t 56)) <| o 58 (.call 26 [(t 57), (i (-32)), (i 32)]) <| z) (t 58) <|
  m 60 59 <| q 64 60 true [61, 62, 63] (f 61 18 1 <| o 62 (.load true 8 (t 61)) <| o 63 (.call 26 [(t 62), (i (-32)), (i 32)]) <| z) (t 63) <|
  m 65 64 <| q 69 65 true [66, 67, 68] (f 66 26 1 <| l 67 66 <| b 68 .leq (i 0) (t 67) <| z) (t 68) <|
  m 70 69 <| q 74 70 true [71, 72, 73] (f 71 26 1 <| l 72 71 <| b 73 .leq (t 72) (i 1024) <| z) (t 73) <|
  m 75 74 <| q 79 75 true [76, 77, 78] (f 76 27 1 <| l 77 76 <| b 78 .leq (i 0) (t 77) <| z) (t 78) <|
  m 80 79 <| q 84 80 true [81, 82, 83] (f 81 27 1 <| l 82 81 <| b 83 .leq (t 82) (i 3) <| z) (t 83) <|
  m 85 84 <| q 89 85 true [86, 87, 88] (f 86 28 1 <| l 87 86 <| b 88 .leq (i 0) (t 87) <| z) (t 88) <|
  m 90 89 <| q 94 90 true [91, 92, 93] (f 91 28 1 <| l 92 91 <| b 93 .leq (t 92) (i 3) <| z) (t 93) <|
  m 95 94 <| q 99 95 true [96, 97, 98] (f 96 29 1 <| l 97 96 <| b 98 .leq (i 0) (t 97) <| z) (t 98) <|
  m 100 99 <| q 104 100 true [101, 102, 103] (f 101 29 1 <| l 102 101 <| b 103 .leq (t 102) (i 2) <| z) (t 103) <|
  m 105 104 <| q 109 105 true [106, 107, 108] (f 106 30 1 <| l 107 106 <| b 108 .leq (i 0) (t 107) <| z) (t 108) <|
  m 110 109 <| q 114 110 true [111, 112, 113] (f 111 30 1 <| l 112 111 <| b 113 .leq (t 112) (i 64) <| z) (t 113) <|
  m 115 114 <| q 119 115 true [116, 117, 118] (f 116 31 1 <| l 117 116 <| b 118 .leq (i (-1)) (t 117) <| z) (t 118) <|
  m 120 119 <| q 124 120 true [121, 122, 123] (f 121 31 1 <| l 122 121 <| b 123 .leq (t 122) (i 127) <| z) (t 123) <|
  m 125 124 <| q 129 125 true [126, 127, 128] (f 126 32 1 <| l 127 126 <| b 128 .leq (i (-1)) (t 127) <| z) (t 128) <|
  m 130 129 <| q 134 130 true [131, 132, 133] (f 131 32 1 <| l 132 131 <| b 133 .leq (t 132) (i 127) <| z) (t 133) <|
  m 2 134 <| z) <|
  .ret))),
 [.tmp 2], [.keep]⟩
theorem ok8 : ∃ fn c, FunOk Try.prog 8 fn c A8.erase := ⟨Try.f8, _, ⟨Try.func8, rfl, by kernel_rfl, by kernel_rfl, by kernel_rfl, of_decide_eq_true (by kernel_rfl), by kernel_rfl⟩⟩
noncomputable def s8_L0 (Γ : PCallee) (n : Nat) (h : PHeap) (v0 : PV) (h1 : PHeap) (j2 : List PV → PHeap → Pt) : (List PV → PHeap → Pt) → List PV → PHeap → Pt := fun c124 w125 h126 =>
 (fieldAddrP 1 v0).bind fun v127 =>
 (loadP false 1 v127 h126).bind fun v128 =>
 (lenP false v128).bind fun v129 =>
 (binP .lss (nthP w125 0) v129).bind fun v130 =>
 KL (fun w132 h133 =>
 KL (fun w135 h136 =>
 (binP .add (nthP w125 0) (.int .i64 1 : PV)).bind fun v137 =>
 c124 [v137] (trim h1 [v137] h136)) fun j134 =>
 (fieldAddrP 1 v0).bind fun v138 =>
 (loadP false 1 v138 h133).bind fun v139 =>
 (indexAddrP 2 v139 (nthP w125 0)).bind fun v140 =>
 (loadP true 2 v140 h133).bind fun v141 =>
 forkP (.ptr h133.length 0) (h133 ++ [.box [.int .i64 0, .int .i64 0] 42 .rw]) fun v142 h143 =>
 (storeP 2 v142 v141 h143).bind fun h144 =>
 (fieldAddrP 0 v142).bind fun v145 =>
 (loadP false 1 v145 h144).bind fun v146 =>
 (binP .lss v146 (.int .i64 0 : PV)).bind fun v147 =>
 K1 (fun v149 h150 =>
 K1 (fun v152 h153 =>
 K1 (fun v155 h156 =>
 KL (fun w158 h159 =>
 j134 [] h159) fun j157 =>
 ifP v155 (
 finP [.keep] h h156 [(.bool false : PV)]) (
 j157 [] h156)) fun j154 =>
 scP v152 false (
 (fieldAddrP 1 v142).bind fun v160 =>
 (loadP false 1 v160 h153).bind fun v161 =>
 (binP .gtr v161 (.int .i64 31 : PV)).bind fun v162 =>
 j154 v162 h153)
 (j154 (.bool true) h153)) fun j151 =>
 scP v149 false (
 (fieldAddrP 1 v142).bind fun v163 =>
 (loadP false 1 v163 h150).bind fun v164 =>
 (binP .lss v164 (.int .i64 0 : PV)).bind fun v165 =>
 j151 v165 h150)
 (j151 (.bool true) h150)) fun j148 =>
 scP v147 false (
 (fieldAddrP 0 v142).bind fun v166 =>
 (loadP false 1 v166 h144).bind fun v167 =>
 (binP .gtr v167 (.int .i64 119 : PV)).bind fun v168 =>
 j148 v168 h144)
 (j148 (.bool true) h144)) fun j131 =>
 ifP v130 (
 j131 [] h126) (
 j2 [] h126)
noncomputable def s8 (Γ : PCallee) (n : Nat) (x0 : PV) (h : PHeap) : Pt :=
 forkP (.ptr h.length 0) (h ++ [.box (cellsP x0) 27 .rw]) fun v0 h1 =>
 KL (fun w3 h4 =>
 (fieldAddrP 0 v0).bind fun v5 =>
 (loadP false 1 v5 h4).bind fun v6 =>
 (Γ 25 [v6] h4).bind fun p7 =>
 K1 (fun v9 h10 =>
 K1 (fun v12 h13 =>
 K1 (fun v15 h16 =>
 K1 (fun v18 h19 =>
 K1 (fun v21 h22 =>
 K1 (fun v24 h25 =>
 K1 (fun v27 h28 =>
 K1 (fun v30 h31 =>
 K1 (fun v33 h34 =>
 K1 (fun v36 h37 =>
 K1 (fun v39 h40 =>
 K1 (fun v42 h43 =>
 K1 (fun v45 h46 =>
 K1 (fun v48 h49 =>
 K1 (fun v51 h52 =>
 K1 (fun v54 h55 =>
 K1 (fun v57 h58 =>
 K1 (fun v60 h61 =>
 finP [.keep] h h61 [v60]) fun j59 =>
 scP v57 true (
 (fieldAddrP 32 v0).bind fun v62 =>
 (loadP false 1 v62 h58).bind fun v63 =>
 (binP .leq v63 (.int .i64 127 : PV)).bind fun v64 =>
 j59 v64 h58)
 (j59 (.bool false) h58)) fun j56 =>
 scP v54 true (
 (fieldAddrP 32 v0).bind fun v65 =>
 (loadP false 1 v65 h55).bind fun v66 =>
 (binP .leq (.int .i64 (-1) : PV) v66).bind fun v67 =>
 j56 v67 h55)
 (j56 (.bool false) h55)) fun j53 =>
 scP v51 true (
 (fieldAddrP 31 v0).bind fun v68 =>
 (loadP false 1 v68 h52).bind fun v69 =>
 (binP .leq v69 (.int .i64 127 : PV)).bind fun v70 =>
 j53 v70 h52)
 (j53 (.bool false) h52)) fun j50 =>
 scP v48 true (
 (fieldAddrP 31 v0).bind fun v71 =>
 (loadP false 1 v71 h49).bind fun v72 =>
 (binP .leq (.int .i64 (-1) : PV) v72).bind fun v73 =>
 j50 v73 h49)
 (j50 (.bool false) h49)) fun j47 =>
 scP v45 true (
 (fieldAddrP 30 v0).bind fun v74 =>
 (loadP false 1 v74 h46).bind fun v75 =>
 (binP .leq v75 (.int .i64 64 : PV)).bind fun v76 =>
 j47 v76 h46)
 (j47 (.bool false) h46)) fun j44 =>
 scP v42 true (
 (fieldAddrP 30 v0).bind fun v77 =>
 (loadP false 1 v77 h43).bind fun v78 =>
 (binP .leq (.int .i64 0 : PV) v78).bind fun v79 =>
 j44 v79 h43)
 (j44 (.bool false) h43)) fun j41 =>
 scP v39 true (
 (fieldAddrP 29 v0).bind fun v80 =>
 (loadP false 1 v80 h40).bind fun v81 =>
 (binP .leq v81 (.int .i64 2 : PV)).bind fun v82 =>
 j41 v82 h40)
 (j41 (.bool false) h40)) fun j38 =>
 scP v36 true (
 (fieldAddrP 29 v0).bind fun v83 =>
 (loadP false 1 v83 h37).bind fun v84 =>
 (binP .leq (.int .i64 0 : PV) v84).bind fun v85 =>
 j38 v85 h37)
 (j38 (.bool false) h37)) fun j35 =>
 scP v33 true (
 (fieldAddrP 28 v0).bind fun v86 =>
 (loadP false 1 v86 h34).bind fun v87 =>
 (binP .leq v87 (.int .i64 3 : PV)).bind fun v88 =>
 j35 v88 h34)
 (j35 (.bool false) h34)) fun j32 =>
 scP v30 true (
 (fieldAddrP 28 v0).bind fun v89 =>
 (loadP false 1 v89 h31).bind fun v90 =>
 (binP .leq (.int .i64 0 : PV) v90).bind fun v91 =>
 j32 v91 h31)
 (j32 (.bool false) h31)) fun j29 =>
 scP v27 true (
 (fieldAddrP 27 v0).bind fun v92 =>
 (loadP false 1 v92 h28).bind fun v93 =>
 (binP .leq v93 (.int .i64 3 : PV)).bind fun v94 =>
 j29 v94 h28)
 (j29 (.bool false) h28)) fun j26 =>
 scP v24 true (
 (fieldAddrP 27 v0).bind fun v95 =>
 (loadP false 1 v95 h25).bind fun v96 =>
 (binP .leq (.int .i64 0 : PV) v96).bind fun v97 =>
 j26 v97 h25)
 (j26 (.bool false) h25)) fun j23 =>
 scP v21 true (
 (fieldAddrP 26 v0).bind fun v98 =>
 (loadP false 1 v98 h22).bind fun v99 =>
 (binP .leq v99 (.int .i64 1024 : PV)).bind fun v100 =>
 j23 v100 h22)
 (j23 (.bool false) h22)) fun j20 =>
 scP v18 true (
 (fieldAddrP 26 v0).bind fun v101 =>
 (loadP false 1 v101 h19).bind fun v102 =>
 (binP .leq (.int .i64 0 : PV) v102).bind fun v103 =>
 j20 v103 h19)
 (j20 (.bool false) h19)) fun j17 =>
 scP v15 true (
 (fieldAddrP 18 v0).bind fun v104 =>
 (loadP true 8 v104 h16).bind fun v105 =>
 (Γ 26 [v105, (.int .i64 (-32) : PV), (.int .i64 32 : PV)] h16).bind fun p106 =>
 j17 p106.1 p106.2)
 (j17 (.bool false) h16)) fun j14 =>
 scP v12 true (
 (fieldAddrP 10 v0).bind fun v107 =>
 (loadP true 8 v107 h13).bind fun v108 =>
 (Γ 26 [v108, (.int .i64 (-32) : PV), (.int .i64 32 : PV)] h13).bind fun p109 =>
 j14 p109.1 p109.2)
 (j14 (.bool false) h13)) fun j11 =>
 scP v9 true (
 (fieldAddrP 2 v0).bind fun v110 =>
 (loadP true 8 v110 h10).bind fun v111 =>
 (Γ 26 [v111, (.int .i64 0 : PV), (.int .i64 64 : PV)] h10).bind fun p112 =>
 j11 p112.1 p112.2)
 (j11 (.bool false) h10)) fun j8 =>
 scP p7.1 true (
 (fieldAddrP 1 v0).bind fun v113 =>
 (loadP false 1 v113 p7.2).bind fun v114 =>
 (lenP false v114).bind fun v115 =>
 (binP .eql v115 (.int .i64 0 : PV)).bind fun v116 =>
 K1 (fun v118 h119 =>
 j8 v118 h119) fun j117 =>
 scP v116 false (
 (fieldAddrP 1 v0).bind fun v120 =>
 (loadP false 1 v120 p7.2).bind fun v121 =>
 (lenP false v121).bind fun v122 =>
 (binP .eql v122 (.int .i64 120 : PV)).bind fun v123 =>
 j117 v123 p7.2)
 (j117 (.bool true) p7.2))
 (j8 (.bool false) p7.2)) fun j2 =>
 loopP (s8_L0 Γ n h v0 h1 j2) n [(.int .i64 0 : PV)] h1

theorem s8_eq (Γ : PCallee) (n : Nat) (x0 : PV) (h : PHeap) : pfunK Γ n A8 [x0] h = s8 Γ n x0 h := by kernel_rfl


open Go.Vm.G in
/-- orchestrion/orchestrionlaw04.same[int] -/
def A9 : PFun := ⟨2, 26,
 (S (R <| o 4 (.move (.const (.bool false))) <| z) <|
  (S (S (R <| m 6 0 <| o 7 (.len false (t 6)) <| m 8 1 <| o 9 (.len false (t 8)) <| b 10 .neq (t 7) (t 9) <| z) <|
  (.cond (t 10) [] [4]
  (S (R <| o 4 (.move (.const (.bool false))) <| z) <|
  .ret)
  .skip)) <|
  (S (S (R <| m 11 0 <| o 12 (.len false (t 11)) <| o 13 (.move (i 0)) <| z) <|
  (.block 0 [] ([4, 5] ++ g 13 13)
  (.loop [13] ([4, 5] ++ g 14 12)
  (S (R <| b 14 .lss (t 13) (t 12) <| z) <|
  (S (.cond (t 14) [] []
  .skip
  (.exit 0)) <|
  (S (.block 1 [] ([4, 5] ++ g 15 10)
  (S (R <| m 15 13 <| m 5 15 <| z) <|
  (S (D <| m 16 0 <| m 17 5 <| o 18 (.indexAddr 1 (t 16) (t 17)) <| l 19 18 <| m 20 1 <| m 21 5 <| o 22 (.indexAddr 1 (t 20) (t 21)) <| l 23 22 <| b 24 .neq (t 19) (t 23) <| z) <|
  (.cond (t 24) [] [4]
  (S (R <| o 4 (.move (.const (.bool false))) <| z) <|
  .ret)
  .skip)))) <|
  (R <| b 25 .add (t 13) (i 1) <| m 13 25 <| z))))))) <|
  (S (R <| o 4 (.move (.const (.bool true))) <| z) <|
  .ret)))),
 [.tmp 4], [.keep]⟩
theorem ok9 : ∃ fn c, FunOk Try.prog 9 fn c A9.erase := ⟨Try.f9, _, ⟨Try.func9, rfl, by kernel_rfl, by kernel_rfl, by kernel_rfl, of_decide_eq_true (by kernel_rfl), by kernel_rfl⟩⟩
noncomputable def s9_L0 (Γ : PCallee) (n : Nat) (x0 : PV) (x1 : PV) (h : PHeap) (h5 : PHeap) (v6 : PV) (j7 : List PV → PHeap → Pt) : (List PV → PHeap → Pt) → List PV → PHeap → Pt := fun c10 w11 h12 =>
 (binP .lss (nthP w11 0) v6).bind fun v13 =>
 KL (fun w15 h16 =>
 KL (fun w18 h19 =>
 (binP .add (nthP w11 0) (.int .i64 1 : PV)).bind fun v20 =>
 c10 [v20] (trim h5 [v20] h19)) fun j17 =>
 (indexAddrP 1 x0 (nthP w11 0)).bind fun v21 =>
 (loadP false 1 v21 h16).bind fun v22 =>
 (indexAddrP 1 x1 (nthP w11 0)).bind fun v23 =>
 (loadP false 1 v23 h16).bind fun v24 =>
 (binP .neq v22 v24).bind fun v25 =>
 KL (fun w27 h28 =>
 j17 [] h28) fun j26 =>
 ifP v25 (
 finP [.keep] h h16 [(.bool false : PV)]) (
 j26 [] h16)) fun j14 =>
 ifP v13 (
 j14 [] h12) (
 j7 [] h12)
noncomputable def s9 (Γ : PCallee) (n : Nat) (x0 : PV) (x1 : PV) (h : PHeap) : Pt :=
 (lenP false x0).bind fun v0 =>
 (lenP false x1).bind fun v1 =>
 (binP .neq v0 v1).bind fun v2 =>
 KL (fun w4 h5 =>
 (lenP false x0).bind fun v6 =>
 KL (fun w8 h9 =>
 finP [.keep] h h9 [(.bool true : PV)]) fun j7 =>
 loopP (s9_L0 Γ n x0 x1 h h5 v6 j7) n [(.int .i64 0 : PV)] h5) fun j3 =>
 ifP v2 (
 finP [.keep] h h [(.bool false : PV)]) (
 j3 [] h)

theorem s9_eq (Γ : PCallee) (n : Nat) (x0 : PV) (x1 : PV) (h : PHeap) : pfunK Γ n A9 [x0, x1] h = s9 Γ n x0 x1 h := by kernel_rfl


open Go.Vm.G in
/-- orchestrion/inst.Samples -/
def A10 : PFun := ⟨2, 33,
 (S (R <| o 2 (.box 27 (t 0)) <| o 4 (.move (.const (.slice none 0 0))) <| z) <|
  (S (S (R <| o 9 (.load true 33 (t 2)) <| o 10 (.call 7 [(t 9)]) <| o 11 (.un .not (t 10)) <| z) <|
  (.cond (t 11) [] [4]
  (S (R <| o 4 (.move (.const (.slice none 0 0))) <| z) <|
  .ret)
  .skip)) <|
  (S (R <| (.op (some 5) (.growNil 3 1) false <| z)) <|
  (S (S (R <| o 12 (.move (i 0)) <| z) <|
  (.block 0 [5] ([6, 7, 8] ++ g 12 17)
  (.loop [5, 12] ([6, 7, 8] ++ g 13 16)
  (S (R <| b 13 .lss (t 12) (i 120) <| z) <|
  (S (.cond (t 13) [] []
  .skip
  (.exit 0)) <|
  (S (.block 1 [5] ([6, 7, 8] ++ g 14 14)
  (S (R <| m 14 12 <| m 6 14 <| z) <|
  (S (R <| o 16 (.load true 33 (t 2)) <| m 17 6 <| m 18 1 <| o 19 (.call 5 [(t 16), (t 17), (t 18)]) <| m 15 19 <| o 20 (.extract (t 15) 0) <| o 21 (.extract (t 15) 1) <| m 7 20 <| m 8 21 <| z) <|
  (S (R <| m 22 8 <| b 23 .gtr (t 22) (i 0) <| z) <|
  (.cond (t 23) [5] (g 24 4)
  (R <| m 24 5 <| m 25 8 <| (.op (some 26) (.buildF 3 [(.int .i64 0)] 1 [(0, 1, (t 25))]) false <| o 27 (.append 3 1 (t 24) (t 26)) <| m 5 27 <| z))
  .skip))))) <|
  (R <| b 28 .add (t 12) (i 1) <| m 12 28 <| z))))))) <|
  (S (R <| m 29 5 <| o 30 (.call 27 [(t 29)]) <| z) <|
  (S (R <| m 31 5 <| o 32 (.call 28 [(t 31)]) <| m 4 32 <| z) <|
  .ret)))))),
 [.tmp 4], [(.flat 1)]⟩
theorem ok10 : ∃ fn c, FunOk Try.prog 10 fn c A10.erase := ⟨Try.f10, _, ⟨Try.func10, rfl, by kernel_rfl, by kernel_rfl, by kernel_rfl, of_decide_eq_true (by kernel_rfl), by kernel_rfl⟩⟩
noncomputable def s10_L0 (Γ : PCallee) (n : Nat) (x1 : PV) (v0 : PV) (h9 : PHeap) (j10 : List PV → PHeap → Pt) : (List PV → PHeap → Pt) → List PV → PHeap → Pt := fun c15 w16 h17 =>
 (binP .lss (nthP w16 1) (.int .i64 120 : PV)).bind fun v18 =>
 KL (fun w20 h21 =>
 KL (fun w23 h24 =>
 (binP .add (nthP w16 1) (.int .i64 1 : PV)).bind fun v25 =>
 c15 [(nthP w23 0), v25] (trim h9 [(nthP w23 0), v25] h24)) fun j22 =>
 (loadP true 33 v0 h21).bind fun v26 =>
 (Γ 5 [v26, (nthP w16 1), x1] h21).bind fun p27 =>
 (extractP p27.1 0).bind fun v28 =>
 (extractP p27.1 1).bind fun v29 =>
 (binP .gtr v29 (.int .i64 0 : PV)).bind fun v30 =>
 KL (fun w32 h33 =>
 j22 [(nthP w32 0)] h33) fun j31 =>
 ifP v30 (
 (fillP (repP [.int .i64 0] 1) [(0, 1, v29)]).bind fun l34 =>
 guardP (l34.all pure1) (
 forkP (.frz 1 (chunk 1 1 l34)) (p27.2) fun v35 h36 =>
 (appendP 3 1 (nthP w16 0) v35 h36).bind fun p37 =>
 j31 [p37.1] p37.2)) (
 j31 [(nthP w16 0)] p27.2)) fun j19 =>
 ifP v18 (
 j19 [] h17) (
 j10 [(nthP w16 0)] h17)
noncomputable def s10 (Γ : PCallee) (n : Nat) (x0 : PV) (x1 : PV) (h : PHeap) : Pt :=
 forkP (.ptr h.length 0) (h ++ [.box (cellsP x0) 27 .rw]) fun v0 h1 =>
 (loadP true 33 v0 h1).bind fun v2 =>
 (Γ 7 [v2] h1).bind fun p3 =>
 (unP .not p3.1).bind fun v4 =>
 KL (fun w6 h7 =>
 forkP (.ref h7.length 0 0 0 1) (h7 ++ [.log [] 1 3 .rw]) fun v8 h9 =>
 KL (fun w11 h12 =>
 (Γ 27 [(nthP w11 0)] h12).bind fun p13 =>
 (Γ 28 [(nthP w11 0)] p13.2).bind fun p14 =>
 finP [(.flat 1)] h p14.2 [p14.1]) fun j10 =>
 loopP (s10_L0 Γ n x1 v0 h9 j10) n [v8, (.int .i64 0 : PV)] h9) fun j5 =>
 ifP v4 (
 finP [(.flat 1)] h p3.2 [(.nilS : PV)]) (
 j5 [] p3.2)

theorem s10_eq (Γ : PCallee) (n : Nat) (x0 : PV) (x1 : PV) (h : PHeap) : pfunK Γ n A10 [x0, x1] h = s10 Γ n x0 x1 h := by kernel_rfl


open Go.Vm.G in
/-- orchestrion/orchestrionref04.Samples -/
def A11 : PFun := ⟨2, 46,
 (S (R <| o 2 (.box 27 (t 0)) <| o 4 (.move (.const (.slice none 0 0))) <| z) <|
  (S (S (R <| o 9 (.load true 33 (t 2)) <| o 10 (.call 8 [(t 9)]) <| o 11 (.un .not (t 10)) <| z) <|
  (.cond (t 11) [] [4]
  (S (R <| o 4 (.move (.const (.slice none 0 0))) <| z) <|
  .ret)
  .skip)) <|
  (S (S (R <| f 12 1 2 <| l 13 12 <| o 14 (.len false (t 13)) <| b 15 .eql (t 14) (i 0) <| z) <|
  (.cond (t 15) [] ([4] ++ g 16 4)
  (S (S (R <| m 16 1 <| b 17 .gtr (t 16) (i 0) <| z) <|
  (.cond (t 17) [] [4, 18, 19]
  (S (R <| m 18 1 <| (.op (some 19) (.buildF 3 [(.int .i64 0)] 1 [(0, 1, (t 18))]) false <| m 4 19 <| z)) <|
  .ret)
  .skip)) <|
  (S (R <| o 4 (.move (.const (.slice none 0 0))) <| z) <|
  .ret))
  .skip)) <|
  (S (R <| o 5 (.new 57 V32) <| z) <|
  (S (S (R <| o 6 (.move (i 0)) <| z) <|
  (.block 0 [] ([6] ++ g 20 14)
  (.loop [6] (g 20 14)
  (S (S (R <| m 20 6 <| f 21 1 2 <| l 22 21 <| o 23 (.len false (t 22)) <| b 24 .lss (t 20) (t 23) <| z) <|
  (.cond (t 24) [] []
  .skip
  (.exit 0))) <|
  (S (.block 1 [] (g 27 7)
  (R <| f 27 1 2 <| l 28 27 <| m 29 6 <| o 30 (.indexAddr 2 (t 28) (t 29)) <| f 31 1 30 <| l 32 31 <| o 33 (.indexAddrArr 32 1 (t 5) (t 32)) <| n (.store 1 (t 33) (.const (.bool true))) <| z)) <|
  (R <| m 25 6 <| b 26 .add (t 25) (i 1) <| m 6 26 <| z)))))) <|
  (S (R <| (.op (some 7) (.growNil 3 1) false <| z)) <|
  (S (S (R <| o 8 (.move (i 1)) <| z) <|
  (.block 2 [7] ([8] ++ g 34 11)
  (.loop [7, 8] (g 34 11)
  (S (S (R <| m 34 8 <| b 35 .leq (t 34) (i 31) <| z) <|
  (.cond (t 35) [] []
  .skip
  (.exit 2))) <|
  (S (.block 3 [7] (g 38 7)
  (S (R <| m 38 8 <| o 39 (.indexAddrArr 32 1 (t 5) (t 38)) <| l 40 39 <| z) <|
  (.cond (t 40) [7] (g 41 4)
  (R <| m 41 7 <| m 42 8 <| (.op (some 43) (.buildF 3 [(.int .i64 0)] 1 [(0, 1, (t 42))]) false <| o 44 (.append 3 1 (t 41) (t 43)) <| m 7 44 <| z))
  .skip))) <|
  (R <| m 36 8 <| b 37 .add (t 36) (i 1) <| m 8 37 <| z)))))) <|
  (S (R <| m 45 7 <| m 4 45 <| z) <|
  .ret)))))))),
 [.tmp 4], [(.flat 1)]⟩
theorem ok11 : ∃ fn c, FunOk Try.prog 11 fn c A11.erase := ⟨Try.f11, _, ⟨Try.func11, rfl, by kernel_rfl, by kernel_rfl, by kernel_rfl, of_decide_eq_true (by kernel_rfl), by kernel_rfl⟩⟩
noncomputable def s11_L0 (Γ : PCallee) (n : Nat) (v15 : PV) (h21 : PHeap) (j22 : List PV → PHeap → Pt) : (List PV → PHeap → Pt) → List PV → PHeap → Pt := fun c25 w26 h27 =>
 (binP .leq (nthP w26 1) (.int .i64 31 : PV)).bind fun v28 =>
 KL (fun w30 h31 =>
 KL (fun w33 h34 =>
 (binP .add (nthP w26 1) (.int .i64 1 : PV)).bind fun v35 =>
 c25 [(nthP w33 0), v35] (trim h21 [(nthP w33 0), v35] h34)) fun j32 =>
 (indexAddrArrP 32 1 v15 (nthP w26 1)).bind fun v36 =>
 (loadP false 1 v36 h31).bind fun v37 =>
 KL (fun w39 h40 =>
 j32 [(nthP w39 0)] h40) fun j38 =>
 ifP v37 (
 (fillP (repP [.int .i64 0] 1) [(0, 1, (nthP w26 1))]).bind fun l41 =>
 guardP (l41.all pure1) (
 forkP (.frz 1 (chunk 1 1 l41)) (h31) fun v42 h43 =>
 (appendP 3 1 (nthP w26 0) v42 h43).bind fun p44 =>
 j38 [p44.1] p44.2)) (
 j38 [(nthP w26 0)] h31)) fun j29 =>
 ifP v28 (
 j29 [] h27) (
 j22 [(nthP w26 0)] h27)
noncomputable def s11_L1 (Γ : PCallee) (n : Nat) (v0 : PV) (v15 : PV) (h16 : PHeap) (j17 : List PV → PHeap → Pt) : (List PV → PHeap → Pt) → List PV → PHeap → Pt := fun c45 w46 h47 =>
 (fieldAddrP 1 v0).bind fun v48 =>
 (loadP false 1 v48 h47).bind fun v49 =>
 (lenP false v49).bind fun v50 =>
 (binP .lss (nthP w46 0) v50).bind fun v51 =>
 KL (fun w53 h54 =>
 KL (fun w56 h57 =>
 (binP .add (nthP w46 0) (.int .i64 1 : PV)).bind fun v58 =>
 c45 [v58] (trim h16 [v58] h57)) fun j55 =>
 (fieldAddrP 1 v0).bind fun v59 =>
 (loadP false 1 v59 h54).bind fun v60 =>
 (indexAddrP 2 v60 (nthP w46 0)).bind fun v61 =>
 (fieldAddrP 1 v61).bind fun v62 =>
 (loadP false 1 v62 h54).bind fun v63 =>
 (indexAddrArrP 32 1 v15 v63).bind fun v64 =>
 (storeP 1 v64 (.bool true : PV) h54).bind fun h65 =>
 j55 [] h65) fun j52 =>
 ifP v51 (
 j52 [] h47) (
 j17 [] h47)
noncomputable def s11 (Γ : PCallee) (n : Nat) (x0 : PV) (x1 : PV) (h : PHeap) : Pt :=
 forkP (.ptr h.length 0) (h ++ [.box (cellsP x0) 27 .rw]) fun v0 h1 =>
 (loadP true 33 v0 h1).bind fun v2 =>
 (Γ 8 [v2] h1).bind fun p3 =>
 (unP .not p3.1).bind fun v4 =>
 KL (fun w6 h7 =>
 (fieldAddrP 1 v0).bind fun v8 =>
 (loadP false 1 v8 h7).bind fun v9 =>
 (lenP false v9).bind fun v10 =>
 (binP .eql v10 (.int .i64 0 : PV)).bind fun v11 =>
 KL (fun w13 h14 =>
 forkP (.ptr h14.length 0) (h14 ++ [.box Z32 57 .rw]) fun v15 h16 =>
 KL (fun w18 h19 =>
 forkP (.ref h19.length 0 0 0 1) (h19 ++ [.log [] 1 3 .rw]) fun v20 h21 =>
 KL (fun w23 h24 =>
 finP [(.flat 1)] h h24 [(nthP w23 0)]) fun j22 =>
 loopP (s11_L0 Γ n v15 h21 j22) n [v20, (.int .i64 1 : PV)] h21) fun j17 =>
 loopP (s11_L1 Γ n v0 v15 h16 j17) n [(.int .i64 0 : PV)] h16) fun j12 =>
 ifP v11 (
 (binP .gtr x1 (.int .i64 0 : PV)).bind fun v66 =>
 KL (fun w68 h69 =>
 finP [(.flat 1)] h h69 [(.nilS : PV)]) fun j67 =>
 ifP v66 (
 (fillP (repP [.int .i64 0] 1) [(0, 1, x1)]).bind fun l70 =>
 guardP (l70.all pure1) (
 forkP (.frz 1 (chunk 1 1 l70)) (h7) fun v71 h72 =>
 finP [(.flat 1)] h h72 [v71])) (
 j67 [] h7)) (
 j12 [] h7)) fun j5 =>
 ifP v4 (
 finP [(.flat 1)] h p3.2 [(.nilS : PV)]) (
 j5 [] p3.2)

theorem s11_eq (Γ : PCallee) (n : Nat) (x0 : PV) (x1 : PV) (h : PHeap) : pfunK Γ n A11 [x0, x1] h = s11 Γ n x0 x1 h := by kernel_rfl


open Go.Vm.G in
/-- orchestrion/inst.SetKeys -/
def A12 : PFun := ⟨5, 74,
 (S (R <| o 5 (.box 27 (t 0)) <| o 10 (.new 27 V33) <| o 11 (.move (i 0)) <| z) <|
  (S (S (R <| o 15 (.load true 33 (t 5)) <| o 16 (.call 7 [(t 15)]) <| o 17 (.un .not (t 16)) <| z) <|
  (.cond (t 17) [] [11, 18]
  (S (R <| o 18 (.build V33 []) <| n (.store 33 (t 10) (t 18)) <| o 11 (.move (i 1)) <| z) <|
  .ret)
  .skip)) <|
  (S (S (R <| m 19 1 <| o 20 (.call 19 [(t 19), (i 0), (i 119)]) <| o 21 (.un .not (t 20)) <| m 22 21 <| q 27 22 false (g 23 4) (m 23 2 <| m 24 1 <| o 25 (.call 19 [(t 23), (t 24), (i 119)]) <| o 26 (.un .not (t 25)) <| z) (t 26) <|
  m 28 27 <| q 32 28 false [29, 30, 31] (m 29 3 <| o 30 (.call 19 [(t 29), (i (-119)), (i 119)]) <| o 31 (.un .not (t 30)) <| z) (t 31) <|
  m 33 32 <| q 37 33 false [34, 35, 36] (m 34 4 <| o 35 (.call 19 [(t 34), (i 0), (i 31)]) <| o 36 (.un .not (t 35)) <| z) (t 36) <|
  z) <|
  (.cond (t 37) [] [11, 38]
  (S (R <| o 38 (.build V33 []) <| n (.store 33 (t 10) (t 38)) <| o 11 (.move (i 5)) <| z) <|
  .ret)
  .skip)) <|
  (S (R <| o 39 (.load true 33 (t 5)) <| o 40 (.call 29 [(t 39)]) <| o 12 (.new 27 V33) <| n (.store 33 (t 12) (t 40)) <| z) <|
  (S (S (R <| f 41 1 12 <| l 42 41 <| o 43 (.len false (t 42)) <| b 44 .eql (t 43) (i 0) <| z) <|
  (.cond (t 44) [] ([13] ++ g 45 11)
  (S (R <| o 45 (.move (i 0)) <| z) <|
  (.block 0 [] ([13] ++ g 45 11)
  (.loop [45] ([13] ++ g 46 10)
  (S (R <| b 46 .lss (t 45) (i 120) <| z) <|
  (S (.cond (t 46) [] []
  .skip
  (.exit 0)) <|
  (S (.block 1 [] ([13] ++ g 47 8)
  (S (R <| m 47 45 <| m 13 47 <| z) <|
  (R <| f 48 1 12 <| l 49 48 <| m 50 13 <| o 51 (.build [(.int .i64 0), (.int .i64 0)] [(0, 1, (t 50))]) <| (.op (some 52) (.buildF 42 [(.int .i64 0), (.int .i64 0)] 1 [(0, 2, (t 51))]) false <| o 53 (.append 42 2 (t 49) (t 52)) <| f 54 1 12 <| n (.store 1 (t 54) (t 53)) <| z)))) <|
  (R <| b 55 .add (t 45) (i 1) <| m 45 55 <| z)))))))
  .skip)) <|
  (S (S (R <| m 56 1 <| m 14 56 <| z) <|
  (.block 2 [] ([14] ++ g 57 16)
  (.loop [14] (g 57 16)
  (S (S (R <| m 57 14 <| m 58 2 <| b 59 .leq (t 57) (t 58) <| z) <|
  (.cond (t 59) [] []
  .skip
  (.exit 2))) <|
  (S (.block 3 [] (g 62 11)
  (R <| f 62 1 12 <| l 63 62 <| m 64 14 <| m 65 14 <| m 66 3 <| b 67 .add (t 65) (t 66) <| o 68 (.max [(i 0), (t 67)]) <| o 69 (.min [(t 68), (i 119)]) <| m 70 4 <| o 71 (.build [(.int .i64 0), (.int .i64 0)] [(0, 1, (t 69)), (1, 1, (t 70))]) <| o 72 (.indexAddr 2 (t 63) (t 64)) <| n (.store 2 (t 72) (t 71)) <| z)) <|
  (R <| m 60 14 <| b 61 .add (t 60) (i 1) <| m 14 61 <| z)))))) <|
  (S (R <| o 73 (.load true 33 (t 12)) <| n (.store 33 (t 10) (t 73)) <| o 11 (.move (i 0)) <| z) <|
  .ret))))))),
 [.cell 10 true 33, .tmp 11], [.keep, .keep]⟩
theorem ok12 : ∃ fn c, FunOk Try.prog 12 fn c A12.erase := ⟨Try.f12, _, ⟨Try.func12, rfl, by kernel_rfl, by kernel_rfl, by kernel_rfl, of_decide_eq_true (by kernel_rfl), by kernel_rfl⟩⟩
noncomputable def s12_L0 (Γ : PCallee) (n : Nat) (x2 : PV) (x3 : PV) (x4 : PV) (v26 : PV) (h35 : PHeap) (j36 : List PV → PHeap → Pt) : (List PV → PHeap → Pt) → List PV → PHeap → Pt := fun c42 w43 h44 =>
 (binP .leq (nthP w43 0) x2).bind fun v45 =>
 KL (fun w47 h48 =>
 KL (fun w50 h51 =>
 (binP .add (nthP w43 0) (.int .i64 1 : PV)).bind fun v52 =>
 c42 [v52] (trim h35 [v52] h51)) fun j49 =>
 (fieldAddrP 1 v26).bind fun v53 =>
 (loadP false 1 v53 h48).bind fun v54 =>
 (binP .add (nthP w43 0) x3).bind fun v55 =>
 (fold1P max2P [(.int .i64 0 : PV), v55]).bind fun v56 =>
 (fold1P min2P [v56, (.int .i64 119 : PV)]).bind fun v57 =>
 (fillP [.int .i64 0, .int .i64 0] [(0, 1, v57), (1, 1, x4)]).bind fun l58 =>
 (indexAddrP 2 v54 (nthP w43 0)).bind fun v59 =>
 (storeP 2 v59 (PV.agg l58) h48).bind fun h60 =>
 j49 [] h60) fun j46 =>
 ifP v45 (
 j46 [] h44) (
 j36 [] h44)
noncomputable def s12_L1 (Γ : PCallee) (n : Nat) (v26 : PV) (h28 : PHeap) (j61 : List PV → PHeap → Pt) : (List PV → PHeap → Pt) → List PV → PHeap → Pt := fun c64 w65 h66 =>
 (binP .lss (nthP w65 0) (.int .i64 120 : PV)).bind fun v67 =>
 KL (fun w69 h70 =>
 KL (fun w72 h73 =>
 (binP .add (nthP w65 0) (.int .i64 1 : PV)).bind fun v74 =>
 c64 [v74] (trim h28 [v74] h73)) fun j71 =>
 (fieldAddrP 1 v26).bind fun v75 =>
 (loadP false 1 v75 h70).bind fun v76 =>
 (fillP [.int .i64 0, .int .i64 0] [(0, 1, (nthP w65 0))]).bind fun l77 =>
 (fillP (repP [.int .i64 0, .int .i64 0] 1) [(0, 2, (PV.agg l77))]).bind fun l78 =>
 guardP (l78.all pure1) (
 forkP (.frz 2 (chunk 2 1 l78)) (h70) fun v79 h80 =>
 (appendP 42 2 v76 v79 h80).bind fun p81 =>
 (fieldAddrP 1 v26).bind fun v82 =>
 (storeP 1 v82 p81.1 p81.2).bind fun h83 =>
 j71 [] h83)) fun j68 =>
 ifP v67 (
 j68 [] h66) (
 j61 [] h66)
noncomputable def s12 (Γ : PCallee) (n : Nat) (x0 : PV) (x1 : PV) (x2 : PV) (x3 : PV) (x4 : PV) (h : PHeap) : Pt :=
 forkP (.ptr h.length 0) (h ++ [.box (cellsP x0) 27 .rw]) fun v0 h1 =>
 forkP (.ptr h1.length 0) (h1 ++ [.box Z33 27 .rw]) fun v2 h3 =>
 (loadP true 33 v0 h3).bind fun v4 =>
 (Γ 7 [v4] h3).bind fun p5 =>
 (unP .not p5.1).bind fun v6 =>
 KL (fun w8 h9 =>
 (Γ 19 [x1, (.int .i64 0 : PV), (.int .i64 119 : PV)] h9).bind fun p10 =>
 (unP .not p10.1).bind fun v11 =>
 K1 (fun v13 h14 =>
 K1 (fun v16 h17 =>
 K1 (fun v19 h20 =>
 KL (fun w22 h23 =>
 (loadP true 33 v0 h23).bind fun v24 =>
 (Γ 29 [v24] h23).bind fun p25 =>
 forkP (.ptr p25.2.length 0) (p25.2 ++ [.box Z33 27 .rw]) fun v26 h27 =>
 (storeP 33 v26 p25.1 h27).bind fun h28 =>
 (fieldAddrP 1 v26).bind fun v29 =>
 (loadP false 1 v29 h28).bind fun v30 =>
 (lenP false v30).bind fun v31 =>
 (binP .eql v31 (.int .i64 0 : PV)).bind fun v32 =>
 KL (fun w34 h35 =>
 KL (fun w37 h38 =>
 (loadP true 33 v26 h38).bind fun v39 =>
 (storeP 33 v2 v39 h38).bind fun h40 =>
 (loadP true 33 v2 h40).bind fun v41 =>
 finP [.keep, .keep] h h40 [v41, (.int .i64 0 : PV)]) fun j36 =>
 loopP (s12_L0 Γ n x2 x3 x4 v26 h35 j36) n [x1] h35) fun j33 =>
 ifP v32 (
 KL (fun w62 h63 =>
 j33 [] h63) fun j61 =>
 loopP (s12_L1 Γ n v26 h28 j61) n [(.int .i64 0 : PV)] h28) (
 j33 [] h28)) fun j21 =>
 ifP v19 (
 (fillP Z33 []).bind fun l84 =>
 (storeP 33 v2 (PV.agg l84) h20).bind fun h85 =>
 (loadP true 33 v2 h85).bind fun v86 =>
 finP [.keep, .keep] h h85 [v86, (.int .i64 5 : PV)]) (
 j21 [] h20)) fun j18 =>
 scP v16 false (
 (Γ 19 [x4, (.int .i64 0 : PV), (.int .i64 31 : PV)] h17).bind fun p87 =>
 (unP .not p87.1).bind fun v88 =>
 j18 v88 p87.2)
 (j18 (.bool true) h17)) fun j15 =>
 scP v13 false (
 (Γ 19 [x3, (.int .i64 (-119) : PV), (.int .i64 119 : PV)] h14).bind fun p89 =>
 (unP .not p89.1).bind fun v90 =>
 j15 v90 p89.2)
 (j15 (.bool true) h14)) fun j12 =>
 scP v11 false (
 (Γ 19 [x2, x1, (.int .i64 119 : PV)] p10.2).bind fun p91 =>
 (unP .not p91.1).bind fun v92 =>
 j12 v92 p91.2)
 (j12 (.bool true) p10.2)) fun j7 =>
 ifP v6 (
 (fillP Z33 []).bind fun l93 =>
 (storeP 33 v2 (PV.agg l93) p5.2).bind fun h94 =>
 (loadP true 33 v2 h94).bind fun v95 =>
 finP [.keep, .keep] h h94 [v95, (.int .i64 1 : PV)]) (
 j7 [] p5.2)

theorem s12_eq (Γ : PCallee) (n : Nat) (x0 : PV) (x1 : PV) (x2 : PV) (x3 : PV) (x4 : PV) (h : PHeap) : pfunK Γ n A12 [x0, x1, x2, x3, x4] h = s12 Γ n x0 x1 x2 x3 x4 h := by kernel_rfl


open Go.Vm.G in
/-- orchestrion/orchestrionref04.SetKeys -/
def A13 : PFun := ⟨5, 88,
 (S (R <| o 5 (.box 27 (t 0)) <| o 10 (.new 27 V33) <| o 11 (.move (i 0)) <| z) <|
  (S (.block 0 [] ([11] ++ g 16 38)
  (S (R <| o 17 (.load true 33 (t 5)) <| o 18 (.call 8 [(t 17)]) <| o 19 (.un .not (t 18)) <| m 16 19 <| z) <|
  (.cond (t 16) [] ([11] ++ g 20 34)
  (S (R <| o 20 (.build V33 []) <| n (.store 33 (t 10) (t 20)) <| o 11 (.move (i 1)) <| z) <|
  .ret)
  (S (R <| m 22 1 <| b 23 .lss (t 22) (i 0) <| m 24 23 <| q 27 24 false [25, 26] (m 25 1 <| b 26 .gtr (t 25) (i 119) <| z) (t 26) <|
  m 28 27 <| q 31 28 false [29, 30] (m 29 2 <| b 30 .gtr (t 29) (i 119) <| z) (t 30) <|
  m 32 31 <| q 36 32 false [33, 34, 35] (m 33 2 <| m 34 1 <| b 35 .lss (t 33) (t 34) <| z) (t 35) <|
  m 37 36 <| q 40 37 false [38, 39] (m 38 3 <| b 39 .lss (t 38) (i (-119)) <| z) (t 39) <|
  m 41 40 <| q 44 41 false [42, 43] (m 42 3 <| b 43 .gtr (t 42) (i 119) <| z) (t 43) <|
  m 45 44 <| q 48 45 false [46, 47] (m 46 4 <| b 47 .lss (t 46) (i 0) <| z) (t 47) <|
  m 49 48 <| q 52 49 false [50, 51] (m 50 4 <| b 51 .gtr (t 50) (i 31) <| z) (t 51) <|
  m 21 52 <| z) <|
  (.cond (t 21) [] [11, 53]
  (S (R <| o 53 (.build V33 []) <| n (.store 33 (t 10) (t 53)) <| o 11 (.move (i 5)) <| z) <|
  .ret)
  .skip))))) <|
  (S (R <| o 54 (.load true 33 (t 5)) <| o 12 (.new 27 V33) <| n (.store 33 (t 12) (t 54)) <| z) <|
  (S (R <| o 55 (.mkSlice 42 [(.int .i64 0), (.int .i64 0)] (i 120) (i 120)) <| f 56 1 12 <| n (.store 1 (t 56) (t 55)) <| z) <|
  (S (S (R <| o 13 (.move (i 0)) <| z) <|
  (.block 1 [] ([13, 14, 15] ++ g 57 30)
  (.loop [13] ([14, 15] ++ g 57 30)
  (S (S (R <| m 57 13 <| b 58 .lss (t 57) (i 120) <| z) <|
  (.cond (t 58) [] []
  .skip
  (.exit 1))) <|
  (S (.block 2 [] ([14, 15] ++ g 61 26)
  (S (R <| o 62 (.load true 33 (t 5)) <| m 63 13 <| o 64 (.call 20 [(t 62), (t 63), (i 0)]) <| m 61 64 <| o 65 (.extract (t 61) 0) <| o 66 (.extract (t 61) 1) <| m 14 65 <| m 15 66 <| z) <|
  (S (S (R <| m 67 1 <| m 68 13 <| b 69 .leq (t 67) (t 68) <| m 70 69 <| q 74 70 true [71, 72, 73] (m 71 13 <| m 72 2 <| b 73 .leq (t 71) (t 72) <| z) (t 73) <|
  z) <|
  (.cond (t 74) [14, 15] (g 75 5)
  (R <| m 75 13 <| m 76 3 <| b 77 .add (t 75) (t 76) <| o 78 (.call 30 [(t 77), (i 0), (i 119)]) <| m 79 4 <| m 14 78 <| m 15 79 <| z)
  .skip)) <|
  (R <| f 80 1 12 <| l 81 80 <| m 82 13 <| m 83 14 <| m 84 15 <| o 85 (.build [(.int .i64 0), (.int .i64 0)] [(0, 1, (t 83)), (1, 1, (t 84))]) <| o 86 (.indexAddr 2 (t 81) (t 82)) <| n (.store 2 (t 86) (t 85)) <| z)))) <|
  (R <| m 59 13 <| b 60 .add (t 59) (i 1) <| m 13 60 <| z)))))) <|
  (S (R <| o 87 (.load true 33 (t 12)) <| n (.store 33 (t 10) (t 87)) <| o 11 (.move (i 0)) <| z) <|
  .ret)))))),
 [.cell 10 true 33, .tmp 11], [(.agg SA33), .keep]⟩
theorem ok13 : ∃ fn c, FunOk Try.prog 13 fn c A13.erase := ⟨Try.f13, _, ⟨Try.func13, rfl, by kernel_rfl, by kernel_rfl, by kernel_rfl, of_decide_eq_true (by kernel_rfl), by kernel_rfl⟩⟩
noncomputable def s13_L0 (Γ : PCallee) (n : Nat) (x1 : PV) (x2 : PV) (x3 : PV) (x4 : PV) (v0 : PV) (v8 : PV) (h13 : PHeap) (j14 : List PV → PHeap → Pt) : (List PV → PHeap → Pt) → List PV → PHeap → Pt := fun c20 w21 h22 =>
 (binP .lss (nthP w21 0) (.int .i64 120 : PV)).bind fun v23 =>
 KL (fun w25 h26 =>
 KL (fun w28 h29 =>
 (binP .add (nthP w21 0) (.int .i64 1 : PV)).bind fun v30 =>
 c20 [v30] (trim h13 [v30] h29)) fun j27 =>
 (loadP true 33 v0 h26).bind fun v31 =>
 (Γ 20 [v31, (nthP w21 0), (.int .i64 0 : PV)] h26).bind fun p32 =>
 (extractP p32.1 0).bind fun v33 =>
 (extractP p32.1 1).bind fun v34 =>
 (binP .leq x1 (nthP w21 0)).bind fun v35 =>
 K1 (fun v37 h38 =>
 KL (fun w40 h41 =>
 (fieldAddrP 1 v8).bind fun v42 =>
 (loadP false 1 v42 h41).bind fun v43 =>
 (fillP [.int .i64 0, .int .i64 0] [(0, 1, (nthP w40 0)), (1, 1, (nthP w40 1))]).bind fun l44 =>
 (indexAddrP 2 v43 (nthP w21 0)).bind fun v45 =>
 (storeP 2 v45 (PV.agg l44) h41).bind fun h46 =>
 j27 [] h46) fun j39 =>
 ifP v37 (
 (binP .add (nthP w21 0) x3).bind fun v47 =>
 (Γ 30 [v47, (.int .i64 0 : PV), (.int .i64 119 : PV)] h38).bind fun p48 =>
 j39 [p48.1, x4] p48.2) (
 j39 [v33, v34] h38)) fun j36 =>
 scP v35 true (
 (binP .leq (nthP w21 0) x2).bind fun v49 =>
 j36 v49 p32.2)
 (j36 (.bool false) p32.2)) fun j24 =>
 ifP v23 (
 j24 [] h22) (
 j14 [] h22)
noncomputable def s13 (Γ : PCallee) (n : Nat) (x0 : PV) (x1 : PV) (x2 : PV) (x3 : PV) (x4 : PV) (h : PHeap) : Pt :=
 forkP (.ptr h.length 0) (h ++ [.box (cellsP x0) 27 .rw]) fun v0 h1 =>
 forkP (.ptr h1.length 0) (h1 ++ [.box Z33 27 .rw]) fun v2 h3 =>
 KL (fun w5 h6 =>
 (loadP true 33 v0 h6).bind fun v7 =>
 forkP (.ptr h6.length 0) (h6 ++ [.box Z33 27 .rw]) fun v8 h9 =>
 (storeP 33 v8 v7 h9).bind fun h10 =>
 (mkSliceP 42 [.int .i64 0, .int .i64 0] (.int .i64 120 : PV) (.int .i64 120 : PV) h10).bind fun p11 =>
 (fieldAddrP 1 v8).bind fun v12 =>
 (storeP 1 v12 p11.1 p11.2).bind fun h13 =>
 KL (fun w15 h16 =>
 (loadP true 33 v8 h16).bind fun v17 =>
 (storeP 33 v2 v17 h16).bind fun h18 =>
 (loadP true 33 v2 h18).bind fun v19 =>
 finP [(.agg SA33), .keep] h h18 [v19, (.int .i64 0 : PV)]) fun j14 =>
 loopP (s13_L0 Γ n x1 x2 x3 x4 v0 v8 h13 j14) n [(.int .i64 0 : PV)] h13) fun j4 =>
 (loadP true 33 v0 h3).bind fun v50 =>
 (Γ 8 [v50] h3).bind fun p51 =>
 (unP .not p51.1).bind fun v52 =>
 KL (fun w54 h55 =>
 j4 [] h55) fun j53 =>
 ifP v52 (
 (fillP Z33 []).bind fun l56 =>
 (storeP 33 v2 (PV.agg l56) p51.2).bind fun h57 =>
 (loadP true 33 v2 h57).bind fun v58 =>
 finP [(.agg SA33), .keep] h h57 [v58, (.int .i64 1 : PV)]) (
 (binP .lss x1 (.int .i64 0 : PV)).bind fun v59 =>
 K1 (fun v61 h62 =>
 K1 (fun v64 h65 =>
 K1 (fun v67 h68 =>
 K1 (fun v70 h71 =>
 K1 (fun v73 h74 =>
 K1 (fun v76 h77 =>
 K1 (fun v79 h80 =>
 KL (fun w82 h83 =>
 j53 [] h83) fun j81 =>
 ifP v79 (
 (fillP Z33 []).bind fun l84 =>
 (storeP 33 v2 (PV.agg l84) h80).bind fun h85 =>
 (loadP true 33 v2 h85).bind fun v86 =>
 finP [(.agg SA33), .keep] h h85 [v86, (.int .i64 5 : PV)]) (
 j81 [] h80)) fun j78 =>
 scP v76 false (
 (binP .gtr x4 (.int .i64 31 : PV)).bind fun v87 =>
 j78 v87 h77)
 (j78 (.bool true) h77)) fun j75 =>
 scP v73 false (
 (binP .lss x4 (.int .i64 0 : PV)).bind fun v88 =>
 j75 v88 h74)
 (j75 (.bool true) h74)) fun j72 =>
 scP v70 false (
 (binP .gtr x3 (.int .i64 119 : PV)).bind fun v89 =>
 j72 v89 h71)
 (j72 (.bool true) h71)) fun j69 =>
 scP v67 false (
 (binP .lss x3 (.int .i64 (-119) : PV)).bind fun v90 =>
 j69 v90 h68)
 (j69 (.bool true) h68)) fun j66 =>
 scP v64 false (
 (binP .lss x2 x1).bind fun v91 =>
 j66 v91 h65)
 (j66 (.bool true) h65)) fun j63 =>
 scP v61 false (
 (binP .gtr x2 (.int .i64 119 : PV)).bind fun v92 =>
 j63 v92 h62)
 (j63 (.bool true) h62)) fun j60 =>
 scP v59 false (
 (binP .gtr x1 (.int .i64 119 : PV)).bind fun v93 =>
 j60 v93 p51.2)
 (j60 (.bool true) p51.2))

theorem s13_eq (Γ : PCallee) (n : Nat) (x0 : PV) (x1 : PV) (x2 : PV) (x3 : PV) (x4 : PV) (h : PHeap) : pfunK Γ n A13 [x0, x1, x2, x3, x4] h = s13 Γ n x0 x1 x2 x3 x4 h := by kernel_rfl


open Go.Vm.G in
/-- orchestrion/orchestrionlaw04.instant -/
def A14 : PFun := ⟨2, 151,
 (S (R <| o 2 (.box 27 (t 0)) <| o 3 (.box 27 (t 1)) <| o 4 (.move (.const (.bool false))) <| z) <|
  (S (S (R <| f 9 2 2 <| o 10 (.load true 8 (t 9)) <| f 11 2 3 <| o 12 (.load true 8 (t 11)) <| o 13 (.build [(.bool false), (.slice none 0 0), (.bool false), (.int .i64 0), (.int .i64 0), (.bool false), (.int .i64 0), (.int .i64 0), (.bool false), (.slice none 0 0), (.bool false), (.int .i64 0), (.int .i64 0), (.bool false), (.int .i64 0), (.int .i64 0)] [(0, 8, (t 10)), (8, 8, (t 12))]) <| f 14 10 2 <| o 15 (.load true 8 (t 14)) <| f 16 10 3 <| o 17 (.load true 8 (t 16)) <| o 18 (.build [(.bool false), (.slice none 0 0), (.bool false), (.int .i64 0), (.int .i64 0), (.bool false), (.int .i64 0), (.int .i64 0), (.bool false), (.slice none 0 0), (.bool false), (.int .i64 0), (.int .i64 0), (.bool false), (.int .i64 0), (.int .i64 0)] [(0, 8, (t 15)), (8, 8, (t 17))]) <| f 19 18 2 <| o 20 (.load true 8 (t 19)) <| f 21 18 3 <| o 22 (.load true 8 (t 21)) <| o 23 (.build [(.bool false), (.slice none 0 0), (.bool false), (.int .i64 0), (.int .i64 0), (.bool false), (.int .i64 0), (.int .i64 0), (.bool false), (.slice none 0 0), (.bool false), (.int .i64 0), (.int .i64 0), (.bool false), (.int .i64 0), (.int .i64 0)] [(0, 8, (t 20)), (8, 8, (t 22))]) <| (.op (some 24) (.buildF 60 [(.bool false), (.slice none 0 0), (.bool false), (.int .i64 0), (.int .i64 0), (.bool false), (.int .i64 0), (.int .i64 0), (.bool false), (.slice none 0 0), (.bool false), (.int .i64 0), (.int .i64 0), (.bool false), (.int .i64 0), (.int .i64 0)] 3 [(0, 16, (t 13)), (16, 16, (t 18)), (32, 16, (t 23))]) false <| o 25 (.len false (t 24)) <| o 26 (.move (i 0)) <| z)) <|
  (.block 0 [] ([4, 6, 7, 8] ++ g 26 64)
  (.loop [26] ([4, 6, 7, 8] ++ g 27 63)
  (S (R <| b 27 .lss (t 26) (t 25) <| z) <|
  (S (.cond (t 27) [] []
  .skip
  (.exit 0)) <|
  (S (.block 1 [] ([4, 6, 7, 8] ++ g 28 61)
  (S (R <| o 28 (.indexAddr 16 (t 24) (t 26)) <| o 29 (.load true 16 (t 28)) <| o 6 (.new 60 [(.bool false), (.slice none 0 0), (.bool false), (.int .i64 0), (.int .i64 0), (.bool false), (.int .i64 0), (.int .i64 0), (.bool false), (.slice none 0 0), (.bool false), (.int .i64 0), (.int .i64 0), (.bool false), (.int .i64 0), (.int .i64 0)]) <| n (.store 16 (t 6) (t 29)) <| z) <|
  (S (D <| o 30 (.indexAddrArr 2 8 (t 6) (i 0)) <| o 31 (.load true 8 (t 30)) <| o 32 (.indexAddrArr 2 8 (t 6) (i 1)) <| o 33 (.load true 8 (t 32)) <| o 7 (.new 25 [(.bool false), (.slice none 0 0), (.bool false), (.int .i64 0), (.int .i64 0), (.bool false), (.int .i64 0), (.int .i64 0)]) <| o 8 (.new 25 [(.bool false), (.slice none 0 0), (.bool false), (.int .i64 0), (.int .i64 0), (.bool false), (.int .i64 0), (.int .i64 0)]) <| n (.store 8 (t 7) (t 31)) <| n (.store 8 (t 8) (t 33)) <| z) <|
  (S (R <| f 34 1 7 <| l 35 34 <| f 36 1 8 <| l 37 36 <| o 38 (.call 31 [(t 35), (t 37)]) <| o 39 (.un .not (t 38)) <| m 40 39 <| q 46 40 false (g 41 5) (f 41 0 7 <| l 42 41 <| f 43 0 8 <| l 44 43 <| o 45 (.eqBool true (t 42) (t 44)) <| z) (t 45) <|
  m 47 46 <| q 53 47 false (g 48 5) (f 48 2 7 <| l 49 48 <| f 50 2 8 <| l 51 50 <| o 52 (.eqBool true (t 49) (t 51)) <| z) (t 52) <|
  m 54 53 <| q 60 54 false (g 55 5) (f 55 3 7 <| l 56 55 <| f 57 3 8 <| l 58 57 <| b 59 .neq (t 56) (t 58) <| z) (t 59) <|
  m 61 60 <| q 67 61 false (g 62 5) (f 62 4 7 <| l 63 62 <| f 64 4 8 <| l 65 64 <| b 66 .neq (t 63) (t 65) <| z) (t 66) <|
  m 68 67 <| q 74 68 false (g 69 5) (f 69 5 7 <| l 70 69 <| f 71 5 8 <| l 72 71 <| o 73 (.eqBool true (t 70) (t 72)) <| z) (t 73) <|
  m 75 74 <| q 81 75 false (g 76 5) (f 76 6 7 <| l 77 76 <| f 78 6 8 <| l 79 78 <| b 80 .neq (t 77) (t 79) <| z) (t 80) <|
  m 82 81 <| q 88 82 false (g 83 5) (f 83 7 7 <| l 84 83 <| f 85 7 8 <| l 86 85 <| b 87 .neq (t 84) (t 86) <| z) (t 87) <|
  z) <|
  (.cond (t 88) [] [4]
  (S (R <| o 4 (.move (.const (.bool false))) <| z) <|
  .ret)
  .skip))))) <|
  (R <| b 89 .add (t 26) (i 1) <| m 26 89 <| z))))))) <|
  (S (R <| f 90 1 2 <| l 91 90 <| f 92 1 3 <| l 93 92 <| o 94 (.call 15 [(t 91), (t 93)]) <| m 95 94 <| q 101 95 true (g 96 5) (f 96 0 2 <| l 97 96 <| f 98 0 3 <| l 99 98 <| b 100 .eql (t 97) (t 99) <| z) (t 100) <|
  m 102 101 <| q 108 102 true (g 103 5) (f 103 26 2 <| l 104 103 <| f 105 26 3 <| l 106 105 <| b 107 .eql (t 104) (t 106) <| z) (t 107) <|
  m 109 108 <| q 115 109 true (g 110 5) (f 110 27 2 <| l 111 110 <| f 112 27 3 <| l 113 112 <| b 114 .eql (t 111) (t 113) <| z) (t 114) <|
  m 116 115 <| q 122 116 true (g 117 5) (f 117 28 2 <| l 118 117 <| f 119 28 3 <| l 120 119 <| b 121 .eql (t 118) (t 120) <| z) (t 121) <|
  m 123 122 <| q 129 123 true (g 124 5) (f 124 29 2 <| l 125 124 <| f 126 29 3 <| l 127 126 <| b 128 .eql (t 125) (t 127) <| z) (t 128) <|
  m 130 129 <| q 136 130 true (g 131 5) (f 131 30 2 <| l 132 131 <| f 133 30 3 <| l 134 133 <| b 135 .eql (t 132) (t 134) <| z) (t 135) <|
  m 137 136 <| q 143 137 true (g 138 5) (f 138 31 2 <| l 139 138 <| f 140 31 3 <| l 141 140 <| b 142 .eql (t 139) (t 141) <| z) (t 142) <|
  m 144 143 <| q 150 144 true (g 145 5) (f 145 32 2 <| l 146 145 <| f 147 32 3 <| l 148 147 <| b 149 .eql (t 146) (t 148) <| z) (t 149) <|
  m 4 150 <| z) <|
  .ret))),
 [.tmp 4], [.keep]⟩
theorem ok14 : ∃ fn c, FunOk Try.prog 14 fn c A14.erase := ⟨Try.f14, _, ⟨Try.func14, rfl, by kernel_rfl, by kernel_rfl, by kernel_rfl, of_decide_eq_true (by kernel_rfl), by kernel_rfl⟩⟩
noncomputable def s14_L0 (Γ : PCallee) (n : Nat) (h : PHeap) (v20 : PV) (h21 : PHeap) (v22 : PV) (j23 : List PV → PHeap → Pt) : (List PV → PHeap → Pt) → List PV → PHeap → Pt := fun c95 w96 h97 =>
 (binP .lss (nthP w96 0) v22).bind fun v98 =>
 KL (fun w100 h101 =>
 KL (fun w103 h104 =>
 (binP .add (nthP w96 0) (.int .i64 1 : PV)).bind fun v105 =>
 c95 [v105] (trim h21 [v105] h104)) fun j102 =>
 (indexAddrP 16 v20 (nthP w96 0)).bind fun v106 =>
 (loadP true 16 v106 h101).bind fun v107 =>
 forkP (.ptr h101.length 0) (h101 ++ [.box [.bool false, .nilS, .bool false, .int .i64 0, .int .i64 0, .bool false, .int .i64 0, .int .i64 0, .bool false, .nilS, .bool false, .int .i64 0, .int .i64 0, .bool false, .int .i64 0, .int .i64 0] 60 .rw]) fun v108 h109 =>
 (storeP 16 v108 v107 h109).bind fun h110 =>
 (indexAddrArrP 2 8 v108 (.int .i64 0 : PV)).bind fun v111 =>
 (loadP true 8 v111 h110).bind fun v112 =>
 (indexAddrArrP 2 8 v108 (.int .i64 1 : PV)).bind fun v113 =>
 (loadP true 8 v113 h110).bind fun v114 =>
 forkP (.ptr h110.length 0) (h110 ++ [.box [.bool false, .nilS, .bool false, .int .i64 0, .int .i64 0, .bool false, .int .i64 0, .int .i64 0] 25 .rw]) fun v115 h116 =>
 forkP (.ptr h116.length 0) (h116 ++ [.box [.bool false, .nilS, .bool false, .int .i64 0, .int .i64 0, .bool false, .int .i64 0, .int .i64 0] 25 .rw]) fun v117 h118 =>
 (storeP 8 v115 v112 h118).bind fun h119 =>
 (storeP 8 v117 v114 h119).bind fun h120 =>
 (fieldAddrP 1 v115).bind fun v121 =>
 (loadP false 1 v121 h120).bind fun v122 =>
 (fieldAddrP 1 v117).bind fun v123 =>
 (loadP false 1 v123 h120).bind fun v124 =>
 (Γ 31 [v122, v124] h120).bind fun p125 =>
 (unP .not p125.1).bind fun v126 =>
 K1 (fun v128 h129 =>
 K1 (fun v131 h132 =>
 K1 (fun v134 h135 =>
 K1 (fun v137 h138 =>
 K1 (fun v140 h141 =>
 K1 (fun v143 h144 =>
 K1 (fun v146 h147 =>
 KL (fun w149 h150 =>
 j102 [] h150) fun j148 =>
 ifP v146 (
 finP [.keep] h h147 [(.bool false : PV)]) (
 j148 [] h147)) fun j145 =>
 scP v143 false (
 (fieldAddrP 7 v115).bind fun v151 =>
 (loadP false 1 v151 h144).bind fun v152 =>
 (fieldAddrP 7 v117).bind fun v153 =>
 (loadP false 1 v153 h144).bind fun v154 =>
 (binP .neq v152 v154).bind fun v155 =>
 j145 v155 h144)
 (j145 (.bool true) h144)) fun j142 =>
 scP v140 false (
 (fieldAddrP 6 v115).bind fun v156 =>
 (loadP false 1 v156 h141).bind fun v157 =>
 (fieldAddrP 6 v117).bind fun v158 =>
 (loadP false 1 v158 h141).bind fun v159 =>
 (binP .neq v157 v159).bind fun v160 =>
 j142 v160 h141)
 (j142 (.bool true) h141)) fun j139 =>
 scP v137 false (
 (fieldAddrP 5 v115).bind fun v161 =>
 (loadP false 1 v161 h138).bind fun v162 =>
 (fieldAddrP 5 v117).bind fun v163 =>
 (loadP false 1 v163 h138).bind fun v164 =>
 (eqBoolP true v162 v164).bind fun v165 =>
 j139 v165 h138)
 (j139 (.bool true) h138)) fun j136 =>
 scP v134 false (
 (fieldAddrP 4 v115).bind fun v166 =>
 (loadP false 1 v166 h135).bind fun v167 =>
 (fieldAddrP 4 v117).bind fun v168 =>
 (loadP false 1 v168 h135).bind fun v169 =>
 (binP .neq v167 v169).bind fun v170 =>
 j136 v170 h135)
 (j136 (.bool true) h135)) fun j133 =>
 scP v131 false (
 (fieldAddrP 3 v115).bind fun v171 =>
 (loadP false 1 v171 h132).bind fun v172 =>
 (fieldAddrP 3 v117).bind fun v173 =>
 (loadP false 1 v173 h132).bind fun v174 =>
 (binP .neq v172 v174).bind fun v175 =>
 j133 v175 h132)
 (j133 (.bool true) h132)) fun j130 =>
 scP v128 false (
 (fieldAddrP 2 v115).bind fun v176 =>
 (loadP false 1 v176 h129).bind fun v177 =>
 (fieldAddrP 2 v117).bind fun v178 =>
 (loadP false 1 v178 h129).bind fun v179 =>
 (eqBoolP true v177 v179).bind fun v180 =>
 j130 v180 h129)
 (j130 (.bool true) h129)) fun j127 =>
 scP v126 false (
 (fieldAddrP 0 v115).bind fun v181 =>
 (loadP false 1 v181 p125.2).bind fun v182 =>
 (fieldAddrP 0 v117).bind fun v183 =>
 (loadP false 1 v183 p125.2).bind fun v184 =>
 (eqBoolP true v182 v184).bind fun v185 =>
 j127 v185 p125.2)
 (j127 (.bool true) p125.2)) fun j99 =>
 ifP v98 (
 j99 [] h97) (
 j23 [] h97)
noncomputable def s14 (Γ : PCallee) (n : Nat) (x0 : PV) (x1 : PV) (h : PHeap) : Pt :=
 forkP (.ptr h.length 0) (h ++ [.box (cellsP x0) 27 .rw]) fun v0 h1 =>
 forkP (.ptr h1.length 0) (h1 ++ [.box (cellsP x1) 27 .rw]) fun v2 h3 =>
 (fieldAddrP 2 v0).bind fun v4 =>
 (loadP true 8 v4 h3).bind fun v5 =>
 (fieldAddrP 2 v2).bind fun v6 =>
 (loadP true 8 v6 h3).bind fun v7 =>
 (fillP [.bool false, .nilS, .bool false, .int .i64 0, .int .i64 0, .bool false, .int .i64 0, .int .i64 0, .bool false, .nilS, .bool false, .int .i64 0, .int .i64 0, .bool false, .int .i64 0, .int .i64 0] [(0, 8, v5), (8, 8, v7)]).bind fun l8 =>
 (fieldAddrP 10 v0).bind fun v9 =>
 (loadP true 8 v9 h3).bind fun v10 =>
 (fieldAddrP 10 v2).bind fun v11 =>
 (loadP true 8 v11 h3).bind fun v12 =>
 (fillP [.bool false, .nilS, .bool false, .int .i64 0, .int .i64 0, .bool false, .int .i64 0, .int .i64 0, .bool false, .nilS, .bool false, .int .i64 0, .int .i64 0, .bool false, .int .i64 0, .int .i64 0] [(0, 8, v10), (8, 8, v12)]).bind fun l13 =>
 (fieldAddrP 18 v0).bind fun v14 =>
 (loadP true 8 v14 h3).bind fun v15 =>
 (fieldAddrP 18 v2).bind fun v16 =>
 (loadP true 8 v16 h3).bind fun v17 =>
 (fillP [.bool false, .nilS, .bool false, .int .i64 0, .int .i64 0, .bool false, .int .i64 0, .int .i64 0, .bool false, .nilS, .bool false, .int .i64 0, .int .i64 0, .bool false, .int .i64 0, .int .i64 0] [(0, 8, v15), (8, 8, v17)]).bind fun l18 =>
 (fillP (repP [.bool false, .nilS, .bool false, .int .i64 0, .int .i64 0, .bool false, .int .i64 0, .int .i64 0, .bool false, .nilS, .bool false, .int .i64 0, .int .i64 0, .bool false, .int .i64 0, .int .i64 0] 3) [(0, 16, (PV.agg l8)), (16, 16, (PV.agg l13)), (32, 16, (PV.agg l18))]).bind fun l19 =>
 guardP (l19.all pure1) (
 forkP (.frz 16 (chunk 16 3 l19)) (h3) fun v20 h21 =>
 (lenP false v20).bind fun v22 =>
 KL (fun w24 h25 =>
 (fieldAddrP 1 v0).bind fun v26 =>
 (loadP false 1 v26 h25).bind fun v27 =>
 (fieldAddrP 1 v2).bind fun v28 =>
 (loadP false 1 v28 h25).bind fun v29 =>
 (Γ 15 [v27, v29] h25).bind fun p30 =>
 K1 (fun v32 h33 =>
 K1 (fun v35 h36 =>
 K1 (fun v38 h39 =>
 K1 (fun v41 h42 =>
 K1 (fun v44 h45 =>
 K1 (fun v47 h48 =>
 K1 (fun v50 h51 =>
 K1 (fun v53 h54 =>
 finP [.keep] h h54 [v53]) fun j52 =>
 scP v50 true (
 (fieldAddrP 32 v0).bind fun v55 =>
 (loadP false 1 v55 h51).bind fun v56 =>
 (fieldAddrP 32 v2).bind fun v57 =>
 (loadP false 1 v57 h51).bind fun v58 =>
 (binP .eql v56 v58).bind fun v59 =>
 j52 v59 h51)
 (j52 (.bool false) h51)) fun j49 =>
 scP v47 true (
 (fieldAddrP 31 v0).bind fun v60 =>
 (loadP false 1 v60 h48).bind fun v61 =>
 (fieldAddrP 31 v2).bind fun v62 =>
 (loadP false 1 v62 h48).bind fun v63 =>
 (binP .eql v61 v63).bind fun v64 =>
 j49 v64 h48)
 (j49 (.bool false) h48)) fun j46 =>
 scP v44 true (
 (fieldAddrP 30 v0).bind fun v65 =>
 (loadP false 1 v65 h45).bind fun v66 =>
 (fieldAddrP 30 v2).bind fun v67 =>
 (loadP false 1 v67 h45).bind fun v68 =>
 (binP .eql v66 v68).bind fun v69 =>
 j46 v69 h45)
 (j46 (.bool false) h45)) fun j43 =>
 scP v41 true (
 (fieldAddrP 29 v0).bind fun v70 =>
 (loadP false 1 v70 h42).bind fun v71 =>
 (fieldAddrP 29 v2).bind fun v72 =>
 (loadP false 1 v72 h42).bind fun v73 =>
 (binP .eql v71 v73).bind fun v74 =>
 j43 v74 h42)
 (j43 (.bool false) h42)) fun j40 =>
 scP v38 true (
 (fieldAddrP 28 v0).bind fun v75 =>
 (loadP false 1 v75 h39).bind fun v76 =>
 (fieldAddrP 28 v2).bind fun v77 =>
 (loadP false 1 v77 h39).bind fun v78 =>
 (binP .eql v76 v78).bind fun v79 =>
 j40 v79 h39)
 (j40 (.bool false) h39)) fun j37 =>
 scP v35 true (
 (fieldAddrP 27 v0).bind fun v80 =>
 (loadP false 1 v80 h36).bind fun v81 =>
 (fieldAddrP 27 v2).bind fun v82 =>
 (loadP false 1 v82 h36).bind fun v83 =>
 (binP .eql v81 v83).bind fun v84 =>
 j37 v84 h36)
 (j37 (.bool false) h36)) fun j34 =>
 scP v32 true (
 (fieldAddrP 26 v0).bind fun v85 =>
 (loadP false 1 v85 h33).bind fun v86 =>
 (fieldAddrP 26 v2).bind fun v87 =>
 (loadP false 1 v87 h33).bind fun v88 =>
 (binP .eql v86 v88).bind fun v89 =>
 j34 v89 h33)
 (j34 (.bool false) h33)) fun j31 =>
 scP p30.1 true (
 (fieldAddrP 0 v0).bind fun v90 =>
 (loadP false 1 v90 p30.2).bind fun v91 =>
 (fieldAddrP 0 v2).bind fun v92 =>
 (loadP false 1 v92 p30.2).bind fun v93 =>
 (binP .eql v91 v93).bind fun v94 =>
 j31 v94 p30.2)
 (j31 (.bool false) p30.2)) fun j23 =>
 loopP (s14_L0 Γ n h v20 h21 v22 j23) n [(.int .i64 0 : PV)] h21)

theorem s14_eq (Γ : PCallee) (n : Nat) (x0 : PV) (x1 : PV) (h : PHeap) : pfunK Γ n A14 [x0, x1] h = s14 Γ n x0 x1 h := by kernel_rfl


open Go.Vm.G in
/-- orchestrion/orchestrionlaw04.same[orchestrion/api.Key] -/
def A15 : PFun := ⟨2, 26,
 (S (R <| o 4 (.move (.const (.bool false))) <| z) <|
  (S (S (R <| m 6 0 <| o 7 (.len false (t 6)) <| m 8 1 <| o 9 (.len false (t 8)) <| b 10 .neq (t 7) (t 9) <| z) <|
  (.cond (t 10) [] [4]
  (S (R <| o 4 (.move (.const (.bool false))) <| z) <|
  .ret)
  .skip)) <|
  (S (S (R <| m 11 0 <| o 12 (.len false (t 11)) <| o 13 (.move (i 0)) <| z) <|
  (.block 0 [] ([4, 5] ++ g 13 13)
  (.loop [13] ([4, 5] ++ g 14 12)
  (S (R <| b 14 .lss (t 13) (t 12) <| z) <|
  (S (.cond (t 14) [] []
  .skip
  (.exit 0)) <|
  (S (.block 1 [] ([4, 5] ++ g 15 10)
  (S (R <| m 15 13 <| m 5 15 <| z) <|
  (S (D <| m 16 0 <| m 17 5 <| o 18 (.indexAddr 2 (t 16) (t 17)) <| o 19 (.load true 2 (t 18)) <| m 20 1 <| m 21 5 <| o 22 (.indexAddr 2 (t 20) (t 21)) <| o 23 (.load true 2 (t 22)) <| o 24 (.eqAgg [.int, .int] true (t 19) (t 23)) <| z) <|
  (.cond (t 24) [] [4]
  (S (R <| o 4 (.move (.const (.bool false))) <| z) <|
  .ret)
  .skip)))) <|
  (R <| b 25 .add (t 13) (i 1) <| m 13 25 <| z))))))) <|
  (S (R <| o 4 (.move (.const (.bool true))) <| z) <|
  .ret)))),
 [.tmp 4], [.keep]⟩
theorem ok15 : ∃ fn c, FunOk Try.prog 15 fn c A15.erase := ⟨Try.f15, _, ⟨Try.func15, rfl, by kernel_rfl, by kernel_rfl, by kernel_rfl, of_decide_eq_true (by kernel_rfl), by kernel_rfl⟩⟩
noncomputable def s15_L0 (Γ : PCallee) (n : Nat) (x0 : PV) (x1 : PV) (h : PHeap) (h5 : PHeap) (v6 : PV) (j7 : List PV → PHeap → Pt) : (List PV → PHeap → Pt) → List PV → PHeap → Pt := fun c10 w11 h12 =>
 (binP .lss (nthP w11 0) v6).bind fun v13 =>
 KL (fun w15 h16 =>
 KL (fun w18 h19 =>
 (binP .add (nthP w11 0) (.int .i64 1 : PV)).bind fun v20 =>
 c10 [v20] (trim h5 [v20] h19)) fun j17 =>
 (indexAddrP 2 x0 (nthP w11 0)).bind fun v21 =>
 (loadP true 2 v21 h16).bind fun v22 =>
 (indexAddrP 2 x1 (nthP w11 0)).bind fun v23 =>
 (loadP true 2 v23 h16).bind fun v24 =>
 (eqAggP [.int, .int] true v22 v24).bind fun v25 =>
 KL (fun w27 h28 =>
 j17 [] h28) fun j26 =>
 ifP v25 (
 finP [.keep] h h16 [(.bool false : PV)]) (
 j26 [] h16)) fun j14 =>
 ifP v13 (
 j14 [] h12) (
 j7 [] h12)
noncomputable def s15 (Γ : PCallee) (n : Nat) (x0 : PV) (x1 : PV) (h : PHeap) : Pt :=
 (lenP false x0).bind fun v0 =>
 (lenP false x1).bind fun v1 =>
 (binP .neq v0 v1).bind fun v2 =>
 KL (fun w4 h5 =>
 (lenP false x0).bind fun v6 =>
 KL (fun w8 h9 =>
 finP [.keep] h h9 [(.bool true : PV)]) fun j7 =>
 loopP (s15_L0 Γ n x0 x1 h h5 v6 j7) n [(.int .i64 0 : PV)] h5) fun j3 =>
 ifP v2 (
 finP [.keep] h h [(.bool false : PV)]) (
 j3 [] h)

theorem s15_eq (Γ : PCallee) (n : Nat) (x0 : PV) (x1 : PV) (h : PHeap) : pfunK Γ n A15 [x0, x1] h = s15 Γ n x0 x1 h := by kernel_rfl


open Go.Vm.G in
/-- orchestrion/inst.Value -/
def A16 : PFun := ⟨2, 64,
 (S (R <| o 2 (.box 25 (t 0)) <| o 3 (.box 3 (t 1)) <| o 4 (.move (i 0)) <| z) <|
  (S (S (R <| o 8 (.load true 8 (t 2)) <| o 9 (.call 32 [(t 8)]) <| o 10 (.un .not (t 9)) <| z) <|
  (.cond (t 10) [] [4]
  (S (R <| o 4 (.move (i 0)) <| z) <|
  .ret)
  .skip)) <|
  (S (R <| f 11 1 2 <| l 12 11 <| o 13 (.mkFunc 34 [] [(t 3)]) <| o 14 (.call 33 [(t 12), (t 13)]) <| m 5 14 <| z) <|
  (S (S (R <| m 15 5 <| z) <|
  (.block 0 [] ([4] ++ g 16 18)
  (S (R <| b 17 .eql (t 15) (i (-1)) <| m 16 17 <| z) <|
  (.cond (t 16) [] ([4] ++ g 18 16)
  (S (R <| f 18 1 2 <| l 19 18 <| f 20 1 2 <| l 21 20 <| o 22 (.len false (t 21)) <| b 23 .sub (t 22) (i 1) <| o 24 (.indexAddr 2 (t 19) (t 23)) <| f 25 1 24 <| l 26 25 <| m 4 26 <| z) <|
  .ret)
  (S (R <| b 28 .eql (t 15) (i 0) <| m 27 28 <| z) <|
  (.cond (t 27) [] ([4] ++ g 29 5)
  (S (R <| f 29 1 2 <| l 30 29 <| o 31 (.indexAddr 2 (t 30) (i 0)) <| f 32 1 31 <| l 33 32 <| m 4 33 <| z) <|
  .ret)
  .skip)))))) <|
  (S (D <| f 34 1 2 <| l 35 34 <| m 36 5 <| b 37 .sub (t 36) (i 1) <| o 38 (.indexAddr 2 (t 35) (t 37)) <| o 39 (.load true 2 (t 38)) <| f 40 1 2 <| l 41 40 <| m 42 5 <| o 43 (.indexAddr 2 (t 41) (t 42)) <| o 44 (.load true 2 (t 43)) <| o 6 (.new 46 [(.int .i64 0), (.int .i64 0)]) <| o 7 (.new 46 [(.int .i64 0), (.int .i64 0)]) <| n (.store 2 (t 6) (t 39)) <| n (.store 2 (t 7) (t 44)) <| z) <|
  (S (D <| f 45 1 6 <| l 46 45 <| f 47 1 7 <| l 48 47 <| f 49 1 6 <| l 50 49 <| b 51 .sub (t 48) (t 50) <| l 52 3 <| f 53 0 6 <| l 54 53 <| b 55 .sub (t 52) (t 54) <| b 56 .mul (t 51) (t 55) <| f 57 0 7 <| l 58 57 <| f 59 0 6 <| l 60 59 <| b 61 .sub (t 58) (t 60) <| O 62 (.call 35 [(t 56), (t 61)]) <| b 63 .add (t 46) (t 62) <| m 4 63 <| z) <|
  .ret)))))),
 [.tmp 4], [.keep]⟩
theorem ok16 : ∃ fn c, FunOk Try.prog 16 fn c A16.erase := ⟨Try.f16, _, ⟨Try.func16, rfl, by kernel_rfl, by kernel_rfl, by kernel_rfl, of_decide_eq_true (by kernel_rfl), by kernel_rfl⟩⟩
noncomputable def s16 (Γ : PCallee) (n : Nat) (x0 : PV) (x1 : PV) (h : PHeap) : Pt :=
 forkP (.ptr h.length 0) (h ++ [.box (cellsP x0) 25 .rw]) fun v0 h1 =>
 forkP (.ptr h1.length 0) (h1 ++ [.box (cellsP x1) 3 .rw]) fun v2 h3 =>
 (loadP true 8 v0 h3).bind fun v4 =>
 (Γ 32 [v4] h3).bind fun p5 =>
 (unP .not p5.1).bind fun v6 =>
 KL (fun w8 h9 =>
 (fieldAddrP 1 v0).bind fun v10 =>
 (loadP false 1 v10 h9).bind fun v11 =>
 (Γ 33 [v11, (PV.func 34 [] [v2])] h9).bind fun p12 =>
 KL (fun w14 h15 =>
 (fieldAddrP 1 v0).bind fun v16 =>
 (loadP false 1 v16 h15).bind fun v17 =>
 (binP .sub p12.1 (.int .i64 1 : PV)).bind fun v18 =>
 (indexAddrP 2 v17 v18).bind fun v19 =>
 (loadP true 2 v19 h15).bind fun v20 =>
 (fieldAddrP 1 v0).bind fun v21 =>
 (loadP false 1 v21 h15).bind fun v22 =>
 (indexAddrP 2 v22 p12.1).bind fun v23 =>
 (loadP true 2 v23 h15).bind fun v24 =>
 forkP (.ptr h15.length 0) (h15 ++ [.box [.int .i64 0, .int .i64 0] 46 .rw]) fun v25 h26 =>
 forkP (.ptr h26.length 0) (h26 ++ [.box [.int .i64 0, .int .i64 0] 46 .rw]) fun v27 h28 =>
 (storeP 2 v25 v20 h28).bind fun h29 =>
 (storeP 2 v27 v24 h29).bind fun h30 =>
 (fieldAddrP 1 v25).bind fun v31 =>
 (loadP false 1 v31 h30).bind fun v32 =>
 (fieldAddrP 1 v27).bind fun v33 =>
 (loadP false 1 v33 h30).bind fun v34 =>
 (fieldAddrP 1 v25).bind fun v35 =>
 (loadP false 1 v35 h30).bind fun v36 =>
 (binP .sub v34 v36).bind fun v37 =>
 (loadP false 1 v2 h30).bind fun v38 =>
 (fieldAddrP 0 v25).bind fun v39 =>
 (loadP false 1 v39 h30).bind fun v40 =>
 (binP .sub v38 v40).bind fun v41 =>
 (binP .mul v37 v41).bind fun v42 =>
 (fieldAddrP 0 v27).bind fun v43 =>
 (loadP false 1 v43 h30).bind fun v44 =>
 (fieldAddrP 0 v25).bind fun v45 =>
 (loadP false 1 v45 h30).bind fun v46 =>
 (binP .sub v44 v46).bind fun v47 =>
 (Γ 35 [v42, v47] (lock h30)).bind fun p48 =>
 unl h30 p48.2 fun h49 =>
 (binP .add v32 p48.1).bind fun v50 =>
 finP [.keep] h h49 [v50]) fun j13 =>
 (binP .eql p12.1 (.int .i64 (-1) : PV)).bind fun v51 =>
 KL (fun w53 h54 =>
 j13 [] h54) fun j52 =>
 ifP v51 (
 (fieldAddrP 1 v0).bind fun v55 =>
 (loadP false 1 v55 p12.2).bind fun v56 =>
 (fieldAddrP 1 v0).bind fun v57 =>
 (loadP false 1 v57 p12.2).bind fun v58 =>
 (lenP false v58).bind fun v59 =>
 (binP .sub v59 (.int .i64 1 : PV)).bind fun v60 =>
 (indexAddrP 2 v56 v60).bind fun v61 =>
 (fieldAddrP 1 v61).bind fun v62 =>
 (loadP false 1 v62 p12.2).bind fun v63 =>
 finP [.keep] h p12.2 [v63]) (
 (binP .eql p12.1 (.int .i64 0 : PV)).bind fun v64 =>
 KL (fun w66 h67 =>
 j52 [] h67) fun j65 =>
 ifP v64 (
 (fieldAddrP 1 v0).bind fun v68 =>
 (loadP false 1 v68 p12.2).bind fun v69 =>
 (indexAddrP 2 v69 (.int .i64 0 : PV)).bind fun v70 =>
 (fieldAddrP 1 v70).bind fun v71 =>
 (loadP false 1 v71 p12.2).bind fun v72 =>
 finP [.keep] h p12.2 [v72]) (
 j65 [] p12.2))) fun j7 =>
 ifP v6 (
 finP [.keep] h p5.2 [(.int .i64 0 : PV)]) (
 j7 [] p5.2)

theorem s16_eq (Γ : PCallee) (n : Nat) (x0 : PV) (x1 : PV) (h : PHeap) : pfunK Γ n A16 [x0, x1] h = s16 Γ n x0 x1 h := by kernel_rfl


open Go.Vm.G in
/-- orchestrion/inst.After -/
def A17 : PFun := ⟨3, 16,
 (S (R <| o 3 (.box 25 (t 0)) <| o 6 (.move (i 0)) <| z) <|
  (S (S (R <| o 7 (.load true 8 (t 3)) <| o 8 (.call 32 [(t 7)]) <| o 9 (.un .not (t 8)) <| z) <|
  (.cond (t 9) [] [6]
  (S (R <| o 6 (.move (i 0)) <| z) <|
  .ret)
  .skip)) <|
  (S (R <| o 10 (.load true 8 (t 3)) <| m 11 2 <| o 12 (.call 36 [(t 10), (t 11)]) <| m 13 1 <| o 14 (.max [(i 0), (t 13)]) <| o 15 (.call 37 [(t 12), (t 14)]) <| m 6 15 <| z) <|
  .ret))),
 [.tmp 6], [.keep]⟩
theorem ok17 : ∃ fn c, FunOk Try.prog 17 fn c A17.erase := ⟨Try.f17, _, ⟨Try.func17, rfl, by kernel_rfl, by kernel_rfl, by kernel_rfl, of_decide_eq_true (by kernel_rfl), by kernel_rfl⟩⟩
noncomputable def s17 (Γ : PCallee) (n : Nat) (x0 : PV) (x1 : PV) (x2 : PV) (h : PHeap) : Pt :=
 forkP (.ptr h.length 0) (h ++ [.box (cellsP x0) 25 .rw]) fun v0 h1 =>
 (loadP true 8 v0 h1).bind fun v2 =>
 (Γ 32 [v2] h1).bind fun p3 =>
 (unP .not p3.1).bind fun v4 =>
 KL (fun w6 h7 =>
 (loadP true 8 v0 h7).bind fun v8 =>
 (Γ 36 [v8, x2] h7).bind fun p9 =>
 (fold1P max2P [(.int .i64 0 : PV), x1]).bind fun v10 =>
 (Γ 37 [p9.1, v10] p9.2).bind fun p11 =>
 finP [.keep] h p11.2 [p11.1]) fun j5 =>
 ifP v4 (
 finP [.keep] h p3.2 [(.int .i64 0 : PV)]) (
 j5 [] p3.2)

theorem s17_eq (Γ : PCallee) (n : Nat) (x0 : PV) (x1 : PV) (x2 : PV) (h : PHeap) : pfunK Γ n A17 [x0, x1, x2] h = s17 Γ n x0 x1 x2 h := by kernel_rfl


open Go.Vm.G in
/-- orchestrion/inst.Over -/
def A18 : PFun := ⟨3, 23,
 (S (R <| o 3 (.box 25 (t 0)) <| o 6 (.move (.const (.bool false))) <| z) <|
  (S (S (R <| o 8 (.load true 8 (t 3)) <| o 9 (.call 32 [(t 8)]) <| o 10 (.un .not (t 9)) <| z) <|
  (.cond (t 10) [] [6]
  (S (R <| o 6 (.move (.const (.bool false))) <| z) <|
  .ret)
  .skip)) <|
  (S (R <| o 11 (.load true 8 (t 3)) <| m 12 2 <| o 13 (.call 36 [(t 11), (t 12)]) <| o 7 (.new 70 [(.int .i64 0), (.int .i64 0), (.bool false), (.int .i64 0)]) <| n (.store 4 (t 7) (t 13)) <| z) <|
  (S (R <| f 14 2 7 <| l 15 14 <| o 16 (.un .not (t 15)) <| m 17 16 <| q 22 17 true (g 18 4) (m 18 1 <| f 19 3 7 <| l 20 19 <| b 21 .geq (t 18) (t 20) <| z) (t 21) <|
  m 6 22 <| z) <|
  .ret)))),
 [.tmp 6], [.keep]⟩
theorem ok18 : ∃ fn c, FunOk Try.prog 18 fn c A18.erase := ⟨Try.f18, _, ⟨Try.func18, rfl, by kernel_rfl, by kernel_rfl, by kernel_rfl, of_decide_eq_true (by kernel_rfl), by kernel_rfl⟩⟩
noncomputable def s18 (Γ : PCallee) (n : Nat) (x0 : PV) (x1 : PV) (x2 : PV) (h : PHeap) : Pt :=
 forkP (.ptr h.length 0) (h ++ [.box (cellsP x0) 25 .rw]) fun v0 h1 =>
 (loadP true 8 v0 h1).bind fun v2 =>
 (Γ 32 [v2] h1).bind fun p3 =>
 (unP .not p3.1).bind fun v4 =>
 KL (fun w6 h7 =>
 (loadP true 8 v0 h7).bind fun v8 =>
 (Γ 36 [v8, x2] h7).bind fun p9 =>
 forkP (.ptr p9.2.length 0) (p9.2 ++ [.box [.int .i64 0, .int .i64 0, .bool false, .int .i64 0] 70 .rw]) fun v10 h11 =>
 (storeP 4 v10 p9.1 h11).bind fun h12 =>
 (fieldAddrP 2 v10).bind fun v13 =>
 (loadP false 1 v13 h12).bind fun v14 =>
 (unP .not v14).bind fun v15 =>
 K1 (fun v17 h18 =>
 finP [.keep] h h18 [v17]) fun j16 =>
 scP v15 true (
 (fieldAddrP 3 v10).bind fun v19 =>
 (loadP false 1 v19 h12).bind fun v20 =>
 (binP .geq x1 v20).bind fun v21 =>
 j16 v21 h12)
 (j16 (.bool false) h12)) fun j5 =>
 ifP v4 (
 finP [.keep] h p3.2 [(.bool false : PV)]) (
 j5 [] p3.2)

theorem s18_eq (Γ : PCallee) (n : Nat) (x0 : PV) (x1 : PV) (x2 : PV) (h : PHeap) : pfunK Γ n A18 [x0, x1, x2] h = s18 Γ n x0 x1 x2 h := by kernel_rfl


open Go.Vm.G in
/-- orchestrion/inst.within -/
def A19 : PFun := ⟨3, 15,
 (S (R <| o 6 (.move (.const (.bool false))) <| z) <|
  (S (R <| m 7 0 <| m 8 1 <| b 9 .geq (t 7) (t 8) <| m 10 9 <| q 14 10 true [11, 12, 13] (m 11 0 <| m 12 2 <| b 13 .leq (t 11) (t 12) <| z) (t 13) <|
  m 6 14 <| z) <|
  .ret)),
 [.tmp 6], [.keep]⟩
theorem ok19 : ∃ fn c, FunOk Try.prog 19 fn c A19.erase := ⟨Try.f19, _, ⟨Try.func19, rfl, by kernel_rfl, by kernel_rfl, by kernel_rfl, of_decide_eq_true (by kernel_rfl), by kernel_rfl⟩⟩
noncomputable def s19 (Γ : PCallee) (n : Nat) (x0 : PV) (x1 : PV) (x2 : PV) (h : PHeap) : Pt :=
 (binP .geq x0 x1).bind fun v0 =>
 K1 (fun v2 h3 =>
 finP [.keep] h h3 [v2]) fun j1 =>
 scP v0 true (
 (binP .leq x0 x2).bind fun v4 =>
 j1 v4 h)
 (j1 (.bool false) h)

theorem s19_eq (Γ : PCallee) (n : Nat) (x0 : PV) (x1 : PV) (x2 : PV) (h : PHeap) : pfunK Γ n A19 [x0, x1, x2] h = s19 Γ n x0 x1 x2 h := by kernel_rfl


open Go.Vm.G in
/-- orchestrion/orchestrionref04.Plays -/
def A20 : PFun := ⟨3, 26,
 (S (R <| o 3 (.box 27 (t 0)) <| o 6 (.move (i 0)) <| o 7 (.move (i 0)) <| z) <|
  (S (S (R <| f 8 1 3 <| l 9 8 <| o 10 (.len false (t 9)) <| b 11 .eql (t 10) (i 0) <| z) <|
  (.cond (t 11) [] [6, 7, 12, 13]
  (S (R <| m 12 1 <| m 13 2 <| m 6 12 <| m 7 13 <| z) <|
  .ret)
  .skip)) <|
  (S (D <| f 14 1 3 <| l 15 14 <| m 16 1 <| o 17 (.indexAddr 2 (t 15) (t 16)) <| f 18 0 17 <| l 19 18 <| f 20 1 3 <| l 21 20 <| m 22 1 <| o 23 (.indexAddr 2 (t 21) (t 22)) <| f 24 1 23 <| l 25 24 <| m 6 19 <| m 7 25 <| z) <|
  .ret))),
 [.tmp 6, .tmp 7], [.keep, .keep]⟩
theorem ok20 : ∃ fn c, FunOk Try.prog 20 fn c A20.erase := ⟨Try.f20, _, ⟨Try.func20, rfl, by kernel_rfl, by kernel_rfl, by kernel_rfl, of_decide_eq_true (by kernel_rfl), by kernel_rfl⟩⟩
noncomputable def s20 (Γ : PCallee) (n : Nat) (x0 : PV) (x1 : PV) (x2 : PV) (h : PHeap) : Pt :=
 forkP (.ptr h.length 0) (h ++ [.box (cellsP x0) 27 .rw]) fun v0 h1 =>
 (fieldAddrP 1 v0).bind fun v2 =>
 (loadP false 1 v2 h1).bind fun v3 =>
 (lenP false v3).bind fun v4 =>
 (binP .eql v4 (.int .i64 0 : PV)).bind fun v5 =>
 KL (fun w7 h8 =>
 (fieldAddrP 1 v0).bind fun v9 =>
 (loadP false 1 v9 h8).bind fun v10 =>
 (indexAddrP 2 v10 x1).bind fun v11 =>
 (fieldAddrP 0 v11).bind fun v12 =>
 (loadP false 1 v12 h8).bind fun v13 =>
 (fieldAddrP 1 v0).bind fun v14 =>
 (loadP false 1 v14 h8).bind fun v15 =>
 (indexAddrP 2 v15 x1).bind fun v16 =>
 (fieldAddrP 1 v16).bind fun v17 =>
 (loadP false 1 v17 h8).bind fun v18 =>
 finP [.keep, .keep] h h8 [v13, v18]) fun j6 =>
 ifP v5 (
 finP [.keep, .keep] h h1 [x1, x2]) (
 j6 [] h1)

theorem s20_eq (Γ : PCallee) (n : Nat) (x0 : PV) (x1 : PV) (x2 : PV) (h : PHeap) : pfunK Γ n A20 [x0, x1, x2] h = s20 Γ n x0 x1 x2 h := by kernel_rfl


open Go.Vm.G in
/-- orchestrion/inst.isName -/
def A21 : PFun := ⟨1, 23,
 (S (R <| o 2 (.move (.const (.bool false))) <| z) <|
  (S (S (R <| m 4 0 <| o 5 (.len true (t 4)) <| o 6 (.move (i 0)) <| z) <|
  (.block 0 [] ([2, 3] ++ g 6 14)
  (.loop [6] ([2, 3] ++ g 7 13)
  (S (R <| b 7 .lss (t 6) (t 5) <| z) <|
  (S (.cond (t 7) [] []
  .skip
  (.exit 0)) <|
  (S (.block 1 [] ([2, 3] ++ g 8 11)
  (S (R <| m 8 6 <| m 3 8 <| z) <|
  (S (R <| m 9 0 <| m 10 3 <| o 11 (.indexStr (t 9) (t 10)) <| b 12 .lss (t 11) (.const (.int .u8 32)) <| m 13 12 <| q 18 13 false (g 14 4) (m 14 0 <| m 15 3 <| o 16 (.indexStr (t 14) (t 15)) <| b 17 .gtr (t 16) (.const (.int .u8 126)) <| z) (t 17) <|
  z) <|
  (.cond (t 18) [] [2]
  (S (R <| o 2 (.move (.const (.bool false))) <| z) <|
  .ret)
  .skip)))) <|
  (R <| b 19 .add (t 6) (i 1) <| m 6 19 <| z))))))) <|
  (S (R <| m 20 0 <| o 21 (.len true (t 20)) <| b 22 .leq (t 21) (i 22) <| m 2 22 <| z) <|
  .ret))),
 [.tmp 2], [.keep]⟩
theorem ok21 : ∃ fn c, FunOk Try.prog 21 fn c A21.erase := ⟨Try.f21, _, ⟨Try.func21, rfl, by kernel_rfl, by kernel_rfl, by kernel_rfl, of_decide_eq_true (by kernel_rfl), by kernel_rfl⟩⟩
noncomputable def s21_L0 (Γ : PCallee) (n : Nat) (x0 : PV) (h : PHeap) (v0 : PV) (j1 : List PV → PHeap → Pt) : (List PV → PHeap → Pt) → List PV → PHeap → Pt := fun c6 w7 h8 =>
 (binP .lss (nthP w7 0) v0).bind fun v9 =>
 KL (fun w11 h12 =>
 KL (fun w14 h15 =>
 (binP .add (nthP w7 0) (.int .i64 1 : PV)).bind fun v16 =>
 c6 [v16] (trim h [v16] h15)) fun j13 =>
 (indexStrP x0 (nthP w7 0)).bind fun v17 =>
 (binP .lss v17 (.int .u8 32 : PV)).bind fun v18 =>
 K1 (fun v20 h21 =>
 KL (fun w23 h24 =>
 j13 [] h24) fun j22 =>
 ifP v20 (
 finP [.keep] h h21 [(.bool false : PV)]) (
 j22 [] h21)) fun j19 =>
 scP v18 false (
 (indexStrP x0 (nthP w7 0)).bind fun v25 =>
 (binP .gtr v25 (.int .u8 126 : PV)).bind fun v26 =>
 j19 v26 h12)
 (j19 (.bool true) h12)) fun j10 =>
 ifP v9 (
 j10 [] h8) (
 j1 [] h8)
noncomputable def s21 (Γ : PCallee) (n : Nat) (x0 : PV) (h : PHeap) : Pt :=
 (lenP true x0).bind fun v0 =>
 KL (fun w2 h3 =>
 (lenP true x0).bind fun v4 =>
 (binP .leq v4 (.int .i64 22 : PV)).bind fun v5 =>
 finP [.keep] h h3 [v5]) fun j1 =>
 loopP (s21_L0 Γ n x0 h v0 j1) n [(.int .i64 0 : PV)] h

theorem s21_eq (Γ : PCallee) (n : Nat) (x0 : PV) (h : PHeap) : pfunK Γ n A21 [x0] h = s21 Γ n x0 h := by kernel_rfl


open Go.Vm.G in
/-- slices.ContainsFunc[[]orchestrion/api.Key,orchestrion/api.Key] -/
def A22 : PFun := ⟨2, 9,
 (S (R <| o 4 (.move (.const (.bool false))) <| z) <|
  (S (R <| m 5 0 <| m 6 1 <| o 7 (.call 38 [(t 5), (t 6)]) <| b 8 .geq (t 7) (i 0) <| m 4 8 <| z) <|
  .ret)),
 [.tmp 4], [.keep]⟩
theorem ok22 : ∃ fn c, FunOk Try.prog 22 fn c A22.erase := ⟨Try.f22, _, ⟨Try.func22, rfl, by kernel_rfl, by kernel_rfl, by kernel_rfl, of_decide_eq_true (by kernel_rfl), by kernel_rfl⟩⟩
noncomputable def s22 (Γ : PCallee) (n : Nat) (x0 : PV) (x1 : PV) (h : PHeap) : Pt :=
 (Γ 38 [x0, x1] h).bind fun p0 =>
 (binP .geq p0.1 (.int .i64 0 : PV)).bind fun v1 =>
 finP [.keep] h p0.2 [v1]

theorem s22_eq (Γ : PCallee) (n : Nat) (x0 : PV) (x1 : PV) (h : PHeap) : pfunK Γ n A22 [x0, x1] h = s22 Γ n x0 x1 h := by kernel_rfl


open Go.Vm.G in
/-- orchestrion/inst.Valid$1 -/
def A23 : PFun := ⟨1, 13,
 (S (R <| o 1 (.box 42 (t 0)) <| o 2 (.move (.const (.bool false))) <| z) <|
  (S (R <| f 3 0 1 <| l 4 3 <| o 5 (.call 19 [(t 4), (i 0), (i 119)]) <| o 6 (.un .not (t 5)) <| m 7 6 <| q 12 7 false (g 8 4) (f 8 1 1 <| l 9 8 <| o 10 (.call 19 [(t 9), (i 0), (i 31)]) <| o 11 (.un .not (t 10)) <| z) (t 11) <|
  m 2 12 <| z) <|
  .ret)),
 [.tmp 2], [.keep]⟩
theorem ok23 : ∃ fn c, FunOk Try.prog 23 fn c A23.erase := ⟨Try.f23, _, ⟨Try.func23, rfl, by kernel_rfl, by kernel_rfl, by kernel_rfl, of_decide_eq_true (by kernel_rfl), by kernel_rfl⟩⟩
noncomputable def s23 (Γ : PCallee) (n : Nat) (x0 : PV) (h : PHeap) : Pt :=
 forkP (.ptr h.length 0) (h ++ [.box (cellsP x0) 42 .rw]) fun v0 h1 =>
 (fieldAddrP 0 v0).bind fun v2 =>
 (loadP false 1 v2 h1).bind fun v3 =>
 (Γ 19 [v3, (.int .i64 0 : PV), (.int .i64 119 : PV)] h1).bind fun p4 =>
 (unP .not p4.1).bind fun v5 =>
 K1 (fun v7 h8 =>
 finP [.keep] h h8 [v7]) fun j6 =>
 scP v5 false (
 (fieldAddrP 1 v0).bind fun v9 =>
 (loadP false 1 v9 p4.2).bind fun v10 =>
 (Γ 19 [v10, (.int .i64 0 : PV), (.int .i64 31 : PV)] p4.2).bind fun p11 =>
 (unP .not p11.1).bind fun v12 =>
 j6 v12 p11.2)
 (j6 (.bool true) p4.2)

theorem s23_eq (Γ : PCallee) (n : Nat) (x0 : PV) (h : PHeap) : pfunK Γ n A23 [x0] h = s23 Γ n x0 h := by kernel_rfl


open Go.Vm.G in
/-- orchestrion/inst.ValidEnvelope -/
def A24 : PFun := ⟨3, 92,
 (S (R <| o 3 (.box 25 (t 0)) <| o 6 (.move (.const (.bool false))) <| z) <|
  (S (S (R <| f 10 1 3 <| l 11 10 <| o 12 (.len false (t 11)) <| b 13 .gtr (t 12) (i 16) <| m 14 13 <| q 23 14 false ([15, 16, 17, 22] ++ g 18 4) (f 15 0 3 <| l 16 15 <| m 17 16 <| q 22 17 true (g 18 4) (f 18 1 3 <| l 19 18 <| o 20 (.len false (t 19)) <| b 21 .eql (t 20) (i 0) <| z) (t 21) <|
  z) (t 22) <|
  z) <|
  (.cond (t 23) [] [6]
  (S (R <| o 6 (.move (.const (.bool false))) <| z) <|
  .ret)
  .skip)) <|
  (S (S (R <| f 24 1 3 <| l 25 24 <| o 26 (.len false (t 25)) <| o 27 (.move (i 0)) <| z) <|
  (.block 0 [] ([6, 7, 8] ++ g 27 46)
  (.loop [27] ([6, 7, 8] ++ g 28 45)
  (S (R <| b 28 .lss (t 27) (t 26) <| z) <|
  (S (.cond (t 28) [] []
  .skip
  (.exit 0)) <|
  (S (.block 1 [] ([6, 7, 8] ++ g 29 43)
  (S (R <| m 29 27 <| o 30 (.indexAddr 2 (t 25) (t 27)) <| o 31 (.load true 2 (t 30)) <| o 8 (.new 46 [(.int .i64 0), (.int .i64 0)]) <| m 7 29 <| n (.store 2 (t 8) (t 31)) <| z) <|
  (S (D <| m 32 7 <| b 33 .eql (t 32) (i 0) <| m 34 33 <| q 38 34 true [35, 36, 37] (f 35 0 8 <| l 36 35 <| b 37 .neq (t 36) (i 0) <| z) (t 37) <|
  m 39 38 <| q 54 39 false ([40, 41, 42, 53] ++ g 43 10) (m 40 7 <| b 41 .gtr (t 40) (i 0) <| m 42 41 <| q 53 42 true (g 43 10) (f 43 0 8 <| l 44 43 <| f 45 1 3 <| l 46 45 <| m 47 7 <| b 48 .sub (t 47) (i 1) <| o 49 (.indexAddr 2 (t 46) (t 48)) <| f 50 0 49 <| l 51 50 <| b 52 .leq (t 44) (t 51) <| z) (t 52) <|
  z) (t 53) <|
  m 55 54 <| q 59 55 false [56, 57, 58] (f 56 0 8 <| l 57 56 <| b 58 .gtr (t 57) (i 9999) <| z) (t 58) <|
  m 60 59 <| q 65 60 false (g 61 4) (f 61 1 8 <| l 62 61 <| m 63 1 <| b 64 .lss (t 62) (t 63) <| z) (t 64) <|
  m 66 65 <| q 71 66 false (g 67 4) (f 67 1 8 <| l 68 67 <| m 69 2 <| b 70 .gtr (t 68) (t 69) <| z) (t 70) <|
  z) <|
  (.cond (t 71) [] [6]
  (S (R <| o 6 (.move (.const (.bool false))) <| z) <|
  .ret)
  .skip)))) <|
  (R <| b 72 .add (t 27) (i 1) <| m 27 72 <| z))))))) <|
  (S (R <| o 73 (.mkFunc 39 [] [(t 3)]) <| m 9 73 <| z) <|
  (S (R <| m 74 9 <| f 75 2 3 <| l 76 75 <| f 77 3 3 <| l 78 77 <| f 79 4 3 <| l 80 79 <| o 81 (.callV (t 74) [(t 76), (t 78), (t 80)]) <| m 82 81 <| q 91 82 true (g 83 8) (m 83 9 <| f 84 5 3 <| l 85 84 <| f 86 6 3 <| l 87 86 <| f 88 7 3 <| l 89 88 <| o 90 (.callV (t 83) [(t 85), (t 87), (t 89)]) <| z) (t 90) <|
  m 6 91 <| z) <|
  .ret))))),
 [.tmp 6], [.keep]⟩
theorem ok24 : ∃ fn c, FunOk Try.prog 24 fn c A24.erase := ⟨Try.f24, _, ⟨Try.func24, rfl, by kernel_rfl, by kernel_rfl, by kernel_rfl, of_decide_eq_true (by kernel_rfl), by kernel_rfl⟩⟩
noncomputable def s24_L0 (Γ : PCallee) (n : Nat) (x1 : PV) (x2 : PV) (h : PHeap) (v0 : PV) (h11 : PHeap) (v13 : PV) (v14 : PV) (j15 : List PV → PHeap → Pt) : (List PV → PHeap → Pt) → List PV → PHeap → Pt := fun c35 w36 h37 =>
 (binP .lss (nthP w36 0) v14).bind fun v38 =>
 KL (fun w40 h41 =>
 KL (fun w43 h44 =>
 (binP .add (nthP w36 0) (.int .i64 1 : PV)).bind fun v45 =>
 c35 [v45] (trim h11 [v45] h44)) fun j42 =>
 (indexAddrP 2 v13 (nthP w36 0)).bind fun v46 =>
 (loadP true 2 v46 h41).bind fun v47 =>
 forkP (.ptr h41.length 0) (h41 ++ [.box [.int .i64 0, .int .i64 0] 46 .rw]) fun v48 h49 =>
 (storeP 2 v48 v47 h49).bind fun h50 =>
 (binP .eql (nthP w36 0) (.int .i64 0 : PV)).bind fun v51 =>
 K1 (fun v53 h54 =>
 K1 (fun v56 h57 =>
 K1 (fun v59 h60 =>
 K1 (fun v62 h63 =>
 K1 (fun v65 h66 =>
 KL (fun w68 h69 =>
 j42 [] h69) fun j67 =>
 ifP v65 (
 finP [.keep] h h66 [(.bool false : PV)]) (
 j67 [] h66)) fun j64 =>
 scP v62 false (
 (fieldAddrP 1 v48).bind fun v70 =>
 (loadP false 1 v70 h63).bind fun v71 =>
 (binP .gtr v71 x2).bind fun v72 =>
 j64 v72 h63)
 (j64 (.bool true) h63)) fun j61 =>
 scP v59 false (
 (fieldAddrP 1 v48).bind fun v73 =>
 (loadP false 1 v73 h60).bind fun v74 =>
 (binP .lss v74 x1).bind fun v75 =>
 j61 v75 h60)
 (j61 (.bool true) h60)) fun j58 =>
 scP v56 false (
 (fieldAddrP 0 v48).bind fun v76 =>
 (loadP false 1 v76 h57).bind fun v77 =>
 (binP .gtr v77 (.int .i64 9999 : PV)).bind fun v78 =>
 j58 v78 h57)
 (j58 (.bool true) h57)) fun j55 =>
 scP v53 false (
 (binP .gtr (nthP w36 0) (.int .i64 0 : PV)).bind fun v79 =>
 K1 (fun v81 h82 =>
 j55 v81 h82) fun j80 =>
 scP v79 true (
 (fieldAddrP 0 v48).bind fun v83 =>
 (loadP false 1 v83 h54).bind fun v84 =>
 (fieldAddrP 1 v0).bind fun v85 =>
 (loadP false 1 v85 h54).bind fun v86 =>
 (binP .sub (nthP w36 0) (.int .i64 1 : PV)).bind fun v87 =>
 (indexAddrP 2 v86 v87).bind fun v88 =>
 (fieldAddrP 0 v88).bind fun v89 =>
 (loadP false 1 v89 h54).bind fun v90 =>
 (binP .leq v84 v90).bind fun v91 =>
 j80 v91 h54)
 (j80 (.bool false) h54))
 (j55 (.bool true) h54)) fun j52 =>
 scP v51 true (
 (fieldAddrP 0 v48).bind fun v92 =>
 (loadP false 1 v92 h50).bind fun v93 =>
 (binP .neq v93 (.int .i64 0 : PV)).bind fun v94 =>
 j52 v94 h50)
 (j52 (.bool false) h50)) fun j39 =>
 ifP v38 (
 j39 [] h37) (
 j15 [] h37)
noncomputable def s24 (Γ : PCallee) (n : Nat) (x0 : PV) (x1 : PV) (x2 : PV) (h : PHeap) : Pt :=
 forkP (.ptr h.length 0) (h ++ [.box (cellsP x0) 25 .rw]) fun v0 h1 =>
 (fieldAddrP 1 v0).bind fun v2 =>
 (loadP false 1 v2 h1).bind fun v3 =>
 (lenP false v3).bind fun v4 =>
 (binP .gtr v4 (.int .i64 16 : PV)).bind fun v5 =>
 K1 (fun v7 h8 =>
 KL (fun w10 h11 =>
 (fieldAddrP 1 v0).bind fun v12 =>
 (loadP false 1 v12 h11).bind fun v13 =>
 (lenP false v13).bind fun v14 =>
 KL (fun w16 h17 =>
 (fieldAddrP 2 v0).bind fun v18 =>
 (loadP false 1 v18 h17).bind fun v19 =>
 (fieldAddrP 3 v0).bind fun v20 =>
 (loadP false 1 v20 h17).bind fun v21 =>
 (fieldAddrP 4 v0).bind fun v22 =>
 (loadP false 1 v22 h17).bind fun v23 =>
 (callVP Γ (PV.func 39 [] [v0]) [v19, v21, v23] h17).bind fun p24 =>
 K1 (fun v26 h27 =>
 finP [.keep] h h27 [v26]) fun j25 =>
 scP p24.1 true (
 (fieldAddrP 5 v0).bind fun v28 =>
 (loadP false 1 v28 p24.2).bind fun v29 =>
 (fieldAddrP 6 v0).bind fun v30 =>
 (loadP false 1 v30 p24.2).bind fun v31 =>
 (fieldAddrP 7 v0).bind fun v32 =>
 (loadP false 1 v32 p24.2).bind fun v33 =>
 (callVP Γ (PV.func 39 [] [v0]) [v29, v31, v33] p24.2).bind fun p34 =>
 j25 p34.1 p34.2)
 (j25 (.bool false) p24.2)) fun j15 =>
 loopP (s24_L0 Γ n x1 x2 h v0 h11 v13 v14 j15) n [(.int .i64 0 : PV)] h11) fun j9 =>
 ifP v7 (
 finP [.keep] h h8 [(.bool false : PV)]) (
 j9 [] h8)) fun j6 =>
 scP v5 false (
 (fieldAddrP 0 v0).bind fun v95 =>
 (loadP false 1 v95 h1).bind fun v96 =>
 K1 (fun v98 h99 =>
 j6 v98 h99) fun j97 =>
 scP v96 true (
 (fieldAddrP 1 v0).bind fun v100 =>
 (loadP false 1 v100 h1).bind fun v101 =>
 (lenP false v101).bind fun v102 =>
 (binP .eql v102 (.int .i64 0 : PV)).bind fun v103 =>
 j97 v103 h1)
 (j97 (.bool false) h1))
 (j6 (.bool true) h1)

theorem s24_eq (Γ : PCallee) (n : Nat) (x0 : PV) (x1 : PV) (x2 : PV) (h : PHeap) : pfunK Γ n A24 [x0, x1, x2] h = s24 Γ n x0 x1 x2 h := by kernel_rfl


open Go.Vm.G in
/-- orchestrion/orchestrionref02.Named -/
def A25 : PFun := ⟨1, 23,
 (S (R <| o 2 (.move (.const (.bool false))) <| z) <|
  (S (S (R <| m 4 0 <| o 5 (.len true (t 4)) <| b 6 .gtr (t 5) (i 22) <| z) <|
  (.cond (t 6) [] [2]
  (S (R <| o 2 (.move (.const (.bool false))) <| z) <|
  .ret)
  .skip)) <|
  (S (S (R <| o 3 (.move (i 0)) <| z) <|
  (.block 0 [] ([2, 3] ++ g 7 16)
  (.loop [3] ([2] ++ g 7 16)
  (S (S (R <| m 7 3 <| m 8 0 <| o 9 (.len true (t 8)) <| b 10 .lss (t 7) (t 9) <| z) <|
  (.cond (t 10) [] []
  .skip
  (.exit 0))) <|
  (S (.block 1 [] ([2] ++ g 13 10)
  (S (R <| m 13 0 <| m 14 3 <| o 15 (.indexStr (t 13) (t 14)) <| b 16 .lss (t 15) (.const (.int .u8 32)) <| m 17 16 <| q 22 17 false (g 18 4) (m 18 0 <| m 19 3 <| o 20 (.indexStr (t 18) (t 19)) <| b 21 .gtr (t 20) (.const (.int .u8 126)) <| z) (t 21) <|
  z) <|
  (.cond (t 22) [] [2]
  (S (R <| o 2 (.move (.const (.bool false))) <| z) <|
  .ret)
  .skip))) <|
  (R <| m 11 3 <| b 12 .add (t 11) (i 1) <| m 3 12 <| z)))))) <|
  (S (R <| o 2 (.move (.const (.bool true))) <| z) <|
  .ret)))),
 [.tmp 2], [.keep]⟩
theorem ok25 : ∃ fn c, FunOk Try.prog 25 fn c A25.erase := ⟨Try.f25, _, ⟨Try.func25, rfl, by kernel_rfl, by kernel_rfl, by kernel_rfl, of_decide_eq_true (by kernel_rfl), by kernel_rfl⟩⟩
noncomputable def s25_L0 (Γ : PCallee) (n : Nat) (x0 : PV) (h : PHeap) (h4 : PHeap) (j5 : List PV → PHeap → Pt) : (List PV → PHeap → Pt) → List PV → PHeap → Pt := fun c8 w9 h10 =>
 (lenP true x0).bind fun v11 =>
 (binP .lss (nthP w9 0) v11).bind fun v12 =>
 KL (fun w14 h15 =>
 KL (fun w17 h18 =>
 (binP .add (nthP w9 0) (.int .i64 1 : PV)).bind fun v19 =>
 c8 [v19] (trim h4 [v19] h18)) fun j16 =>
 (indexStrP x0 (nthP w9 0)).bind fun v20 =>
 (binP .lss v20 (.int .u8 32 : PV)).bind fun v21 =>
 K1 (fun v23 h24 =>
 KL (fun w26 h27 =>
 j16 [] h27) fun j25 =>
 ifP v23 (
 finP [.keep] h h24 [(.bool false : PV)]) (
 j25 [] h24)) fun j22 =>
 scP v21 false (
 (indexStrP x0 (nthP w9 0)).bind fun v28 =>
 (binP .gtr v28 (.int .u8 126 : PV)).bind fun v29 =>
 j22 v29 h15)
 (j22 (.bool true) h15)) fun j13 =>
 ifP v12 (
 j13 [] h10) (
 j5 [] h10)
noncomputable def s25 (Γ : PCallee) (n : Nat) (x0 : PV) (h : PHeap) : Pt :=
 (lenP true x0).bind fun v0 =>
 (binP .gtr v0 (.int .i64 22 : PV)).bind fun v1 =>
 KL (fun w3 h4 =>
 KL (fun w6 h7 =>
 finP [.keep] h h7 [(.bool true : PV)]) fun j5 =>
 loopP (s25_L0 Γ n x0 h h4 j5) n [(.int .i64 0 : PV)] h4) fun j2 =>
 ifP v1 (
 finP [.keep] h h [(.bool false : PV)]) (
 j2 [] h)

theorem s25_eq (Γ : PCallee) (n : Nat) (x0 : PV) (h : PHeap) : pfunK Γ n A25 [x0] h = s25 Γ n x0 h := by kernel_rfl


open Go.Vm.G in
/-- orchestrion/orchestrionref04.ValidEnvelope -/
def A26 : PFun := ⟨3, 91,
 (S (R <| o 3 (.box 25 (t 0)) <| o 6 (.move (.const (.bool false))) <| z) <|
  (S (R <| f 10 1 3 <| l 11 10 <| o 12 (.len false (t 11)) <| m 7 12 <| z) <|
  (S (S (R <| m 13 7 <| b 14 .gtr (t 13) (i 16) <| m 15 14 <| q 22 15 false [16, 17, 18, 21, 19, 20] (f 16 0 3 <| l 17 16 <| m 18 17 <| q 21 18 true [19, 20] (m 19 7 <| b 20 .eql (t 19) (i 0) <| z) (t 20) <|
  z) (t 21) <|
  z) <|
  (.cond (t 22) [] [6]
  (S (R <| o 6 (.move (.const (.bool false))) <| z) <|
  .ret)
  .skip)) <|
  (S (S (R <| o 8 (.move (i 0)) <| z) <|
  (.block 0 [] ([6, 8, 9] ++ g 23 50)
  (.loop [8] ([6, 9] ++ g 23 50)
  (S (S (R <| m 23 8 <| m 24 7 <| b 25 .lss (t 23) (t 24) <| z) <|
  (.cond (t 25) [] []
  .skip
  (.exit 0))) <|
  (S (.block 1 [] ([6, 9] ++ g 28 45)
  (S (R <| f 28 1 3 <| l 29 28 <| m 30 8 <| o 31 (.indexAddr 2 (t 29) (t 30)) <| o 32 (.load true 2 (t 31)) <| o 9 (.new 46 [(.int .i64 0), (.int .i64 0)]) <| n (.store 2 (t 9) (t 32)) <| z) <|
  (S (D <| m 33 8 <| b 34 .eql (t 33) (i 0) <| m 35 34 <| q 39 35 true [36, 37, 38] (f 36 0 9 <| l 37 36 <| b 38 .neq (t 37) (i 0) <| z) (t 38) <|
  m 40 39 <| q 55 40 false ([41, 42, 43, 54] ++ g 44 10) (m 41 8 <| b 42 .gtr (t 41) (i 0) <| m 43 42 <| q 54 43 true (g 44 10) (f 44 0 9 <| l 45 44 <| f 46 1 3 <| l 47 46 <| m 48 8 <| b 49 .sub (t 48) (i 1) <| o 50 (.indexAddr 2 (t 47) (t 49)) <| f 51 0 50 <| l 52 51 <| b 53 .leq (t 45) (t 52) <| z) (t 53) <|
  z) (t 54) <|
  m 56 55 <| q 60 56 false [57, 58, 59] (f 57 0 9 <| l 58 57 <| b 59 .gtr (t 58) (i 9999) <| z) (t 59) <|
  m 61 60 <| q 66 61 false (g 62 4) (f 62 1 9 <| l 63 62 <| m 64 1 <| b 65 .lss (t 63) (t 64) <| z) (t 65) <|
  m 67 66 <| q 72 67 false (g 68 4) (f 68 1 9 <| l 69 68 <| m 70 2 <| b 71 .gtr (t 69) (t 70) <| z) (t 71) <|
  z) <|
  (.cond (t 72) [] [6]
  (S (R <| o 6 (.move (.const (.bool false))) <| z) <|
  .ret)
  .skip)))) <|
  (R <| m 26 8 <| b 27 .add (t 26) (i 1) <| m 8 27 <| z)))))) <|
  (S (R <| f 73 2 3 <| l 74 73 <| f 75 3 3 <| l 76 75 <| f 77 4 3 <| l 78 77 <| m 79 7 <| o 80 (.call 40 [(t 74), (t 76), (t 78), (t 79)]) <| m 81 80 <| q 90 81 true (g 82 8) (f 82 5 3 <| l 83 82 <| f 84 6 3 <| l 85 84 <| f 86 7 3 <| l 87 86 <| m 88 7 <| o 89 (.call 40 [(t 83), (t 85), (t 87), (t 88)]) <| z) (t 89) <|
  m 6 90 <| z) <|
  .ret))))),
 [.tmp 6], [.keep]⟩
theorem ok26 : ∃ fn c, FunOk Try.prog 26 fn c A26.erase := ⟨Try.f26, _, ⟨Try.func26, rfl, by kernel_rfl, by kernel_rfl, by kernel_rfl, of_decide_eq_true (by kernel_rfl), by kernel_rfl⟩⟩
noncomputable def s26_L0 (Γ : PCallee) (n : Nat) (x1 : PV) (x2 : PV) (h : PHeap) (v0 : PV) (v4 : PV) (h11 : PHeap) (j12 : List PV → PHeap → Pt) : (List PV → PHeap → Pt) → List PV → PHeap → Pt := fun c32 w33 h34 =>
 (binP .lss (nthP w33 0) v4).bind fun v35 =>
 KL (fun w37 h38 =>
 KL (fun w40 h41 =>
 (binP .add (nthP w33 0) (.int .i64 1 : PV)).bind fun v42 =>
 c32 [v42] (trim h11 [v42] h41)) fun j39 =>
 (fieldAddrP 1 v0).bind fun v43 =>
 (loadP false 1 v43 h38).bind fun v44 =>
 (indexAddrP 2 v44 (nthP w33 0)).bind fun v45 =>
 (loadP true 2 v45 h38).bind fun v46 =>
 forkP (.ptr h38.length 0) (h38 ++ [.box [.int .i64 0, .int .i64 0] 46 .rw]) fun v47 h48 =>
 (storeP 2 v47 v46 h48).bind fun h49 =>
 (binP .eql (nthP w33 0) (.int .i64 0 : PV)).bind fun v50 =>
 K1 (fun v52 h53 =>
 K1 (fun v55 h56 =>
 K1 (fun v58 h59 =>
 K1 (fun v61 h62 =>
 K1 (fun v64 h65 =>
 KL (fun w67 h68 =>
 j39 [] h68) fun j66 =>
 ifP v64 (
 finP [.keep] h h65 [(.bool false : PV)]) (
 j66 [] h65)) fun j63 =>
 scP v61 false (
 (fieldAddrP 1 v47).bind fun v69 =>
 (loadP false 1 v69 h62).bind fun v70 =>
 (binP .gtr v70 x2).bind fun v71 =>
 j63 v71 h62)
 (j63 (.bool true) h62)) fun j60 =>
 scP v58 false (
 (fieldAddrP 1 v47).bind fun v72 =>
 (loadP false 1 v72 h59).bind fun v73 =>
 (binP .lss v73 x1).bind fun v74 =>
 j60 v74 h59)
 (j60 (.bool true) h59)) fun j57 =>
 scP v55 false (
 (fieldAddrP 0 v47).bind fun v75 =>
 (loadP false 1 v75 h56).bind fun v76 =>
 (binP .gtr v76 (.int .i64 9999 : PV)).bind fun v77 =>
 j57 v77 h56)
 (j57 (.bool true) h56)) fun j54 =>
 scP v52 false (
 (binP .gtr (nthP w33 0) (.int .i64 0 : PV)).bind fun v78 =>
 K1 (fun v80 h81 =>
 j54 v80 h81) fun j79 =>
 scP v78 true (
 (fieldAddrP 0 v47).bind fun v82 =>
 (loadP false 1 v82 h53).bind fun v83 =>
 (fieldAddrP 1 v0).bind fun v84 =>
 (loadP false 1 v84 h53).bind fun v85 =>
 (binP .sub (nthP w33 0) (.int .i64 1 : PV)).bind fun v86 =>
 (indexAddrP 2 v85 v86).bind fun v87 =>
 (fieldAddrP 0 v87).bind fun v88 =>
 (loadP false 1 v88 h53).bind fun v89 =>
 (binP .leq v83 v89).bind fun v90 =>
 j79 v90 h53)
 (j79 (.bool false) h53))
 (j54 (.bool true) h53)) fun j51 =>
 scP v50 true (
 (fieldAddrP 0 v47).bind fun v91 =>
 (loadP false 1 v91 h49).bind fun v92 =>
 (binP .neq v92 (.int .i64 0 : PV)).bind fun v93 =>
 j51 v93 h49)
 (j51 (.bool false) h49)) fun j36 =>
 ifP v35 (
 j36 [] h34) (
 j12 [] h34)
noncomputable def s26 (Γ : PCallee) (n : Nat) (x0 : PV) (x1 : PV) (x2 : PV) (h : PHeap) : Pt :=
 forkP (.ptr h.length 0) (h ++ [.box (cellsP x0) 25 .rw]) fun v0 h1 =>
 (fieldAddrP 1 v0).bind fun v2 =>
 (loadP false 1 v2 h1).bind fun v3 =>
 (lenP false v3).bind fun v4 =>
 (binP .gtr v4 (.int .i64 16 : PV)).bind fun v5 =>
 K1 (fun v7 h8 =>
 KL (fun w10 h11 =>
 KL (fun w13 h14 =>
 (fieldAddrP 2 v0).bind fun v15 =>
 (loadP false 1 v15 h14).bind fun v16 =>
 (fieldAddrP 3 v0).bind fun v17 =>
 (loadP false 1 v17 h14).bind fun v18 =>
 (fieldAddrP 4 v0).bind fun v19 =>
 (loadP false 1 v19 h14).bind fun v20 =>
 (Γ 40 [v16, v18, v20, v4] h14).bind fun p21 =>
 K1 (fun v23 h24 =>
 finP [.keep] h h24 [v23]) fun j22 =>
 scP p21.1 true (
 (fieldAddrP 5 v0).bind fun v25 =>
 (loadP false 1 v25 p21.2).bind fun v26 =>
 (fieldAddrP 6 v0).bind fun v27 =>
 (loadP false 1 v27 p21.2).bind fun v28 =>
 (fieldAddrP 7 v0).bind fun v29 =>
 (loadP false 1 v29 p21.2).bind fun v30 =>
 (Γ 40 [v26, v28, v30, v4] p21.2).bind fun p31 =>
 j22 p31.1 p31.2)
 (j22 (.bool false) p21.2)) fun j12 =>
 loopP (s26_L0 Γ n x1 x2 h v0 v4 h11 j12) n [(.int .i64 0 : PV)] h11) fun j9 =>
 ifP v7 (
 finP [.keep] h h8 [(.bool false : PV)]) (
 j9 [] h8)) fun j6 =>
 scP v5 false (
 (fieldAddrP 0 v0).bind fun v94 =>
 (loadP false 1 v94 h1).bind fun v95 =>
 K1 (fun v97 h98 =>
 j6 v97 h98) fun j96 =>
 scP v95 true (
 (binP .eql v4 (.int .i64 0 : PV)).bind fun v99 =>
 j96 v99 h1)
 (j96 (.bool false) h1))
 (j6 (.bool true) h1)

theorem s26_eq (Γ : PCallee) (n : Nat) (x0 : PV) (x1 : PV) (x2 : PV) (h : PHeap) : pfunK Γ n A26 [x0, x1, x2] h = s26 Γ n x0 x1 x2 h := by kernel_rfl


open Go.Vm.G in
/-- slices.Compact[[]int,int] -/
def A28 : PFun := ⟨1, 61,
 (S (R <| o 2 (.move (.const (.slice none 0 0))) <| z) <|
  (S (S (R <| m 6 0 <| o 7 (.len false (t 6)) <| b 8 .lss (t 7) (i 2) <| z) <|
  (.cond (t 8) [] [2, 9]
  (S (R <| m 9 0 <| m 2 9 <| z) <|
  .ret)
  .skip)) <|
  (S (S (R <| o 3 (.move (i 1)) <| z) <|
  (.block 0 [] (g 2 4 ++ g 10 50)
  (.loop [3] ([2, 4, 5] ++ g 10 50)
  (S (S (R <| m 10 3 <| m 11 0 <| o 12 (.len false (t 11)) <| b 13 .lss (t 10) (t 12) <| z) <|
  (.cond (t 13) [] []
  .skip
  (.exit 0))) <|
  (S (.block 1 [3] ([2, 4, 5] ++ g 16 44)
  (S (D <| m 16 0 <| m 17 3 <| o 18 (.indexAddr 1 (t 16) (t 17)) <| l 19 18 <| m 20 0 <| m 21 3 <| b 22 .sub (t 21) (i 1) <| o 23 (.indexAddr 1 (t 20) (t 22)) <| l 24 23 <| b 25 .eql (t 19) (t 24) <| z) <|
  (.cond (t 25) [3] ([2, 4, 5] ++ g 26 34)
  (S (R <| m 26 0 <| m 27 3 <| o 28 (.slice 1 (t 26) (some (t 27)) none none) <| m 4 28 <| z) <|
  (S (S (R <| o 5 (.move (i 1)) <| z) <|
  (.block 2 [3] ([5] ++ g 29 25)
  (.loop [3, 5] (g 29 25)
  (S (S (R <| m 29 5 <| m 30 4 <| o 31 (.len false (t 30)) <| b 32 .lss (t 29) (t 31) <| z) <|
  (.cond (t 32) [] []
  .skip
  (.exit 2))) <|
  (S (.block 3 [3] (g 35 19)
  (S (D <| m 35 4 <| m 36 5 <| o 37 (.indexAddr 1 (t 35) (t 36)) <| l 38 37 <| m 39 4 <| m 40 5 <| b 41 .sub (t 40) (i 1) <| o 42 (.indexAddr 1 (t 39) (t 41)) <| l 43 42 <| b 44 .neq (t 38) (t 43) <| z) <|
  (.cond (t 44) [3] (g 45 9)
  (S (R <| m 45 0 <| m 46 3 <| m 47 4 <| m 48 5 <| o 49 (.indexAddr 1 (t 47) (t 48)) <| l 50 49 <| o 51 (.indexAddr 1 (t 45) (t 46)) <| n (.store 1 (t 51) (t 50)) <| z) <|
  (R <| m 52 3 <| b 53 .add (t 52) (i 1) <| m 3 53 <| z))
  .skip))) <|
  (R <| m 33 5 <| b 34 .add (t 33) (i 1) <| m 5 34 <| z)))))) <|
  (S (R <| m 54 0 <| m 55 3 <| o 56 (.slice 1 (t 54) (some (t 55)) none none) <| n (.clear [(.int .i64 0)] (t 56)) <| z) <|
  (S (R <| m 57 0 <| m 58 3 <| o 59 (.slice 1 (t 57) none (some (t 58)) none) <| m 2 59 <| z) <|
  .ret))))
  .skip))) <|
  (R <| m 14 3 <| b 15 .add (t 14) (i 1) <| m 3 15 <| z)))))) <|
  (S (R <| m 60 0 <| m 2 60 <| z) <|
  .ret)))),
 [.tmp 2], [(.flat 1)]⟩
theorem ok28 : ∃ fn c, FunOk Try.prog 28 fn c A28.erase := ⟨Try.f28, _, ⟨Try.func28, rfl, by kernel_rfl, by kernel_rfl, by kernel_rfl, of_decide_eq_true (by kernel_rfl), by kernel_rfl⟩⟩
noncomputable def s28_L0 (Γ : PCallee) (n : Nat) (x0 : PV) (h15 : PHeap) (v29 : PV) (j30 : List PV → PHeap → Pt) : (List PV → PHeap → Pt) → List PV → PHeap → Pt := fun c36 w37 h38 =>
 (lenP false v29).bind fun v39 =>
 (binP .lss (nthP w37 1) v39).bind fun v40 =>
 KL (fun w42 h43 =>
 KL (fun w45 h46 =>
 (binP .add (nthP w37 1) (.int .i64 1 : PV)).bind fun v47 =>
 c36 [(nthP w45 0), v47] (trim h15 [(nthP w45 0), v47] h46)) fun j44 =>
 (indexAddrP 1 v29 (nthP w37 1)).bind fun v48 =>
 (loadP false 1 v48 h43).bind fun v49 =>
 (binP .sub (nthP w37 1) (.int .i64 1 : PV)).bind fun v50 =>
 (indexAddrP 1 v29 v50).bind fun v51 =>
 (loadP false 1 v51 h43).bind fun v52 =>
 (binP .neq v49 v52).bind fun v53 =>
 KL (fun w55 h56 =>
 j44 [(nthP w55 0)] h56) fun j54 =>
 ifP v53 (
 (indexAddrP 1 v29 (nthP w37 1)).bind fun v57 =>
 (loadP false 1 v57 h43).bind fun v58 =>
 (indexAddrP 1 x0 (nthP w37 0)).bind fun v59 =>
 (storeP 1 v59 v58 h43).bind fun h60 =>
 (binP .add (nthP w37 0) (.int .i64 1 : PV)).bind fun v61 =>
 j54 [v61] h60) (
 j54 [(nthP w37 0)] h43)) fun j41 =>
 ifP v40 (
 j41 [] h38) (
 j30 [(nthP w37 0)] h38)
noncomputable def s28_L1 (Γ : PCallee) (n : Nat) (x0 : PV) (h : PHeap) (h4 : PHeap) (j5 : List PV → PHeap → Pt) : (List PV → PHeap → Pt) → List PV → PHeap → Pt := fun c8 w9 h10 =>
 (lenP false x0).bind fun v11 =>
 (binP .lss (nthP w9 0) v11).bind fun v12 =>
 KL (fun w14 h15 =>
 KL (fun w17 h18 =>
 (binP .add (nthP w17 0) (.int .i64 1 : PV)).bind fun v19 =>
 c8 [v19] (trim h4 [v19] h18)) fun j16 =>
 (indexAddrP 1 x0 (nthP w9 0)).bind fun v20 =>
 (loadP false 1 v20 h15).bind fun v21 =>
 (binP .sub (nthP w9 0) (.int .i64 1 : PV)).bind fun v22 =>
 (indexAddrP 1 x0 v22).bind fun v23 =>
 (loadP false 1 v23 h15).bind fun v24 =>
 (binP .eql v21 v24).bind fun v25 =>
 KL (fun w27 h28 =>
 j16 [(nthP w27 0)] h28) fun j26 =>
 ifP v25 (
 (sliceP 1 x0 (some (nthP w9 0)) none none).bind fun v29 =>
 KL (fun w31 h32 =>
 (sliceP 1 x0 (some (nthP w31 0)) none none).bind fun v33 =>
 (clearP [.int .i64 0] v33 h32).bind fun p34 =>
 (sliceP 1 x0 none (some (nthP w31 0)) none).bind fun v35 =>
 finP [(.flat 1)] h p34.2 [v35]) fun j30 =>
 loopP (s28_L0 Γ n x0 h15 v29 j30) n [(nthP w9 0), (.int .i64 1 : PV)] h15) (
 j26 [(nthP w9 0)] h15)) fun j13 =>
 ifP v12 (
 j13 [] h10) (
 j5 [] h10)
noncomputable def s28 (Γ : PCallee) (n : Nat) (x0 : PV) (h : PHeap) : Pt :=
 (lenP false x0).bind fun v0 =>
 (binP .lss v0 (.int .i64 2 : PV)).bind fun v1 =>
 KL (fun w3 h4 =>
 KL (fun w6 h7 =>
 finP [(.flat 1)] h h7 [x0]) fun j5 =>
 loopP (s28_L1 Γ n x0 h h4 j5) n [(.int .i64 1 : PV)] h4) fun j2 =>
 ifP v1 (
 finP [(.flat 1)] h h [x0]) (
 j2 [] h)

theorem s28_eq (Γ : PCallee) (n : Nat) (x0 : PV) (h : PHeap) : pfunK Γ n A28 [x0] h = s28 Γ n x0 h := by kernel_rfl


open Go.Vm.G in
/-- orchestrion/inst.copied -/
def A29 : PFun := ⟨1, 28,
 (S (R <| o 1 (.box 27 (t 0)) <| o 2 (.new 27 V33) <| z) <|
  (S (R <| f 5 1 1 <| l 6 5 <| F 6 (.flat 2) <| o 7 (.call 43 [(t 6)]) <| f 8 1 1 <| n (.store 1 (t 8) (t 7)) <| z) <|
  (S (S (R <| f 9 2 1 <| f 10 10 1 <| f 11 18 1 <| o 12 (.buildSlice 80 [(.pointer none)] 3 [(0, 1, (t 9)), (1, 1, (t 10)), (2, 1, (t 11))]) <| o 13 (.len false (t 12)) <| o 14 (.move (i 0)) <| z) <|
  (.block 0 [] ([4] ++ g 14 13)
  (.loop [14] ([4] ++ g 15 12)
  (S (R <| b 15 .lss (t 14) (t 13) <| z) <|
  (S (.cond (t 15) [] []
  .skip
  (.exit 0)) <|
  (S (.block 1 [] ([4] ++ g 16 10)
  (S (R <| o 16 (.indexAddr 1 (t 12) (t 14)) <| l 17 16 <| m 4 17 <| z) <|
  (R <| m 18 4 <| m 19 4 <| o 20 (.nilCheck (t 19)) <| f 21 1 20 <| l 22 21 <| F 22 (.flat 2) <| o 23 (.call 44 [(t 22)]) <| o 24 (.nilCheck (t 18)) <| f 25 1 24 <| n (.store 1 (t 25) (t 23)) <| z))) <|
  (R <| b 26 .add (t 14) (i 1) <| m 14 26 <| z))))))) <|
  (S (R <| o 27 (.load true 33 (t 1)) <| n (.store 33 (t 2) (t 27)) <| z) <|
  .ret)))),
 [.cell 2 true 33], [.keep]⟩
theorem ok29 : ∃ fn c, FunOk Try.prog 29 fn c A29.erase := ⟨Try.f29, _, ⟨Try.func29, rfl, by kernel_rfl, by kernel_rfl, by kernel_rfl, of_decide_eq_true (by kernel_rfl), by kernel_rfl⟩⟩
noncomputable def s29_L0 (Γ : PCallee) (n : Nat) (v14 : PV) (h15 : PHeap) (v16 : PV) (j17 : List PV → PHeap → Pt) : (List PV → PHeap → Pt) → List PV → PHeap → Pt := fun c23 w24 h25 =>
 (binP .lss (nthP w24 0) v16).bind fun v26 =>
 KL (fun w28 h29 =>
 KL (fun w31 h32 =>
 (binP .add (nthP w24 0) (.int .i64 1 : PV)).bind fun v33 =>
 c23 [v33] (trim h15 [v33] h32)) fun j30 =>
 (indexAddrP 1 v14 (nthP w24 0)).bind fun v34 =>
 (loadP false 1 v34 h29).bind fun v35 =>
 (nilCheckP v35).bind fun v36 =>
 (fieldAddrP 1 v36).bind fun v37 =>
 (loadP false 1 v37 h29).bind fun v38 =>
 (fz (.flat 2) v38 h29).bind fun q39 =>
 (Γ 44 [q39.1] q39.2).bind fun p40 =>
 (nilCheckP v35).bind fun v41 =>
 (fieldAddrP 1 v41).bind fun v42 =>
 (storeP 1 v42 p40.1 p40.2).bind fun h43 =>
 j30 [] h43) fun j27 =>
 ifP v26 (
 j27 [] h25) (
 j17 [] h25)
noncomputable def s29 (Γ : PCallee) (n : Nat) (x0 : PV) (h : PHeap) : Pt :=
 forkP (.ptr h.length 0) (h ++ [.box (cellsP x0) 27 .rw]) fun v0 h1 =>
 forkP (.ptr h1.length 0) (h1 ++ [.box Z33 27 .rw]) fun v2 h3 =>
 (fieldAddrP 1 v0).bind fun v4 =>
 (loadP false 1 v4 h3).bind fun v5 =>
 (fz (.flat 2) v5 h3).bind fun q6 =>
 (Γ 43 [q6.1] q6.2).bind fun p7 =>
 (fieldAddrP 1 v0).bind fun v8 =>
 (storeP 1 v8 p7.1 p7.2).bind fun h9 =>
 (fieldAddrP 2 v0).bind fun v10 =>
 (fieldAddrP 10 v0).bind fun v11 =>
 (fieldAddrP 18 v0).bind fun v12 =>
 (fillP (repP [.nilP] 3) [(0, 1, v10), (1, 1, v11), (2, 1, v12)]).bind fun l13 =>
 forkP (.ref h9.length 0 3 3 1) (h9 ++ [.log (chunk 1 3 l13) 1 80 .rw]) fun v14 h15 =>
 (lenP false v14).bind fun v16 =>
 KL (fun w18 h19 =>
 (loadP true 33 v0 h19).bind fun v20 =>
 (storeP 33 v2 v20 h19).bind fun h21 =>
 (loadP true 33 v2 h21).bind fun v22 =>
 finP [.keep] h h21 [v22]) fun j17 =>
 loopP (s29_L0 Γ n v14 h15 v16 j17) n [(.int .i64 0 : PV)] h15

theorem s29_eq (Γ : PCallee) (n : Nat) (x0 : PV) (h : PHeap) : pfunK Γ n A29 [x0] h = s29 Γ n x0 h := by kernel_rfl


open Go.Vm.G in
/-- orchestrion/orchestrionref01.Clamp -/
def A30 : PFun := ⟨3, 16,
 (S (R <| o 6 (.move (i 0)) <| z) <|
  (S (S (R <| m 7 0 <| m 8 1 <| b 9 .lss (t 7) (t 8) <| z) <|
  (.cond (t 9) [] [6, 10]
  (S (R <| m 10 1 <| m 6 10 <| z) <|
  .ret)
  .skip)) <|
  (S (S (R <| m 11 0 <| m 12 2 <| b 13 .gtr (t 11) (t 12) <| z) <|
  (.cond (t 13) [] [6, 14]
  (S (R <| m 14 2 <| m 6 14 <| z) <|
  .ret)
  .skip)) <|
  (S (R <| m 15 0 <| m 6 15 <| z) <|
  .ret)))),
 [.tmp 6], [.keep]⟩
theorem ok30 : ∃ fn c, FunOk Try.prog 30 fn c A30.erase := ⟨Try.f30, _, ⟨Try.func30, rfl, by kernel_rfl, by kernel_rfl, by kernel_rfl, of_decide_eq_true (by kernel_rfl), by kernel_rfl⟩⟩
noncomputable def s30 (Γ : PCallee) (n : Nat) (x0 : PV) (x1 : PV) (x2 : PV) (h : PHeap) : Pt :=
 (binP .lss x0 x1).bind fun v0 =>
 KL (fun w2 h3 =>
 (binP .gtr x0 x2).bind fun v4 =>
 KL (fun w6 h7 =>
 finP [.keep] h h7 [x0]) fun j5 =>
 ifP v4 (
 finP [.keep] h h3 [x2]) (
 j5 [] h3)) fun j1 =>
 ifP v0 (
 finP [.keep] h h [x1]) (
 j1 [] h)

theorem s30_eq (Γ : PCallee) (n : Nat) (x0 : PV) (x1 : PV) (x2 : PV) (h : PHeap) : pfunK Γ n A30 [x0, x1, x2] h = s30 Γ n x0 x1 x2 h := by kernel_rfl


open Go.Vm.G in
/-- orchestrion/orchestrionlaw04.same[orchestrion/api.Point] -/
def A31 : PFun := ⟨2, 26,
 (S (R <| o 4 (.move (.const (.bool false))) <| z) <|
  (S (S (R <| m 6 0 <| o 7 (.len false (t 6)) <| m 8 1 <| o 9 (.len false (t 8)) <| b 10 .neq (t 7) (t 9) <| z) <|
  (.cond (t 10) [] [4]
  (S (R <| o 4 (.move (.const (.bool false))) <| z) <|
  .ret)
  .skip)) <|
  (S (S (R <| m 11 0 <| o 12 (.len false (t 11)) <| o 13 (.move (i 0)) <| z) <|
  (.block 0 [] ([4, 5] ++ g 13 13)
  (.loop [13] ([4, 5] ++ g 14 12)
  (S (R <| b 14 .lss (t 13) (t 12) <| z) <|
  (S (.cond (t 14) [] []
  .skip
  (.exit 0)) <|
  (S (.block 1 [] ([4, 5] ++ g 15 10)
  (S (R <| m 15 13 <| m 5 15 <| z) <|
  (S (D <| m 16 0 <| m 17 5 <| o 18 (.indexAddr 2 (t 16) (t 17)) <| o 19 (.load true 2 (t 18)) <| m 20 1 <| m 21 5 <| o 22 (.indexAddr 2 (t 20) (t 21)) <| o 23 (.load true 2 (t 22)) <| o 24 (.eqAgg [.int, .int] true (t 19) (t 23)) <| z) <|
  (.cond (t 24) [] [4]
  (S (R <| o 4 (.move (.const (.bool false))) <| z) <|
  .ret)
  .skip)))) <|
  (R <| b 25 .add (t 13) (i 1) <| m 13 25 <| z))))))) <|
  (S (R <| o 4 (.move (.const (.bool true))) <| z) <|
  .ret)))),
 [.tmp 4], [.keep]⟩
theorem ok31 : ∃ fn c, FunOk Try.prog 31 fn c A31.erase := ⟨Try.f31, _, ⟨Try.func31, rfl, by kernel_rfl, by kernel_rfl, by kernel_rfl, of_decide_eq_true (by kernel_rfl), by kernel_rfl⟩⟩
noncomputable def s31_L0 (Γ : PCallee) (n : Nat) (x0 : PV) (x1 : PV) (h : PHeap) (h5 : PHeap) (v6 : PV) (j7 : List PV → PHeap → Pt) : (List PV → PHeap → Pt) → List PV → PHeap → Pt := fun c10 w11 h12 =>
 (binP .lss (nthP w11 0) v6).bind fun v13 =>
 KL (fun w15 h16 =>
 KL (fun w18 h19 =>
 (binP .add (nthP w11 0) (.int .i64 1 : PV)).bind fun v20 =>
 c10 [v20] (trim h5 [v20] h19)) fun j17 =>
 (indexAddrP 2 x0 (nthP w11 0)).bind fun v21 =>
 (loadP true 2 v21 h16).bind fun v22 =>
 (indexAddrP 2 x1 (nthP w11 0)).bind fun v23 =>
 (loadP true 2 v23 h16).bind fun v24 =>
 (eqAggP [.int, .int] true v22 v24).bind fun v25 =>
 KL (fun w27 h28 =>
 j17 [] h28) fun j26 =>
 ifP v25 (
 finP [.keep] h h16 [(.bool false : PV)]) (
 j26 [] h16)) fun j14 =>
 ifP v13 (
 j14 [] h12) (
 j7 [] h12)
noncomputable def s31 (Γ : PCallee) (n : Nat) (x0 : PV) (x1 : PV) (h : PHeap) : Pt :=
 (lenP false x0).bind fun v0 =>
 (lenP false x1).bind fun v1 =>
 (binP .neq v0 v1).bind fun v2 =>
 KL (fun w4 h5 =>
 (lenP false x0).bind fun v6 =>
 KL (fun w8 h9 =>
 finP [.keep] h h9 [(.bool true : PV)]) fun j7 =>
 loopP (s31_L0 Γ n x0 x1 h h5 v6 j7) n [(.int .i64 0 : PV)] h5) fun j3 =>
 ifP v2 (
 finP [.keep] h h [(.bool false : PV)]) (
 j3 [] h)

theorem s31_eq (Γ : PCallee) (n : Nat) (x0 : PV) (x1 : PV) (h : PHeap) : pfunK Γ n A31 [x0, x1] h = s31 Γ n x0 x1 h := by kernel_rfl


open Go.Vm.G in
/-- orchestrion/inst.counts -/
def A32 : PFun := ⟨1, 9,
 (S (R <| o 1 (.box 25 (t 0)) <| o 2 (.move (.const (.bool false))) <| z) <|
  (S (R <| f 3 0 1 <| l 4 3 <| m 5 4 <| q 8 5 true [6, 7] (o 6 (.load true 8 (t 1)) <| o 7 (.call 24 [(t 6), (i (-64)), (i 64)]) <| z) (t 7) <|
  m 2 8 <| z) <|
  .ret)),
 [.tmp 2], [.keep]⟩
theorem ok32 : ∃ fn c, FunOk Try.prog 32 fn c A32.erase := ⟨Try.f32, _, ⟨Try.func32, rfl, by kernel_rfl, by kernel_rfl, by kernel_rfl, of_decide_eq_true (by kernel_rfl), by kernel_rfl⟩⟩
noncomputable def s32 (Γ : PCallee) (n : Nat) (x0 : PV) (h : PHeap) : Pt :=
 forkP (.ptr h.length 0) (h ++ [.box (cellsP x0) 25 .rw]) fun v0 h1 =>
 (fieldAddrP 0 v0).bind fun v2 =>
 (loadP false 1 v2 h1).bind fun v3 =>
 K1 (fun v5 h6 =>
 finP [.keep] h h6 [v5]) fun j4 =>
 scP v3 true (
 (loadP true 8 v0 h1).bind fun v7 =>
 (Γ 24 [v7, (.int .i64 (-64) : PV), (.int .i64 64 : PV)] h1).bind fun p8 =>
 j4 p8.1 p8.2)
 (j4 (.bool false) h1)

theorem s32_eq (Γ : PCallee) (n : Nat) (x0 : PV) (h : PHeap) : pfunK Γ n A32 [x0] h = s32 Γ n x0 h := by kernel_rfl


open Go.Vm.G in
/-- slices.IndexFunc[[]orchestrion/api.Point,orchestrion/api.Point] -/
def A33 : PFun := ⟨2, 19,
 (S (R <| o 4 (.move (i 0)) <| z) <|
  (S (S (R <| m 6 0 <| o 7 (.len false (t 6)) <| o 8 (.move (i 0)) <| z) <|
  (.block 0 [] ([4, 5] ++ g 8 11)
  (.loop [8] ([4, 5] ++ g 9 10)
  (S (R <| b 9 .lss (t 8) (t 7) <| z) <|
  (S (.cond (t 9) [] []
  .skip
  (.exit 0)) <|
  (S (.block 1 [] ([4, 5] ++ g 10 8)
  (S (R <| m 10 8 <| m 5 10 <| z) <|
  (S (R <| m 11 1 <| m 12 0 <| m 13 5 <| o 14 (.indexAddr 2 (t 12) (t 13)) <| o 15 (.load true 2 (t 14)) <| o 16 (.callV (t 11) [(t 15)]) <| z) <|
  (.cond (t 16) [] [4, 17]
  (S (R <| m 17 5 <| m 4 17 <| z) <|
  .ret)
  .skip)))) <|
  (R <| b 18 .add (t 8) (i 1) <| m 8 18 <| z))))))) <|
  (S (R <| o 4 (.move (i (-1))) <| z) <|
  .ret))),
 [.tmp 4], [.keep]⟩
theorem ok33 : ∃ fn c, FunOk Try.prog 33 fn c A33.erase := ⟨Try.f33, _, ⟨Try.func33, rfl, by kernel_rfl, by kernel_rfl, by kernel_rfl, of_decide_eq_true (by kernel_rfl), by kernel_rfl⟩⟩
noncomputable def s33_L0 (Γ : PCallee) (n : Nat) (x0 : PV) (x1 : PV) (h : PHeap) (v0 : PV) (j1 : List PV → PHeap → Pt) : (List PV → PHeap → Pt) → List PV → PHeap → Pt := fun c4 w5 h6 =>
 (binP .lss (nthP w5 0) v0).bind fun v7 =>
 KL (fun w9 h10 =>
 KL (fun w12 h13 =>
 (binP .add (nthP w5 0) (.int .i64 1 : PV)).bind fun v14 =>
 c4 [v14] (trim h [v14] h13)) fun j11 =>
 (indexAddrP 2 x0 (nthP w5 0)).bind fun v15 =>
 (loadP true 2 v15 h10).bind fun v16 =>
 (callVP Γ x1 [v16] h10).bind fun p17 =>
 KL (fun w19 h20 =>
 j11 [] h20) fun j18 =>
 ifP p17.1 (
 finP [.keep] h p17.2 [(nthP w5 0)]) (
 j18 [] p17.2)) fun j8 =>
 ifP v7 (
 j8 [] h6) (
 j1 [] h6)
noncomputable def s33 (Γ : PCallee) (n : Nat) (x0 : PV) (x1 : PV) (h : PHeap) : Pt :=
 (lenP false x0).bind fun v0 =>
 KL (fun w2 h3 =>
 finP [.keep] h h3 [(.int .i64 (-1) : PV)]) fun j1 =>
 loopP (s33_L0 Γ n x0 x1 h v0 j1) n [(.int .i64 0 : PV)] h

theorem s33_eq (Γ : PCallee) (n : Nat) (x0 : PV) (x1 : PV) (h : PHeap) : pfunK Γ n A33 [x0, x1] h = s33 Γ n x0 x1 h := by kernel_rfl


open Go.Vm.G in
/-- orchestrion/inst.Value$1 -/
def A34 : PFun := ⟨2, 8,
 (S (R <| o 2 (.box 46 (t 0)) <| o 3 (.move (.const (.bool false))) <| z) <|
  (S (R <| f 4 0 2 <| l 5 4 <| l 6 1 <| b 7 .gtr (t 5) (t 6) <| m 3 7 <| z) <|
  .ret)),
 [.tmp 3], [.keep]⟩
theorem ok34 : ∃ fn c, FunOk Try.prog 34 fn c A34.erase := ⟨Try.f34, _, ⟨Try.func34, rfl, by kernel_rfl, by kernel_rfl, by kernel_rfl, of_decide_eq_true (by kernel_rfl), by kernel_rfl⟩⟩
noncomputable def s34 (Γ : PCallee) (n : Nat) (x0 : PV) (x1 : PV) (h : PHeap) : Pt :=
 forkP (.ptr h.length 0) (h ++ [.box (cellsP x0) 46 .rw]) fun v0 h1 =>
 (fieldAddrP 0 v0).bind fun v2 =>
 (loadP false 1 v2 h1).bind fun v3 =>
 (loadP false 1 x1 h1).bind fun v4 =>
 (binP .gtr v3 v4).bind fun v5 =>
 finP [.keep] h h1 [v5]

theorem s34_eq (Γ : PCallee) (n : Nat) (x0 : PV) (x1 : PV) (h : PHeap) : pfunK Γ n A34 [x0, x1] h = s34 Γ n x0 x1 h := by kernel_rfl


open Go.Vm.G in
/-- orchestrion/inst.floorDiv -/
def A35 : PFun := ⟨2, 16,
 (S (R <| o 4 (.move (i 0)) <| z) <|
  (S (R <| m 6 0 <| m 7 1 <| b 8 .quo (t 6) (t 7) <| m 5 8 <| z) <|
  (S (S (R <| m 9 0 <| m 10 1 <| b 11 .rem (t 9) (t 10) <| b 12 .lss (t 11) (i 0) <| z) <|
  (.cond (t 12) [5] [13, 14]
  (R <| m 13 5 <| b 14 .sub (t 13) (i 1) <| m 5 14 <| z)
  .skip)) <|
  (S (R <| m 15 5 <| m 4 15 <| z) <|
  .ret)))),
 [.tmp 4], [.keep]⟩
theorem ok35 : ∃ fn c, FunOk Try.prog 35 fn c A35.erase := ⟨Try.f35, _, ⟨Try.func35, rfl, by kernel_rfl, by kernel_rfl, by kernel_rfl, of_decide_eq_true (by kernel_rfl), by kernel_rfl⟩⟩
noncomputable def s35 (Γ : PCallee) (n : Nat) (x0 : PV) (x1 : PV) (h : PHeap) : Pt :=
 (binP .quo x0 x1).bind fun v0 =>
 (binP .rem x0 x1).bind fun v1 =>
 (binP .lss v1 (.int .i64 0 : PV)).bind fun v2 =>
 KL (fun w4 h5 =>
 finP [.keep] h h5 [(nthP w4 0)]) fun j3 =>
 ifP v2 (
 (binP .sub v0 (.int .i64 1 : PV)).bind fun v6 =>
 j3 [v6] h) (
 j3 [v0] h)

theorem s35_eq (Γ : PCallee) (n : Nat) (x0 : PV) (x1 : PV) (h : PHeap) : pfunK Γ n A35 [x0, x1] h = s35 Γ n x0 x1 h := by kernel_rfl


open Go.Vm.G in
/-- orchestrion/inst.walk -/
def A36 : PFun := ⟨2, 60,
 (S (R <| o 2 (.box 25 (t 0)) <| o 4 (.new 70 [(.int .i64 0), (.int .i64 0), (.bool false), (.int .i64 0)]) <| z) <|
  (S (R <| f 6 1 2 <| l 7 6 <| f 8 1 2 <| l 9 8 <| o 10 (.len false (t 9)) <| b 11 .sub (t 10) (i 1) <| o 12 (.indexAddr 2 (t 7) (t 11)) <| f 13 0 12 <| l 14 13 <| o 15 (.build [(.int .i64 0), (.int .i64 0), (.bool false), (.int .i64 0)] [(3, 1, (t 14))]) <| o 5 (.new 70 [(.int .i64 0), (.int .i64 0), (.bool false), (.int .i64 0)]) <| n (.store 4 (t 5) (t 15)) <| z) <|
  (S (.block 0 [] (g 16 43)
  (S (R <| m 17 1 <| m 18 17 <| q 21 18 true [19, 20] (f 19 2 2 <| l 20 19 <| z) (t 20) <|
  m 16 21 <| z) <|
  (.cond (t 16) [] (g 22 37)
  (D <| f 22 1 2 <| l 23 22 <| f 24 3 2 <| l 25 24 <| o 26 (.indexAddr 2 (t 23) (t 25)) <| f 27 0 26 <| l 28 27 <| f 29 1 2 <| l 30 29 <| f 31 4 2 <| l 32 31 <| o 33 (.indexAddr 2 (t 30) (t 32)) <| f 34 0 33 <| l 35 34 <| o 36 (.build [(.int .i64 0), (.int .i64 0)] [(0, 1, (t 28)), (1, 1, (t 35))]) <| f 37 0 5 <| n (.store 2 (t 37) (t 36)) <| f 38 2 5 <| n (.store 1 (t 38) (.const (.bool true))) <| z)
  (S (R <| f 40 5 2 <| l 41 40 <| m 39 41 <| z) <|
  (.cond (t 39) [] (g 42 17)
  (D <| f 42 1 2 <| l 43 42 <| f 44 6 2 <| l 45 44 <| o 46 (.indexAddr 2 (t 43) (t 45)) <| f 47 0 46 <| l 48 47 <| f 49 1 2 <| l 50 49 <| f 51 7 2 <| l 52 51 <| o 53 (.indexAddr 2 (t 50) (t 52)) <| f 54 0 53 <| l 55 54 <| o 56 (.build [(.int .i64 0), (.int .i64 0)] [(0, 1, (t 48)), (1, 1, (t 55))]) <| f 57 0 5 <| n (.store 2 (t 57) (t 56)) <| f 58 2 5 <| n (.store 1 (t 58) (.const (.bool true))) <| z)
  .skip))))) <|
  (S (R <| o 59 (.load true 4 (t 5)) <| n (.store 4 (t 4) (t 59)) <| z) <|
  .ret)))),
 [.cell 4 true 4], [.keep]⟩
theorem ok36 : ∃ fn c, FunOk Try.prog 36 fn c A36.erase := ⟨Try.f36, _, ⟨Try.func36, rfl, by kernel_rfl, by kernel_rfl, by kernel_rfl, of_decide_eq_true (by kernel_rfl), by kernel_rfl⟩⟩
noncomputable def s36 (Γ : PCallee) (n : Nat) (x0 : PV) (x1 : PV) (h : PHeap) : Pt :=
 forkP (.ptr h.length 0) (h ++ [.box (cellsP x0) 25 .rw]) fun v0 h1 =>
 forkP (.ptr h1.length 0) (h1 ++ [.box [.int .i64 0, .int .i64 0, .bool false, .int .i64 0] 70 .rw]) fun v2 h3 =>
 (fieldAddrP 1 v0).bind fun v4 =>
 (loadP false 1 v4 h3).bind fun v5 =>
 (fieldAddrP 1 v0).bind fun v6 =>
 (loadP false 1 v6 h3).bind fun v7 =>
 (lenP false v7).bind fun v8 =>
 (binP .sub v8 (.int .i64 1 : PV)).bind fun v9 =>
 (indexAddrP 2 v5 v9).bind fun v10 =>
 (fieldAddrP 0 v10).bind fun v11 =>
 (loadP false 1 v11 h3).bind fun v12 =>
 (fillP [.int .i64 0, .int .i64 0, .bool false, .int .i64 0] [(3, 1, v12)]).bind fun l13 =>
 forkP (.ptr h3.length 0) (h3 ++ [.box [.int .i64 0, .int .i64 0, .bool false, .int .i64 0] 70 .rw]) fun v14 h15 =>
 (storeP 4 v14 (PV.agg l13) h15).bind fun h16 =>
 KL (fun w18 h19 =>
 (loadP true 4 v14 h19).bind fun v20 =>
 (storeP 4 v2 v20 h19).bind fun h21 =>
 (loadP true 4 v2 h21).bind fun v22 =>
 finP [.keep] h h21 [v22]) fun j17 =>
 K1 (fun v24 h25 =>
 KL (fun w27 h28 =>
 j17 [] h28) fun j26 =>
 ifP v24 (
 (fieldAddrP 1 v0).bind fun v29 =>
 (loadP false 1 v29 h25).bind fun v30 =>
 (fieldAddrP 3 v0).bind fun v31 =>
 (loadP false 1 v31 h25).bind fun v32 =>
 (indexAddrP 2 v30 v32).bind fun v33 =>
 (fieldAddrP 0 v33).bind fun v34 =>
 (loadP false 1 v34 h25).bind fun v35 =>
 (fieldAddrP 1 v0).bind fun v36 =>
 (loadP false 1 v36 h25).bind fun v37 =>
 (fieldAddrP 4 v0).bind fun v38 =>
 (loadP false 1 v38 h25).bind fun v39 =>
 (indexAddrP 2 v37 v39).bind fun v40 =>
 (fieldAddrP 0 v40).bind fun v41 =>
 (loadP false 1 v41 h25).bind fun v42 =>
 (fillP [.int .i64 0, .int .i64 0] [(0, 1, v35), (1, 1, v42)]).bind fun l43 =>
 (fieldAddrP 0 v14).bind fun v44 =>
 (storeP 2 v44 (PV.agg l43) h25).bind fun h45 =>
 (fieldAddrP 2 v14).bind fun v46 =>
 (storeP 1 v46 (.bool true : PV) h45).bind fun h47 =>
 j26 [] h47) (
 (fieldAddrP 5 v0).bind fun v48 =>
 (loadP false 1 v48 h25).bind fun v49 =>
 KL (fun w51 h52 =>
 j26 [] h52) fun j50 =>
 ifP v49 (
 (fieldAddrP 1 v0).bind fun v53 =>
 (loadP false 1 v53 h25).bind fun v54 =>
 (fieldAddrP 6 v0).bind fun v55 =>
 (loadP false 1 v55 h25).bind fun v56 =>
 (indexAddrP 2 v54 v56).bind fun v57 =>
 (fieldAddrP 0 v57).bind fun v58 =>
 (loadP false 1 v58 h25).bind fun v59 =>
 (fieldAddrP 1 v0).bind fun v60 =>
 (loadP false 1 v60 h25).bind fun v61 =>
 (fieldAddrP 7 v0).bind fun v62 =>
 (loadP false 1 v62 h25).bind fun v63 =>
 (indexAddrP 2 v61 v63).bind fun v64 =>
 (fieldAddrP 0 v64).bind fun v65 =>
 (loadP false 1 v65 h25).bind fun v66 =>
 (fillP [.int .i64 0, .int .i64 0] [(0, 1, v59), (1, 1, v66)]).bind fun l67 =>
 (fieldAddrP 0 v14).bind fun v68 =>
 (storeP 2 v68 (PV.agg l67) h25).bind fun h69 =>
 (fieldAddrP 2 v14).bind fun v70 =>
 (storeP 1 v70 (.bool true : PV) h69).bind fun h71 =>
 j50 [] h71) (
 j50 [] h25))) fun j23 =>
 scP x1 true (
 (fieldAddrP 2 v0).bind fun v72 =>
 (loadP false 1 v72 h16).bind fun v73 =>
 j23 v73 h16)
 (j23 (.bool false) h16)

theorem s36_eq (Γ : PCallee) (n : Nat) (x0 : PV) (x1 : PV) (h : PHeap) : pfunK Γ n A36 [x0, x1] h = s36 Γ n x0 x1 h := by kernel_rfl


open Go.Vm.G in
/-- (orchestrion/inst.walker).next -/
def A37 : PFun := ⟨2, 19,
 (S (R <| o 2 (.box 70 (t 0)) <| o 4 (.move (i 0)) <| z) <|
  (S (S (R <| f 5 2 2 <| l 6 5 <| z) <|
  (.cond (t 6) [] ([4] ++ g 7 4)
  (S (R <| f 7 0 2 <| o 8 (.load true 2 (t 7)) <| m 9 1 <| o 10 (.call 45 [(t 8), (t 9)]) <| m 4 10 <| z) <|
  .ret)
  .skip)) <|
  (S (S (R <| m 11 1 <| f 12 3 2 <| l 13 12 <| b 14 .geq (t 11) (t 13) <| z) <|
  (.cond (t 14) [] [4, 15, 16]
  (S (R <| f 15 3 2 <| l 16 15 <| m 4 16 <| z) <|
  .ret)
  .skip)) <|
  (S (R <| m 17 1 <| b 18 .add (t 17) (i 1) <| m 4 18 <| z) <|
  .ret)))),
 [.tmp 4], [.keep]⟩
theorem ok37 : ∃ fn c, FunOk Try.prog 37 fn c A37.erase := ⟨Try.f37, _, ⟨Try.func37, rfl, by kernel_rfl, by kernel_rfl, by kernel_rfl, of_decide_eq_true (by kernel_rfl), by kernel_rfl⟩⟩
noncomputable def s37 (Γ : PCallee) (n : Nat) (x0 : PV) (x1 : PV) (h : PHeap) : Pt :=
 forkP (.ptr h.length 0) (h ++ [.box (cellsP x0) 70 .rw]) fun v0 h1 =>
 (fieldAddrP 2 v0).bind fun v2 =>
 (loadP false 1 v2 h1).bind fun v3 =>
 KL (fun w5 h6 =>
 (fieldAddrP 3 v0).bind fun v7 =>
 (loadP false 1 v7 h6).bind fun v8 =>
 (binP .geq x1 v8).bind fun v9 =>
 KL (fun w11 h12 =>
 (binP .add x1 (.int .i64 1 : PV)).bind fun v13 =>
 finP [.keep] h h12 [v13]) fun j10 =>
 ifP v9 (
 (fieldAddrP 3 v0).bind fun v14 =>
 (loadP false 1 v14 h6).bind fun v15 =>
 finP [.keep] h h6 [v15]) (
 j10 [] h6)) fun j4 =>
 ifP v3 (
 (fieldAddrP 0 v0).bind fun v16 =>
 (loadP true 2 v16 h1).bind fun v17 =>
 (Γ 45 [v17, x1] h1).bind fun p18 =>
 finP [.keep] h p18.2 [p18.1]) (
 j4 [] h1)

theorem s37_eq (Γ : PCallee) (n : Nat) (x0 : PV) (x1 : PV) (h : PHeap) : pfunK Γ n A37 [x0, x1] h = s37 Γ n x0 x1 h := by kernel_rfl


open Go.Vm.G in
/-- slices.IndexFunc[[]orchestrion/api.Key,orchestrion/api.Key] -/
def A38 : PFun := ⟨2, 19,
 (S (R <| o 4 (.move (i 0)) <| z) <|
  (S (S (R <| m 6 0 <| o 7 (.len false (t 6)) <| o 8 (.move (i 0)) <| z) <|
  (.block 0 [] ([4, 5] ++ g 8 11)
  (.loop [8] ([4, 5] ++ g 9 10)
  (S (R <| b 9 .lss (t 8) (t 7) <| z) <|
  (S (.cond (t 9) [] []
  .skip
  (.exit 0)) <|
  (S (.block 1 [] ([4, 5] ++ g 10 8)
  (S (R <| m 10 8 <| m 5 10 <| z) <|
  (S (R <| m 11 1 <| m 12 0 <| m 13 5 <| o 14 (.indexAddr 2 (t 12) (t 13)) <| o 15 (.load true 2 (t 14)) <| o 16 (.callV (t 11) [(t 15)]) <| z) <|
  (.cond (t 16) [] [4, 17]
  (S (R <| m 17 5 <| m 4 17 <| z) <|
  .ret)
  .skip)))) <|
  (R <| b 18 .add (t 8) (i 1) <| m 8 18 <| z))))))) <|
  (S (R <| o 4 (.move (i (-1))) <| z) <|
  .ret))),
 [.tmp 4], [.keep]⟩
theorem ok38 : ∃ fn c, FunOk Try.prog 38 fn c A38.erase := ⟨Try.f38, _, ⟨Try.func38, rfl, by kernel_rfl, by kernel_rfl, by kernel_rfl, of_decide_eq_true (by kernel_rfl), by kernel_rfl⟩⟩
noncomputable def s38_L0 (Γ : PCallee) (n : Nat) (x0 : PV) (x1 : PV) (h : PHeap) (v0 : PV) (j1 : List PV → PHeap → Pt) : (List PV → PHeap → Pt) → List PV → PHeap → Pt := fun c4 w5 h6 =>
 (binP .lss (nthP w5 0) v0).bind fun v7 =>
 KL (fun w9 h10 =>
 KL (fun w12 h13 =>
 (binP .add (nthP w5 0) (.int .i64 1 : PV)).bind fun v14 =>
 c4 [v14] (trim h [v14] h13)) fun j11 =>
 (indexAddrP 2 x0 (nthP w5 0)).bind fun v15 =>
 (loadP true 2 v15 h10).bind fun v16 =>
 (callVP Γ x1 [v16] h10).bind fun p17 =>
 KL (fun w19 h20 =>
 j11 [] h20) fun j18 =>
 ifP p17.1 (
 finP [.keep] h p17.2 [(nthP w5 0)]) (
 j18 [] p17.2)) fun j8 =>
 ifP v7 (
 j8 [] h6) (
 j1 [] h6)
noncomputable def s38 (Γ : PCallee) (n : Nat) (x0 : PV) (x1 : PV) (h : PHeap) : Pt :=
 (lenP false x0).bind fun v0 =>
 KL (fun w2 h3 =>
 finP [.keep] h h3 [(.int .i64 (-1) : PV)]) fun j1 =>
 loopP (s38_L0 Γ n x0 x1 h v0 j1) n [(.int .i64 0 : PV)] h

theorem s38_eq (Γ : PCallee) (n : Nat) (x0 : PV) (x1 : PV) (h : PHeap) : pfunK Γ n A38 [x0, x1] h = s38 Γ n x0 x1 h := by kernel_rfl


open Go.Vm.G in
/-- orchestrion/inst.ValidEnvelope$1 -/
def A39 : PFun := ⟨4, 30,
 (S (R <| o 7 (.move (.const (.bool false))) <| z) <|
  (S (S (R <| m 8 0 <| o 9 (.un .not (t 8)) <| z) <|
  (.cond (t 9) [] ([7] ++ g 10 6)
  (S (R <| m 10 1 <| b 11 .eql (t 10) (i 0) <| m 12 11 <| q 15 12 true [13, 14] (m 13 2 <| b 14 .eql (t 13) (i 0) <| z) (t 14) <|
  m 7 15 <| z) <|
  .ret)
  .skip)) <|
  (S (R <| m 16 1 <| b 17 .geq (t 16) (i 0) <| m 18 17 <| q 22 18 true [19, 20, 21] (m 19 1 <| m 20 2 <| b 21 .leq (t 19) (t 20) <| z) (t 21) <|
  m 23 22 <| q 29 23 true (g 24 5) (m 24 2 <| f 25 1 3 <| l 26 25 <| o 27 (.len false (t 26)) <| b 28 .lss (t 24) (t 27) <| z) (t 28) <|
  m 7 29 <| z) <|
  .ret))),
 [.tmp 7], [.keep]⟩
theorem ok39 : ∃ fn c, FunOk Try.prog 39 fn c A39.erase := ⟨Try.f39, _, ⟨Try.func39, rfl, by kernel_rfl, by kernel_rfl, by kernel_rfl, of_decide_eq_true (by kernel_rfl), by kernel_rfl⟩⟩
noncomputable def s39 (Γ : PCallee) (n : Nat) (x0 : PV) (x1 : PV) (x2 : PV) (x3 : PV) (h : PHeap) : Pt :=
 (unP .not x0).bind fun v0 =>
 KL (fun w2 h3 =>
 (binP .geq x1 (.int .i64 0 : PV)).bind fun v4 =>
 K1 (fun v6 h7 =>
 K1 (fun v9 h10 =>
 finP [.keep] h h10 [v9]) fun j8 =>
 scP v6 true (
 (fieldAddrP 1 x3).bind fun v11 =>
 (loadP false 1 v11 h7).bind fun v12 =>
 (lenP false v12).bind fun v13 =>
 (binP .lss x2 v13).bind fun v14 =>
 j8 v14 h7)
 (j8 (.bool false) h7)) fun j5 =>
 scP v4 true (
 (binP .leq x1 x2).bind fun v15 =>
 j5 v15 h3)
 (j5 (.bool false) h3)) fun j1 =>
 ifP v0 (
 (binP .eql x1 (.int .i64 0 : PV)).bind fun v16 =>
 K1 (fun v18 h19 =>
 finP [.keep] h h19 [v18]) fun j17 =>
 scP v16 true (
 (binP .eql x2 (.int .i64 0 : PV)).bind fun v20 =>
 j17 v20 h)
 (j17 (.bool false) h)) (
 j1 [] h)

theorem s39_eq (Γ : PCallee) (n : Nat) (x0 : PV) (x1 : PV) (x2 : PV) (x3 : PV) (h : PHeap) : pfunK Γ n A39 [x0, x1, x2, x3] h = s39 Γ n x0 x1 x2 x3 h := by kernel_rfl


open Go.Vm.G in
/-- orchestrion/orchestrionref04.paired -/
def A40 : PFun := ⟨4, 29,
 (S (R <| o 8 (.move (.const (.bool false))) <| z) <|
  (S (S (R <| m 9 0 <| o 10 (.un .not (t 9)) <| z) <|
  (.cond (t 10) [] ([8] ++ g 11 6)
  (S (R <| m 11 1 <| b 12 .eql (t 11) (i 0) <| m 13 12 <| q 16 13 true [14, 15] (m 14 2 <| b 15 .eql (t 14) (i 0) <| z) (t 15) <|
  m 8 16 <| z) <|
  .ret)
  .skip)) <|
  (S (R <| m 17 1 <| b 18 .leq (i 0) (t 17) <| m 19 18 <| q 23 19 true [20, 21, 22] (m 20 1 <| m 21 2 <| b 22 .leq (t 20) (t 21) <| z) (t 22) <|
  m 24 23 <| q 28 24 true [25, 26, 27] (m 25 2 <| m 26 3 <| b 27 .lss (t 25) (t 26) <| z) (t 27) <|
  m 8 28 <| z) <|
  .ret))),
 [.tmp 8], [.keep]⟩
theorem ok40 : ∃ fn c, FunOk Try.prog 40 fn c A40.erase := ⟨Try.f40, _, ⟨Try.func40, rfl, by kernel_rfl, by kernel_rfl, by kernel_rfl, of_decide_eq_true (by kernel_rfl), by kernel_rfl⟩⟩
noncomputable def s40 (Γ : PCallee) (n : Nat) (x0 : PV) (x1 : PV) (x2 : PV) (x3 : PV) (h : PHeap) : Pt :=
 (unP .not x0).bind fun v0 =>
 KL (fun w2 h3 =>
 (binP .leq (.int .i64 0 : PV) x1).bind fun v4 =>
 K1 (fun v6 h7 =>
 K1 (fun v9 h10 =>
 finP [.keep] h h10 [v9]) fun j8 =>
 scP v6 true (
 (binP .lss x2 x3).bind fun v11 =>
 j8 v11 h7)
 (j8 (.bool false) h7)) fun j5 =>
 scP v4 true (
 (binP .leq x1 x2).bind fun v12 =>
 j5 v12 h3)
 (j5 (.bool false) h3)) fun j1 =>
 ifP v0 (
 (binP .eql x1 (.int .i64 0 : PV)).bind fun v13 =>
 K1 (fun v15 h16 =>
 finP [.keep] h h16 [v15]) fun j14 =>
 scP v13 true (
 (binP .eql x2 (.int .i64 0 : PV)).bind fun v17 =>
 j14 v17 h)
 (j14 (.bool false) h)) (
 j1 [] h)

theorem s40_eq (Γ : PCallee) (n : Nat) (x0 : PV) (x1 : PV) (x2 : PV) (x3 : PV) (h : PHeap) : pfunK Γ n A40 [x0, x1, x2, x3] h = s40 Γ n x0 x1 x2 x3 h := by kernel_rfl


open Go.Vm.G in
/-- slices.Clone[[]orchestrion/api.Key,orchestrion/api.Key] -/
def A43 : PFun := ⟨1, 8,
 (S (R <| o 2 (.move (.const (.slice none 0 0))) <| z) <|
  (S (S (R <| m 3 0 <| o 4 (.isNil .slice false (t 3)) <| z) <|
  (.cond (t 4) [] [2]
  (S (R <| o 2 (.move (.const (.slice none 0 0))) <| z) <|
  .ret)
  .skip)) <|
  (S (R <| o 5 (.buildSlice 42 [] 0 []) <| m 6 0 <| o 7 (.append 42 2 (t 5) (t 6)) <| m 2 7 <| z) <|
  .ret))),
 [.tmp 2], [.raw]⟩
theorem ok43 : ∃ fn c, FunOk Try.prog 43 fn c A43.erase := ⟨Try.f43, _, ⟨Try.func43, rfl, by kernel_rfl, by kernel_rfl, by kernel_rfl, of_decide_eq_true (by kernel_rfl), by kernel_rfl⟩⟩
noncomputable def s43 (Γ : PCallee) (n : Nat) (x0 : PV) (h : PHeap) : Pt :=
 isNilK .slice false x0 fun v0 =>
 KL (fun w2 h3 =>
 (appendP 42 2 PV.emp x0 h3).bind fun p4 =>
 finP [.raw] h p4.2 [p4.1]) fun j1 =>
 ifP v0 (
 finP [.raw] h h [(.nilS : PV)]) (
 j1 [] h)

theorem s43_eq (Γ : PCallee) (n : Nat) (x0 : PV) (h : PHeap) : pfunK Γ n A43 [x0] h = s43 Γ n x0 h := by kernel_rfl


open Go.Vm.G in
/-- slices.Clone[[]orchestrion/api.Point,orchestrion/api.Point] -/
def A44 : PFun := ⟨1, 8,
 (S (R <| o 2 (.move (.const (.slice none 0 0))) <| z) <|
  (S (S (R <| m 3 0 <| o 4 (.isNil .slice false (t 3)) <| z) <|
  (.cond (t 4) [] [2]
  (S (R <| o 2 (.move (.const (.slice none 0 0))) <| z) <|
  .ret)
  .skip)) <|
  (S (R <| o 5 (.buildSlice 46 [] 0 []) <| m 6 0 <| o 7 (.append 46 2 (t 5) (t 6)) <| m 2 7 <| z) <|
  .ret))),
 [.tmp 2], [(.flat 2)]⟩
theorem ok44 : ∃ fn c, FunOk Try.prog 44 fn c A44.erase := ⟨Try.f44, _, ⟨Try.func44, rfl, by kernel_rfl, by kernel_rfl, by kernel_rfl, of_decide_eq_true (by kernel_rfl), by kernel_rfl⟩⟩
noncomputable def s44 (Γ : PCallee) (n : Nat) (x0 : PV) (h : PHeap) : Pt :=
 isNilK .slice false x0 fun v0 =>
 KL (fun w2 h3 =>
 (appendP 46 2 PV.emp x0 h3).bind fun p4 =>
 finP [(.flat 2)] h p4.2 [p4.1]) fun j1 =>
 ifP v0 (
 finP [(.flat 2)] h h [(.nilS : PV)]) (
 j1 [] h)

theorem s44_eq (Γ : PCallee) (n : Nat) (x0 : PV) (h : PHeap) : pfunK Γ n A44 [x0] h = s44 Γ n x0 h := by kernel_rfl


open Go.Vm.G in
/-- (orchestrion/inst.circle).on -/
def A45 : PFun := ⟨2, 13,
 (S (R <| o 2 (.box 68 (t 0)) <| o 4 (.move (i 0)) <| z) <|
  (S (S (R <| m 5 1 <| f 6 1 2 <| l 7 6 <| b 8 .geq (t 5) (t 7) <| z) <|
  (.cond (t 8) [] [4, 9, 10]
  (S (R <| f 9 0 2 <| l 10 9 <| m 4 10 <| z) <|
  .ret)
  .skip)) <|
  (S (R <| m 11 1 <| b 12 .add (t 11) (i 1) <| m 4 12 <| z) <|
  .ret))),
 [.tmp 4], [.keep]⟩
theorem ok45 : ∃ fn c, FunOk Try.prog 45 fn c A45.erase := ⟨Try.f45, _, ⟨Try.func45, rfl, by kernel_rfl, by kernel_rfl, by kernel_rfl, of_decide_eq_true (by kernel_rfl), by kernel_rfl⟩⟩
noncomputable def s45 (Γ : PCallee) (n : Nat) (x0 : PV) (x1 : PV) (h : PHeap) : Pt :=
 forkP (.ptr h.length 0) (h ++ [.box (cellsP x0) 68 .rw]) fun v0 h1 =>
 (fieldAddrP 1 v0).bind fun v2 =>
 (loadP false 1 v2 h1).bind fun v3 =>
 (binP .geq x1 v3).bind fun v4 =>
 KL (fun w6 h7 =>
 (binP .add x1 (.int .i64 1 : PV)).bind fun v8 =>
 finP [.keep] h h7 [v8]) fun j5 =>
 ifP v4 (
 (fieldAddrP 0 v0).bind fun v9 =>
 (loadP false 1 v9 h1).bind fun v10 =>
 finP [.keep] h h1 [v10]) (
 j5 [] h1)

theorem s45_eq (Γ : PCallee) (n : Nat) (x0 : PV) (x1 : PV) (h : PHeap) : pfunK Γ n A45 [x0, x1] h = s45 Γ n x0 x1 h := by kernel_rfl


def T : PTable := [(3, A3), (4, A4), (5, A5), (6, A6), (7, A7), (8, A8), (9, A9), (10, A10), (11, A11), (12, A12), (13, A13), (14, A14), (15, A15), (16, A16), (17, A17), (18, A18), (19, A19), (20, A20), (21, A21), (22, A22), (23, A23), (24, A24), (25, A25), (26, A26), (28, A28), (29, A29), (30, A30), (31, A31), (32, A32), (33, A33), (34, A34), (35, A35), (36, A36), (37, A37), (38, A38), (39, A39), (40, A40), (43, A43), (44, A44), (45, A45)]
/-- What the calls come to. -/
noncomputable def Γ0 : PCallee := prun (sortP 27) T
theorem gbody {f : FuncId} {F : PFun} (hT : T.get f = some F) (fuel : Nat) {args : List PV} {h : PHeap} {r : PV × PHeap} (hk : pfunK Γ0 fuel F args h = some r) (hf : Nat.beq f yieldId = false := by rfl) : Γ0 f args h = some r := prun_of_body hT fuel hk hf
theorem gbody_round (fuel : Nat) {args : List PV} {h : PHeap} {r : PV × PHeap} (hk : proundK Γ0 fuel args h = some r) : Γ0 yieldId args h = some r := prun_of_round fuel hk
end Go.Vm.X
