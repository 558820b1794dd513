/- Printed by a program of mine from the dump: the machine's form of the program's functions. -/
import Derived.Test.YteedbdkhlgongaaAm34
import Derived.Test.YteedbdkhlgongaaChecked
set_option linter.unusedVariables false
set_option maxRecDepth 100000
namespace Go.Am.X
open Go.Proofs
/-- orchestrion/orchestrionlaw04.InstCurves -/
def A3 : AFun := ⟨1, 90,
 (.seq (.region false (.op (some 1) (.box 26 (.tmp 0)) false
  (.op (some 2) (.move (.const (.bool false))) false
  .nil)))
  (.seq (.region false (.op (some 4) (.fieldAddr 0 (.tmp 1)) false
  (.op (some 5) (.load true 8 (.tmp 4)) false
  (.op (some 3) (.new 24 [(.bool false), (.slice none 0 0), (.bool false), (.int .i64 0), (.int .i64 0), (.bool false), (.int .i64 0), (.int .i64 0)]) false
  (.op none (.store 8 (.tmp 3) (.tmp 5)) false
  .nil)))))
  (.seq (.seq (.region false (.op (some 6) (.fieldAddr 1 (.tmp 3)) false
  (.op (some 7) (.load false 1 (.tmp 6)) false
  (.op (some 8) (.len false (.tmp 7)) false
  (.op (some 9) (.bin .gtr (.tmp 8) (.const (.int .i64 100))) false
  .nil)))))
  (.cond (.tmp 9) [] [2, 10]
  (.seq (.region false (.op (some 10) (.call 6 []) false
  (.op (some 2) (.move (.tmp 10)) false
  .nil)))
  .ret)
  .skip))
  (.seq (.seq (.region true (.op (some 11) (.load true 8 (.tmp 3)) false
  (.op (some 12) (.fieldAddr 8 (.tmp 1)) false
  (.op (some 13) (.load false 1 (.tmp 12)) false
  (.op (some 14) (.fieldAddr 9 (.tmp 1)) false
  (.op (some 15) (.load false 1 (.tmp 14)) false
  (.op (some 16) (.call 7 [(.tmp 11), (.tmp 13), (.tmp 15)]) true
  (.op (some 17) (.load true 8 (.tmp 3)) false
  (.op (some 18) (.fieldAddr 8 (.tmp 1)) false
  (.op (some 19) (.load false 1 (.tmp 18)) false
  (.op (some 20) (.fieldAddr 9 (.tmp 1)) false
  (.op (some 21) (.load false 1 (.tmp 20)) false
  (.op (some 22) (.call 8 [(.tmp 17), (.tmp 19), (.tmp 21)]) false
  (.op (some 23) (.eqBool true (.tmp 16) (.tmp 22)) false
  (.op (some 24) (.move (.tmp 23)) false
  (.sc 34 24 false [25, 26, 27, 28, 29, 30, 31, 32, 33]
  (.op (some 25) (.load true 8 (.tmp 3)) false
  (.op (some 26) (.fieldAddr 10 (.tmp 1)) false
  (.op (some 27) (.load false 1 (.tmp 26)) false
  (.op (some 28) (.call 9 [(.tmp 25), (.tmp 27)]) true
  (.op (some 29) (.load true 8 (.tmp 3)) false
  (.op (some 30) (.fieldAddr 10 (.tmp 1)) false
  (.op (some 31) (.load false 1 (.tmp 30)) false
  (.op (some 32) (.call 10 [(.tmp 29), (.tmp 31)]) false
  (.op (some 33) (.bin .neq (.tmp 28) (.tmp 32)) false
  .nil))))))))) (.tmp 33)
  (.op (some 35) (.move (.tmp 34)) false
  (.sc 49 35 false [36, 37, 38, 39, 40, 41, 42, 43, 44, 45, 46, 47, 48]
  (.op (some 36) (.load true 8 (.tmp 3)) false
  (.op (some 37) (.fieldAddr 10 (.tmp 1)) false
  (.op (some 38) (.load false 1 (.tmp 37)) false
  (.op (some 39) (.fieldAddr 14 (.tmp 1)) false
  (.op (some 40) (.load false 1 (.tmp 39)) false
  (.op (some 41) (.call 11 [(.tmp 36), (.tmp 38), (.tmp 40)]) true
  (.op (some 42) (.load true 8 (.tmp 3)) false
  (.op (some 43) (.fieldAddr 10 (.tmp 1)) false
  (.op (some 44) (.load false 1 (.tmp 43)) false
  (.op (some 45) (.fieldAddr 14 (.tmp 1)) false
  (.op (some 46) (.load false 1 (.tmp 45)) false
  (.op (some 47) (.call 12 [(.tmp 42), (.tmp 44), (.tmp 46)]) false
  (.op (some 48) (.bin .neq (.tmp 41) (.tmp 47)) false
  .nil))))))))))))) (.tmp 48)
  (.op (some 50) (.move (.tmp 49)) false
  (.sc 64 50 false [51, 52, 53, 54, 55, 56, 57, 58, 59, 60, 61, 62, 63]
  (.op (some 51) (.load true 8 (.tmp 3)) false
  (.op (some 52) (.fieldAddr 10 (.tmp 1)) false
  (.op (some 53) (.load false 1 (.tmp 52)) false
  (.op (some 54) (.fieldAddr 14 (.tmp 1)) false
  (.op (some 55) (.load false 1 (.tmp 54)) false
  (.op (some 56) (.call 13 [(.tmp 51), (.tmp 53), (.tmp 55)]) true
  (.op (some 57) (.load true 8 (.tmp 3)) false
  (.op (some 58) (.fieldAddr 10 (.tmp 1)) false
  (.op (some 59) (.load false 1 (.tmp 58)) false
  (.op (some 60) (.fieldAddr 14 (.tmp 1)) false
  (.op (some 61) (.load false 1 (.tmp 60)) false
  (.op (some 62) (.call 14 [(.tmp 57), (.tmp 59), (.tmp 61)]) false
  (.op (some 63) (.eqBool true (.tmp 56) (.tmp 62)) false
  .nil))))))))))))) (.tmp 63)
  .nil))))))))))))))))))))
  (.cond (.tmp 64) [] [2]
  (.seq (.region false (.op (some 2) (.move (.const (.bool false))) false
  .nil))
  .ret)
  .skip))
  (.seq (.seq (.region false (.op (some 65) (.fieldAddr 11 (.tmp 1)) false
  (.op (some 66) (.load false 1 (.tmp 65)) false
  (.op (some 67) (.bin .gtr (.tmp 66) (.const (.int .i64 500))) false
  (.op (some 68) (.move (.tmp 67)) false
  (.sc 72 68 true [69, 70, 71]
  (.op (some 69) (.fieldAddr 11 (.tmp 1)) false
  (.op (some 70) (.load false 1 (.tmp 69)) false
  (.op (some 71) (.bin .leq (.tmp 70) (.const (.int .i64 4000))) false
  .nil))) (.tmp 71)
  .nil))))))
  (.cond (.tmp 72) [] [2, 73]
  (.seq (.region false (.op (some 73) (.call 6 []) false
  (.op (some 2) (.move (.tmp 73)) false
  .nil)))
  .ret)
  .skip))
  (.seq (.region true (.op (some 74) (.load true 8 (.tmp 3)) false
  (.op (some 75) (.fieldAddr 11 (.tmp 1)) false
  (.op (some 76) (.load false 1 (.tmp 75)) false
  (.op (some 77) (.fieldAddr 12 (.tmp 1)) false
  (.op (some 78) (.load false 1 (.tmp 77)) false
  (.op (some 79) (.call 16 [(.tmp 74), (.tmp 76), (.tmp 78)]) true
  (.op (some 80) (.load true 8 (.tmp 3)) false
  (.op (some 81) (.fieldAddr 11 (.tmp 1)) false
  (.op (some 82) (.load false 1 (.tmp 81)) false
  (.op (some 83) (.fieldAddr 12 (.tmp 1)) false
  (.op (some 84) (.load false 1 (.tmp 83)) false
  (.op (some 85) (.call 17 [(.tmp 80), (.tmp 82), (.tmp 84)]) false
  (.op (some 86) (.call 15 [(.tmp 79), (.tmp 85)]) false
  (.op (some 87) (.move (.tmp 86)) false
  (.sc 89 87 true [88]
  (.op (some 88) (.call 6 []) false
  .nil) (.tmp 88)
  (.op (some 2) (.move (.tmp 89)) false
  .nil)))))))))))))))))
  .ret)))))),
 [.tmp 2]⟩
theorem ok3 : ∃ fn c, FunOk Try.prog 3 fn c A3 := ⟨Try.f3, _, ⟨Try.func3, rfl, by kernel_rfl, by kernel_rfl, by kernel_rfl, of_decide_eq_true (by kernel_rfl), by kernel_rfl⟩⟩
noncomputable def s3 (Γ : Callee) (n : Nat) (x0 : Value) (h : AHeap) : Rt :=
 fork (ptrTo h.length 0) (h ++ [.cells (cellsL x0) 26 true]) fun v0 h1 =>
 (fieldAddrf 0 v0).bind fun v2 =>
 (loadf true 8 v2 h1).bind fun v3 =>
 fork (ptrTo h1.length 0) (h1 ++ [.cells [(.bool false), (.slice none 0 0), (.bool false), (.int .i64 0), (.int .i64 0), (.bool false), (.int .i64 0), (.int .i64 0)] 24 true]) fun v4 h5 =>
 (storef 8 v4 v3 h5).bind fun h6 =>
 (fieldAddrf 1 v4).bind fun v7 =>
 (loadf false 1 v7 h6).bind fun v8 =>
 (lenf false v8).bind fun v9 =>
 (binf .gtr v9 ((.int .i64 100) : Value)).bind fun v10 =>
 JL (fun w12 h13 =>
 (loadf true 8 v4 h13).bind fun v14 =>
 (fieldAddrf 8 v0).bind fun v15 =>
 (loadf false 1 v15 h13).bind fun v16 =>
 (fieldAddrf 9 v0).bind fun v17 =>
 (loadf false 1 v17 h13).bind fun v18 =>
 (Γ 7 [v14, v16, v18] h13).bind fun p19 =>
 sameQ h13 p19.2 (
 (loadf true 8 v4 p19.2).bind fun v20 =>
 (fieldAddrf 8 v0).bind fun v21 =>
 (loadf false 1 v21 p19.2).bind fun v22 =>
 (fieldAddrf 9 v0).bind fun v23 =>
 (loadf false 1 v23 p19.2).bind fun v24 =>
 (Γ 8 [v20, v22, v24] p19.2).bind fun p25 =>
 (eqBoolf true p19.1 p25.1).bind fun v26 =>
 J1 (fun v28 h29 =>
 J1 (fun v31 h32 =>
 J1 (fun v34 h35 =>
 JL (fun w37 h38 =>
 (fieldAddrf 11 v0).bind fun v39 =>
 (loadf false 1 v39 h38).bind fun v40 =>
 (binf .gtr v40 ((.int .i64 500) : Value)).bind fun v41 =>
 J1 (fun v43 h44 =>
 JL (fun w46 h47 =>
 (loadf true 8 v4 h47).bind fun v48 =>
 (fieldAddrf 11 v0).bind fun v49 =>
 (loadf false 1 v49 h47).bind fun v50 =>
 (fieldAddrf 12 v0).bind fun v51 =>
 (loadf false 1 v51 h47).bind fun v52 =>
 (Γ 16 [v48, v50, v52] h47).bind fun p53 =>
 sameQ h47 p53.2 (
 (loadf true 8 v4 p53.2).bind fun v54 =>
 (fieldAddrf 11 v0).bind fun v55 =>
 (loadf false 1 v55 p53.2).bind fun v56 =>
 (fieldAddrf 12 v0).bind fun v57 =>
 (loadf false 1 v57 p53.2).bind fun v58 =>
 (Γ 17 [v54, v56, v58] p53.2).bind fun p59 =>
 (Γ 15 [p53.1, p59.1] p59.2).bind fun p60 =>
 J1 (fun v62 h63 =>
 fin h h63 [v62]) fun j61 =>
 scK p60.1 true (
 (Γ 6 [] p60.2).bind fun p64 =>
 j61 p64.1 p64.2)
 (j61 (.bool false) p60.2))) fun j45 =>
 ifK v43 (
 (Γ 6 [] h44).bind fun p65 =>
 fin h p65.2 [p65.1]) (
 j45 [] h44)) fun j42 =>
 scK v41 true (
 (fieldAddrf 11 v0).bind fun v66 =>
 (loadf false 1 v66 h38).bind fun v67 =>
 (binf .leq v67 ((.int .i64 4000) : Value)).bind fun v68 =>
 j42 v68 h38)
 (j42 (.bool false) h38)) fun j36 =>
 ifK v34 (
 fin h h35 [((.bool false) : Value)]) (
 j36 [] h35)) fun j33 =>
 scK v31 false (
 (loadf true 8 v4 h32).bind fun v69 =>
 (fieldAddrf 10 v0).bind fun v70 =>
 (loadf false 1 v70 h32).bind fun v71 =>
 (fieldAddrf 14 v0).bind fun v72 =>
 (loadf false 1 v72 h32).bind fun v73 =>
 (Γ 13 [v69, v71, v73] h32).bind fun p74 =>
 sameQ h32 p74.2 (
 (loadf true 8 v4 p74.2).bind fun v75 =>
 (fieldAddrf 10 v0).bind fun v76 =>
 (loadf false 1 v76 p74.2).bind fun v77 =>
 (fieldAddrf 14 v0).bind fun v78 =>
 (loadf false 1 v78 p74.2).bind fun v79 =>
 (Γ 14 [v75, v77, v79] p74.2).bind fun p80 =>
 (eqBoolf true p74.1 p80.1).bind fun v81 =>
 j33 v81 p80.2))
 (j33 (.bool true) h32)) fun j30 =>
 scK v28 false (
 (loadf true 8 v4 h29).bind fun v82 =>
 (fieldAddrf 10 v0).bind fun v83 =>
 (loadf false 1 v83 h29).bind fun v84 =>
 (fieldAddrf 14 v0).bind fun v85 =>
 (loadf false 1 v85 h29).bind fun v86 =>
 (Γ 11 [v82, v84, v86] h29).bind fun p87 =>
 sameQ h29 p87.2 (
 (loadf true 8 v4 p87.2).bind fun v88 =>
 (fieldAddrf 10 v0).bind fun v89 =>
 (loadf false 1 v89 p87.2).bind fun v90 =>
 (fieldAddrf 14 v0).bind fun v91 =>
 (loadf false 1 v91 p87.2).bind fun v92 =>
 (Γ 12 [v88, v90, v92] p87.2).bind fun p93 =>
 (binf .neq p87.1 p93.1).bind fun v94 =>
 j30 v94 p93.2))
 (j30 (.bool true) h29)) fun j27 =>
 scK v26 false (
 (loadf true 8 v4 p25.2).bind fun v95 =>
 (fieldAddrf 10 v0).bind fun v96 =>
 (loadf false 1 v96 p25.2).bind fun v97 =>
 (Γ 9 [v95, v97] p25.2).bind fun p98 =>
 sameQ p25.2 p98.2 (
 (loadf true 8 v4 p98.2).bind fun v99 =>
 (fieldAddrf 10 v0).bind fun v100 =>
 (loadf false 1 v100 p98.2).bind fun v101 =>
 (Γ 10 [v99, v101] p98.2).bind fun p102 =>
 (binf .neq p98.1 p102.1).bind fun v103 =>
 j27 v103 p102.2))
 (j27 (.bool true) p25.2))) fun j11 =>
 ifK v10 (
 (Γ 6 [] h6).bind fun p104 =>
 fin h p104.2 [p104.1]) (
 j11 [] h6)

theorem s3_eq (Γ : Callee) (n : Nat) (x0 : Value) (h : AHeap) : funK Γ n A3 [x0] h = s3 Γ n x0 h := by kernel_rfl


/-- orchestrion/orchestrionlaw04.InstCircles -/
def A4 : AFun := ⟨1, 218,
 (.seq (.region false (.op (some 1) (.box 26 (.tmp 0)) false
  (.op (some 2) (.move (.const (.bool false))) false
  .nil)))
  (.seq (.region false (.op (some 14) (.fieldAddr 0 (.tmp 1)) false
  (.op (some 15) (.load true 8 (.tmp 14)) false
  (.op (some 3) (.new 24 [(.bool false), (.slice none 0 0), (.bool false), (.int .i64 0), (.int .i64 0), (.bool false), (.int .i64 0), (.int .i64 0)]) false
  (.op none (.store 8 (.tmp 3) (.tmp 15)) false
  .nil)))))
  (.seq (.seq (.region false (.op (some 16) (.fieldAddr 0 (.tmp 3)) false
  (.op (some 17) (.load false 1 (.tmp 16)) false
  (.op (some 18) (.un .not (.tmp 17)) false
  (.op (some 19) (.move (.tmp 18)) false
  (.sc 23 19 false [20, 21, 22]
  (.op (some 20) (.load true 8 (.tmp 3)) false
  (.op (some 21) (.call 7 [(.tmp 20), (.const (.int .i64 (-64))), (.const (.int .i64 64))]) false
  (.op (some 22) (.un .not (.tmp 21)) false
  .nil))) (.tmp 22)
  .nil))))))
  (.cond (.tmp 23) [] [2, 24, 25, 26, 27, 28, 29, 30, 31, 32, 33, 34, 35, 36, 37, 38, 39, 40, 41, 42, 43, 44, 45, 46, 47, 48, 49]
  (.seq (.region false (.op (some 24) (.load true 8 (.tmp 3)) false
  (.op (some 25) (.fieldAddr 10 (.tmp 1)) false
  (.op (some 26) (.load false 1 (.tmp 25)) false
  (.op (some 27) (.call 9 [(.tmp 24), (.tmp 26)]) false
  (.op (some 28) (.bin .eql (.tmp 27) (.const (.int .i64 0))) false
  (.op (some 29) (.move (.tmp 28)) false
  (.sc 37 29 true [30, 31, 32, 33, 34, 35, 36]
  (.op (some 30) (.load true 8 (.tmp 3)) false
  (.op (some 31) (.fieldAddr 10 (.tmp 1)) false
  (.op (some 32) (.load false 1 (.tmp 31)) false
  (.op (some 33) (.fieldAddr 14 (.tmp 1)) false
  (.op (some 34) (.load false 1 (.tmp 33)) false
  (.op (some 35) (.call 11 [(.tmp 30), (.tmp 32), (.tmp 34)]) false
  (.op (some 36) (.bin .eql (.tmp 35) (.const (.int .i64 0))) false
  .nil))))))) (.tmp 36)
  (.op (some 38) (.move (.tmp 37)) false
  (.sc 46 38 true [39, 40, 41, 42, 43, 44, 45]
  (.op (some 39) (.load true 8 (.tmp 3)) false
  (.op (some 40) (.fieldAddr 10 (.tmp 1)) false
  (.op (some 41) (.load false 1 (.tmp 40)) false
  (.op (some 42) (.fieldAddr 14 (.tmp 1)) false
  (.op (some 43) (.load false 1 (.tmp 42)) false
  (.op (some 44) (.call 13 [(.tmp 39), (.tmp 41), (.tmp 43)]) false
  (.op (some 45) (.un .not (.tmp 44)) false
  .nil))))))) (.tmp 45)
  (.op (some 47) (.move (.tmp 46)) false
  (.sc 49 47 true [48]
  (.op (some 48) (.call 6 []) false
  .nil) (.tmp 48)
  (.op (some 2) (.move (.tmp 49)) false
  .nil)))))))))))))
  .ret)
  .skip))
  (.seq (.region false (.op (some 50) (.load true 8 (.tmp 3)) false
  (.op (some 51) (.fieldAddr 10 (.tmp 1)) false
  (.op (some 52) (.load false 1 (.tmp 51)) false
  (.op (some 53) (.call 9 [(.tmp 50), (.tmp 52)]) false
  (.op (some 4) (.move (.tmp 53)) false
  .nil))))))
  (.seq (.seq (.region false (.op (some 5) (.move (.const (.int .i64 1))) false
  .nil))
  (.block 0 [] [2, 5, 6, 7, 54, 55, 56, 57, 58, 59, 60, 61, 62, 63, 64, 65, 66, 67, 68, 69, 70, 71, 72, 73, 74, 75, 76, 77, 78, 79, 80, 81, 82, 83, 84, 85, 86, 87, 88, 89, 90, 91, 92, 93, 94, 95, 96, 97, 98, 99, 100, 101]
  (.loop [5, 78, 79, 80, 81, 82, 85, 86, 87, 88, 89, 90, 91, 92, 93, 94, 95, 96, 97, 98, 99, 100] [2, 6, 7, 54, 55, 56, 57, 58, 59, 60, 61, 62, 63, 64, 65, 66, 67, 68, 69, 70, 71, 72, 73, 74, 75, 76, 77, 83, 84, 101]
  (.seq (.seq (.region false (.op (some 54) (.move (.tmp 5)) false
  (.op (some 55) (.fieldAddr 1 (.tmp 3)) false
  (.op (some 56) (.load false 1 (.tmp 55)) false
  (.op (some 57) (.len false (.tmp 56)) false
  (.op (some 58) (.bin .lss (.tmp 54) (.tmp 57)) false
  .nil))))))
  (.cond (.tmp 58) [] []
  .skip
  (.exit 0)))
  (.seq (.block 1 [78, 79, 80, 81, 82, 85, 86, 87, 88, 89, 90, 91, 92, 93, 94, 95, 96, 97, 98, 99, 100] [2, 6, 7, 61, 62, 63, 64, 65, 66, 67, 68, 69, 70, 71, 72, 73, 74, 75, 76, 77, 83, 84, 101]
  (.seq (.region true (.op (some 61) (.fieldAddr 1 (.tmp 3)) false
  (.op (some 62) (.load false 1 (.tmp 61)) false
  (.op (some 63) (.move (.tmp 5)) false
  (.op (some 64) (.bin .sub (.tmp 63) (.const (.int .i64 1))) false
  (.op (some 65) (.indexAddr 2 (.tmp 62) (.tmp 64)) false
  (.op (some 66) (.load true 2 (.tmp 65)) false
  (.op (some 67) (.fieldAddr 1 (.tmp 3)) false
  (.op (some 68) (.load false 1 (.tmp 67)) false
  (.op (some 69) (.move (.tmp 5)) false
  (.op (some 70) (.indexAddr 2 (.tmp 68) (.tmp 69)) false
  (.op (some 71) (.load true 2 (.tmp 70)) false
  (.op (some 6) (.new 37 [(.int .i64 0), (.int .i64 0)]) false
  (.op (some 7) (.new 37 [(.int .i64 0), (.int .i64 0)]) false
  (.op none (.store 2 (.tmp 6) (.tmp 66)) false
  (.op none (.store 2 (.tmp 7) (.tmp 71)) false
  .nil))))))))))))))))
  (.seq (.region false (.op (some 72) (.fieldAddr 0 (.tmp 6)) false
  (.op (some 73) (.load false 1 (.tmp 72)) false
  (.op (some 74) (.fieldAddr 10 (.tmp 1)) false
  (.op (some 75) (.load false 1 (.tmp 74)) false
  (.op (some 76) (.bin .leq (.tmp 73) (.tmp 75)) false
  (.op (some 77) (.move (.tmp 76)) false
  (.sc 83 77 true [78, 79, 80, 81, 82]
  (.op (some 78) (.fieldAddr 10 (.tmp 1)) false
  (.op (some 79) (.load false 1 (.tmp 78)) false
  (.op (some 80) (.fieldAddr 0 (.tmp 7)) false
  (.op (some 81) (.load false 1 (.tmp 80)) false
  (.op (some 82) (.bin .leq (.tmp 79) (.tmp 81)) false
  .nil))))) (.tmp 82)
  (.op (some 84) (.move (.tmp 83)) false
  (.sc 101 84 true [85, 86, 87, 88, 89, 90, 91, 92, 100, 93, 94, 95, 96, 97, 98, 99]
  (.op (some 85) (.move (.tmp 4)) false
  (.op (some 86) (.fieldAddr 1 (.tmp 6)) false
  (.op (some 87) (.load false 1 (.tmp 86)) false
  (.op (some 88) (.fieldAddr 1 (.tmp 7)) false
  (.op (some 89) (.load false 1 (.tmp 88)) false
  (.op (some 90) (.min [(.tmp 87), (.tmp 89)]) false
  (.op (some 91) (.bin .lss (.tmp 85) (.tmp 90)) false
  (.op (some 92) (.move (.tmp 91)) false
  (.sc 100 92 false [93, 94, 95, 96, 97, 98, 99]
  (.op (some 93) (.move (.tmp 4)) false
  (.op (some 94) (.fieldAddr 1 (.tmp 6)) false
  (.op (some 95) (.load false 1 (.tmp 94)) false
  (.op (some 96) (.fieldAddr 1 (.tmp 7)) false
  (.op (some 97) (.load false 1 (.tmp 96)) false
  (.op (some 98) (.max [(.tmp 95), (.tmp 97)]) false
  (.op (some 99) (.bin .gtr (.tmp 93) (.tmp 98)) false
  .nil))))))) (.tmp 99)
  .nil))))))))) (.tmp 100)
  .nil))))))))))
  (.cond (.tmp 101) [] [2]
  (.seq (.region false (.op (some 2) (.move (.const (.bool false))) false
  .nil))
  .ret)
  .skip))))
  (.region false (.op (some 59) (.move (.tmp 5)) false
  (.op (some 60) (.bin .add (.tmp 59) (.const (.int .i64 1))) false
  (.op (some 5) (.move (.tmp 60)) false
  .nil)))))))))
  (.seq (.region false (.op (some 102) (.fieldAddr 1 (.tmp 3)) false
  (.op (some 103) (.load false 1 (.tmp 102)) false
  (.op (some 104) (.fieldAddr 1 (.tmp 3)) false
  (.op (some 105) (.load false 1 (.tmp 104)) false
  (.op (some 106) (.len false (.tmp 105)) false
  (.op (some 107) (.bin .sub (.tmp 106) (.const (.int .i64 1))) false
  (.op (some 108) (.indexAddr 2 (.tmp 103) (.tmp 107)) false
  (.op (some 109) (.fieldAddr 0 (.tmp 108)) false
  (.op (some 110) (.load false 1 (.tmp 109)) false
  (.op (some 8) (.move (.tmp 110)) false
  (.op (some 9) (.move (.const (.bool false))) false
  .nil))))))))))))
  (.seq (.block 2 [8, 9] [111, 112, 113, 114, 115, 116, 117, 118, 119, 120, 121, 122, 123, 124, 125, 126, 127, 128, 129, 130, 131, 132, 133, 134]
  (.seq (.region false (.op (some 112) (.fieldAddr 14 (.tmp 1)) false
  (.op (some 113) (.load false 1 (.tmp 112)) false
  (.op (some 114) (.move (.tmp 113)) false
  (.sc 117 114 true [115, 116]
  (.op (some 115) (.fieldAddr 2 (.tmp 3)) false
  (.op (some 116) (.load false 1 (.tmp 115)) false
  .nil)) (.tmp 116)
  (.op (some 111) (.move (.tmp 117)) false
  .nil))))))
  (.cond (.tmp 111) [8, 9] [118, 119, 120, 121, 122, 123, 124, 125, 126, 127, 128, 129, 130, 131, 132, 133, 134]
  (.region false (.op (some 118) (.fieldAddr 1 (.tmp 3)) false
  (.op (some 119) (.load false 1 (.tmp 118)) false
  (.op (some 120) (.fieldAddr 4 (.tmp 3)) false
  (.op (some 121) (.load false 1 (.tmp 120)) false
  (.op (some 122) (.indexAddr 2 (.tmp 119) (.tmp 121)) false
  (.op (some 123) (.fieldAddr 0 (.tmp 122)) false
  (.op (some 124) (.load false 1 (.tmp 123)) false
  (.op (some 8) (.move (.tmp 124)) false
  (.op (some 9) (.move (.const (.bool true))) false
  .nil))))))))))
  (.seq (.region false (.op (some 126) (.fieldAddr 5 (.tmp 3)) false
  (.op (some 127) (.load false 1 (.tmp 126)) false
  (.op (some 125) (.move (.tmp 127)) false
  .nil))))
  (.cond (.tmp 125) [8, 9] [128, 129, 130, 131, 132, 133, 134]
  (.region false (.op (some 128) (.fieldAddr 1 (.tmp 3)) false
  (.op (some 129) (.load false 1 (.tmp 128)) false
  (.op (some 130) (.fieldAddr 7 (.tmp 3)) false
  (.op (some 131) (.load false 1 (.tmp 130)) false
  (.op (some 132) (.indexAddr 2 (.tmp 129) (.tmp 131)) false
  (.op (some 133) (.fieldAddr 0 (.tmp 132)) false
  (.op (some 134) (.load false 1 (.tmp 133)) false
  (.op (some 8) (.move (.tmp 134)) false
  (.op (some 9) (.move (.const (.bool true))) false
  .nil))))))))))
  .skip)))))
  (.seq (.seq (.region false (.op (some 135) (.fieldAddr 10 (.tmp 1)) false
  (.op (some 136) (.load false 1 (.tmp 135)) false
  (.op (some 137) (.move (.tmp 8)) false
  (.op (some 138) (.bin .leq (.tmp 136) (.tmp 137)) false
  (.op (some 139) (.move (.tmp 138)) false
  (.sc 148 139 true [140, 141, 142, 143, 144, 145, 146, 147]
  (.op (some 140) (.load true 8 (.tmp 3)) false
  (.op (some 141) (.fieldAddr 10 (.tmp 1)) false
  (.op (some 142) (.load false 1 (.tmp 141)) false
  (.op (some 143) (.fieldAddr 14 (.tmp 1)) false
  (.op (some 144) (.load false 1 (.tmp 143)) false
  (.op (some 145) (.call 11 [(.tmp 140), (.tmp 142), (.tmp 144)]) false
  (.op (some 146) (.move (.tmp 8)) false
  (.op (some 147) (.bin .gtr (.tmp 145) (.tmp 146)) false
  .nil)))))))) (.tmp 147)
  (.op (some 149) (.move (.tmp 148)) false
  (.sc 159 149 false [150, 151, 158, 152, 153, 154, 155, 156, 157]
  (.op (some 150) (.move (.tmp 9)) false
  (.op (some 151) (.move (.tmp 150)) false
  (.sc 158 151 true [152, 153, 154, 155, 156, 157]
  (.op (some 152) (.load true 8 (.tmp 3)) false
  (.op (some 153) (.fieldAddr 10 (.tmp 1)) false
  (.op (some 154) (.load false 1 (.tmp 153)) false
  (.op (some 155) (.fieldAddr 14 (.tmp 1)) false
  (.op (some 156) (.load false 1 (.tmp 155)) false
  (.op (some 157) (.call 13 [(.tmp 152), (.tmp 154), (.tmp 156)]) false
  .nil)))))) (.tmp 157)
  .nil))) (.tmp 158)
  .nil)))))))))
  (.cond (.tmp 159) [] [2]
  (.seq (.region false (.op (some 2) (.move (.const (.bool false))) false
  .nil))
  .ret)
  .skip))
  (.seq (.region false (.op (some 160) (.fieldAddr 11 (.tmp 1)) false
  (.op (some 161) (.load false 1 (.tmp 160)) false
  (.op (some 162) (.bin .and (.tmp 161) (.const (.int .i64 255))) false
  (.op (some 10) (.move (.tmp 162)) false
  .nil)))))
  (.seq (.region true (.op (some 163) (.load true 8 (.tmp 3)) false
  (.op (some 164) (.move (.tmp 10)) false
  (.op (some 165) (.fieldAddr 12 (.tmp 1)) false
  (.op (some 166) (.load false 1 (.tmp 165)) false
  (.op (some 167) (.call 16 [(.tmp 163), (.tmp 164), (.tmp 166)]) true
  (.op (some 168) (.load true 8 (.tmp 3)) false
  (.op (some 169) (.move (.tmp 10)) false
  (.op (some 170) (.fieldAddr 13 (.tmp 1)) false
  (.op (some 171) (.load false 1 (.tmp 170)) false
  (.op (some 172) (.call 16 [(.tmp 168), (.tmp 169), (.tmp 171)]) false
  (.op (some 11) (.move (.tmp 167)) false
  (.op (some 12) (.move (.tmp 172)) false
  .nil)))))))))))))
  (.seq (.seq (.region false (.op (some 13) (.move (.const (.int .i64 0))) false
  .nil))
  (.block 3 [] [2, 13, 173, 174, 175, 176, 177, 178, 179, 180, 181, 182, 183, 184, 185, 186, 187, 188, 189, 190, 191, 192, 193, 194, 195, 196, 197, 198, 199, 200, 201, 202, 203, 204, 205, 206, 207, 208, 209, 210]
  (.loop [13, 177, 178, 179, 180, 183, 184, 185, 186, 195, 196, 197, 198, 201, 202, 203, 204, 205, 206, 207, 208, 209] [2, 173, 174, 175, 176, 181, 182, 187, 188, 189, 190, 191, 192, 193, 194, 199, 200, 210]
  (.seq (.seq (.region false (.op (some 173) (.move (.tmp 13)) false
  (.op (some 174) (.move (.tmp 10)) false
  (.op (some 175) (.bin .lss (.tmp 173) (.tmp 174)) false
  (.op (some 176) (.move (.tmp 175)) false
  (.sc 181 176 true [177, 178, 179, 180]
  (.op (some 177) (.move (.tmp 13)) false
  (.op (some 178) (.fieldAddr 12 (.tmp 1)) false
  (.op (some 179) (.load false 1 (.tmp 178)) false
  (.op (some 180) (.bin .lss (.tmp 177) (.tmp 179)) false
  .nil)))) (.tmp 180)
  (.op (some 182) (.move (.tmp 181)) false
  (.sc 187 182 true [183, 184, 185, 186]
  (.op (some 183) (.move (.tmp 13)) false
  (.op (some 184) (.fieldAddr 13 (.tmp 1)) false
  (.op (some 185) (.load false 1 (.tmp 184)) false
  (.op (some 186) (.bin .lss (.tmp 183) (.tmp 185)) false
  .nil)))) (.tmp 186)
  .nil))))))))
  (.cond (.tmp 187) [] []
  .skip
  (.exit 3)))
  (.seq (.block 4 [195, 196, 197, 198, 201, 202, 203, 204, 205, 206, 207, 208, 209] [2, 190, 191, 192, 193, 194, 199, 200, 210]
  (.seq (.region true (.op (some 190) (.move (.tmp 11)) false
  (.op (some 191) (.len false (.tmp 190)) false
  (.op (some 192) (.move (.tmp 10)) false
  (.op (some 193) (.bin .neq (.tmp 191) (.tmp 192)) false
  (.op (some 194) (.move (.tmp 193)) false
  (.sc 199 194 false [195, 196, 197, 198]
  (.op (some 195) (.move (.tmp 12)) false
  (.op (some 196) (.len false (.tmp 195)) false
  (.op (some 197) (.move (.tmp 10)) false
  (.op (some 198) (.bin .neq (.tmp 196) (.tmp 197)) false
  .nil)))) (.tmp 198)
  (.op (some 200) (.move (.tmp 199)) false
  (.sc 210 200 false [201, 202, 203, 204, 205, 206, 207, 208, 209]
  (.op (some 201) (.move (.tmp 11)) false
  (.op (some 202) (.move (.tmp 13)) false
  (.op (some 203) (.indexAddr 1 (.tmp 201) (.tmp 202)) false
  (.op (some 204) (.load false 1 (.tmp 203)) false
  (.op (some 205) (.move (.tmp 12)) false
  (.op (some 206) (.move (.tmp 13)) false
  (.op (some 207) (.indexAddr 1 (.tmp 205) (.tmp 206)) false
  (.op (some 208) (.load false 1 (.tmp 207)) false
  (.op (some 209) (.bin .neq (.tmp 204) (.tmp 208)) false
  .nil))))))))) (.tmp 209)
  .nil)))))))))
  (.cond (.tmp 210) [] [2]
  (.seq (.region false (.op (some 2) (.move (.const (.bool false))) false
  .nil))
  .ret)
  .skip)))
  (.region false (.op (some 188) (.move (.tmp 13)) false
  (.op (some 189) (.bin .add (.tmp 188) (.const (.int .i64 1))) false
  (.op (some 13) (.move (.tmp 189)) false
  .nil)))))))))
  (.seq (.region false (.op (some 211) (.move (.tmp 11)) false
  (.op (some 212) (.len false (.tmp 211)) false
  (.op (some 213) (.move (.tmp 10)) false
  (.op (some 214) (.bin .eql (.tmp 212) (.tmp 213)) false
  (.op (some 215) (.move (.tmp 214)) false
  (.sc 217 215 true [216]
  (.op (some 216) (.call 6 []) false
  .nil) (.tmp 216)
  (.op (some 2) (.move (.tmp 217)) false
  .nil))))))))
  .ret)))))))))))),
 [.tmp 2]⟩
theorem ok4 : ∃ fn c, FunOk Try.prog 4 fn c A4 := ⟨Try.f4, _, ⟨Try.func4, rfl, by kernel_rfl, by kernel_rfl, by kernel_rfl, of_decide_eq_true (by kernel_rfl), by kernel_rfl⟩⟩
noncomputable def s4_L0 (Γ : Callee) (n : Nat) (h : AHeap) (v0 : Value) (v49 : Value) (p53 : Value × AHeap) (p57 : Value × AHeap) (j58 : List Value → AHeap → Rt) : (List Value → AHeap → Rt) → List Value → AHeap → Rt := fun c67 w68 h69 =>
 (binf .lss (nth w68 0) v49).bind fun v70 =>
 J1 (fun v72 h73 =>
 J1 (fun v75 h76 =>
 JL (fun w78 h79 =>
 JL (fun w81 h82 =>
 (binf .add (nth w68 0) ((.int .i64 1) : Value)).bind fun v83 =>
 c67 [v83, junk, junk, junk, junk, junk, junk, junk, junk, (nth w81 0), (nth w81 1), (nth w81 2), (nth w81 3), (nth w81 4), (nth w81 5), (nth w81 6), (nth w81 7), (nth w81 8), (nth w81 9), (nth w81 10), (nth w81 11), (nth w81 12)] h82) fun j80 =>
 (lenf false p53.1).bind fun v84 =>
 (binf .neq v84 v49).bind fun v85 =>
 J1 (fun v87 h88 =>
 J1 (fun v90 h91 =>
 JL (fun w93 h94 =>
 j80 [junk, junk, junk, junk, junk, junk, junk, junk, junk, junk, junk, junk, junk] h94) fun j92 =>
 ifK v90 (
 fin h h91 [((.bool false) : Value)]) (
 j92 [] h91)) fun j89 =>
 scK v87 false (
 (indexAddrf 1 p53.1 (nth w68 0)).bind fun v95 =>
 (loadf false 1 v95 h88).bind fun v96 =>
 (indexAddrf 1 p57.1 (nth w68 0)).bind fun v97 =>
 (loadf false 1 v97 h88).bind fun v98 =>
 (binf .neq v96 v98).bind fun v99 =>
 j89 v99 h88)
 (j89 (.bool true) h88)) fun j86 =>
 scK v85 false (
 (lenf false p57.1).bind fun v100 =>
 (binf .neq v100 v49).bind fun v101 =>
 j86 v101 h79)
 (j86 (.bool true) h79)) fun j77 =>
 ifK v75 (
 j77 [] h76) (
 j58 [] h76)) fun j74 =>
 scK v72 true (
 (fieldAddrf 13 v0).bind fun v102 =>
 (loadf false 1 v102 h73).bind fun v103 =>
 (binf .lss (nth w68 0) v103).bind fun v104 =>
 j74 v104 h73)
 (j74 (.bool false) h73)) fun j71 =>
 scK v70 true (
 (fieldAddrf 12 v0).bind fun v105 =>
 (loadf false 1 v105 h69).bind fun v106 =>
 (binf .lss (nth w68 0) v106).bind fun v107 =>
 j71 v107 h69)
 (j71 (.bool false) h69)
noncomputable def s4_L1 (Γ : Callee) (n : Nat) (h : AHeap) (v0 : Value) (v4 : Value) (p19 : Value × AHeap) (j20 : List Value → AHeap → Rt) : (List Value → AHeap → Rt) → List Value → AHeap → Rt := fun c153 w154 h155 =>
 (fieldAddrf 1 v4).bind fun v156 =>
 (loadf false 1 v156 h155).bind fun v157 =>
 (lenf false v157).bind fun v158 =>
 (binf .lss (nth w154 0) v158).bind fun v159 =>
 JL (fun w161 h162 =>
 JL (fun w164 h165 =>
 (binf .add (nth w154 0) ((.int .i64 1) : Value)).bind fun v166 =>
 c153 [v166, (nth w164 0), (nth w164 1), (nth w164 2), (nth w164 3), (nth w164 4), (nth w164 5), (nth w164 6), (nth w164 7), (nth w164 8), (nth w164 9), (nth w164 10), (nth w164 11), (nth w164 12), (nth w164 13), (nth w164 14), (nth w164 15), (nth w164 16), (nth w164 17), (nth w164 18), (nth w164 19), (nth w164 20)] h165) fun j163 =>
 (fieldAddrf 1 v4).bind fun v167 =>
 (loadf false 1 v167 h162).bind fun v168 =>
 (binf .sub (nth w154 0) ((.int .i64 1) : Value)).bind fun v169 =>
 (indexAddrf 2 v168 v169).bind fun v170 =>
 (loadf true 2 v170 h162).bind fun v171 =>
 (fieldAddrf 1 v4).bind fun v172 =>
 (loadf false 1 v172 h162).bind fun v173 =>
 (indexAddrf 2 v173 (nth w154 0)).bind fun v174 =>
 (loadf true 2 v174 h162).bind fun v175 =>
 fork (ptrTo h162.length 0) (h162 ++ [.cells [(.int .i64 0), (.int .i64 0)] 37 true]) fun v176 h177 =>
 fork (ptrTo h177.length 0) (h177 ++ [.cells [(.int .i64 0), (.int .i64 0)] 37 true]) fun v178 h179 =>
 (storef 2 v176 v171 h179).bind fun h180 =>
 (storef 2 v178 v175 h180).bind fun h181 =>
 (fieldAddrf 0 v176).bind fun v182 =>
 (loadf false 1 v182 h181).bind fun v183 =>
 (fieldAddrf 10 v0).bind fun v184 =>
 (loadf false 1 v184 h181).bind fun v185 =>
 (binf .leq v183 v185).bind fun v186 =>
 J1 (fun v188 h189 =>
 J1 (fun v191 h192 =>
 JL (fun w194 h195 =>
 j163 [junk, junk, junk, junk, junk, junk, junk, junk, junk, junk, junk, junk, junk, junk, junk, junk, junk, junk, junk, junk, junk] h195) fun j193 =>
 ifK v191 (
 fin h h192 [((.bool false) : Value)]) (
 j193 [] h192)) fun j190 =>
 scK v188 true (
 (fieldAddrf 1 v176).bind fun v196 =>
 (loadf false 1 v196 h189).bind fun v197 =>
 (fieldAddrf 1 v178).bind fun v198 =>
 (loadf false 1 v198 h189).bind fun v199 =>
 (fold1f min2f [v197, v199]).bind fun v200 =>
 (binf .lss p19.1 v200).bind fun v201 =>
 J1 (fun v203 h204 =>
 j190 v203 h204) fun j202 =>
 scK v201 false (
 (fieldAddrf 1 v176).bind fun v205 =>
 (loadf false 1 v205 h189).bind fun v206 =>
 (fieldAddrf 1 v178).bind fun v207 =>
 (loadf false 1 v207 h189).bind fun v208 =>
 (fold1f max2f [v206, v208]).bind fun v209 =>
 (binf .gtr p19.1 v209).bind fun v210 =>
 j202 v210 h189)
 (j202 (.bool true) h189))
 (j190 (.bool false) h189)) fun j187 =>
 scK v186 true (
 (fieldAddrf 10 v0).bind fun v211 =>
 (loadf false 1 v211 h181).bind fun v212 =>
 (fieldAddrf 0 v178).bind fun v213 =>
 (loadf false 1 v213 h181).bind fun v214 =>
 (binf .leq v212 v214).bind fun v215 =>
 j187 v215 h181)
 (j187 (.bool false) h181)) fun j160 =>
 ifK v159 (
 j160 [] h155) (
 j20 [] h155)
noncomputable def s4 (Γ : Callee) (n : Nat) (x0 : Value) (h : AHeap) : Rt :=
 fork (ptrTo h.length 0) (h ++ [.cells (cellsL x0) 26 true]) fun v0 h1 =>
 (fieldAddrf 0 v0).bind fun v2 =>
 (loadf true 8 v2 h1).bind fun v3 =>
 fork (ptrTo h1.length 0) (h1 ++ [.cells [(.bool false), (.slice none 0 0), (.bool false), (.int .i64 0), (.int .i64 0), (.bool false), (.int .i64 0), (.int .i64 0)] 24 true]) fun v4 h5 =>
 (storef 8 v4 v3 h5).bind fun h6 =>
 (fieldAddrf 0 v4).bind fun v7 =>
 (loadf false 1 v7 h6).bind fun v8 =>
 (unf .not v8).bind fun v9 =>
 J1 (fun v11 h12 =>
 JL (fun w14 h15 =>
 (loadf true 8 v4 h15).bind fun v16 =>
 (fieldAddrf 10 v0).bind fun v17 =>
 (loadf false 1 v17 h15).bind fun v18 =>
 (Γ 9 [v16, v18] h15).bind fun p19 =>
 JL (fun w21 h22 =>
 (fieldAddrf 1 v4).bind fun v23 =>
 (loadf false 1 v23 h22).bind fun v24 =>
 (fieldAddrf 1 v4).bind fun v25 =>
 (loadf false 1 v25 h22).bind fun v26 =>
 (lenf false v26).bind fun v27 =>
 (binf .sub v27 ((.int .i64 1) : Value)).bind fun v28 =>
 (indexAddrf 2 v24 v28).bind fun v29 =>
 (fieldAddrf 0 v29).bind fun v30 =>
 (loadf false 1 v30 h22).bind fun v31 =>
 JL (fun w33 h34 =>
 (fieldAddrf 10 v0).bind fun v35 =>
 (loadf false 1 v35 h34).bind fun v36 =>
 (binf .leq v36 (nth w33 0)).bind fun v37 =>
 J1 (fun v39 h40 =>
 J1 (fun v42 h43 =>
 JL (fun w45 h46 =>
 (fieldAddrf 11 v0).bind fun v47 =>
 (loadf false 1 v47 h46).bind fun v48 =>
 (binf .and v48 ((.int .i64 255) : Value)).bind fun v49 =>
 (loadf true 8 v4 h46).bind fun v50 =>
 (fieldAddrf 12 v0).bind fun v51 =>
 (loadf false 1 v51 h46).bind fun v52 =>
 (Γ 16 [v50, v49, v52] h46).bind fun p53 =>
 sameQ h46 p53.2 (
 (loadf true 8 v4 p53.2).bind fun v54 =>
 (fieldAddrf 13 v0).bind fun v55 =>
 (loadf false 1 v55 p53.2).bind fun v56 =>
 (Γ 16 [v54, v49, v56] p53.2).bind fun p57 =>
 JL (fun w59 h60 =>
 (lenf false p53.1).bind fun v61 =>
 (binf .eql v61 v49).bind fun v62 =>
 J1 (fun v64 h65 =>
 fin h h65 [v64]) fun j63 =>
 scK v62 true (
 (Γ 6 [] h60).bind fun p66 =>
 j63 p66.1 p66.2)
 (j63 (.bool false) h60)) fun j58 =>
 loopN (s4_L0 Γ n h v0 v49 p53 p57 j58) n [((.int .i64 0) : Value), undef, undef, undef, undef, undef, undef, undef, undef, undef, undef, undef, undef, undef, undef, undef, undef, undef, undef, undef, undef, undef] p57.2)) fun j44 =>
 ifK v42 (
 fin h h43 [((.bool false) : Value)]) (
 j44 [] h43)) fun j41 =>
 scK v39 false (
 J1 (fun v109 h110 =>
 j41 v109 h110) fun j108 =>
 scK (nth w33 1) true (
 (loadf true 8 v4 h40).bind fun v111 =>
 (fieldAddrf 10 v0).bind fun v112 =>
 (loadf false 1 v112 h40).bind fun v113 =>
 (fieldAddrf 14 v0).bind fun v114 =>
 (loadf false 1 v114 h40).bind fun v115 =>
 (Γ 13 [v111, v113, v115] h40).bind fun p116 =>
 j108 p116.1 p116.2)
 (j108 (.bool false) h40))
 (j41 (.bool true) h40)) fun j38 =>
 scK v37 true (
 (loadf true 8 v4 h34).bind fun v117 =>
 (fieldAddrf 10 v0).bind fun v118 =>
 (loadf false 1 v118 h34).bind fun v119 =>
 (fieldAddrf 14 v0).bind fun v120 =>
 (loadf false 1 v120 h34).bind fun v121 =>
 (Γ 11 [v117, v119, v121] h34).bind fun p122 =>
 (binf .gtr p122.1 (nth w33 0)).bind fun v123 =>
 j38 v123 p122.2)
 (j38 (.bool false) h34)) fun j32 =>
 (fieldAddrf 14 v0).bind fun v124 =>
 (loadf false 1 v124 h22).bind fun v125 =>
 J1 (fun v127 h128 =>
 JL (fun w130 h131 =>
 j32 [(nth w130 0), (nth w130 1)] h131) fun j129 =>
 ifK v127 (
 (fieldAddrf 1 v4).bind fun v132 =>
 (loadf false 1 v132 h128).bind fun v133 =>
 (fieldAddrf 4 v4).bind fun v134 =>
 (loadf false 1 v134 h128).bind fun v135 =>
 (indexAddrf 2 v133 v135).bind fun v136 =>
 (fieldAddrf 0 v136).bind fun v137 =>
 (loadf false 1 v137 h128).bind fun v138 =>
 j129 [v138, ((.bool true) : Value)] h128) (
 (fieldAddrf 5 v4).bind fun v139 =>
 (loadf false 1 v139 h128).bind fun v140 =>
 JL (fun w142 h143 =>
 j129 [(nth w142 0), (nth w142 1)] h143) fun j141 =>
 ifK v140 (
 (fieldAddrf 1 v4).bind fun v144 =>
 (loadf false 1 v144 h128).bind fun v145 =>
 (fieldAddrf 7 v4).bind fun v146 =>
 (loadf false 1 v146 h128).bind fun v147 =>
 (indexAddrf 2 v145 v147).bind fun v148 =>
 (fieldAddrf 0 v148).bind fun v149 =>
 (loadf false 1 v149 h128).bind fun v150 =>
 j141 [v150, ((.bool true) : Value)] h128) (
 j141 [v31, ((.bool false) : Value)] h128))) fun j126 =>
 scK v125 true (
 (fieldAddrf 2 v4).bind fun v151 =>
 (loadf false 1 v151 h22).bind fun v152 =>
 j126 v152 h22)
 (j126 (.bool false) h22)) fun j20 =>
 loopN (s4_L1 Γ n h v0 v4 p19 j20) n [((.int .i64 1) : Value), undef, undef, undef, undef, undef, undef, undef, undef, undef, undef, undef, undef, undef, undef, undef, undef, undef, undef, undef, undef, undef] p19.2) fun j13 =>
 ifK v11 (
 (loadf true 8 v4 h12).bind fun v216 =>
 (fieldAddrf 10 v0).bind fun v217 =>
 (loadf false 1 v217 h12).bind fun v218 =>
 (Γ 9 [v216, v218] h12).bind fun p219 =>
 (binf .eql p219.1 ((.int .i64 0) : Value)).bind fun v220 =>
 J1 (fun v222 h223 =>
 J1 (fun v225 h226 =>
 J1 (fun v228 h229 =>
 fin h h229 [v228]) fun j227 =>
 scK v225 true (
 (Γ 6 [] h226).bind fun p230 =>
 j227 p230.1 p230.2)
 (j227 (.bool false) h226)) fun j224 =>
 scK v222 true (
 (loadf true 8 v4 h223).bind fun v231 =>
 (fieldAddrf 10 v0).bind fun v232 =>
 (loadf false 1 v232 h223).bind fun v233 =>
 (fieldAddrf 14 v0).bind fun v234 =>
 (loadf false 1 v234 h223).bind fun v235 =>
 (Γ 13 [v231, v233, v235] h223).bind fun p236 =>
 (unf .not p236.1).bind fun v237 =>
 j224 v237 p236.2)
 (j224 (.bool false) h223)) fun j221 =>
 scK v220 true (
 (loadf true 8 v4 p219.2).bind fun v238 =>
 (fieldAddrf 10 v0).bind fun v239 =>
 (loadf false 1 v239 p219.2).bind fun v240 =>
 (fieldAddrf 14 v0).bind fun v241 =>
 (loadf false 1 v241 p219.2).bind fun v242 =>
 (Γ 11 [v238, v240, v242] p219.2).bind fun p243 =>
 (binf .eql p243.1 ((.int .i64 0) : Value)).bind fun v244 =>
 j221 v244 p243.2)
 (j221 (.bool false) p219.2)) (
 j13 [] h12)) fun j10 =>
 scK v9 false (
 (loadf true 8 v4 h6).bind fun v245 =>
 (Γ 7 [v245, ((.int .i64 (-64)) : Value), ((.int .i64 64) : Value)] h6).bind fun p246 =>
 (unf .not p246.1).bind fun v247 =>
 j10 v247 p246.2)
 (j10 (.bool true) h6)

theorem s4_eq (Γ : Callee) (n : Nat) (x0 : Value) (h : AHeap) : funK Γ n A4 [x0] h = s4 Γ n x0 h := by kernel_rfl


/-- orchestrion/orchestrionlaw04.awake -/
def A6 : AFun := ⟨0, 27,
 (.seq (.region false (.op (some 0) (.move (.const (.bool false))) false
  .nil))
  (.seq (.region false (.op (some 2) (.build [(.int .i64 0), (.int .i64 0)] [(0, 1, (.const (.int .i64 0))), (1, 1, (.const (.int .i64 64)))]) false
  (.op (some 3) (.build [(.int .i64 0), (.int .i64 0)] [(0, 1, (.const (.int .i64 10))), (1, 1, (.const (.int .i64 0)))]) false
  (.op (some 4) (.buildSlice 37 [(.int .i64 0), (.int .i64 0)] 2 [(0, 2, (.tmp 2)), (2, 2, (.tmp 3))]) false
  (.op (some 5) (.build [(.bool false), (.slice none 0 0), (.bool false), (.int .i64 0), (.int .i64 0), (.bool false), (.int .i64 0), (.int .i64 0)] [(0, 1, (.const (.bool true))), (1, 1, (.tmp 4))]) false
  (.op (some 1) (.new 24 [(.bool false), (.slice none 0 0), (.bool false), (.int .i64 0), (.int .i64 0), (.bool false), (.int .i64 0), (.int .i64 0)]) false
  (.op none (.store 8 (.tmp 1) (.tmp 5)) false
  .nil)))))))
  (.seq (.region false (.op (some 6) (.load true 8 (.tmp 1)) false
  (.op (some 7) (.call 9 [(.tmp 6), (.const (.int .i64 3))]) false
  (.op (some 8) (.bin .eql (.tmp 7) (.const (.int .i64 44))) false
  (.op (some 9) (.move (.tmp 8)) false
  (.sc 13 9 true [10, 11, 12]
  (.op (some 10) (.load true 8 (.tmp 1)) false
  (.op (some 11) (.call 9 [(.tmp 10), (.const (.int .i64 5))]) false
  (.op (some 12) (.bin .eql (.tmp 11) (.const (.int .i64 32))) false
  .nil))) (.tmp 12)
  (.op (some 14) (.move (.tmp 13)) false
  (.sc 18 14 true [15, 16, 17]
  (.op (some 15) (.load true 8 (.tmp 1)) false
  (.op (some 16) (.call 11 [(.tmp 15), (.const (.int .i64 9)), (.const (.bool true))]) false
  (.op (some 17) (.bin .eql (.tmp 16) (.const (.int .i64 10))) false
  .nil))) (.tmp 17)
  (.op (some 19) (.move (.tmp 18)) false
  (.sc 22 19 true [20, 21]
  (.op (some 20) (.load true 8 (.tmp 1)) false
  (.op (some 21) (.call 13 [(.tmp 20), (.const (.int .i64 10)), (.const (.bool false))]) false
  .nil)) (.tmp 21)
  (.op (some 23) (.move (.tmp 22)) false
  (.sc 26 23 true [24, 25]
  (.op (some 24) (.build [(.string ⟨#[]⟩), (.slice none 0 0), (.bool false), (.slice none 0 0), (.bool false), (.int .i64 0), (.int .i64 0), (.bool false), (.int .i64 0), (.int .i64 0), (.bool false), (.slice none 0 0), (.bool false), (.int .i64 0), (.int .i64 0), (.bool false), (.int .i64 0), (.int .i64 0), (.bool false), (.slice none 0 0), (.bool false), (.int .i64 0), (.int .i64 0), (.bool false), (.int .i64 0), (.int .i64 0), (.int .i64 0), (.int .i64 0), (.int .i64 0), (.int .i64 0), (.int .i64 0), (.int .i64 0), (.int .i64 0)] []) false
  (.op (some 25) (.call 20 [(.tmp 24)]) false
  .nil)) (.tmp 25)
  (.op (some 0) (.move (.tmp 26)) false
  .nil)))))))))))))
  .ret))),
 [.tmp 0]⟩
theorem ok6 : ∃ fn c, FunOk Try.prog 6 fn c A6 := ⟨Try.f6, _, ⟨Try.func6, rfl, by kernel_rfl, by kernel_rfl, by kernel_rfl, of_decide_eq_true (by kernel_rfl), by kernel_rfl⟩⟩
noncomputable def s6 (Γ : Callee) (n : Nat) (h : AHeap) : Rt :=
 (fillf [(.int .i64 0), (.int .i64 0)] [(0, 1, ((.int .i64 0) : Value)), (1, 1, ((.int .i64 64) : Value))]).bind fun l0 =>
 (fillf [(.int .i64 0), (.int .i64 0)] [(0, 1, ((.int .i64 10) : Value)), (1, 1, ((.int .i64 0) : Value))]).bind fun l1 =>
 (fillf (rep [(.int .i64 0), (.int .i64 0)] 2) [(0, 2, (Value.agg l0.toArray)), (2, 2, (Value.agg l1.toArray))]).bind fun l2 =>
 fork (.slice (some ⟨h.length, 0, none⟩) 2 2) (h ++ [.cells l2 37 true]) fun v3 h4 =>
 (fillf [(.bool false), (.slice none 0 0), (.bool false), (.int .i64 0), (.int .i64 0), (.bool false), (.int .i64 0), (.int .i64 0)] [(0, 1, ((.bool true) : Value)), (1, 1, v3)]).bind fun l5 =>
 fork (ptrTo h4.length 0) (h4 ++ [.cells [(.bool false), (.slice none 0 0), (.bool false), (.int .i64 0), (.int .i64 0), (.bool false), (.int .i64 0), (.int .i64 0)] 24 true]) fun v6 h7 =>
 (storef 8 v6 (Value.agg l5.toArray) h7).bind fun h8 =>
 (loadf true 8 v6 h8).bind fun v9 =>
 (Γ 9 [v9, ((.int .i64 3) : Value)] h8).bind fun p10 =>
 (binf .eql p10.1 ((.int .i64 44) : Value)).bind fun v11 =>
 J1 (fun v13 h14 =>
 J1 (fun v16 h17 =>
 J1 (fun v19 h20 =>
 J1 (fun v22 h23 =>
 fin h h23 [v22]) fun j21 =>
 scK v19 true (
 (fillf [(.string ⟨#[]⟩), (.slice none 0 0), (.bool false), (.slice none 0 0), (.bool false), (.int .i64 0), (.int .i64 0), (.bool false), (.int .i64 0), (.int .i64 0), (.bool false), (.slice none 0 0), (.bool false), (.int .i64 0), (.int .i64 0), (.bool false), (.int .i64 0), (.int .i64 0), (.bool false), (.slice none 0 0), (.bool false), (.int .i64 0), (.int .i64 0), (.bool false), (.int .i64 0), (.int .i64 0), (.int .i64 0), (.int .i64 0), (.int .i64 0), (.int .i64 0), (.int .i64 0), (.int .i64 0), (.int .i64 0)] []).bind fun l24 =>
 (Γ 20 [(Value.agg l24.toArray)] h20).bind fun p25 =>
 j21 p25.1 p25.2)
 (j21 (.bool false) h20)) fun j18 =>
 scK v16 true (
 (loadf true 8 v6 h17).bind fun v26 =>
 (Γ 13 [v26, ((.int .i64 10) : Value), ((.bool false) : Value)] h17).bind fun p27 =>
 j18 p27.1 p27.2)
 (j18 (.bool false) h17)) fun j15 =>
 scK v13 true (
 (loadf true 8 v6 h14).bind fun v28 =>
 (Γ 11 [v28, ((.int .i64 9) : Value), ((.bool true) : Value)] h14).bind fun p29 =>
 (binf .eql p29.1 ((.int .i64 10) : Value)).bind fun v30 =>
 j15 v30 p29.2)
 (j15 (.bool false) h14)) fun j12 =>
 scK v11 true (
 (loadf true 8 v6 p10.2).bind fun v31 =>
 (Γ 9 [v31, ((.int .i64 5) : Value)] p10.2).bind fun p32 =>
 (binf .eql p32.1 ((.int .i64 32) : Value)).bind fun v33 =>
 j12 v33 p32.2)
 (j12 (.bool false) p10.2)

theorem s6_eq (Γ : Callee) (n : Nat) (h : AHeap) : funK Γ n A6 [] h = s6 Γ n h := by kernel_rfl


/-- orchestrion/inst.ValidEnvelope -/
def A7 : AFun := ⟨3, 92,
 (.seq (.region false (.op (some 3) (.box 24 (.tmp 0)) false
  (.op (some 6) (.move (.const (.bool false))) false
  .nil)))
  (.seq (.seq (.region false (.op (some 10) (.fieldAddr 1 (.tmp 3)) false
  (.op (some 11) (.load false 1 (.tmp 10)) false
  (.op (some 12) (.len false (.tmp 11)) false
  (.op (some 13) (.bin .gtr (.tmp 12) (.const (.int .i64 16))) false
  (.op (some 14) (.move (.tmp 13)) false
  (.sc 23 14 false [15, 16, 17, 22, 18, 19, 20, 21]
  (.op (some 15) (.fieldAddr 0 (.tmp 3)) false
  (.op (some 16) (.load false 1 (.tmp 15)) false
  (.op (some 17) (.move (.tmp 16)) false
  (.sc 22 17 true [18, 19, 20, 21]
  (.op (some 18) (.fieldAddr 1 (.tmp 3)) false
  (.op (some 19) (.load false 1 (.tmp 18)) false
  (.op (some 20) (.len false (.tmp 19)) false
  (.op (some 21) (.bin .eql (.tmp 20) (.const (.int .i64 0))) false
  .nil)))) (.tmp 21)
  .nil)))) (.tmp 22)
  .nil)))))))
  (.cond (.tmp 23) [] [6]
  (.seq (.region false (.op (some 6) (.move (.const (.bool false))) false
  .nil))
  .ret)
  .skip))
  (.seq (.seq (.region false (.op (some 24) (.fieldAddr 1 (.tmp 3)) false
  (.op (some 25) (.load false 1 (.tmp 24)) false
  (.op (some 26) (.len false (.tmp 25)) false
  (.op (some 27) (.move (.const (.int .i64 0))) false
  .nil)))))
  (.block 0 [] [6, 7, 8, 27, 28, 29, 30, 31, 32, 33, 34, 35, 36, 37, 38, 39, 40, 41, 42, 43, 44, 45, 46, 47, 48, 49, 50, 51, 52, 53, 54, 55, 56, 57, 58, 59, 60, 61, 62, 63, 64, 65, 66, 67, 68, 69, 70, 71, 72]
  (.loop [27, 35, 36, 37, 40, 41, 42, 43, 44, 45, 46, 47, 48, 49, 50, 51, 52, 53, 56, 57, 58, 61, 62, 63, 64, 67, 68, 69, 70] [6, 7, 8, 28, 29, 30, 31, 32, 33, 34, 38, 39, 54, 55, 59, 60, 65, 66, 71, 72]
  (.seq (.region false (.op (some 28) (.bin .lss (.tmp 27) (.tmp 26)) false
  .nil))
  (.seq (.cond (.tmp 28) [] []
  .skip
  (.exit 0))
  (.seq (.block 1 [35, 36, 37, 40, 41, 42, 43, 44, 45, 46, 47, 48, 49, 50, 51, 52, 53, 56, 57, 58, 61, 62, 63, 64, 67, 68, 69, 70] [6, 7, 8, 29, 30, 31, 32, 33, 34, 38, 39, 54, 55, 59, 60, 65, 66, 71]
  (.seq (.region false (.op (some 29) (.move (.tmp 27)) false
  (.op (some 30) (.indexAddr 2 (.tmp 25) (.tmp 27)) false
  (.op (some 31) (.load true 2 (.tmp 30)) false
  (.op (some 8) (.new 37 [(.int .i64 0), (.int .i64 0)]) false
  (.op (some 7) (.move (.tmp 29)) false
  (.op none (.store 2 (.tmp 8) (.tmp 31)) false
  .nil)))))))
  (.seq (.region true (.op (some 32) (.move (.tmp 7)) false
  (.op (some 33) (.bin .eql (.tmp 32) (.const (.int .i64 0))) false
  (.op (some 34) (.move (.tmp 33)) false
  (.sc 38 34 true [35, 36, 37]
  (.op (some 35) (.fieldAddr 0 (.tmp 8)) false
  (.op (some 36) (.load false 1 (.tmp 35)) false
  (.op (some 37) (.bin .neq (.tmp 36) (.const (.int .i64 0))) false
  .nil))) (.tmp 37)
  (.op (some 39) (.move (.tmp 38)) false
  (.sc 54 39 false [40, 41, 42, 53, 43, 44, 45, 46, 47, 48, 49, 50, 51, 52]
  (.op (some 40) (.move (.tmp 7)) false
  (.op (some 41) (.bin .gtr (.tmp 40) (.const (.int .i64 0))) false
  (.op (some 42) (.move (.tmp 41)) false
  (.sc 53 42 true [43, 44, 45, 46, 47, 48, 49, 50, 51, 52]
  (.op (some 43) (.fieldAddr 0 (.tmp 8)) false
  (.op (some 44) (.load false 1 (.tmp 43)) false
  (.op (some 45) (.fieldAddr 1 (.tmp 3)) false
  (.op (some 46) (.load false 1 (.tmp 45)) false
  (.op (some 47) (.move (.tmp 7)) false
  (.op (some 48) (.bin .sub (.tmp 47) (.const (.int .i64 1))) false
  (.op (some 49) (.indexAddr 2 (.tmp 46) (.tmp 48)) false
  (.op (some 50) (.fieldAddr 0 (.tmp 49)) false
  (.op (some 51) (.load false 1 (.tmp 50)) false
  (.op (some 52) (.bin .leq (.tmp 44) (.tmp 51)) false
  .nil)))))))))) (.tmp 52)
  .nil)))) (.tmp 53)
  (.op (some 55) (.move (.tmp 54)) false
  (.sc 59 55 false [56, 57, 58]
  (.op (some 56) (.fieldAddr 0 (.tmp 8)) false
  (.op (some 57) (.load false 1 (.tmp 56)) false
  (.op (some 58) (.bin .gtr (.tmp 57) (.const (.int .i64 9999))) false
  .nil))) (.tmp 58)
  (.op (some 60) (.move (.tmp 59)) false
  (.sc 65 60 false [61, 62, 63, 64]
  (.op (some 61) (.fieldAddr 1 (.tmp 8)) false
  (.op (some 62) (.load false 1 (.tmp 61)) false
  (.op (some 63) (.move (.tmp 1)) false
  (.op (some 64) (.bin .lss (.tmp 62) (.tmp 63)) false
  .nil)))) (.tmp 64)
  (.op (some 66) (.move (.tmp 65)) false
  (.sc 71 66 false [67, 68, 69, 70]
  (.op (some 67) (.fieldAddr 1 (.tmp 8)) false
  (.op (some 68) (.load false 1 (.tmp 67)) false
  (.op (some 69) (.move (.tmp 2)) false
  (.op (some 70) (.bin .gtr (.tmp 68) (.tmp 69)) false
  .nil)))) (.tmp 70)
  .nil)))))))))))))
  (.cond (.tmp 71) [] [6]
  (.seq (.region false (.op (some 6) (.move (.const (.bool false))) false
  .nil))
  .ret)
  .skip))))
  (.region false (.op (some 72) (.bin .add (.tmp 27) (.const (.int .i64 1))) false
  (.op (some 27) (.move (.tmp 72)) false
  .nil)))))))))
  (.seq (.region false (.op (some 73) (.mkFunc 28 [] [(.tmp 3)]) false
  (.op (some 9) (.move (.tmp 73)) false
  .nil)))
  (.seq (.region false (.op (some 74) (.move (.tmp 9)) false
  (.op (some 75) (.fieldAddr 2 (.tmp 3)) false
  (.op (some 76) (.load false 1 (.tmp 75)) false
  (.op (some 77) (.fieldAddr 3 (.tmp 3)) false
  (.op (some 78) (.load false 1 (.tmp 77)) false
  (.op (some 79) (.fieldAddr 4 (.tmp 3)) false
  (.op (some 80) (.load false 1 (.tmp 79)) false
  (.op (some 81) (.callV (.tmp 74) [(.tmp 76), (.tmp 78), (.tmp 80)]) false
  (.op (some 82) (.move (.tmp 81)) false
  (.sc 91 82 true [83, 84, 85, 86, 87, 88, 89, 90]
  (.op (some 83) (.move (.tmp 9)) false
  (.op (some 84) (.fieldAddr 5 (.tmp 3)) false
  (.op (some 85) (.load false 1 (.tmp 84)) false
  (.op (some 86) (.fieldAddr 6 (.tmp 3)) false
  (.op (some 87) (.load false 1 (.tmp 86)) false
  (.op (some 88) (.fieldAddr 7 (.tmp 3)) false
  (.op (some 89) (.load false 1 (.tmp 88)) false
  (.op (some 90) (.callV (.tmp 83) [(.tmp 85), (.tmp 87), (.tmp 89)]) false
  .nil)))))))) (.tmp 90)
  (.op (some 6) (.move (.tmp 91)) false
  .nil))))))))))))
  .ret))))),
 [.tmp 6]⟩
theorem ok7 : ∃ fn c, FunOk Try.prog 7 fn c A7 := ⟨Try.f7, _, ⟨Try.func7, rfl, by kernel_rfl, by kernel_rfl, by kernel_rfl, of_decide_eq_true (by kernel_rfl), by kernel_rfl⟩⟩
noncomputable def s7_L0 (Γ : Callee) (n : Nat) (x1 : Value) (x2 : Value) (h : AHeap) (v0 : Value) (v13 : Value) (v14 : Value) (j15 : List Value → AHeap → Rt) : (List Value → AHeap → Rt) → List Value → AHeap → Rt := fun c35 w36 h37 =>
 (binf .lss (nth w36 0) v14).bind fun v38 =>
 JL (fun w40 h41 =>
 JL (fun w43 h44 =>
 (binf .add (nth w36 0) ((.int .i64 1) : Value)).bind fun v45 =>
 c35 [v45, (nth w43 0), (nth w43 1), (nth w43 2), (nth w43 3), (nth w43 4), (nth w43 5), (nth w43 6), (nth w43 7), (nth w43 8), (nth w43 9), (nth w43 10), (nth w43 11), (nth w43 12), (nth w43 13), (nth w43 14), (nth w43 15), (nth w43 16), (nth w43 17), (nth w43 18), (nth w43 19), (nth w43 20), (nth w43 21), (nth w43 22), (nth w43 23), (nth w43 24), (nth w43 25), (nth w43 26), (nth w43 27)] h44) fun j42 =>
 (indexAddrf 2 v13 (nth w36 0)).bind fun v46 =>
 (loadf true 2 v46 h41).bind fun v47 =>
 fork (ptrTo h41.length 0) (h41 ++ [.cells [(.int .i64 0), (.int .i64 0)] 37 true]) fun v48 h49 =>
 (storef 2 v48 v47 h49).bind fun h50 =>
 (binf .eql (nth w36 0) ((.int .i64 0) : Value)).bind fun v51 =>
 J1 (fun v53 h54 =>
 J1 (fun v56 h57 =>
 J1 (fun v59 h60 =>
 J1 (fun v62 h63 =>
 J1 (fun v65 h66 =>
 JL (fun w68 h69 =>
 j42 [junk, junk, junk, junk, junk, junk, junk, junk, junk, junk, junk, junk, junk, junk, junk, junk, junk, junk, junk, junk, junk, junk, junk, junk, junk, junk, junk, junk] h69) fun j67 =>
 ifK v65 (
 fin h h66 [((.bool false) : Value)]) (
 j67 [] h66)) fun j64 =>
 scK v62 false (
 (fieldAddrf 1 v48).bind fun v70 =>
 (loadf false 1 v70 h63).bind fun v71 =>
 (binf .gtr v71 x2).bind fun v72 =>
 j64 v72 h63)
 (j64 (.bool true) h63)) fun j61 =>
 scK v59 false (
 (fieldAddrf 1 v48).bind fun v73 =>
 (loadf false 1 v73 h60).bind fun v74 =>
 (binf .lss v74 x1).bind fun v75 =>
 j61 v75 h60)
 (j61 (.bool true) h60)) fun j58 =>
 scK v56 false (
 (fieldAddrf 0 v48).bind fun v76 =>
 (loadf false 1 v76 h57).bind fun v77 =>
 (binf .gtr v77 ((.int .i64 9999) : Value)).bind fun v78 =>
 j58 v78 h57)
 (j58 (.bool true) h57)) fun j55 =>
 scK v53 false (
 (binf .gtr (nth w36 0) ((.int .i64 0) : Value)).bind fun v79 =>
 J1 (fun v81 h82 =>
 j55 v81 h82) fun j80 =>
 scK v79 true (
 (fieldAddrf 0 v48).bind fun v83 =>
 (loadf false 1 v83 h54).bind fun v84 =>
 (fieldAddrf 1 v0).bind fun v85 =>
 (loadf false 1 v85 h54).bind fun v86 =>
 (binf .sub (nth w36 0) ((.int .i64 1) : Value)).bind fun v87 =>
 (indexAddrf 2 v86 v87).bind fun v88 =>
 (fieldAddrf 0 v88).bind fun v89 =>
 (loadf false 1 v89 h54).bind fun v90 =>
 (binf .leq v84 v90).bind fun v91 =>
 j80 v91 h54)
 (j80 (.bool false) h54))
 (j55 (.bool true) h54)) fun j52 =>
 scK v51 true (
 (fieldAddrf 0 v48).bind fun v92 =>
 (loadf false 1 v92 h50).bind fun v93 =>
 (binf .neq v93 ((.int .i64 0) : Value)).bind fun v94 =>
 j52 v94 h50)
 (j52 (.bool false) h50)) fun j39 =>
 ifK v38 (
 j39 [] h37) (
 j15 [] h37)
noncomputable def s7 (Γ : Callee) (n : Nat) (x0 : Value) (x1 : Value) (x2 : Value) (h : AHeap) : Rt :=
 fork (ptrTo h.length 0) (h ++ [.cells (cellsL x0) 24 true]) fun v0 h1 =>
 (fieldAddrf 1 v0).bind fun v2 =>
 (loadf false 1 v2 h1).bind fun v3 =>
 (lenf false v3).bind fun v4 =>
 (binf .gtr v4 ((.int .i64 16) : Value)).bind fun v5 =>
 J1 (fun v7 h8 =>
 JL (fun w10 h11 =>
 (fieldAddrf 1 v0).bind fun v12 =>
 (loadf false 1 v12 h11).bind fun v13 =>
 (lenf false v13).bind fun v14 =>
 JL (fun w16 h17 =>
 (fieldAddrf 2 v0).bind fun v18 =>
 (loadf false 1 v18 h17).bind fun v19 =>
 (fieldAddrf 3 v0).bind fun v20 =>
 (loadf false 1 v20 h17).bind fun v21 =>
 (fieldAddrf 4 v0).bind fun v22 =>
 (loadf false 1 v22 h17).bind fun v23 =>
 (callVf Γ (Value.func (.func 28) (List.toArray []) (List.toArray [v0])) [v19, v21, v23] h17).bind fun p24 =>
 J1 (fun v26 h27 =>
 fin h h27 [v26]) fun j25 =>
 scK p24.1 true (
 (fieldAddrf 5 v0).bind fun v28 =>
 (loadf false 1 v28 p24.2).bind fun v29 =>
 (fieldAddrf 6 v0).bind fun v30 =>
 (loadf false 1 v30 p24.2).bind fun v31 =>
 (fieldAddrf 7 v0).bind fun v32 =>
 (loadf false 1 v32 p24.2).bind fun v33 =>
 (callVf Γ (Value.func (.func 28) (List.toArray []) (List.toArray [v0])) [v29, v31, v33] p24.2).bind fun p34 =>
 j25 p34.1 p34.2)
 (j25 (.bool false) p24.2)) fun j15 =>
 loopN (s7_L0 Γ n x1 x2 h v0 v13 v14 j15) n [((.int .i64 0) : Value), undef, undef, undef, undef, undef, undef, undef, undef, undef, undef, undef, undef, undef, undef, undef, undef, undef, undef, undef, undef, undef, undef, undef, undef, undef, undef, undef, undef] h11) fun j9 =>
 ifK v7 (
 fin h h8 [((.bool false) : Value)]) (
 j9 [] h8)) fun j6 =>
 scK v5 false (
 (fieldAddrf 0 v0).bind fun v95 =>
 (loadf false 1 v95 h1).bind fun v96 =>
 J1 (fun v98 h99 =>
 j6 v98 h99) fun j97 =>
 scK v96 true (
 (fieldAddrf 1 v0).bind fun v100 =>
 (loadf false 1 v100 h1).bind fun v101 =>
 (lenf false v101).bind fun v102 =>
 (binf .eql v102 ((.int .i64 0) : Value)).bind fun v103 =>
 j97 v103 h1)
 (j97 (.bool false) h1))
 (j6 (.bool true) h1)

theorem s7_eq (Γ : Callee) (n : Nat) (x0 : Value) (x1 : Value) (x2 : Value) (h : AHeap) : funK Γ n A7 [x0, x1, x2] h = s7 Γ n x0 x1 x2 h := by kernel_rfl


/-- orchestrion/orchestrionref04.ValidEnvelope -/
def A8 : AFun := ⟨3, 91,
 (.seq (.region false (.op (some 3) (.box 24 (.tmp 0)) false
  (.op (some 6) (.move (.const (.bool false))) false
  .nil)))
  (.seq (.region false (.op (some 10) (.fieldAddr 1 (.tmp 3)) false
  (.op (some 11) (.load false 1 (.tmp 10)) false
  (.op (some 12) (.len false (.tmp 11)) false
  (.op (some 7) (.move (.tmp 12)) false
  .nil)))))
  (.seq (.seq (.region false (.op (some 13) (.move (.tmp 7)) false
  (.op (some 14) (.bin .gtr (.tmp 13) (.const (.int .i64 16))) false
  (.op (some 15) (.move (.tmp 14)) false
  (.sc 22 15 false [16, 17, 18, 21, 19, 20]
  (.op (some 16) (.fieldAddr 0 (.tmp 3)) false
  (.op (some 17) (.load false 1 (.tmp 16)) false
  (.op (some 18) (.move (.tmp 17)) false
  (.sc 21 18 true [19, 20]
  (.op (some 19) (.move (.tmp 7)) false
  (.op (some 20) (.bin .eql (.tmp 19) (.const (.int .i64 0))) false
  .nil)) (.tmp 20)
  .nil)))) (.tmp 21)
  .nil)))))
  (.cond (.tmp 22) [] [6]
  (.seq (.region false (.op (some 6) (.move (.const (.bool false))) false
  .nil))
  .ret)
  .skip))
  (.seq (.seq (.region false (.op (some 8) (.move (.const (.int .i64 0))) false
  .nil))
  (.block 0 [] [6, 8, 9, 23, 24, 25, 26, 27, 28, 29, 30, 31, 32, 33, 34, 35, 36, 37, 38, 39, 40, 41, 42, 43, 44, 45, 46, 47, 48, 49, 50, 51, 52, 53, 54, 55, 56, 57, 58, 59, 60, 61, 62, 63, 64, 65, 66, 67, 68, 69, 70, 71, 72]
  (.loop [8, 36, 37, 38, 41, 42, 43, 44, 45, 46, 47, 48, 49, 50, 51, 52, 53, 54, 57, 58, 59, 62, 63, 64, 65, 68, 69, 70, 71] [6, 9, 23, 24, 25, 26, 27, 28, 29, 30, 31, 32, 33, 34, 35, 39, 40, 55, 56, 60, 61, 66, 67, 72]
  (.seq (.seq (.region false (.op (some 23) (.move (.tmp 8)) false
  (.op (some 24) (.move (.tmp 7)) false
  (.op (some 25) (.bin .lss (.tmp 23) (.tmp 24)) false
  .nil))))
  (.cond (.tmp 25) [] []
  .skip
  (.exit 0)))
  (.seq (.block 1 [36, 37, 38, 41, 42, 43, 44, 45, 46, 47, 48, 49, 50, 51, 52, 53, 54, 57, 58, 59, 62, 63, 64, 65, 68, 69, 70, 71] [6, 9, 28, 29, 30, 31, 32, 33, 34, 35, 39, 40, 55, 56, 60, 61, 66, 67, 72]
  (.seq (.region false (.op (some 28) (.fieldAddr 1 (.tmp 3)) false
  (.op (some 29) (.load false 1 (.tmp 28)) false
  (.op (some 30) (.move (.tmp 8)) false
  (.op (some 31) (.indexAddr 2 (.tmp 29) (.tmp 30)) false
  (.op (some 32) (.load true 2 (.tmp 31)) false
  (.op (some 9) (.new 37 [(.int .i64 0), (.int .i64 0)]) false
  (.op none (.store 2 (.tmp 9) (.tmp 32)) false
  .nil))))))))
  (.seq (.region true (.op (some 33) (.move (.tmp 8)) false
  (.op (some 34) (.bin .eql (.tmp 33) (.const (.int .i64 0))) false
  (.op (some 35) (.move (.tmp 34)) false
  (.sc 39 35 true [36, 37, 38]
  (.op (some 36) (.fieldAddr 0 (.tmp 9)) false
  (.op (some 37) (.load false 1 (.tmp 36)) false
  (.op (some 38) (.bin .neq (.tmp 37) (.const (.int .i64 0))) false
  .nil))) (.tmp 38)
  (.op (some 40) (.move (.tmp 39)) false
  (.sc 55 40 false [41, 42, 43, 54, 44, 45, 46, 47, 48, 49, 50, 51, 52, 53]
  (.op (some 41) (.move (.tmp 8)) false
  (.op (some 42) (.bin .gtr (.tmp 41) (.const (.int .i64 0))) false
  (.op (some 43) (.move (.tmp 42)) false
  (.sc 54 43 true [44, 45, 46, 47, 48, 49, 50, 51, 52, 53]
  (.op (some 44) (.fieldAddr 0 (.tmp 9)) false
  (.op (some 45) (.load false 1 (.tmp 44)) false
  (.op (some 46) (.fieldAddr 1 (.tmp 3)) false
  (.op (some 47) (.load false 1 (.tmp 46)) false
  (.op (some 48) (.move (.tmp 8)) false
  (.op (some 49) (.bin .sub (.tmp 48) (.const (.int .i64 1))) false
  (.op (some 50) (.indexAddr 2 (.tmp 47) (.tmp 49)) false
  (.op (some 51) (.fieldAddr 0 (.tmp 50)) false
  (.op (some 52) (.load false 1 (.tmp 51)) false
  (.op (some 53) (.bin .leq (.tmp 45) (.tmp 52)) false
  .nil)))))))))) (.tmp 53)
  .nil)))) (.tmp 54)
  (.op (some 56) (.move (.tmp 55)) false
  (.sc 60 56 false [57, 58, 59]
  (.op (some 57) (.fieldAddr 0 (.tmp 9)) false
  (.op (some 58) (.load false 1 (.tmp 57)) false
  (.op (some 59) (.bin .gtr (.tmp 58) (.const (.int .i64 9999))) false
  .nil))) (.tmp 59)
  (.op (some 61) (.move (.tmp 60)) false
  (.sc 66 61 false [62, 63, 64, 65]
  (.op (some 62) (.fieldAddr 1 (.tmp 9)) false
  (.op (some 63) (.load false 1 (.tmp 62)) false
  (.op (some 64) (.move (.tmp 1)) false
  (.op (some 65) (.bin .lss (.tmp 63) (.tmp 64)) false
  .nil)))) (.tmp 65)
  (.op (some 67) (.move (.tmp 66)) false
  (.sc 72 67 false [68, 69, 70, 71]
  (.op (some 68) (.fieldAddr 1 (.tmp 9)) false
  (.op (some 69) (.load false 1 (.tmp 68)) false
  (.op (some 70) (.move (.tmp 2)) false
  (.op (some 71) (.bin .gtr (.tmp 69) (.tmp 70)) false
  .nil)))) (.tmp 71)
  .nil)))))))))))))
  (.cond (.tmp 72) [] [6]
  (.seq (.region false (.op (some 6) (.move (.const (.bool false))) false
  .nil))
  .ret)
  .skip))))
  (.region false (.op (some 26) (.move (.tmp 8)) false
  (.op (some 27) (.bin .add (.tmp 26) (.const (.int .i64 1))) false
  (.op (some 8) (.move (.tmp 27)) false
  .nil)))))))))
  (.seq (.region false (.op (some 73) (.fieldAddr 2 (.tmp 3)) false
  (.op (some 74) (.load false 1 (.tmp 73)) false
  (.op (some 75) (.fieldAddr 3 (.tmp 3)) false
  (.op (some 76) (.load false 1 (.tmp 75)) false
  (.op (some 77) (.fieldAddr 4 (.tmp 3)) false
  (.op (some 78) (.load false 1 (.tmp 77)) false
  (.op (some 79) (.move (.tmp 7)) false
  (.op (some 80) (.call 29 [(.tmp 74), (.tmp 76), (.tmp 78), (.tmp 79)]) false
  (.op (some 81) (.move (.tmp 80)) false
  (.sc 90 81 true [82, 83, 84, 85, 86, 87, 88, 89]
  (.op (some 82) (.fieldAddr 5 (.tmp 3)) false
  (.op (some 83) (.load false 1 (.tmp 82)) false
  (.op (some 84) (.fieldAddr 6 (.tmp 3)) false
  (.op (some 85) (.load false 1 (.tmp 84)) false
  (.op (some 86) (.fieldAddr 7 (.tmp 3)) false
  (.op (some 87) (.load false 1 (.tmp 86)) false
  (.op (some 88) (.move (.tmp 7)) false
  (.op (some 89) (.call 29 [(.tmp 83), (.tmp 85), (.tmp 87), (.tmp 88)]) false
  .nil)))))))) (.tmp 89)
  (.op (some 6) (.move (.tmp 90)) false
  .nil))))))))))))
  .ret))))),
 [.tmp 6]⟩
theorem ok8 : ∃ fn c, FunOk Try.prog 8 fn c A8 := ⟨Try.f8, _, ⟨Try.func8, rfl, by kernel_rfl, by kernel_rfl, by kernel_rfl, of_decide_eq_true (by kernel_rfl), by kernel_rfl⟩⟩
noncomputable def s8_L0 (Γ : Callee) (n : Nat) (x1 : Value) (x2 : Value) (h : AHeap) (v0 : Value) (v4 : Value) (j12 : List Value → AHeap → Rt) : (List Value → AHeap → Rt) → List Value → AHeap → Rt := fun c32 w33 h34 =>
 (binf .lss (nth w33 0) v4).bind fun v35 =>
 JL (fun w37 h38 =>
 JL (fun w40 h41 =>
 (binf .add (nth w33 0) ((.int .i64 1) : Value)).bind fun v42 =>
 c32 [v42, (nth w40 0), (nth w40 1), (nth w40 2), (nth w40 3), (nth w40 4), (nth w40 5), (nth w40 6), (nth w40 7), (nth w40 8), (nth w40 9), (nth w40 10), (nth w40 11), (nth w40 12), (nth w40 13), (nth w40 14), (nth w40 15), (nth w40 16), (nth w40 17), (nth w40 18), (nth w40 19), (nth w40 20), (nth w40 21), (nth w40 22), (nth w40 23), (nth w40 24), (nth w40 25), (nth w40 26), (nth w40 27)] h41) fun j39 =>
 (fieldAddrf 1 v0).bind fun v43 =>
 (loadf false 1 v43 h38).bind fun v44 =>
 (indexAddrf 2 v44 (nth w33 0)).bind fun v45 =>
 (loadf true 2 v45 h38).bind fun v46 =>
 fork (ptrTo h38.length 0) (h38 ++ [.cells [(.int .i64 0), (.int .i64 0)] 37 true]) fun v47 h48 =>
 (storef 2 v47 v46 h48).bind fun h49 =>
 (binf .eql (nth w33 0) ((.int .i64 0) : Value)).bind fun v50 =>
 J1 (fun v52 h53 =>
 J1 (fun v55 h56 =>
 J1 (fun v58 h59 =>
 J1 (fun v61 h62 =>
 J1 (fun v64 h65 =>
 JL (fun w67 h68 =>
 j39 [junk, junk, junk, junk, junk, junk, junk, junk, junk, junk, junk, junk, junk, junk, junk, junk, junk, junk, junk, junk, junk, junk, junk, junk, junk, junk, junk, junk] h68) fun j66 =>
 ifK v64 (
 fin h h65 [((.bool false) : Value)]) (
 j66 [] h65)) fun j63 =>
 scK v61 false (
 (fieldAddrf 1 v47).bind fun v69 =>
 (loadf false 1 v69 h62).bind fun v70 =>
 (binf .gtr v70 x2).bind fun v71 =>
 j63 v71 h62)
 (j63 (.bool true) h62)) fun j60 =>
 scK v58 false (
 (fieldAddrf 1 v47).bind fun v72 =>
 (loadf false 1 v72 h59).bind fun v73 =>
 (binf .lss v73 x1).bind fun v74 =>
 j60 v74 h59)
 (j60 (.bool true) h59)) fun j57 =>
 scK v55 false (
 (fieldAddrf 0 v47).bind fun v75 =>
 (loadf false 1 v75 h56).bind fun v76 =>
 (binf .gtr v76 ((.int .i64 9999) : Value)).bind fun v77 =>
 j57 v77 h56)
 (j57 (.bool true) h56)) fun j54 =>
 scK v52 false (
 (binf .gtr (nth w33 0) ((.int .i64 0) : Value)).bind fun v78 =>
 J1 (fun v80 h81 =>
 j54 v80 h81) fun j79 =>
 scK v78 true (
 (fieldAddrf 0 v47).bind fun v82 =>
 (loadf false 1 v82 h53).bind fun v83 =>
 (fieldAddrf 1 v0).bind fun v84 =>
 (loadf false 1 v84 h53).bind fun v85 =>
 (binf .sub (nth w33 0) ((.int .i64 1) : Value)).bind fun v86 =>
 (indexAddrf 2 v85 v86).bind fun v87 =>
 (fieldAddrf 0 v87).bind fun v88 =>
 (loadf false 1 v88 h53).bind fun v89 =>
 (binf .leq v83 v89).bind fun v90 =>
 j79 v90 h53)
 (j79 (.bool false) h53))
 (j54 (.bool true) h53)) fun j51 =>
 scK v50 true (
 (fieldAddrf 0 v47).bind fun v91 =>
 (loadf false 1 v91 h49).bind fun v92 =>
 (binf .neq v92 ((.int .i64 0) : Value)).bind fun v93 =>
 j51 v93 h49)
 (j51 (.bool false) h49)) fun j36 =>
 ifK v35 (
 j36 [] h34) (
 j12 [] h34)
noncomputable def s8 (Γ : Callee) (n : Nat) (x0 : Value) (x1 : Value) (x2 : Value) (h : AHeap) : Rt :=
 fork (ptrTo h.length 0) (h ++ [.cells (cellsL x0) 24 true]) fun v0 h1 =>
 (fieldAddrf 1 v0).bind fun v2 =>
 (loadf false 1 v2 h1).bind fun v3 =>
 (lenf false v3).bind fun v4 =>
 (binf .gtr v4 ((.int .i64 16) : Value)).bind fun v5 =>
 J1 (fun v7 h8 =>
 JL (fun w10 h11 =>
 JL (fun w13 h14 =>
 (fieldAddrf 2 v0).bind fun v15 =>
 (loadf false 1 v15 h14).bind fun v16 =>
 (fieldAddrf 3 v0).bind fun v17 =>
 (loadf false 1 v17 h14).bind fun v18 =>
 (fieldAddrf 4 v0).bind fun v19 =>
 (loadf false 1 v19 h14).bind fun v20 =>
 (Γ 29 [v16, v18, v20, v4] h14).bind fun p21 =>
 J1 (fun v23 h24 =>
 fin h h24 [v23]) fun j22 =>
 scK p21.1 true (
 (fieldAddrf 5 v0).bind fun v25 =>
 (loadf false 1 v25 p21.2).bind fun v26 =>
 (fieldAddrf 6 v0).bind fun v27 =>
 (loadf false 1 v27 p21.2).bind fun v28 =>
 (fieldAddrf 7 v0).bind fun v29 =>
 (loadf false 1 v29 p21.2).bind fun v30 =>
 (Γ 29 [v26, v28, v30, v4] p21.2).bind fun p31 =>
 j22 p31.1 p31.2)
 (j22 (.bool false) p21.2)) fun j12 =>
 loopN (s8_L0 Γ n x1 x2 h v0 v4 j12) n [((.int .i64 0) : Value), undef, undef, undef, undef, undef, undef, undef, undef, undef, undef, undef, undef, undef, undef, undef, undef, undef, undef, undef, undef, undef, undef, undef, undef, undef, undef, undef, undef] h11) fun j9 =>
 ifK v7 (
 fin h h8 [((.bool false) : Value)]) (
 j9 [] h8)) fun j6 =>
 scK v5 false (
 (fieldAddrf 0 v0).bind fun v94 =>
 (loadf false 1 v94 h1).bind fun v95 =>
 J1 (fun v97 h98 =>
 j6 v97 h98) fun j96 =>
 scK v95 true (
 (binf .eql v4 ((.int .i64 0) : Value)).bind fun v99 =>
 j96 v99 h1)
 (j96 (.bool false) h1))
 (j6 (.bool true) h1)

theorem s8_eq (Γ : Callee) (n : Nat) (x0 : Value) (x1 : Value) (x2 : Value) (h : AHeap) : funK Γ n A8 [x0, x1, x2] h = s8 Γ n x0 x1 x2 h := by kernel_rfl


/-- orchestrion/inst.Value -/
def A9 : AFun := ⟨2, 64,
 (.seq (.region false (.op (some 2) (.box 24 (.tmp 0)) false
  (.op (some 3) (.box 3 (.tmp 1)) false
  (.op (some 4) (.move (.const (.int .i64 0))) false
  .nil))))
  (.seq (.seq (.region false (.op (some 8) (.load true 8 (.tmp 2)) false
  (.op (some 9) (.call 30 [(.tmp 8)]) false
  (.op (some 10) (.un .not (.tmp 9)) false
  .nil))))
  (.cond (.tmp 10) [] [4]
  (.seq (.region false (.op (some 4) (.move (.const (.int .i64 0))) false
  .nil))
  .ret)
  .skip))
  (.seq (.region false (.op (some 11) (.fieldAddr 1 (.tmp 2)) false
  (.op (some 12) (.load false 1 (.tmp 11)) false
  (.op (some 13) (.mkFunc 32 [] [(.tmp 3)]) false
  (.op (some 14) (.call 31 [(.tmp 12), (.tmp 13)]) false
  (.op (some 5) (.move (.tmp 14)) false
  .nil))))))
  (.seq (.seq (.region false (.op (some 15) (.move (.tmp 5)) false
  .nil))
  (.block 0 [] [4, 16, 17, 18, 19, 20, 21, 22, 23, 24, 25, 26, 27, 28, 29, 30, 31, 32, 33]
  (.seq (.region false (.op (some 17) (.bin .eql (.tmp 15) (.const (.int .i64 (-1)))) false
  (.op (some 16) (.move (.tmp 17)) false
  .nil)))
  (.cond (.tmp 16) [] [4, 18, 19, 20, 21, 22, 23, 24, 25, 26, 27, 28, 29, 30, 31, 32, 33]
  (.seq (.region false (.op (some 18) (.fieldAddr 1 (.tmp 2)) false
  (.op (some 19) (.load false 1 (.tmp 18)) false
  (.op (some 20) (.fieldAddr 1 (.tmp 2)) false
  (.op (some 21) (.load false 1 (.tmp 20)) false
  (.op (some 22) (.len false (.tmp 21)) false
  (.op (some 23) (.bin .sub (.tmp 22) (.const (.int .i64 1))) false
  (.op (some 24) (.indexAddr 2 (.tmp 19) (.tmp 23)) false
  (.op (some 25) (.fieldAddr 1 (.tmp 24)) false
  (.op (some 26) (.load false 1 (.tmp 25)) false
  (.op (some 4) (.move (.tmp 26)) false
  .nil)))))))))))
  .ret)
  (.seq (.region false (.op (some 28) (.bin .eql (.tmp 15) (.const (.int .i64 0))) false
  (.op (some 27) (.move (.tmp 28)) false
  .nil)))
  (.cond (.tmp 27) [] [4, 29, 30, 31, 32, 33]
  (.seq (.region false (.op (some 29) (.fieldAddr 1 (.tmp 2)) false
  (.op (some 30) (.load false 1 (.tmp 29)) false
  (.op (some 31) (.indexAddr 2 (.tmp 30) (.const (.int .i64 0))) false
  (.op (some 32) (.fieldAddr 1 (.tmp 31)) false
  (.op (some 33) (.load false 1 (.tmp 32)) false
  (.op (some 4) (.move (.tmp 33)) false
  .nil)))))))
  .ret)
  .skip))))))
  (.seq (.region true (.op (some 34) (.fieldAddr 1 (.tmp 2)) false
  (.op (some 35) (.load false 1 (.tmp 34)) false
  (.op (some 36) (.move (.tmp 5)) false
  (.op (some 37) (.bin .sub (.tmp 36) (.const (.int .i64 1))) false
  (.op (some 38) (.indexAddr 2 (.tmp 35) (.tmp 37)) false
  (.op (some 39) (.load true 2 (.tmp 38)) false
  (.op (some 40) (.fieldAddr 1 (.tmp 2)) false
  (.op (some 41) (.load false 1 (.tmp 40)) false
  (.op (some 42) (.move (.tmp 5)) false
  (.op (some 43) (.indexAddr 2 (.tmp 41) (.tmp 42)) false
  (.op (some 44) (.load true 2 (.tmp 43)) false
  (.op (some 6) (.new 37 [(.int .i64 0), (.int .i64 0)]) false
  (.op (some 7) (.new 37 [(.int .i64 0), (.int .i64 0)]) false
  (.op none (.store 2 (.tmp 6) (.tmp 39)) false
  (.op none (.store 2 (.tmp 7) (.tmp 44)) false
  .nil))))))))))))))))
  (.seq (.region true (.op (some 45) (.fieldAddr 1 (.tmp 6)) false
  (.op (some 46) (.load false 1 (.tmp 45)) false
  (.op (some 47) (.fieldAddr 1 (.tmp 7)) false
  (.op (some 48) (.load false 1 (.tmp 47)) false
  (.op (some 49) (.fieldAddr 1 (.tmp 6)) false
  (.op (some 50) (.load false 1 (.tmp 49)) false
  (.op (some 51) (.bin .sub (.tmp 48) (.tmp 50)) false
  (.op (some 52) (.load false 1 (.tmp 3)) false
  (.op (some 53) (.fieldAddr 0 (.tmp 6)) false
  (.op (some 54) (.load false 1 (.tmp 53)) false
  (.op (some 55) (.bin .sub (.tmp 52) (.tmp 54)) false
  (.op (some 56) (.bin .mul (.tmp 51) (.tmp 55)) false
  (.op (some 57) (.fieldAddr 0 (.tmp 7)) false
  (.op (some 58) (.load false 1 (.tmp 57)) false
  (.op (some 59) (.fieldAddr 0 (.tmp 6)) false
  (.op (some 60) (.load false 1 (.tmp 59)) false
  (.op (some 61) (.bin .sub (.tmp 58) (.tmp 60)) false
  (.op (some 62) (.call 33 [(.tmp 56), (.tmp 61)]) true
  (.op (some 63) (.bin .add (.tmp 46) (.tmp 62)) false
  (.op (some 4) (.move (.tmp 63)) false
  .nil)))))))))))))))))))))
  .ret)))))),
 [.tmp 4]⟩
theorem ok9 : ∃ fn c, FunOk Try.prog 9 fn c A9 := ⟨Try.f9, _, ⟨Try.func9, rfl, by kernel_rfl, by kernel_rfl, by kernel_rfl, of_decide_eq_true (by kernel_rfl), by kernel_rfl⟩⟩
noncomputable def s9 (Γ : Callee) (n : Nat) (x0 : Value) (x1 : Value) (h : AHeap) : Rt :=
 fork (ptrTo h.length 0) (h ++ [.cells (cellsL x0) 24 true]) fun v0 h1 =>
 fork (ptrTo h1.length 0) (h1 ++ [.cells (cellsL x1) 3 true]) fun v2 h3 =>
 (loadf true 8 v0 h3).bind fun v4 =>
 (Γ 30 [v4] h3).bind fun p5 =>
 (unf .not p5.1).bind fun v6 =>
 JL (fun w8 h9 =>
 (fieldAddrf 1 v0).bind fun v10 =>
 (loadf false 1 v10 h9).bind fun v11 =>
 (Γ 31 [v11, (Value.func (.func 32) (List.toArray []) (List.toArray [v2]))] h9).bind fun p12 =>
 JL (fun w14 h15 =>
 (fieldAddrf 1 v0).bind fun v16 =>
 (loadf false 1 v16 h15).bind fun v17 =>
 (binf .sub p12.1 ((.int .i64 1) : Value)).bind fun v18 =>
 (indexAddrf 2 v17 v18).bind fun v19 =>
 (loadf true 2 v19 h15).bind fun v20 =>
 (fieldAddrf 1 v0).bind fun v21 =>
 (loadf false 1 v21 h15).bind fun v22 =>
 (indexAddrf 2 v22 p12.1).bind fun v23 =>
 (loadf true 2 v23 h15).bind fun v24 =>
 fork (ptrTo h15.length 0) (h15 ++ [.cells [(.int .i64 0), (.int .i64 0)] 37 true]) fun v25 h26 =>
 fork (ptrTo h26.length 0) (h26 ++ [.cells [(.int .i64 0), (.int .i64 0)] 37 true]) fun v27 h28 =>
 (storef 2 v25 v20 h28).bind fun h29 =>
 (storef 2 v27 v24 h29).bind fun h30 =>
 (fieldAddrf 1 v25).bind fun v31 =>
 (loadf false 1 v31 h30).bind fun v32 =>
 (fieldAddrf 1 v27).bind fun v33 =>
 (loadf false 1 v33 h30).bind fun v34 =>
 (fieldAddrf 1 v25).bind fun v35 =>
 (loadf false 1 v35 h30).bind fun v36 =>
 (binf .sub v34 v36).bind fun v37 =>
 (loadf false 1 v2 h30).bind fun v38 =>
 (fieldAddrf 0 v25).bind fun v39 =>
 (loadf false 1 v39 h30).bind fun v40 =>
 (binf .sub v38 v40).bind fun v41 =>
 (binf .mul v37 v41).bind fun v42 =>
 (fieldAddrf 0 v27).bind fun v43 =>
 (loadf false 1 v43 h30).bind fun v44 =>
 (fieldAddrf 0 v25).bind fun v45 =>
 (loadf false 1 v45 h30).bind fun v46 =>
 (binf .sub v44 v46).bind fun v47 =>
 (Γ 33 [v42, v47] h30).bind fun p48 =>
 sameQ h30 p48.2 (
 (binf .add v32 p48.1).bind fun v49 =>
 fin h p48.2 [v49])) fun j13 =>
 (binf .eql p12.1 ((.int .i64 (-1)) : Value)).bind fun v50 =>
 JL (fun w52 h53 =>
 j13 [] h53) fun j51 =>
 ifK v50 (
 (fieldAddrf 1 v0).bind fun v54 =>
 (loadf false 1 v54 p12.2).bind fun v55 =>
 (fieldAddrf 1 v0).bind fun v56 =>
 (loadf false 1 v56 p12.2).bind fun v57 =>
 (lenf false v57).bind fun v58 =>
 (binf .sub v58 ((.int .i64 1) : Value)).bind fun v59 =>
 (indexAddrf 2 v55 v59).bind fun v60 =>
 (fieldAddrf 1 v60).bind fun v61 =>
 (loadf false 1 v61 p12.2).bind fun v62 =>
 fin h p12.2 [v62]) (
 (binf .eql p12.1 ((.int .i64 0) : Value)).bind fun v63 =>
 JL (fun w65 h66 =>
 j51 [] h66) fun j64 =>
 ifK v63 (
 (fieldAddrf 1 v0).bind fun v67 =>
 (loadf false 1 v67 p12.2).bind fun v68 =>
 (indexAddrf 2 v68 ((.int .i64 0) : Value)).bind fun v69 =>
 (fieldAddrf 1 v69).bind fun v70 =>
 (loadf false 1 v70 p12.2).bind fun v71 =>
 fin h p12.2 [v71]) (
 j64 [] p12.2))) fun j7 =>
 ifK v6 (
 fin h p5.2 [((.int .i64 0) : Value)]) (
 j7 [] p5.2)

theorem s9_eq (Γ : Callee) (n : Nat) (x0 : Value) (x1 : Value) (h : AHeap) : funK Γ n A9 [x0, x1] h = s9 Γ n x0 x1 h := by kernel_rfl


/-- orchestrion/orchestrionref04.Value -/
def A10 : AFun := ⟨2, 66,
 (.seq (.region false (.op (some 2) (.box 24 (.tmp 0)) false
  (.op (some 4) (.move (.const (.int .i64 0))) false
  .nil)))
  (.seq (.seq (.region false (.op (some 8) (.load true 8 (.tmp 2)) false
  (.op (some 9) (.call 34 [(.tmp 8)]) false
  (.op (some 10) (.un .not (.tmp 9)) false
  .nil))))
  (.cond (.tmp 10) [] [4]
  (.seq (.region false (.op (some 4) (.move (.const (.int .i64 0))) false
  .nil))
  .ret)
  .skip))
  (.seq (.seq (.region false (.op (some 11) (.fieldAddr 1 (.tmp 2)) false
  (.op (some 12) (.load false 1 (.tmp 11)) false
  (.op (some 13) (.len false (.tmp 12)) false
  (.op (some 14) (.bin .sub (.tmp 13) (.const (.int .i64 1))) false
  (.op (some 5) (.move (.tmp 14)) false
  .nil))))))
  (.block 0 [] [4, 5, 6, 7, 15, 16, 17, 18, 19, 20, 21, 22, 23, 24, 25, 26, 27, 28, 29, 30, 31, 32, 33, 34, 35, 36, 37, 38, 39, 40, 41, 42, 43, 44, 45, 46, 47, 48, 49, 50, 51, 52, 53, 54, 55, 56, 57, 58, 59, 60]
  (.loop [5] [4, 6, 7, 15, 16, 17, 18, 19, 20, 21, 22, 23, 24, 25, 26, 27, 28, 29, 30, 31, 32, 33, 34, 35, 36, 37, 38, 39, 40, 41, 42, 43, 44, 45, 46, 47, 48, 49, 50, 51, 52, 53, 54, 55, 56, 57, 58, 59, 60]
  (.seq (.seq (.region false (.op (some 15) (.move (.tmp 5)) false
  (.op (some 16) (.bin .geq (.tmp 15) (.const (.int .i64 0))) false
  .nil)))
  (.cond (.tmp 16) [] []
  .skip
  (.exit 0)))
  (.seq (.block 1 [] [4, 6, 7, 19, 20, 21, 22, 23, 24, 25, 26, 27, 28, 29, 30, 31, 32, 33, 34, 35, 36, 37, 38, 39, 40, 41, 42, 43, 44, 45, 46, 47, 48, 49, 50, 51, 52, 53, 54, 55, 56, 57, 58, 59, 60]
  (.seq (.region false (.op (some 19) (.fieldAddr 1 (.tmp 2)) false
  (.op (some 20) (.load false 1 (.tmp 19)) false
  (.op (some 21) (.move (.tmp 5)) false
  (.op (some 22) (.indexAddr 2 (.tmp 20) (.tmp 21)) false
  (.op (some 23) (.load true 2 (.tmp 22)) false
  (.op (some 6) (.new 37 [(.int .i64 0), (.int .i64 0)]) false
  (.op none (.store 2 (.tmp 6) (.tmp 23)) false
  .nil))))))))
  (.seq (.seq (.region false (.op (some 24) (.move (.tmp 1)) false
  (.op (some 25) (.fieldAddr 0 (.tmp 6)) false
  (.op (some 26) (.load false 1 (.tmp 25)) false
  (.op (some 27) (.bin .lss (.tmp 24) (.tmp 26)) false
  .nil)))))
  (.cond (.tmp 27) [] []
  (.exit 1)
  .skip))
  (.seq (.seq (.region false (.op (some 28) (.move (.tmp 5)) false
  (.op (some 29) (.bin .add (.tmp 28) (.const (.int .i64 1))) false
  (.op (some 30) (.fieldAddr 1 (.tmp 2)) false
  (.op (some 31) (.load false 1 (.tmp 30)) false
  (.op (some 32) (.len false (.tmp 31)) false
  (.op (some 33) (.bin .eql (.tmp 29) (.tmp 32)) false
  .nil)))))))
  (.cond (.tmp 33) [] [4, 34, 35]
  (.seq (.region false (.op (some 34) (.fieldAddr 1 (.tmp 6)) false
  (.op (some 35) (.load false 1 (.tmp 34)) false
  (.op (some 4) (.move (.tmp 35)) false
  .nil))))
  .ret)
  .skip))
  (.seq (.region false (.op (some 36) (.fieldAddr 1 (.tmp 2)) false
  (.op (some 37) (.load false 1 (.tmp 36)) false
  (.op (some 38) (.move (.tmp 5)) false
  (.op (some 39) (.bin .add (.tmp 38) (.const (.int .i64 1))) false
  (.op (some 40) (.indexAddr 2 (.tmp 37) (.tmp 39)) false
  (.op (some 41) (.load true 2 (.tmp 40)) false
  (.op (some 7) (.new 37 [(.int .i64 0), (.int .i64 0)]) false
  (.op none (.store 2 (.tmp 7) (.tmp 41)) false
  .nil)))))))))
  (.seq (.region true (.op (some 42) (.fieldAddr 1 (.tmp 6)) false
  (.op (some 43) (.load false 1 (.tmp 42)) false
  (.op (some 44) (.fieldAddr 1 (.tmp 7)) false
  (.op (some 45) (.load false 1 (.tmp 44)) false
  (.op (some 46) (.fieldAddr 1 (.tmp 6)) false
  (.op (some 47) (.load false 1 (.tmp 46)) false
  (.op (some 48) (.bin .sub (.tmp 45) (.tmp 47)) false
  (.op (some 49) (.move (.tmp 1)) false
  (.op (some 50) (.fieldAddr 0 (.tmp 6)) false
  (.op (some 51) (.load false 1 (.tmp 50)) false
  (.op (some 52) (.bin .sub (.tmp 49) (.tmp 51)) false
  (.op (some 53) (.bin .mul (.tmp 48) (.tmp 52)) false
  (.op (some 54) (.fieldAddr 0 (.tmp 7)) false
  (.op (some 55) (.load false 1 (.tmp 54)) false
  (.op (some 56) (.fieldAddr 0 (.tmp 6)) false
  (.op (some 57) (.load false 1 (.tmp 56)) false
  (.op (some 58) (.bin .sub (.tmp 55) (.tmp 57)) false
  (.op (some 59) (.call 35 [(.tmp 53), (.tmp 58)]) true
  (.op (some 60) (.bin .add (.tmp 43) (.tmp 59)) false
  (.op (some 4) (.move (.tmp 60)) false
  .nil)))))))))))))))))))))
  .ret))))))
  (.region false (.op (some 17) (.move (.tmp 5)) false
  (.op (some 18) (.bin .sub (.tmp 17) (.const (.int .i64 1))) false
  (.op (some 5) (.move (.tmp 18)) false
  .nil)))))))))
  (.seq (.region false (.op (some 61) (.fieldAddr 1 (.tmp 2)) false
  (.op (some 62) (.load false 1 (.tmp 61)) false
  (.op (some 63) (.indexAddr 2 (.tmp 62) (.const (.int .i64 0))) false
  (.op (some 64) (.fieldAddr 1 (.tmp 63)) false
  (.op (some 65) (.load false 1 (.tmp 64)) false
  (.op (some 4) (.move (.tmp 65)) false
  .nil)))))))
  .ret)))),
 [.tmp 4]⟩
theorem ok10 : ∃ fn c, FunOk Try.prog 10 fn c A10 := ⟨Try.f10, _, ⟨Try.func10, rfl, by kernel_rfl, by kernel_rfl, by kernel_rfl, of_decide_eq_true (by kernel_rfl), by kernel_rfl⟩⟩
noncomputable def s10_L0 (Γ : Callee) (n : Nat) (x1 : Value) (h : AHeap) (v0 : Value) (j12 : List Value → AHeap → Rt) : (List Value → AHeap → Rt) → List Value → AHeap → Rt := fun c20 w21 h22 =>
 (binf .geq (nth w21 0) ((.int .i64 0) : Value)).bind fun v23 =>
 JL (fun w25 h26 =>
 JL (fun w28 h29 =>
 (binf .sub (nth w21 0) ((.int .i64 1) : Value)).bind fun v30 =>
 c20 [v30] h29) fun j27 =>
 (fieldAddrf 1 v0).bind fun v31 =>
 (loadf false 1 v31 h26).bind fun v32 =>
 (indexAddrf 2 v32 (nth w21 0)).bind fun v33 =>
 (loadf true 2 v33 h26).bind fun v34 =>
 fork (ptrTo h26.length 0) (h26 ++ [.cells [(.int .i64 0), (.int .i64 0)] 37 true]) fun v35 h36 =>
 (storef 2 v35 v34 h36).bind fun h37 =>
 (fieldAddrf 0 v35).bind fun v38 =>
 (loadf false 1 v38 h37).bind fun v39 =>
 (binf .lss x1 v39).bind fun v40 =>
 JL (fun w42 h43 =>
 (binf .add (nth w21 0) ((.int .i64 1) : Value)).bind fun v44 =>
 (fieldAddrf 1 v0).bind fun v45 =>
 (loadf false 1 v45 h43).bind fun v46 =>
 (lenf false v46).bind fun v47 =>
 (binf .eql v44 v47).bind fun v48 =>
 JL (fun w50 h51 =>
 (fieldAddrf 1 v0).bind fun v52 =>
 (loadf false 1 v52 h51).bind fun v53 =>
 (binf .add (nth w21 0) ((.int .i64 1) : Value)).bind fun v54 =>
 (indexAddrf 2 v53 v54).bind fun v55 =>
 (loadf true 2 v55 h51).bind fun v56 =>
 fork (ptrTo h51.length 0) (h51 ++ [.cells [(.int .i64 0), (.int .i64 0)] 37 true]) fun v57 h58 =>
 (storef 2 v57 v56 h58).bind fun h59 =>
 (fieldAddrf 1 v35).bind fun v60 =>
 (loadf false 1 v60 h59).bind fun v61 =>
 (fieldAddrf 1 v57).bind fun v62 =>
 (loadf false 1 v62 h59).bind fun v63 =>
 (fieldAddrf 1 v35).bind fun v64 =>
 (loadf false 1 v64 h59).bind fun v65 =>
 (binf .sub v63 v65).bind fun v66 =>
 (fieldAddrf 0 v35).bind fun v67 =>
 (loadf false 1 v67 h59).bind fun v68 =>
 (binf .sub x1 v68).bind fun v69 =>
 (binf .mul v66 v69).bind fun v70 =>
 (fieldAddrf 0 v57).bind fun v71 =>
 (loadf false 1 v71 h59).bind fun v72 =>
 (fieldAddrf 0 v35).bind fun v73 =>
 (loadf false 1 v73 h59).bind fun v74 =>
 (binf .sub v72 v74).bind fun v75 =>
 (Γ 35 [v70, v75] h59).bind fun p76 =>
 sameQ h59 p76.2 (
 (binf .add v61 p76.1).bind fun v77 =>
 fin h p76.2 [v77])) fun j49 =>
 ifK v48 (
 (fieldAddrf 1 v35).bind fun v78 =>
 (loadf false 1 v78 h43).bind fun v79 =>
 fin h h43 [v79]) (
 j49 [] h43)) fun j41 =>
 ifK v40 (
 j27 [] h37) (
 j41 [] h37)) fun j24 =>
 ifK v23 (
 j24 [] h22) (
 j12 [] h22)
noncomputable def s10 (Γ : Callee) (n : Nat) (x0 : Value) (x1 : Value) (h : AHeap) : Rt :=
 fork (ptrTo h.length 0) (h ++ [.cells (cellsL x0) 24 true]) fun v0 h1 =>
 (loadf true 8 v0 h1).bind fun v2 =>
 (Γ 34 [v2] h1).bind fun p3 =>
 (unf .not p3.1).bind fun v4 =>
 JL (fun w6 h7 =>
 (fieldAddrf 1 v0).bind fun v8 =>
 (loadf false 1 v8 h7).bind fun v9 =>
 (lenf false v9).bind fun v10 =>
 (binf .sub v10 ((.int .i64 1) : Value)).bind fun v11 =>
 JL (fun w13 h14 =>
 (fieldAddrf 1 v0).bind fun v15 =>
 (loadf false 1 v15 h14).bind fun v16 =>
 (indexAddrf 2 v16 ((.int .i64 0) : Value)).bind fun v17 =>
 (fieldAddrf 1 v17).bind fun v18 =>
 (loadf false 1 v18 h14).bind fun v19 =>
 fin h h14 [v19]) fun j12 =>
 loopN (s10_L0 Γ n x1 h v0 j12) n [v11] h7) fun j5 =>
 ifK v4 (
 fin h p3.2 [((.int .i64 0) : Value)]) (
 j5 [] p3.2)

theorem s10_eq (Γ : Callee) (n : Nat) (x0 : Value) (x1 : Value) (h : AHeap) : funK Γ n A10 [x0, x1] h = s10 Γ n x0 x1 h := by kernel_rfl


/-- orchestrion/inst.After -/
def A11 : AFun := ⟨3, 16,
 (.seq (.region false (.op (some 3) (.box 24 (.tmp 0)) false
  (.op (some 6) (.move (.const (.int .i64 0))) false
  .nil)))
  (.seq (.seq (.region false (.op (some 7) (.load true 8 (.tmp 3)) false
  (.op (some 8) (.call 30 [(.tmp 7)]) false
  (.op (some 9) (.un .not (.tmp 8)) false
  .nil))))
  (.cond (.tmp 9) [] [6]
  (.seq (.region false (.op (some 6) (.move (.const (.int .i64 0))) false
  .nil))
  .ret)
  .skip))
  (.seq (.region false (.op (some 10) (.load true 8 (.tmp 3)) false
  (.op (some 11) (.move (.tmp 2)) false
  (.op (some 12) (.call 36 [(.tmp 10), (.tmp 11)]) false
  (.op (some 13) (.move (.tmp 1)) false
  (.op (some 14) (.max [(.const (.int .i64 0)), (.tmp 13)]) false
  (.op (some 15) (.call 37 [(.tmp 12), (.tmp 14)]) false
  (.op (some 6) (.move (.tmp 15)) false
  .nil))))))))
  .ret))),
 [.tmp 6]⟩
theorem ok11 : ∃ fn c, FunOk Try.prog 11 fn c A11 := ⟨Try.f11, _, ⟨Try.func11, rfl, by kernel_rfl, by kernel_rfl, by kernel_rfl, of_decide_eq_true (by kernel_rfl), by kernel_rfl⟩⟩
noncomputable def s11 (Γ : Callee) (n : Nat) (x0 : Value) (x1 : Value) (x2 : Value) (h : AHeap) : Rt :=
 fork (ptrTo h.length 0) (h ++ [.cells (cellsL x0) 24 true]) fun v0 h1 =>
 (loadf true 8 v0 h1).bind fun v2 =>
 (Γ 30 [v2] h1).bind fun p3 =>
 (unf .not p3.1).bind fun v4 =>
 JL (fun w6 h7 =>
 (loadf true 8 v0 h7).bind fun v8 =>
 (Γ 36 [v8, x2] h7).bind fun p9 =>
 (fold1f max2f [((.int .i64 0) : Value), x1]).bind fun v10 =>
 (Γ 37 [p9.1, v10] p9.2).bind fun p11 =>
 fin h p11.2 [p11.1]) fun j5 =>
 ifK v4 (
 fin h p3.2 [((.int .i64 0) : Value)]) (
 j5 [] p3.2)

theorem s11_eq (Γ : Callee) (n : Nat) (x0 : Value) (x1 : Value) (x2 : Value) (h : AHeap) : funK Γ n A11 [x0, x1, x2] h = s11 Γ n x0 x1 x2 h := by kernel_rfl


/-- orchestrion/orchestrionref04.After -/
def A12 : AFun := ⟨3, 43,
 (.seq (.region false (.op (some 3) (.box 24 (.tmp 0)) false
  (.op (some 6) (.move (.const (.int .i64 0))) false
  .nil)))
  (.seq (.seq (.region false (.op (some 10) (.load true 8 (.tmp 3)) false
  (.op (some 11) (.call 34 [(.tmp 10)]) false
  (.op (some 12) (.un .not (.tmp 11)) false
  .nil))))
  (.cond (.tmp 12) [] [6]
  (.seq (.region false (.op (some 6) (.move (.const (.int .i64 0))) false
  .nil))
  .ret)
  .skip))
  (.seq (.region false (.op (some 13) (.move (.tmp 1)) false
  (.op (some 14) (.max [(.tmp 13), (.const (.int .i64 0))]) false
  (.op (some 1) (.move (.tmp 14)) false
  .nil))))
  (.seq (.region false (.op (some 16) (.load true 8 (.tmp 3)) false
  (.op (some 17) (.move (.tmp 2)) false
  (.op (some 18) (.call 38 [(.tmp 16), (.tmp 17)]) false
  (.op (some 15) (.move (.tmp 18)) false
  (.op (some 19) (.extract (.tmp 15) 0) false
  (.op (some 20) (.extract (.tmp 15) 1) false
  (.op (some 21) (.extract (.tmp 15) 2) false
  (.op (some 7) (.move (.tmp 19)) false
  (.op (some 8) (.move (.tmp 20)) false
  (.op (some 9) (.move (.tmp 21)) false
  .nil)))))))))))
  (.seq (.block 0 [] [6, 22, 23, 24, 25, 26, 27, 28, 29, 30, 31, 32, 33, 34, 35, 36, 37, 38, 39, 40]
  (.seq (.region false (.op (some 23) (.move (.tmp 9)) false
  (.op (some 24) (.move (.tmp 23)) false
  (.sc 28 24 true [25, 26, 27]
  (.op (some 25) (.move (.tmp 1)) false
  (.op (some 26) (.move (.tmp 8)) false
  (.op (some 27) (.bin .geq (.tmp 25) (.tmp 26)) false
  .nil))) (.tmp 27)
  (.op (some 22) (.move (.tmp 28)) false
  .nil)))))
  (.cond (.tmp 22) [] [6, 29, 30, 31, 32, 33, 34, 35, 36, 37, 38, 39, 40]
  (.seq (.region false (.op (some 29) (.move (.tmp 7)) false
  (.op (some 6) (.move (.tmp 29)) false
  .nil)))
  .ret)
  (.seq (.region false (.op (some 31) (.move (.tmp 9)) false
  (.op (some 30) (.move (.tmp 31)) false
  .nil)))
  (.cond (.tmp 30) [] [6, 32, 33, 34, 35, 36, 37, 38, 39, 40]
  (.seq (.region false (.op (some 32) (.move (.tmp 1)) false
  (.op (some 33) (.bin .add (.tmp 32) (.const (.int .i64 1))) false
  (.op (some 6) (.move (.tmp 33)) false
  .nil))))
  .ret)
  (.seq (.region false (.op (some 35) (.move (.tmp 1)) false
  (.op (some 36) (.load true 8 (.tmp 3)) false
  (.op (some 37) (.call 39 [(.tmp 36)]) false
  (.op (some 38) (.bin .geq (.tmp 35) (.tmp 37)) false
  (.op (some 34) (.move (.tmp 38)) false
  .nil))))))
  (.cond (.tmp 34) [] [6, 39, 40]
  (.seq (.region false (.op (some 39) (.load true 8 (.tmp 3)) false
  (.op (some 40) (.call 39 [(.tmp 39)]) false
  (.op (some 6) (.move (.tmp 40)) false
  .nil))))
  .ret)
  .skip)))))))
  (.seq (.region false (.op (some 41) (.move (.tmp 1)) false
  (.op (some 42) (.bin .add (.tmp 41) (.const (.int .i64 1))) false
  (.op (some 6) (.move (.tmp 42)) false
  .nil))))
  .ret)))))),
 [.tmp 6]⟩
theorem ok12 : ∃ fn c, FunOk Try.prog 12 fn c A12 := ⟨Try.f12, _, ⟨Try.func12, rfl, by kernel_rfl, by kernel_rfl, by kernel_rfl, of_decide_eq_true (by kernel_rfl), by kernel_rfl⟩⟩
noncomputable def s12 (Γ : Callee) (n : Nat) (x0 : Value) (x1 : Value) (x2 : Value) (h : AHeap) : Rt :=
 fork (ptrTo h.length 0) (h ++ [.cells (cellsL x0) 24 true]) fun v0 h1 =>
 (loadf true 8 v0 h1).bind fun v2 =>
 (Γ 34 [v2] h1).bind fun p3 =>
 (unf .not p3.1).bind fun v4 =>
 JL (fun w6 h7 =>
 (fold1f max2f [x1, ((.int .i64 0) : Value)]).bind fun v8 =>
 (loadf true 8 v0 h7).bind fun v9 =>
 (Γ 38 [v9, x2] h7).bind fun p10 =>
 (extractf p10.1 0).bind fun v11 =>
 (extractf p10.1 1).bind fun v12 =>
 (extractf p10.1 2).bind fun v13 =>
 JL (fun w15 h16 =>
 (binf .add v8 ((.int .i64 1) : Value)).bind fun v17 =>
 fin h h16 [v17]) fun j14 =>
 J1 (fun v19 h20 =>
 JL (fun w22 h23 =>
 j14 [] h23) fun j21 =>
 ifK v19 (
 fin h h20 [v11]) (
 JL (fun w25 h26 =>
 j21 [] h26) fun j24 =>
 ifK v13 (
 (binf .add v8 ((.int .i64 1) : Value)).bind fun v27 =>
 fin h h20 [v27]) (
 (loadf true 8 v0 h20).bind fun v28 =>
 (Γ 39 [v28] h20).bind fun p29 =>
 (binf .geq v8 p29.1).bind fun v30 =>
 JL (fun w32 h33 =>
 j24 [] h33) fun j31 =>
 ifK v30 (
 (loadf true 8 v0 p29.2).bind fun v34 =>
 (Γ 39 [v34] p29.2).bind fun p35 =>
 fin h p35.2 [p35.1]) (
 j31 [] p29.2)))) fun j18 =>
 scK v13 true (
 (binf .geq v8 v12).bind fun v36 =>
 j18 v36 p10.2)
 (j18 (.bool false) p10.2)) fun j5 =>
 ifK v4 (
 fin h p3.2 [((.int .i64 0) : Value)]) (
 j5 [] p3.2)

theorem s12_eq (Γ : Callee) (n : Nat) (x0 : Value) (x1 : Value) (x2 : Value) (h : AHeap) : funK Γ n A12 [x0, x1, x2] h = s12 Γ n x0 x1 x2 h := by kernel_rfl


/-- orchestrion/inst.Over -/
def A13 : AFun := ⟨3, 23,
 (.seq (.region false (.op (some 3) (.box 24 (.tmp 0)) false
  (.op (some 6) (.move (.const (.bool false))) false
  .nil)))
  (.seq (.seq (.region false (.op (some 8) (.load true 8 (.tmp 3)) false
  (.op (some 9) (.call 30 [(.tmp 8)]) false
  (.op (some 10) (.un .not (.tmp 9)) false
  .nil))))
  (.cond (.tmp 10) [] [6]
  (.seq (.region false (.op (some 6) (.move (.const (.bool false))) false
  .nil))
  .ret)
  .skip))
  (.seq (.region false (.op (some 11) (.load true 8 (.tmp 3)) false
  (.op (some 12) (.move (.tmp 2)) false
  (.op (some 13) (.call 36 [(.tmp 11), (.tmp 12)]) false
  (.op (some 7) (.new 64 [(.int .i64 0), (.int .i64 0), (.bool false), (.int .i64 0)]) false
  (.op none (.store 4 (.tmp 7) (.tmp 13)) false
  .nil))))))
  (.seq (.region false (.op (some 14) (.fieldAddr 2 (.tmp 7)) false
  (.op (some 15) (.load false 1 (.tmp 14)) false
  (.op (some 16) (.un .not (.tmp 15)) false
  (.op (some 17) (.move (.tmp 16)) false
  (.sc 22 17 true [18, 19, 20, 21]
  (.op (some 18) (.move (.tmp 1)) false
  (.op (some 19) (.fieldAddr 3 (.tmp 7)) false
  (.op (some 20) (.load false 1 (.tmp 19)) false
  (.op (some 21) (.bin .geq (.tmp 18) (.tmp 20)) false
  .nil)))) (.tmp 21)
  (.op (some 6) (.move (.tmp 22)) false
  .nil)))))))
  .ret)))),
 [.tmp 6]⟩
theorem ok13 : ∃ fn c, FunOk Try.prog 13 fn c A13 := ⟨Try.f13, _, ⟨Try.func13, rfl, by kernel_rfl, by kernel_rfl, by kernel_rfl, of_decide_eq_true (by kernel_rfl), by kernel_rfl⟩⟩
noncomputable def s13 (Γ : Callee) (n : Nat) (x0 : Value) (x1 : Value) (x2 : Value) (h : AHeap) : Rt :=
 fork (ptrTo h.length 0) (h ++ [.cells (cellsL x0) 24 true]) fun v0 h1 =>
 (loadf true 8 v0 h1).bind fun v2 =>
 (Γ 30 [v2] h1).bind fun p3 =>
 (unf .not p3.1).bind fun v4 =>
 JL (fun w6 h7 =>
 (loadf true 8 v0 h7).bind fun v8 =>
 (Γ 36 [v8, x2] h7).bind fun p9 =>
 fork (ptrTo p9.2.length 0) (p9.2 ++ [.cells [(.int .i64 0), (.int .i64 0), (.bool false), (.int .i64 0)] 64 true]) fun v10 h11 =>
 (storef 4 v10 p9.1 h11).bind fun h12 =>
 (fieldAddrf 2 v10).bind fun v13 =>
 (loadf false 1 v13 h12).bind fun v14 =>
 (unf .not v14).bind fun v15 =>
 J1 (fun v17 h18 =>
 fin h h18 [v17]) fun j16 =>
 scK v15 true (
 (fieldAddrf 3 v10).bind fun v19 =>
 (loadf false 1 v19 h12).bind fun v20 =>
 (binf .geq x1 v20).bind fun v21 =>
 j16 v21 h12)
 (j16 (.bool false) h12)) fun j5 =>
 ifK v4 (
 fin h p3.2 [((.bool false) : Value)]) (
 j5 [] p3.2)

theorem s13_eq (Γ : Callee) (n : Nat) (x0 : Value) (x1 : Value) (x2 : Value) (h : AHeap) : funK Γ n A13 [x0, x1, x2] h = s13 Γ n x0 x1 x2 h := by kernel_rfl


/-- orchestrion/orchestrionref04.Over -/
def A14 : AFun := ⟨3, 28,
 (.seq (.region false (.op (some 3) (.box 24 (.tmp 0)) false
  (.op (some 6) (.move (.const (.bool false))) false
  .nil)))
  (.seq (.seq (.region false (.op (some 10) (.load true 8 (.tmp 3)) false
  (.op (some 11) (.call 34 [(.tmp 10)]) false
  (.op (some 12) (.un .not (.tmp 11)) false
  .nil))))
  (.cond (.tmp 12) [] [6]
  (.seq (.region false (.op (some 6) (.move (.const (.bool false))) false
  .nil))
  .ret)
  .skip))
  (.seq (.region false (.op (some 14) (.load true 8 (.tmp 3)) false
  (.op (some 15) (.move (.tmp 2)) false
  (.op (some 16) (.call 38 [(.tmp 14), (.tmp 15)]) false
  (.op (some 13) (.move (.tmp 16)) false
  (.op (some 17) (.extract (.tmp 13) 0) false
  (.op (some 18) (.extract (.tmp 13) 1) false
  (.op (some 19) (.extract (.tmp 13) 2) false
  (.op (some 7) (.move (.tmp 17)) false
  (.op (some 8) (.move (.tmp 18)) false
  (.op (some 9) (.move (.tmp 19)) false
  .nil)))))))))))
  (.seq (.region false (.op (some 20) (.move (.tmp 9)) false
  (.op (some 21) (.un .not (.tmp 20)) false
  (.op (some 22) (.move (.tmp 21)) false
  (.sc 27 22 true [23, 24, 25, 26]
  (.op (some 23) (.move (.tmp 1)) false
  (.op (some 24) (.load true 8 (.tmp 3)) false
  (.op (some 25) (.call 39 [(.tmp 24)]) false
  (.op (some 26) (.bin .geq (.tmp 23) (.tmp 25)) false
  .nil)))) (.tmp 26)
  (.op (some 6) (.move (.tmp 27)) false
  .nil))))))
  .ret)))),
 [.tmp 6]⟩
theorem ok14 : ∃ fn c, FunOk Try.prog 14 fn c A14 := ⟨Try.f14, _, ⟨Try.func14, rfl, by kernel_rfl, by kernel_rfl, by kernel_rfl, of_decide_eq_true (by kernel_rfl), by kernel_rfl⟩⟩
noncomputable def s14 (Γ : Callee) (n : Nat) (x0 : Value) (x1 : Value) (x2 : Value) (h : AHeap) : Rt :=
 fork (ptrTo h.length 0) (h ++ [.cells (cellsL x0) 24 true]) fun v0 h1 =>
 (loadf true 8 v0 h1).bind fun v2 =>
 (Γ 34 [v2] h1).bind fun p3 =>
 (unf .not p3.1).bind fun v4 =>
 JL (fun w6 h7 =>
 (loadf true 8 v0 h7).bind fun v8 =>
 (Γ 38 [v8, x2] h7).bind fun p9 =>
 (extractf p9.1 0).bind fun v10 =>
 (extractf p9.1 1).bind fun v11 =>
 (extractf p9.1 2).bind fun v12 =>
 (unf .not v12).bind fun v13 =>
 J1 (fun v15 h16 =>
 fin h h16 [v15]) fun j14 =>
 scK v13 true (
 (loadf true 8 v0 p9.2).bind fun v17 =>
 (Γ 39 [v17] p9.2).bind fun p18 =>
 (binf .geq x1 p18.1).bind fun v19 =>
 j14 v19 p18.2)
 (j14 (.bool false) p9.2)) fun j5 =>
 ifK v4 (
 fin h p3.2 [((.bool false) : Value)]) (
 j5 [] p3.2)

theorem s14_eq (Γ : Callee) (n : Nat) (x0 : Value) (x1 : Value) (x2 : Value) (h : AHeap) : funK Γ n A14 [x0, x1, x2] h = s14 Γ n x0 x1 x2 h := by kernel_rfl


/-- orchestrion/orchestrionlaw04.same[int] -/
def A15 : AFun := ⟨2, 26,
 (.seq (.region false (.op (some 4) (.move (.const (.bool false))) false
  .nil))
  (.seq (.seq (.region false (.op (some 6) (.move (.tmp 0)) false
  (.op (some 7) (.len false (.tmp 6)) false
  (.op (some 8) (.move (.tmp 1)) false
  (.op (some 9) (.len false (.tmp 8)) false
  (.op (some 10) (.bin .neq (.tmp 7) (.tmp 9)) false
  .nil))))))
  (.cond (.tmp 10) [] [4]
  (.seq (.region false (.op (some 4) (.move (.const (.bool false))) false
  .nil))
  .ret)
  .skip))
  (.seq (.seq (.region false (.op (some 11) (.move (.tmp 0)) false
  (.op (some 12) (.len false (.tmp 11)) false
  (.op (some 13) (.move (.const (.int .i64 0))) false
  .nil))))
  (.block 0 [] [4, 5, 13, 14, 15, 16, 17, 18, 19, 20, 21, 22, 23, 24, 25]
  (.loop [13] [4, 5, 14, 15, 16, 17, 18, 19, 20, 21, 22, 23, 24, 25]
  (.seq (.region false (.op (some 14) (.bin .lss (.tmp 13) (.tmp 12)) false
  .nil))
  (.seq (.cond (.tmp 14) [] []
  .skip
  (.exit 0))
  (.seq (.block 1 [] [4, 5, 15, 16, 17, 18, 19, 20, 21, 22, 23, 24]
  (.seq (.region false (.op (some 15) (.move (.tmp 13)) false
  (.op (some 5) (.move (.tmp 15)) false
  .nil)))
  (.seq (.region true (.op (some 16) (.move (.tmp 0)) false
  (.op (some 17) (.move (.tmp 5)) false
  (.op (some 18) (.indexAddr 1 (.tmp 16) (.tmp 17)) false
  (.op (some 19) (.load false 1 (.tmp 18)) false
  (.op (some 20) (.move (.tmp 1)) false
  (.op (some 21) (.move (.tmp 5)) false
  (.op (some 22) (.indexAddr 1 (.tmp 20) (.tmp 21)) false
  (.op (some 23) (.load false 1 (.tmp 22)) false
  (.op (some 24) (.bin .neq (.tmp 19) (.tmp 23)) false
  .nil))))))))))
  (.cond (.tmp 24) [] [4]
  (.seq (.region false (.op (some 4) (.move (.const (.bool false))) false
  .nil))
  .ret)
  .skip))))
  (.region false (.op (some 25) (.bin .add (.tmp 13) (.const (.int .i64 1))) false
  (.op (some 13) (.move (.tmp 25)) false
  .nil)))))))))
  (.seq (.region false (.op (some 4) (.move (.const (.bool true))) false
  .nil))
  .ret)))),
 [.tmp 4]⟩
theorem ok15 : ∃ fn c, FunOk Try.prog 15 fn c A15 := ⟨Try.f15, _, ⟨Try.func15, rfl, by kernel_rfl, by kernel_rfl, by kernel_rfl, of_decide_eq_true (by kernel_rfl), by kernel_rfl⟩⟩
noncomputable def s15_L0 (Γ : Callee) (n : Nat) (x0 : Value) (x1 : Value) (h : AHeap) (v6 : Value) (j7 : List Value → AHeap → Rt) : (List Value → AHeap → Rt) → List Value → AHeap → Rt := fun c10 w11 h12 =>
 (binf .lss (nth w11 0) v6).bind fun v13 =>
 JL (fun w15 h16 =>
 JL (fun w18 h19 =>
 (binf .add (nth w11 0) ((.int .i64 1) : Value)).bind fun v20 =>
 c10 [v20] h19) fun j17 =>
 (indexAddrf 1 x0 (nth w11 0)).bind fun v21 =>
 (loadf false 1 v21 h16).bind fun v22 =>
 (indexAddrf 1 x1 (nth w11 0)).bind fun v23 =>
 (loadf false 1 v23 h16).bind fun v24 =>
 (binf .neq v22 v24).bind fun v25 =>
 JL (fun w27 h28 =>
 j17 [] h28) fun j26 =>
 ifK v25 (
 fin h h16 [((.bool false) : Value)]) (
 j26 [] h16)) fun j14 =>
 ifK v13 (
 j14 [] h12) (
 j7 [] h12)
noncomputable def s15 (Γ : Callee) (n : Nat) (x0 : Value) (x1 : Value) (h : AHeap) : Rt :=
 (lenf false x0).bind fun v0 =>
 (lenf false x1).bind fun v1 =>
 (binf .neq v0 v1).bind fun v2 =>
 JL (fun w4 h5 =>
 (lenf false x0).bind fun v6 =>
 JL (fun w8 h9 =>
 fin h h9 [((.bool true) : Value)]) fun j7 =>
 loopN (s15_L0 Γ n x0 x1 h v6 j7) n [((.int .i64 0) : Value)] h5) fun j3 =>
 ifK v2 (
 fin h h [((.bool false) : Value)]) (
 j3 [] h)

theorem s15_eq (Γ : Callee) (n : Nat) (x0 : Value) (x1 : Value) (h : AHeap) : funK Γ n A15 [x0, x1] h = s15 Γ n x0 x1 h := by kernel_rfl


def L16_0a : ACode := (.region false (.op (some 9) (.move (.tmp 22)) false
  .nil))
def L16_0b : ACode := (.block 1 [] [23, 24, 25, 26, 27, 28, 29, 30, 31, 32]
  (.seq (.region true (.op (some 23) (.load false 1 (.tmp 7)) false
  (.op (some 24) (.load true 8 (.tmp 3)) false
  (.op (some 25) (.move (.tmp 9)) false
  (.op (some 26) (.call 9 [(.tmp 24), (.tmp 25)]) true
  (.op (some 27) (.buildSlice 3 [(.int .i64 0)] 1 [(0, 1, (.tmp 26))]) false
  (.op (some 28) (.append 3 1 (.tmp 23) (.tmp 27)) false
  (.op none (.store 1 (.tmp 7) (.tmp 28)) false
  .nil))))))))
  (.seq (.region false (.op (some 29) (.load false 1 (.tmp 7)) false
  (.op (some 30) (.len false (.tmp 29)) false
  (.op (some 31) (.load false 1 (.tmp 4)) false
  (.op (some 32) (.bin .eql (.tmp 30) (.tmp 31)) false
  .nil)))))
  (.cond (.tmp 32) [] []
  (.exit 0)
  .skip))))
/-- orchestrion/inst.Curve -/
def A16 : AFun := ⟨3, 34,
 (.seq (.region false (.op (some 3) (.box 24 (.tmp 0)) false
  (.op (some 4) (.box 3 (.tmp 1)) false
  (.op (some 6) (.move (.const (.slice none 0 0))) false
  .nil))))
  (.seq (.seq (.region false (.op (some 10) (.load false 1 (.tmp 4)) false
  (.op (some 11) (.bin .leq (.tmp 10) (.const (.int .i64 0))) false
  (.op (some 12) (.move (.tmp 11)) false
  (.sc 15 12 false [13, 14]
  (.op (some 13) (.load false 1 (.tmp 4)) false
  (.op (some 14) (.bin .gtr (.tmp 13) (.const (.int .i64 4000))) false
  .nil)) (.tmp 14)
  .nil)))))
  (.cond (.tmp 15) [6] []
  (.seq (.region false (.op (some 6) (.move (.const (.slice none 0 0))) false
  .nil))
  .ret)
  .skip))
  (.seq (.region false (.op (some 16) (.load false 1 (.tmp 4)) false
  (.op (some 17) (.mkSlice 3 [(.int .i64 0)] (.const (.int .i64 0)) (.tmp 16)) false
  (.op (some 7) (.new 33 [(.slice none 0 0)]) false
  (.op none (.store 1 (.tmp 7) (.tmp 17)) false
  .nil)))))
  (.seq (.seq (.region false (.op (some 18) (.load true 8 (.tmp 3)) false
  (.op (some 19) (.move (.tmp 2)) false
  (.op (some 20) (.call 40 [(.tmp 18), (.tmp 19)]) false
  .nil))))
  (.block 0 [] []
  (.rangeF (.tmp 20) [3, 4, 7] [21, 22] L16_0a L16_0b)))
  (.seq (.region false (.op (some 33) (.load false 1 (.tmp 7)) false
  (.op (some 6) (.move (.tmp 33)) false
  .nil)))
  .ret))))),
 [.tmp 6]⟩
theorem ok16 : ∃ fn c, FunOk Try.prog 16 fn c A16 := ⟨Try.f16, _, ⟨Try.func16, rfl, by kernel_rfl, by kernel_rfl, by kernel_rfl, of_decide_eq_true (by kernel_rfl), by kernel_rfl⟩⟩
noncomputable def s16 (Γ : Callee) (n : Nat) (x0 : Value) (x1 : Value) (x2 : Value) (h : AHeap) : Rt :=
 fork (ptrTo h.length 0) (h ++ [.cells (cellsL x0) 24 true]) fun v0 h1 =>
 fork (ptrTo h1.length 0) (h1 ++ [.cells (cellsL x1) 3 true]) fun v2 h3 =>
 (loadf false 1 v2 h3).bind fun v4 =>
 (binf .leq v4 ((.int .i64 0) : Value)).bind fun v5 =>
 J1 (fun v7 h8 =>
 JL (fun w10 h11 =>
 (loadf false 1 v2 h11).bind fun v12 =>
 (mkSlicef 3 [(.int .i64 0)] ((.int .i64 0) : Value) v12 h11).bind fun p13 =>
 fork (ptrTo p13.2.length 0) (p13.2 ++ [.cells [(.slice none 0 0)] 33 true]) fun v14 h15 =>
 (storef 1 v14 p13.1 h15).bind fun h16 =>
 (loadf true 8 v0 h16).bind fun v17 =>
 (Γ 40 [v17, x2] h16).bind fun p18 =>
 JL (fun w20 h21 =>
 (loadf false 1 v14 h21).bind fun v22 =>
 fin h h21 [v22]) fun j19 =>
 (callFf Γ p18.1 [Value.func (.yield p18.2.length) ⟨[]⟩ ⟨[]⟩] (p18.2 ++ [.loop [v0, v2, v14] [3, 4, 7] [21, 22] L16_0a L16_0b .ready none])).bind fun p23 =>
 (pendOf p18.2.length p23.2).bind fun o24 =>
 fork undef (p23.2.set p18.2.length .dead) fun v25 h26 =>
endF o24 (
 j19 [] h26) (fun i27 => bif Nat.beq i27 0 then (j19 [] h26) else none) (
 fin h h26 [(nth w10 0)])) fun j9 =>
 ifK v7 (
 fin h h8 [((.slice none 0 0) : Value)]) (
 j9 [((.slice none 0 0) : Value)] h8)) fun j6 =>
 scK v5 false (
 (loadf false 1 v2 h3).bind fun v28 =>
 (binf .gtr v28 ((.int .i64 4000) : Value)).bind fun v29 =>
 j6 v29 h3)
 (j6 (.bool true) h3)

theorem s16_eq (Γ : Callee) (n : Nat) (x0 : Value) (x1 : Value) (x2 : Value) (h : AHeap) : funK Γ n A16 [x0, x1, x2] h = s16 Γ n x0 x1 x2 h := by kernel_rfl

noncomputable def r16_0 (Γ : Callee) (n : Nat) (w3 : Value) (w4 : Value) (w7 : Value) (a21 : Value) (a22 : Value) (b : Nat) (h : AHeap) : Rt :=
 (beginRound b h).bind fun h0 =>
 JL (fun w2 h3 =>
endRound b .normal h3) fun j1 =>
 (loadf false 1 w7 h0).bind fun v4 =>
 (loadf true 8 w3 h0).bind fun v5 =>
 (Γ 9 [v5, a22] h0).bind fun p6 =>
 sameQ h0 p6.2 (
 (fillf (rep [(.int .i64 0)] 1) [(0, 1, p6.1)]).bind fun l7 =>
 fork (.slice (some ⟨p6.2.length, 0, none⟩) 1 1) (p6.2 ++ [.cells l7 3 true]) fun v8 h9 =>
 (appendf 3 1 v4 v8 h9).bind fun p10 =>
 (storef 1 w7 p10.1 p10.2).bind fun h11 =>
 (loadf false 1 w7 h11).bind fun v12 =>
 (lenf false v12).bind fun v13 =>
 (loadf false 1 w4 h11).bind fun v14 =>
 (binf .eql v13 v14).bind fun v15 =>
 JL (fun w17 h18 =>
 j1 [] h18) fun j16 =>
 ifK v15 (
endRound b (.exit 0) h11) (
 j16 [] h11))
theorem r16_0_eq (Γ : Callee) (n : Nat) (w3 : Value) (w4 : Value) (w7 : Value) (a21 : Value) (a22 : Value) (b : Nat) (h : AHeap) (pend : Option AExit) (hb : h[b]? = some (.loop [w3, w4, w7] [3, 4, 7] [21, 22] L16_0a L16_0b .ready pend)) : roundK Γ n (ptrTo b 0 :: [a21, a22]) h = r16_0 Γ n w3 w4 w7 a21 a22 b h := (roundK_eq hb rfl).trans (by kernel_rfl)

/-- orchestrion/orchestrionref04.Curve -/
def A17 : AFun := ⟨3, 30,
 (.seq (.region false (.op (some 3) (.box 24 (.tmp 0)) false
  (.op (some 6) (.move (.const (.slice none 0 0))) false
  .nil)))
  (.seq (.region false (.op (some 7) (.move (.const (.slice none 0 0))) false
  .nil))
  (.seq (.seq (.region false (.op (some 10) (.move (.tmp 1)) false
  (.op (some 11) (.bin .gtr (.tmp 10) (.const (.int .i64 4000))) false
  .nil)))
  (.cond (.tmp 11) [] [6]
  (.seq (.region false (.op (some 6) (.move (.const (.slice none 0 0))) false
  .nil))
  .ret)
  .skip))
  (.seq (.region false (.op (some 8) (.move (.const (.int .i64 0))) false
  .nil))
  (.seq (.seq (.region false (.op (some 9) (.move (.const (.int .i64 0))) false
  .nil))
  (.block 0 [7] [8, 9, 12, 13, 14, 15, 16, 17, 18, 19, 20, 21, 22, 23, 24, 25, 26, 27, 28]
  (.loop [7, 8, 9] [12, 13, 14, 15, 16, 17, 18, 19, 20, 21, 22, 23, 24, 25, 26, 27, 28]
  (.seq (.seq (.region false (.op (some 12) (.move (.tmp 9)) false
  (.op (some 13) (.move (.tmp 1)) false
  (.op (some 14) (.bin .lss (.tmp 12) (.tmp 13)) false
  .nil))))
  (.cond (.tmp 14) [] []
  .skip
  (.exit 0)))
  (.seq (.block 1 [7, 8] [17, 18, 19, 20, 21, 22, 23, 24, 25, 26, 27, 28]
  (.seq (.region false (.op (some 17) (.move (.tmp 7)) false
  (.op (some 18) (.load true 8 (.tmp 3)) false
  (.op (some 19) (.move (.tmp 8)) false
  (.op (some 20) (.call 10 [(.tmp 18), (.tmp 19)]) false
  (.op (some 21) (.buildSlice 3 [(.int .i64 0)] 1 [(0, 1, (.tmp 20))]) false
  (.op (some 22) (.append 3 1 (.tmp 17) (.tmp 21)) false
  (.op (some 7) (.move (.tmp 22)) false
  .nil))))))))
  (.region false (.op (some 23) (.load true 8 (.tmp 3)) false
  (.op (some 24) (.move (.tmp 8)) false
  (.op (some 25) (.move (.tmp 9)) false
  (.op (some 26) (.move (.tmp 2)) false
  (.op (some 27) (.bin .lss (.tmp 25) (.tmp 26)) false
  (.op (some 28) (.call 12 [(.tmp 23), (.tmp 24), (.tmp 27)]) false
  (.op (some 8) (.move (.tmp 28)) false
  .nil))))))))))
  (.region false (.op (some 15) (.move (.tmp 9)) false
  (.op (some 16) (.bin .add (.tmp 15) (.const (.int .i64 1))) false
  (.op (some 9) (.move (.tmp 16)) false
  .nil)))))))))
  (.seq (.region false (.op (some 29) (.move (.tmp 7)) false
  (.op (some 6) (.move (.tmp 29)) false
  .nil)))
  .ret)))))),
 [.tmp 6]⟩
theorem ok17 : ∃ fn c, FunOk Try.prog 17 fn c A17 := ⟨Try.f17, _, ⟨Try.func17, rfl, by kernel_rfl, by kernel_rfl, by kernel_rfl, of_decide_eq_true (by kernel_rfl), by kernel_rfl⟩⟩
noncomputable def s17_L0 (Γ : Callee) (n : Nat) (x1 : Value) (x2 : Value) (v0 : Value) (j6 : List Value → AHeap → Rt) : (List Value → AHeap → Rt) → List Value → AHeap → Rt := fun c9 w10 h11 =>
 (binf .lss (nth w10 2) x1).bind fun v12 =>
 JL (fun w14 h15 =>
 JL (fun w17 h18 =>
 (binf .add (nth w10 2) ((.int .i64 1) : Value)).bind fun v19 =>
 c9 [(nth w17 0), (nth w17 1), v19] h18) fun j16 =>
 (loadf true 8 v0 h15).bind fun v20 =>
 (Γ 10 [v20, (nth w10 1)] h15).bind fun p21 =>
 (fillf (rep [(.int .i64 0)] 1) [(0, 1, p21.1)]).bind fun l22 =>
 fork (.slice (some ⟨p21.2.length, 0, none⟩) 1 1) (p21.2 ++ [.cells l22 3 true]) fun v23 h24 =>
 (appendf 3 1 (nth w10 0) v23 h24).bind fun p25 =>
 (loadf true 8 v0 p25.2).bind fun v26 =>
 (binf .lss (nth w10 2) x2).bind fun v27 =>
 (Γ 12 [v26, (nth w10 1), v27] p25.2).bind fun p28 =>
 j16 [p25.1, p28.1] p28.2) fun j13 =>
 ifK v12 (
 j13 [] h11) (
 j6 [(nth w10 0)] h11)
noncomputable def s17 (Γ : Callee) (n : Nat) (x0 : Value) (x1 : Value) (x2 : Value) (h : AHeap) : Rt :=
 fork (ptrTo h.length 0) (h ++ [.cells (cellsL x0) 24 true]) fun v0 h1 =>
 (binf .gtr x1 ((.int .i64 4000) : Value)).bind fun v2 =>
 JL (fun w4 h5 =>
 JL (fun w7 h8 =>
 fin h h8 [(nth w7 0)]) fun j6 =>
 loopN (s17_L0 Γ n x1 x2 v0 j6) n [((.slice none 0 0) : Value), ((.int .i64 0) : Value), ((.int .i64 0) : Value)] h5) fun j3 =>
 ifK v2 (
 fin h h1 [((.slice none 0 0) : Value)]) (
 j3 [] h1)

theorem s17_eq (Γ : Callee) (n : Nat) (x0 : Value) (x1 : Value) (x2 : Value) (h : AHeap) : funK Γ n A17 [x0, x1, x2] h = s17 Γ n x0 x1 x2 h := by kernel_rfl


/-- orchestrion/inst.Valid -/
def A20 : AFun := ⟨1, 71,
 (.seq (.region false (.op (some 1) (.box 40 (.tmp 0)) false
  (.op (some 2) (.move (.const (.bool false))) false
  .nil)))
  (.seq (.seq (.region false (.op (some 3) (.fieldAddr 0 (.tmp 1)) false
  (.op (some 4) (.load false 1 (.tmp 3)) false
  (.op (some 5) (.call 43 [(.tmp 4)]) false
  (.op (some 6) (.un .not (.tmp 5)) false
  (.op (some 7) (.move (.tmp 6)) false
  (.sc 18 7 false [8, 9, 10, 11, 12, 17, 13, 14, 15, 16]
  (.op (some 8) (.fieldAddr 1 (.tmp 1)) false
  (.op (some 9) (.load false 1 (.tmp 8)) false
  (.op (some 10) (.len false (.tmp 9)) false
  (.op (some 11) (.bin .neq (.tmp 10) (.const (.int .i64 0))) false
  (.op (some 12) (.move (.tmp 11)) false
  (.sc 17 12 true [13, 14, 15, 16]
  (.op (some 13) (.fieldAddr 1 (.tmp 1)) false
  (.op (some 14) (.load false 1 (.tmp 13)) false
  (.op (some 15) (.len false (.tmp 14)) false
  (.op (some 16) (.bin .neq (.tmp 15) (.const (.int .i64 120))) false
  .nil)))) (.tmp 16)
  .nil)))))) (.tmp 17)
  .nil)))))))
  (.cond (.tmp 18) [] [2]
  (.seq (.region false (.op (some 2) (.move (.const (.bool false))) false
  .nil))
  .ret)
  .skip))
  (.seq (.seq (.region false (.op (some 19) (.fieldAddr 1 (.tmp 1)) false
  (.op (some 20) (.load false 1 (.tmp 19)) false
  (.op (some 21) (.call 44 [(.tmp 20), (.func 45)]) false
  .nil))))
  (.cond (.tmp 21) [] [2]
  (.seq (.region false (.op (some 2) (.move (.const (.bool false))) false
  .nil))
  .ret)
  .skip))
  (.seq (.seq (.region false (.op (some 22) (.fieldAddr 2 (.tmp 1)) false
  (.op (some 23) (.load true 8 (.tmp 22)) false
  (.op (some 24) (.call 7 [(.tmp 23), (.const (.int .i64 0)), (.const (.int .i64 64))]) false
  (.op (some 25) (.un .not (.tmp 24)) false
  (.op (some 26) (.move (.tmp 25)) false
  (.sc 31 26 false [27, 28, 29, 30]
  (.op (some 27) (.fieldAddr 10 (.tmp 1)) false
  (.op (some 28) (.load true 8 (.tmp 27)) false
  (.op (some 29) (.call 7 [(.tmp 28), (.const (.int .i64 (-32))), (.const (.int .i64 32))]) false
  (.op (some 30) (.un .not (.tmp 29)) false
  .nil)))) (.tmp 30)
  (.op (some 32) (.move (.tmp 31)) false
  (.sc 37 32 false [33, 34, 35, 36]
  (.op (some 33) (.fieldAddr 18 (.tmp 1)) false
  (.op (some 34) (.load true 8 (.tmp 33)) false
  (.op (some 35) (.call 7 [(.tmp 34), (.const (.int .i64 (-32))), (.const (.int .i64 32))]) false
  (.op (some 36) (.un .not (.tmp 35)) false
  .nil)))) (.tmp 36)
  .nil)))))))))
  (.cond (.tmp 37) [] [2]
  (.seq (.region false (.op (some 2) (.move (.const (.bool false))) false
  .nil))
  .ret)
  .skip))
  (.seq (.region false (.op (some 38) (.fieldAddr 26 (.tmp 1)) false
  (.op (some 39) (.load false 1 (.tmp 38)) false
  (.op (some 40) (.call 41 [(.tmp 39), (.const (.int .i64 0)), (.const (.int .i64 1024))]) false
  (.op (some 41) (.move (.tmp 40)) false
  (.sc 45 41 true [42, 43, 44]
  (.op (some 42) (.fieldAddr 27 (.tmp 1)) false
  (.op (some 43) (.load false 1 (.tmp 42)) false
  (.op (some 44) (.call 41 [(.tmp 43), (.const (.int .i64 0)), (.const (.int .i64 3))]) false
  .nil))) (.tmp 44)
  (.op (some 46) (.move (.tmp 45)) false
  (.sc 50 46 true [47, 48, 49]
  (.op (some 47) (.fieldAddr 28 (.tmp 1)) false
  (.op (some 48) (.load false 1 (.tmp 47)) false
  (.op (some 49) (.call 41 [(.tmp 48), (.const (.int .i64 0)), (.const (.int .i64 3))]) false
  .nil))) (.tmp 49)
  (.op (some 51) (.move (.tmp 50)) false
  (.sc 55 51 true [52, 53, 54]
  (.op (some 52) (.fieldAddr 29 (.tmp 1)) false
  (.op (some 53) (.load false 1 (.tmp 52)) false
  (.op (some 54) (.call 41 [(.tmp 53), (.const (.int .i64 0)), (.const (.int .i64 2))]) false
  .nil))) (.tmp 54)
  (.op (some 56) (.move (.tmp 55)) false
  (.sc 60 56 true [57, 58, 59]
  (.op (some 57) (.fieldAddr 30 (.tmp 1)) false
  (.op (some 58) (.load false 1 (.tmp 57)) false
  (.op (some 59) (.call 41 [(.tmp 58), (.const (.int .i64 0)), (.const (.int .i64 64))]) false
  .nil))) (.tmp 59)
  (.op (some 61) (.move (.tmp 60)) false
  (.sc 65 61 true [62, 63, 64]
  (.op (some 62) (.fieldAddr 31 (.tmp 1)) false
  (.op (some 63) (.load false 1 (.tmp 62)) false
  (.op (some 64) (.call 41 [(.tmp 63), (.const (.int .i64 (-1))), (.const (.int .i64 127))]) false
  .nil))) (.tmp 64)
  (.op (some 66) (.move (.tmp 65)) false
  (.sc 70 66 true [67, 68, 69]
  (.op (some 67) (.fieldAddr 32 (.tmp 1)) false
  (.op (some 68) (.load false 1 (.tmp 67)) false
  (.op (some 69) (.call 41 [(.tmp 68), (.const (.int .i64 (-1))), (.const (.int .i64 127))]) false
  .nil))) (.tmp 69)
  (.op (some 2) (.move (.tmp 70)) false
  .nil)))))))))))))))))
  .ret))))),
 [.tmp 2]⟩
theorem ok20 : ∃ fn c, FunOk Try.prog 20 fn c A20 := ⟨Try.f20, _, ⟨Try.func20, rfl, by kernel_rfl, by kernel_rfl, by kernel_rfl, of_decide_eq_true (by kernel_rfl), by kernel_rfl⟩⟩
noncomputable def s20 (Γ : Callee) (n : Nat) (x0 : Value) (h : AHeap) : Rt :=
 fork (ptrTo h.length 0) (h ++ [.cells (cellsL x0) 40 true]) fun v0 h1 =>
 (fieldAddrf 0 v0).bind fun v2 =>
 (loadf false 1 v2 h1).bind fun v3 =>
 (Γ 43 [v3] h1).bind fun p4 =>
 (unf .not p4.1).bind fun v5 =>
 J1 (fun v7 h8 =>
 JL (fun w10 h11 =>
 (fieldAddrf 1 v0).bind fun v12 =>
 (loadf false 1 v12 h11).bind fun v13 =>
 (Γ 44 [v13, (Value.func (.func 45) #[] #[])] h11).bind fun p14 =>
 JL (fun w16 h17 =>
 (fieldAddrf 2 v0).bind fun v18 =>
 (loadf true 8 v18 h17).bind fun v19 =>
 (Γ 7 [v19, ((.int .i64 0) : Value), ((.int .i64 64) : Value)] h17).bind fun p20 =>
 (unf .not p20.1).bind fun v21 =>
 J1 (fun v23 h24 =>
 J1 (fun v26 h27 =>
 JL (fun w29 h30 =>
 (fieldAddrf 26 v0).bind fun v31 =>
 (loadf false 1 v31 h30).bind fun v32 =>
 (Γ 41 [v32, ((.int .i64 0) : Value), ((.int .i64 1024) : Value)] h30).bind fun p33 =>
 J1 (fun v35 h36 =>
 J1 (fun v38 h39 =>
 J1 (fun v41 h42 =>
 J1 (fun v44 h45 =>
 J1 (fun v47 h48 =>
 J1 (fun v50 h51 =>
 fin h h51 [v50]) fun j49 =>
 scK v47 true (
 (fieldAddrf 32 v0).bind fun v52 =>
 (loadf false 1 v52 h48).bind fun v53 =>
 (Γ 41 [v53, ((.int .i64 (-1)) : Value), ((.int .i64 127) : Value)] h48).bind fun p54 =>
 j49 p54.1 p54.2)
 (j49 (.bool false) h48)) fun j46 =>
 scK v44 true (
 (fieldAddrf 31 v0).bind fun v55 =>
 (loadf false 1 v55 h45).bind fun v56 =>
 (Γ 41 [v56, ((.int .i64 (-1)) : Value), ((.int .i64 127) : Value)] h45).bind fun p57 =>
 j46 p57.1 p57.2)
 (j46 (.bool false) h45)) fun j43 =>
 scK v41 true (
 (fieldAddrf 30 v0).bind fun v58 =>
 (loadf false 1 v58 h42).bind fun v59 =>
 (Γ 41 [v59, ((.int .i64 0) : Value), ((.int .i64 64) : Value)] h42).bind fun p60 =>
 j43 p60.1 p60.2)
 (j43 (.bool false) h42)) fun j40 =>
 scK v38 true (
 (fieldAddrf 29 v0).bind fun v61 =>
 (loadf false 1 v61 h39).bind fun v62 =>
 (Γ 41 [v62, ((.int .i64 0) : Value), ((.int .i64 2) : Value)] h39).bind fun p63 =>
 j40 p63.1 p63.2)
 (j40 (.bool false) h39)) fun j37 =>
 scK v35 true (
 (fieldAddrf 28 v0).bind fun v64 =>
 (loadf false 1 v64 h36).bind fun v65 =>
 (Γ 41 [v65, ((.int .i64 0) : Value), ((.int .i64 3) : Value)] h36).bind fun p66 =>
 j37 p66.1 p66.2)
 (j37 (.bool false) h36)) fun j34 =>
 scK p33.1 true (
 (fieldAddrf 27 v0).bind fun v67 =>
 (loadf false 1 v67 p33.2).bind fun v68 =>
 (Γ 41 [v68, ((.int .i64 0) : Value), ((.int .i64 3) : Value)] p33.2).bind fun p69 =>
 j34 p69.1 p69.2)
 (j34 (.bool false) p33.2)) fun j28 =>
 ifK v26 (
 fin h h27 [((.bool false) : Value)]) (
 j28 [] h27)) fun j25 =>
 scK v23 false (
 (fieldAddrf 18 v0).bind fun v70 =>
 (loadf true 8 v70 h24).bind fun v71 =>
 (Γ 7 [v71, ((.int .i64 (-32)) : Value), ((.int .i64 32) : Value)] h24).bind fun p72 =>
 (unf .not p72.1).bind fun v73 =>
 j25 v73 p72.2)
 (j25 (.bool true) h24)) fun j22 =>
 scK v21 false (
 (fieldAddrf 10 v0).bind fun v74 =>
 (loadf true 8 v74 p20.2).bind fun v75 =>
 (Γ 7 [v75, ((.int .i64 (-32)) : Value), ((.int .i64 32) : Value)] p20.2).bind fun p76 =>
 (unf .not p76.1).bind fun v77 =>
 j22 v77 p76.2)
 (j22 (.bool true) p20.2)) fun j15 =>
 ifK p14.1 (
 fin h p14.2 [((.bool false) : Value)]) (
 j15 [] p14.2)) fun j9 =>
 ifK v7 (
 fin h h8 [((.bool false) : Value)]) (
 j9 [] h8)) fun j6 =>
 scK v5 false (
 (fieldAddrf 1 v0).bind fun v78 =>
 (loadf false 1 v78 p4.2).bind fun v79 =>
 (lenf false v79).bind fun v80 =>
 (binf .neq v80 ((.int .i64 0) : Value)).bind fun v81 =>
 J1 (fun v83 h84 =>
 j6 v83 h84) fun j82 =>
 scK v81 true (
 (fieldAddrf 1 v0).bind fun v85 =>
 (loadf false 1 v85 p4.2).bind fun v86 =>
 (lenf false v86).bind fun v87 =>
 (binf .neq v87 ((.int .i64 120) : Value)).bind fun v88 =>
 j82 v88 p4.2)
 (j82 (.bool false) p4.2))
 (j6 (.bool true) p4.2)

theorem s20_eq (Γ : Callee) (n : Nat) (x0 : Value) (h : AHeap) : funK Γ n A20 [x0] h = s20 Γ n x0 h := by kernel_rfl


/-- orchestrion/inst.ValidEnvelope$1 -/
def A28 : AFun := ⟨4, 30,
 (.seq (.region false (.op (some 7) (.move (.const (.bool false))) false
  .nil))
  (.seq (.seq (.region false (.op (some 8) (.move (.tmp 0)) false
  (.op (some 9) (.un .not (.tmp 8)) false
  .nil)))
  (.cond (.tmp 9) [] [7, 10, 11, 12, 13, 14, 15]
  (.seq (.region false (.op (some 10) (.move (.tmp 1)) false
  (.op (some 11) (.bin .eql (.tmp 10) (.const (.int .i64 0))) false
  (.op (some 12) (.move (.tmp 11)) false
  (.sc 15 12 true [13, 14]
  (.op (some 13) (.move (.tmp 2)) false
  (.op (some 14) (.bin .eql (.tmp 13) (.const (.int .i64 0))) false
  .nil)) (.tmp 14)
  (.op (some 7) (.move (.tmp 15)) false
  .nil))))))
  .ret)
  .skip))
  (.seq (.region false (.op (some 16) (.move (.tmp 1)) false
  (.op (some 17) (.bin .geq (.tmp 16) (.const (.int .i64 0))) false
  (.op (some 18) (.move (.tmp 17)) false
  (.sc 22 18 true [19, 20, 21]
  (.op (some 19) (.move (.tmp 1)) false
  (.op (some 20) (.move (.tmp 2)) false
  (.op (some 21) (.bin .leq (.tmp 19) (.tmp 20)) false
  .nil))) (.tmp 21)
  (.op (some 23) (.move (.tmp 22)) false
  (.sc 29 23 true [24, 25, 26, 27, 28]
  (.op (some 24) (.move (.tmp 2)) false
  (.op (some 25) (.fieldAddr 1 (.tmp 3)) false
  (.op (some 26) (.load false 1 (.tmp 25)) false
  (.op (some 27) (.len false (.tmp 26)) false
  (.op (some 28) (.bin .lss (.tmp 24) (.tmp 27)) false
  .nil))))) (.tmp 28)
  (.op (some 7) (.move (.tmp 29)) false
  .nil))))))))
  .ret))),
 [.tmp 7]⟩
theorem ok28 : ∃ fn c, FunOk Try.prog 28 fn c A28 := ⟨Try.f28, _, ⟨Try.func28, rfl, by kernel_rfl, by kernel_rfl, by kernel_rfl, of_decide_eq_true (by kernel_rfl), by kernel_rfl⟩⟩
noncomputable def s28 (Γ : Callee) (n : Nat) (x0 : Value) (x1 : Value) (x2 : Value) (x3 : Value) (h : AHeap) : Rt :=
 (unf .not x0).bind fun v0 =>
 JL (fun w2 h3 =>
 (binf .geq x1 ((.int .i64 0) : Value)).bind fun v4 =>
 J1 (fun v6 h7 =>
 J1 (fun v9 h10 =>
 fin h h10 [v9]) fun j8 =>
 scK v6 true (
 (fieldAddrf 1 x3).bind fun v11 =>
 (loadf false 1 v11 h7).bind fun v12 =>
 (lenf false v12).bind fun v13 =>
 (binf .lss x2 v13).bind fun v14 =>
 j8 v14 h7)
 (j8 (.bool false) h7)) fun j5 =>
 scK v4 true (
 (binf .leq x1 x2).bind fun v15 =>
 j5 v15 h3)
 (j5 (.bool false) h3)) fun j1 =>
 ifK v0 (
 (binf .eql x1 ((.int .i64 0) : Value)).bind fun v16 =>
 J1 (fun v18 h19 =>
 fin h h19 [v18]) fun j17 =>
 scK v16 true (
 (binf .eql x2 ((.int .i64 0) : Value)).bind fun v20 =>
 j17 v20 h)
 (j17 (.bool false) h)) (
 j1 [] h)

theorem s28_eq (Γ : Callee) (n : Nat) (x0 : Value) (x1 : Value) (x2 : Value) (x3 : Value) (h : AHeap) : funK Γ n A28 [x0, x1, x2, x3] h = s28 Γ n x0 x1 x2 x3 h := by kernel_rfl


/-- orchestrion/orchestrionref04.paired -/
def A29 : AFun := ⟨4, 29,
 (.seq (.region false (.op (some 8) (.move (.const (.bool false))) false
  .nil))
  (.seq (.seq (.region false (.op (some 9) (.move (.tmp 0)) false
  (.op (some 10) (.un .not (.tmp 9)) false
  .nil)))
  (.cond (.tmp 10) [] [8, 11, 12, 13, 14, 15, 16]
  (.seq (.region false (.op (some 11) (.move (.tmp 1)) false
  (.op (some 12) (.bin .eql (.tmp 11) (.const (.int .i64 0))) false
  (.op (some 13) (.move (.tmp 12)) false
  (.sc 16 13 true [14, 15]
  (.op (some 14) (.move (.tmp 2)) false
  (.op (some 15) (.bin .eql (.tmp 14) (.const (.int .i64 0))) false
  .nil)) (.tmp 15)
  (.op (some 8) (.move (.tmp 16)) false
  .nil))))))
  .ret)
  .skip))
  (.seq (.region false (.op (some 17) (.move (.tmp 1)) false
  (.op (some 18) (.bin .leq (.const (.int .i64 0)) (.tmp 17)) false
  (.op (some 19) (.move (.tmp 18)) false
  (.sc 23 19 true [20, 21, 22]
  (.op (some 20) (.move (.tmp 1)) false
  (.op (some 21) (.move (.tmp 2)) false
  (.op (some 22) (.bin .leq (.tmp 20) (.tmp 21)) false
  .nil))) (.tmp 22)
  (.op (some 24) (.move (.tmp 23)) false
  (.sc 28 24 true [25, 26, 27]
  (.op (some 25) (.move (.tmp 2)) false
  (.op (some 26) (.move (.tmp 3)) false
  (.op (some 27) (.bin .lss (.tmp 25) (.tmp 26)) false
  .nil))) (.tmp 27)
  (.op (some 8) (.move (.tmp 28)) false
  .nil))))))))
  .ret))),
 [.tmp 8]⟩
theorem ok29 : ∃ fn c, FunOk Try.prog 29 fn c A29 := ⟨Try.f29, _, ⟨Try.func29, rfl, by kernel_rfl, by kernel_rfl, by kernel_rfl, of_decide_eq_true (by kernel_rfl), by kernel_rfl⟩⟩
noncomputable def s29 (Γ : Callee) (n : Nat) (x0 : Value) (x1 : Value) (x2 : Value) (x3 : Value) (h : AHeap) : Rt :=
 (unf .not x0).bind fun v0 =>
 JL (fun w2 h3 =>
 (binf .leq ((.int .i64 0) : Value) x1).bind fun v4 =>
 J1 (fun v6 h7 =>
 J1 (fun v9 h10 =>
 fin h h10 [v9]) fun j8 =>
 scK v6 true (
 (binf .lss x2 x3).bind fun v11 =>
 j8 v11 h7)
 (j8 (.bool false) h7)) fun j5 =>
 scK v4 true (
 (binf .leq x1 x2).bind fun v12 =>
 j5 v12 h3)
 (j5 (.bool false) h3)) fun j1 =>
 ifK v0 (
 (binf .eql x1 ((.int .i64 0) : Value)).bind fun v13 =>
 J1 (fun v15 h16 =>
 fin h h16 [v15]) fun j14 =>
 scK v13 true (
 (binf .eql x2 ((.int .i64 0) : Value)).bind fun v17 =>
 j14 v17 h)
 (j14 (.bool false) h)) (
 j1 [] h)

theorem s29_eq (Γ : Callee) (n : Nat) (x0 : Value) (x1 : Value) (x2 : Value) (x3 : Value) (h : AHeap) : funK Γ n A29 [x0, x1, x2, x3] h = s29 Γ n x0 x1 x2 x3 h := by kernel_rfl


/-- orchestrion/inst.counts -/
def A30 : AFun := ⟨1, 9,
 (.seq (.region false (.op (some 1) (.box 24 (.tmp 0)) false
  (.op (some 2) (.move (.const (.bool false))) false
  .nil)))
  (.seq (.region false (.op (some 3) (.fieldAddr 0 (.tmp 1)) false
  (.op (some 4) (.load false 1 (.tmp 3)) false
  (.op (some 5) (.move (.tmp 4)) false
  (.sc 8 5 true [6, 7]
  (.op (some 6) (.load true 8 (.tmp 1)) false
  (.op (some 7) (.call 7 [(.tmp 6), (.const (.int .i64 (-64))), (.const (.int .i64 64))]) false
  .nil)) (.tmp 7)
  (.op (some 2) (.move (.tmp 8)) false
  .nil))))))
  .ret)),
 [.tmp 2]⟩
theorem ok30 : ∃ fn c, FunOk Try.prog 30 fn c A30 := ⟨Try.f30, _, ⟨Try.func30, rfl, by kernel_rfl, by kernel_rfl, by kernel_rfl, of_decide_eq_true (by kernel_rfl), by kernel_rfl⟩⟩
noncomputable def s30 (Γ : Callee) (n : Nat) (x0 : Value) (h : AHeap) : Rt :=
 fork (ptrTo h.length 0) (h ++ [.cells (cellsL x0) 24 true]) fun v0 h1 =>
 (fieldAddrf 0 v0).bind fun v2 =>
 (loadf false 1 v2 h1).bind fun v3 =>
 J1 (fun v5 h6 =>
 fin h h6 [v5]) fun j4 =>
 scK v3 true (
 (loadf true 8 v0 h1).bind fun v7 =>
 (Γ 7 [v7, ((.int .i64 (-64)) : Value), ((.int .i64 64) : Value)] h1).bind fun p8 =>
 j4 p8.1 p8.2)
 (j4 (.bool false) h1)

theorem s30_eq (Γ : Callee) (n : Nat) (x0 : Value) (h : AHeap) : funK Γ n A30 [x0] h = s30 Γ n x0 h := by kernel_rfl


/-- slices.IndexFunc[[]orchestrion/api.Point,orchestrion/api.Point] -/
def A31 : AFun := ⟨2, 19,
 (.seq (.region false (.op (some 4) (.move (.const (.int .i64 0))) false
  .nil))
  (.seq (.seq (.region false (.op (some 6) (.move (.tmp 0)) false
  (.op (some 7) (.len false (.tmp 6)) false
  (.op (some 8) (.move (.const (.int .i64 0))) false
  .nil))))
  (.block 0 [] [4, 5, 8, 9, 10, 11, 12, 13, 14, 15, 16, 17, 18]
  (.loop [8] [4, 5, 9, 10, 11, 12, 13, 14, 15, 16, 17, 18]
  (.seq (.region false (.op (some 9) (.bin .lss (.tmp 8) (.tmp 7)) false
  .nil))
  (.seq (.cond (.tmp 9) [] []
  .skip
  (.exit 0))
  (.seq (.block 1 [] [4, 5, 10, 11, 12, 13, 14, 15, 16, 17]
  (.seq (.region false (.op (some 10) (.move (.tmp 8)) false
  (.op (some 5) (.move (.tmp 10)) false
  .nil)))
  (.seq (.region false (.op (some 11) (.move (.tmp 1)) false
  (.op (some 12) (.move (.tmp 0)) false
  (.op (some 13) (.move (.tmp 5)) false
  (.op (some 14) (.indexAddr 2 (.tmp 12) (.tmp 13)) false
  (.op (some 15) (.load true 2 (.tmp 14)) false
  (.op (some 16) (.callV (.tmp 11) [(.tmp 15)]) false
  .nil)))))))
  (.cond (.tmp 16) [] [4, 17]
  (.seq (.region false (.op (some 17) (.move (.tmp 5)) false
  (.op (some 4) (.move (.tmp 17)) false
  .nil)))
  .ret)
  .skip))))
  (.region false (.op (some 18) (.bin .add (.tmp 8) (.const (.int .i64 1))) false
  (.op (some 8) (.move (.tmp 18)) false
  .nil)))))))))
  (.seq (.region false (.op (some 4) (.move (.const (.int .i64 (-1)))) false
  .nil))
  .ret))),
 [.tmp 4]⟩
theorem ok31 : ∃ fn c, FunOk Try.prog 31 fn c A31 := ⟨Try.f31, _, ⟨Try.func31, rfl, by kernel_rfl, by kernel_rfl, by kernel_rfl, of_decide_eq_true (by kernel_rfl), by kernel_rfl⟩⟩
noncomputable def s31_L0 (Γ : Callee) (n : Nat) (x0 : Value) (x1 : Value) (h : AHeap) (v0 : Value) (j1 : List Value → AHeap → Rt) : (List Value → AHeap → Rt) → List Value → AHeap → Rt := fun c4 w5 h6 =>
 (binf .lss (nth w5 0) v0).bind fun v7 =>
 JL (fun w9 h10 =>
 JL (fun w12 h13 =>
 (binf .add (nth w5 0) ((.int .i64 1) : Value)).bind fun v14 =>
 c4 [v14] h13) fun j11 =>
 (indexAddrf 2 x0 (nth w5 0)).bind fun v15 =>
 (loadf true 2 v15 h10).bind fun v16 =>
 (callVf Γ x1 [v16] h10).bind fun p17 =>
 JL (fun w19 h20 =>
 j11 [] h20) fun j18 =>
 ifK p17.1 (
 fin h p17.2 [(nth w5 0)]) (
 j18 [] p17.2)) fun j8 =>
 ifK v7 (
 j8 [] h6) (
 j1 [] h6)
noncomputable def s31 (Γ : Callee) (n : Nat) (x0 : Value) (x1 : Value) (h : AHeap) : Rt :=
 (lenf false x0).bind fun v0 =>
 JL (fun w2 h3 =>
 fin h h3 [((.int .i64 (-1)) : Value)]) fun j1 =>
 loopN (s31_L0 Γ n x0 x1 h v0 j1) n [((.int .i64 0) : Value)] h

theorem s31_eq (Γ : Callee) (n : Nat) (x0 : Value) (x1 : Value) (h : AHeap) : funK Γ n A31 [x0, x1] h = s31 Γ n x0 x1 h := by kernel_rfl


/-- orchestrion/inst.Value$1 -/
def A32 : AFun := ⟨2, 8,
 (.seq (.region false (.op (some 2) (.box 37 (.tmp 0)) false
  (.op (some 3) (.move (.const (.bool false))) false
  .nil)))
  (.seq (.region false (.op (some 4) (.fieldAddr 0 (.tmp 2)) false
  (.op (some 5) (.load false 1 (.tmp 4)) false
  (.op (some 6) (.load false 1 (.tmp 1)) false
  (.op (some 7) (.bin .gtr (.tmp 5) (.tmp 6)) false
  (.op (some 3) (.move (.tmp 7)) false
  .nil))))))
  .ret)),
 [.tmp 3]⟩
theorem ok32 : ∃ fn c, FunOk Try.prog 32 fn c A32 := ⟨Try.f32, _, ⟨Try.func32, rfl, by kernel_rfl, by kernel_rfl, by kernel_rfl, of_decide_eq_true (by kernel_rfl), by kernel_rfl⟩⟩
noncomputable def s32 (Γ : Callee) (n : Nat) (x0 : Value) (x1 : Value) (h : AHeap) : Rt :=
 fork (ptrTo h.length 0) (h ++ [.cells (cellsL x0) 37 true]) fun v0 h1 =>
 (fieldAddrf 0 v0).bind fun v2 =>
 (loadf false 1 v2 h1).bind fun v3 =>
 (loadf false 1 x1 h1).bind fun v4 =>
 (binf .gtr v3 v4).bind fun v5 =>
 fin h h1 [v5]

theorem s32_eq (Γ : Callee) (n : Nat) (x0 : Value) (x1 : Value) (h : AHeap) : funK Γ n A32 [x0, x1] h = s32 Γ n x0 x1 h := by kernel_rfl


/-- orchestrion/inst.floorDiv -/
def A33 : AFun := ⟨2, 16,
 (.seq (.region false (.op (some 4) (.move (.const (.int .i64 0))) false
  .nil))
  (.seq (.region false (.op (some 6) (.move (.tmp 0)) false
  (.op (some 7) (.move (.tmp 1)) false
  (.op (some 8) (.bin .quo (.tmp 6) (.tmp 7)) false
  (.op (some 5) (.move (.tmp 8)) false
  .nil)))))
  (.seq (.seq (.region false (.op (some 9) (.move (.tmp 0)) false
  (.op (some 10) (.move (.tmp 1)) false
  (.op (some 11) (.bin .rem (.tmp 9) (.tmp 10)) false
  (.op (some 12) (.bin .lss (.tmp 11) (.const (.int .i64 0))) false
  .nil)))))
  (.cond (.tmp 12) [5] [13, 14]
  (.region false (.op (some 13) (.move (.tmp 5)) false
  (.op (some 14) (.bin .sub (.tmp 13) (.const (.int .i64 1))) false
  (.op (some 5) (.move (.tmp 14)) false
  .nil))))
  .skip))
  (.seq (.region false (.op (some 15) (.move (.tmp 5)) false
  (.op (some 4) (.move (.tmp 15)) false
  .nil)))
  .ret)))),
 [.tmp 4]⟩
theorem ok33 : ∃ fn c, FunOk Try.prog 33 fn c A33 := ⟨Try.f33, _, ⟨Try.func33, rfl, by kernel_rfl, by kernel_rfl, by kernel_rfl, of_decide_eq_true (by kernel_rfl), by kernel_rfl⟩⟩
noncomputable def s33 (Γ : Callee) (n : Nat) (x0 : Value) (x1 : Value) (h : AHeap) : Rt :=
 (binf .quo x0 x1).bind fun v0 =>
 (binf .rem x0 x1).bind fun v1 =>
 (binf .lss v1 ((.int .i64 0) : Value)).bind fun v2 =>
 JL (fun w4 h5 =>
 fin h h5 [(nth w4 0)]) fun j3 =>
 ifK v2 (
 (binf .sub v0 ((.int .i64 1) : Value)).bind fun v6 =>
 j3 [v6] h) (
 j3 [v0] h)

theorem s33_eq (Γ : Callee) (n : Nat) (x0 : Value) (x1 : Value) (h : AHeap) : funK Γ n A33 [x0, x1] h = s33 Γ n x0 x1 h := by kernel_rfl


/-- orchestrion/orchestrionref04.live -/
def A34 : AFun := ⟨1, 9,
 (.seq (.region false (.op (some 1) (.box 24 (.tmp 0)) false
  (.op (some 2) (.move (.const (.bool false))) false
  .nil)))
  (.seq (.region false (.op (some 3) (.fieldAddr 0 (.tmp 1)) false
  (.op (some 4) (.load false 1 (.tmp 3)) false
  (.op (some 5) (.move (.tmp 4)) false
  (.sc 8 5 true [6, 7]
  (.op (some 6) (.load true 8 (.tmp 1)) false
  (.op (some 7) (.call 8 [(.tmp 6), (.const (.int .i64 (-64))), (.const (.int .i64 64))]) false
  .nil)) (.tmp 7)
  (.op (some 2) (.move (.tmp 8)) false
  .nil))))))
  .ret)),
 [.tmp 2]⟩
theorem ok34 : ∃ fn c, FunOk Try.prog 34 fn c A34 := ⟨Try.f34, _, ⟨Try.func34, rfl, by kernel_rfl, by kernel_rfl, by kernel_rfl, of_decide_eq_true (by kernel_rfl), by kernel_rfl⟩⟩
noncomputable def s34 (Γ : Callee) (n : Nat) (x0 : Value) (h : AHeap) : Rt :=
 fork (ptrTo h.length 0) (h ++ [.cells (cellsL x0) 24 true]) fun v0 h1 =>
 (fieldAddrf 0 v0).bind fun v2 =>
 (loadf false 1 v2 h1).bind fun v3 =>
 J1 (fun v5 h6 =>
 fin h h6 [v5]) fun j4 =>
 scK v3 true (
 (loadf true 8 v0 h1).bind fun v7 =>
 (Γ 8 [v7, ((.int .i64 (-64)) : Value), ((.int .i64 64) : Value)] h1).bind fun p8 =>
 j4 p8.1 p8.2)
 (j4 (.bool false) h1)

theorem s34_eq (Γ : Callee) (n : Nat) (x0 : Value) (h : AHeap) : funK Γ n A34 [x0] h = s34 Γ n x0 h := by kernel_rfl


/-- orchestrion/orchestrionref01.Floor -/
def A35 : AFun := ⟨2, 16,
 (.seq (.region false (.op (some 4) (.move (.const (.int .i64 0))) false
  .nil))
  (.seq (.region false (.op (some 6) (.move (.tmp 0)) false
  (.op (some 7) (.move (.tmp 1)) false
  (.op (some 8) (.bin .quo (.tmp 6) (.tmp 7)) false
  (.op (some 5) (.move (.tmp 8)) false
  .nil)))))
  (.seq (.seq (.region false (.op (some 9) (.move (.tmp 0)) false
  (.op (some 10) (.move (.tmp 1)) false
  (.op (some 11) (.bin .rem (.tmp 9) (.tmp 10)) false
  (.op (some 12) (.bin .lss (.tmp 11) (.const (.int .i64 0))) false
  .nil)))))
  (.cond (.tmp 12) [5] [13, 14]
  (.region false (.op (some 13) (.move (.tmp 5)) false
  (.op (some 14) (.bin .sub (.tmp 13) (.const (.int .i64 1))) false
  (.op (some 5) (.move (.tmp 14)) false
  .nil))))
  .skip))
  (.seq (.region false (.op (some 15) (.move (.tmp 5)) false
  (.op (some 4) (.move (.tmp 15)) false
  .nil)))
  .ret)))),
 [.tmp 4]⟩
theorem ok35 : ∃ fn c, FunOk Try.prog 35 fn c A35 := ⟨Try.f35, _, ⟨Try.func35, rfl, by kernel_rfl, by kernel_rfl, by kernel_rfl, of_decide_eq_true (by kernel_rfl), by kernel_rfl⟩⟩
noncomputable def s35 (Γ : Callee) (n : Nat) (x0 : Value) (x1 : Value) (h : AHeap) : Rt :=
 (binf .quo x0 x1).bind fun v0 =>
 (binf .rem x0 x1).bind fun v1 =>
 (binf .lss v1 ((.int .i64 0) : Value)).bind fun v2 =>
 JL (fun w4 h5 =>
 fin h h5 [(nth w4 0)]) fun j3 =>
 ifK v2 (
 (binf .sub v0 ((.int .i64 1) : Value)).bind fun v6 =>
 j3 [v6] h) (
 j3 [v0] h)

theorem s35_eq (Γ : Callee) (n : Nat) (x0 : Value) (x1 : Value) (h : AHeap) : funK Γ n A35 [x0, x1] h = s35 Γ n x0 x1 h := by kernel_rfl


/-- orchestrion/inst.walk -/
def A36 : AFun := ⟨2, 60,
 (.seq (.region false (.op (some 2) (.box 24 (.tmp 0)) false
  (.op (some 4) (.new 64 [(.int .i64 0), (.int .i64 0), (.bool false), (.int .i64 0)]) false
  .nil)))
  (.seq (.region false (.op (some 6) (.fieldAddr 1 (.tmp 2)) false
  (.op (some 7) (.load false 1 (.tmp 6)) false
  (.op (some 8) (.fieldAddr 1 (.tmp 2)) false
  (.op (some 9) (.load false 1 (.tmp 8)) false
  (.op (some 10) (.len false (.tmp 9)) false
  (.op (some 11) (.bin .sub (.tmp 10) (.const (.int .i64 1))) false
  (.op (some 12) (.indexAddr 2 (.tmp 7) (.tmp 11)) false
  (.op (some 13) (.fieldAddr 0 (.tmp 12)) false
  (.op (some 14) (.load false 1 (.tmp 13)) false
  (.op (some 15) (.build [(.int .i64 0), (.int .i64 0), (.bool false), (.int .i64 0)] [(3, 1, (.tmp 14))]) false
  (.op (some 5) (.new 64 [(.int .i64 0), (.int .i64 0), (.bool false), (.int .i64 0)]) false
  (.op none (.store 4 (.tmp 5) (.tmp 15)) false
  .nil)))))))))))))
  (.seq (.block 0 [] [16, 17, 18, 19, 20, 21, 22, 23, 24, 25, 26, 27, 28, 29, 30, 31, 32, 33, 34, 35, 36, 37, 38, 39, 40, 41, 42, 43, 44, 45, 46, 47, 48, 49, 50, 51, 52, 53, 54, 55, 56, 57, 58]
  (.seq (.region false (.op (some 17) (.move (.tmp 1)) false
  (.op (some 18) (.move (.tmp 17)) false
  (.sc 21 18 true [19, 20]
  (.op (some 19) (.fieldAddr 2 (.tmp 2)) false
  (.op (some 20) (.load false 1 (.tmp 19)) false
  .nil)) (.tmp 20)
  (.op (some 16) (.move (.tmp 21)) false
  .nil)))))
  (.cond (.tmp 16) [] [22, 23, 24, 25, 26, 27, 28, 29, 30, 31, 32, 33, 34, 35, 36, 37, 38, 39, 40, 41, 42, 43, 44, 45, 46, 47, 48, 49, 50, 51, 52, 53, 54, 55, 56, 57, 58]
  (.region true (.op (some 22) (.fieldAddr 1 (.tmp 2)) false
  (.op (some 23) (.load false 1 (.tmp 22)) false
  (.op (some 24) (.fieldAddr 3 (.tmp 2)) false
  (.op (some 25) (.load false 1 (.tmp 24)) false
  (.op (some 26) (.indexAddr 2 (.tmp 23) (.tmp 25)) false
  (.op (some 27) (.fieldAddr 0 (.tmp 26)) false
  (.op (some 28) (.load false 1 (.tmp 27)) false
  (.op (some 29) (.fieldAddr 1 (.tmp 2)) false
  (.op (some 30) (.load false 1 (.tmp 29)) false
  (.op (some 31) (.fieldAddr 4 (.tmp 2)) false
  (.op (some 32) (.load false 1 (.tmp 31)) false
  (.op (some 33) (.indexAddr 2 (.tmp 30) (.tmp 32)) false
  (.op (some 34) (.fieldAddr 0 (.tmp 33)) false
  (.op (some 35) (.load false 1 (.tmp 34)) false
  (.op (some 36) (.build [(.int .i64 0), (.int .i64 0)] [(0, 1, (.tmp 28)), (1, 1, (.tmp 35))]) false
  (.op (some 37) (.fieldAddr 0 (.tmp 5)) false
  (.op none (.store 2 (.tmp 37) (.tmp 36)) false
  (.op (some 38) (.fieldAddr 2 (.tmp 5)) false
  (.op none (.store 1 (.tmp 38) (.const (.bool true))) false
  .nil))))))))))))))))))))
  (.seq (.region false (.op (some 40) (.fieldAddr 5 (.tmp 2)) false
  (.op (some 41) (.load false 1 (.tmp 40)) false
  (.op (some 39) (.move (.tmp 41)) false
  .nil))))
  (.cond (.tmp 39) [] [42, 43, 44, 45, 46, 47, 48, 49, 50, 51, 52, 53, 54, 55, 56, 57, 58]
  (.region true (.op (some 42) (.fieldAddr 1 (.tmp 2)) false
  (.op (some 43) (.load false 1 (.tmp 42)) false
  (.op (some 44) (.fieldAddr 6 (.tmp 2)) false
  (.op (some 45) (.load false 1 (.tmp 44)) false
  (.op (some 46) (.indexAddr 2 (.tmp 43) (.tmp 45)) false
  (.op (some 47) (.fieldAddr 0 (.tmp 46)) false
  (.op (some 48) (.load false 1 (.tmp 47)) false
  (.op (some 49) (.fieldAddr 1 (.tmp 2)) false
  (.op (some 50) (.load false 1 (.tmp 49)) false
  (.op (some 51) (.fieldAddr 7 (.tmp 2)) false
  (.op (some 52) (.load false 1 (.tmp 51)) false
  (.op (some 53) (.indexAddr 2 (.tmp 50) (.tmp 52)) false
  (.op (some 54) (.fieldAddr 0 (.tmp 53)) false
  (.op (some 55) (.load false 1 (.tmp 54)) false
  (.op (some 56) (.build [(.int .i64 0), (.int .i64 0)] [(0, 1, (.tmp 48)), (1, 1, (.tmp 55))]) false
  (.op (some 57) (.fieldAddr 0 (.tmp 5)) false
  (.op none (.store 2 (.tmp 57) (.tmp 56)) false
  (.op (some 58) (.fieldAddr 2 (.tmp 5)) false
  (.op none (.store 1 (.tmp 58) (.const (.bool true))) false
  .nil))))))))))))))))))))
  .skip)))))
  (.seq (.region false (.op (some 59) (.load true 4 (.tmp 5)) false
  (.op none (.store 4 (.tmp 4) (.tmp 59)) false
  .nil)))
  .ret)))),
 [.cell 4 true 4]⟩
theorem ok36 : ∃ fn c, FunOk Try.prog 36 fn c A36 := ⟨Try.f36, _, ⟨Try.func36, rfl, by kernel_rfl, by kernel_rfl, by kernel_rfl, of_decide_eq_true (by kernel_rfl), by kernel_rfl⟩⟩
noncomputable def s36 (Γ : Callee) (n : Nat) (x0 : Value) (x1 : Value) (h : AHeap) : Rt :=
 fork (ptrTo h.length 0) (h ++ [.cells (cellsL x0) 24 true]) fun v0 h1 =>
 fork (ptrTo h1.length 0) (h1 ++ [.cells [(.int .i64 0), (.int .i64 0), (.bool false), (.int .i64 0)] 64 true]) fun v2 h3 =>
 (fieldAddrf 1 v0).bind fun v4 =>
 (loadf false 1 v4 h3).bind fun v5 =>
 (fieldAddrf 1 v0).bind fun v6 =>
 (loadf false 1 v6 h3).bind fun v7 =>
 (lenf false v7).bind fun v8 =>
 (binf .sub v8 ((.int .i64 1) : Value)).bind fun v9 =>
 (indexAddrf 2 v5 v9).bind fun v10 =>
 (fieldAddrf 0 v10).bind fun v11 =>
 (loadf false 1 v11 h3).bind fun v12 =>
 (fillf [(.int .i64 0), (.int .i64 0), (.bool false), (.int .i64 0)] [(3, 1, v12)]).bind fun l13 =>
 fork (ptrTo h3.length 0) (h3 ++ [.cells [(.int .i64 0), (.int .i64 0), (.bool false), (.int .i64 0)] 64 true]) fun v14 h15 =>
 (storef 4 v14 (Value.agg l13.toArray) h15).bind fun h16 =>
 JL (fun w18 h19 =>
 (loadf true 4 v14 h19).bind fun v20 =>
 (storef 4 v2 v20 h19).bind fun h21 =>
 (loadf true 4 v2 h21).bind fun v22 =>
 fin h h21 [v22]) fun j17 =>
 J1 (fun v24 h25 =>
 JL (fun w27 h28 =>
 j17 [] h28) fun j26 =>
 ifK v24 (
 (fieldAddrf 1 v0).bind fun v29 =>
 (loadf false 1 v29 h25).bind fun v30 =>
 (fieldAddrf 3 v0).bind fun v31 =>
 (loadf false 1 v31 h25).bind fun v32 =>
 (indexAddrf 2 v30 v32).bind fun v33 =>
 (fieldAddrf 0 v33).bind fun v34 =>
 (loadf false 1 v34 h25).bind fun v35 =>
 (fieldAddrf 1 v0).bind fun v36 =>
 (loadf false 1 v36 h25).bind fun v37 =>
 (fieldAddrf 4 v0).bind fun v38 =>
 (loadf false 1 v38 h25).bind fun v39 =>
 (indexAddrf 2 v37 v39).bind fun v40 =>
 (fieldAddrf 0 v40).bind fun v41 =>
 (loadf false 1 v41 h25).bind fun v42 =>
 (fillf [(.int .i64 0), (.int .i64 0)] [(0, 1, v35), (1, 1, v42)]).bind fun l43 =>
 (fieldAddrf 0 v14).bind fun v44 =>
 (storef 2 v44 (Value.agg l43.toArray) h25).bind fun h45 =>
 (fieldAddrf 2 v14).bind fun v46 =>
 (storef 1 v46 ((.bool true) : Value) h45).bind fun h47 =>
 j26 [] h47) (
 (fieldAddrf 5 v0).bind fun v48 =>
 (loadf false 1 v48 h25).bind fun v49 =>
 JL (fun w51 h52 =>
 j26 [] h52) fun j50 =>
 ifK v49 (
 (fieldAddrf 1 v0).bind fun v53 =>
 (loadf false 1 v53 h25).bind fun v54 =>
 (fieldAddrf 6 v0).bind fun v55 =>
 (loadf false 1 v55 h25).bind fun v56 =>
 (indexAddrf 2 v54 v56).bind fun v57 =>
 (fieldAddrf 0 v57).bind fun v58 =>
 (loadf false 1 v58 h25).bind fun v59 =>
 (fieldAddrf 1 v0).bind fun v60 =>
 (loadf false 1 v60 h25).bind fun v61 =>
 (fieldAddrf 7 v0).bind fun v62 =>
 (loadf false 1 v62 h25).bind fun v63 =>
 (indexAddrf 2 v61 v63).bind fun v64 =>
 (fieldAddrf 0 v64).bind fun v65 =>
 (loadf false 1 v65 h25).bind fun v66 =>
 (fillf [(.int .i64 0), (.int .i64 0)] [(0, 1, v59), (1, 1, v66)]).bind fun l67 =>
 (fieldAddrf 0 v14).bind fun v68 =>
 (storef 2 v68 (Value.agg l67.toArray) h25).bind fun h69 =>
 (fieldAddrf 2 v14).bind fun v70 =>
 (storef 1 v70 ((.bool true) : Value) h69).bind fun h71 =>
 j50 [] h71) (
 j50 [] h25))) fun j23 =>
 scK x1 true (
 (fieldAddrf 2 v0).bind fun v72 =>
 (loadf false 1 v72 h16).bind fun v73 =>
 j23 v73 h16)
 (j23 (.bool false) h16)

theorem s36_eq (Γ : Callee) (n : Nat) (x0 : Value) (x1 : Value) (h : AHeap) : funK Γ n A36 [x0, x1] h = s36 Γ n x0 x1 h := by kernel_rfl


/-- (orchestrion/inst.walker).next -/
def A37 : AFun := ⟨2, 19,
 (.seq (.region false (.op (some 2) (.box 64 (.tmp 0)) false
  (.op (some 4) (.move (.const (.int .i64 0))) false
  .nil)))
  (.seq (.seq (.region false (.op (some 5) (.fieldAddr 2 (.tmp 2)) false
  (.op (some 6) (.load false 1 (.tmp 5)) false
  .nil)))
  (.cond (.tmp 6) [] [4, 7, 8, 9, 10]
  (.seq (.region false (.op (some 7) (.fieldAddr 0 (.tmp 2)) false
  (.op (some 8) (.load true 2 (.tmp 7)) false
  (.op (some 9) (.move (.tmp 1)) false
  (.op (some 10) (.call 52 [(.tmp 8), (.tmp 9)]) false
  (.op (some 4) (.move (.tmp 10)) false
  .nil))))))
  .ret)
  .skip))
  (.seq (.seq (.region false (.op (some 11) (.move (.tmp 1)) false
  (.op (some 12) (.fieldAddr 3 (.tmp 2)) false
  (.op (some 13) (.load false 1 (.tmp 12)) false
  (.op (some 14) (.bin .geq (.tmp 11) (.tmp 13)) false
  .nil)))))
  (.cond (.tmp 14) [] [4, 15, 16]
  (.seq (.region false (.op (some 15) (.fieldAddr 3 (.tmp 2)) false
  (.op (some 16) (.load false 1 (.tmp 15)) false
  (.op (some 4) (.move (.tmp 16)) false
  .nil))))
  .ret)
  .skip))
  (.seq (.region false (.op (some 17) (.move (.tmp 1)) false
  (.op (some 18) (.bin .add (.tmp 17) (.const (.int .i64 1))) false
  (.op (some 4) (.move (.tmp 18)) false
  .nil))))
  .ret)))),
 [.tmp 4]⟩
theorem ok37 : ∃ fn c, FunOk Try.prog 37 fn c A37 := ⟨Try.f37, _, ⟨Try.func37, rfl, by kernel_rfl, by kernel_rfl, by kernel_rfl, of_decide_eq_true (by kernel_rfl), by kernel_rfl⟩⟩
noncomputable def s37 (Γ : Callee) (n : Nat) (x0 : Value) (x1 : Value) (h : AHeap) : Rt :=
 fork (ptrTo h.length 0) (h ++ [.cells (cellsL x0) 64 true]) fun v0 h1 =>
 (fieldAddrf 2 v0).bind fun v2 =>
 (loadf false 1 v2 h1).bind fun v3 =>
 JL (fun w5 h6 =>
 (fieldAddrf 3 v0).bind fun v7 =>
 (loadf false 1 v7 h6).bind fun v8 =>
 (binf .geq x1 v8).bind fun v9 =>
 JL (fun w11 h12 =>
 (binf .add x1 ((.int .i64 1) : Value)).bind fun v13 =>
 fin h h12 [v13]) fun j10 =>
 ifK v9 (
 (fieldAddrf 3 v0).bind fun v14 =>
 (loadf false 1 v14 h6).bind fun v15 =>
 fin h h6 [v15]) (
 j10 [] h6)) fun j4 =>
 ifK v3 (
 (fieldAddrf 0 v0).bind fun v16 =>
 (loadf true 2 v16 h1).bind fun v17 =>
 (Γ 52 [v17, x1] h1).bind fun p18 =>
 fin h p18.2 [p18.1]) (
 j4 [] h1)

theorem s37_eq (Γ : Callee) (n : Nat) (x0 : Value) (x1 : Value) (h : AHeap) : funK Γ n A37 [x0, x1] h = s37 Γ n x0 x1 h := by kernel_rfl


/-- orchestrion/orchestrionref04.circle -/
def A38 : AFun := ⟨2, 44,
 (.seq (.region false (.op (some 2) (.box 24 (.tmp 0)) false
  (.op (some 4) (.move (.const (.int .i64 0))) false
  (.op (some 5) (.move (.const (.int .i64 0))) false
  (.op (some 6) (.move (.const (.bool false))) false
  .nil)))))
  (.seq (.block 0 [] [4, 5, 6, 7, 8, 9, 10, 11, 12, 13, 14, 15, 16, 17, 18, 19, 20, 21, 22, 23, 24, 25, 26, 27, 28, 29, 30, 31, 32, 33, 34, 35, 36, 37, 38, 39, 40, 41, 42, 43]
  (.seq (.region false (.op (some 8) (.move (.tmp 1)) false
  (.op (some 9) (.move (.tmp 8)) false
  (.sc 12 9 true [10, 11]
  (.op (some 10) (.fieldAddr 2 (.tmp 2)) false
  (.op (some 11) (.load false 1 (.tmp 10)) false
  .nil)) (.tmp 11)
  (.op (some 7) (.move (.tmp 12)) false
  .nil)))))
  (.cond (.tmp 7) [] [4, 5, 6, 13, 14, 15, 16, 17, 18, 19, 20, 21, 22, 23, 24, 25, 26, 27, 28, 29, 30, 31, 32, 33, 34, 35, 36, 37, 38, 39, 40, 41, 42, 43]
  (.seq (.region true (.op (some 13) (.fieldAddr 1 (.tmp 2)) false
  (.op (some 14) (.load false 1 (.tmp 13)) false
  (.op (some 15) (.fieldAddr 3 (.tmp 2)) false
  (.op (some 16) (.load false 1 (.tmp 15)) false
  (.op (some 17) (.indexAddr 2 (.tmp 14) (.tmp 16)) false
  (.op (some 18) (.fieldAddr 0 (.tmp 17)) false
  (.op (some 19) (.load false 1 (.tmp 18)) false
  (.op (some 20) (.fieldAddr 1 (.tmp 2)) false
  (.op (some 21) (.load false 1 (.tmp 20)) false
  (.op (some 22) (.fieldAddr 4 (.tmp 2)) false
  (.op (some 23) (.load false 1 (.tmp 22)) false
  (.op (some 24) (.indexAddr 2 (.tmp 21) (.tmp 23)) false
  (.op (some 25) (.fieldAddr 0 (.tmp 24)) false
  (.op (some 26) (.load false 1 (.tmp 25)) false
  (.op (some 4) (.move (.tmp 19)) false
  (.op (some 5) (.move (.tmp 26)) false
  (.op (some 6) (.move (.const (.bool true))) false
  .nil))))))))))))))))))
  .ret)
  (.seq (.region false (.op (some 28) (.fieldAddr 5 (.tmp 2)) false
  (.op (some 29) (.load false 1 (.tmp 28)) false
  (.op (some 27) (.move (.tmp 29)) false
  .nil))))
  (.cond (.tmp 27) [] [4, 5, 6, 30, 31, 32, 33, 34, 35, 36, 37, 38, 39, 40, 41, 42, 43]
  (.seq (.region true (.op (some 30) (.fieldAddr 1 (.tmp 2)) false
  (.op (some 31) (.load false 1 (.tmp 30)) false
  (.op (some 32) (.fieldAddr 6 (.tmp 2)) false
  (.op (some 33) (.load false 1 (.tmp 32)) false
  (.op (some 34) (.indexAddr 2 (.tmp 31) (.tmp 33)) false
  (.op (some 35) (.fieldAddr 0 (.tmp 34)) false
  (.op (some 36) (.load false 1 (.tmp 35)) false
  (.op (some 37) (.fieldAddr 1 (.tmp 2)) false
  (.op (some 38) (.load false 1 (.tmp 37)) false
  (.op (some 39) (.fieldAddr 7 (.tmp 2)) false
  (.op (some 40) (.load false 1 (.tmp 39)) false
  (.op (some 41) (.indexAddr 2 (.tmp 38) (.tmp 40)) false
  (.op (some 42) (.fieldAddr 0 (.tmp 41)) false
  (.op (some 43) (.load false 1 (.tmp 42)) false
  (.op (some 4) (.move (.tmp 36)) false
  (.op (some 5) (.move (.tmp 43)) false
  (.op (some 6) (.move (.const (.bool true))) false
  .nil))))))))))))))))))
  .ret)
  .skip)))))
  (.seq (.region false (.op (some 4) (.move (.const (.int .i64 0))) false
  (.op (some 5) (.move (.const (.int .i64 0))) false
  (.op (some 6) (.move (.const (.bool false))) false
  .nil))))
  .ret))),
 [.tmp 4, .tmp 5, .tmp 6]⟩
theorem ok38 : ∃ fn c, FunOk Try.prog 38 fn c A38 := ⟨Try.f38, _, ⟨Try.func38, rfl, by kernel_rfl, by kernel_rfl, by kernel_rfl, of_decide_eq_true (by kernel_rfl), by kernel_rfl⟩⟩
noncomputable def s38 (Γ : Callee) (n : Nat) (x0 : Value) (x1 : Value) (h : AHeap) : Rt :=
 fork (ptrTo h.length 0) (h ++ [.cells (cellsL x0) 24 true]) fun v0 h1 =>
 JL (fun w3 h4 =>
 fin h h4 [((.int .i64 0) : Value), ((.int .i64 0) : Value), ((.bool false) : Value)]) fun j2 =>
 J1 (fun v6 h7 =>
 JL (fun w9 h10 =>
 j2 [] h10) fun j8 =>
 ifK v6 (
 (fieldAddrf 1 v0).bind fun v11 =>
 (loadf false 1 v11 h7).bind fun v12 =>
 (fieldAddrf 3 v0).bind fun v13 =>
 (loadf false 1 v13 h7).bind fun v14 =>
 (indexAddrf 2 v12 v14).bind fun v15 =>
 (fieldAddrf 0 v15).bind fun v16 =>
 (loadf false 1 v16 h7).bind fun v17 =>
 (fieldAddrf 1 v0).bind fun v18 =>
 (loadf false 1 v18 h7).bind fun v19 =>
 (fieldAddrf 4 v0).bind fun v20 =>
 (loadf false 1 v20 h7).bind fun v21 =>
 (indexAddrf 2 v19 v21).bind fun v22 =>
 (fieldAddrf 0 v22).bind fun v23 =>
 (loadf false 1 v23 h7).bind fun v24 =>
 fin h h7 [v17, v24, ((.bool true) : Value)]) (
 (fieldAddrf 5 v0).bind fun v25 =>
 (loadf false 1 v25 h7).bind fun v26 =>
 JL (fun w28 h29 =>
 j8 [] h29) fun j27 =>
 ifK v26 (
 (fieldAddrf 1 v0).bind fun v30 =>
 (loadf false 1 v30 h7).bind fun v31 =>
 (fieldAddrf 6 v0).bind fun v32 =>
 (loadf false 1 v32 h7).bind fun v33 =>
 (indexAddrf 2 v31 v33).bind fun v34 =>
 (fieldAddrf 0 v34).bind fun v35 =>
 (loadf false 1 v35 h7).bind fun v36 =>
 (fieldAddrf 1 v0).bind fun v37 =>
 (loadf false 1 v37 h7).bind fun v38 =>
 (fieldAddrf 7 v0).bind fun v39 =>
 (loadf false 1 v39 h7).bind fun v40 =>
 (indexAddrf 2 v38 v40).bind fun v41 =>
 (fieldAddrf 0 v41).bind fun v42 =>
 (loadf false 1 v42 h7).bind fun v43 =>
 fin h h7 [v36, v43, ((.bool true) : Value)]) (
 j27 [] h7))) fun j5 =>
 scK x1 true (
 (fieldAddrf 2 v0).bind fun v44 =>
 (loadf false 1 v44 h1).bind fun v45 =>
 j5 v45 h1)
 (j5 (.bool false) h1)

theorem s38_eq (Γ : Callee) (n : Nat) (x0 : Value) (x1 : Value) (h : AHeap) : funK Γ n A38 [x0, x1] h = s38 Γ n x0 x1 h := by kernel_rfl


/-- orchestrion/orchestrionref04.last -/
def A39 : AFun := ⟨1, 12,
 (.seq (.region false (.op (some 1) (.box 24 (.tmp 0)) false
  (.op (some 2) (.move (.const (.int .i64 0))) false
  .nil)))
  (.seq (.region false (.op (some 3) (.fieldAddr 1 (.tmp 1)) false
  (.op (some 4) (.load false 1 (.tmp 3)) false
  (.op (some 5) (.fieldAddr 1 (.tmp 1)) false
  (.op (some 6) (.load false 1 (.tmp 5)) false
  (.op (some 7) (.len false (.tmp 6)) false
  (.op (some 8) (.bin .sub (.tmp 7) (.const (.int .i64 1))) false
  (.op (some 9) (.indexAddr 2 (.tmp 4) (.tmp 8)) false
  (.op (some 10) (.fieldAddr 0 (.tmp 9)) false
  (.op (some 11) (.load false 1 (.tmp 10)) false
  (.op (some 2) (.move (.tmp 11)) false
  .nil)))))))))))
  .ret)),
 [.tmp 2]⟩
theorem ok39 : ∃ fn c, FunOk Try.prog 39 fn c A39 := ⟨Try.f39, _, ⟨Try.func39, rfl, by kernel_rfl, by kernel_rfl, by kernel_rfl, of_decide_eq_true (by kernel_rfl), by kernel_rfl⟩⟩
noncomputable def s39 (Γ : Callee) (n : Nat) (x0 : Value) (h : AHeap) : Rt :=
 fork (ptrTo h.length 0) (h ++ [.cells (cellsL x0) 24 true]) fun v0 h1 =>
 (fieldAddrf 1 v0).bind fun v2 =>
 (loadf false 1 v2 h1).bind fun v3 =>
 (fieldAddrf 1 v0).bind fun v4 =>
 (loadf false 1 v4 h1).bind fun v5 =>
 (lenf false v5).bind fun v6 =>
 (binf .sub v6 ((.int .i64 1) : Value)).bind fun v7 =>
 (indexAddrf 2 v3 v7).bind fun v8 =>
 (fieldAddrf 0 v8).bind fun v9 =>
 (loadf false 1 v9 h1).bind fun v10 =>
 fin h h1 [v10]

theorem s39_eq (Γ : Callee) (n : Nat) (x0 : Value) (h : AHeap) : funK Γ n A39 [x0] h = s39 Γ n x0 h := by kernel_rfl


/-- orchestrion/inst.ticks -/
def A40 : AFun := ⟨2, 6,
 (.seq (.region false (.op (some 2) (.box 24 (.tmp 0)) false
  (.op (some 3) (.box 3 (.tmp 1)) false
  (.op (some 4) (.move (.const .nilFunc)) false
  .nil))))
  (.seq (.region false (.op (some 5) (.mkFunc 53 [] [(.tmp 2), (.tmp 3)]) false
  (.op (some 4) (.move (.tmp 5)) false
  .nil)))
  .ret)),
 [.tmp 4]⟩
theorem ok40 : ∃ fn c, FunOk Try.prog 40 fn c A40 := ⟨Try.f40, _, ⟨Try.func40, rfl, by kernel_rfl, by kernel_rfl, by kernel_rfl, of_decide_eq_true (by kernel_rfl), by kernel_rfl⟩⟩
noncomputable def s40 (Γ : Callee) (n : Nat) (x0 : Value) (x1 : Value) (h : AHeap) : Rt :=
 fork (ptrTo h.length 0) (h ++ [.cells (cellsL x0) 24 true]) fun v0 h1 =>
 fork (ptrTo h1.length 0) (h1 ++ [.cells (cellsL x1) 3 true]) fun v2 h3 =>
 fin h h3 [(Value.func (.func 53) (List.toArray []) (List.toArray [v0, v2]))]

theorem s40_eq (Γ : Callee) (n : Nat) (x0 : Value) (x1 : Value) (h : AHeap) : funK Γ n A40 [x0, x1] h = s40 Γ n x0 x1 h := by kernel_rfl


/-- orchestrion/inst.within -/
def A41 : AFun := ⟨3, 15,
 (.seq (.region false (.op (some 6) (.move (.const (.bool false))) false
  .nil))
  (.seq (.region false (.op (some 7) (.move (.tmp 0)) false
  (.op (some 8) (.move (.tmp 1)) false
  (.op (some 9) (.bin .geq (.tmp 7) (.tmp 8)) false
  (.op (some 10) (.move (.tmp 9)) false
  (.sc 14 10 true [11, 12, 13]
  (.op (some 11) (.move (.tmp 0)) false
  (.op (some 12) (.move (.tmp 2)) false
  (.op (some 13) (.bin .leq (.tmp 11) (.tmp 12)) false
  .nil))) (.tmp 13)
  (.op (some 6) (.move (.tmp 14)) false
  .nil)))))))
  .ret)),
 [.tmp 6]⟩
theorem ok41 : ∃ fn c, FunOk Try.prog 41 fn c A41 := ⟨Try.f41, _, ⟨Try.func41, rfl, by kernel_rfl, by kernel_rfl, by kernel_rfl, of_decide_eq_true (by kernel_rfl), by kernel_rfl⟩⟩
noncomputable def s41 (Γ : Callee) (n : Nat) (x0 : Value) (x1 : Value) (x2 : Value) (h : AHeap) : Rt :=
 (binf .geq x0 x1).bind fun v0 =>
 J1 (fun v2 h3 =>
 fin h h3 [v2]) fun j1 =>
 scK v0 true (
 (binf .leq x0 x2).bind fun v4 =>
 j1 v4 h)
 (j1 (.bool false) h)

theorem s41_eq (Γ : Callee) (n : Nat) (x0 : Value) (x1 : Value) (x2 : Value) (h : AHeap) : funK Γ n A41 [x0, x1, x2] h = s41 Γ n x0 x1 x2 h := by kernel_rfl


/-- orchestrion/inst.isName -/
def A43 : AFun := ⟨1, 23,
 (.seq (.region false (.op (some 2) (.move (.const (.bool false))) false
  .nil))
  (.seq (.seq (.region false (.op (some 4) (.move (.tmp 0)) false
  (.op (some 5) (.len true (.tmp 4)) false
  (.op (some 6) (.move (.const (.int .i64 0))) false
  .nil))))
  (.block 0 [] [2, 3, 6, 7, 8, 9, 10, 11, 12, 13, 14, 15, 16, 17, 18, 19]
  (.loop [6, 14, 15, 16, 17] [2, 3, 7, 8, 9, 10, 11, 12, 13, 18, 19]
  (.seq (.region false (.op (some 7) (.bin .lss (.tmp 6) (.tmp 5)) false
  .nil))
  (.seq (.cond (.tmp 7) [] []
  .skip
  (.exit 0))
  (.seq (.block 1 [14, 15, 16, 17] [2, 3, 8, 9, 10, 11, 12, 13, 18]
  (.seq (.region false (.op (some 8) (.move (.tmp 6)) false
  (.op (some 3) (.move (.tmp 8)) false
  .nil)))
  (.seq (.region false (.op (some 9) (.move (.tmp 0)) false
  (.op (some 10) (.move (.tmp 3)) false
  (.op (some 11) (.indexStr (.tmp 9) (.tmp 10)) false
  (.op (some 12) (.bin .lss (.tmp 11) (.const (.int .u8 32))) false
  (.op (some 13) (.move (.tmp 12)) false
  (.sc 18 13 false [14, 15, 16, 17]
  (.op (some 14) (.move (.tmp 0)) false
  (.op (some 15) (.move (.tmp 3)) false
  (.op (some 16) (.indexStr (.tmp 14) (.tmp 15)) false
  (.op (some 17) (.bin .gtr (.tmp 16) (.const (.int .u8 126))) false
  .nil)))) (.tmp 17)
  .nil)))))))
  (.cond (.tmp 18) [] [2]
  (.seq (.region false (.op (some 2) (.move (.const (.bool false))) false
  .nil))
  .ret)
  .skip))))
  (.region false (.op (some 19) (.bin .add (.tmp 6) (.const (.int .i64 1))) false
  (.op (some 6) (.move (.tmp 19)) false
  .nil)))))))))
  (.seq (.region false (.op (some 20) (.move (.tmp 0)) false
  (.op (some 21) (.len true (.tmp 20)) false
  (.op (some 22) (.bin .leq (.tmp 21) (.const (.int .i64 22))) false
  (.op (some 2) (.move (.tmp 22)) false
  .nil)))))
  .ret))),
 [.tmp 2]⟩
theorem ok43 : ∃ fn c, FunOk Try.prog 43 fn c A43 := ⟨Try.f43, _, ⟨Try.func43, rfl, by kernel_rfl, by kernel_rfl, by kernel_rfl, of_decide_eq_true (by kernel_rfl), by kernel_rfl⟩⟩
noncomputable def s43_L0 (Γ : Callee) (n : Nat) (x0 : Value) (h : AHeap) (v0 : Value) (j1 : List Value → AHeap → Rt) : (List Value → AHeap → Rt) → List Value → AHeap → Rt := fun c6 w7 h8 =>
 (binf .lss (nth w7 0) v0).bind fun v9 =>
 JL (fun w11 h12 =>
 JL (fun w14 h15 =>
 (binf .add (nth w7 0) ((.int .i64 1) : Value)).bind fun v16 =>
 c6 [v16, (nth w14 0), (nth w14 1), (nth w14 2), (nth w14 3)] h15) fun j13 =>
 (indexStrf x0 (nth w7 0)).bind fun v17 =>
 (binf .lss v17 ((.int .u8 32) : Value)).bind fun v18 =>
 J1 (fun v20 h21 =>
 JL (fun w23 h24 =>
 j13 [junk, junk, junk, junk] h24) fun j22 =>
 ifK v20 (
 fin h h21 [((.bool false) : Value)]) (
 j22 [] h21)) fun j19 =>
 scK v18 false (
 (indexStrf x0 (nth w7 0)).bind fun v25 =>
 (binf .gtr v25 ((.int .u8 126) : Value)).bind fun v26 =>
 j19 v26 h12)
 (j19 (.bool true) h12)) fun j10 =>
 ifK v9 (
 j10 [] h8) (
 j1 [] h8)
noncomputable def s43 (Γ : Callee) (n : Nat) (x0 : Value) (h : AHeap) : Rt :=
 (lenf true x0).bind fun v0 =>
 JL (fun w2 h3 =>
 (lenf true x0).bind fun v4 =>
 (binf .leq v4 ((.int .i64 22) : Value)).bind fun v5 =>
 fin h h3 [v5]) fun j1 =>
 loopN (s43_L0 Γ n x0 h v0 j1) n [((.int .i64 0) : Value), undef, undef, undef, undef] h

theorem s43_eq (Γ : Callee) (n : Nat) (x0 : Value) (h : AHeap) : funK Γ n A43 [x0] h = s43 Γ n x0 h := by kernel_rfl


/-- slices.ContainsFunc[[]orchestrion/api.Key,orchestrion/api.Key] -/
def A44 : AFun := ⟨2, 9,
 (.seq (.region false (.op (some 4) (.move (.const (.bool false))) false
  .nil))
  (.seq (.region false (.op (some 5) (.move (.tmp 0)) false
  (.op (some 6) (.move (.tmp 1)) false
  (.op (some 7) (.call 54 [(.tmp 5), (.tmp 6)]) false
  (.op (some 8) (.bin .geq (.tmp 7) (.const (.int .i64 0))) false
  (.op (some 4) (.move (.tmp 8)) false
  .nil))))))
  .ret)),
 [.tmp 4]⟩
theorem ok44 : ∃ fn c, FunOk Try.prog 44 fn c A44 := ⟨Try.f44, _, ⟨Try.func44, rfl, by kernel_rfl, by kernel_rfl, by kernel_rfl, of_decide_eq_true (by kernel_rfl), by kernel_rfl⟩⟩
noncomputable def s44 (Γ : Callee) (n : Nat) (x0 : Value) (x1 : Value) (h : AHeap) : Rt :=
 (Γ 54 [x0, x1] h).bind fun p0 =>
 (binf .geq p0.1 ((.int .i64 0) : Value)).bind fun v1 =>
 fin h p0.2 [v1]

theorem s44_eq (Γ : Callee) (n : Nat) (x0 : Value) (x1 : Value) (h : AHeap) : funK Γ n A44 [x0, x1] h = s44 Γ n x0 x1 h := by kernel_rfl


/-- orchestrion/inst.Valid$1 -/
def A45 : AFun := ⟨1, 13,
 (.seq (.region false (.op (some 1) (.box 52 (.tmp 0)) false
  (.op (some 2) (.move (.const (.bool false))) false
  .nil)))
  (.seq (.region false (.op (some 3) (.fieldAddr 0 (.tmp 1)) false
  (.op (some 4) (.load false 1 (.tmp 3)) false
  (.op (some 5) (.call 41 [(.tmp 4), (.const (.int .i64 0)), (.const (.int .i64 119))]) false
  (.op (some 6) (.un .not (.tmp 5)) false
  (.op (some 7) (.move (.tmp 6)) false
  (.sc 12 7 false [8, 9, 10, 11]
  (.op (some 8) (.fieldAddr 1 (.tmp 1)) false
  (.op (some 9) (.load false 1 (.tmp 8)) false
  (.op (some 10) (.call 41 [(.tmp 9), (.const (.int .i64 0)), (.const (.int .i64 31))]) false
  (.op (some 11) (.un .not (.tmp 10)) false
  .nil)))) (.tmp 11)
  (.op (some 2) (.move (.tmp 12)) false
  .nil))))))))
  .ret)),
 [.tmp 2]⟩
theorem ok45 : ∃ fn c, FunOk Try.prog 45 fn c A45 := ⟨Try.f45, _, ⟨Try.func45, rfl, by kernel_rfl, by kernel_rfl, by kernel_rfl, of_decide_eq_true (by kernel_rfl), by kernel_rfl⟩⟩
noncomputable def s45 (Γ : Callee) (n : Nat) (x0 : Value) (h : AHeap) : Rt :=
 fork (ptrTo h.length 0) (h ++ [.cells (cellsL x0) 52 true]) fun v0 h1 =>
 (fieldAddrf 0 v0).bind fun v2 =>
 (loadf false 1 v2 h1).bind fun v3 =>
 (Γ 41 [v3, ((.int .i64 0) : Value), ((.int .i64 119) : Value)] h1).bind fun p4 =>
 (unf .not p4.1).bind fun v5 =>
 J1 (fun v7 h8 =>
 fin h h8 [v7]) fun j6 =>
 scK v5 false (
 (fieldAddrf 1 v0).bind fun v9 =>
 (loadf false 1 v9 p4.2).bind fun v10 =>
 (Γ 41 [v10, ((.int .i64 0) : Value), ((.int .i64 31) : Value)] p4.2).bind fun p11 =>
 (unf .not p11.1).bind fun v12 =>
 j6 v12 p11.2)
 (j6 (.bool true) p4.2)

theorem s45_eq (Γ : Callee) (n : Nat) (x0 : Value) (h : AHeap) : funK Γ n A45 [x0] h = s45 Γ n x0 h := by kernel_rfl


/-- (orchestrion/inst.circle).on -/
def A52 : AFun := ⟨2, 13,
 (.seq (.region false (.op (some 2) (.box 62 (.tmp 0)) false
  (.op (some 4) (.move (.const (.int .i64 0))) false
  .nil)))
  (.seq (.seq (.region false (.op (some 5) (.move (.tmp 1)) false
  (.op (some 6) (.fieldAddr 1 (.tmp 2)) false
  (.op (some 7) (.load false 1 (.tmp 6)) false
  (.op (some 8) (.bin .geq (.tmp 5) (.tmp 7)) false
  .nil)))))
  (.cond (.tmp 8) [] [4, 9, 10]
  (.seq (.region false (.op (some 9) (.fieldAddr 0 (.tmp 2)) false
  (.op (some 10) (.load false 1 (.tmp 9)) false
  (.op (some 4) (.move (.tmp 10)) false
  .nil))))
  .ret)
  .skip))
  (.seq (.region false (.op (some 11) (.move (.tmp 1)) false
  (.op (some 12) (.bin .add (.tmp 11) (.const (.int .i64 1))) false
  (.op (some 4) (.move (.tmp 12)) false
  .nil))))
  .ret))),
 [.tmp 4]⟩
theorem ok52 : ∃ fn c, FunOk Try.prog 52 fn c A52 := ⟨Try.f52, _, ⟨Try.func52, rfl, by kernel_rfl, by kernel_rfl, by kernel_rfl, of_decide_eq_true (by kernel_rfl), by kernel_rfl⟩⟩
noncomputable def s52 (Γ : Callee) (n : Nat) (x0 : Value) (x1 : Value) (h : AHeap) : Rt :=
 fork (ptrTo h.length 0) (h ++ [.cells (cellsL x0) 62 true]) fun v0 h1 =>
 (fieldAddrf 1 v0).bind fun v2 =>
 (loadf false 1 v2 h1).bind fun v3 =>
 (binf .geq x1 v3).bind fun v4 =>
 JL (fun w6 h7 =>
 (binf .add x1 ((.int .i64 1) : Value)).bind fun v8 =>
 fin h h7 [v8]) fun j5 =>
 ifK v4 (
 (fieldAddrf 0 v0).bind fun v9 =>
 (loadf false 1 v9 h1).bind fun v10 =>
 fin h h1 [v10]) (
 j5 [] h1)

theorem s52_eq (Γ : Callee) (n : Nat) (x0 : Value) (x1 : Value) (h : AHeap) : funK Γ n A52 [x0, x1] h = s52 Γ n x0 x1 h := by kernel_rfl


/-- orchestrion/inst.ticks$1 -/
def A53 : AFun := ⟨3, 18,
 (.seq (.region false (.op (some 4) (.move (.const (.int .i64 0))) false
  .nil))
  (.seq (.region false (.op (some 5) (.move (.const (.int .i64 0))) false
  .nil))
  (.block 0 [] [4, 5, 6, 7, 8, 9, 10, 11, 12, 13, 14, 15, 16, 17]
  (.loop [4, 5] [6, 7, 8, 9, 10, 11, 12, 13, 14, 15, 16, 17]
  (.seq (.seq (.region false (.op (some 6) (.move (.tmp 0)) false
  (.op (some 7) (.move (.tmp 5)) false
  (.op (some 8) (.move (.tmp 4)) false
  (.op (some 9) (.callV (.tmp 6) [(.tmp 7), (.tmp 8)]) false
  .nil)))))
  (.cond (.tmp 9) [] []
  .skip
  (.exit 0)))
  (.seq (.block 1 [4] [12, 13, 14, 15, 16, 17]
  (.region false (.op (some 12) (.load true 8 (.tmp 1)) false
  (.op (some 13) (.move (.tmp 4)) false
  (.op (some 14) (.move (.tmp 5)) false
  (.op (some 15) (.load false 1 (.tmp 2)) false
  (.op (some 16) (.bin .lss (.tmp 14) (.tmp 15)) false
  (.op (some 17) (.call 11 [(.tmp 12), (.tmp 13), (.tmp 16)]) false
  (.op (some 4) (.move (.tmp 17)) false
  .nil)))))))))
  (.region false (.op (some 10) (.move (.tmp 5)) false
  (.op (some 11) (.bin .add (.tmp 10) (.const (.int .i64 1))) false
  (.op (some 5) (.move (.tmp 11)) false
  .nil)))))))))),
 []⟩
theorem ok53 : ∃ fn c, FunOk Try.prog 53 fn c A53 := ⟨Try.f53, _, ⟨Try.func53, rfl, by kernel_rfl, by kernel_rfl, by kernel_rfl, of_decide_eq_true (by kernel_rfl), by kernel_rfl⟩⟩
noncomputable def s53_L0 (Γ : Callee) (n : Nat) (x0 : Value) (x1 : Value) (x2 : Value) (j0 : List Value → AHeap → Rt) : (List Value → AHeap → Rt) → List Value → AHeap → Rt := fun c3 w4 h5 =>
 (callVf Γ x0 [(nth w4 1), (nth w4 0)] h5).bind fun p6 =>
 JL (fun w8 h9 =>
 JL (fun w11 h12 =>
 (binf .add (nth w4 1) ((.int .i64 1) : Value)).bind fun v13 =>
 c3 [(nth w11 0), v13] h12) fun j10 =>
 (loadf true 8 x1 h9).bind fun v14 =>
 (loadf false 1 x2 h9).bind fun v15 =>
 (binf .lss (nth w4 1) v15).bind fun v16 =>
 (Γ 11 [v14, (nth w4 0), v16] h9).bind fun p17 =>
 j10 [p17.1] p17.2) fun j7 =>
 ifK p6.1 (
 j7 [] p6.2) (
 j0 [] p6.2)
noncomputable def s53 (Γ : Callee) (n : Nat) (x0 : Value) (x1 : Value) (x2 : Value) (h : AHeap) : Rt :=
 JL (fun w1 h2 =>
 fin h h2 []) fun j0 =>
 loopN (s53_L0 Γ n x0 x1 x2 j0) n [((.int .i64 0) : Value), ((.int .i64 0) : Value)] h

theorem s53_eq (Γ : Callee) (n : Nat) (x0 : Value) (x1 : Value) (x2 : Value) (h : AHeap) : funK Γ n A53 [x0, x1, x2] h = s53 Γ n x0 x1 x2 h := by kernel_rfl


/-- slices.IndexFunc[[]orchestrion/api.Key,orchestrion/api.Key] -/
def A54 : AFun := ⟨2, 19,
 (.seq (.region false (.op (some 4) (.move (.const (.int .i64 0))) false
  .nil))
  (.seq (.seq (.region false (.op (some 6) (.move (.tmp 0)) false
  (.op (some 7) (.len false (.tmp 6)) false
  (.op (some 8) (.move (.const (.int .i64 0))) false
  .nil))))
  (.block 0 [] [4, 5, 8, 9, 10, 11, 12, 13, 14, 15, 16, 17, 18]
  (.loop [8] [4, 5, 9, 10, 11, 12, 13, 14, 15, 16, 17, 18]
  (.seq (.region false (.op (some 9) (.bin .lss (.tmp 8) (.tmp 7)) false
  .nil))
  (.seq (.cond (.tmp 9) [] []
  .skip
  (.exit 0))
  (.seq (.block 1 [] [4, 5, 10, 11, 12, 13, 14, 15, 16, 17]
  (.seq (.region false (.op (some 10) (.move (.tmp 8)) false
  (.op (some 5) (.move (.tmp 10)) false
  .nil)))
  (.seq (.region false (.op (some 11) (.move (.tmp 1)) false
  (.op (some 12) (.move (.tmp 0)) false
  (.op (some 13) (.move (.tmp 5)) false
  (.op (some 14) (.indexAddr 2 (.tmp 12) (.tmp 13)) false
  (.op (some 15) (.load true 2 (.tmp 14)) false
  (.op (some 16) (.callV (.tmp 11) [(.tmp 15)]) false
  .nil)))))))
  (.cond (.tmp 16) [] [4, 17]
  (.seq (.region false (.op (some 17) (.move (.tmp 5)) false
  (.op (some 4) (.move (.tmp 17)) false
  .nil)))
  .ret)
  .skip))))
  (.region false (.op (some 18) (.bin .add (.tmp 8) (.const (.int .i64 1))) false
  (.op (some 8) (.move (.tmp 18)) false
  .nil)))))))))
  (.seq (.region false (.op (some 4) (.move (.const (.int .i64 (-1)))) false
  .nil))
  .ret))),
 [.tmp 4]⟩
theorem ok54 : ∃ fn c, FunOk Try.prog 54 fn c A54 := ⟨Try.f54, _, ⟨Try.func54, rfl, by kernel_rfl, by kernel_rfl, by kernel_rfl, of_decide_eq_true (by kernel_rfl), by kernel_rfl⟩⟩
noncomputable def s54_L0 (Γ : Callee) (n : Nat) (x0 : Value) (x1 : Value) (h : AHeap) (v0 : Value) (j1 : List Value → AHeap → Rt) : (List Value → AHeap → Rt) → List Value → AHeap → Rt := fun c4 w5 h6 =>
 (binf .lss (nth w5 0) v0).bind fun v7 =>
 JL (fun w9 h10 =>
 JL (fun w12 h13 =>
 (binf .add (nth w5 0) ((.int .i64 1) : Value)).bind fun v14 =>
 c4 [v14] h13) fun j11 =>
 (indexAddrf 2 x0 (nth w5 0)).bind fun v15 =>
 (loadf true 2 v15 h10).bind fun v16 =>
 (callVf Γ x1 [v16] h10).bind fun p17 =>
 JL (fun w19 h20 =>
 j11 [] h20) fun j18 =>
 ifK p17.1 (
 fin h p17.2 [(nth w5 0)]) (
 j18 [] p17.2)) fun j8 =>
 ifK v7 (
 j8 [] h6) (
 j1 [] h6)
noncomputable def s54 (Γ : Callee) (n : Nat) (x0 : Value) (x1 : Value) (h : AHeap) : Rt :=
 (lenf false x0).bind fun v0 =>
 JL (fun w2 h3 =>
 fin h h3 [((.int .i64 (-1)) : Value)]) fun j1 =>
 loopN (s54_L0 Γ n x0 x1 h v0 j1) n [((.int .i64 0) : Value)] h

theorem s54_eq (Γ : Callee) (n : Nat) (x0 : Value) (x1 : Value) (h : AHeap) : funK Γ n A54 [x0, x1] h = s54 Γ n x0 x1 h := by kernel_rfl


def T : ATable := [(3, A3), (4, A4), (6, A6), (7, A7), (8, A8), (9, A9), (10, A10), (11, A11), (12, A12), (13, A13), (14, A14), (15, A15), (16, A16), (17, A17), (20, A20), (28, A28), (29, A29), (30, A30), (31, A31), (32, A32), (33, A33), (34, A34), (35, A35), (36, A36), (37, A37), (38, A38), (39, A39), (40, A40), (41, A41), (43, A43), (44, A44), (45, A45), (52, A52), (53, A53), (54, A54)]
/-- What the calls come to. -/
noncomputable def Γ0 : Callee := run noCallee T
theorem gbody {f : FuncId} {F : AFun} (hT : T.get f = some F) (fuel : Nat) {args : List Value} {h : AHeap} {r : Value × AHeap} (hk : funK Γ0 fuel F args h = some r) (hf : Nat.beq f yieldId = false := by rfl) : Γ0 f args h = some r := run_of_body hT fuel hk hf
theorem gbody_round (fuel : Nat) {args : List Value} {h : AHeap} {r : Value × AHeap} (hk : roundK Γ0 fuel args h = some r) : Γ0 yieldId args h = some r := run_of_round fuel hk
end Go.Am.X
