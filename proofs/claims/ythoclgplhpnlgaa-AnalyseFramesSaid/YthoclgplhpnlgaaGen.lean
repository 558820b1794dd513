/- Printed by a program of mine from the dump: the machine's form of the program's functions. -/
import Derived.Test.YthoclgplhpnlgaaAm27
import Derived.Test.YthoclgplhpnlgaaChecked
set_option linter.unusedVariables false
set_option maxRecDepth 100000
namespace Go.Am.X
open Go.Proofs
/-- orchestrion/orchestrionlaw21.AnalyseFrames -/
def A3 : AFun := ⟨1, 52,
 (.seq (.region false (.op (some 2) (.move (.const (.bool false))) false
  .nil))
  (.seq (.seq (.region false (.op (some 11) (.move (.tmp 0)) false
  (.op (some 12) (.len false (.tmp 11)) false
  (.op (some 13) (.bin .gtr (.tmp 12) (.const (.int .i64 2000))) false
  .nil))))
  (.cond (.tmp 13) [] [2]
  (.seq (.region false (.op (some 2) (.move (.const (.bool true))) false
  .nil))
  .ret)
  .skip))
  (.seq (.region false (.op (some 15) (.move (.tmp 0)) false
  (.op (some 16) (.call 4 [(.tmp 15)]) false
  (.op (some 14) (.move (.tmp 16)) false
  (.op (some 17) (.extract (.tmp 14) 0) false
  (.op (some 18) (.extract (.tmp 14) 1) false
  (.op (some 3) (.move (.tmp 17)) false
  (.op (some 4) (.move (.tmp 18)) false
  .nil))))))))
  (.seq (.region false (.op (some 20) (.move (.tmp 0)) false
  (.op (some 21) (.call 5 [(.tmp 20)]) false
  (.op (some 19) (.move (.tmp 21)) false
  (.op (some 22) (.extract (.tmp 19) 0) false
  (.op (some 23) (.extract (.tmp 19) 1) false
  (.op (some 5) (.move (.tmp 22)) false
  (.op (some 6) (.move (.tmp 23)) false
  .nil))))))))
  (.seq (.region false (.op (some 25) (.move (.tmp 0)) false
  (.op (some 26) (.call 6 [(.tmp 25)]) false
  (.op (some 24) (.move (.tmp 26)) false
  (.op (some 27) (.extract (.tmp 24) 0) false
  (.op (some 28) (.extract (.tmp 24) 1) false
  (.op (some 7) (.move (.tmp 27)) false
  (.op (some 8) (.move (.tmp 28)) false
  .nil))))))))
  (.seq (.region false (.op (some 30) (.move (.tmp 0)) false
  (.op (some 31) (.call 7 [(.tmp 30)]) false
  (.op (some 29) (.move (.tmp 31)) false
  (.op (some 32) (.extract (.tmp 29) 0) false
  (.op (some 33) (.extract (.tmp 29) 1) false
  (.op (some 9) (.move (.tmp 32)) false
  (.op (some 10) (.move (.tmp 33)) false
  .nil))))))))
  (.seq (.region false (.op (some 34) (.move (.tmp 3)) false
  (.op (some 35) (.move (.tmp 5)) false
  (.op (some 36) (.bin .eql (.tmp 34) (.tmp 35)) false
  (.op (some 37) (.move (.tmp 36)) false
  (.sc 41 37 true [38, 39, 40]
  (.op (some 38) (.move (.tmp 4)) false
  (.op (some 39) (.move (.tmp 6)) false
  (.op (some 40) (.bin .eql (.tmp 38) (.tmp 39)) false
  .nil))) (.tmp 40)
  (.op (some 42) (.move (.tmp 41)) false
  (.sc 46 42 true [43, 44, 45]
  (.op (some 43) (.move (.tmp 7)) false
  (.op (some 44) (.move (.tmp 9)) false
  (.op (some 45) (.bin .eql (.tmp 43) (.tmp 44)) false
  .nil))) (.tmp 45)
  (.op (some 47) (.move (.tmp 46)) false
  (.sc 51 47 true [48, 49, 50]
  (.op (some 48) (.move (.tmp 8)) false
  (.op (some 49) (.move (.tmp 10)) false
  (.op (some 50) (.bin .eql (.tmp 48) (.tmp 49)) false
  .nil))) (.tmp 50)
  (.op (some 2) (.move (.tmp 51)) false
  .nil)))))))))))
  .ret))))))),
 [.tmp 2]⟩
theorem ok3 : ∃ fn c, FunOk Try.prog 3 fn c A3 := ⟨Try.f3, _, ⟨Try.func3, rfl, by kernel_rfl, by kernel_rfl, by kernel_rfl, of_decide_eq_true (by kernel_rfl), by kernel_rfl⟩⟩
noncomputable def s3 (Γ : Callee) (n : Nat) (x0 : Value) (h : AHeap) : Rt :=
 (lenf false x0).bind fun v0 =>
 (binf .gtr v0 ((.int .i64 2000) : Value)).bind fun v1 =>
 JL (fun w3 h4 =>
 (Γ 4 [x0] h4).bind fun p5 =>
 (extractf p5.1 0).bind fun v6 =>
 (extractf p5.1 1).bind fun v7 =>
 (Γ 5 [x0] p5.2).bind fun p8 =>
 (extractf p8.1 0).bind fun v9 =>
 (extractf p8.1 1).bind fun v10 =>
 (Γ 6 [x0] p8.2).bind fun p11 =>
 (extractf p11.1 0).bind fun v12 =>
 (extractf p11.1 1).bind fun v13 =>
 (Γ 7 [x0] p11.2).bind fun p14 =>
 (extractf p14.1 0).bind fun v15 =>
 (extractf p14.1 1).bind fun v16 =>
 (binf .eql v6 v9).bind fun v17 =>
 J1 (fun v19 h20 =>
 J1 (fun v22 h23 =>
 J1 (fun v25 h26 =>
 fin h h26 [v25]) fun j24 =>
 scK v22 true (
 (binf .eql v13 v16).bind fun v27 =>
 j24 v27 h23)
 (j24 (.bool false) h23)) fun j21 =>
 scK v19 true (
 (binf .eql v12 v15).bind fun v28 =>
 j21 v28 h20)
 (j21 (.bool false) h20)) fun j18 =>
 scK v17 true (
 (binf .eql v7 v10).bind fun v29 =>
 j18 v29 p14.2)
 (j18 (.bool false) p14.2)) fun j2 =>
 ifK v1 (
 fin h h [((.bool true) : Value)]) (
 j2 [] h)

theorem s3_eq (Γ : Callee) (n : Nat) (x0 : Value) (h : AHeap) : funK Γ n A3 [x0] h = s3 Γ n x0 h := by kernel_rfl

/-- orchestrion/analyse.Peak -/
def A4 : AFun := ⟨1, 33,
 (.seq (.region false (.op (some 2) (.move (.const (.int .i64 0))) false
  (.op (some 3) (.move (.const (.int .i64 0))) false
  .nil)))
  (.seq (.seq (.region false (.op (some 8) (.move (.tmp 0)) false
  (.op (some 9) (.len false (.tmp 8)) false
  (.op (some 10) (.move (.const (.int .i64 0))) false
  .nil))))
  (.block 0 [2, 3] [5, 6, 7, 10, 11, 12, 13, 14, 15, 16, 17, 18, 19, 20, 21, 22, 23, 24, 25, 26, 27, 28, 29, 30]
  (.loop [2, 3, 10] [5, 6, 7, 11, 12, 13, 14, 15, 16, 17, 18, 19, 20, 21, 22, 23, 24, 25, 26, 27, 28, 29, 30]
  (.seq (.region false (.op (some 11) (.bin .lss (.tmp 10) (.tmp 9)) false
  .nil))
  (.seq (.cond (.tmp 11) [] []
  .skip
  (.exit 0))
  (.seq (.block 1 [2, 3] [5, 6, 7, 12, 13, 14, 15, 16, 17, 18, 19, 20, 21, 22, 23, 24, 25, 26, 27, 28, 29]
  (.seq (.region false (.op (some 12) (.indexAddr 2 (.tmp 8) (.tmp 10)) false
  (.op (some 13) (.load true 2 (.tmp 12)) false
  (.op (some 5) (.new 27 [(.int .i64 0), (.int .i64 0)]) false
  (.op none (.store 2 (.tmp 5) (.tmp 13)) false
  .nil)))))
  (.seq (.region true (.op (some 14) (.fieldAddr 0 (.tmp 5)) false
  (.op (some 15) (.load false 1 (.tmp 14)) false
  (.op (some 16) (.call 8 [(.tmp 15)]) true
  (.op (some 17) (.fieldAddr 1 (.tmp 5)) false
  (.op (some 18) (.load false 1 (.tmp 17)) false
  (.op (some 19) (.call 8 [(.tmp 18)]) false
  (.op (some 6) (.move (.tmp 16)) false
  (.op (some 7) (.move (.tmp 19)) false
  .nil)))))))))
  (.region false (.op (some 20) (.move (.tmp 2)) false
  (.op (some 21) (.move (.tmp 6)) false
  (.op (some 22) (.move (.tmp 6)) false
  (.op (some 23) (.un .neg (.tmp 22)) false
  (.op (some 24) (.max [(.tmp 20), (.tmp 21), (.tmp 23)]) false
  (.op (some 25) (.move (.tmp 3)) false
  (.op (some 26) (.move (.tmp 7)) false
  (.op (some 27) (.move (.tmp 7)) false
  (.op (some 28) (.un .neg (.tmp 27)) false
  (.op (some 29) (.max [(.tmp 25), (.tmp 26), (.tmp 28)]) false
  (.op (some 2) (.move (.tmp 24)) false
  (.op (some 3) (.move (.tmp 29)) false
  .nil))))))))))))))))
  (.region false (.op (some 30) (.bin .add (.tmp 10) (.const (.int .i64 1))) false
  (.op (some 10) (.move (.tmp 30)) false
  .nil)))))))))
  (.seq (.region false (.op (some 31) (.move (.tmp 2)) false
  (.op (some 32) (.move (.tmp 3)) false
  (.op (some 2) (.move (.tmp 31)) false
  (.op (some 3) (.move (.tmp 32)) false
  .nil)))))
  .ret))),
 [.tmp 2, .tmp 3]⟩
theorem ok4 : ∃ fn c, FunOk Try.prog 4 fn c A4 := ⟨Try.f4, _, ⟨Try.func4, rfl, by kernel_rfl, by kernel_rfl, by kernel_rfl, of_decide_eq_true (by kernel_rfl), by kernel_rfl⟩⟩
noncomputable def s4_L0 (Γ : Callee) (n : Nat) (x0 : Value) (v0 : Value) (j1 : List Value → AHeap → Rt) : (List Value → AHeap → Rt) → List Value → AHeap → Rt := fun c4 w5 h6 =>
 (binf .lss (nth w5 2) v0).bind fun v7 =>
 JL (fun w9 h10 =>
 JL (fun w12 h13 =>
 (binf .add (nth w5 2) ((.int .i64 1) : Value)).bind fun v14 =>
 c4 [(nth w12 0), (nth w12 1), v14] h13) fun j11 =>
 (indexAddrf 2 x0 (nth w5 2)).bind fun v15 =>
 (loadf true 2 v15 h10).bind fun v16 =>
 fork (ptrTo h10.length 0) (h10 ++ [.cells [(.int .i64 0), (.int .i64 0)] 27 true]) fun v17 h18 =>
 (storef 2 v17 v16 h18).bind fun h19 =>
 (fieldAddrf 0 v17).bind fun v20 =>
 (loadf false 1 v20 h19).bind fun v21 =>
 (Γ 8 [v21] h19).bind fun p22 =>
 sameQ h19 p22.2 (
 (fieldAddrf 1 v17).bind fun v23 =>
 (loadf false 1 v23 p22.2).bind fun v24 =>
 (Γ 8 [v24] p22.2).bind fun p25 =>
 (unf .neg p22.1).bind fun v26 =>
 (fold1f max2f [(nth w5 0), p22.1, v26]).bind fun v27 =>
 (unf .neg p25.1).bind fun v28 =>
 (fold1f max2f [(nth w5 1), p25.1, v28]).bind fun v29 =>
 j11 [v27, v29] p25.2)) fun j8 =>
 ifK v7 (
 j8 [] h6) (
 j1 [(nth w5 0), (nth w5 1)] h6)
noncomputable def s4 (Γ : Callee) (n : Nat) (x0 : Value) (h : AHeap) : Rt :=
 (lenf false x0).bind fun v0 =>
 JL (fun w2 h3 =>
 fin h h3 [(nth w2 0), (nth w2 1)]) fun j1 =>
 loopN (s4_L0 Γ n x0 v0 j1) n [((.int .i64 0) : Value), ((.int .i64 0) : Value), ((.int .i64 0) : Value)] h

theorem s4_eq (Γ : Callee) (n : Nat) (x0 : Value) (h : AHeap) : funK Γ n A4 [x0] h = s4 Γ n x0 h := by kernel_rfl

/-- orchestrion/orchestrionref21.Peak -/
def A5 : AFun := ⟨1, 25,
 (.seq (.region false (.op (some 2) (.move (.const (.int .i64 0))) false
  (.op (some 3) (.move (.const (.int .i64 0))) false
  .nil)))
  (.seq (.seq (.region false (.op (some 6) (.move (.tmp 0)) false
  (.op (some 7) (.len false (.tmp 6)) false
  (.op (some 8) (.move (.const (.int .i64 0))) false
  .nil))))
  (.block 0 [2, 3] [5, 8, 9, 10, 11, 12, 13, 14, 15, 16, 17, 18, 19, 20, 21, 22]
  (.loop [2, 3, 8] [5, 9, 10, 11, 12, 13, 14, 15, 16, 17, 18, 19, 20, 21, 22]
  (.seq (.region false (.op (some 9) (.bin .lss (.tmp 8) (.tmp 7)) false
  .nil))
  (.seq (.cond (.tmp 9) [] []
  .skip
  (.exit 0))
  (.seq (.block 1 [2, 3] [5, 10, 11, 12, 13, 14, 15, 16, 17, 18, 19, 20, 21]
  (.seq (.region false (.op (some 10) (.indexAddr 2 (.tmp 6) (.tmp 8)) false
  (.op (some 11) (.load true 2 (.tmp 10)) false
  (.op (some 5) (.new 27 [(.int .i64 0), (.int .i64 0)]) false
  (.op none (.store 2 (.tmp 5) (.tmp 11)) false
  .nil)))))
  (.region true (.op (some 12) (.move (.tmp 2)) false
  (.op (some 13) (.fieldAddr 0 (.tmp 5)) false
  (.op (some 14) (.load false 1 (.tmp 13)) false
  (.op (some 15) (.call 9 [(.tmp 14), (.const (.int .i64 1048576))]) true
  (.op (some 16) (.max [(.tmp 12), (.tmp 15)]) false
  (.op (some 17) (.move (.tmp 3)) false
  (.op (some 18) (.fieldAddr 1 (.tmp 5)) false
  (.op (some 19) (.load false 1 (.tmp 18)) false
  (.op (some 20) (.call 9 [(.tmp 19), (.const (.int .i64 1048576))]) false
  (.op (some 21) (.max [(.tmp 17), (.tmp 20)]) false
  (.op (some 2) (.move (.tmp 16)) false
  (.op (some 3) (.move (.tmp 21)) false
  .nil)))))))))))))))
  (.region false (.op (some 22) (.bin .add (.tmp 8) (.const (.int .i64 1))) false
  (.op (some 8) (.move (.tmp 22)) false
  .nil)))))))))
  (.seq (.region false (.op (some 23) (.move (.tmp 2)) false
  (.op (some 24) (.move (.tmp 3)) false
  (.op (some 2) (.move (.tmp 23)) false
  (.op (some 3) (.move (.tmp 24)) false
  .nil)))))
  .ret))),
 [.tmp 2, .tmp 3]⟩
theorem ok5 : ∃ fn c, FunOk Try.prog 5 fn c A5 := ⟨Try.f5, _, ⟨Try.func5, rfl, by kernel_rfl, by kernel_rfl, by kernel_rfl, of_decide_eq_true (by kernel_rfl), by kernel_rfl⟩⟩
noncomputable def s5_L0 (Γ : Callee) (n : Nat) (x0 : Value) (v0 : Value) (j1 : List Value → AHeap → Rt) : (List Value → AHeap → Rt) → List Value → AHeap → Rt := fun c4 w5 h6 =>
 (binf .lss (nth w5 2) v0).bind fun v7 =>
 JL (fun w9 h10 =>
 JL (fun w12 h13 =>
 (binf .add (nth w5 2) ((.int .i64 1) : Value)).bind fun v14 =>
 c4 [(nth w12 0), (nth w12 1), v14] h13) fun j11 =>
 (indexAddrf 2 x0 (nth w5 2)).bind fun v15 =>
 (loadf true 2 v15 h10).bind fun v16 =>
 fork (ptrTo h10.length 0) (h10 ++ [.cells [(.int .i64 0), (.int .i64 0)] 27 true]) fun v17 h18 =>
 (storef 2 v17 v16 h18).bind fun h19 =>
 (fieldAddrf 0 v17).bind fun v20 =>
 (loadf false 1 v20 h19).bind fun v21 =>
 (Γ 9 [v21, ((.int .i64 1048576) : Value)] h19).bind fun p22 =>
 sameQ h19 p22.2 (
 (fold1f max2f [(nth w5 0), p22.1]).bind fun v23 =>
 (fieldAddrf 1 v17).bind fun v24 =>
 (loadf false 1 v24 p22.2).bind fun v25 =>
 (Γ 9 [v25, ((.int .i64 1048576) : Value)] p22.2).bind fun p26 =>
 (fold1f max2f [(nth w5 1), p26.1]).bind fun v27 =>
 j11 [v23, v27] p26.2)) fun j8 =>
 ifK v7 (
 j8 [] h6) (
 j1 [(nth w5 0), (nth w5 1)] h6)
noncomputable def s5 (Γ : Callee) (n : Nat) (x0 : Value) (h : AHeap) : Rt :=
 (lenf false x0).bind fun v0 =>
 JL (fun w2 h3 =>
 fin h h3 [(nth w2 0), (nth w2 1)]) fun j1 =>
 loopN (s5_L0 Γ n x0 v0 j1) n [((.int .i64 0) : Value), ((.int .i64 0) : Value), ((.int .i64 0) : Value)] h

theorem s5_eq (Γ : Callee) (n : Nat) (x0 : Value) (h : AHeap) : funK Γ n A5 [x0] h = s5 Γ n x0 h := by kernel_rfl

/-- orchestrion/analyse.Energy -/
def A6 : AFun := ⟨1, 12,
 (.seq (.region false (.op (some 1) (.box 22 (.tmp 0)) false
  (.op (some 2) (.move (.const (.int .i64 0))) false
  (.op (some 3) (.move (.const (.int .i64 0))) false
  .nil))))
  (.seq (.region true (.op (some 4) (.load false 1 (.tmp 1)) false
  (.op (some 5) (.len false (.tmp 4)) false
  (.op (some 6) (.mkFunc 11 [] [(.tmp 1)]) false
  (.op (some 7) (.call 10 [(.tmp 5), (.tmp 6)]) true
  (.op (some 8) (.load false 1 (.tmp 1)) false
  (.op (some 9) (.len false (.tmp 8)) false
  (.op (some 10) (.mkFunc 12 [] [(.tmp 1)]) false
  (.op (some 11) (.call 10 [(.tmp 9), (.tmp 10)]) false
  (.op (some 2) (.move (.tmp 7)) false
  (.op (some 3) (.move (.tmp 11)) false
  .nil)))))))))))
  .ret)),
 [.tmp 2, .tmp 3]⟩
theorem ok6 : ∃ fn c, FunOk Try.prog 6 fn c A6 := ⟨Try.f6, _, ⟨Try.func6, rfl, by kernel_rfl, by kernel_rfl, by kernel_rfl, of_decide_eq_true (by kernel_rfl), by kernel_rfl⟩⟩
noncomputable def s6 (Γ : Callee) (n : Nat) (x0 : Value) (h : AHeap) : Rt :=
 fork (ptrTo h.length 0) (h ++ [.cells (cellsL x0) 22 true]) fun v0 h1 =>
 (loadf false 1 v0 h1).bind fun v2 =>
 (lenf false v2).bind fun v3 =>
 (Γ 10 [v3, (Value.func (.func 11) (List.toArray []) (List.toArray [v0]))] h1).bind fun p4 =>
 sameQ h1 p4.2 (
 (loadf false 1 v0 p4.2).bind fun v5 =>
 (lenf false v5).bind fun v6 =>
 (Γ 10 [v6, (Value.func (.func 12) (List.toArray []) (List.toArray [v0]))] p4.2).bind fun p7 =>
 fin h p7.2 [p4.1, p7.1])

theorem s6_eq (Γ : Callee) (n : Nat) (x0 : Value) (h : AHeap) : funK Γ n A6 [x0] h = s6 Γ n x0 h := by kernel_rfl

/-- orchestrion/orchestrionref21.Energy -/
def A7 : AFun := ⟨1, 42,
 (.seq (.region false (.op (some 2) (.move (.const (.int .i64 0))) false
  (.op (some 3) (.move (.const (.int .i64 0))) false
  .nil)))
  (.seq (.seq (.region false (.op (some 8) (.move (.tmp 0)) false
  (.op (some 9) (.len false (.tmp 8)) false
  (.op (some 10) (.move (.const (.int .i64 0))) false
  .nil))))
  (.block 0 [2, 3] [5, 6, 7, 10, 11, 12, 13, 14, 15, 16, 17, 18, 19, 20, 21, 22, 23, 24, 25, 26, 27, 28, 29, 30]
  (.loop [2, 3, 10] [5, 6, 7, 11, 12, 13, 14, 15, 16, 17, 18, 19, 20, 21, 22, 23, 24, 25, 26, 27, 28, 29, 30]
  (.seq (.region false (.op (some 11) (.bin .lss (.tmp 10) (.tmp 9)) false
  .nil))
  (.seq (.cond (.tmp 11) [] []
  .skip
  (.exit 0))
  (.seq (.block 1 [2, 3] [5, 6, 7, 12, 13, 14, 15, 16, 17, 18, 19, 20, 21, 22, 23, 24, 25, 26, 27, 28, 29]
  (.seq (.region false (.op (some 12) (.indexAddr 2 (.tmp 8) (.tmp 10)) false
  (.op (some 13) (.load true 2 (.tmp 12)) false
  (.op (some 5) (.new 27 [(.int .i64 0), (.int .i64 0)]) false
  (.op none (.store 2 (.tmp 5) (.tmp 13)) false
  .nil)))))
  (.seq (.region true (.op (some 14) (.fieldAddr 0 (.tmp 5)) false
  (.op (some 15) (.load false 1 (.tmp 14)) false
  (.op (some 16) (.call 9 [(.tmp 15), (.const (.int .i64 1048576))]) true
  (.op (some 17) (.fieldAddr 1 (.tmp 5)) false
  (.op (some 18) (.load false 1 (.tmp 17)) false
  (.op (some 19) (.call 9 [(.tmp 18), (.const (.int .i64 1048576))]) false
  (.op (some 6) (.move (.tmp 16)) false
  (.op (some 7) (.move (.tmp 19)) false
  .nil)))))))))
  (.region false (.op (some 20) (.move (.tmp 2)) false
  (.op (some 21) (.move (.tmp 6)) false
  (.op (some 22) (.move (.tmp 6)) false
  (.op (some 23) (.bin .mul (.tmp 21) (.tmp 22)) false
  (.op (some 24) (.bin .add (.tmp 20) (.tmp 23)) false
  (.op (some 25) (.move (.tmp 3)) false
  (.op (some 26) (.move (.tmp 7)) false
  (.op (some 27) (.move (.tmp 7)) false
  (.op (some 28) (.bin .mul (.tmp 26) (.tmp 27)) false
  (.op (some 29) (.bin .add (.tmp 25) (.tmp 28)) false
  (.op (some 2) (.move (.tmp 24)) false
  (.op (some 3) (.move (.tmp 29)) false
  .nil))))))))))))))))
  (.region false (.op (some 30) (.bin .add (.tmp 10) (.const (.int .i64 1))) false
  (.op (some 10) (.move (.tmp 30)) false
  .nil)))))))))
  (.seq (.seq (.region false (.op (some 31) (.move (.tmp 0)) false
  (.op (some 32) (.len false (.tmp 31)) false
  (.op (some 33) (.bin .eql (.tmp 32) (.const (.int .i64 0))) false
  .nil))))
  (.cond (.tmp 33) [2, 3] []
  (.seq (.region false (.op (some 2) (.move (.const (.int .i64 0))) false
  (.op (some 3) (.move (.const (.int .i64 0))) false
  .nil)))
  .ret)
  .skip))
  (.seq (.region true (.op (some 34) (.move (.tmp 2)) false
  (.op (some 35) (.move (.tmp 0)) false
  (.op (some 36) (.len false (.tmp 35)) false
  (.op (some 37) (.bin .quo (.tmp 34) (.tmp 36)) false
  (.op (some 38) (.move (.tmp 3)) false
  (.op (some 39) (.move (.tmp 0)) false
  (.op (some 40) (.len false (.tmp 39)) false
  (.op (some 41) (.bin .quo (.tmp 38) (.tmp 40)) false
  (.op (some 2) (.move (.tmp 37)) false
  (.op (some 3) (.move (.tmp 41)) false
  .nil)))))))))))
  .ret)))),
 [.tmp 2, .tmp 3]⟩
theorem ok7 : ∃ fn c, FunOk Try.prog 7 fn c A7 := ⟨Try.f7, _, ⟨Try.func7, rfl, by kernel_rfl, by kernel_rfl, by kernel_rfl, of_decide_eq_true (by kernel_rfl), by kernel_rfl⟩⟩
noncomputable def s7_L0 (Γ : Callee) (n : Nat) (x0 : Value) (v0 : Value) (j1 : List Value → AHeap → Rt) : (List Value → AHeap → Rt) → List Value → AHeap → Rt := fun c13 w14 h15 =>
 (binf .lss (nth w14 2) v0).bind fun v16 =>
 JL (fun w18 h19 =>
 JL (fun w21 h22 =>
 (binf .add (nth w14 2) ((.int .i64 1) : Value)).bind fun v23 =>
 c13 [(nth w21 0), (nth w21 1), v23] h22) fun j20 =>
 (indexAddrf 2 x0 (nth w14 2)).bind fun v24 =>
 (loadf true 2 v24 h19).bind fun v25 =>
 fork (ptrTo h19.length 0) (h19 ++ [.cells [(.int .i64 0), (.int .i64 0)] 27 true]) fun v26 h27 =>
 (storef 2 v26 v25 h27).bind fun h28 =>
 (fieldAddrf 0 v26).bind fun v29 =>
 (loadf false 1 v29 h28).bind fun v30 =>
 (Γ 9 [v30, ((.int .i64 1048576) : Value)] h28).bind fun p31 =>
 sameQ h28 p31.2 (
 (fieldAddrf 1 v26).bind fun v32 =>
 (loadf false 1 v32 p31.2).bind fun v33 =>
 (Γ 9 [v33, ((.int .i64 1048576) : Value)] p31.2).bind fun p34 =>
 (binf .mul p31.1 p31.1).bind fun v35 =>
 (binf .add (nth w14 0) v35).bind fun v36 =>
 (binf .mul p34.1 p34.1).bind fun v37 =>
 (binf .add (nth w14 1) v37).bind fun v38 =>
 j20 [v36, v38] p34.2)) fun j17 =>
 ifK v16 (
 j17 [] h15) (
 j1 [(nth w14 0), (nth w14 1)] h15)
noncomputable def s7 (Γ : Callee) (n : Nat) (x0 : Value) (h : AHeap) : Rt :=
 (lenf false x0).bind fun v0 =>
 JL (fun w2 h3 =>
 (lenf false x0).bind fun v4 =>
 (binf .eql v4 ((.int .i64 0) : Value)).bind fun v5 =>
 JL (fun w7 h8 =>
 (lenf false x0).bind fun v9 =>
 (binf .quo (nth w7 0) v9).bind fun v10 =>
 (lenf false x0).bind fun v11 =>
 (binf .quo (nth w7 1) v11).bind fun v12 =>
 fin h h8 [v10, v12]) fun j6 =>
 ifK v5 (
 fin h h3 [((.int .i64 0) : Value), ((.int .i64 0) : Value)]) (
 j6 [(nth w2 0), (nth w2 1)] h3)) fun j1 =>
 loopN (s7_L0 Γ n x0 v0 j1) n [((.int .i64 0) : Value), ((.int .i64 0) : Value), ((.int .i64 0) : Value)] h

theorem s7_eq (Γ : Callee) (n : Nat) (x0 : Value) (h : AHeap) : funK Γ n A7 [x0] h = s7 Γ n x0 h := by kernel_rfl

/-- orchestrion/analyse.bounded -/
def A8 : AFun := ⟨1, 6,
 (.seq (.region false (.op (some 2) (.move (.const (.int .i64 0))) false
  .nil))
  (.seq (.region false (.op (some 3) (.move (.tmp 0)) false
  (.op (some 4) (.max [(.tmp 3), (.const (.int .i64 (-1048576)))]) false
  (.op (some 5) (.min [(.tmp 4), (.const (.int .i64 1048576))]) false
  (.op (some 2) (.move (.tmp 5)) false
  .nil)))))
  .ret)),
 [.tmp 2]⟩
theorem ok8 : ∃ fn c, FunOk Try.prog 8 fn c A8 := ⟨Try.f8, _, ⟨Try.func8, rfl, by kernel_rfl, by kernel_rfl, by kernel_rfl, of_decide_eq_true (by kernel_rfl), by kernel_rfl⟩⟩
noncomputable def s8 (Γ : Callee) (n : Nat) (x0 : Value) (h : AHeap) : Rt :=
 (fold1f max2f [x0, ((.int .i64 (-1048576)) : Value)]).bind fun v0 =>
 (fold1f min2f [v0, ((.int .i64 1048576) : Value)]).bind fun v1 =>
 fin h h [v1]

theorem s8_eq (Γ : Callee) (n : Nat) (x0 : Value) (h : AHeap) : funK Γ n A8 [x0] h = s8 Γ n x0 h := by kernel_rfl

/-- orchestrion/orchestrionref21.size -/
def A9 : AFun := ⟨2, 17,
 (.seq (.region false (.op (some 4) (.move (.const (.int .i64 0))) false
  .nil))
  (.seq (.seq (.region false (.op (some 5) (.move (.tmp 0)) false
  (.op (some 6) (.move (.tmp 1)) false
  (.op (some 7) (.un .neg (.tmp 6)) false
  (.op (some 8) (.bin .lss (.tmp 5) (.tmp 7)) false
  .nil)))))
  (.cond (.tmp 8) [0] [9, 10]
  (.region false (.op (some 9) (.move (.tmp 1)) false
  (.op (some 10) (.un .neg (.tmp 9)) false
  (.op (some 0) (.move (.tmp 10)) false
  .nil))))
  .skip))
  (.seq (.region false (.op (some 11) (.move (.tmp 1)) false
  (.op (some 12) (.move (.tmp 0)) false
  (.op (some 13) (.move (.tmp 0)) false
  (.op (some 14) (.un .neg (.tmp 13)) false
  (.op (some 15) (.max [(.tmp 12), (.tmp 14)]) false
  (.op (some 16) (.min [(.tmp 11), (.tmp 15)]) false
  (.op (some 4) (.move (.tmp 16)) false
  .nil))))))))
  .ret))),
 [.tmp 4]⟩
theorem ok9 : ∃ fn c, FunOk Try.prog 9 fn c A9 := ⟨Try.f9, _, ⟨Try.func9, rfl, by kernel_rfl, by kernel_rfl, by kernel_rfl, of_decide_eq_true (by kernel_rfl), by kernel_rfl⟩⟩
noncomputable def s9 (Γ : Callee) (n : Nat) (x0 : Value) (x1 : Value) (h : AHeap) : Rt :=
 (unf .neg x1).bind fun v0 =>
 (binf .lss x0 v0).bind fun v1 =>
 JL (fun w3 h4 =>
 (unf .neg (nth w3 0)).bind fun v5 =>
 (fold1f max2f [(nth w3 0), v5]).bind fun v6 =>
 (fold1f min2f [x1, v6]).bind fun v7 =>
 fin h h4 [v7]) fun j2 =>
 ifK v1 (
 (unf .neg x1).bind fun v8 =>
 j2 [v8] h) (
 j2 [x0] h)

theorem s9_eq (Γ : Callee) (n : Nat) (x0 : Value) (x1 : Value) (h : AHeap) : funK Γ n A9 [x0, x1] h = s9 Γ n x0 x1 h := by kernel_rfl

/-- orchestrion/analyse.mean -/
def A10 : AFun := ⟨2, 44,
 (.seq (.region false (.op (some 4) (.move (.const (.int .i64 0))) false
  .nil))
  (.seq (.seq (.region false (.op (some 9) (.move (.tmp 0)) false
  (.op (some 10) (.bin .eql (.tmp 9) (.const (.int .i64 0))) false
  .nil)))
  (.cond (.tmp 10) [] [4]
  (.seq (.region false (.op (some 4) (.move (.const (.int .i64 0))) false
  .nil))
  .ret)
  .skip))
  (.seq (.region false (.op (some 5) (.move (.const (.int .i64 0))) false
  (.op (some 6) (.move (.const (.int .i64 0))) false
  .nil)))
  (.seq (.seq (.region false (.op (some 11) (.move (.tmp 0)) false
  (.op (some 12) (.move (.const (.int .i64 0))) false
  .nil)))
  (.block 0 [5, 6] [7, 8, 12, 13, 14, 15, 16, 17, 18, 19, 20, 21, 22, 23, 24, 25, 26, 27, 28, 29, 30]
  (.loop [5, 6, 12] [7, 8, 13, 14, 15, 16, 17, 18, 19, 20, 21, 22, 23, 24, 25, 26, 27, 28, 29, 30]
  (.seq (.region false (.op (some 13) (.bin .lss (.tmp 12) (.tmp 11)) false
  .nil))
  (.seq (.cond (.tmp 13) [] []
  .skip
  (.exit 0))
  (.seq (.block 1 [5, 6] [7, 8, 14, 15, 16, 17, 18, 19, 20, 21, 22, 23, 24, 25, 26, 27, 28, 29]
  (.seq (.region false (.op (some 14) (.move (.tmp 12)) false
  (.op (some 7) (.move (.tmp 14)) false
  .nil)))
  (.seq (.region false (.op (some 15) (.move (.tmp 1)) false
  (.op (some 16) (.move (.tmp 7)) false
  (.op (some 17) (.callV (.tmp 15) [(.tmp 16)]) false
  (.op (some 18) (.call 8 [(.tmp 17)]) false
  (.op (some 8) (.move (.tmp 18)) false
  .nil))))))
  (.seq (.region false (.op (some 19) (.move (.tmp 6)) false
  (.op (some 20) (.move (.tmp 8)) false
  (.op (some 21) (.move (.tmp 8)) false
  (.op (some 22) (.bin .mul (.tmp 20) (.tmp 21)) false
  (.op (some 23) (.bin .add (.tmp 19) (.tmp 22)) false
  (.op (some 6) (.move (.tmp 23)) false
  .nil)))))))
  (.seq (.region false (.op (some 24) (.move (.tmp 5)) false
  (.op (some 25) (.move (.tmp 6)) false
  (.op (some 26) (.bin .shr (.tmp 25) (.const (.int .u64 40))) false
  (.op (some 27) (.bin .add (.tmp 24) (.tmp 26)) false
  (.op (some 5) (.move (.tmp 27)) false
  .nil))))))
  (.region false (.op (some 28) (.move (.tmp 6)) false
  (.op (some 29) (.bin .and (.tmp 28) (.const (.int .i64 1099511627775))) false
  (.op (some 6) (.move (.tmp 29)) false
  .nil)))))))))
  (.region false (.op (some 30) (.bin .add (.tmp 12) (.const (.int .i64 1))) false
  (.op (some 12) (.move (.tmp 30)) false
  .nil)))))))))
  (.seq (.region true (.op (some 31) (.move (.tmp 5)) false
  (.op (some 32) (.move (.tmp 0)) false
  (.op (some 33) (.bin .quo (.tmp 31) (.tmp 32)) false
  (.op (some 34) (.bin .shl (.tmp 33) (.const (.int .u64 40))) false
  (.op (some 35) (.move (.tmp 5)) false
  (.op (some 36) (.move (.tmp 0)) false
  (.op (some 37) (.bin .rem (.tmp 35) (.tmp 36)) false
  (.op (some 38) (.bin .shl (.tmp 37) (.const (.int .u64 40))) false
  (.op (some 39) (.move (.tmp 6)) false
  (.op (some 40) (.bin .add (.tmp 38) (.tmp 39)) false
  (.op (some 41) (.move (.tmp 0)) false
  (.op (some 42) (.bin .quo (.tmp 40) (.tmp 41)) false
  (.op (some 43) (.bin .add (.tmp 34) (.tmp 42)) false
  (.op (some 4) (.move (.tmp 43)) false
  .nil)))))))))))))))
  .ret))))),
 [.tmp 4]⟩
theorem ok10 : ∃ fn c, FunOk Try.prog 10 fn c A10 := ⟨Try.f10, _, ⟨Try.func10, rfl, by kernel_rfl, by kernel_rfl, by kernel_rfl, of_decide_eq_true (by kernel_rfl), by kernel_rfl⟩⟩
noncomputable def s10_L0 (Γ : Callee) (n : Nat) (x0 : Value) (x1 : Value) (j4 : List Value → AHeap → Rt) : (List Value → AHeap → Rt) → List Value → AHeap → Rt := fun c14 w15 h16 =>
 (binf .lss (nth w15 2) x0).bind fun v17 =>
 JL (fun w19 h20 =>
 JL (fun w22 h23 =>
 (binf .add (nth w15 2) ((.int .i64 1) : Value)).bind fun v24 =>
 c14 [(nth w22 0), (nth w22 1), v24] h23) fun j21 =>
 (callVf Γ x1 [(nth w15 2)] h20).bind fun p25 =>
 (Γ 8 [p25.1] p25.2).bind fun p26 =>
 (binf .mul p26.1 p26.1).bind fun v27 =>
 (binf .add (nth w15 1) v27).bind fun v28 =>
 (binf .shr v28 ((.int .u64 40) : Value)).bind fun v29 =>
 (binf .add (nth w15 0) v29).bind fun v30 =>
 (binf .and v28 ((.int .i64 1099511627775) : Value)).bind fun v31 =>
 j21 [v30, v31] p26.2) fun j18 =>
 ifK v17 (
 j18 [] h16) (
 j4 [(nth w15 0), (nth w15 1)] h16)
noncomputable def s10 (Γ : Callee) (n : Nat) (x0 : Value) (x1 : Value) (h : AHeap) : Rt :=
 (binf .eql x0 ((.int .i64 0) : Value)).bind fun v0 =>
 JL (fun w2 h3 =>
 JL (fun w5 h6 =>
 (binf .quo (nth w5 0) x0).bind fun v7 =>
 (binf .shl v7 ((.int .u64 40) : Value)).bind fun v8 =>
 (binf .rem (nth w5 0) x0).bind fun v9 =>
 (binf .shl v9 ((.int .u64 40) : Value)).bind fun v10 =>
 (binf .add v10 (nth w5 1)).bind fun v11 =>
 (binf .quo v11 x0).bind fun v12 =>
 (binf .add v8 v12).bind fun v13 =>
 fin h h6 [v13]) fun j4 =>
 loopN (s10_L0 Γ n x0 x1 j4) n [((.int .i64 0) : Value), ((.int .i64 0) : Value), ((.int .i64 0) : Value)] h3) fun j1 =>
 ifK v0 (
 fin h h [((.int .i64 0) : Value)]) (
 j1 [] h)

theorem s10_eq (Γ : Callee) (n : Nat) (x0 : Value) (x1 : Value) (h : AHeap) : funK Γ n A10 [x0, x1] h = s10 Γ n x0 x1 h := by kernel_rfl

/-- orchestrion/analyse.Energy$1 -/
def A11 : AFun := ⟨2, 9,
 (.seq (.region false (.op (some 3) (.move (.const (.int .i64 0))) false
  .nil))
  (.seq (.region false (.op (some 4) (.load false 1 (.tmp 1)) false
  (.op (some 5) (.move (.tmp 0)) false
  (.op (some 6) (.indexAddr 2 (.tmp 4) (.tmp 5)) false
  (.op (some 7) (.fieldAddr 0 (.tmp 6)) false
  (.op (some 8) (.load false 1 (.tmp 7)) false
  (.op (some 3) (.move (.tmp 8)) false
  .nil)))))))
  .ret)),
 [.tmp 3]⟩
theorem ok11 : ∃ fn c, FunOk Try.prog 11 fn c A11 := ⟨Try.f11, _, ⟨Try.func11, rfl, by kernel_rfl, by kernel_rfl, by kernel_rfl, of_decide_eq_true (by kernel_rfl), by kernel_rfl⟩⟩
noncomputable def s11 (Γ : Callee) (n : Nat) (x0 : Value) (x1 : Value) (h : AHeap) : Rt :=
 (loadf false 1 x1 h).bind fun v0 =>
 (indexAddrf 2 v0 x0).bind fun v1 =>
 (fieldAddrf 0 v1).bind fun v2 =>
 (loadf false 1 v2 h).bind fun v3 =>
 fin h h [v3]

theorem s11_eq (Γ : Callee) (n : Nat) (x0 : Value) (x1 : Value) (h : AHeap) : funK Γ n A11 [x0, x1] h = s11 Γ n x0 x1 h := by kernel_rfl

/-- orchestrion/analyse.Energy$2 -/
def A12 : AFun := ⟨2, 9,
 (.seq (.region false (.op (some 3) (.move (.const (.int .i64 0))) false
  .nil))
  (.seq (.region false (.op (some 4) (.load false 1 (.tmp 1)) false
  (.op (some 5) (.move (.tmp 0)) false
  (.op (some 6) (.indexAddr 2 (.tmp 4) (.tmp 5)) false
  (.op (some 7) (.fieldAddr 1 (.tmp 6)) false
  (.op (some 8) (.load false 1 (.tmp 7)) false
  (.op (some 3) (.move (.tmp 8)) false
  .nil)))))))
  .ret)),
 [.tmp 3]⟩
theorem ok12 : ∃ fn c, FunOk Try.prog 12 fn c A12 := ⟨Try.f12, _, ⟨Try.func12, rfl, by kernel_rfl, by kernel_rfl, by kernel_rfl, of_decide_eq_true (by kernel_rfl), by kernel_rfl⟩⟩
noncomputable def s12 (Γ : Callee) (n : Nat) (x0 : Value) (x1 : Value) (h : AHeap) : Rt :=
 (loadf false 1 x1 h).bind fun v0 =>
 (indexAddrf 2 v0 x0).bind fun v1 =>
 (fieldAddrf 1 v1).bind fun v2 =>
 (loadf false 1 v2 h).bind fun v3 =>
 fin h h [v3]

theorem s12_eq (Γ : Callee) (n : Nat) (x0 : Value) (x1 : Value) (h : AHeap) : funK Γ n A12 [x0, x1] h = s12 Γ n x0 x1 h := by kernel_rfl

def T : ATable := [(3, A3), (4, A4), (5, A5), (6, A6), (7, A7), (8, A8), (9, A9), (10, A10), (11, A11), (12, A12)]
end Go.Am.X
