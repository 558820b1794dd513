/- Printed by a program of mine from the dump: the machine's form of the program's functions. -/
import Derived.Test.YtiknjkndpkadhaaAm33
import Derived.Test.YtiknjkndpkadhaaChecked
set_option linter.unusedVariables false
set_option maxRecDepth 100000
namespace Go.Am.X
open Go.Proofs
/-- gosem.cut.init -/
def A2 : AFun := ⟨0, 1,
 (.region false (.op (some 0) (.call 1 []) false
  .nil)),
 []⟩
theorem ok2 : ∃ fn c, FunOk Try.prog 2 fn c A2 := ⟨Try.f2, _, ⟨Try.func2, rfl, by kernel_rfl, by kernel_rfl, by kernel_rfl, of_decide_eq_true (by kernel_rfl), by kernel_rfl⟩⟩
noncomputable def s2 (Γ : Callee) (n : Nat) (h : AHeap) : Rt :=
 (Γ 1 [] h).bind fun p0 =>
 fin h p0.2 []

theorem s2_eq (Γ : Callee) (n : Nat) (h : AHeap) : funK Γ n A2 [] h = s2 Γ n h := by kernel_rfl

/-- orchestrion/orchestrionlaw12.PlayMute -/
def A3 : AFun := ⟨2, 39,
 (.seq (.region false (.op (some 4) (.move (.const (.bool false))) false
  .nil))
  (.seq (.seq (.region false (.op (some 7) (.move (.tmp 0)) false
  (.op (some 8) (.len false (.tmp 7)) false
  (.op (some 9) (.bin .gtr (.tmp 8) (.const (.int .i64 500))) false
  (.op (some 10) (.move (.tmp 9)) false
  (.sc 14 10 false [11, 12, 13]
  (.op (some 11) (.move (.tmp 1)) false
  (.op (some 12) (.len false (.tmp 11)) false
  (.op (some 13) (.bin .gtr (.tmp 12) (.const (.int .i64 100))) false
  .nil))) (.tmp 13)
  .nil))))))
  (.cond (.tmp 14) [] [4]
  (.seq (.region false (.op (some 4) (.move (.const (.bool true))) false
  .nil))
  .ret)
  .skip))
  (.seq (.seq (.region false (.op (some 15) (.move (.tmp 0)) false
  (.op (some 16) (.len false (.tmp 15)) false
  (.op (some 17) (.move (.const (.int .i64 0))) false
  .nil))))
  (.block 0 [] [4, 6, 17, 18, 19, 20, 21, 22, 23, 24, 25, 26, 27, 28, 29, 30, 31]
  (.loop [17, 26, 27, 28, 29] [4, 6, 18, 19, 20, 21, 22, 23, 24, 25, 30, 31]
  (.seq (.region false (.op (some 18) (.bin .lss (.tmp 17) (.tmp 16)) false
  .nil))
  (.seq (.cond (.tmp 18) [] []
  .skip
  (.exit 0))
  (.seq (.block 1 [26, 27, 28, 29] [4, 6, 19, 20, 21, 22, 23, 24, 25, 30]
  (.seq (.region false (.op (some 19) (.indexAddr 6 (.tmp 15) (.tmp 17)) false
  (.op (some 20) (.load true 6 (.tmp 19)) false
  (.op (some 6) (.new 26 [(.int .i64 0), (.int .i64 0), (.int .i64 0), (.int .i64 0), (.slice none 0 0), (.slice none 0 0)]) false
  (.op none (.store 6 (.tmp 6) (.tmp 20)) false
  .nil)))))
  (.seq (.region false (.op (some 21) (.fieldAddr 4 (.tmp 6)) false
  (.op (some 22) (.load false 1 (.tmp 21)) false
  (.op (some 23) (.len false (.tmp 22)) false
  (.op (some 24) (.bin .gtr (.tmp 23) (.const (.int .i64 100))) false
  (.op (some 25) (.move (.tmp 24)) false
  (.sc 30 25 false [26, 27, 28, 29]
  (.op (some 26) (.fieldAddr 5 (.tmp 6)) false
  (.op (some 27) (.load false 1 (.tmp 26)) false
  (.op (some 28) (.len false (.tmp 27)) false
  (.op (some 29) (.bin .gtr (.tmp 28) (.const (.int .i64 100))) false
  .nil)))) (.tmp 29)
  .nil)))))))
  (.cond (.tmp 30) [] [4]
  (.seq (.region false (.op (some 4) (.move (.const (.bool true))) false
  .nil))
  .ret)
  .skip))))
  (.region false (.op (some 31) (.bin .add (.tmp 17) (.const (.int .i64 1))) false
  (.op (some 17) (.move (.tmp 31)) false
  .nil)))))))))
  (.seq (.region false (.op (some 32) (.move (.tmp 0)) false
  (.op (some 33) (.move (.tmp 1)) false
  (.op (some 34) (.call 5 [(.tmp 32), (.tmp 33)]) false
  (.op (some 35) (.move (.tmp 0)) false
  (.op (some 36) (.move (.tmp 1)) false
  (.op (some 37) (.call 6 [(.tmp 35), (.tmp 36)]) false
  (.op (some 38) (.call 4 [(.tmp 34), (.tmp 37)]) false
  (.op (some 4) (.move (.tmp 38)) false
  .nil)))))))))
  .ret)))),
 [.tmp 4]⟩
theorem ok3 : ∃ fn c, FunOk Try.prog 3 fn c A3 := ⟨Try.f3, _, ⟨Try.func3, rfl, by kernel_rfl, by kernel_rfl, by kernel_rfl, of_decide_eq_true (by kernel_rfl), by kernel_rfl⟩⟩
noncomputable def s3_L0 (Γ : Callee) (n : Nat) (x0 : Value) (h : AHeap) (v8 : Value) (j9 : List Value → AHeap → Rt) : (List Value → AHeap → Rt) → List Value → AHeap → Rt := fun c15 w16 h17 =>
 (binf .lss (nth w16 0) v8).bind fun v18 =>
 JL (fun w20 h21 =>
 JL (fun w23 h24 =>
 (binf .add (nth w16 0) ((.int .i64 1) : Value)).bind fun v25 =>
 c15 [v25, (nth w23 0), (nth w23 1), (nth w23 2), (nth w23 3)] h24) fun j22 =>
 (indexAddrf 6 x0 (nth w16 0)).bind fun v26 =>
 (loadf true 6 v26 h21).bind fun v27 =>
 fork (ptrTo h21.length 0) (h21 ++ [.cells [(.int .i64 0), (.int .i64 0), (.int .i64 0), (.int .i64 0), (.slice none 0 0), (.slice none 0 0)] 26 true]) fun v28 h29 =>
 (storef 6 v28 v27 h29).bind fun h30 =>
 (fieldAddrf 4 v28).bind fun v31 =>
 (loadf false 1 v31 h30).bind fun v32 =>
 (lenf false v32).bind fun v33 =>
 (binf .gtr v33 ((.int .i64 100) : Value)).bind fun v34 =>
 J1 (fun v36 h37 =>
 JL (fun w39 h40 =>
 j22 [junk, junk, junk, junk] h40) fun j38 =>
 ifK v36 (
 fin h h37 [((.bool true) : Value)]) (
 j38 [] h37)) fun j35 =>
 scK v34 false (
 (fieldAddrf 5 v28).bind fun v41 =>
 (loadf false 1 v41 h30).bind fun v42 =>
 (lenf false v42).bind fun v43 =>
 (binf .gtr v43 ((.int .i64 100) : Value)).bind fun v44 =>
 j35 v44 h30)
 (j35 (.bool true) h30)) fun j19 =>
 ifK v18 (
 j19 [] h17) (
 j9 [] h17)
noncomputable def s3 (Γ : Callee) (n : Nat) (x0 : Value) (x1 : Value) (h : AHeap) : Rt :=
 (lenf false x0).bind fun v0 =>
 (binf .gtr v0 ((.int .i64 500) : Value)).bind fun v1 =>
 J1 (fun v3 h4 =>
 JL (fun w6 h7 =>
 (lenf false x0).bind fun v8 =>
 JL (fun w10 h11 =>
 (Γ 5 [x0, x1] h11).bind fun p12 =>
 (Γ 6 [x0, x1] p12.2).bind fun p13 =>
 (Γ 4 [p12.1, p13.1] p13.2).bind fun p14 =>
 fin h p14.2 [p14.1]) fun j9 =>
 loopN (s3_L0 Γ n x0 h v8 j9) n [((.int .i64 0) : Value), undef, undef, undef, undef] h7) fun j5 =>
 ifK v3 (
 fin h h4 [((.bool true) : Value)]) (
 j5 [] h4)) fun j2 =>
 scK v1 false (
 (lenf false x1).bind fun v45 =>
 (binf .gtr v45 ((.int .i64 100) : Value)).bind fun v46 =>
 j2 v46 h)
 (j2 (.bool true) h)

theorem s3_eq (Γ : Callee) (n : Nat) (x0 : Value) (x1 : Value) (h : AHeap) : funK Γ n A3 [x0, x1] h = s3 Γ n x0 x1 h := by kernel_rfl

/-- orchestrion/orchestrionref12.SameLog -/
def A4 : AFun := ⟨2, 27,
 (.seq (.region false (.op (some 4) (.move (.const (.bool false))) false
  .nil))
  (.seq (.seq (.region false (.op (some 6) (.move (.tmp 0)) false
  (.op (some 7) (.len false (.tmp 6)) false
  (.op (some 8) (.move (.tmp 1)) false
  (.op (some 9) (.len false (.tmp 8)) false
  (.op (some 10) (.bin .neq (.tmp 7) (.tmp 9)) false
  .nil))))))
  (.cond (.tmp 10) [] [4]
  (.seq (.region false (.op (some 4) (.move (.const (.bool false))) false
  .nil))
  .ret)
  .skip))
  (.seq (.seq (.region false (.op (some 11) (.move (.tmp 0)) false
  (.op (some 12) (.len false (.tmp 11)) false
  (.op (some 13) (.move (.const (.int .i64 0))) false
  .nil))))
  (.block 0 [] [4, 5, 13, 14, 15, 16, 17, 18, 19, 20, 21, 22, 23, 24, 25, 26]
  (.loop [13] [4, 5, 14, 15, 16, 17, 18, 19, 20, 21, 22, 23, 24, 25, 26]
  (.seq (.region false (.op (some 14) (.bin .lss (.tmp 13) (.tmp 12)) false
  .nil))
  (.seq (.cond (.tmp 14) [] []
  .skip
  (.exit 0))
  (.seq (.block 1 [] [4, 5, 15, 16, 17, 18, 19, 20, 21, 22, 23, 24, 25]
  (.seq (.region false (.op (some 15) (.move (.tmp 13)) false
  (.op (some 5) (.move (.tmp 15)) false
  .nil)))
  (.seq (.region true (.op (some 16) (.move (.tmp 0)) false
  (.op (some 17) (.move (.tmp 5)) false
  (.op (some 18) (.indexAddr 6 (.tmp 16) (.tmp 17)) false
  (.op (some 19) (.load true 6 (.tmp 18)) false
  (.op (some 20) (.move (.tmp 1)) false
  (.op (some 21) (.move (.tmp 5)) false
  (.op (some 22) (.indexAddr 6 (.tmp 20) (.tmp 21)) false
  (.op (some 23) (.load true 6 (.tmp 22)) false
  (.op (some 24) (.call 7 [(.tmp 19), (.tmp 23)]) false
  (.op (some 25) (.un .not (.tmp 24)) false
  .nil)))))))))))
  (.cond (.tmp 25) [] [4]
  (.seq (.region false (.op (some 4) (.move (.const (.bool false))) false
  .nil))
  .ret)
  .skip))))
  (.region false (.op (some 26) (.bin .add (.tmp 13) (.const (.int .i64 1))) false
  (.op (some 13) (.move (.tmp 26)) false
  .nil)))))))))
  (.seq (.region false (.op (some 4) (.move (.const (.bool true))) false
  .nil))
  .ret)))),
 [.tmp 4]⟩
theorem ok4 : ∃ fn c, FunOk Try.prog 4 fn c A4 := ⟨Try.f4, _, ⟨Try.func4, rfl, by kernel_rfl, by kernel_rfl, by kernel_rfl, of_decide_eq_true (by kernel_rfl), by kernel_rfl⟩⟩
noncomputable def s4_L0 (Γ : Callee) (n : Nat) (x0 : Value) (x1 : Value) (h : AHeap) (v6 : Value) (j7 : List Value → AHeap → Rt) : (List Value → AHeap → Rt) → List Value → AHeap → Rt := fun c10 w11 h12 =>
 (binf .lss (nth w11 0) v6).bind fun v13 =>
 JL (fun w15 h16 =>
 JL (fun w18 h19 =>
 (binf .add (nth w11 0) ((.int .i64 1) : Value)).bind fun v20 =>
 c10 [v20] h19) fun j17 =>
 (indexAddrf 6 x0 (nth w11 0)).bind fun v21 =>
 (loadf true 6 v21 h16).bind fun v22 =>
 (indexAddrf 6 x1 (nth w11 0)).bind fun v23 =>
 (loadf true 6 v23 h16).bind fun v24 =>
 (Γ 7 [v22, v24] h16).bind fun p25 =>
 (unf .not p25.1).bind fun v26 =>
 JL (fun w28 h29 =>
 j17 [] h29) fun j27 =>
 ifK v26 (
 fin h p25.2 [((.bool false) : Value)]) (
 j27 [] p25.2)) fun j14 =>
 ifK v13 (
 j14 [] h12) (
 j7 [] h12)
noncomputable def s4 (Γ : Callee) (n : Nat) (x0 : Value) (x1 : Value) (h : AHeap) : Rt :=
 (lenf false x0).bind fun v0 =>
 (lenf false x1).bind fun v1 =>
 (binf .neq v0 v1).bind fun v2 =>
 JL (fun w4 h5 =>
 (lenf false x0).bind fun v6 =>
 JL (fun w8 h9 =>
 fin h h9 [((.bool true) : Value)]) fun j7 =>
 loopN (s4_L0 Γ n x0 x1 h v6 j7) n [((.int .i64 0) : Value)] h5) fun j3 =>
 ifK v2 (
 fin h h [((.bool false) : Value)]) (
 j3 [] h)

theorem s4_eq (Γ : Callee) (n : Nat) (x0 : Value) (x1 : Value) (h : AHeap) : funK Γ n A4 [x0, x1] h = s4 Γ n x0 x1 h := by kernel_rfl

/-- orchestrion/play.Mute -/
def A5 : AFun := ⟨2, 38,
 (.seq (.region false (.op (some 3) (.box 23 (.tmp 1)) false
  (.op (some 4) (.move (.const (.slice none 0 0))) false
  .nil)))
  (.seq (.region false (.op (some 7) (.move (.tmp 0)) false
  (.op (some 8) (.call 8 [(.tmp 7)]) false
  (.op (some 5) (.move (.tmp 8)) false
  .nil))))
  (.seq (.seq (.region false (.op (some 9) (.move (.tmp 5)) false
  (.op (some 10) (.len false (.tmp 9)) false
  (.op (some 11) (.move (.const (.int .i64 0))) false
  .nil))))
  (.block 0 [] [6, 11, 12, 13, 14, 15, 16, 17, 18, 19, 20, 21, 22, 23, 24, 25, 26, 27, 28, 29, 30, 31, 32, 33, 34, 35, 36]
  (.loop [11] [6, 12, 13, 14, 15, 16, 17, 18, 19, 20, 21, 22, 23, 24, 25, 26, 27, 28, 29, 30, 31, 32, 33, 34, 35, 36]
  (.seq (.region false (.op (some 12) (.bin .lss (.tmp 11) (.tmp 10)) false
  .nil))
  (.seq (.cond (.tmp 12) [] []
  .skip
  (.exit 0))
  (.seq (.block 1 [] [6, 13, 14, 15, 16, 17, 18, 19, 20, 21, 22, 23, 24, 25, 26, 27, 28, 29, 30, 31, 32, 33, 34, 35]
  (.seq (.region false (.op (some 13) (.move (.tmp 11)) false
  (.op (some 6) (.move (.tmp 13)) false
  .nil)))
  (.seq (.region false (.op (some 14) (.move (.tmp 5)) false
  (.op (some 15) (.move (.tmp 6)) false
  (.op (some 16) (.move (.tmp 5)) false
  (.op (some 17) (.move (.tmp 6)) false
  (.op (some 18) (.indexAddr 6 (.tmp 16) (.tmp 17)) false
  (.op (some 19) (.fieldAddr 5 (.tmp 18)) false
  (.op (some 20) (.load false 1 (.tmp 19)) false
  (.op (some 21) (.call 9 [(.tmp 20)]) false
  (.op (some 22) (.indexAddr 6 (.tmp 14) (.tmp 15)) false
  (.op (some 23) (.fieldAddr 5 (.tmp 22)) false
  (.op none (.store 1 (.tmp 23) (.tmp 21)) false
  .nil))))))))))))
  (.region false (.op (some 24) (.move (.tmp 5)) false
  (.op (some 25) (.move (.tmp 6)) false
  (.op (some 26) (.move (.tmp 5)) false
  (.op (some 27) (.move (.tmp 6)) false
  (.op (some 28) (.indexAddr 6 (.tmp 26) (.tmp 27)) false
  (.op (some 29) (.fieldAddr 4 (.tmp 28)) false
  (.op (some 30) (.load false 1 (.tmp 29)) false
  (.op (some 31) (.call 11 [(.tmp 30)]) false
  (.op (some 32) (.mkFunc 12 [] [(.tmp 3)]) false
  (.op (some 33) (.call 10 [(.tmp 31), (.tmp 32)]) false
  (.op (some 34) (.indexAddr 6 (.tmp 24) (.tmp 25)) false
  (.op (some 35) (.fieldAddr 4 (.tmp 34)) false
  (.op none (.store 1 (.tmp 35) (.tmp 33)) false
  .nil)))))))))))))))))
  (.region false (.op (some 36) (.bin .add (.tmp 11) (.const (.int .i64 1))) false
  (.op (some 11) (.move (.tmp 36)) false
  .nil)))))))))
  (.seq (.region false (.op (some 37) (.move (.tmp 5)) false
  (.op (some 4) (.move (.tmp 37)) false
  .nil)))
  .ret)))),
 [.tmp 4]⟩
theorem ok5 : ∃ fn c, FunOk Try.prog 5 fn c A5 := ⟨Try.f5, _, ⟨Try.func5, rfl, by kernel_rfl, by kernel_rfl, by kernel_rfl, of_decide_eq_true (by kernel_rfl), by kernel_rfl⟩⟩
noncomputable def s5_L0 (Γ : Callee) (n : Nat) (v0 : Value) (p2 : Value × AHeap) (v3 : Value) (j4 : List Value → AHeap → Rt) : (List Value → AHeap → Rt) → List Value → AHeap → Rt := fun c7 w8 h9 =>
 (binf .lss (nth w8 0) v3).bind fun v10 =>
 JL (fun w12 h13 =>
 JL (fun w15 h16 =>
 (binf .add (nth w8 0) ((.int .i64 1) : Value)).bind fun v17 =>
 c7 [v17] h16) fun j14 =>
 (indexAddrf 6 p2.1 (nth w8 0)).bind fun v18 =>
 (fieldAddrf 5 v18).bind fun v19 =>
 (loadf false 1 v19 h13).bind fun v20 =>
 (Γ 9 [v20] h13).bind fun p21 =>
 (indexAddrf 6 p2.1 (nth w8 0)).bind fun v22 =>
 (fieldAddrf 5 v22).bind fun v23 =>
 (storef 1 v23 p21.1 p21.2).bind fun h24 =>
 (indexAddrf 6 p2.1 (nth w8 0)).bind fun v25 =>
 (fieldAddrf 4 v25).bind fun v26 =>
 (loadf false 1 v26 h24).bind fun v27 =>
 (Γ 11 [v27] h24).bind fun p28 =>
 (Γ 10 [p28.1, (Value.func (.func 12) (List.toArray []) (List.toArray [v0]))] p28.2).bind fun p29 =>
 (indexAddrf 6 p2.1 (nth w8 0)).bind fun v30 =>
 (fieldAddrf 4 v30).bind fun v31 =>
 (storef 1 v31 p29.1 p29.2).bind fun h32 =>
 j14 [] h32) fun j11 =>
 ifK v10 (
 j11 [] h9) (
 j4 [] h9)
noncomputable def s5 (Γ : Callee) (n : Nat) (x0 : Value) (x1 : Value) (h : AHeap) : Rt :=
 fork (ptrTo h.length 0) (h ++ [.cells (cellsL x1) 23 true]) fun v0 h1 =>
 (Γ 8 [x0] h1).bind fun p2 =>
 (lenf false p2.1).bind fun v3 =>
 JL (fun w5 h6 =>
 fin h h6 [p2.1]) fun j4 =>
 loopN (s5_L0 Γ n v0 p2 v3 j4) n [((.int .i64 0) : Value)] p2.2

theorem s5_eq (Γ : Callee) (n : Nat) (x0 : Value) (x1 : Value) (h : AHeap) : funK Γ n A5 [x0, x1] h = s5 Γ n x0 x1 h := by kernel_rfl

/-- orchestrion/orchestrionref12.Mute -/
def A6 : AFun := ⟨2, 48,
 (.seq (.region false (.op (some 4) (.move (.const (.slice none 0 0))) false
  .nil))
  (.seq (.region false (.op (some 5) (.move (.const (.slice none 0 0))) false
  .nil))
  (.seq (.seq (.region false (.op (some 11) (.move (.tmp 0)) false
  (.op (some 12) (.len false (.tmp 11)) false
  (.op (some 13) (.move (.const (.int .i64 0))) false
  .nil))))
  (.block 0 [5] [7, 8, 10, 13, 14, 15, 16, 17, 18, 19, 20, 21, 22, 23, 24, 25, 26, 27, 28, 29, 30, 31, 32, 33, 34, 35, 36, 37, 38, 39, 40, 41, 42, 43, 44, 45, 46]
  (.loop [5, 13] [7, 8, 10, 14, 15, 16, 17, 18, 19, 20, 21, 22, 23, 24, 25, 26, 27, 28, 29, 30, 31, 32, 33, 34, 35, 36, 37, 38, 39, 40, 41, 42, 43, 44, 45, 46]
  (.seq (.region false (.op (some 14) (.bin .lss (.tmp 13) (.tmp 12)) false
  .nil))
  (.seq (.cond (.tmp 14) [] []
  .skip
  (.exit 0))
  (.seq (.block 1 [5] [7, 8, 10, 15, 16, 17, 18, 19, 20, 21, 22, 23, 24, 25, 26, 27, 28, 29, 30, 31, 32, 33, 34, 35, 36, 37, 38, 39, 40, 41, 42, 43, 44, 45]
  (.seq (.region false (.op (some 15) (.indexAddr 6 (.tmp 11) (.tmp 13)) false
  (.op (some 16) (.load true 6 (.tmp 15)) false
  (.op (some 7) (.new 26 [(.int .i64 0), (.int .i64 0), (.int .i64 0), (.int .i64 0), (.slice none 0 0), (.slice none 0 0)]) false
  (.op none (.store 6 (.tmp 7) (.tmp 16)) false
  .nil)))))
  (.seq (.region false (.op (some 17) (.load true 6 (.tmp 7)) false
  (.op (some 8) (.new 26 [(.int .i64 0), (.int .i64 0), (.int .i64 0), (.int .i64 0), (.slice none 0 0), (.slice none 0 0)]) false
  (.op none (.store 6 (.tmp 8) (.tmp 17)) false
  .nil))))
  (.seq (.region false (.op (some 18) (.fieldAddr 5 (.tmp 7)) false
  (.op (some 19) (.load false 1 (.tmp 18)) false
  (.op (some 20) (.call 9 [(.tmp 19)]) false
  (.op (some 21) (.fieldAddr 4 (.tmp 8)) false
  (.op none (.store 1 (.tmp 21) (.const (.slice none 0 0))) false
  (.op (some 22) (.fieldAddr 5 (.tmp 8)) false
  (.op none (.store 1 (.tmp 22) (.tmp 20)) false
  .nil))))))))
  (.seq (.seq (.region false (.op (some 23) (.fieldAddr 4 (.tmp 7)) false
  (.op (some 24) (.load false 1 (.tmp 23)) false
  (.op (some 25) (.len false (.tmp 24)) false
  (.op (some 26) (.move (.const (.int .i64 0))) false
  .nil)))))
  (.block 2 [] [10, 26, 27, 28, 29, 30, 31, 32, 33, 34, 35, 36, 37, 38, 39, 40, 41]
  (.loop [26] [10, 27, 28, 29, 30, 31, 32, 33, 34, 35, 36, 37, 38, 39, 40, 41]
  (.seq (.region false (.op (some 27) (.bin .lss (.tmp 26) (.tmp 25)) false
  .nil))
  (.seq (.cond (.tmp 27) [] []
  .skip
  (.exit 2))
  (.seq (.block 3 [] [10, 28, 29, 30, 31, 32, 33, 34, 35, 36, 37, 38, 39, 40]
  (.seq (.region false (.op (some 28) (.indexAddr 13 (.tmp 24) (.tmp 26)) false
  (.op (some 29) (.load true 13 (.tmp 28)) false
  (.op (some 10) (.new 35 [(.int .i64 0), (.int .i64 0), (.int .i64 0), (.bool false), (.bool false), (.bool false), (.bool false), (.int .i64 0), (.int .i64 0), (.int .i64 0), (.int .i64 0), (.int .i64 0), (.int .i64 0)]) false
  (.op none (.store 13 (.tmp 10) (.tmp 29)) false
  .nil)))))
  (.seq (.region false (.op (some 30) (.move (.tmp 1)) false
  (.op (some 31) (.fieldAddr 1 (.tmp 10)) false
  (.op (some 32) (.load false 1 (.tmp 31)) false
  (.op (some 33) (.call 13 [(.tmp 30), (.tmp 32)]) false
  (.op (some 34) (.un .not (.tmp 33)) false
  .nil))))))
  (.cond (.tmp 34) [] [35, 36, 37, 38, 39, 40]
  (.region false (.op (some 35) (.fieldAddr 4 (.tmp 8)) false
  (.op (some 36) (.load false 1 (.tmp 35)) false
  (.op (some 37) (.load true 13 (.tmp 10)) false
  (.op (some 38) (.buildSlice 35 [(.int .i64 0), (.int .i64 0), (.int .i64 0), (.bool false), (.bool false), (.bool false), (.bool false), (.int .i64 0), (.int .i64 0), (.int .i64 0), (.int .i64 0), (.int .i64 0), (.int .i64 0)] 1 [(0, 13, (.tmp 37))]) false
  (.op (some 39) (.append 35 13 (.tmp 36) (.tmp 38)) false
  (.op (some 40) (.fieldAddr 4 (.tmp 8)) false
  (.op none (.store 1 (.tmp 40) (.tmp 39)) false
  .nil))))))))
  .skip))))
  (.region false (.op (some 41) (.bin .add (.tmp 26) (.const (.int .i64 1))) false
  (.op (some 26) (.move (.tmp 41)) false
  .nil)))))))))
  (.region false (.op (some 42) (.move (.tmp 5)) false
  (.op (some 43) (.load true 6 (.tmp 8)) false
  (.op (some 44) (.buildSlice 26 [(.int .i64 0), (.int .i64 0), (.int .i64 0), (.int .i64 0), (.slice none 0 0), (.slice none 0 0)] 1 [(0, 6, (.tmp 43))]) false
  (.op (some 45) (.append 26 6 (.tmp 42) (.tmp 44)) false
  (.op (some 5) (.move (.tmp 45)) false
  .nil)))))))))))
  (.region false (.op (some 46) (.bin .add (.tmp 13) (.const (.int .i64 1))) false
  (.op (some 13) (.move (.tmp 46)) false
  .nil)))))))))
  (.seq (.region false (.op (some 47) (.move (.tmp 5)) false
  (.op (some 4) (.move (.tmp 47)) false
  .nil)))
  .ret)))),
 [.tmp 4]⟩
theorem ok6 : ∃ fn c, FunOk Try.prog 6 fn c A6 := ⟨Try.f6, _, ⟨Try.func6, rfl, by kernel_rfl, by kernel_rfl, by kernel_rfl, of_decide_eq_true (by kernel_rfl), by kernel_rfl⟩⟩
noncomputable def s6_L0 (Γ : Callee) (n : Nat) (x1 : Value) (v21 : Value) (v32 : Value) (v33 : Value) (j34 : List Value → AHeap → Rt) : (List Value → AHeap → Rt) → List Value → AHeap → Rt := fun c42 w43 h44 =>
 (binf .lss (nth w43 0) v33).bind fun v45 =>
 JL (fun w47 h48 =>
 JL (fun w50 h51 =>
 (binf .add (nth w43 0) ((.int .i64 1) : Value)).bind fun v52 =>
 c42 [v52] h51) fun j49 =>
 (indexAddrf 13 v32 (nth w43 0)).bind fun v53 =>
 (loadf true 13 v53 h48).bind fun v54 =>
 fork (ptrTo h48.length 0) (h48 ++ [.cells [(.int .i64 0), (.int .i64 0), (.int .i64 0), (.bool false), (.bool false), (.bool false), (.bool false), (.int .i64 0), (.int .i64 0), (.int .i64 0), (.int .i64 0), (.int .i64 0), (.int .i64 0)] 35 true]) fun v55 h56 =>
 (storef 13 v55 v54 h56).bind fun h57 =>
 (fieldAddrf 1 v55).bind fun v58 =>
 (loadf false 1 v58 h57).bind fun v59 =>
 (Γ 13 [x1, v59] h57).bind fun p60 =>
 (unf .not p60.1).bind fun v61 =>
 JL (fun w63 h64 =>
 j49 [] h64) fun j62 =>
 ifK v61 (
 (fieldAddrf 4 v21).bind fun v65 =>
 (loadf false 1 v65 p60.2).bind fun v66 =>
 (loadf true 13 v55 p60.2).bind fun v67 =>
 (fillf (rep [(.int .i64 0), (.int .i64 0), (.int .i64 0), (.bool false), (.bool false), (.bool false), (.bool false), (.int .i64 0), (.int .i64 0), (.int .i64 0), (.int .i64 0), (.int .i64 0), (.int .i64 0)] 1) [(0, 13, v67)]).bind fun l68 =>
 fork (.slice (some ⟨p60.2.length, 0, none⟩) 1 1) (p60.2 ++ [.cells l68 35 true]) fun v69 h70 =>
 (appendf 35 13 v66 v69 h70).bind fun p71 =>
 (fieldAddrf 4 v21).bind fun v72 =>
 (storef 1 v72 p71.1 p71.2).bind fun h73 =>
 j62 [] h73) (
 j62 [] p60.2)) fun j46 =>
 ifK v45 (
 j46 [] h44) (
 j34 [] h44)
noncomputable def s6_L1 (Γ : Callee) (n : Nat) (x0 : Value) (x1 : Value) (v0 : Value) (j1 : List Value → AHeap → Rt) : (List Value → AHeap → Rt) → List Value → AHeap → Rt := fun c4 w5 h6 =>
 (binf .lss (nth w5 1) v0).bind fun v7 =>
 JL (fun w9 h10 =>
 JL (fun w12 h13 =>
 (binf .add (nth w5 1) ((.int .i64 1) : Value)).bind fun v14 =>
 c4 [(nth w12 0), v14] h13) fun j11 =>
 (indexAddrf 6 x0 (nth w5 1)).bind fun v15 =>
 (loadf true 6 v15 h10).bind fun v16 =>
 fork (ptrTo h10.length 0) (h10 ++ [.cells [(.int .i64 0), (.int .i64 0), (.int .i64 0), (.int .i64 0), (.slice none 0 0), (.slice none 0 0)] 26 true]) fun v17 h18 =>
 (storef 6 v17 v16 h18).bind fun h19 =>
 (loadf true 6 v17 h19).bind fun v20 =>
 fork (ptrTo h19.length 0) (h19 ++ [.cells [(.int .i64 0), (.int .i64 0), (.int .i64 0), (.int .i64 0), (.slice none 0 0), (.slice none 0 0)] 26 true]) fun v21 h22 =>
 (storef 6 v21 v20 h22).bind fun h23 =>
 (fieldAddrf 5 v17).bind fun v24 =>
 (loadf false 1 v24 h23).bind fun v25 =>
 (Γ 9 [v25] h23).bind fun p26 =>
 (fieldAddrf 4 v21).bind fun v27 =>
 (storef 1 v27 ((.slice none 0 0) : Value) p26.2).bind fun h28 =>
 (fieldAddrf 5 v21).bind fun v29 =>
 (storef 1 v29 p26.1 h28).bind fun h30 =>
 (fieldAddrf 4 v17).bind fun v31 =>
 (loadf false 1 v31 h30).bind fun v32 =>
 (lenf false v32).bind fun v33 =>
 JL (fun w35 h36 =>
 (loadf true 6 v21 h36).bind fun v37 =>
 (fillf (rep [(.int .i64 0), (.int .i64 0), (.int .i64 0), (.int .i64 0), (.slice none 0 0), (.slice none 0 0)] 1) [(0, 6, v37)]).bind fun l38 =>
 fork (.slice (some ⟨h36.length, 0, none⟩) 1 1) (h36 ++ [.cells l38 26 true]) fun v39 h40 =>
 (appendf 26 6 (nth w5 0) v39 h40).bind fun p41 =>
 j11 [p41.1] p41.2) fun j34 =>
 loopN (s6_L0 Γ n x1 v21 v32 v33 j34) n [((.int .i64 0) : Value)] h30) fun j8 =>
 ifK v7 (
 j8 [] h6) (
 j1 [(nth w5 0)] h6)
noncomputable def s6 (Γ : Callee) (n : Nat) (x0 : Value) (x1 : Value) (h : AHeap) : Rt :=
 (lenf false x0).bind fun v0 =>
 JL (fun w2 h3 =>
 fin h h3 [(nth w2 0)]) fun j1 =>
 loopN (s6_L1 Γ n x0 x1 v0 j1) n [((.slice none 0 0) : Value), ((.int .i64 0) : Value)] h

theorem s6_eq (Γ : Callee) (n : Nat) (x0 : Value) (x1 : Value) (h : AHeap) : funK Γ n A6 [x0, x1] h = s6 Γ n x0 x1 h := by kernel_rfl

/-- orchestrion/orchestrionref12.SameTick -/
def A7 : AFun := ⟨2, 45,
 (.seq (.region false (.op (some 2) (.box 26 (.tmp 0)) false
  (.op (some 3) (.box 26 (.tmp 1)) false
  (.op (some 4) (.move (.const (.bool false))) false
  .nil))))
  (.seq (.region false (.op (some 5) (.fieldAddr 0 (.tmp 2)) false
  (.op (some 6) (.load false 1 (.tmp 5)) false
  (.op (some 7) (.fieldAddr 0 (.tmp 3)) false
  (.op (some 8) (.load false 1 (.tmp 7)) false
  (.op (some 9) (.bin .eql (.tmp 6) (.tmp 8)) false
  (.op (some 10) (.move (.tmp 9)) false
  (.sc 16 10 true [11, 12, 13, 14, 15]
  (.op (some 11) (.fieldAddr 1 (.tmp 2)) false
  (.op (some 12) (.load false 1 (.tmp 11)) false
  (.op (some 13) (.fieldAddr 1 (.tmp 3)) false
  (.op (some 14) (.load false 1 (.tmp 13)) false
  (.op (some 15) (.bin .eql (.tmp 12) (.tmp 14)) false
  .nil))))) (.tmp 15)
  (.op (some 17) (.move (.tmp 16)) false
  (.sc 23 17 true [18, 19, 20, 21, 22]
  (.op (some 18) (.fieldAddr 2 (.tmp 2)) false
  (.op (some 19) (.load false 1 (.tmp 18)) false
  (.op (some 20) (.fieldAddr 2 (.tmp 3)) false
  (.op (some 21) (.load false 1 (.tmp 20)) false
  (.op (some 22) (.bin .eql (.tmp 19) (.tmp 21)) false
  .nil))))) (.tmp 22)
  (.op (some 24) (.move (.tmp 23)) false
  (.sc 30 24 true [25, 26, 27, 28, 29]
  (.op (some 25) (.fieldAddr 3 (.tmp 2)) false
  (.op (some 26) (.load false 1 (.tmp 25)) false
  (.op (some 27) (.fieldAddr 3 (.tmp 3)) false
  (.op (some 28) (.load false 1 (.tmp 27)) false
  (.op (some 29) (.bin .eql (.tmp 26) (.tmp 28)) false
  .nil))))) (.tmp 29)
  (.op (some 31) (.move (.tmp 30)) false
  (.sc 37 31 true [32, 33, 34, 35, 36]
  (.op (some 32) (.fieldAddr 4 (.tmp 2)) false
  (.op (some 33) (.load false 1 (.tmp 32)) false
  (.op (some 34) (.fieldAddr 4 (.tmp 3)) false
  (.op (some 35) (.load false 1 (.tmp 34)) false
  (.op (some 36) (.call 14 [(.tmp 33), (.tmp 35)]) false
  .nil))))) (.tmp 36)
  (.op (some 38) (.move (.tmp 37)) false
  (.sc 44 38 true [39, 40, 41, 42, 43]
  (.op (some 39) (.fieldAddr 5 (.tmp 2)) false
  (.op (some 40) (.load false 1 (.tmp 39)) false
  (.op (some 41) (.fieldAddr 5 (.tmp 3)) false
  (.op (some 42) (.load false 1 (.tmp 41)) false
  (.op (some 43) (.call 15 [(.tmp 40), (.tmp 42)]) false
  .nil))))) (.tmp 43)
  (.op (some 4) (.move (.tmp 44)) false
  .nil)))))))))))))))))
  .ret)),
 [.tmp 4]⟩
theorem ok7 : ∃ fn c, FunOk Try.prog 7 fn c A7 := ⟨Try.f7, _, ⟨Try.func7, rfl, by kernel_rfl, by kernel_rfl, by kernel_rfl, of_decide_eq_true (by kernel_rfl), by kernel_rfl⟩⟩
noncomputable def s7 (Γ : Callee) (n : Nat) (x0 : Value) (x1 : Value) (h : AHeap) : Rt :=
 fork (ptrTo h.length 0) (h ++ [.cells (cellsL x0) 26 true]) fun v0 h1 =>
 fork (ptrTo h1.length 0) (h1 ++ [.cells (cellsL x1) 26 true]) fun v2 h3 =>
 (fieldAddrf 0 v0).bind fun v4 =>
 (loadf false 1 v4 h3).bind fun v5 =>
 (fieldAddrf 0 v2).bind fun v6 =>
 (loadf false 1 v6 h3).bind fun v7 =>
 (binf .eql v5 v7).bind fun v8 =>
 J1 (fun v10 h11 =>
 J1 (fun v13 h14 =>
 J1 (fun v16 h17 =>
 J1 (fun v19 h20 =>
 J1 (fun v22 h23 =>
 fin h h23 [v22]) fun j21 =>
 scK v19 true (
 (fieldAddrf 5 v0).bind fun v24 =>
 (loadf false 1 v24 h20).bind fun v25 =>
 (fieldAddrf 5 v2).bind fun v26 =>
 (loadf false 1 v26 h20).bind fun v27 =>
 (Γ 15 [v25, v27] h20).bind fun p28 =>
 j21 p28.1 p28.2)
 (j21 (.bool false) h20)) fun j18 =>
 scK v16 true (
 (fieldAddrf 4 v0).bind fun v29 =>
 (loadf false 1 v29 h17).bind fun v30 =>
 (fieldAddrf 4 v2).bind fun v31 =>
 (loadf false 1 v31 h17).bind fun v32 =>
 (Γ 14 [v30, v32] h17).bind fun p33 =>
 j18 p33.1 p33.2)
 (j18 (.bool false) h17)) fun j15 =>
 scK v13 true (
 (fieldAddrf 3 v0).bind fun v34 =>
 (loadf false 1 v34 h14).bind fun v35 =>
 (fieldAddrf 3 v2).bind fun v36 =>
 (loadf false 1 v36 h14).bind fun v37 =>
 (binf .eql v35 v37).bind fun v38 =>
 j15 v38 h14)
 (j15 (.bool false) h14)) fun j12 =>
 scK v10 true (
 (fieldAddrf 2 v0).bind fun v39 =>
 (loadf false 1 v39 h11).bind fun v40 =>
 (fieldAddrf 2 v2).bind fun v41 =>
 (loadf false 1 v41 h11).bind fun v42 =>
 (binf .eql v40 v42).bind fun v43 =>
 j12 v43 h11)
 (j12 (.bool false) h11)) fun j9 =>
 scK v8 true (
 (fieldAddrf 1 v0).bind fun v44 =>
 (loadf false 1 v44 h3).bind fun v45 =>
 (fieldAddrf 1 v2).bind fun v46 =>
 (loadf false 1 v46 h3).bind fun v47 =>
 (binf .eql v45 v47).bind fun v48 =>
 j9 v48 h3)
 (j9 (.bool false) h3)

theorem s7_eq (Γ : Callee) (n : Nat) (x0 : Value) (x1 : Value) (h : AHeap) : funK Γ n A7 [x0, x1] h = s7 Γ n x0 x1 h := by kernel_rfl

/-- slices.Clone[[]orchestrion/api.Tick,orchestrion/api.Tick] -/
def A8 : AFun := ⟨1, 8,
 (.seq (.region false (.op (some 2) (.move (.const (.slice none 0 0))) false
  .nil))
  (.seq (.seq (.region false (.op (some 3) (.move (.tmp 0)) false
  (.op (some 4) (.isNil .slice false (.tmp 3)) false
  .nil)))
  (.cond (.tmp 4) [] [2]
  (.seq (.region false (.op (some 2) (.move (.const (.slice none 0 0))) false
  .nil))
  .ret)
  .skip))
  (.seq (.region false (.op (some 5) (.buildSlice 26 [] 0 []) false
  (.op (some 6) (.move (.tmp 0)) false
  (.op (some 7) (.append 26 6 (.tmp 5) (.tmp 6)) false
  (.op (some 2) (.move (.tmp 7)) false
  .nil)))))
  .ret))),
 [.tmp 2]⟩
theorem ok8 : ∃ fn c, FunOk Try.prog 8 fn c A8 := ⟨Try.f8, _, ⟨Try.func8, rfl, by kernel_rfl, by kernel_rfl, by kernel_rfl, of_decide_eq_true (by kernel_rfl), by kernel_rfl⟩⟩
noncomputable def s8 (Γ : Callee) (n : Nat) (x0 : Value) (h : AHeap) : Rt :=
 (isNilKf .slice false x0).bind fun v0 =>
 JL (fun w2 h3 =>
 (fillf (rep [] 0) []).bind fun l4 =>
 fork (.slice (some ⟨h3.length, 0, none⟩) 0 0) (h3 ++ [.cells l4 26 true]) fun v5 h6 =>
 (appendf 26 6 v5 x0 h6).bind fun p7 =>
 fin h p7.2 [p7.1]) fun j1 =>
 ifK v0 (
 fin h h [((.slice none 0 0) : Value)]) (
 j1 [] h)

theorem s8_eq (Γ : Callee) (n : Nat) (x0 : Value) (h : AHeap) : funK Γ n A8 [x0] h = s8 Γ n x0 h := by kernel_rfl

/-- slices.Clone[[]int,int] -/
def A9 : AFun := ⟨1, 8,
 (.seq (.region false (.op (some 2) (.move (.const (.slice none 0 0))) false
  .nil))
  (.seq (.seq (.region false (.op (some 3) (.move (.tmp 0)) false
  (.op (some 4) (.isNil .slice false (.tmp 3)) false
  .nil)))
  (.cond (.tmp 4) [] [2]
  (.seq (.region false (.op (some 2) (.move (.const (.slice none 0 0))) false
  .nil))
  .ret)
  .skip))
  (.seq (.region false (.op (some 5) (.buildSlice 3 [] 0 []) false
  (.op (some 6) (.move (.tmp 0)) false
  (.op (some 7) (.append 3 1 (.tmp 5) (.tmp 6)) false
  (.op (some 2) (.move (.tmp 7)) false
  .nil)))))
  .ret))),
 [.tmp 2]⟩
theorem ok9 : ∃ fn c, FunOk Try.prog 9 fn c A9 := ⟨Try.f9, _, ⟨Try.func9, rfl, by kernel_rfl, by kernel_rfl, by kernel_rfl, of_decide_eq_true (by kernel_rfl), by kernel_rfl⟩⟩
noncomputable def s9 (Γ : Callee) (n : Nat) (x0 : Value) (h : AHeap) : Rt :=
 (isNilKf .slice false x0).bind fun v0 =>
 JL (fun w2 h3 =>
 (fillf (rep [] 0) []).bind fun l4 =>
 fork (.slice (some ⟨h3.length, 0, none⟩) 0 0) (h3 ++ [.cells l4 3 true]) fun v5 h6 =>
 (appendf 3 1 v5 x0 h6).bind fun p7 =>
 fin h p7.2 [p7.1]) fun j1 =>
 ifK v0 (
 fin h h [((.slice none 0 0) : Value)]) (
 j1 [] h)

theorem s9_eq (Γ : Callee) (n : Nat) (x0 : Value) (h : AHeap) : funK Γ n A9 [x0] h = s9 Γ n x0 h := by kernel_rfl

/-- slices.DeleteFunc[[]orchestrion/api.VoiceTick,orchestrion/api.VoiceTick] -/
def A10 : AFun := ⟨2, 42,
 (.seq (.region false (.op (some 4) (.move (.const (.slice none 0 0))) false
  .nil))
  (.seq (.region false (.op (some 8) (.move (.tmp 0)) false
  (.op (some 9) (.move (.tmp 1)) false
  (.op (some 10) (.call 16 [(.tmp 8), (.tmp 9)]) false
  (.op (some 5) (.move (.tmp 10)) false
  .nil)))))
  (.seq (.seq (.region false (.op (some 11) (.move (.tmp 5)) false
  (.op (some 12) (.bin .eql (.tmp 11) (.const (.int .i64 (-1)))) false
  .nil)))
  (.cond (.tmp 12) [] [4, 13]
  (.seq (.region false (.op (some 13) (.move (.tmp 0)) false
  (.op (some 4) (.move (.tmp 13)) false
  .nil)))
  .ret)
  .skip))
  (.seq (.seq (.region false (.op (some 14) (.move (.tmp 5)) false
  (.op (some 15) (.bin .add (.tmp 14) (.const (.int .i64 1))) false
  (.op (some 6) (.move (.tmp 15)) false
  .nil))))
  (.block 0 [5] [6, 7, 16, 17, 18, 19, 20, 21, 22, 23, 24, 25, 26, 27, 28, 29, 30, 31, 32, 33, 34, 35]
  (.loop [5, 6] [7, 16, 17, 18, 19, 20, 21, 22, 23, 24, 25, 26, 27, 28, 29, 30, 31, 32, 33, 34, 35]
  (.seq (.seq (.region false (.op (some 16) (.move (.tmp 6)) false
  (.op (some 17) (.move (.tmp 0)) false
  (.op (some 18) (.len false (.tmp 17)) false
  (.op (some 19) (.bin .lss (.tmp 16) (.tmp 18)) false
  .nil)))))
  (.cond (.tmp 19) [] []
  .skip
  (.exit 0)))
  (.seq (.block 1 [5] [7, 22, 23, 24, 25, 26, 27, 28, 29, 30, 31, 32, 33, 34, 35]
  (.seq (.region false (.op (some 22) (.move (.tmp 0)) false
  (.op (some 23) (.move (.tmp 6)) false
  (.op (some 24) (.indexAddr 13 (.tmp 22) (.tmp 23)) false
  (.op (some 25) (.load true 13 (.tmp 24)) false
  (.op (some 7) (.new 35 [(.int .i64 0), (.int .i64 0), (.int .i64 0), (.bool false), (.bool false), (.bool false), (.bool false), (.int .i64 0), (.int .i64 0), (.int .i64 0), (.int .i64 0), (.int .i64 0), (.int .i64 0)]) false
  (.op none (.store 13 (.tmp 7) (.tmp 25)) false
  .nil)))))))
  (.seq (.region false (.op (some 26) (.move (.tmp 1)) false
  (.op (some 27) (.load true 13 (.tmp 7)) false
  (.op (some 28) (.callV (.tmp 26) [(.tmp 27)]) false
  (.op (some 29) (.un .not (.tmp 28)) false
  .nil)))))
  (.cond (.tmp 29) [5] [30, 31, 32, 33, 34, 35]
  (.seq (.region false (.op (some 30) (.move (.tmp 0)) false
  (.op (some 31) (.move (.tmp 5)) false
  (.op (some 32) (.load true 13 (.tmp 7)) false
  (.op (some 33) (.indexAddr 13 (.tmp 30) (.tmp 31)) false
  (.op none (.store 13 (.tmp 33) (.tmp 32)) false
  .nil))))))
  (.region false (.op (some 34) (.move (.tmp 5)) false
  (.op (some 35) (.bin .add (.tmp 34) (.const (.int .i64 1))) false
  (.op (some 5) (.move (.tmp 35)) false
  .nil)))))
  .skip))))
  (.region false (.op (some 20) (.move (.tmp 6)) false
  (.op (some 21) (.bin .add (.tmp 20) (.const (.int .i64 1))) false
  (.op (some 6) (.move (.tmp 21)) false
  .nil)))))))))
  (.seq (.region false (.op (some 36) (.move (.tmp 0)) false
  (.op (some 37) (.move (.tmp 5)) false
  (.op (some 38) (.slice 13 (.tmp 36) (some (.tmp 37)) none none) false
  (.op none (.clear [(.int .i64 0), (.int .i64 0), (.int .i64 0), (.bool false), (.bool false), (.bool false), (.bool false), (.int .i64 0), (.int .i64 0), (.int .i64 0), (.int .i64 0), (.int .i64 0), (.int .i64 0)] (.tmp 38)) false
  .nil)))))
  (.seq (.region false (.op (some 39) (.move (.tmp 0)) false
  (.op (some 40) (.move (.tmp 5)) false
  (.op (some 41) (.slice 13 (.tmp 39) none (some (.tmp 40)) none) false
  (.op (some 4) (.move (.tmp 41)) false
  .nil)))))
  .ret)))))),
 [.tmp 4]⟩
theorem ok10 : ∃ fn c, FunOk Try.prog 10 fn c A10 := ⟨Try.f10, _, ⟨Try.func10, rfl, by kernel_rfl, by kernel_rfl, by kernel_rfl, of_decide_eq_true (by kernel_rfl), by kernel_rfl⟩⟩
noncomputable def s10_L0 (Γ : Callee) (n : Nat) (x0 : Value) (x1 : Value) (j6 : List Value → AHeap → Rt) : (List Value → AHeap → Rt) → List Value → AHeap → Rt := fun c12 w13 h14 =>
 (lenf false x0).bind fun v15 =>
 (binf .lss (nth w13 1) v15).bind fun v16 =>
 JL (fun w18 h19 =>
 JL (fun w21 h22 =>
 (binf .add (nth w13 1) ((.int .i64 1) : Value)).bind fun v23 =>
 c12 [(nth w21 0), v23] h22) fun j20 =>
 (indexAddrf 13 x0 (nth w13 1)).bind fun v24 =>
 (loadf true 13 v24 h19).bind fun v25 =>
 fork (ptrTo h19.length 0) (h19 ++ [.cells [(.int .i64 0), (.int .i64 0), (.int .i64 0), (.bool false), (.bool false), (.bool false), (.bool false), (.int .i64 0), (.int .i64 0), (.int .i64 0), (.int .i64 0), (.int .i64 0), (.int .i64 0)] 35 true]) fun v26 h27 =>
 (storef 13 v26 v25 h27).bind fun h28 =>
 (loadf true 13 v26 h28).bind fun v29 =>
 (callVf Γ x1 [v29] h28).bind fun p30 =>
 (unf .not p30.1).bind fun v31 =>
 JL (fun w33 h34 =>
 j20 [(nth w33 0)] h34) fun j32 =>
 ifK v31 (
 (loadf true 13 v26 p30.2).bind fun v35 =>
 (indexAddrf 13 x0 (nth w13 0)).bind fun v36 =>
 (storef 13 v36 v35 p30.2).bind fun h37 =>
 (binf .add (nth w13 0) ((.int .i64 1) : Value)).bind fun v38 =>
 j32 [v38] h37) (
 j32 [(nth w13 0)] p30.2)) fun j17 =>
 ifK v16 (
 j17 [] h14) (
 j6 [(nth w13 0)] h14)
noncomputable def s10 (Γ : Callee) (n : Nat) (x0 : Value) (x1 : Value) (h : AHeap) : Rt :=
 (Γ 16 [x0, x1] h).bind fun p0 =>
 (binf .eql p0.1 ((.int .i64 (-1)) : Value)).bind fun v1 =>
 JL (fun w3 h4 =>
 (binf .add p0.1 ((.int .i64 1) : Value)).bind fun v5 =>
 JL (fun w7 h8 =>
 (slicef 13 x0 (some (nth w7 0)) none none).bind fun v9 =>
 (clearf [(.int .i64 0), (.int .i64 0), (.int .i64 0), (.bool false), (.bool false), (.bool false), (.bool false), (.int .i64 0), (.int .i64 0), (.int .i64 0), (.int .i64 0), (.int .i64 0), (.int .i64 0)] v9 h8).bind fun p10 =>
 (slicef 13 x0 none (some (nth w7 0)) none).bind fun v11 =>
 fin h p10.2 [v11]) fun j6 =>
 loopN (s10_L0 Γ n x0 x1 j6) n [p0.1, v5] h4) fun j2 =>
 ifK v1 (
 fin h p0.2 [x0]) (
 j2 [] p0.2)

theorem s10_eq (Γ : Callee) (n : Nat) (x0 : Value) (x1 : Value) (h : AHeap) : funK Γ n A10 [x0, x1] h = s10 Γ n x0 x1 h := by kernel_rfl

/-- slices.Clone[[]orchestrion/api.VoiceTick,orchestrion/api.VoiceTick] -/
def A11 : AFun := ⟨1, 8,
 (.seq (.region false (.op (some 2) (.move (.const (.slice none 0 0))) false
  .nil))
  (.seq (.seq (.region false (.op (some 3) (.move (.tmp 0)) false
  (.op (some 4) (.isNil .slice false (.tmp 3)) false
  .nil)))
  (.cond (.tmp 4) [] [2]
  (.seq (.region false (.op (some 2) (.move (.const (.slice none 0 0))) false
  .nil))
  .ret)
  .skip))
  (.seq (.region false (.op (some 5) (.buildSlice 35 [] 0 []) false
  (.op (some 6) (.move (.tmp 0)) false
  (.op (some 7) (.append 35 13 (.tmp 5) (.tmp 6)) false
  (.op (some 2) (.move (.tmp 7)) false
  .nil)))))
  .ret))),
 [.tmp 2]⟩
theorem ok11 : ∃ fn c, FunOk Try.prog 11 fn c A11 := ⟨Try.f11, _, ⟨Try.func11, rfl, by kernel_rfl, by kernel_rfl, by kernel_rfl, of_decide_eq_true (by kernel_rfl), by kernel_rfl⟩⟩
noncomputable def s11 (Γ : Callee) (n : Nat) (x0 : Value) (h : AHeap) : Rt :=
 (isNilKf .slice false x0).bind fun v0 =>
 JL (fun w2 h3 =>
 (fillf (rep [] 0) []).bind fun l4 =>
 fork (.slice (some ⟨h3.length, 0, none⟩) 0 0) (h3 ++ [.cells l4 35 true]) fun v5 h6 =>
 (appendf 35 13 v5 x0 h6).bind fun p7 =>
 fin h p7.2 [p7.1]) fun j1 =>
 ifK v0 (
 fin h h [((.slice none 0 0) : Value)]) (
 j1 [] h)

theorem s11_eq (Γ : Callee) (n : Nat) (x0 : Value) (h : AHeap) : funK Γ n A11 [x0] h = s11 Γ n x0 h := by kernel_rfl

/-- orchestrion/play.Mute$1 -/
def A12 : AFun := ⟨2, 8,
 (.seq (.region false (.op (some 2) (.box 35 (.tmp 0)) false
  (.op (some 3) (.move (.const (.bool false))) false
  .nil)))
  (.seq (.region false (.op (some 4) (.load false 1 (.tmp 1)) false
  (.op (some 5) (.fieldAddr 1 (.tmp 2)) false
  (.op (some 6) (.load false 1 (.tmp 5)) false
  (.op (some 7) (.call 13 [(.tmp 4), (.tmp 6)]) false
  (.op (some 3) (.move (.tmp 7)) false
  .nil))))))
  .ret)),
 [.tmp 3]⟩
theorem ok12 : ∃ fn c, FunOk Try.prog 12 fn c A12 := ⟨Try.f12, _, ⟨Try.func12, rfl, by kernel_rfl, by kernel_rfl, by kernel_rfl, of_decide_eq_true (by kernel_rfl), by kernel_rfl⟩⟩
noncomputable def s12 (Γ : Callee) (n : Nat) (x0 : Value) (x1 : Value) (h : AHeap) : Rt :=
 fork (ptrTo h.length 0) (h ++ [.cells (cellsL x0) 35 true]) fun v0 h1 =>
 (loadf false 1 x1 h1).bind fun v2 =>
 (fieldAddrf 1 v0).bind fun v3 =>
 (loadf false 1 v3 h1).bind fun v4 =>
 (Γ 13 [v2, v4] h1).bind fun p5 =>
 fin h p5.2 [p5.1]

theorem s12_eq (Γ : Callee) (n : Nat) (x0 : Value) (x1 : Value) (h : AHeap) : funK Γ n A12 [x0, x1] h = s12 Γ n x0 x1 h := by kernel_rfl

/-- slices.Contains[[]int,int] -/
def A13 : AFun := ⟨2, 9,
 (.seq (.region false (.op (some 4) (.move (.const (.bool false))) false
  .nil))
  (.seq (.region false (.op (some 5) (.move (.tmp 0)) false
  (.op (some 6) (.move (.tmp 1)) false
  (.op (some 7) (.call 17 [(.tmp 5), (.tmp 6)]) false
  (.op (some 8) (.bin .geq (.tmp 7) (.const (.int .i64 0))) false
  (.op (some 4) (.move (.tmp 8)) false
  .nil))))))
  .ret)),
 [.tmp 4]⟩
theorem ok13 : ∃ fn c, FunOk Try.prog 13 fn c A13 := ⟨Try.f13, _, ⟨Try.func13, rfl, by kernel_rfl, by kernel_rfl, by kernel_rfl, of_decide_eq_true (by kernel_rfl), by kernel_rfl⟩⟩
noncomputable def s13 (Γ : Callee) (n : Nat) (x0 : Value) (x1 : Value) (h : AHeap) : Rt :=
 (Γ 17 [x0, x1] h).bind fun p0 =>
 (binf .geq p0.1 ((.int .i64 0) : Value)).bind fun v1 =>
 fin h p0.2 [v1]

theorem s13_eq (Γ : Callee) (n : Nat) (x0 : Value) (x1 : Value) (h : AHeap) : funK Γ n A13 [x0, x1] h = s13 Γ n x0 x1 h := by kernel_rfl

/-- slices.Equal[[]orchestrion/api.VoiceTick,orchestrion/api.VoiceTick] -/
def A14 : AFun := ⟨2, 26,
 (.seq (.region false (.op (some 4) (.move (.const (.bool false))) false
  .nil))
  (.seq (.seq (.region false (.op (some 6) (.move (.tmp 0)) false
  (.op (some 7) (.len false (.tmp 6)) false
  (.op (some 8) (.move (.tmp 1)) false
  (.op (some 9) (.len false (.tmp 8)) false
  (.op (some 10) (.bin .neq (.tmp 7) (.tmp 9)) false
  .nil))))))
  (.cond (.tmp 10) [] [4]
  (.seq (.region false (.op (some 4) (.move (.const (.bool false))) false
  .nil))
  .ret)
  .skip))
  (.seq (.seq (.region false (.op (some 11) (.move (.tmp 0)) false
  (.op (some 12) (.len false (.tmp 11)) false
  (.op (some 13) (.move (.const (.int .i64 0))) false
  .nil))))
  (.block 0 [] [4, 5, 13, 14, 15, 16, 17, 18, 19, 20, 21, 22, 23, 24, 25]
  (.loop [13] [4, 5, 14, 15, 16, 17, 18, 19, 20, 21, 22, 23, 24, 25]
  (.seq (.region false (.op (some 14) (.bin .lss (.tmp 13) (.tmp 12)) false
  .nil))
  (.seq (.cond (.tmp 14) [] []
  .skip
  (.exit 0))
  (.seq (.block 1 [] [4, 5, 15, 16, 17, 18, 19, 20, 21, 22, 23, 24]
  (.seq (.region false (.op (some 15) (.move (.tmp 13)) false
  (.op (some 5) (.move (.tmp 15)) false
  .nil)))
  (.seq (.region true (.op (some 16) (.move (.tmp 0)) false
  (.op (some 17) (.move (.tmp 5)) false
  (.op (some 18) (.indexAddr 13 (.tmp 16) (.tmp 17)) false
  (.op (some 19) (.load true 13 (.tmp 18)) false
  (.op (some 20) (.move (.tmp 1)) false
  (.op (some 21) (.move (.tmp 5)) false
  (.op (some 22) (.indexAddr 13 (.tmp 20) (.tmp 21)) false
  (.op (some 23) (.load true 13 (.tmp 22)) false
  (.op (some 24) (.eqAgg [.int, .int, .int, .bool, .bool, .bool, .bool, .int, .int, .int, .int, .int, .int] true (.tmp 19) (.tmp 23)) false
  .nil))))))))))
  (.cond (.tmp 24) [] [4]
  (.seq (.region false (.op (some 4) (.move (.const (.bool false))) false
  .nil))
  .ret)
  .skip))))
  (.region false (.op (some 25) (.bin .add (.tmp 13) (.const (.int .i64 1))) false
  (.op (some 13) (.move (.tmp 25)) false
  .nil)))))))))
  (.seq (.region false (.op (some 4) (.move (.const (.bool true))) false
  .nil))
  .ret)))),
 [.tmp 4]⟩
theorem ok14 : ∃ fn c, FunOk Try.prog 14 fn c A14 := ⟨Try.f14, _, ⟨Try.func14, rfl, by kernel_rfl, by kernel_rfl, by kernel_rfl, of_decide_eq_true (by kernel_rfl), by kernel_rfl⟩⟩
noncomputable def s14_L0 (Γ : Callee) (n : Nat) (x0 : Value) (x1 : Value) (h : AHeap) (v6 : Value) (j7 : List Value → AHeap → Rt) : (List Value → AHeap → Rt) → List Value → AHeap → Rt := fun c10 w11 h12 =>
 (binf .lss (nth w11 0) v6).bind fun v13 =>
 JL (fun w15 h16 =>
 JL (fun w18 h19 =>
 (binf .add (nth w11 0) ((.int .i64 1) : Value)).bind fun v20 =>
 c10 [v20] h19) fun j17 =>
 (indexAddrf 13 x0 (nth w11 0)).bind fun v21 =>
 (loadf true 13 v21 h16).bind fun v22 =>
 (indexAddrf 13 x1 (nth w11 0)).bind fun v23 =>
 (loadf true 13 v23 h16).bind fun v24 =>
 (eqAggf [.int, .int, .int, .bool, .bool, .bool, .bool, .int, .int, .int, .int, .int, .int] true v22 v24).bind fun v25 =>
 JL (fun w27 h28 =>
 j17 [] h28) fun j26 =>
 ifK v25 (
 fin h h16 [((.bool false) : Value)]) (
 j26 [] h16)) fun j14 =>
 ifK v13 (
 j14 [] h12) (
 j7 [] h12)
noncomputable def s14 (Γ : Callee) (n : Nat) (x0 : Value) (x1 : Value) (h : AHeap) : Rt :=
 (lenf false x0).bind fun v0 =>
 (lenf false x1).bind fun v1 =>
 (binf .neq v0 v1).bind fun v2 =>
 JL (fun w4 h5 =>
 (lenf false x0).bind fun v6 =>
 JL (fun w8 h9 =>
 fin h h9 [((.bool true) : Value)]) fun j7 =>
 loopN (s14_L0 Γ n x0 x1 h v6 j7) n [((.int .i64 0) : Value)] h5) fun j3 =>
 ifK v2 (
 fin h h [((.bool false) : Value)]) (
 j3 [] h)

theorem s14_eq (Γ : Callee) (n : Nat) (x0 : Value) (x1 : Value) (h : AHeap) : funK Γ n A14 [x0, x1] h = s14 Γ n x0 x1 h := by kernel_rfl

/-- slices.Equal[[]int,int] -/
def A15 : AFun := ⟨2, 26,
 (.seq (.region false (.op (some 4) (.move (.const (.bool false))) false
  .nil))
  (.seq (.seq (.region false (.op (some 6) (.move (.tmp 0)) false
  (.op (some 7) (.len false (.tmp 6)) false
  (.op (some 8) (.move (.tmp 1)) false
  (.op (some 9) (.len false (.tmp 8)) false
  (.op (some 10) (.bin .neq (.tmp 7) (.tmp 9)) false
  .nil))))))
  (.cond (.tmp 10) [] [4]
  (.seq (.region false (.op (some 4) (.move (.const (.bool false))) false
  .nil))
  .ret)
  .skip))
  (.seq (.seq (.region false (.op (some 11) (.move (.tmp 0)) false
  (.op (some 12) (.len false (.tmp 11)) false
  (.op (some 13) (.move (.const (.int .i64 0))) false
  .nil))))
  (.block 0 [] [4, 5, 13, 14, 15, 16, 17, 18, 19, 20, 21, 22, 23, 24, 25]
  (.loop [13] [4, 5, 14, 15, 16, 17, 18, 19, 20, 21, 22, 23, 24, 25]
  (.seq (.region false (.op (some 14) (.bin .lss (.tmp 13) (.tmp 12)) false
  .nil))
  (.seq (.cond (.tmp 14) [] []
  .skip
  (.exit 0))
  (.seq (.block 1 [] [4, 5, 15, 16, 17, 18, 19, 20, 21, 22, 23, 24]
  (.seq (.region false (.op (some 15) (.move (.tmp 13)) false
  (.op (some 5) (.move (.tmp 15)) false
  .nil)))
  (.seq (.region true (.op (some 16) (.move (.tmp 0)) false
  (.op (some 17) (.move (.tmp 5)) false
  (.op (some 18) (.indexAddr 1 (.tmp 16) (.tmp 17)) false
  (.op (some 19) (.load false 1 (.tmp 18)) false
  (.op (some 20) (.move (.tmp 1)) false
  (.op (some 21) (.move (.tmp 5)) false
  (.op (some 22) (.indexAddr 1 (.tmp 20) (.tmp 21)) false
  (.op (some 23) (.load false 1 (.tmp 22)) false
  (.op (some 24) (.bin .neq (.tmp 19) (.tmp 23)) false
  .nil))))))))))
  (.cond (.tmp 24) [] [4]
  (.seq (.region false (.op (some 4) (.move (.const (.bool false))) false
  .nil))
  .ret)
  .skip))))
  (.region false (.op (some 25) (.bin .add (.tmp 13) (.const (.int .i64 1))) false
  (.op (some 13) (.move (.tmp 25)) false
  .nil)))))))))
  (.seq (.region false (.op (some 4) (.move (.const (.bool true))) false
  .nil))
  .ret)))),
 [.tmp 4]⟩
theorem ok15 : ∃ fn c, FunOk Try.prog 15 fn c A15 := ⟨Try.f15, _, ⟨Try.func15, rfl, by kernel_rfl, by kernel_rfl, by kernel_rfl, of_decide_eq_true (by kernel_rfl), by kernel_rfl⟩⟩
noncomputable def s15_L0 (Γ : Callee) (n : Nat) (x0 : Value) (x1 : Value) (h : AHeap) (v6 : Value) (j7 : List Value → AHeap → Rt) : (List Value → AHeap → Rt) → List Value → AHeap → Rt := fun c10 w11 h12 =>
 (binf .lss (nth w11 0) v6).bind fun v13 =>
 JL (fun w15 h16 =>
 JL (fun w18 h19 =>
 (binf .add (nth w11 0) ((.int .i64 1) : Value)).bind fun v20 =>
 c10 [v20] h19) fun j17 =>
 (indexAddrf 1 x0 (nth w11 0)).bind fun v21 =>
 (loadf false 1 v21 h16).bind fun v22 =>
 (indexAddrf 1 x1 (nth w11 0)).bind fun v23 =>
 (loadf false 1 v23 h16).bind fun v24 =>
 (binf .neq v22 v24).bind fun v25 =>
 JL (fun w27 h28 =>
 j17 [] h28) fun j26 =>
 ifK v25 (
 fin h h16 [((.bool false) : Value)]) (
 j26 [] h16)) fun j14 =>
 ifK v13 (
 j14 [] h12) (
 j7 [] h12)
noncomputable def s15 (Γ : Callee) (n : Nat) (x0 : Value) (x1 : Value) (h : AHeap) : Rt :=
 (lenf false x0).bind fun v0 =>
 (lenf false x1).bind fun v1 =>
 (binf .neq v0 v1).bind fun v2 =>
 JL (fun w4 h5 =>
 (lenf false x0).bind fun v6 =>
 JL (fun w8 h9 =>
 fin h h9 [((.bool true) : Value)]) fun j7 =>
 loopN (s15_L0 Γ n x0 x1 h v6 j7) n [((.int .i64 0) : Value)] h5) fun j3 =>
 ifK v2 (
 fin h h [((.bool false) : Value)]) (
 j3 [] h)

theorem s15_eq (Γ : Callee) (n : Nat) (x0 : Value) (x1 : Value) (h : AHeap) : funK Γ n A15 [x0, x1] h = s15 Γ n x0 x1 h := by kernel_rfl

/-- slices.IndexFunc[[]orchestrion/api.VoiceTick,orchestrion/api.VoiceTick] -/
def A16 : AFun := ⟨2, 19,
 (.seq (.region false (.op (some 4) (.move (.const (.int .i64 0))) false
  .nil))
  (.seq (.seq (.region false (.op (some 6) (.move (.tmp 0)) false
  (.op (some 7) (.len false (.tmp 6)) false
  (.op (some 8) (.move (.const (.int .i64 0))) false
  .nil))))
  (.block 0 [] [4, 5, 8, 9, 10, 11, 12, 13, 14, 15, 16, 17, 18]
  (.loop [8] [4, 5, 9, 10, 11, 12, 13, 14, 15, 16, 17, 18]
  (.seq (.region false (.op (some 9) (.bin .lss (.tmp 8) (.tmp 7)) false
  .nil))
  (.seq (.cond (.tmp 9) [] []
  .skip
  (.exit 0))
  (.seq (.block 1 [] [4, 5, 10, 11, 12, 13, 14, 15, 16, 17]
  (.seq (.region false (.op (some 10) (.move (.tmp 8)) false
  (.op (some 5) (.move (.tmp 10)) false
  .nil)))
  (.seq (.region false (.op (some 11) (.move (.tmp 1)) false
  (.op (some 12) (.move (.tmp 0)) false
  (.op (some 13) (.move (.tmp 5)) false
  (.op (some 14) (.indexAddr 13 (.tmp 12) (.tmp 13)) false
  (.op (some 15) (.load true 13 (.tmp 14)) false
  (.op (some 16) (.callV (.tmp 11) [(.tmp 15)]) false
  .nil)))))))
  (.cond (.tmp 16) [] [4, 17]
  (.seq (.region false (.op (some 17) (.move (.tmp 5)) false
  (.op (some 4) (.move (.tmp 17)) false
  .nil)))
  .ret)
  .skip))))
  (.region false (.op (some 18) (.bin .add (.tmp 8) (.const (.int .i64 1))) false
  (.op (some 8) (.move (.tmp 18)) false
  .nil)))))))))
  (.seq (.region false (.op (some 4) (.move (.const (.int .i64 (-1)))) false
  .nil))
  .ret))),
 [.tmp 4]⟩
theorem ok16 : ∃ fn c, FunOk Try.prog 16 fn c A16 := ⟨Try.f16, _, ⟨Try.func16, rfl, by kernel_rfl, by kernel_rfl, by kernel_rfl, of_decide_eq_true (by kernel_rfl), by kernel_rfl⟩⟩
noncomputable def s16_L0 (Γ : Callee) (n : Nat) (x0 : Value) (x1 : Value) (h : AHeap) (v0 : Value) (j1 : List Value → AHeap → Rt) : (List Value → AHeap → Rt) → List Value → AHeap → Rt := fun c4 w5 h6 =>
 (binf .lss (nth w5 0) v0).bind fun v7 =>
 JL (fun w9 h10 =>
 JL (fun w12 h13 =>
 (binf .add (nth w5 0) ((.int .i64 1) : Value)).bind fun v14 =>
 c4 [v14] h13) fun j11 =>
 (indexAddrf 13 x0 (nth w5 0)).bind fun v15 =>
 (loadf true 13 v15 h10).bind fun v16 =>
 (callVf Γ x1 [v16] h10).bind fun p17 =>
 JL (fun w19 h20 =>
 j11 [] h20) fun j18 =>
 ifK p17.1 (
 fin h p17.2 [(nth w5 0)]) (
 j18 [] p17.2)) fun j8 =>
 ifK v7 (
 j8 [] h6) (
 j1 [] h6)
noncomputable def s16 (Γ : Callee) (n : Nat) (x0 : Value) (x1 : Value) (h : AHeap) : Rt :=
 (lenf false x0).bind fun v0 =>
 JL (fun w2 h3 =>
 fin h h3 [((.int .i64 (-1)) : Value)]) fun j1 =>
 loopN (s16_L0 Γ n x0 x1 h v0 j1) n [((.int .i64 0) : Value)] h

theorem s16_eq (Γ : Callee) (n : Nat) (x0 : Value) (x1 : Value) (h : AHeap) : funK Γ n A16 [x0, x1] h = s16 Γ n x0 x1 h := by kernel_rfl

/-- slices.Index[[]int,int] -/
def A17 : AFun := ⟨2, 19,
 (.seq (.region false (.op (some 4) (.move (.const (.int .i64 0))) false
  .nil))
  (.seq (.seq (.region false (.op (some 6) (.move (.tmp 0)) false
  (.op (some 7) (.len false (.tmp 6)) false
  (.op (some 8) (.move (.const (.int .i64 0))) false
  .nil))))
  (.block 0 [] [4, 5, 8, 9, 10, 11, 12, 13, 14, 15, 16, 17, 18]
  (.loop [8] [4, 5, 9, 10, 11, 12, 13, 14, 15, 16, 17, 18]
  (.seq (.region false (.op (some 9) (.bin .lss (.tmp 8) (.tmp 7)) false
  .nil))
  (.seq (.cond (.tmp 9) [] []
  .skip
  (.exit 0))
  (.seq (.block 1 [] [4, 5, 10, 11, 12, 13, 14, 15, 16, 17]
  (.seq (.region false (.op (some 10) (.move (.tmp 8)) false
  (.op (some 5) (.move (.tmp 10)) false
  .nil)))
  (.seq (.region false (.op (some 11) (.move (.tmp 1)) false
  (.op (some 12) (.move (.tmp 0)) false
  (.op (some 13) (.move (.tmp 5)) false
  (.op (some 14) (.indexAddr 1 (.tmp 12) (.tmp 13)) false
  (.op (some 15) (.load false 1 (.tmp 14)) false
  (.op (some 16) (.bin .eql (.tmp 11) (.tmp 15)) false
  .nil)))))))
  (.cond (.tmp 16) [] [4, 17]
  (.seq (.region false (.op (some 17) (.move (.tmp 5)) false
  (.op (some 4) (.move (.tmp 17)) false
  .nil)))
  .ret)
  .skip))))
  (.region false (.op (some 18) (.bin .add (.tmp 8) (.const (.int .i64 1))) false
  (.op (some 8) (.move (.tmp 18)) false
  .nil)))))))))
  (.seq (.region false (.op (some 4) (.move (.const (.int .i64 (-1)))) false
  .nil))
  .ret))),
 [.tmp 4]⟩
theorem ok17 : ∃ fn c, FunOk Try.prog 17 fn c A17 := ⟨Try.f17, _, ⟨Try.func17, rfl, by kernel_rfl, by kernel_rfl, by kernel_rfl, of_decide_eq_true (by kernel_rfl), by kernel_rfl⟩⟩
noncomputable def s17_L0 (Γ : Callee) (n : Nat) (x0 : Value) (x1 : Value) (h : AHeap) (v0 : Value) (j1 : List Value → AHeap → Rt) : (List Value → AHeap → Rt) → List Value → AHeap → Rt := fun c4 w5 h6 =>
 (binf .lss (nth w5 0) v0).bind fun v7 =>
 JL (fun w9 h10 =>
 JL (fun w12 h13 =>
 (binf .add (nth w5 0) ((.int .i64 1) : Value)).bind fun v14 =>
 c4 [v14] h13) fun j11 =>
 (indexAddrf 1 x0 (nth w5 0)).bind fun v15 =>
 (loadf false 1 v15 h10).bind fun v16 =>
 (binf .eql x1 v16).bind fun v17 =>
 JL (fun w19 h20 =>
 j11 [] h20) fun j18 =>
 ifK v17 (
 fin h h10 [(nth w5 0)]) (
 j18 [] h10)) fun j8 =>
 ifK v7 (
 j8 [] h6) (
 j1 [] h6)
noncomputable def s17 (Γ : Callee) (n : Nat) (x0 : Value) (x1 : Value) (h : AHeap) : Rt :=
 (lenf false x0).bind fun v0 =>
 JL (fun w2 h3 =>
 fin h h3 [((.int .i64 (-1)) : Value)]) fun j1 =>
 loopN (s17_L0 Γ n x0 x1 h v0 j1) n [((.int .i64 0) : Value)] h

theorem s17_eq (Γ : Callee) (n : Nat) (x0 : Value) (x1 : Value) (h : AHeap) : funK Γ n A17 [x0, x1] h = s17 Γ n x0 x1 h := by kernel_rfl

def T : ATable := [(2, A2), (3, A3), (4, A4), (5, A5), (6, A6), (7, A7), (8, A8), (9, A9), (10, A10), (11, A11), (12, A12), (13, A13), (14, A14), (15, A15), (16, A16), (17, A17)]
/-- What the calls come to. -/
noncomputable def Γ0 : Callee := run noCallee T
theorem gbody {f : FuncId} {F : AFun} (hT : T.get f = some F) (fuel : Nat) {args : List Value} {h : AHeap} {r : Value × AHeap} (hk : funK Γ0 fuel F args h = some r) : Γ0 f args h = some r := run_of_body hT fuel hk
end Go.Am.X
