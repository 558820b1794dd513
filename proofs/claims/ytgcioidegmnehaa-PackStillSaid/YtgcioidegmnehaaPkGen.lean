/- Printed by a program of mine from the dump: the value machine's form of the program's functions. -/
import Derived.Test.YtgcioidegmnehaaMvD
import Derived.Test.YtgcioidegmnehaaChecked
set_option linter.unusedVariables false
set_option maxRecDepth 100000
namespace Go.Vm.X
open Go.Proofs Go.Am Go.Vm
/-- orchestrion/orchestrionlaw03.PackWrites -/
def A3 : PFun := ⟨3, 70,
 (.seq (.region false (.op (some 6) (.a (.move (.const (.bool false)))) false
  .nil))
  (.seq (.seq (.region false (.op (some 15) (.a (.move (.tmp 0))) false
  (.op (some 16) (.a (.len false (.tmp 15))) false
  (.op (some 17) (.a (.bin .gtr (.tmp 16) (.const (.int .i64 6000)))) false
  .nil))))
  (.cond (.tmp 17) [] [6, 18]
  (.seq (.region false (.op (some 18) (.a (.call 8 [])) false
  (.op (some 6) (.a (.move (.tmp 18))) false
  .nil)))
  .ret)
  .skip))
  (.seq (.region false (.op (some 20) (.a (.move (.tmp 0))) false
  (.op (some 21) (.a (.move (.tmp 1))) false
  (.op (some 22) (.a (.call 9 [(.tmp 20), (.tmp 21)])) false
  (.op (some 19) (.a (.move (.tmp 22))) false
  (.op (some 23) (.a (.extract (.tmp 19) 0)) false
  (.op (some 24) (.a (.extract (.tmp 19) 1)) false
  (.op (some 7) (.a (.move (.tmp 23))) false
  (.op (some 8) (.a (.move (.tmp 24))) false
  .nil)))))))))
  (.seq (.region false (.op (some 26) (.a (.move (.tmp 0))) false
  (.op (some 27) (.a (.move (.tmp 1))) false
  (.op (some 28) (.a (.call 10 [(.tmp 26), (.tmp 27)])) false
  (.op (some 25) (.a (.move (.tmp 28))) false
  (.op (some 29) (.a (.extract (.tmp 25) 0)) false
  (.op (some 30) (.a (.extract (.tmp 25) 1)) false
  (.op (some 9) (.a (.move (.tmp 29))) false
  (.op (some 10) (.a (.move (.tmp 30))) false
  .nil)))))))))
  (.seq (.region false (.op (some 32) (.a (.move (.tmp 0))) false
  (.op (some 33) (.a (.move (.tmp 1))) false
  (.op (some 34) (.a (.move (.tmp 2))) false
  (.op (some 35) (.a (.call 11 [(.tmp 32), (.tmp 33), (.tmp 34)])) false
  (.op (some 31) (.a (.move (.tmp 35))) false
  (.op (some 36) (.a (.extract (.tmp 31) 0)) false
  (.op (some 37) (.a (.extract (.tmp 31) 1)) false
  (.op (some 11) (.a (.move (.tmp 36))) false
  (.op (some 12) (.a (.move (.tmp 37))) false
  .nil))))))))))
  (.seq (.region false (.op (some 39) (.a (.move (.tmp 0))) false
  (.op (some 40) (.a (.move (.tmp 1))) false
  (.op (some 41) (.a (.move (.tmp 2))) false
  (.op (some 42) (.a (.call 12 [(.tmp 39), (.tmp 40), (.tmp 41)])) false
  (.op (some 38) (.a (.move (.tmp 42))) false
  (.op (some 43) (.a (.extract (.tmp 38) 0)) false
  (.op (some 44) (.a (.extract (.tmp 38) 1)) false
  (.op (some 13) (.a (.move (.tmp 43))) false
  (.op (some 14) (.a (.move (.tmp 44))) false
  .nil))))))))))
  (.seq (.region false (.op (some 45) (.a (.move (.tmp 8))) false
  (.op (some 46) (.a (.move (.tmp 10))) false
  (.op (some 47) (.a (.bin .eql (.tmp 45) (.tmp 46))) false
  (.op (some 48) (.a (.move (.tmp 47))) false
  (.sc 54 48 true [49, 50, 51, 52, 53]
  (.op (some 49) (.a (.move (.tmp 7))) false
  (.op (some 50) (.a (.bytesToStr (.tmp 49))) false
  (.op (some 51) (.a (.move (.tmp 9))) false
  (.op (some 52) (.a (.bytesToStr (.tmp 51))) false
  (.op (some 53) (.a (.bin .eql (.tmp 50) (.tmp 52))) false
  .nil))))) (.tmp 53)
  (.op (some 55) (.a (.move (.tmp 54))) false
  (.sc 59 55 true [56, 57, 58]
  (.op (some 56) (.a (.move (.tmp 12))) false
  (.op (some 57) (.a (.move (.tmp 14))) false
  (.op (some 58) (.a (.bin .eql (.tmp 56) (.tmp 57))) false
  .nil))) (.tmp 58)
  (.op (some 60) (.a (.move (.tmp 59))) false
  (.sc 66 60 true [61, 62, 63, 64, 65]
  (.op (some 61) (.a (.move (.tmp 11))) false
  (.op (some 62) (.a (.bytesToStr (.tmp 61))) false
  (.op (some 63) (.a (.move (.tmp 13))) false
  (.op (some 64) (.a (.bytesToStr (.tmp 63))) false
  (.op (some 65) (.a (.bin .eql (.tmp 62) (.tmp 64))) false
  .nil))))) (.tmp 65)
  (.op (some 67) (.a (.move (.tmp 66))) false
  (.sc 69 67 true [68]
  (.op (some 68) (.a (.call 8 [])) false
  .nil) (.tmp 68)
  (.op (some 6) (.a (.move (.tmp 69))) false
  .nil)))))))))))))
  .ret))))))),
 [.tmp 6], [.keep]⟩
theorem ok3 : ∃ fn c, FunOk Try.prog 3 fn c A3.erase := ⟨Try.f3, _, ⟨Try.func3, rfl, by kernel_rfl, by kernel_rfl, by kernel_rfl, of_decide_eq_true (by kernel_rfl), by kernel_rfl⟩⟩
noncomputable def s3 (Γ : PCallee) (n : Nat) (x0 : PV) (x1 : PV) (x2 : PV) (h : PHeap) : Pt :=
 (lenP false x0).bind fun v0 =>
 (binP .gtr v0 (.int .i64 6000 : PV)).bind fun v1 =>
 KL (fun w3 h4 =>
 (Γ 9 [x0, x1] h4).bind fun p5 =>
 (extractP p5.1 0).bind fun v6 =>
 (extractP p5.1 1).bind fun v7 =>
 (Γ 10 [x0, x1] p5.2).bind fun p8 =>
 (extractP p8.1 0).bind fun v9 =>
 (extractP p8.1 1).bind fun v10 =>
 (Γ 11 [x0, x1, x2] p8.2).bind fun p11 =>
 (extractP p11.1 0).bind fun v12 =>
 (extractP p11.1 1).bind fun v13 =>
 (Γ 12 [x0, x1, x2] p11.2).bind fun p14 =>
 (extractP p14.1 0).bind fun v15 =>
 (extractP p14.1 1).bind fun v16 =>
 (binP .eql v7 v10).bind fun v17 =>
 K1 (fun v19 h20 =>
 K1 (fun v22 h23 =>
 K1 (fun v25 h26 =>
 K1 (fun v28 h29 =>
 finP [.keep] h h29 [v28]) fun j27 =>
 scP v25 true (
 (Γ 8 [] h26).bind fun p30 =>
 j27 p30.1 p30.2)
 (j27 (.bool false) h26)) fun j24 =>
 scP v22 true (
 (bytesToStrP v12 h23).bind fun v31 =>
 (bytesToStrP v15 h23).bind fun v32 =>
 (binP .eql v31 v32).bind fun v33 =>
 j24 v33 h23)
 (j24 (.bool false) h23)) fun j21 =>
 scP v19 true (
 (binP .eql v13 v16).bind fun v34 =>
 j21 v34 h20)
 (j21 (.bool false) h20)) fun j18 =>
 scP v17 true (
 (bytesToStrP v6 p14.2).bind fun v35 =>
 (bytesToStrP v9 p14.2).bind fun v36 =>
 (binP .eql v35 v36).bind fun v37 =>
 j18 v37 p14.2)
 (j18 (.bool false) p14.2)) fun j2 =>
 ifP v1 (
 (Γ 8 [] h).bind fun p38 =>
 finP [.keep] h p38.2 [p38.1]) (
 j2 [] h)

theorem s3_eq (Γ : PCallee) (n : Nat) (x0 : PV) (x1 : PV) (x2 : PV) (h : PHeap) : pfunK Γ n A3 [x0, x1, x2] h = s3 Γ n x0 x1 x2 h := by kernel_rfl


/-- orchestrion/orchestrionlaw03.PackStill -/
def A4 : PFun := ⟨2, 120,
 (.seq (.region false (.op (some 4) (.a (.move (.const (.bool false)))) false
  .nil))
  (.seq (.region false (.op (some 24) (.a (.move (.tmp 0))) false
  (.op (some 25) (.a (.move (.tmp 1))) false
  (.op (some 26) (.a (.call 13 [(.tmp 24), (.tmp 25)])) false
  (.op (some 23) (.a (.move (.tmp 26))) false
  (.op (some 27) (.a (.extract (.tmp 23) 0)) false
  (.op (some 28) (.a (.extract (.tmp 23) 1)) false
  (.op (some 5) (.a (.move (.tmp 27))) false
  (.op (some 6) (.a (.move (.tmp 28))) false
  .nil)))))))))
  (.seq (.seq (.region false (.op (some 29) (.a (.move (.tmp 6))) false
  (.op (some 30) (.a (.bin .neq (.tmp 29) (.const (.int .i64 0)))) false
  .nil)))
  (.cond (.tmp 30) [] [4, 31]
  (.seq (.region false (.op (some 31) (.a (.call 8 [])) false
  (.op (some 4) (.a (.move (.tmp 31))) false
  .nil)))
  .ret)
  .skip))
  (.seq (.region false (.op (some 33) (.a (.move (.tmp 5))) false
  (.op (some 34) (.a (.move (.tmp 1))) false
  (.op (some 35) (.a (.move (.tmp 0))) false
  (.op (some 36) (.a (.len false (.tmp 35))) false
  (.op (some 37) (.a (.call 14 [(.tmp 33), (.tmp 34), (.tmp 36)])) false
  (.op (some 32) (.a (.move (.tmp 37))) false
  (.op (some 38) (.a (.extract (.tmp 32) 0)) false
  (.op (some 39) (.a (.extract (.tmp 32) 1)) false
  (.op (some 40) (.a (.extract (.tmp 32) 2)) false
  (.op (some 7) (.a (.move (.tmp 38))) false
  (.op (some 8) (.a (.move (.tmp 39))) false
  (.op (some 9) (.a (.move (.tmp 40))) false
  .nil)))))))))))))
  (.seq (.region false (.op (some 42) (.a (.move (.tmp 7))) false
  (.op (some 43) (.a (.move (.tmp 1))) false
  (.op (some 44) (.a (.call 13 [(.tmp 42), (.tmp 43)])) false
  (.op (some 41) (.a (.move (.tmp 44))) false
  (.op (some 45) (.a (.extract (.tmp 41) 0)) false
  (.op (some 46) (.a (.extract (.tmp 41) 1)) false
  (.op (some 10) (.a (.move (.tmp 45))) false
  (.op (some 11) (.a (.move (.tmp 46))) false
  .nil)))))))))
  (.seq (.region false (.op (some 48) (.a (.move (.tmp 10))) false
  (.op (some 49) (.a (.move (.tmp 1))) false
  (.op (some 50) (.a (.move (.tmp 0))) false
  (.op (some 51) (.a (.len false (.tmp 50))) false
  (.op (some 52) (.a (.call 14 [(.tmp 48), (.tmp 49), (.tmp 51)])) false
  (.op (some 47) (.a (.move (.tmp 52))) false
  (.op (some 53) (.a (.extract (.tmp 47) 0)) false
  (.op (some 54) (.a (.extract (.tmp 47) 1)) false
  (.op (some 55) (.a (.extract (.tmp 47) 2)) false
  (.op (some 12) (.a (.move (.tmp 53))) false
  (.op (some 13) (.a (.move (.tmp 54))) false
  (.op (some 14) (.a (.move (.tmp 55))) false
  .nil)))))))))))))
  (.seq (.seq (.region false (.op (some 56) (.a (.move (.tmp 9))) false
  (.op (some 57) (.a (.bin .neq (.tmp 56) (.const (.int .i64 0)))) false
  (.op (some 58) (.a (.move (.tmp 57))) false
  (.sc 61 58 false [59, 60]
  (.op (some 59) (.a (.move (.tmp 11))) false
  (.op (some 60) (.a (.bin .neq (.tmp 59) (.const (.int .i64 0)))) false
  .nil)) (.tmp 60)
  (.op (some 62) (.a (.move (.tmp 61))) false
  (.sc 65 62 false [63, 64]
  (.op (some 63) (.a (.move (.tmp 14))) false
  (.op (some 64) (.a (.bin .neq (.tmp 63) (.const (.int .i64 0)))) false
  .nil)) (.tmp 64)
  (.op (some 66) (.a (.move (.tmp 65))) false
  (.sc 69 66 false [67, 68]
  (.op (some 67) (.a (.move (.tmp 8))) false
  (.op (some 68) (.a (.bin .neq (.tmp 67) (.const (.int .i64 0)))) false
  .nil)) (.tmp 68)
  (.op (some 70) (.a (.move (.tmp 69))) false
  (.sc 73 70 false [71, 72]
  (.op (some 71) (.a (.move (.tmp 13))) false
  (.op (some 72) (.a (.bin .neq (.tmp 71) (.const (.int .i64 0)))) false
  .nil)) (.tmp 72)
  (.op (some 74) (.a (.move (.tmp 73))) false
  (.sc 79 74 false [75, 76, 77, 78]
  (.op (some 75) (.a (.move (.tmp 7))) false
  (.op (some 76) (.a (.move (.tmp 12))) false
  (.op (some 77) (.a (.call 15 [(.tmp 75), (.tmp 76)])) false
  (.op (some 78) (.a (.un .not (.tmp 77))) false
  .nil)))) (.tmp 78)
  .nil)))))))))))))
  (.cond (.tmp 79) [] [4]
  (.seq (.region false (.op (some 4) (.a (.move (.const (.bool false)))) false
  .nil))
  .ret)
  .skip))
  (.seq (.region false (.op (some 15) (.a (.move (.const (.int .i64 0)))) false
  (.op (some 16) (.a (.move (.const (.bool true)))) false
  .nil)))
  (.seq (.seq (.region false (.op (some 80) (.a (.move (.tmp 0))) false
  (.op (some 81) (.a (.len false (.tmp 80))) false
  (.op (some 82) (.a (.move (.const (.int .i64 0)))) false
  .nil))))
  (.block 0 [16] [15, 18, 19, 20, 22, 82, 83, 84, 85, 86, 87, 88, 89, 90, 91, 92, 93, 94, 95, 96, 97, 98, 99, 100, 101, 102, 103, 104, 105, 106, 107, 108, 109]
  (.loop [15, 16, 82, 97, 98, 99, 100, 101, 107] [18, 19, 20, 22, 83, 84, 85, 86, 87, 88, 89, 90, 91, 92, 93, 94, 95, 96, 102, 103, 104, 105, 106, 108, 109]
  (.seq (.region false (.op (some 83) (.a (.bin .lss (.tmp 82) (.tmp 81))) false
  .nil))
  (.seq (.cond (.tmp 83) [] []
  .skip
  (.exit 0))
  (.seq (.block 1 [15, 16, 97, 98, 99, 100, 101, 107] [18, 19, 20, 22, 84, 85, 86, 87, 88, 89, 90, 91, 92, 93, 94, 95, 96, 102, 103, 104, 105, 106, 108]
  (.seq (.region false (.op (some 84) (.a (.indexAddr 1 (.tmp 80) (.tmp 82))) false
  (.op (some 85) (.a (.load false 1 (.tmp 84))) false
  (.op (some 18) (.a (.move (.tmp 85))) false
  .nil))))
  (.seq (.region false (.op (some 86) (.a (.move (.tmp 18))) false
  (.op (some 87) (.a (.move (.tmp 15))) false
  (.op (some 88) (.a (.bin .sub (.tmp 86) (.tmp 87))) false
  (.op (some 19) (.a (.move (.tmp 88))) false
  (.op (some 20) (.a (.move (.const (.bool false)))) false
  .nil))))))
  (.seq (.seq (.region false (.op (some 89) (.a (.move (.tmp 1))) false
  (.op (some 90) (.a (.len false (.tmp 89))) false
  (.op (some 91) (.a (.move (.const (.int .i64 0)))) false
  .nil))))
  (.block 2 [20, 97, 98, 99, 100, 101] [22, 91, 92, 93, 94, 95, 96, 102, 103]
  (.loop [20, 91, 97, 98, 99, 100, 101] [22, 92, 93, 94, 95, 96, 102, 103]
  (.seq (.region false (.op (some 92) (.a (.bin .lss (.tmp 91) (.tmp 90))) false
  .nil))
  (.seq (.cond (.tmp 92) [] []
  .skip
  (.exit 2))
  (.seq (.block 3 [20, 97, 98, 99, 100, 101] [22, 93, 94, 95, 96, 102]
  (.seq (.region false (.op (some 93) (.a (.indexAddr 1 (.tmp 89) (.tmp 91))) false
  (.op (some 94) (.a (.load false 1 (.tmp 93))) false
  (.op (some 22) (.a (.move (.tmp 94))) false
  .nil))))
  (.region false (.op (some 95) (.a (.move (.tmp 20))) false
  (.op (some 96) (.a (.move (.tmp 95))) false
  (.sc 102 96 false [97, 98, 99, 100, 101]
  (.op (some 97) (.a (.move (.tmp 22))) false
  (.op (some 98) (.a (.move (.tmp 19))) false
  (.op (some 99) (.a (.bin .sub (.tmp 97) (.tmp 98))) false
  (.op (some 100) (.a (.bin .rem (.tmp 99) (.const (.int .i64 256)))) false
  (.op (some 101) (.a (.bin .eql (.tmp 100) (.const (.int .i64 0)))) false
  .nil))))) (.tmp 101)
  (.op (some 20) (.a (.move (.tmp 102))) false
  .nil)))))))
  (.region false (.op (some 103) (.a (.bin .add (.tmp 91) (.const (.int .i64 1)))) false
  (.op (some 91) (.a (.move (.tmp 103))) false
  .nil)))))))))
  (.region false (.op (some 104) (.a (.move (.tmp 18))) false
  (.op (some 105) (.a (.move (.tmp 16))) false
  (.op (some 106) (.a (.move (.tmp 105))) false
  (.sc 108 106 true [107]
  (.op (some 107) (.a (.move (.tmp 20))) false
  .nil) (.tmp 107)
  (.op (some 15) (.a (.move (.tmp 104))) false
  (.op (some 16) (.a (.move (.tmp 108))) false
  .nil)))))))))))
  (.region false (.op (some 109) (.a (.bin .add (.tmp 82) (.const (.int .i64 1)))) false
  (.op (some 82) (.a (.move (.tmp 109))) false
  .nil)))))))))
  (.seq (.region false (.op (some 110) (.a (.move (.tmp 16))) false
  (.op (some 111) (.a (.un .not (.tmp 110))) false
  (.op (some 112) (.a (.move (.tmp 111))) false
  (.sc 116 112 false [113, 114, 115]
  (.op (some 113) (.a (.move (.tmp 7))) false
  (.op (some 114) (.a (.move (.tmp 0))) false
  (.op (some 115) (.a (.call 15 [(.tmp 113), (.tmp 114)])) false
  .nil))) (.tmp 115)
  (.op (some 117) (.a (.move (.tmp 116))) false
  (.sc 119 117 true [118]
  (.op (some 118) (.a (.call 8 [])) false
  .nil) (.tmp 118)
  (.op (some 4) (.a (.move (.tmp 119))) false
  .nil))))))))
  .ret)))))))))),
 [.tmp 4], [.keep]⟩
theorem ok4 : ∃ fn c, FunOk Try.prog 4 fn c A4.erase := ⟨Try.f4, _, ⟨Try.func4, rfl, by kernel_rfl, by kernel_rfl, by kernel_rfl, of_decide_eq_true (by kernel_rfl), by kernel_rfl⟩⟩
noncomputable def s4_L0 (Γ : PCallee) (n : Nat) (x1 : PV) (h58 : PHeap) (v65 : PV) (v66 : PV) (j67 : List PV → PHeap → Pt) : (List PV → PHeap → Pt) → List PV → PHeap → Pt := fun c73 w74 h75 =>
 (binP .lss (nthP w74 1) v66).bind fun v76 =>
 KL (fun w78 h79 =>
 KL (fun w81 h82 =>
 (binP .add (nthP w74 1) (.int .i64 1 : PV)).bind fun v83 =>
 c73 [(nthP w81 0), v83, (nthP w81 1), (nthP w81 2), (nthP w81 3), (nthP w81 4), (nthP w81 5)] (trim h58 [(nthP w81 0), v83, (nthP w81 1), (nthP w81 2), (nthP w81 3), (nthP w81 4), (nthP w81 5)] h82)) fun j80 =>
 (indexAddrP 1 x1 (nthP w74 1)).bind fun v84 =>
 (loadP false 1 v84 h79).bind fun v85 =>
 K1 (fun v87 h88 =>
 j80 [v87, PV.junk, PV.junk, PV.junk, PV.junk, PV.junk] h88) fun j86 =>
 scP (nthP w74 0) false (
 (binP .sub v85 v65).bind fun v89 =>
 (binP .rem v89 (.int .i64 256 : PV)).bind fun v90 =>
 (binP .eql v90 (.int .i64 0 : PV)).bind fun v91 =>
 j86 v91 h79)
 (j86 (.bool true) h79)) fun j77 =>
 ifP v76 (
 j77 [] h75) (
 j67 [(nthP w74 0), (nthP w74 2), (nthP w74 3), (nthP w74 4), (nthP w74 5), (nthP w74 6)] h75)
noncomputable def s4_L1 (Γ : PCallee) (n : Nat) (x0 : PV) (x1 : PV) (h38 : PHeap) (v39 : PV) (j40 : List PV → PHeap → Pt) : (List PV → PHeap → Pt) → List PV → PHeap → Pt := fun c52 w53 h54 =>
 (binP .lss (nthP w53 2) v39).bind fun v55 =>
 KL (fun w57 h58 =>
 KL (fun w60 h61 =>
 (binP .add (nthP w53 2) (.int .i64 1 : PV)).bind fun v62 =>
 c52 [(nthP w60 0), (nthP w60 1), v62, (nthP w60 2), (nthP w60 3), (nthP w60 4), (nthP w60 5), (nthP w60 6), (nthP w60 7)] (trim h38 [(nthP w60 0), (nthP w60 1), v62, (nthP w60 2), (nthP w60 3), (nthP w60 4), (nthP w60 5), (nthP w60 6), (nthP w60 7)] h61)) fun j59 =>
 (indexAddrP 1 x0 (nthP w53 2)).bind fun v63 =>
 (loadP false 1 v63 h58).bind fun v64 =>
 (binP .sub v64 (nthP w53 0)).bind fun v65 =>
 (lenP false x1).bind fun v66 =>
 KL (fun w68 h69 =>
 K1 (fun v71 h72 =>
 j59 [v64, v71, (nthP w68 1), (nthP w68 2), (nthP w68 3), (nthP w68 4), (nthP w68 5), PV.junk] h72) fun j70 =>
 scP (nthP w53 1) true (
 j70 (nthP w68 0) h69)
 (j70 (.bool false) h69)) fun j67 =>
 loopP (s4_L0 Γ n x1 h58 v65 v66 j67) n [(.bool false : PV), (.int .i64 0 : PV), (nthP w53 3), (nthP w53 4), (nthP w53 5), (nthP w53 6), (nthP w53 7)] h58) fun j56 =>
 ifP v55 (
 j56 [] h54) (
 j40 [(nthP w53 1)] h54)
noncomputable def s4 (Γ : PCallee) (n : Nat) (x0 : PV) (x1 : PV) (h : PHeap) : Pt :=
 (Γ 13 [x0, x1] h).bind fun p0 =>
 (extractP p0.1 0).bind fun v1 =>
 (extractP p0.1 1).bind fun v2 =>
 (binP .neq v2 (.int .i64 0 : PV)).bind fun v3 =>
 KL (fun w5 h6 =>
 (lenP false x0).bind fun v7 =>
 (Γ 14 [v1, x1, v7] h6).bind fun p8 =>
 (extractP p8.1 0).bind fun v9 =>
 (extractP p8.1 1).bind fun v10 =>
 (extractP p8.1 2).bind fun v11 =>
 (Γ 13 [v9, x1] p8.2).bind fun p12 =>
 (extractP p12.1 0).bind fun v13 =>
 (extractP p12.1 1).bind fun v14 =>
 (lenP false x0).bind fun v15 =>
 (Γ 14 [v13, x1, v15] p12.2).bind fun p16 =>
 (extractP p16.1 0).bind fun v17 =>
 (extractP p16.1 1).bind fun v18 =>
 (extractP p16.1 2).bind fun v19 =>
 (binP .neq v11 (.int .i64 0 : PV)).bind fun v20 =>
 K1 (fun v22 h23 =>
 K1 (fun v25 h26 =>
 K1 (fun v28 h29 =>
 K1 (fun v31 h32 =>
 K1 (fun v34 h35 =>
 KL (fun w37 h38 =>
 (lenP false x0).bind fun v39 =>
 KL (fun w41 h42 =>
 (unP .not (nthP w41 0)).bind fun v43 =>
 K1 (fun v45 h46 =>
 K1 (fun v48 h49 =>
 finP [.keep] h h49 [v48]) fun j47 =>
 scP v45 true (
 (Γ 8 [] h46).bind fun p50 =>
 j47 p50.1 p50.2)
 (j47 (.bool false) h46)) fun j44 =>
 scP v43 false (
 (Γ 15 [v9, x0] h42).bind fun p51 =>
 j44 p51.1 p51.2)
 (j44 (.bool true) h42)) fun j40 =>
 loopP (s4_L1 Γ n x0 x1 h38 v39 j40) n [(.int .i64 0 : PV), (.bool true : PV), (.int .i64 0 : PV), undefP, undefP, undefP, undefP, undefP, undefP] h38) fun j36 =>
 ifP v34 (
 finP [.keep] h h35 [(.bool false : PV)]) (
 j36 [] h35)) fun j33 =>
 scP v31 false (
 (Γ 15 [v9, v17] h32).bind fun p92 =>
 (unP .not p92.1).bind fun v93 =>
 j33 v93 p92.2)
 (j33 (.bool true) h32)) fun j30 =>
 scP v28 false (
 (binP .neq v18 (.int .i64 0 : PV)).bind fun v94 =>
 j30 v94 h29)
 (j30 (.bool true) h29)) fun j27 =>
 scP v25 false (
 (binP .neq v10 (.int .i64 0 : PV)).bind fun v95 =>
 j27 v95 h26)
 (j27 (.bool true) h26)) fun j24 =>
 scP v22 false (
 (binP .neq v19 (.int .i64 0 : PV)).bind fun v96 =>
 j24 v96 h23)
 (j24 (.bool true) h23)) fun j21 =>
 scP v20 false (
 (binP .neq v14 (.int .i64 0 : PV)).bind fun v97 =>
 j21 v97 p16.2)
 (j21 (.bool true) p16.2)) fun j4 =>
 ifP v3 (
 (Γ 8 [] p0.2).bind fun p98 =>
 finP [.keep] h p98.2 [p98.1]) (
 j4 [] p0.2)

theorem s4_eq (Γ : PCallee) (n : Nat) (x0 : PV) (x1 : PV) (h : PHeap) : pfunK Γ n A4 [x0, x1] h = s4 Γ n x0 x1 h := by kernel_rfl


/-- orchestrion/orchestrionlaw03.PackReads -/
def A5 : PFun := ⟨4, 88,
 (.seq (.region false (.op (some 8) (.a (.move (.const (.bool false)))) false
  .nil))
  (.seq (.region false (.op (some 18) (.a (.move (.tmp 0))) false
  (.op (some 19) (.a (.move (.tmp 1))) false
  (.op (some 20) (.a (.move (.tmp 3))) false
  (.op (some 21) (.a (.call 16 [(.tmp 18), (.tmp 19), (.tmp 20)])) false
  (.op (some 17) (.a (.move (.tmp 21))) false
  (.op (some 22) (.a (.extract (.tmp 17) 0)) false
  (.op (some 23) (.a (.extract (.tmp 17) 1)) false
  (.op (some 24) (.a (.extract (.tmp 17) 2)) false
  (.op (some 9) (.a (.move (.tmp 22))) false
  (.op (some 10) (.a (.move (.tmp 23))) false
  (.op (some 11) (.a (.move (.tmp 24))) false
  .nil))))))))))))
  (.seq (.region false (.op (some 26) (.a (.move (.tmp 0))) false
  (.op (some 27) (.a (.move (.tmp 1))) false
  (.op (some 28) (.a (.move (.tmp 3))) false
  (.op (some 29) (.a (.call 17 [(.tmp 26), (.tmp 27), (.tmp 28)])) false
  (.op (some 25) (.a (.move (.tmp 29))) false
  (.op (some 30) (.a (.extract (.tmp 25) 0)) false
  (.op (some 31) (.a (.extract (.tmp 25) 1)) false
  (.op (some 32) (.a (.extract (.tmp 25) 2)) false
  (.op (some 12) (.a (.move (.tmp 30))) false
  (.op (some 13) (.a (.move (.tmp 31))) false
  (.op (some 14) (.a (.move (.tmp 32))) false
  .nil))))))))))))
  (.seq (.seq (.region false (.op (some 33) (.a (.move (.tmp 11))) false
  (.op (some 34) (.a (.move (.tmp 14))) false
  (.op (some 35) (.a (.bin .neq (.tmp 33) (.tmp 34))) false
  (.op (some 36) (.a (.move (.tmp 35))) false
  (.sc 40 36 false [37, 38, 39]
  (.op (some 37) (.a (.move (.tmp 10))) false
  (.op (some 38) (.a (.move (.tmp 13))) false
  (.op (some 39) (.a (.bin .neq (.tmp 37) (.tmp 38))) false
  .nil))) (.tmp 39)
  (.op (some 41) (.a (.move (.tmp 40))) false
  (.sc 46 41 false [42, 43, 44, 45]
  (.op (some 42) (.a (.move (.tmp 9))) false
  (.op (some 43) (.a (.move (.tmp 12))) false
  (.op (some 44) (.a (.call 15 [(.tmp 42), (.tmp 43)])) false
  (.op (some 45) (.a (.un .not (.tmp 44))) false
  .nil)))) (.tmp 45)
  .nil))))))))
  (.cond (.tmp 46) [] [8]
  (.seq (.region false (.op (some 8) (.a (.move (.const (.bool false)))) false
  .nil))
  .ret)
  .skip))
  (.seq (.region false (.op (some 48) (.a (.move (.tmp 0))) false
  (.op (some 49) (.a (.move (.tmp 1))) false
  (.op (some 50) (.a (.move (.tmp 2))) false
  (.op (some 51) (.a (.move (.tmp 3))) false
  (.op (some 52) (.a (.call 18 [(.tmp 48), (.tmp 49), (.tmp 50), (.tmp 51)])) false
  (.op (some 47) (.a (.move (.tmp 52))) false
  (.op (some 53) (.a (.extract (.tmp 47) 0)) false
  (.op (some 54) (.a (.extract (.tmp 47) 1)) false
  (.op (some 55) (.a (.extract (.tmp 47) 2)) false
  (.op (some 56) (.a (.extract (.tmp 47) 3)) false
  (.op (some 9) (.a (.move (.tmp 53))) false
  (.op (some 15) (.a (.move (.tmp 54))) false
  (.op (some 10) (.a (.move (.tmp 55))) false
  (.op (some 11) (.a (.move (.tmp 56))) false
  .nil)))))))))))))))
  (.seq (.region false (.op (some 58) (.a (.move (.tmp 0))) false
  (.op (some 59) (.a (.move (.tmp 1))) false
  (.op (some 60) (.a (.move (.tmp 2))) false
  (.op (some 61) (.a (.move (.tmp 3))) false
  (.op (some 62) (.a (.call 19 [(.tmp 58), (.tmp 59), (.tmp 60), (.tmp 61)])) false
  (.op (some 57) (.a (.move (.tmp 62))) false
  (.op (some 63) (.a (.extract (.tmp 57) 0)) false
  (.op (some 64) (.a (.extract (.tmp 57) 1)) false
  (.op (some 65) (.a (.extract (.tmp 57) 2)) false
  (.op (some 66) (.a (.extract (.tmp 57) 3)) false
  (.op (some 12) (.a (.move (.tmp 63))) false
  (.op (some 16) (.a (.move (.tmp 64))) false
  (.op (some 13) (.a (.move (.tmp 65))) false
  (.op (some 14) (.a (.move (.tmp 66))) false
  .nil)))))))))))))))
  (.seq (.region false (.op (some 67) (.a (.move (.tmp 11))) false
  (.op (some 68) (.a (.move (.tmp 14))) false
  (.op (some 69) (.a (.bin .eql (.tmp 67) (.tmp 68))) false
  (.op (some 70) (.a (.move (.tmp 69))) false
  (.sc 74 70 true [71, 72, 73]
  (.op (some 71) (.a (.move (.tmp 15))) false
  (.op (some 72) (.a (.move (.tmp 16))) false
  (.op (some 73) (.a (.bin .eql (.tmp 71) (.tmp 72))) false
  .nil))) (.tmp 73)
  (.op (some 75) (.a (.move (.tmp 74))) false
  (.sc 79 75 true [76, 77, 78]
  (.op (some 76) (.a (.move (.tmp 10))) false
  (.op (some 77) (.a (.move (.tmp 13))) false
  (.op (some 78) (.a (.bin .eql (.tmp 76) (.tmp 77))) false
  .nil))) (.tmp 78)
  (.op (some 80) (.a (.move (.tmp 79))) false
  (.sc 84 80 true [81, 82, 83]
  (.op (some 81) (.a (.move (.tmp 9))) false
  (.op (some 82) (.a (.move (.tmp 12))) false
  (.op (some 83) (.a (.call 15 [(.tmp 81), (.tmp 82)])) false
  .nil))) (.tmp 83)
  (.op (some 85) (.a (.move (.tmp 84))) false
  (.sc 87 85 true [86]
  (.op (some 86) (.a (.call 8 [])) false
  .nil) (.tmp 86)
  (.op (some 8) (.a (.move (.tmp 87))) false
  .nil)))))))))))))
  .ret))))))),
 [.tmp 8], [.keep]⟩
theorem ok5 : ∃ fn c, FunOk Try.prog 5 fn c A5.erase := ⟨Try.f5, _, ⟨Try.func5, rfl, by kernel_rfl, by kernel_rfl, by kernel_rfl, of_decide_eq_true (by kernel_rfl), by kernel_rfl⟩⟩
noncomputable def s5 (Γ : PCallee) (n : Nat) (x0 : PV) (x1 : PV) (x2 : PV) (x3 : PV) (h : PHeap) : Pt :=
 (Γ 16 [x0, x1, x3] h).bind fun p0 =>
 (extractP p0.1 0).bind fun v1 =>
 (extractP p0.1 1).bind fun v2 =>
 (extractP p0.1 2).bind fun v3 =>
 (Γ 17 [x0, x1, x3] p0.2).bind fun p4 =>
 (extractP p4.1 0).bind fun v5 =>
 (extractP p4.1 1).bind fun v6 =>
 (extractP p4.1 2).bind fun v7 =>
 (binP .neq v3 v7).bind fun v8 =>
 K1 (fun v10 h11 =>
 K1 (fun v13 h14 =>
 KL (fun w16 h17 =>
 (Γ 18 [x0, x1, x2, x3] h17).bind fun p18 =>
 (extractP p18.1 0).bind fun v19 =>
 (extractP p18.1 1).bind fun v20 =>
 (extractP p18.1 2).bind fun v21 =>
 (extractP p18.1 3).bind fun v22 =>
 (Γ 19 [x0, x1, x2, x3] p18.2).bind fun p23 =>
 (extractP p23.1 0).bind fun v24 =>
 (extractP p23.1 1).bind fun v25 =>
 (extractP p23.1 2).bind fun v26 =>
 (extractP p23.1 3).bind fun v27 =>
 (binP .eql v22 v27).bind fun v28 =>
 K1 (fun v30 h31 =>
 K1 (fun v33 h34 =>
 K1 (fun v36 h37 =>
 K1 (fun v39 h40 =>
 finP [.keep] h h40 [v39]) fun j38 =>
 scP v36 true (
 (Γ 8 [] h37).bind fun p41 =>
 j38 p41.1 p41.2)
 (j38 (.bool false) h37)) fun j35 =>
 scP v33 true (
 (Γ 15 [v19, v24] h34).bind fun p42 =>
 j35 p42.1 p42.2)
 (j35 (.bool false) h34)) fun j32 =>
 scP v30 true (
 (binP .eql v21 v26).bind fun v43 =>
 j32 v43 h31)
 (j32 (.bool false) h31)) fun j29 =>
 scP v28 true (
 (binP .eql v20 v25).bind fun v44 =>
 j29 v44 p23.2)
 (j29 (.bool false) p23.2)) fun j15 =>
 ifP v13 (
 finP [.keep] h h14 [(.bool false : PV)]) (
 j15 [] h14)) fun j12 =>
 scP v10 false (
 (Γ 15 [v1, v5] h11).bind fun p45 =>
 (unP .not p45.1).bind fun v46 =>
 j12 v46 p45.2)
 (j12 (.bool true) h11)) fun j9 =>
 scP v8 false (
 (binP .neq v2 v6).bind fun v47 =>
 j9 v47 p4.2)
 (j9 (.bool true) p4.2)

theorem s5_eq (Γ : PCallee) (n : Nat) (x0 : PV) (x1 : PV) (x2 : PV) (x3 : PV) (h : PHeap) : pfunK Γ n A5 [x0, x1, x2, x3] h = s5 Γ n x0 x1 x2 x3 h := by kernel_rfl


/-- orchestrion/orchestrionlaw03.PackBack -/
def A6 : PFun := ⟨4, 219,
 (.seq (.region false (.op (some 8) (.a (.move (.const (.bool false)))) false
  .nil))
  (.seq (.region false (.op (some 22) (.a (.move (.tmp 0))) false
  (.op (some 23) (.a (.move (.tmp 1))) false
  (.op (some 24) (.a (.call 9 [(.tmp 22), (.tmp 23)])) false
  (.op (some 21) (.a (.move (.tmp 24))) false
  (.op (some 25) (.a (.extract (.tmp 21) 0)) false
  (.op (some 26) (.a (.extract (.tmp 21) 1)) false
  (.op (some 9) (.a (.move (.tmp 25))) false
  (.op (some 10) (.a (.move (.tmp 26))) false
  .nil)))))))))
  (.seq (.region false (.op (some 28) (.a (.move (.tmp 0))) false
  (.op (some 29) (.a (.move (.tmp 1))) false
  (.op (some 30) (.a (.move (.tmp 2))) false
  (.op (some 31) (.a (.call 11 [(.tmp 28), (.tmp 29), (.tmp 30)])) false
  (.op (some 27) (.a (.move (.tmp 31))) false
  (.op (some 32) (.a (.extract (.tmp 27) 0)) false
  (.op (some 33) (.a (.extract (.tmp 27) 1)) false
  (.op (some 11) (.a (.move (.tmp 32))) false
  (.op (some 12) (.a (.move (.tmp 33))) false
  .nil))))))))))
  (.seq (.seq (.region false (.op (some 34) (.a (.move (.tmp 10))) false
  (.op (some 35) (.a (.bin .neq (.tmp 34) (.const (.int .i64 0)))) false
  (.op (some 36) (.a (.move (.tmp 35))) false
  (.sc 39 36 false [37, 38]
  (.op (some 37) (.a (.move (.tmp 12))) false
  (.op (some 38) (.a (.bin .neq (.tmp 37) (.const (.int .i64 0)))) false
  .nil)) (.tmp 38)
  .nil)))))
  (.cond (.tmp 39) [] [8, 40, 41, 42, 43, 44, 45, 46, 47, 48, 49, 50, 51, 52, 53, 54, 55, 56, 57]
  (.seq (.region false (.op (some 40) (.a (.move (.tmp 10))) false
  (.op (some 41) (.a (.move (.tmp 12))) false
  (.op (some 42) (.a (.bin .eql (.tmp 40) (.tmp 41))) false
  (.op (some 43) (.a (.move (.tmp 42))) false
  (.sc 46 43 false [44, 45]
  (.op (some 44) (.a (.move (.tmp 10))) false
  (.op (some 45) (.a (.bin .eql (.tmp 44) (.const (.int .i64 0)))) false
  .nil)) (.tmp 45)
  (.op (some 47) (.a (.move (.tmp 46))) false
  (.sc 54 47 false [48, 49, 50, 53, 51, 52]
  (.op (some 48) (.a (.move (.tmp 10))) false
  (.op (some 49) (.a (.bin .eql (.tmp 48) (.const (.int .i64 3)))) false
  (.op (some 50) (.a (.move (.tmp 49))) false
  (.sc 53 50 true [51, 52]
  (.op (some 51) (.a (.move (.tmp 12))) false
  (.op (some 52) (.a (.bin .eql (.tmp 51) (.const (.int .i64 1)))) false
  .nil)) (.tmp 52)
  .nil)))) (.tmp 53)
  (.op (some 55) (.a (.move (.tmp 54))) false
  (.sc 57 55 true [56]
  (.op (some 56) (.a (.call 8 [])) false
  .nil) (.tmp 56)
  (.op (some 8) (.a (.move (.tmp 57))) false
  .nil)))))))))))
  .ret)
  .skip))
  (.seq (.region false (.op (some 59) (.a (.move (.tmp 9))) false
  (.op (some 60) (.a (.move (.tmp 1))) false
  (.op (some 61) (.a (.move (.tmp 0))) false
  (.op (some 62) (.a (.len false (.tmp 61))) false
  (.op (some 63) (.a (.call 16 [(.tmp 59), (.tmp 60), (.tmp 62)])) false
  (.op (some 58) (.a (.move (.tmp 63))) false
  (.op (some 64) (.a (.extract (.tmp 58) 0)) false
  (.op (some 65) (.a (.extract (.tmp 58) 1)) false
  (.op (some 66) (.a (.extract (.tmp 58) 2)) false
  (.op (some 13) (.a (.move (.tmp 64))) false
  (.op (some 14) (.a (.move (.tmp 65))) false
  (.op (some 15) (.a (.move (.tmp 66))) false
  .nil)))))))))))))
  (.seq (.region false (.op (some 68) (.a (.move (.tmp 11))) false
  (.op (some 69) (.a (.move (.tmp 1))) false
  (.op (some 70) (.a (.move (.tmp 2))) false
  (.op (some 71) (.a (.move (.tmp 0))) false
  (.op (some 72) (.a (.len false (.tmp 71))) false
  (.op (some 73) (.a (.call 18 [(.tmp 68), (.tmp 69), (.tmp 70), (.tmp 72)])) false
  (.op (some 67) (.a (.move (.tmp 73))) false
  (.op (some 74) (.a (.extract (.tmp 67) 0)) false
  (.op (some 75) (.a (.extract (.tmp 67) 1)) false
  (.op (some 76) (.a (.extract (.tmp 67) 2)) false
  (.op (some 77) (.a (.extract (.tmp 67) 3)) false
  (.op (some 16) (.a (.move (.tmp 74))) false
  (.op (some 17) (.a (.move (.tmp 75))) false
  (.op (some 18) (.a (.move (.tmp 76))) false
  (.op (some 19) (.a (.move (.tmp 77))) false
  .nil))))))))))))))))
  (.seq (.seq (.region false (.op (some 78) (.a (.move (.tmp 13))) false
  (.op (some 79) (.a (.move (.tmp 0))) false
  (.op (some 80) (.a (.call 15 [(.tmp 78), (.tmp 79)])) false
  (.op (some 81) (.a (.un .not (.tmp 80))) false
  (.op (some 82) (.a (.move (.tmp 81))) false
  (.sc 87 82 false [83, 84, 85, 86]
  (.op (some 83) (.a (.move (.tmp 16))) false
  (.op (some 84) (.a (.move (.tmp 0))) false
  (.op (some 85) (.a (.call 15 [(.tmp 83), (.tmp 84)])) false
  (.op (some 86) (.a (.un .not (.tmp 85))) false
  .nil)))) (.tmp 86)
  (.op (some 88) (.a (.move (.tmp 87))) false
  (.sc 91 88 false [89, 90]
  (.op (some 89) (.a (.move (.tmp 14))) false
  (.op (some 90) (.a (.bin .neq (.tmp 89) (.const (.int .i64 0)))) false
  .nil)) (.tmp 90)
  (.op (some 92) (.a (.move (.tmp 91))) false
  (.sc 95 92 false [93, 94]
  (.op (some 93) (.a (.move (.tmp 18))) false
  (.op (some 94) (.a (.bin .neq (.tmp 93) (.const (.int .i64 0)))) false
  .nil)) (.tmp 94)
  (.op (some 96) (.a (.move (.tmp 95))) false
  (.sc 101 96 false [97, 98, 99, 100]
  (.op (some 97) (.a (.move (.tmp 17))) false
  (.op (some 98) (.a (.move (.tmp 11))) false
  (.op (some 99) (.a (.len false (.tmp 98))) false
  (.op (some 100) (.a (.bin .neq (.tmp 97) (.tmp 99))) false
  .nil)))) (.tmp 100)
  .nil)))))))))))))
  (.cond (.tmp 101) [] [8]
  (.seq (.region false (.op (some 8) (.a (.move (.const (.bool false)))) false
  .nil))
  .ret)
  .skip))
  (.seq (.region false (.op (some 102) (.a (.move (.tmp 3))) false
  (.op (some 103) (.a (.bin .and (.tmp 102) (.const (.int .i64 1048575)))) false
  (.op (some 3) (.a (.move (.tmp 103))) false
  .nil))))
  (.seq (.region false (.op (some 105) (.a (.move (.tmp 9))) false
  (.op (some 106) (.a (.move (.tmp 3))) false
  (.op (some 107) (.a (.move (.tmp 9))) false
  (.op (some 108) (.a (.len false (.tmp 107))) false
  (.op (some 109) (.a (.min [(.tmp 106), (.tmp 108)])) false
  (.op (some 110) (.a (.slice 1 (.tmp 105) none (some (.tmp 109)) none)) false
  (.op (some 111) (.a (.move (.tmp 1))) false
  (.op (some 112) (.a (.move (.tmp 0))) false
  (.op (some 113) (.a (.len false (.tmp 112))) false
  (.op (some 114) (.a (.call 16 [(.tmp 110), (.tmp 111), (.tmp 113)])) false
  (.op (some 104) (.a (.move (.tmp 114))) false
  (.op (some 115) (.a (.extract (.tmp 104) 0)) false
  (.op (some 116) (.a (.extract (.tmp 104) 1)) false
  (.op (some 117) (.a (.extract (.tmp 104) 2)) false
  (.op (some 13) (.a (.move (.tmp 115))) false
  (.op (some 14) (.a (.move (.tmp 116))) false
  .nil)))))))))))))))))
  (.seq (.region false (.op (some 119) (.a (.move (.tmp 11))) false
  (.op (some 120) (.a (.move (.tmp 3))) false
  (.op (some 121) (.a (.move (.tmp 11))) false
  (.op (some 122) (.a (.len false (.tmp 121))) false
  (.op (some 123) (.a (.min [(.tmp 120), (.tmp 122)])) false
  (.op (some 124) (.a (.slice 1 (.tmp 119) none (some (.tmp 123)) none)) false
  (.op (some 125) (.a (.move (.tmp 1))) false
  (.op (some 126) (.a (.move (.tmp 2))) false
  (.op (some 127) (.a (.move (.tmp 0))) false
  (.op (some 128) (.a (.len false (.tmp 127))) false
  (.op (some 129) (.a (.call 18 [(.tmp 124), (.tmp 125), (.tmp 126), (.tmp 128)])) false
  (.op (some 118) (.a (.move (.tmp 129))) false
  (.op (some 130) (.a (.extract (.tmp 118) 0)) false
  (.op (some 131) (.a (.extract (.tmp 118) 1)) false
  (.op (some 132) (.a (.extract (.tmp 118) 2)) false
  (.op (some 133) (.a (.extract (.tmp 118) 3)) false
  (.op (some 16) (.a (.move (.tmp 130))) false
  (.op (some 18) (.a (.move (.tmp 132))) false
  .nil)))))))))))))))))))
  (.seq (.seq (.region false (.op (some 134) (.a (.move (.tmp 13))) false
  (.op (some 135) (.a (.len false (.tmp 134))) false
  (.op (some 136) (.a (.move (.tmp 0))) false
  (.op (some 137) (.a (.len false (.tmp 136))) false
  (.op (some 138) (.a (.bin .neq (.tmp 135) (.tmp 137))) false
  (.op (some 139) (.a (.move (.tmp 138))) false
  (.sc 145 139 false [140, 141, 142, 143, 144]
  (.op (some 140) (.a (.move (.tmp 16))) false
  (.op (some 141) (.a (.len false (.tmp 140))) false
  (.op (some 142) (.a (.move (.tmp 0))) false
  (.op (some 143) (.a (.len false (.tmp 142))) false
  (.op (some 144) (.a (.bin .neq (.tmp 141) (.tmp 143))) false
  .nil))))) (.tmp 144)
  .nil))))))))
  (.cond (.tmp 145) [] [8]
  (.seq (.region false (.op (some 8) (.a (.move (.const (.bool false)))) false
  .nil))
  .ret)
  .skip))
  (.seq (.seq (.region false (.op (some 146) (.a (.move (.tmp 0))) false
  (.op (some 147) (.a (.len false (.tmp 146))) false
  (.op (some 148) (.a (.move (.const (.int .i64 0)))) false
  .nil))))
  (.block 0 [] [8, 20, 148, 149, 150, 151, 152, 153, 154, 155, 156, 157, 158, 159, 160, 161, 162, 163, 164, 165, 166, 167, 168, 169, 170, 171, 172, 173, 174, 175, 176, 177, 178, 179, 180, 181, 182, 183, 184, 185, 186, 187, 188, 189, 190, 191, 192, 193, 194, 195, 196, 197, 198, 199, 200, 201, 202, 203, 204, 205, 206, 207, 208, 209, 210, 211, 212, 213, 214, 215, 216, 217]
  (.loop [148, 158, 159, 160, 161, 162, 163, 164, 165, 166, 169, 170, 171, 172, 173, 174, 175, 176, 177, 178, 179, 180, 181, 184, 185, 186, 187, 188, 189, 190, 191, 192, 193, 194, 195, 196, 197, 198, 199, 200, 203, 204, 205, 206, 207, 208, 209, 210, 211, 212, 213, 214, 215] [8, 20, 149, 150, 151, 152, 153, 154, 155, 156, 157, 167, 168, 182, 183, 201, 202, 216, 217]
  (.seq (.region false (.op (some 149) (.a (.bin .lss (.tmp 148) (.tmp 147))) false
  .nil))
  (.seq (.cond (.tmp 149) [] []
  .skip
  (.exit 0))
  (.seq (.block 1 [158, 159, 160, 161, 162, 163, 164, 165, 166, 169, 170, 171, 172, 173, 174, 175, 176, 177, 178, 179, 180, 181, 184, 185, 186, 187, 188, 189, 190, 191, 192, 193, 194, 195, 196, 197, 198, 199, 200, 203, 204, 205, 206, 207, 208, 209, 210, 211, 212, 213, 214, 215] [8, 20, 150, 151, 152, 153, 154, 155, 156, 157, 167, 168, 182, 183, 201, 202, 216]
  (.seq (.region false (.op (some 150) (.a (.move (.tmp 148))) false
  (.op (some 20) (.a (.move (.tmp 150))) false
  .nil)))
  (.seq (.region true (.op (some 151) (.a (.move (.tmp 20))) false
  (.op (some 152) (.a (.move (.tmp 0))) false
  (.op (some 153) (.a (.len false (.tmp 152))) false
  (.op (some 154) (.a (.move (.tmp 14))) false
  (.op (some 155) (.a (.bin .sub (.tmp 153) (.tmp 154))) false
  (.op (some 156) (.a (.bin .lss (.tmp 151) (.tmp 155))) false
  (.op (some 157) (.a (.move (.tmp 156))) false
  (.sc 167 157 true [158, 159, 160, 161, 162, 163, 164, 165, 166]
  (.op (some 158) (.a (.move (.tmp 13))) false
  (.op (some 159) (.a (.move (.tmp 20))) false
  (.op (some 160) (.a (.indexAddr 1 (.tmp 158) (.tmp 159))) false
  (.op (some 161) (.a (.load false 1 (.tmp 160))) false
  (.op (some 162) (.a (.move (.tmp 0))) false
  (.op (some 163) (.a (.move (.tmp 20))) false
  (.op (some 164) (.a (.indexAddr 1 (.tmp 162) (.tmp 163))) false
  (.op (some 165) (.a (.load false 1 (.tmp 164))) false
  (.op (some 166) (.a (.bin .neq (.tmp 161) (.tmp 165))) false
  .nil))))))))) (.tmp 166)
  (.op (some 168) (.a (.move (.tmp 167))) false
  (.sc 182 168 false [169, 170, 171, 172, 173, 174, 175, 181, 176, 177, 178, 179, 180]
  (.op (some 169) (.a (.move (.tmp 20))) false
  (.op (some 170) (.a (.move (.tmp 0))) false
  (.op (some 171) (.a (.len false (.tmp 170))) false
  (.op (some 172) (.a (.move (.tmp 14))) false
  (.op (some 173) (.a (.bin .sub (.tmp 171) (.tmp 172))) false
  (.op (some 174) (.a (.bin .geq (.tmp 169) (.tmp 173))) false
  (.op (some 175) (.a (.move (.tmp 174))) false
  (.sc 181 175 true [176, 177, 178, 179, 180]
  (.op (some 176) (.a (.move (.tmp 13))) false
  (.op (some 177) (.a (.move (.tmp 20))) false
  (.op (some 178) (.a (.indexAddr 1 (.tmp 176) (.tmp 177))) false
  (.op (some 179) (.a (.load false 1 (.tmp 178))) false
  (.op (some 180) (.a (.bin .neq (.tmp 179) (.const (.int .i64 0)))) false
  .nil))))) (.tmp 180)
  .nil)))))))) (.tmp 181)
  (.op (some 183) (.a (.move (.tmp 182))) false
  (.sc 201 183 false [184, 185, 186, 187, 188, 189, 190, 200, 191, 192, 193, 194, 195, 196, 197, 198, 199]
  (.op (some 184) (.a (.move (.tmp 20))) false
  (.op (some 185) (.a (.move (.tmp 0))) false
  (.op (some 186) (.a (.len false (.tmp 185))) false
  (.op (some 187) (.a (.move (.tmp 18))) false
  (.op (some 188) (.a (.bin .sub (.tmp 186) (.tmp 187))) false
  (.op (some 189) (.a (.bin .lss (.tmp 184) (.tmp 188))) false
  (.op (some 190) (.a (.move (.tmp 189))) false
  (.sc 200 190 true [191, 192, 193, 194, 195, 196, 197, 198, 199]
  (.op (some 191) (.a (.move (.tmp 16))) false
  (.op (some 192) (.a (.move (.tmp 20))) false
  (.op (some 193) (.a (.indexAddr 1 (.tmp 191) (.tmp 192))) false
  (.op (some 194) (.a (.load false 1 (.tmp 193))) false
  (.op (some 195) (.a (.move (.tmp 0))) false
  (.op (some 196) (.a (.move (.tmp 20))) false
  (.op (some 197) (.a (.indexAddr 1 (.tmp 195) (.tmp 196))) false
  (.op (some 198) (.a (.load false 1 (.tmp 197))) false
  (.op (some 199) (.a (.bin .neq (.tmp 194) (.tmp 198))) false
  .nil))))))))) (.tmp 199)
  .nil)))))))) (.tmp 200)
  (.op (some 202) (.a (.move (.tmp 201))) false
  (.sc 216 202 false [203, 204, 205, 206, 207, 208, 209, 215, 210, 211, 212, 213, 214]
  (.op (some 203) (.a (.move (.tmp 20))) false
  (.op (some 204) (.a (.move (.tmp 0))) false
  (.op (some 205) (.a (.len false (.tmp 204))) false
  (.op (some 206) (.a (.move (.tmp 18))) false
  (.op (some 207) (.a (.bin .sub (.tmp 205) (.tmp 206))) false
  (.op (some 208) (.a (.bin .geq (.tmp 203) (.tmp 207))) false
  (.op (some 209) (.a (.move (.tmp 208))) false
  (.sc 215 209 true [210, 211, 212, 213, 214]
  (.op (some 210) (.a (.move (.tmp 16))) false
  (.op (some 211) (.a (.move (.tmp 20))) false
  (.op (some 212) (.a (.indexAddr 1 (.tmp 210) (.tmp 211))) false
  (.op (some 213) (.a (.load false 1 (.tmp 212))) false
  (.op (some 214) (.a (.bin .neq (.tmp 213) (.const (.int .i64 0)))) false
  .nil))))) (.tmp 214)
  .nil)))))))) (.tmp 215)
  .nil)))))))))))))))
  (.cond (.tmp 216) [] [8]
  (.seq (.region false (.op (some 8) (.a (.move (.const (.bool false)))) false
  .nil))
  .ret)
  .skip))))
  (.region false (.op (some 217) (.a (.bin .add (.tmp 148) (.const (.int .i64 1)))) false
  (.op (some 148) (.a (.move (.tmp 217))) false
  .nil)))))))))
  (.seq (.region false (.op (some 218) (.a (.call 8 [])) false
  (.op (some 8) (.a (.move (.tmp 218))) false
  .nil)))
  .ret))))))))))))),
 [.tmp 8], [.keep]⟩
theorem ok6 : ∃ fn c, FunOk Try.prog 6 fn c A6.erase := ⟨Try.f6, _, ⟨Try.func6, rfl, by kernel_rfl, by kernel_rfl, by kernel_rfl, of_decide_eq_true (by kernel_rfl), by kernel_rfl⟩⟩
noncomputable def s6_L0 (Γ : PCallee) (n : Nat) (x0 : PV) (h : PHeap) (v47 : PV) (v48 : PV) (v55 : PV) (v57 : PV) (h67 : PHeap) (v68 : PV) (j69 : List PV → PHeap → Pt) : (List PV → PHeap → Pt) → List PV → PHeap → Pt := fun c73 w74 h75 =>
 (binP .lss (nthP w74 0) v68).bind fun v76 =>
 KL (fun w78 h79 =>
 KL (fun w81 h82 =>
 (binP .add (nthP w74 0) (.int .i64 1 : PV)).bind fun v83 =>
 c73 [v83, (nthP w81 0), (nthP w81 1), (nthP w81 2), (nthP w81 3), (nthP w81 4), (nthP w81 5), (nthP w81 6), (nthP w81 7), (nthP w81 8), (nthP w81 9), (nthP w81 10), (nthP w81 11), (nthP w81 12), (nthP w81 13), (nthP w81 14), (nthP w81 15), (nthP w81 16), (nthP w81 17), (nthP w81 18), (nthP w81 19), (nthP w81 20), (nthP w81 21), (nthP w81 22), (nthP w81 23), (nthP w81 24), (nthP w81 25), (nthP w81 26), (nthP w81 27), (nthP w81 28), (nthP w81 29), (nthP w81 30), (nthP w81 31), (nthP w81 32), (nthP w81 33), (nthP w81 34), (nthP w81 35), (nthP w81 36), (nthP w81 37), (nthP w81 38), (nthP w81 39), (nthP w81 40), (nthP w81 41), (nthP w81 42), (nthP w81 43), (nthP w81 44), (nthP w81 45), (nthP w81 46), (nthP w81 47), (nthP w81 48), (nthP w81 49), (nthP w81 50), (nthP w81 51)] (trim h67 [v83, (nthP w81 0), (nthP w81 1), (nthP w81 2), (nthP w81 3), (nthP w81 4), (nthP w81 5), (nthP w81 6), (nthP w81 7), (nthP w81 8), (nthP w81 9), (nthP w81 10), (nthP w81 11), (nthP w81 12), (nthP w81 13), (nthP w81 14), (nthP w81 15), (nthP w81 16), (nthP w81 17), (nthP w81 18), (nthP w81 19), (nthP w81 20), (nthP w81 21), (nthP w81 22), (nthP w81 23), (nthP w81 24), (nthP w81 25), (nthP w81 26), (nthP w81 27), (nthP w81 28), (nthP w81 29), (nthP w81 30), (nthP w81 31), (nthP w81 32), (nthP w81 33), (nthP w81 34), (nthP w81 35), (nthP w81 36), (nthP w81 37), (nthP w81 38), (nthP w81 39), (nthP w81 40), (nthP w81 41), (nthP w81 42), (nthP w81 43), (nthP w81 44), (nthP w81 45), (nthP w81 46), (nthP w81 47), (nthP w81 48), (nthP w81 49), (nthP w81 50), (nthP w81 51)] h82)) fun j80 =>
 (lenP false x0).bind fun v84 =>
 (binP .sub v84 v48).bind fun v85 =>
 (binP .lss (nthP w74 0) v85).bind fun v86 =>
 K1 (fun v88 h89 =>
 K1 (fun v91 h92 =>
 K1 (fun v94 h95 =>
 K1 (fun v97 h98 =>
 KL (fun w100 h101 =>
 j80 [PV.junk, PV.junk, PV.junk, PV.junk, PV.junk, PV.junk, PV.junk, PV.junk, PV.junk, PV.junk, PV.junk, PV.junk, PV.junk, PV.junk, PV.junk, PV.junk, PV.junk, PV.junk, PV.junk, PV.junk, PV.junk, PV.junk, PV.junk, PV.junk, PV.junk, PV.junk, PV.junk, PV.junk, PV.junk, PV.junk, PV.junk, PV.junk, PV.junk, PV.junk, PV.junk, PV.junk, PV.junk, PV.junk, PV.junk, PV.junk, PV.junk, PV.junk, PV.junk, PV.junk, PV.junk, PV.junk, PV.junk, PV.junk, PV.junk, PV.junk, PV.junk, PV.junk] h101) fun j99 =>
 ifP v97 (
 finP [.keep] h h98 [(.bool false : PV)]) (
 j99 [] h98)) fun j96 =>
 scP v94 false (
 (lenP false x0).bind fun v102 =>
 (binP .sub v102 v57).bind fun v103 =>
 (binP .geq (nthP w74 0) v103).bind fun v104 =>
 K1 (fun v106 h107 =>
 j96 v106 h107) fun j105 =>
 scP v104 true (
 (indexAddrP 1 v55 (nthP w74 0)).bind fun v108 =>
 (loadP false 1 v108 h95).bind fun v109 =>
 (binP .neq v109 (.int .i64 0 : PV)).bind fun v110 =>
 j105 v110 h95)
 (j105 (.bool false) h95))
 (j96 (.bool true) h95)) fun j93 =>
 scP v91 false (
 (lenP false x0).bind fun v111 =>
 (binP .sub v111 v57).bind fun v112 =>
 (binP .lss (nthP w74 0) v112).bind fun v113 =>
 K1 (fun v115 h116 =>
 j93 v115 h116) fun j114 =>
 scP v113 true (
 (indexAddrP 1 v55 (nthP w74 0)).bind fun v117 =>
 (loadP false 1 v117 h92).bind fun v118 =>
 (indexAddrP 1 x0 (nthP w74 0)).bind fun v119 =>
 (loadP false 1 v119 h92).bind fun v120 =>
 (binP .neq v118 v120).bind fun v121 =>
 j114 v121 h92)
 (j114 (.bool false) h92))
 (j93 (.bool true) h92)) fun j90 =>
 scP v88 false (
 (lenP false x0).bind fun v122 =>
 (binP .sub v122 v48).bind fun v123 =>
 (binP .geq (nthP w74 0) v123).bind fun v124 =>
 K1 (fun v126 h127 =>
 j90 v126 h127) fun j125 =>
 scP v124 true (
 (indexAddrP 1 v47 (nthP w74 0)).bind fun v128 =>
 (loadP false 1 v128 h89).bind fun v129 =>
 (binP .neq v129 (.int .i64 0 : PV)).bind fun v130 =>
 j125 v130 h89)
 (j125 (.bool false) h89))
 (j90 (.bool true) h89)) fun j87 =>
 scP v86 true (
 (indexAddrP 1 v47 (nthP w74 0)).bind fun v131 =>
 (loadP false 1 v131 h79).bind fun v132 =>
 (indexAddrP 1 x0 (nthP w74 0)).bind fun v133 =>
 (loadP false 1 v133 h79).bind fun v134 =>
 (binP .neq v132 v134).bind fun v135 =>
 j87 v135 h79)
 (j87 (.bool false) h79)) fun j77 =>
 ifP v76 (
 j77 [] h75) (
 j69 [] h75)
noncomputable def s6 (Γ : PCallee) (n : Nat) (x0 : PV) (x1 : PV) (x2 : PV) (x3 : PV) (h : PHeap) : Pt :=
 (Γ 9 [x0, x1] h).bind fun p0 =>
 (extractP p0.1 0).bind fun v1 =>
 (extractP p0.1 1).bind fun v2 =>
 (Γ 11 [x0, x1, x2] p0.2).bind fun p3 =>
 (extractP p3.1 0).bind fun v4 =>
 (extractP p3.1 1).bind fun v5 =>
 (binP .neq v2 (.int .i64 0 : PV)).bind fun v6 =>
 K1 (fun v8 h9 =>
 KL (fun w11 h12 =>
 (lenP false x0).bind fun v13 =>
 (Γ 16 [v1, x1, v13] h12).bind fun p14 =>
 (extractP p14.1 0).bind fun v15 =>
 (extractP p14.1 1).bind fun v16 =>
 (extractP p14.1 2).bind fun v17 =>
 (lenP false x0).bind fun v18 =>
 (Γ 18 [v4, x1, x2, v18] p14.2).bind fun p19 =>
 (extractP p19.1 0).bind fun v20 =>
 (extractP p19.1 1).bind fun v21 =>
 (extractP p19.1 2).bind fun v22 =>
 (extractP p19.1 3).bind fun v23 =>
 (Γ 15 [v15, x0] p19.2).bind fun p24 =>
 (unP .not p24.1).bind fun v25 =>
 K1 (fun v27 h28 =>
 K1 (fun v30 h31 =>
 K1 (fun v33 h34 =>
 K1 (fun v36 h37 =>
 KL (fun w39 h40 =>
 (binP .and x3 (.int .i64 1048575 : PV)).bind fun v41 =>
 (lenP false v1).bind fun v42 =>
 (fold1P min2P [v41, v42]).bind fun v43 =>
 (sliceP 1 v1 none (some v43) none).bind fun v44 =>
 (lenP false x0).bind fun v45 =>
 (Γ 16 [v44, x1, v45] h40).bind fun p46 =>
 (extractP p46.1 0).bind fun v47 =>
 (extractP p46.1 1).bind fun v48 =>
 (extractP p46.1 2).bind fun v49 =>
 (lenP false v4).bind fun v50 =>
 (fold1P min2P [v41, v50]).bind fun v51 =>
 (sliceP 1 v4 none (some v51) none).bind fun v52 =>
 (lenP false x0).bind fun v53 =>
 (Γ 18 [v52, x1, x2, v53] p46.2).bind fun p54 =>
 (extractP p54.1 0).bind fun v55 =>
 (extractP p54.1 1).bind fun v56 =>
 (extractP p54.1 2).bind fun v57 =>
 (extractP p54.1 3).bind fun v58 =>
 (lenP false v47).bind fun v59 =>
 (lenP false x0).bind fun v60 =>
 (binP .neq v59 v60).bind fun v61 =>
 K1 (fun v63 h64 =>
 KL (fun w66 h67 =>
 (lenP false x0).bind fun v68 =>
 KL (fun w70 h71 =>
 (Γ 8 [] h71).bind fun p72 =>
 finP [.keep] h p72.2 [p72.1]) fun j69 =>
 loopP (s6_L0 Γ n x0 h v47 v48 v55 v57 h67 v68 j69) n [(.int .i64 0 : PV), undefP, undefP, undefP, undefP, undefP, undefP, undefP, undefP, undefP, undefP, undefP, undefP, undefP, undefP, undefP, undefP, undefP, undefP, undefP, undefP, undefP, undefP, undefP, undefP, undefP, undefP, undefP, undefP, undefP, undefP, undefP, undefP, undefP, undefP, undefP, undefP, undefP, undefP, undefP, undefP, undefP, undefP, undefP, undefP, undefP, undefP, undefP, undefP, undefP, undefP, undefP, undefP] h67) fun j65 =>
 ifP v63 (
 finP [.keep] h h64 [(.bool false : PV)]) (
 j65 [] h64)) fun j62 =>
 scP v61 false (
 (lenP false v55).bind fun v136 =>
 (lenP false x0).bind fun v137 =>
 (binP .neq v136 v137).bind fun v138 =>
 j62 v138 p54.2)
 (j62 (.bool true) p54.2)) fun j38 =>
 ifP v36 (
 finP [.keep] h h37 [(.bool false : PV)]) (
 j38 [] h37)) fun j35 =>
 scP v33 false (
 (lenP false v4).bind fun v139 =>
 (binP .neq v21 v139).bind fun v140 =>
 j35 v140 h34)
 (j35 (.bool true) h34)) fun j32 =>
 scP v30 false (
 (binP .neq v22 (.int .i64 0 : PV)).bind fun v141 =>
 j32 v141 h31)
 (j32 (.bool true) h31)) fun j29 =>
 scP v27 false (
 (binP .neq v16 (.int .i64 0 : PV)).bind fun v142 =>
 j29 v142 h28)
 (j29 (.bool true) h28)) fun j26 =>
 scP v25 false (
 (Γ 15 [v20, x0] p24.2).bind fun p143 =>
 (unP .not p143.1).bind fun v144 =>
 j26 v144 p143.2)
 (j26 (.bool true) p24.2)) fun j10 =>
 ifP v8 (
 (binP .eql v2 v5).bind fun v145 =>
 K1 (fun v147 h148 =>
 K1 (fun v150 h151 =>
 K1 (fun v153 h154 =>
 finP [.keep] h h154 [v153]) fun j152 =>
 scP v150 true (
 (Γ 8 [] h151).bind fun p155 =>
 j152 p155.1 p155.2)
 (j152 (.bool false) h151)) fun j149 =>
 scP v147 false (
 (binP .eql v2 (.int .i64 3 : PV)).bind fun v156 =>
 K1 (fun v158 h159 =>
 j149 v158 h159) fun j157 =>
 scP v156 true (
 (binP .eql v5 (.int .i64 1 : PV)).bind fun v160 =>
 j157 v160 h148)
 (j157 (.bool false) h148))
 (j149 (.bool true) h148)) fun j146 =>
 scP v145 false (
 (binP .eql v2 (.int .i64 0 : PV)).bind fun v161 =>
 j146 v161 h9)
 (j146 (.bool true) h9)) (
 j10 [] h9)) fun j7 =>
 scP v6 false (
 (binP .neq v5 (.int .i64 0 : PV)).bind fun v162 =>
 j7 v162 p3.2)
 (j7 (.bool true) p3.2)

theorem s6_eq (Γ : PCallee) (n : Nat) (x0 : PV) (x1 : PV) (x2 : PV) (x3 : PV) (h : PHeap) : pfunK Γ n A6 [x0, x1, x2, x3] h = s6 Γ n x0 x1 x2 x3 h := by kernel_rfl


/-- orchestrion/orchestrionlaw03.awake -/
def A8 : PFun := ⟨0, 15,
 (.seq (.region false (.op (some 0) (.a (.move (.const (.bool false)))) false
  .nil))
  (.seq (.region false (.op (some 4) (.buildF 3 [(.int .i64 0)] 3 [(0, 1, (.const (.int .i64 1))), (1, 1, (.const (.int .i64 2))), (2, 1, (.const (.int .i64 3)))]) false
  (.op (some 5) (.a (.call 11 [(.tmp 4), (.const (.int .i64 8)), (.const (.int .i64 2))])) false
  (.op (some 3) (.a (.move (.tmp 5))) false
  (.op (some 6) (.a (.extract (.tmp 3) 0)) false
  (.op (some 7) (.a (.extract (.tmp 3) 1)) false
  (.op (some 1) (.a (.move (.tmp 6))) false
  (.op (some 2) (.a (.move (.tmp 7))) false
  .nil))))))))
  (.seq (.region false (.op (some 8) (.a (.move (.tmp 2))) false
  (.op (some 9) (.a (.bin .eql (.tmp 8) (.const (.int .i64 0)))) false
  (.op (some 10) (.a (.move (.tmp 9))) false
  (.sc 14 10 true [11, 12, 13]
  (.op (some 11) (.a (.move (.tmp 1))) false
  (.op (some 12) (.a (.bytesToStr (.tmp 11))) false
  (.op (some 13) (.a (.bin .eql (.tmp 12) (.const (.string ⟨#[2, 1]⟩)))) false
  .nil))) (.tmp 13)
  (.op (some 0) (.a (.move (.tmp 14))) false
  .nil))))))
  .ret))),
 [.tmp 0], [.keep]⟩
theorem ok8 : ∃ fn c, FunOk Try.prog 8 fn c A8.erase := ⟨Try.f8, _, ⟨Try.func8, rfl, by kernel_rfl, by kernel_rfl, by kernel_rfl, of_decide_eq_true (by kernel_rfl), by kernel_rfl⟩⟩
noncomputable def s8 (Γ : PCallee) (n : Nat) (h : PHeap) : Pt :=
 (fillP (repP [.int .i64 0] 3) [(0, 1, (.int .i64 1 : PV)), (1, 1, (.int .i64 2 : PV)), (2, 1, (.int .i64 3 : PV))]).bind fun l0 =>
 guardP (l0.all pure1) (
 forkP (.frz 1 (chunk 1 3 l0)) (h) fun v1 h2 =>
 (Γ 11 [v1, (.int .i64 8 : PV), (.int .i64 2 : PV)] h2).bind fun p3 =>
 (extractP p3.1 0).bind fun v4 =>
 (extractP p3.1 1).bind fun v5 =>
 (binP .eql v5 (.int .i64 0 : PV)).bind fun v6 =>
 K1 (fun v8 h9 =>
 finP [.keep] h h9 [v8]) fun j7 =>
 scP v6 true (
 (bytesToStrP v4 p3.2).bind fun v10 =>
 (binP .eql v10 (.str ⟨#[2, 1]⟩ : PV)).bind fun v11 =>
 j7 v11 p3.2)
 (j7 (.bool false) p3.2))

theorem s8_eq (Γ : PCallee) (n : Nat) (h : PHeap) : pfunK Γ n A8 [] h = s8 Γ n h := by kernel_rfl


/-- orchestrion/pack.Delta -/
def A9 : PFun := ⟨2, 39,
 (.seq (.region false (.op (some 4) (.a (.move (.const (.slice none 0 0)))) false
  (.op (some 5) (.a (.move (.const (.int .i64 0)))) false
  .nil)))
  (.seq (.seq (.region false (.op (some 10) (.a (.move (.tmp 0))) false
  (.op (some 11) (.a (.move (.tmp 1))) false
  (.op (some 12) (.a (.call 24 [(.tmp 10), (.tmp 11)])) false
  (.op (some 6) (.a (.move (.tmp 12))) false
  .nil)))))
  (.seq (.region false (.op (some 13) (.a (.move (.tmp 6))) false
  (.op (some 14) (.a (.bin .neq (.tmp 13) (.const (.int .i64 0)))) false
  .nil)))
  (.cond (.tmp 14) [] [4, 5, 15]
  (.seq (.region false (.op (some 15) (.a (.move (.tmp 6))) false
  (.op (some 4) (.a (.move (.const (.slice none 0 0)))) false
  (.op (some 5) (.a (.move (.tmp 15))) false
  .nil))))
  .ret)
  .skip)))
  (.seq (.region false (.op (some 7) (.growNil 5 1) false
  .nil))
  (.seq (.seq (.region false (.op (some 16) (.a (.move (.tmp 0))) false
  (.op (some 17) (.a (.move (.tmp 1))) false
  (.op (some 18) (.a (.call 25 [(.tmp 16), (.tmp 17)])) false
  (.op (some 19) (.a (.len false (.tmp 18))) false
  (.op (some 20) (.a (.move (.const (.int .i64 0)))) false
  .nil))))))
  (.block 0 [7] [9, 20, 21, 22, 23, 24, 25, 26, 27, 28, 29, 30, 31, 32, 33, 34, 35, 36, 37]
  (.loop [7, 20] [9, 21, 22, 23, 24, 25, 26, 27, 28, 29, 30, 31, 32, 33, 34, 35, 36, 37]
  (.seq (.region false (.op (some 21) (.a (.bin .lss (.tmp 20) (.tmp 19))) false
  .nil))
  (.seq (.cond (.tmp 21) [] []
  .skip
  (.exit 0))
  (.seq (.block 1 [7] [9, 22, 23, 24, 25, 26, 27, 28, 29, 30, 31, 32, 33, 34, 35, 36]
  (.seq (.region false (.op (some 22) (.a (.indexAddr 1 (.tmp 18) (.tmp 20))) false
  (.op (some 23) (.a (.load false 1 (.tmp 22))) false
  (.op (some 9) (.a (.move (.tmp 23))) false
  .nil))))
  (.seq (.region false (.op (some 24) (.a (.move (.tmp 7))) false
  (.op (some 25) (.a (.move (.tmp 9))) false
  (.op (some 26) (.a (.conv .u8 (.tmp 25))) false
  (.op (some 27) (.buildF 5 [(.int .u8 0)] 1 [(0, 1, (.tmp 26))]) false
  (.op (some 28) (.a (.append 5 1 (.tmp 24) (.tmp 27))) false
  (.op (some 7) (.a (.move (.tmp 28))) false
  .nil)))))))
  (.seq (.region false (.op (some 29) (.a (.move (.tmp 1))) false
  (.op (some 30) (.a (.bin .eql (.tmp 29) (.const (.int .i64 16)))) false
  .nil)))
  (.cond (.tmp 30) [7] [31, 32, 33, 34, 35, 36]
  (.region false (.op (some 31) (.a (.move (.tmp 7))) false
  (.op (some 32) (.a (.move (.tmp 9))) false
  (.op (some 33) (.a (.bin .shr (.tmp 32) (.const (.int .u64 8)))) false
  (.op (some 34) (.a (.conv .u8 (.tmp 33))) false
  (.op (some 35) (.buildF 5 [(.int .u8 0)] 1 [(0, 1, (.tmp 34))]) false
  (.op (some 36) (.a (.append 5 1 (.tmp 31) (.tmp 35))) false
  (.op (some 7) (.a (.move (.tmp 36))) false
  .nil))))))))
  .skip)))))
  (.region false (.op (some 37) (.a (.bin .add (.tmp 20) (.const (.int .i64 1)))) false
  (.op (some 20) (.a (.move (.tmp 37))) false
  .nil)))))))))
  (.seq (.region false (.op (some 38) (.a (.move (.tmp 7))) false
  (.op (some 4) (.a (.move (.tmp 38))) false
  (.op (some 5) (.a (.move (.const (.int .i64 0)))) false
  .nil))))
  .ret))))),
 [.tmp 4, .tmp 5], [(.flat 1), .keep]⟩
theorem ok9 : ∃ fn c, FunOk Try.prog 9 fn c A9.erase := ⟨Try.f9, _, ⟨Try.func9, rfl, by kernel_rfl, by kernel_rfl, by kernel_rfl, of_decide_eq_true (by kernel_rfl), by kernel_rfl⟩⟩
noncomputable def s9_L0 (Γ : PCallee) (n : Nat) (x1 : PV) (p7 : PV × PHeap) (v8 : PV) (j9 : List PV → PHeap → Pt) : (List PV → PHeap → Pt) → List PV → PHeap → Pt := fun c12 w13 h14 =>
 (binP .lss (nthP w13 1) v8).bind fun v15 =>
 KL (fun w17 h18 =>
 KL (fun w20 h21 =>
 (binP .add (nthP w13 1) (.int .i64 1 : PV)).bind fun v22 =>
 c12 [(nthP w20 0), v22] (trim p7.2 [(nthP w20 0), v22] h21)) fun j19 =>
 (indexAddrP 1 p7.1 (nthP w13 1)).bind fun v23 =>
 (loadP false 1 v23 h18).bind fun v24 =>
 (convP .u8 v24).bind fun v25 =>
 (fillP (repP [.int .u8 0] 1) [(0, 1, v25)]).bind fun l26 =>
 guardP (l26.all pure1) (
 forkP (.frz 1 (chunk 1 1 l26)) (h18) fun v27 h28 =>
 (appendP 5 1 (nthP w13 0) v27 h28).bind fun p29 =>
 (binP .eql x1 (.int .i64 16 : PV)).bind fun v30 =>
 KL (fun w32 h33 =>
 j19 [(nthP w32 0)] h33) fun j31 =>
 ifP v30 (
 (binP .shr v24 (.int .u64 8 : PV)).bind fun v34 =>
 (convP .u8 v34).bind fun v35 =>
 (fillP (repP [.int .u8 0] 1) [(0, 1, v35)]).bind fun l36 =>
 guardP (l36.all pure1) (
 forkP (.frz 1 (chunk 1 1 l36)) (p29.2) fun v37 h38 =>
 (appendP 5 1 p29.1 v37 h38).bind fun p39 =>
 j31 [p39.1] p39.2)) (
 j31 [p29.1] p29.2))) fun j16 =>
 ifP v15 (
 j16 [] h14) (
 j9 [(nthP w13 0)] h14)
noncomputable def s9 (Γ : PCallee) (n : Nat) (x0 : PV) (x1 : PV) (h : PHeap) : Pt :=
 (Γ 24 [x0, x1] h).bind fun p0 =>
 (binP .neq p0.1 (.int .i64 0 : PV)).bind fun v1 =>
 KL (fun w3 h4 =>
 forkP (.ref h4.length 0 0 0 1) (h4 ++ [.log [] 1 5 .rw]) fun v5 h6 =>
 (Γ 25 [x0, x1] h6).bind fun p7 =>
 (lenP false p7.1).bind fun v8 =>
 KL (fun w10 h11 =>
 finP [(.flat 1), .keep] h h11 [(nthP w10 0), (.int .i64 0 : PV)]) fun j9 =>
 loopP (s9_L0 Γ n x1 p7 v8 j9) n [v5, (.int .i64 0 : PV)] p7.2) fun j2 =>
 ifP v1 (
 finP [(.flat 1), .keep] h p0.2 [(.nilS : PV), p0.1]) (
 j2 [] p0.2)

theorem s9_eq (Γ : PCallee) (n : Nat) (x0 : PV) (x1 : PV) (h : PHeap) : pfunK Γ n A9 [x0, x1] h = s9 Γ n x0 x1 h := by kernel_rfl


/-- orchestrion/orchestrionref03.Delta -/
def A10 : PFun := ⟨2, 39,
 (.seq (.region false (.op (some 4) (.a (.move (.const (.slice none 0 0)))) false
  (.op (some 5) (.a (.move (.const (.int .i64 0)))) false
  .nil)))
  (.seq (.seq (.region false (.op (some 10) (.a (.move (.tmp 0))) false
  (.op (some 11) (.a (.move (.tmp 1))) false
  (.op (some 12) (.a (.call 26 [(.tmp 10), (.tmp 11)])) false
  (.op (some 6) (.a (.move (.tmp 12))) false
  .nil)))))
  (.seq (.region false (.op (some 13) (.a (.move (.tmp 6))) false
  (.op (some 14) (.a (.bin .neq (.tmp 13) (.const (.int .i64 0)))) false
  .nil)))
  (.cond (.tmp 14) [] [4, 5, 15]
  (.seq (.region false (.op (some 15) (.a (.move (.tmp 6))) false
  (.op (some 4) (.a (.move (.const (.slice none 0 0)))) false
  (.op (some 5) (.a (.move (.tmp 15))) false
  .nil))))
  .ret)
  .skip)))
  (.seq (.region false (.op (some 7) (.growNil 5 1) false
  .nil))
  (.seq (.seq (.region false (.op (some 16) (.a (.move (.tmp 0))) false
  (.op (some 17) (.a (.move (.tmp 1))) false
  (.op (some 18) (.a (.call 27 [(.tmp 16), (.tmp 17)])) false
  (.op (some 19) (.a (.len false (.tmp 18))) false
  (.op (some 20) (.a (.move (.const (.int .i64 0)))) false
  .nil))))))
  (.block 0 [7] [9, 20, 21, 22, 23, 24, 25, 26, 27, 28, 29, 30, 31, 32, 33, 34, 35, 36, 37]
  (.loop [7, 20] [9, 21, 22, 23, 24, 25, 26, 27, 28, 29, 30, 31, 32, 33, 34, 35, 36, 37]
  (.seq (.region false (.op (some 21) (.a (.bin .lss (.tmp 20) (.tmp 19))) false
  .nil))
  (.seq (.cond (.tmp 21) [] []
  .skip
  (.exit 0))
  (.seq (.block 1 [7] [9, 22, 23, 24, 25, 26, 27, 28, 29, 30, 31, 32, 33, 34, 35, 36]
  (.seq (.region false (.op (some 22) (.a (.indexAddr 1 (.tmp 18) (.tmp 20))) false
  (.op (some 23) (.a (.load false 1 (.tmp 22))) false
  (.op (some 9) (.a (.move (.tmp 23))) false
  .nil))))
  (.seq (.region false (.op (some 24) (.a (.move (.tmp 7))) false
  (.op (some 25) (.a (.move (.tmp 9))) false
  (.op (some 26) (.a (.conv .u8 (.tmp 25))) false
  (.op (some 27) (.buildF 5 [(.int .u8 0)] 1 [(0, 1, (.tmp 26))]) false
  (.op (some 28) (.a (.append 5 1 (.tmp 24) (.tmp 27))) false
  (.op (some 7) (.a (.move (.tmp 28))) false
  .nil)))))))
  (.seq (.region false (.op (some 29) (.a (.move (.tmp 1))) false
  (.op (some 30) (.a (.bin .eql (.tmp 29) (.const (.int .i64 16)))) false
  .nil)))
  (.cond (.tmp 30) [7] [31, 32, 33, 34, 35, 36]
  (.region false (.op (some 31) (.a (.move (.tmp 7))) false
  (.op (some 32) (.a (.move (.tmp 9))) false
  (.op (some 33) (.a (.bin .shr (.tmp 32) (.const (.int .u64 8)))) false
  (.op (some 34) (.a (.conv .u8 (.tmp 33))) false
  (.op (some 35) (.buildF 5 [(.int .u8 0)] 1 [(0, 1, (.tmp 34))]) false
  (.op (some 36) (.a (.append 5 1 (.tmp 31) (.tmp 35))) false
  (.op (some 7) (.a (.move (.tmp 36))) false
  .nil))))))))
  .skip)))))
  (.region false (.op (some 37) (.a (.bin .add (.tmp 20) (.const (.int .i64 1)))) false
  (.op (some 20) (.a (.move (.tmp 37))) false
  .nil)))))))))
  (.seq (.region false (.op (some 38) (.a (.move (.tmp 7))) false
  (.op (some 4) (.a (.move (.tmp 38))) false
  (.op (some 5) (.a (.move (.const (.int .i64 0)))) false
  .nil))))
  .ret))))),
 [.tmp 4, .tmp 5], [(.flat 1), .keep]⟩
theorem ok10 : ∃ fn c, FunOk Try.prog 10 fn c A10.erase := ⟨Try.f10, _, ⟨Try.func10, rfl, by kernel_rfl, by kernel_rfl, by kernel_rfl, of_decide_eq_true (by kernel_rfl), by kernel_rfl⟩⟩
noncomputable def s10_L0 (Γ : PCallee) (n : Nat) (x1 : PV) (p7 : PV × PHeap) (v8 : PV) (j9 : List PV → PHeap → Pt) : (List PV → PHeap → Pt) → List PV → PHeap → Pt := fun c12 w13 h14 =>
 (binP .lss (nthP w13 1) v8).bind fun v15 =>
 KL (fun w17 h18 =>
 KL (fun w20 h21 =>
 (binP .add (nthP w13 1) (.int .i64 1 : PV)).bind fun v22 =>
 c12 [(nthP w20 0), v22] (trim p7.2 [(nthP w20 0), v22] h21)) fun j19 =>
 (indexAddrP 1 p7.1 (nthP w13 1)).bind fun v23 =>
 (loadP false 1 v23 h18).bind fun v24 =>
 (convP .u8 v24).bind fun v25 =>
 (fillP (repP [.int .u8 0] 1) [(0, 1, v25)]).bind fun l26 =>
 guardP (l26.all pure1) (
 forkP (.frz 1 (chunk 1 1 l26)) (h18) fun v27 h28 =>
 (appendP 5 1 (nthP w13 0) v27 h28).bind fun p29 =>
 (binP .eql x1 (.int .i64 16 : PV)).bind fun v30 =>
 KL (fun w32 h33 =>
 j19 [(nthP w32 0)] h33) fun j31 =>
 ifP v30 (
 (binP .shr v24 (.int .u64 8 : PV)).bind fun v34 =>
 (convP .u8 v34).bind fun v35 =>
 (fillP (repP [.int .u8 0] 1) [(0, 1, v35)]).bind fun l36 =>
 guardP (l36.all pure1) (
 forkP (.frz 1 (chunk 1 1 l36)) (p29.2) fun v37 h38 =>
 (appendP 5 1 p29.1 v37 h38).bind fun p39 =>
 j31 [p39.1] p39.2)) (
 j31 [p29.1] p29.2))) fun j16 =>
 ifP v15 (
 j16 [] h14) (
 j9 [(nthP w13 0)] h14)
noncomputable def s10 (Γ : PCallee) (n : Nat) (x0 : PV) (x1 : PV) (h : PHeap) : Pt :=
 (Γ 26 [x0, x1] h).bind fun p0 =>
 (binP .neq p0.1 (.int .i64 0 : PV)).bind fun v1 =>
 KL (fun w3 h4 =>
 forkP (.ref h4.length 0 0 0 1) (h4 ++ [.log [] 1 5 .rw]) fun v5 h6 =>
 (Γ 27 [x0, x1] h6).bind fun p7 =>
 (lenP false p7.1).bind fun v8 =>
 KL (fun w10 h11 =>
 finP [(.flat 1), .keep] h h11 [(nthP w10 0), (.int .i64 0 : PV)]) fun j9 =>
 loopP (s10_L0 Γ n x1 p7 v8 j9) n [v5, (.int .i64 0 : PV)] p7.2) fun j2 =>
 ifP v1 (
 finP [(.flat 1), .keep] h p0.2 [(.nilS : PV), p0.1]) (
 j2 [] p0.2)

theorem s10_eq (Γ : PCallee) (n : Nat) (x0 : PV) (x1 : PV) (h : PHeap) : pfunK Γ n A10 [x0, x1] h = s10 Γ n x0 x1 h := by kernel_rfl


def L11_0a : PCode := (.region false (.op (some 12) (.a (.move (.tmp 47))) false
  .nil))
def L11_0b : PCode := (.block 1 [] [13, 14, 15, 16, 18, 48, 49, 50, 51, 52, 53, 54, 55, 56, 57, 58, 59, 60, 61, 62, 63, 64, 65, 66, 67, 68, 69, 70, 71, 72, 73, 74, 75, 76]
  (.seq (.region false (.op (some 48) (.a (.move (.tmp 12))) false
  (.op (some 49) (.a (.call 30 [(.tmp 48)])) false
  (.op (some 13) (.a (.move (.tmp 49))) false
  .nil))))
  (.seq (.region false (.op (some 50) (.a (.load false 1 (.tmp 11))) false
  (.op (some 51) (.a (.move (.tmp 13))) false
  (.op (some 52) (.a (.conv .u8 (.tmp 51))) false
  (.op (some 53) (.buildF 5 [(.int .u8 0)] 1 [(0, 1, (.tmp 52))]) false
  (.op (some 54) (.a (.append 5 1 (.tmp 50) (.tmp 53))) false
  (.op none (.a (.store 1 (.tmp 11) (.tmp 54))) false
  .nil)))))))
  (.seq (.region false (.op (some 14) (.a (.new 3 [(.int .i64 0)])) false
  (.op (some 15) (.a (.new 3 [(.int .i64 0)])) false
  (.op none (.a (.store 1 (.tmp 14) (.const (.int .i64 0)))) false
  (.op none (.a (.store 1 (.tmp 15) (.const (.int .i64 0)))) false
  .nil)))))
  (.seq (.region false (.op (some 55) (.a (.mkFunc 31 [] [(.tmp 14), (.tmp 15), (.tmp 11)])) false
  (.op (some 16) (.a (.move (.tmp 55))) false
  .nil)))
  (.seq (.seq (.region false (.op (some 56) (.a (.move (.tmp 12))) false
  (.op (some 57) (.a (.len false (.tmp 56))) false
  (.op (some 58) (.a (.move (.const (.int .i64 0)))) false
  .nil))))
  (.block 2 [] [18, 58, 59, 60, 61, 62, 63, 64, 65, 66, 67, 68, 69, 70]
  (.loop [58] [18, 59, 60, 61, 62, 63, 64, 65, 66, 67, 68, 69, 70]
  (.seq (.region false (.op (some 59) (.a (.bin .lss (.tmp 58) (.tmp 57))) false
  .nil))
  (.seq (.cond (.tmp 59) [] []
  .skip
  (.exit 2))
  (.seq (.block 3 [] [18, 60, 61, 62, 63, 64, 65, 66, 67, 68, 69]
  (.seq (.region false (.op (some 60) (.a (.indexAddr 1 (.tmp 56) (.tmp 58))) false
  (.op (some 61) (.a (.load false 1 (.tmp 60))) false
  (.op (some 18) (.a (.move (.tmp 61))) false
  .nil))))
  (.region false (.op (some 62) (.a (.move (.tmp 16))) false
  (.op (some 63) (.a (.move (.tmp 18))) false
  (.op (some 64) (.a (.move (.tmp 13))) false
  (.op (some 65) (.a (.bin .shl (.const (.int .i64 1)) (.tmp 64))) false
  (.op (some 66) (.a (.bin .sub (.tmp 65) (.const (.int .i64 1)))) false
  (.op (some 67) (.a (.bin .and (.tmp 63) (.tmp 66))) false
  (.op (some 68) (.a (.move (.tmp 13))) false
  (.op (some 69) (.a (.callV (.tmp 62) [(.tmp 67), (.tmp 68)])) false
  .nil)))))))))))
  (.region false (.op (some 70) (.a (.bin .add (.tmp 58) (.const (.int .i64 1)))) false
  (.op (some 58) (.a (.move (.tmp 70))) false
  .nil)))))))))
  (.seq (.region false (.op (some 71) (.a (.load false 1 (.tmp 15))) false
  (.op (some 72) (.a (.bin .gtr (.tmp 71) (.const (.int .i64 0)))) false
  .nil)))
  (.cond (.tmp 72) [] [73, 74, 75, 76]
  (.region false (.op (some 73) (.a (.move (.tmp 16))) false
  (.op (some 74) (.a (.load false 1 (.tmp 15))) false
  (.op (some 75) (.a (.bin .sub (.const (.int .i64 8)) (.tmp 74))) false
  (.op (some 76) (.a (.callV (.tmp 73) [(.const (.int .i64 0)), (.tmp 75)])) false
  .nil)))))
  .skip))))))))
/-- orchestrion/pack.Blocks -/
def A11 : PFun := ⟨3, 78,
 (.seq (.region false (.op (some 6) (.a (.move (.const (.slice none 0 0)))) false
  (.op (some 7) (.a (.move (.const (.int .i64 0)))) false
  .nil)))
  (.seq (.region false (.op (some 20) (.a (.call 28 [])) false
  (.op (some 21) (.a (.move (.tmp 2))) false
  (.op (some 22) (.a (.lookup .int (.agg #[.nilFunc, .nilFunc]) true (.tmp 20) (.tmp 21))) false
  (.op (some 19) (.a (.move (.tmp 22))) false
  (.op (some 23) (.a (.extract (.tmp 19) 0)) false
  (.op (some 24) (.a (.extract (.tmp 19) 1)) false
  (.op (some 8) (.a (.new 45 [.nilFunc, .nilFunc])) false
  (.op none (.a (.store 2 (.tmp 8) (.tmp 23))) false
  (.op (some 9) (.a (.move (.tmp 24))) false
  .nil))))))))))
  (.seq (.seq (.region false (.op (some 25) (.a (.move (.tmp 1))) false
  (.op (some 26) (.a (.bin .neq (.tmp 25) (.const (.int .i64 8)))) false
  (.op (some 27) (.a (.move (.tmp 26))) false
  (.sc 30 27 true [28, 29]
  (.op (some 28) (.a (.move (.tmp 1))) false
  (.op (some 29) (.a (.bin .neq (.tmp 28) (.const (.int .i64 16)))) false
  .nil)) (.tmp 29)
  (.op (some 31) (.a (.move (.tmp 30))) false
  (.sc 34 31 false [32, 33]
  (.op (some 32) (.a (.move (.tmp 9))) false
  (.op (some 33) (.a (.un .not (.tmp 32))) false
  .nil)) (.tmp 33)
  .nil)))))))
  (.cond (.tmp 34) [6, 7] []
  (.seq (.region false (.op (some 6) (.a (.move (.const (.slice none 0 0)))) false
  (.op (some 7) (.a (.move (.const (.int .i64 1)))) false
  .nil)))
  .ret)
  .skip))
  (.seq (.seq (.region false (.op (some 35) (.a (.move (.tmp 0))) false
  (.op (some 36) (.a (.move (.tmp 1))) false
  (.op (some 37) (.a (.call 24 [(.tmp 35), (.tmp 36)])) false
  (.op (some 10) (.a (.move (.tmp 37))) false
  .nil)))))
  (.seq (.region false (.op (some 38) (.a (.move (.tmp 10))) false
  (.op (some 39) (.a (.bin .neq (.tmp 38) (.const (.int .i64 0)))) false
  .nil)))
  (.cond (.tmp 39) [6, 7] [40]
  (.seq (.region false (.op (some 40) (.a (.move (.tmp 10))) false
  (.op (some 6) (.a (.move (.const (.slice none 0 0)))) false
  (.op (some 7) (.a (.move (.tmp 40))) false
  .nil))))
  .ret)
  .skip)))
  (.seq (.region false (.op (some 11) (.growBox true 24 5 1) false
  .nil))
  (.seq (.seq (.region false (.op (some 41) (.a (.indexAddrArr 2 1 (.tmp 8) (.const (.int .i64 0)))) false
  (.op (some 42) (.a (.load false 1 (.tmp 41))) false
  (.op (some 43) (.a (.move (.tmp 0))) false
  (.op (some 44) (.a (.move (.tmp 1))) false
  (.op (some 45) (.a (.callV (.tmp 42) [(.tmp 43), (.tmp 44)])) false
  (.op (some 46) (.a (.call 29 [(.tmp 45), (.const (.int .i64 256))])) false
  .nil)))))))
  (.block 0 [] []
  (.rangeF (.tmp 46) [11] [47] L11_0a L11_0b)))
  (.seq (.region false (.op (some 77) (.a (.load false 1 (.tmp 11))) false
  (.op (some 6) (.a (.move (.tmp 77))) false
  (.op (some 7) (.a (.move (.const (.int .i64 0)))) false
  .nil))))
  .ret))))))),
 [.tmp 6, .tmp 7], [(.flat 1), .keep]⟩
theorem ok11 : ∃ fn c, FunOk Try.prog 11 fn c A11.erase := ⟨Try.f11, _, ⟨Try.func11, rfl, by kernel_rfl, by kernel_rfl, by kernel_rfl, of_decide_eq_true (by kernel_rfl), by kernel_rfl⟩⟩
noncomputable def s11 (Γ : PCallee) (n : Nat) (x0 : PV) (x1 : PV) (x2 : PV) (h : PHeap) : Pt :=
 (Γ 28 [] h).bind fun p0 =>
 (lookupP .int (.agg [.nilF, .nilF]) true p0.1 x2 p0.2).bind fun v1 =>
 (extractP v1 0).bind fun v2 =>
 (extractP v1 1).bind fun v3 =>
 forkP (.ptr p0.2.length 0) (p0.2 ++ [.box [.nilF, .nilF] 45 .rw]) fun v4 h5 =>
 (storeP 2 v4 v2 h5).bind fun h6 =>
 (binP .neq x1 (.int .i64 8 : PV)).bind fun v7 =>
 K1 (fun v9 h10 =>
 K1 (fun v12 h13 =>
 KL (fun w15 h16 =>
 (Γ 24 [x0, x1] h16).bind fun p17 =>
 (binP .neq p17.1 (.int .i64 0 : PV)).bind fun v18 =>
 KL (fun w20 h21 =>
 forkP (.ptr (h21.length + 1) 0) (h21 ++ [.log [] 1 5 .rw, .box [.ref h21.length 0 0 0 1] 24 .rw]) fun v22 h23 =>
 (indexAddrArrP 2 1 v4 (.int .i64 0 : PV)).bind fun v24 =>
 (loadP false 1 v24 h23).bind fun v25 =>
 (callVP Γ v25 [x0, x1] h23).bind fun p26 =>
 (Γ 29 [p26.1, (.int .i64 256 : PV)] p26.2).bind fun p27 =>
 KL (fun w29 h30 =>
 (loadP false 1 v22 h30).bind fun v31 =>
 finP [(.flat 1), .keep] h h30 [v31, (.int .i64 0 : PV)]) fun j28 =>
 (callFP Γ p27.1 [.yield p27.2.length] (p27.2 ++ [.loop [v22] [11] [47] L11_0a L11_0b .ready none .rw])).bind fun p32 =>
 (pendOfP p27.2.length p32.2).bind fun o33 =>
 forkP undefP (trim p27.2 [] (p32.2.set p27.2.length .dead)) fun v34 h35 =>
endF o33 (
 j28 [] h35) (fun i36 => bif Nat.beq i36 0 then (j28 [] h35) else none) (
 finP [(.flat 1), .keep] h h35 [(nthP w20 0), (nthP w20 1)])) fun j19 =>
 ifP v18 (
 finP [(.flat 1), .keep] h p17.2 [(.nilS : PV), p17.1]) (
 j19 [(nthP w15 0), (nthP w15 1)] p17.2)) fun j14 =>
 ifP v12 (
 finP [(.flat 1), .keep] h h13 [(.nilS : PV), (.int .i64 1 : PV)]) (
 j14 [(.nilS : PV), (.int .i64 0 : PV)] h13)) fun j11 =>
 scP v9 false (
 (unP .not v3).bind fun v37 =>
 j11 v37 h10)
 (j11 (.bool true) h10)) fun j8 =>
 scP v7 true (
 (binP .neq x1 (.int .i64 16 : PV)).bind fun v38 =>
 j8 v38 h6)
 (j8 (.bool false) h6)

theorem s11_eq (Γ : PCallee) (n : Nat) (x0 : PV) (x1 : PV) (x2 : PV) (h : PHeap) : pfunK Γ n A11 [x0, x1, x2] h = s11 Γ n x0 x1 x2 h := by kernel_rfl

noncomputable def r11_0_L0 (Γ : PCallee) (n : Nat) (w11 : PV) (a47 : PV) (p4 : PV × PHeap) (v12 : PV) (v14 : PV) (h17 : PHeap) (v18 : PV) (j19 : List PV → PHeap → Pt) : (List PV → PHeap → Pt) → List PV → PHeap → Pt := fun c30 w31 h32 =>
 (binP .lss (nthP w31 0) v18).bind fun v33 =>
 KL (fun w35 h36 =>
 KL (fun w38 h39 =>
 (binP .add (nthP w31 0) (.int .i64 1 : PV)).bind fun v40 =>
 c30 [v40] (trim h17 [v40] h39)) fun j37 =>
 (indexAddrP 1 a47 (nthP w31 0)).bind fun v41 =>
 (loadP false 1 v41 h36).bind fun v42 =>
 (binP .shl (.int .i64 1 : PV) p4.1).bind fun v43 =>
 (binP .sub v43 (.int .i64 1 : PV)).bind fun v44 =>
 (binP .and v42 v44).bind fun v45 =>
 (callVP Γ (PV.func 31 [] [v12, v14, w11]) [v45, p4.1] h36).bind fun p46 =>
 j37 [] p46.2) fun j34 =>
 ifP v33 (
 j34 [] h32) (
 j19 [] h32)
noncomputable def r11_0 (Γ : PCallee) (n : Nat) (w11 : PV) (a47 : PV) (b : Nat) (h : PHeap) : Pt :=
 (beginRoundP b h).bind fun h0 =>
 KL (fun w2 h3 =>
 (endRoundP b .normal h3).map fun q => (q.1, trim h [] q.2)) fun j1 =>
 (Γ 30 [a47] h0).bind fun p4 =>
 (loadP false 1 w11 p4.2).bind fun v5 =>
 (convP .u8 p4.1).bind fun v6 =>
 (fillP (repP [.int .u8 0] 1) [(0, 1, v6)]).bind fun l7 =>
 guardP (l7.all pure1) (
 forkP (.frz 1 (chunk 1 1 l7)) (p4.2) fun v8 h9 =>
 (appendP 5 1 v5 v8 h9).bind fun p10 =>
 (storeP 1 w11 p10.1 p10.2).bind fun h11 =>
 forkP (.ptr h11.length 0) (h11 ++ [.box [.int .i64 0] 3 .rw]) fun v12 h13 =>
 forkP (.ptr h13.length 0) (h13 ++ [.box [.int .i64 0] 3 .rw]) fun v14 h15 =>
 (storeP 1 v12 (.int .i64 0 : PV) h15).bind fun h16 =>
 (storeP 1 v14 (.int .i64 0 : PV) h16).bind fun h17 =>
 (lenP false a47).bind fun v18 =>
 KL (fun w20 h21 =>
 (loadP false 1 v14 h21).bind fun v22 =>
 (binP .gtr v22 (.int .i64 0 : PV)).bind fun v23 =>
 KL (fun w25 h26 =>
 j1 [] h26) fun j24 =>
 ifP v23 (
 (loadP false 1 v14 h21).bind fun v27 =>
 (binP .sub (.int .i64 8 : PV) v27).bind fun v28 =>
 (callVP Γ (PV.func 31 [] [v12, v14, w11]) [(.int .i64 0 : PV), v28] h21).bind fun p29 =>
 j24 [] p29.2) (
 j24 [] h21)) fun j19 =>
 loopP (r11_0_L0 Γ n w11 a47 p4 v12 v14 h17 v18 j19) n [(.int .i64 0 : PV)] h17)
theorem r11_0_eq (Γ : PCallee) (n : Nat) (w11 : PV) (a47 : PV) (b : Nat) (h : PHeap) (pend : Option AExit) (md : Md) (hb : h[b]? = some (.loop [w11] [11] [47] L11_0a L11_0b .ready pend md)) : proundK Γ n (.ptr b 0 :: [a47]) h = r11_0 Γ n w11 a47 b h := (proundK_eq hb rfl).trans (by kernel_rfl)

/-- orchestrion/orchestrionref03.Blocks -/
def A12 : PFun := ⟨3, 50,
 (.seq (.region false (.op (some 6) (.a (.move (.const (.slice none 0 0)))) false
  (.op (some 7) (.a (.move (.const (.int .i64 0)))) false
  .nil)))
  (.seq (.seq (.region false (.op (some 12) (.a (.move (.tmp 1))) false
  (.op (some 13) (.a (.call 32 [(.tmp 12)])) false
  (.op (some 14) (.a (.un .not (.tmp 13))) false
  (.op (some 15) (.a (.move (.tmp 14))) false
  (.sc 19 15 false [16, 17, 18]
  (.op (some 16) (.a (.move (.tmp 2))) false
  (.op (some 17) (.a (.call 33 [(.tmp 16)])) false
  (.op (some 18) (.a (.un .not (.tmp 17))) false
  .nil))) (.tmp 18)
  .nil))))))
  (.cond (.tmp 19) [] [6, 7]
  (.seq (.region false (.op (some 6) (.a (.move (.const (.slice none 0 0)))) false
  (.op (some 7) (.a (.move (.const (.int .i64 1)))) false
  .nil)))
  .ret)
  .skip))
  (.seq (.seq (.region false (.op (some 20) (.a (.move (.tmp 0))) false
  (.op (some 21) (.a (.move (.tmp 1))) false
  (.op (some 22) (.a (.call 26 [(.tmp 20), (.tmp 21)])) false
  (.op (some 8) (.a (.move (.tmp 22))) false
  .nil)))))
  (.seq (.region false (.op (some 23) (.a (.move (.tmp 8))) false
  (.op (some 24) (.a (.bin .neq (.tmp 23) (.const (.int .i64 0)))) false
  .nil)))
  (.cond (.tmp 24) [] [6, 7, 25]
  (.seq (.region false (.op (some 25) (.a (.move (.tmp 8))) false
  (.op (some 6) (.a (.move (.const (.slice none 0 0)))) false
  (.op (some 7) (.a (.move (.tmp 25))) false
  .nil))))
  .ret)
  .skip)))
  (.seq (.region false (.op (some 26) (.a (.move (.tmp 0))) false
  (.op (some 27) (.a (.move (.tmp 1))) false
  (.op (some 28) (.a (.call 27 [(.tmp 26), (.tmp 27)])) false
  (.op (some 9) (.a (.move (.tmp 28))) false
  .nil)))))
  (.seq (.seq (.region false (.op (some 29) (.a (.move (.tmp 2))) false
  (.op (some 30) (.a (.bin .eql (.tmp 29) (.const (.int .i64 2)))) false
  .nil)))
  (.cond (.tmp 30) [9] [31, 32, 33]
  (.region false (.op (some 31) (.a (.move (.tmp 9))) false
  (.op (some 32) (.a (.move (.tmp 1))) false
  (.op (some 33) (.a (.call 27 [(.tmp 31), (.tmp 32)])) false
  (.op (some 9) (.a (.move (.tmp 33))) false
  .nil)))))
  .skip))
  (.seq (.region false (.op (some 10) (.growNil 5 1) false
  .nil))
  (.seq (.block 0 [10] [9, 11, 34, 35, 36, 37, 38, 39, 40, 41, 42, 43, 44, 45, 46, 47, 48]
  (.loop [9, 10] [11, 34, 35, 36, 37, 38, 39, 40, 41, 42, 43, 44, 45, 46, 47, 48]
  (.seq (.seq (.region false (.op (some 34) (.a (.move (.tmp 9))) false
  (.op (some 35) (.a (.len false (.tmp 34))) false
  (.op (some 36) (.a (.bin .gtr (.tmp 35) (.const (.int .i64 0)))) false
  .nil))))
  (.cond (.tmp 36) [] []
  .skip
  (.exit 0)))
  (.block 1 [9, 10] [11, 37, 38, 39, 40, 41, 42, 43, 44, 45, 46, 47, 48]
  (.seq (.region false (.op (some 37) (.a (.move (.tmp 9))) false
  (.op (some 38) (.a (.len false (.tmp 37))) false
  (.op (some 39) (.a (.min [(.const (.int .i64 256)), (.tmp 38)])) false
  (.op (some 11) (.a (.move (.tmp 39))) false
  .nil)))))
  (.seq (.region false (.op (some 40) (.a (.move (.tmp 10))) false
  (.op (some 41) (.a (.move (.tmp 9))) false
  (.op (some 42) (.a (.move (.tmp 11))) false
  (.op (some 43) (.a (.slice 1 (.tmp 41) none (some (.tmp 42)) none)) false
  (.op (some 44) (.a (.call 34 [(.tmp 43)])) false
  (.op (some 45) (.a (.append 5 1 (.tmp 40) (.tmp 44))) false
  (.op (some 10) (.a (.move (.tmp 45))) false
  .nil))))))))
  (.region false (.op (some 46) (.a (.move (.tmp 9))) false
  (.op (some 47) (.a (.move (.tmp 11))) false
  (.op (some 48) (.a (.slice 1 (.tmp 46) (some (.tmp 47)) none none)) false
  (.op (some 9) (.a (.move (.tmp 48))) false
  .nil)))))))))))
  (.seq (.region false (.op (some 49) (.a (.move (.tmp 10))) false
  (.op (some 6) (.a (.move (.tmp 49))) false
  (.op (some 7) (.a (.move (.const (.int .i64 0)))) false
  .nil))))
  .ret)))))))),
 [.tmp 6, .tmp 7], [(.flat 1), .keep]⟩
theorem ok12 : ∃ fn c, FunOk Try.prog 12 fn c A12.erase := ⟨Try.f12, _, ⟨Try.func12, rfl, by kernel_rfl, by kernel_rfl, by kernel_rfl, of_decide_eq_true (by kernel_rfl), by kernel_rfl⟩⟩
noncomputable def s12_L0 (Γ : PCallee) (n : Nat) (h19 : PHeap) (j20 : List PV → PHeap → Pt) : (List PV → PHeap → Pt) → List PV → PHeap → Pt := fun c23 w24 h25 =>
 (lenP false (nthP w24 0)).bind fun v26 =>
 (binP .gtr v26 (.int .i64 0 : PV)).bind fun v27 =>
 KL (fun w29 h30 =>
 KL (fun w32 h33 =>
 c23 [(nthP w32 0), (nthP w32 1)] (trim h19 [(nthP w32 0), (nthP w32 1)] h33)) fun j31 =>
 (lenP false (nthP w24 0)).bind fun v34 =>
 (fold1P min2P [(.int .i64 256 : PV), v34]).bind fun v35 =>
 (sliceP 1 (nthP w24 0) none (some v35) none).bind fun v36 =>
 (Γ 34 [v36] h30).bind fun p37 =>
 (appendP 5 1 (nthP w24 1) p37.1 p37.2).bind fun p38 =>
 (sliceP 1 (nthP w24 0) (some v35) none none).bind fun v39 =>
 j31 [v39, p38.1] p38.2) fun j28 =>
 ifP v27 (
 j28 [] h25) (
 j20 [(nthP w24 1)] h25)
noncomputable def s12 (Γ : PCallee) (n : Nat) (x0 : PV) (x1 : PV) (x2 : PV) (h : PHeap) : Pt :=
 (Γ 32 [x1] h).bind fun p0 =>
 (unP .not p0.1).bind fun v1 =>
 K1 (fun v3 h4 =>
 KL (fun w6 h7 =>
 (Γ 26 [x0, x1] h7).bind fun p8 =>
 (binP .neq p8.1 (.int .i64 0 : PV)).bind fun v9 =>
 KL (fun w11 h12 =>
 (Γ 27 [x0, x1] h12).bind fun p13 =>
 (binP .eql x2 (.int .i64 2 : PV)).bind fun v14 =>
 KL (fun w16 h17 =>
 forkP (.ref h17.length 0 0 0 1) (h17 ++ [.log [] 1 5 .rw]) fun v18 h19 =>
 KL (fun w21 h22 =>
 finP [(.flat 1), .keep] h h22 [(nthP w21 0), (.int .i64 0 : PV)]) fun j20 =>
 loopP (s12_L0 Γ n h19 j20) n [(nthP w16 0), v18] h19) fun j15 =>
 ifP v14 (
 (Γ 27 [p13.1, x1] p13.2).bind fun p40 =>
 j15 [p40.1] p40.2) (
 j15 [p13.1] p13.2)) fun j10 =>
 ifP v9 (
 finP [(.flat 1), .keep] h p8.2 [(.nilS : PV), p8.1]) (
 j10 [] p8.2)) fun j5 =>
 ifP v3 (
 finP [(.flat 1), .keep] h h4 [(.nilS : PV), (.int .i64 1 : PV)]) (
 j5 [] h4)) fun j2 =>
 scP v1 false (
 (Γ 33 [x2] p0.2).bind fun p41 =>
 (unP .not p41.1).bind fun v42 =>
 j2 v42 p41.2)
 (j2 (.bool true) p0.2)

theorem s12_eq (Γ : PCallee) (n : Nat) (x0 : PV) (x1 : PV) (x2 : PV) (h : PHeap) : pfunK Γ n A12 [x0, x1, x2] h = s12 Γ n x0 x1 x2 h := by kernel_rfl


/-- orchestrion/pack.Nibbles -/
def A13 : PFun := ⟨2, 85,
 (.seq (.region false (.op (some 4) (.a (.move (.const (.slice none 0 0)))) false
  (.op (some 5) (.a (.move (.const (.int .i64 0)))) false
  .nil)))
  (.seq (.seq (.region false (.op (some 16) (.a (.move (.tmp 0))) false
  (.op (some 17) (.a (.call 35 [(.tmp 16), (.func 36)])) false
  (.op (some 18) (.a (.move (.tmp 17))) false
  (.sc 22 18 false [19, 20, 21]
  (.op (some 19) (.a (.move (.tmp 1))) false
  (.op (some 20) (.a (.call 37 [(.tmp 19)])) false
  (.op (some 21) (.a (.un .not (.tmp 20))) false
  .nil))) (.tmp 21)
  .nil)))))
  (.cond (.tmp 22) [] [4, 5]
  (.seq (.region false (.op (some 4) (.a (.move (.const (.slice none 0 0)))) false
  (.op (some 5) (.a (.move (.const (.int .i64 1)))) false
  .nil)))
  .ret)
  .skip))
  (.seq (.seq (.region false (.op (some 23) (.a (.move (.tmp 0))) false
  (.op (some 24) (.a (.call 24 [(.tmp 23), (.const (.int .i64 8))])) false
  (.op (some 6) (.a (.move (.tmp 24))) false
  .nil))))
  (.seq (.region false (.op (some 25) (.a (.move (.tmp 6))) false
  (.op (some 26) (.a (.bin .neq (.tmp 25) (.const (.int .i64 0)))) false
  .nil)))
  (.cond (.tmp 26) [] [4, 5, 27]
  (.seq (.region false (.op (some 27) (.a (.move (.tmp 6))) false
  (.op (some 4) (.a (.move (.const (.slice none 0 0)))) false
  (.op (some 5) (.a (.move (.tmp 27))) false
  .nil))))
  .ret)
  .skip)))
  (.seq (.region false (.op (some 28) (.a (.move (.tmp 0))) false
  (.op (some 29) (.a (.len false (.tmp 28))) false
  (.op (some 30) (.a (.bin .add (.tmp 29) (.const (.int .i64 1)))) false
  (.op (some 31) (.a (.bin .quo (.tmp 30) (.const (.int .i64 2)))) false
  (.op (some 32) (.a (.mkSlice 5 [(.int .u8 0)] (.tmp 31) (.tmp 31))) false
  (.op (some 7) (.a (.move (.tmp 32))) false
  .nil)))))))
  (.seq (.region false (.op (some 8) (.a (.move (.const (.int .i64 0)))) false
  .nil))
  (.seq (.seq (.region false (.op (some 33) (.a (.move (.tmp 0))) false
  (.op (some 34) (.a (.len false (.tmp 33))) false
  (.op (some 35) (.a (.move (.const (.int .i64 0)))) false
  .nil))))
  (.block 0 [] [8, 9, 10, 11, 12, 13, 14, 15, 35, 36, 37, 38, 39, 40, 41, 42, 43, 44, 45, 46, 47, 48, 49, 50, 51, 52, 53, 54, 55, 56, 57, 58, 59, 60, 61, 62, 63, 64, 65, 66, 67, 68, 69, 70, 71, 72, 73, 74, 75, 76, 77, 78, 79, 80, 81, 82, 83]
  (.loop [8, 35] [9, 10, 11, 12, 13, 14, 15, 36, 37, 38, 39, 40, 41, 42, 43, 44, 45, 46, 47, 48, 49, 50, 51, 52, 53, 54, 55, 56, 57, 58, 59, 60, 61, 62, 63, 64, 65, 66, 67, 68, 69, 70, 71, 72, 73, 74, 75, 76, 77, 78, 79, 80, 81, 82, 83]
  (.seq (.region false (.op (some 36) (.a (.bin .lss (.tmp 35) (.tmp 34))) false
  .nil))
  (.seq (.cond (.tmp 36) [] []
  .skip
  (.exit 0))
  (.seq (.block 1 [8] [9, 10, 11, 12, 13, 14, 15, 37, 38, 39, 40, 41, 42, 43, 44, 45, 46, 47, 48, 49, 50, 51, 52, 53, 54, 55, 56, 57, 58, 59, 60, 61, 62, 63, 64, 65, 66, 67, 68, 69, 70, 71, 72, 73, 74, 75, 76, 77, 78, 79, 80, 81, 82]
  (.seq (.region false (.op (some 37) (.a (.move (.tmp 35))) false
  (.op (some 38) (.a (.indexAddr 1 (.tmp 33) (.tmp 35))) false
  (.op (some 39) (.a (.load false 1 (.tmp 38))) false
  (.op (some 9) (.a (.move (.tmp 37))) false
  (.op (some 10) (.a (.move (.tmp 39))) false
  .nil))))))
  (.seq (.region false (.op (some 11) (.a (.move (.const (.int .i64 0)))) false
  (.op (some 12) (.a (.move (.const (.int .i64 1073741824)))) false
  .nil)))
  (.seq (.seq (.region false (.op (some 40) (.a (.move (.tmp 1))) false
  (.op (some 41) (.a (.len false (.tmp 40))) false
  (.op (some 42) (.a (.move (.const (.int .i64 0)))) false
  .nil))))
  (.block 2 [11] [12, 13, 14, 15, 42, 43, 44, 45, 46, 47, 48, 49, 50, 51, 52, 53, 54, 55, 56, 57, 58, 59, 60, 61, 62]
  (.loop [11, 12, 42] [13, 14, 15, 43, 44, 45, 46, 47, 48, 49, 50, 51, 52, 53, 54, 55, 56, 57, 58, 59, 60, 61, 62]
  (.seq (.region false (.op (some 43) (.a (.bin .lss (.tmp 42) (.tmp 41))) false
  .nil))
  (.seq (.cond (.tmp 43) [] []
  .skip
  (.exit 2))
  (.seq (.block 3 [11, 12] [13, 14, 15, 44, 45, 46, 47, 48, 49, 50, 51, 52, 53, 54, 55, 56, 57, 58, 59, 60, 61]
  (.seq (.region false (.op (some 44) (.a (.move (.tmp 42))) false
  (.op (some 45) (.a (.indexAddr 1 (.tmp 40) (.tmp 42))) false
  (.op (some 46) (.a (.load false 1 (.tmp 45))) false
  (.op (some 13) (.a (.move (.tmp 44))) false
  (.op (some 14) (.a (.move (.tmp 46))) false
  .nil))))))
  (.seq (.region false (.op (some 47) (.a (.move (.tmp 8))) false
  (.op (some 48) (.a (.move (.tmp 14))) false
  (.op (some 49) (.a (.bin .add (.tmp 47) (.tmp 48))) false
  (.op (some 50) (.a (.call 38 [(.tmp 49), (.const (.int .i64 8))])) false
  (.op (some 51) (.a (.move (.tmp 10))) false
  (.op (some 52) (.a (.bin .sub (.tmp 50) (.tmp 51))) false
  (.op (some 15) (.a (.move (.tmp 52))) false
  .nil))))))))
  (.seq (.region false (.op (some 53) (.a (.move (.tmp 15))) false
  (.op (some 54) (.a (.move (.tmp 15))) false
  (.op (some 55) (.a (.un .neg (.tmp 54))) false
  (.op (some 56) (.a (.max [(.tmp 53), (.tmp 55)])) false
  (.op (some 15) (.a (.move (.tmp 56))) false
  .nil))))))
  (.seq (.region false (.op (some 57) (.a (.move (.tmp 15))) false
  (.op (some 58) (.a (.move (.tmp 12))) false
  (.op (some 59) (.a (.bin .lss (.tmp 57) (.tmp 58))) false
  .nil))))
  (.cond (.tmp 59) [11, 12] [60, 61]
  (.region false (.op (some 60) (.a (.move (.tmp 13))) false
  (.op (some 61) (.a (.move (.tmp 15))) false
  (.op (some 11) (.a (.move (.tmp 60))) false
  (.op (some 12) (.a (.move (.tmp 61))) false
  .nil)))))
  .skip))))))
  (.region false (.op (some 62) (.a (.bin .add (.tmp 42) (.const (.int .i64 1)))) false
  (.op (some 42) (.a (.move (.tmp 62))) false
  .nil)))))))))
  (.seq (.region false (.op (some 63) (.a (.move (.tmp 8))) false
  (.op (some 64) (.a (.move (.tmp 1))) false
  (.op (some 65) (.a (.move (.tmp 11))) false
  (.op (some 66) (.a (.indexAddr 1 (.tmp 64) (.tmp 65))) false
  (.op (some 67) (.a (.load false 1 (.tmp 66))) false
  (.op (some 68) (.a (.bin .add (.tmp 63) (.tmp 67))) false
  (.op (some 69) (.a (.call 38 [(.tmp 68), (.const (.int .i64 8))])) false
  (.op (some 8) (.a (.move (.tmp 69))) false
  .nil)))))))))
  (.region true (.op (some 70) (.a (.move (.tmp 7))) false
  (.op (some 71) (.a (.move (.tmp 9))) false
  (.op (some 72) (.a (.bin .quo (.tmp 71) (.const (.int .i64 2)))) false
  (.op (some 73) (.a (.indexAddr 1 (.tmp 70) (.tmp 72))) false
  (.op (some 74) (.a (.load false 1 (.tmp 73))) false
  (.op (some 75) (.a (.move (.tmp 11))) false
  (.op (some 76) (.a (.move (.tmp 9))) false
  (.op (some 77) (.a (.bin .rem (.tmp 76) (.const (.int .i64 2)))) false
  (.op (some 78) (.a (.bin .mul (.const (.int .i64 4)) (.tmp 77))) false
  (.op (some 79) (.a (.bin .shl (.tmp 75) (.tmp 78))) false
  (.op (some 80) (.a (.conv .u8 (.tmp 79))) false
  (.op (some 81) (.a (.bin .or (.tmp 74) (.tmp 80))) false
  (.op (some 82) (.a (.indexAddr 1 (.tmp 70) (.tmp 72))) false
  (.op none (.a (.store 1 (.tmp 82) (.tmp 81))) false
  .nil))))))))))))))))))))
  (.region false (.op (some 83) (.a (.bin .add (.tmp 35) (.const (.int .i64 1)))) false
  (.op (some 35) (.a (.move (.tmp 83))) false
  .nil)))))))))
  (.seq (.region false (.op (some 84) (.a (.move (.tmp 7))) false
  (.op (some 4) (.a (.move (.tmp 84))) false
  (.op (some 5) (.a (.move (.const (.int .i64 0)))) false
  .nil))))
  .ret))))))),
 [.tmp 4, .tmp 5], [(.flat 1), .keep]⟩
theorem ok13 : ∃ fn c, FunOk Try.prog 13 fn c A13.erase := ⟨Try.f13, _, ⟨Try.func13, rfl, by kernel_rfl, by kernel_rfl, by kernel_rfl, of_decide_eq_true (by kernel_rfl), by kernel_rfl⟩⟩
noncomputable def s13_L0 (Γ : PCallee) (n : Nat) (x1 : PV) (w21 : List PV) (h26 : PHeap) (v32 : PV) (v33 : PV) (j34 : List PV → PHeap → Pt) : (List PV → PHeap → Pt) → List PV → PHeap → Pt := fun c51 w52 h53 =>
 (binP .lss (nthP w52 2) v33).bind fun v54 =>
 KL (fun w56 h57 =>
 KL (fun w59 h60 =>
 (binP .add (nthP w52 2) (.int .i64 1 : PV)).bind fun v61 =>
 c51 [(nthP w59 0), (nthP w59 1), v61] (trim h26 [(nthP w59 0), (nthP w59 1), v61] h60)) fun j58 =>
 (indexAddrP 1 x1 (nthP w52 2)).bind fun v62 =>
 (loadP false 1 v62 h57).bind fun v63 =>
 (binP .add (nthP w21 0) v63).bind fun v64 =>
 (Γ 38 [v64, (.int .i64 8 : PV)] h57).bind fun p65 =>
 (binP .sub p65.1 v32).bind fun v66 =>
 (unP .neg v66).bind fun v67 =>
 (fold1P max2P [v66, v67]).bind fun v68 =>
 (binP .lss v68 (nthP w52 1)).bind fun v69 =>
 KL (fun w71 h72 =>
 j58 [(nthP w71 0), (nthP w71 1)] h72) fun j70 =>
 ifP v69 (
 j70 [(nthP w52 2), v68] p65.2) (
 j70 [(nthP w52 0), (nthP w52 1)] p65.2)) fun j55 =>
 ifP v54 (
 j55 [] h53) (
 j34 [(nthP w52 0)] h53)
noncomputable def s13_L1 (Γ : PCallee) (n : Nat) (x0 : PV) (x1 : PV) (p15 : PV × PHeap) (v16 : PV) (j17 : List PV → PHeap → Pt) : (List PV → PHeap → Pt) → List PV → PHeap → Pt := fun c20 w21 h22 =>
 (binP .lss (nthP w21 1) v16).bind fun v23 =>
 KL (fun w25 h26 =>
 KL (fun w28 h29 =>
 (binP .add (nthP w21 1) (.int .i64 1 : PV)).bind fun v30 =>
 c20 [(nthP w28 0), v30] (trim p15.2 [(nthP w28 0), v30] h29)) fun j27 =>
 (indexAddrP 1 x0 (nthP w21 1)).bind fun v31 =>
 (loadP false 1 v31 h26).bind fun v32 =>
 (lenP false x1).bind fun v33 =>
 KL (fun w35 h36 =>
 (indexAddrP 1 x1 (nthP w35 0)).bind fun v37 =>
 (loadP false 1 v37 h36).bind fun v38 =>
 (binP .add (nthP w21 0) v38).bind fun v39 =>
 (Γ 38 [v39, (.int .i64 8 : PV)] h36).bind fun p40 =>
 (binP .quo (nthP w21 1) (.int .i64 2 : PV)).bind fun v41 =>
 (indexAddrP 1 p15.1 v41).bind fun v42 =>
 (loadP false 1 v42 p40.2).bind fun v43 =>
 (binP .rem (nthP w21 1) (.int .i64 2 : PV)).bind fun v44 =>
 (binP .mul (.int .i64 4 : PV) v44).bind fun v45 =>
 (binP .shl (nthP w35 0) v45).bind fun v46 =>
 (convP .u8 v46).bind fun v47 =>
 (binP .or v43 v47).bind fun v48 =>
 (indexAddrP 1 p15.1 v41).bind fun v49 =>
 (storeP 1 v49 v48 p40.2).bind fun h50 =>
 j27 [p40.1] h50) fun j34 =>
 loopP (s13_L0 Γ n x1 w21 h26 v32 v33 j34) n [(.int .i64 0 : PV), (.int .i64 1073741824 : PV), (.int .i64 0 : PV)] h26) fun j24 =>
 ifP v23 (
 j24 [] h22) (
 j17 [] h22)
noncomputable def s13 (Γ : PCallee) (n : Nat) (x0 : PV) (x1 : PV) (h : PHeap) : Pt :=
 (Γ 35 [x0, (PV.func 36 [] [])] h).bind fun p0 =>
 K1 (fun v2 h3 =>
 KL (fun w5 h6 =>
 (Γ 24 [x0, (.int .i64 8 : PV)] h6).bind fun p7 =>
 (binP .neq p7.1 (.int .i64 0 : PV)).bind fun v8 =>
 KL (fun w10 h11 =>
 (lenP false x0).bind fun v12 =>
 (binP .add v12 (.int .i64 1 : PV)).bind fun v13 =>
 (binP .quo v13 (.int .i64 2 : PV)).bind fun v14 =>
 (mkSliceP 5 [.int .u8 0] v14 v14 h11).bind fun p15 =>
 (lenP false x0).bind fun v16 =>
 KL (fun w18 h19 =>
 finP [(.flat 1), .keep] h h19 [p15.1, (.int .i64 0 : PV)]) fun j17 =>
 loopP (s13_L1 Γ n x0 x1 p15 v16 j17) n [(.int .i64 0 : PV), (.int .i64 0 : PV)] p15.2) fun j9 =>
 ifP v8 (
 finP [(.flat 1), .keep] h p7.2 [(.nilS : PV), p7.1]) (
 j9 [] p7.2)) fun j4 =>
 ifP v2 (
 finP [(.flat 1), .keep] h h3 [(.nilS : PV), (.int .i64 1 : PV)]) (
 j4 [] h3)) fun j1 =>
 scP p0.1 false (
 (Γ 37 [x1] p0.2).bind fun p73 =>
 (unP .not p73.1).bind fun v74 =>
 j1 v74 p73.2)
 (j1 (.bool true) p0.2)

theorem s13_eq (Γ : PCallee) (n : Nat) (x0 : PV) (x1 : PV) (h : PHeap) : pfunK Γ n A13 [x0, x1] h = s13 Γ n x0 x1 h := by kernel_rfl


/-- orchestrion/pack.Unnibbles -/
def A14 : PFun := ⟨3, 55,
 (.seq (.region false (.op (some 6) (.a (.move (.const (.slice none 0 0)))) false
  (.op (some 7) (.a (.move (.const (.int .i64 0)))) false
  (.op (some 8) (.a (.move (.const (.int .i64 0)))) false
  .nil))))
  (.seq (.seq (.region false (.op (some 12) (.a (.move (.tmp 1))) false
  (.op (some 13) (.a (.call 37 [(.tmp 12)])) false
  (.op (some 14) (.a (.un .not (.tmp 13))) false
  .nil))))
  (.cond (.tmp 14) [] [6, 7, 8]
  (.seq (.region false (.op (some 6) (.a (.move (.const (.slice none 0 0)))) false
  (.op (some 7) (.a (.move (.const (.int .i64 0)))) false
  (.op (some 8) (.a (.move (.const (.int .i64 1)))) false
  .nil))))
  .ret)
  .skip))
  (.seq (.seq (.region false (.op (some 15) (.a (.move (.tmp 0))) false
  (.op (some 16) (.a (.move (.tmp 2))) false
  (.op (some 17) (.a (.call 39 [(.tmp 15), (.const (.int .i64 8)), (.tmp 16)])) false
  (.op (some 9) (.a (.move (.tmp 17))) false
  .nil)))))
  (.seq (.region false (.op (some 18) (.a (.move (.tmp 9))) false
  (.op (some 19) (.a (.bin .neq (.tmp 18) (.const (.int .i64 0)))) false
  .nil)))
  (.cond (.tmp 19) [] [6, 7, 8, 20]
  (.seq (.region false (.op (some 20) (.a (.move (.tmp 9))) false
  (.op (some 6) (.a (.move (.const (.slice none 0 0)))) false
  (.op (some 7) (.a (.move (.const (.int .i64 0)))) false
  (.op (some 8) (.a (.move (.tmp 20))) false
  .nil)))))
  .ret)
  .skip)))
  (.seq (.region false (.op (some 10) (.growNil 3 1) false
  .nil))
  (.seq (.seq (.region false (.op (some 21) (.a (.move (.tmp 2))) false
  (.op (some 22) (.a (.move (.tmp 0))) false
  (.op (some 23) (.a (.len false (.tmp 22))) false
  (.op (some 24) (.a (.bin .mul (.const (.int .i64 2)) (.tmp 23))) false
  (.op (some 25) (.a (.min [(.tmp 21), (.tmp 24)])) false
  (.op (some 26) (.a (.move (.const (.int .i64 0)))) false
  .nil)))))))
  (.block 0 [10] [11, 26, 27, 28, 29, 30, 31, 32, 33, 34, 35, 36, 37, 38, 39, 40, 41, 42, 43, 44, 45]
  (.loop [10, 26] [11, 27, 28, 29, 30, 31, 32, 33, 34, 35, 36, 37, 38, 39, 40, 41, 42, 43, 44, 45]
  (.seq (.region false (.op (some 27) (.a (.bin .lss (.tmp 26) (.tmp 25))) false
  .nil))
  (.seq (.cond (.tmp 27) [] []
  .skip
  (.exit 0))
  (.seq (.block 1 [10] [11, 28, 29, 30, 31, 32, 33, 34, 35, 36, 37, 38, 39, 40, 41, 42, 43, 44]
  (.seq (.region false (.op (some 28) (.a (.move (.tmp 26))) false
  (.op (some 11) (.a (.move (.tmp 28))) false
  .nil)))
  (.region false (.op (some 29) (.a (.move (.tmp 10))) false
  (.op (some 30) (.a (.move (.tmp 1))) false
  (.op (some 31) (.a (.move (.tmp 0))) false
  (.op (some 32) (.a (.move (.tmp 11))) false
  (.op (some 33) (.a (.bin .quo (.tmp 32) (.const (.int .i64 2)))) false
  (.op (some 34) (.a (.indexAddr 1 (.tmp 31) (.tmp 33))) false
  (.op (some 35) (.a (.load false 1 (.tmp 34))) false
  (.op (some 36) (.a (.move (.tmp 11))) false
  (.op (some 37) (.a (.bin .rem (.tmp 36) (.const (.int .i64 2)))) false
  (.op (some 38) (.a (.bin .mul (.const (.int .i64 4)) (.tmp 37))) false
  (.op (some 39) (.a (.bin .shr (.tmp 35) (.tmp 38))) false
  (.op (some 40) (.a (.bin .and (.tmp 39) (.const (.int .u8 15)))) false
  (.op (some 41) (.a (.indexAddr 1 (.tmp 30) (.tmp 40))) false
  (.op (some 42) (.a (.load false 1 (.tmp 41))) false
  (.op (some 43) (.buildF 3 [(.int .i64 0)] 1 [(0, 1, (.tmp 42))]) false
  (.op (some 44) (.a (.append 3 1 (.tmp 29) (.tmp 43))) false
  (.op (some 10) (.a (.move (.tmp 44))) false
  .nil))))))))))))))))))))
  (.region false (.op (some 45) (.a (.bin .add (.tmp 26) (.const (.int .i64 1)))) false
  (.op (some 26) (.a (.move (.tmp 45))) false
  .nil)))))))))
  (.seq (.region false (.op (some 47) (.a (.move (.tmp 10))) false
  (.fz 47 (.flat 1)
  (.op (some 48) (.a (.call 41 [(.tmp 47), (.const (.int .i64 8))])) false
  (.op (some 49) (.a (.move (.tmp 2))) false
  (.op (some 50) (.a (.call 40 [(.tmp 48), (.tmp 49)])) false
  (.op (some 46) (.a (.move (.tmp 50))) false
  (.op (some 51) (.a (.extract (.tmp 46) 0)) false
  (.op (some 52) (.a (.extract (.tmp 46) 1)) false
  (.op (some 6) (.a (.move (.tmp 51))) false
  (.op (some 7) (.a (.move (.tmp 52))) false
  .nil)))))))))))
  (.seq (.region false (.op (some 53) (.a (.move (.tmp 6))) false
  (.op (some 54) (.a (.move (.tmp 7))) false
  (.op (some 6) (.a (.move (.tmp 53))) false
  (.op (some 7) (.a (.move (.tmp 54))) false
  (.op (some 8) (.a (.move (.const (.int .i64 0)))) false
  .nil))))))
  .ret))))))),
 [.tmp 6, .tmp 7, .tmp 8], [(.flat 1), .keep, .keep]⟩
theorem ok14 : ∃ fn c, FunOk Try.prog 14 fn c A14.erase := ⟨Try.f14, _, ⟨Try.func14, rfl, by kernel_rfl, by kernel_rfl, by kernel_rfl, of_decide_eq_true (by kernel_rfl), by kernel_rfl⟩⟩
noncomputable def s14_L0 (Γ : PCallee) (n : Nat) (x0 : PV) (x1 : PV) (h11 : PHeap) (v14 : PV) (j15 : List PV → PHeap → Pt) : (List PV → PHeap → Pt) → List PV → PHeap → Pt := fun c23 w24 h25 =>
 (binP .lss (nthP w24 1) v14).bind fun v26 =>
 KL (fun w28 h29 =>
 KL (fun w31 h32 =>
 (binP .add (nthP w24 1) (.int .i64 1 : PV)).bind fun v33 =>
 c23 [(nthP w31 0), v33] (trim h11 [(nthP w31 0), v33] h32)) fun j30 =>
 (binP .quo (nthP w24 1) (.int .i64 2 : PV)).bind fun v34 =>
 (indexAddrP 1 x0 v34).bind fun v35 =>
 (loadP false 1 v35 h29).bind fun v36 =>
 (binP .rem (nthP w24 1) (.int .i64 2 : PV)).bind fun v37 =>
 (binP .mul (.int .i64 4 : PV) v37).bind fun v38 =>
 (binP .shr v36 v38).bind fun v39 =>
 (binP .and v39 (.int .u8 15 : PV)).bind fun v40 =>
 (indexAddrP 1 x1 v40).bind fun v41 =>
 (loadP false 1 v41 h29).bind fun v42 =>
 (fillP (repP [.int .i64 0] 1) [(0, 1, v42)]).bind fun l43 =>
 guardP (l43.all pure1) (
 forkP (.frz 1 (chunk 1 1 l43)) (h29) fun v44 h45 =>
 (appendP 3 1 (nthP w24 0) v44 h45).bind fun p46 =>
 j30 [p46.1] p46.2)) fun j27 =>
 ifP v26 (
 j27 [] h25) (
 j15 [(nthP w24 0)] h25)
noncomputable def s14 (Γ : PCallee) (n : Nat) (x0 : PV) (x1 : PV) (x2 : PV) (h : PHeap) : Pt :=
 (Γ 37 [x1] h).bind fun p0 =>
 (unP .not p0.1).bind fun v1 =>
 KL (fun w3 h4 =>
 (Γ 39 [x0, (.int .i64 8 : PV), x2] h4).bind fun p5 =>
 (binP .neq p5.1 (.int .i64 0 : PV)).bind fun v6 =>
 KL (fun w8 h9 =>
 forkP (.ref h9.length 0 0 0 1) (h9 ++ [.log [] 1 3 .rw]) fun v10 h11 =>
 (lenP false x0).bind fun v12 =>
 (binP .mul (.int .i64 2 : PV) v12).bind fun v13 =>
 (fold1P min2P [x2, v13]).bind fun v14 =>
 KL (fun w16 h17 =>
 (fz (.flat 1) (nthP w16 0) h17).bind fun q18 =>
 (Γ 41 [q18.1, (.int .i64 8 : PV)] q18.2).bind fun p19 =>
 (Γ 40 [p19.1, x2] p19.2).bind fun p20 =>
 (extractP p20.1 0).bind fun v21 =>
 (extractP p20.1 1).bind fun v22 =>
 finP [(.flat 1), .keep, .keep] h p20.2 [v21, v22, (.int .i64 0 : PV)]) fun j15 =>
 loopP (s14_L0 Γ n x0 x1 h11 v14 j15) n [v10, (.int .i64 0 : PV)] h11) fun j7 =>
 ifP v6 (
 finP [(.flat 1), .keep, .keep] h p5.2 [(.nilS : PV), (.int .i64 0 : PV), p5.1]) (
 j7 [] p5.2)) fun j2 =>
 ifP v1 (
 finP [(.flat 1), .keep, .keep] h p0.2 [(.nilS : PV), (.int .i64 0 : PV), (.int .i64 1 : PV)]) (
 j2 [] p0.2)

theorem s14_eq (Γ : PCallee) (n : Nat) (x0 : PV) (x1 : PV) (x2 : PV) (h : PHeap) : pfunK Γ n A14 [x0, x1, x2] h = s14 Γ n x0 x1 x2 h := by kernel_rfl


/-- orchestrion/orchestrionlaw03.same -/
def A15 : PFun := ⟨2, 26,
 (.seq (.region false (.op (some 4) (.a (.move (.const (.bool false)))) false
  .nil))
  (.seq (.seq (.region false (.op (some 6) (.a (.move (.tmp 0))) false
  (.op (some 7) (.a (.len false (.tmp 6))) false
  (.op (some 8) (.a (.move (.tmp 1))) false
  (.op (some 9) (.a (.len false (.tmp 8))) false
  (.op (some 10) (.a (.bin .neq (.tmp 7) (.tmp 9))) false
  .nil))))))
  (.cond (.tmp 10) [] [4]
  (.seq (.region false (.op (some 4) (.a (.move (.const (.bool false)))) false
  .nil))
  .ret)
  .skip))
  (.seq (.seq (.region false (.op (some 11) (.a (.move (.tmp 0))) false
  (.op (some 12) (.a (.len false (.tmp 11))) false
  (.op (some 13) (.a (.move (.const (.int .i64 0)))) false
  .nil))))
  (.block 0 [] [4, 5, 13, 14, 15, 16, 17, 18, 19, 20, 21, 22, 23, 24, 25]
  (.loop [13] [4, 5, 14, 15, 16, 17, 18, 19, 20, 21, 22, 23, 24, 25]
  (.seq (.region false (.op (some 14) (.a (.bin .lss (.tmp 13) (.tmp 12))) false
  .nil))
  (.seq (.cond (.tmp 14) [] []
  .skip
  (.exit 0))
  (.seq (.block 1 [] [4, 5, 15, 16, 17, 18, 19, 20, 21, 22, 23, 24]
  (.seq (.region false (.op (some 15) (.a (.move (.tmp 13))) false
  (.op (some 5) (.a (.move (.tmp 15))) false
  .nil)))
  (.seq (.region true (.op (some 16) (.a (.move (.tmp 0))) false
  (.op (some 17) (.a (.move (.tmp 5))) false
  (.op (some 18) (.a (.indexAddr 1 (.tmp 16) (.tmp 17))) false
  (.op (some 19) (.a (.load false 1 (.tmp 18))) false
  (.op (some 20) (.a (.move (.tmp 1))) false
  (.op (some 21) (.a (.move (.tmp 5))) false
  (.op (some 22) (.a (.indexAddr 1 (.tmp 20) (.tmp 21))) false
  (.op (some 23) (.a (.load false 1 (.tmp 22))) false
  (.op (some 24) (.a (.bin .neq (.tmp 19) (.tmp 23))) false
  .nil))))))))))
  (.cond (.tmp 24) [] [4]
  (.seq (.region false (.op (some 4) (.a (.move (.const (.bool false)))) false
  .nil))
  .ret)
  .skip))))
  (.region false (.op (some 25) (.a (.bin .add (.tmp 13) (.const (.int .i64 1)))) false
  (.op (some 13) (.a (.move (.tmp 25))) false
  .nil)))))))))
  (.seq (.region false (.op (some 4) (.a (.move (.const (.bool true)))) false
  .nil))
  .ret)))),
 [.tmp 4], [.keep]⟩
theorem ok15 : ∃ fn c, FunOk Try.prog 15 fn c A15.erase := ⟨Try.f15, _, ⟨Try.func15, rfl, by kernel_rfl, by kernel_rfl, by kernel_rfl, of_decide_eq_true (by kernel_rfl), by kernel_rfl⟩⟩
noncomputable def s15_L0 (Γ : PCallee) (n : Nat) (x0 : PV) (x1 : PV) (h : PHeap) (h5 : PHeap) (v6 : PV) (j7 : List PV → PHeap → Pt) : (List PV → PHeap → Pt) → List PV → PHeap → Pt := fun c10 w11 h12 =>
 (binP .lss (nthP w11 0) v6).bind fun v13 =>
 KL (fun w15 h16 =>
 KL (fun w18 h19 =>
 (binP .add (nthP w11 0) (.int .i64 1 : PV)).bind fun v20 =>
 c10 [v20] (trim h5 [v20] h19)) fun j17 =>
 (indexAddrP 1 x0 (nthP w11 0)).bind fun v21 =>
 (loadP false 1 v21 h16).bind fun v22 =>
 (indexAddrP 1 x1 (nthP w11 0)).bind fun v23 =>
 (loadP false 1 v23 h16).bind fun v24 =>
 (binP .neq v22 v24).bind fun v25 =>
 KL (fun w27 h28 =>
 j17 [] h28) fun j26 =>
 ifP v25 (
 finP [.keep] h h16 [(.bool false : PV)]) (
 j26 [] h16)) fun j14 =>
 ifP v13 (
 j14 [] h12) (
 j7 [] h12)
noncomputable def s15 (Γ : PCallee) (n : Nat) (x0 : PV) (x1 : PV) (h : PHeap) : Pt :=
 (lenP false x0).bind fun v0 =>
 (lenP false x1).bind fun v1 =>
 (binP .neq v0 v1).bind fun v2 =>
 KL (fun w4 h5 =>
 (lenP false x0).bind fun v6 =>
 KL (fun w8 h9 =>
 finP [.keep] h h9 [(.bool true : PV)]) fun j7 =>
 loopP (s15_L0 Γ n x0 x1 h h5 v6 j7) n [(.int .i64 0 : PV)] h5) fun j3 =>
 ifP v2 (
 finP [.keep] h h [(.bool false : PV)]) (
 j3 [] h)

theorem s15_eq (Γ : PCallee) (n : Nat) (x0 : PV) (x1 : PV) (h : PHeap) : pfunK Γ n A15 [x0, x1] h = s15 Γ n x0 x1 h := by kernel_rfl


/-- orchestrion/pack.Undelta -/
def A16 : PFun := ⟨3, 70,
 (.seq (.region false (.op (some 6) (.a (.move (.const (.slice none 0 0)))) false
  (.op (some 7) (.a (.move (.const (.int .i64 0)))) false
  (.op (some 8) (.a (.move (.const (.int .i64 0)))) false
  .nil))))
  (.seq (.seq (.region false (.op (some 14) (.a (.move (.tmp 0))) false
  (.op (some 15) (.a (.move (.tmp 1))) false
  (.op (some 16) (.a (.move (.tmp 2))) false
  (.op (some 17) (.a (.call 39 [(.tmp 14), (.tmp 15), (.tmp 16)])) false
  (.op (some 9) (.a (.move (.tmp 17))) false
  .nil))))))
  (.seq (.region false (.op (some 18) (.a (.move (.tmp 9))) false
  (.op (some 19) (.a (.bin .neq (.tmp 18) (.const (.int .i64 0)))) false
  .nil)))
  (.cond (.tmp 19) [] [6, 7, 8, 20]
  (.seq (.region false (.op (some 20) (.a (.move (.tmp 9))) false
  (.op (some 6) (.a (.move (.const (.slice none 0 0)))) false
  (.op (some 7) (.a (.move (.const (.int .i64 0)))) false
  (.op (some 8) (.a (.move (.tmp 20))) false
  .nil)))))
  .ret)
  .skip)))
  (.seq (.region false (.op (some 10) (.growNil 3 1) false
  .nil))
  (.seq (.region false (.op (some 21) (.a (.move (.tmp 1))) false
  (.op (some 22) (.a (.bin .quo (.tmp 21) (.const (.int .i64 8)))) false
  (.op (some 11) (.a (.move (.tmp 22))) false
  .nil))))
  (.seq (.seq (.region false (.op (some 12) (.a (.move (.const (.int .i64 0)))) false
  .nil))
  (.block 0 [10] [12, 13, 23, 24, 25, 26, 27, 28, 29, 30, 31, 32, 33, 34, 35, 36, 37, 38, 39, 40, 41, 42, 43, 44, 45, 46, 47, 48, 49, 50, 51, 52, 53, 54, 55, 56, 57, 58, 59]
  (.loop [10, 12, 30, 31, 32, 33] [13, 23, 24, 25, 26, 27, 28, 29, 34, 35, 36, 37, 38, 39, 40, 41, 42, 43, 44, 45, 46, 47, 48, 49, 50, 51, 52, 53, 54, 55, 56, 57, 58, 59]
  (.seq (.seq (.region false (.op (some 23) (.a (.move (.tmp 12))) false
  (.op (some 24) (.a (.move (.tmp 11))) false
  (.op (some 25) (.a (.bin .add (.tmp 23) (.tmp 24))) false
  (.op (some 26) (.a (.move (.tmp 0))) false
  (.op (some 27) (.a (.len false (.tmp 26))) false
  (.op (some 28) (.a (.bin .leq (.tmp 25) (.tmp 27))) false
  (.op (some 29) (.a (.move (.tmp 28))) false
  (.sc 34 29 true [30, 31, 32, 33]
  (.op (some 30) (.a (.move (.tmp 10))) false
  (.op (some 31) (.a (.len false (.tmp 30))) false
  (.op (some 32) (.a (.move (.tmp 2))) false
  (.op (some 33) (.a (.bin .lss (.tmp 31) (.tmp 32))) false
  .nil)))) (.tmp 33)
  .nil)))))))))
  (.cond (.tmp 34) [] []
  .skip
  (.exit 0)))
  (.seq (.block 1 [10] [13, 38, 39, 40, 41, 42, 43, 44, 45, 46, 47, 48, 49, 50, 51, 52, 53, 54, 55, 56, 57, 58, 59]
  (.seq (.region false (.op (some 38) (.a (.move (.tmp 0))) false
  (.op (some 39) (.a (.move (.tmp 12))) false
  (.op (some 40) (.a (.indexAddr 1 (.tmp 38) (.tmp 39))) false
  (.op (some 41) (.a (.load false 1 (.tmp 40))) false
  (.op (some 42) (.a (.conv .i64 (.tmp 41))) false
  (.op (some 13) (.a (.move (.tmp 42))) false
  .nil)))))))
  (.seq (.seq (.region false (.op (some 43) (.a (.move (.tmp 11))) false
  (.op (some 44) (.a (.bin .eql (.tmp 43) (.const (.int .i64 2)))) false
  .nil)))
  (.cond (.tmp 44) [13] [45, 46, 47, 48, 49, 50, 51, 52, 53]
  (.region false (.op (some 45) (.a (.move (.tmp 13))) false
  (.op (some 46) (.a (.move (.tmp 0))) false
  (.op (some 47) (.a (.move (.tmp 12))) false
  (.op (some 48) (.a (.bin .add (.tmp 47) (.const (.int .i64 1)))) false
  (.op (some 49) (.a (.indexAddr 1 (.tmp 46) (.tmp 48))) false
  (.op (some 50) (.a (.load false 1 (.tmp 49))) false
  (.op (some 51) (.a (.conv .i64 (.tmp 50))) false
  (.op (some 52) (.a (.bin .shl (.tmp 51) (.const (.int .u64 8)))) false
  (.op (some 53) (.a (.bin .or (.tmp 45) (.tmp 52))) false
  (.op (some 13) (.a (.move (.tmp 53))) false
  .nil)))))))))))
  .skip))
  (.region false (.op (some 54) (.a (.move (.tmp 10))) false
  (.op (some 55) (.a (.move (.tmp 13))) false
  (.op (some 56) (.a (.move (.tmp 1))) false
  (.op (some 57) (.a (.call 38 [(.tmp 55), (.tmp 56)])) false
  (.op (some 58) (.buildF 3 [(.int .i64 0)] 1 [(0, 1, (.tmp 57))]) false
  (.op (some 59) (.a (.append 3 1 (.tmp 54) (.tmp 58))) false
  (.op (some 10) (.a (.move (.tmp 59))) false
  .nil)))))))))))
  (.region false (.op (some 35) (.a (.move (.tmp 12))) false
  (.op (some 36) (.a (.move (.tmp 11))) false
  (.op (some 37) (.a (.bin .add (.tmp 35) (.tmp 36))) false
  (.op (some 12) (.a (.move (.tmp 37))) false
  .nil))))))))))
  (.seq (.region false (.op (some 61) (.a (.move (.tmp 10))) false
  (.op (some 62) (.a (.move (.tmp 1))) false
  (.fz 61 (.flat 1)
  (.op (some 63) (.a (.call 41 [(.tmp 61), (.tmp 62)])) false
  (.op (some 64) (.a (.move (.tmp 2))) false
  (.op (some 65) (.a (.call 40 [(.tmp 63), (.tmp 64)])) false
  (.op (some 60) (.a (.move (.tmp 65))) false
  (.op (some 66) (.a (.extract (.tmp 60) 0)) false
  (.op (some 67) (.a (.extract (.tmp 60) 1)) false
  (.op (some 6) (.a (.move (.tmp 66))) false
  (.op (some 7) (.a (.move (.tmp 67))) false
  .nil))))))))))))
  (.seq (.region false (.op (some 68) (.a (.move (.tmp 6))) false
  (.op (some 69) (.a (.move (.tmp 7))) false
  (.op (some 6) (.a (.move (.tmp 68))) false
  (.op (some 7) (.a (.move (.tmp 69))) false
  (.op (some 8) (.a (.move (.const (.int .i64 0)))) false
  .nil))))))
  .ret))))))),
 [.tmp 6, .tmp 7, .tmp 8], [(.flat 1), .keep, .keep]⟩
theorem ok16 : ∃ fn c, FunOk Try.prog 16 fn c A16.erase := ⟨Try.f16, _, ⟨Try.func16, rfl, by kernel_rfl, by kernel_rfl, by kernel_rfl, of_decide_eq_true (by kernel_rfl), by kernel_rfl⟩⟩
noncomputable def s16_L0 (Γ : PCallee) (n : Nat) (x0 : PV) (x1 : PV) (x2 : PV) (h6 : PHeap) (v7 : PV) (j8 : List PV → PHeap → Pt) : (List PV → PHeap → Pt) → List PV → PHeap → Pt := fun c16 w17 h18 =>
 (binP .add (nthP w17 1) v7).bind fun v19 =>
 (lenP false x0).bind fun v20 =>
 (binP .leq v19 v20).bind fun v21 =>
 K1 (fun v23 h24 =>
 KL (fun w26 h27 =>
 KL (fun w29 h30 =>
 (binP .add (nthP w17 1) v7).bind fun v31 =>
 c16 [(nthP w29 0), v31, PV.junk, PV.junk, PV.junk, PV.junk] (trim h6 [(nthP w29 0), v31, PV.junk, PV.junk, PV.junk, PV.junk] h30)) fun j28 =>
 (indexAddrP 1 x0 (nthP w17 1)).bind fun v32 =>
 (loadP false 1 v32 h27).bind fun v33 =>
 (convP .i64 v33).bind fun v34 =>
 (binP .eql v7 (.int .i64 2 : PV)).bind fun v35 =>
 KL (fun w37 h38 =>
 (Γ 38 [(nthP w37 0), x1] h38).bind fun p39 =>
 (fillP (repP [.int .i64 0] 1) [(0, 1, p39.1)]).bind fun l40 =>
 guardP (l40.all pure1) (
 forkP (.frz 1 (chunk 1 1 l40)) (p39.2) fun v41 h42 =>
 (appendP 3 1 (nthP w17 0) v41 h42).bind fun p43 =>
 j28 [p43.1] p43.2)) fun j36 =>
 ifP v35 (
 (binP .add (nthP w17 1) (.int .i64 1 : PV)).bind fun v44 =>
 (indexAddrP 1 x0 v44).bind fun v45 =>
 (loadP false 1 v45 h27).bind fun v46 =>
 (convP .i64 v46).bind fun v47 =>
 (binP .shl v47 (.int .u64 8 : PV)).bind fun v48 =>
 (binP .or v34 v48).bind fun v49 =>
 j36 [v49] h27) (
 j36 [v34] h27)) fun j25 =>
 ifP v23 (
 j25 [] h24) (
 j8 [(nthP w17 0)] h24)) fun j22 =>
 scP v21 true (
 (lenP false (nthP w17 0)).bind fun v50 =>
 (binP .lss v50 x2).bind fun v51 =>
 j22 v51 h18)
 (j22 (.bool false) h18)
noncomputable def s16 (Γ : PCallee) (n : Nat) (x0 : PV) (x1 : PV) (x2 : PV) (h : PHeap) : Pt :=
 (Γ 39 [x0, x1, x2] h).bind fun p0 =>
 (binP .neq p0.1 (.int .i64 0 : PV)).bind fun v1 =>
 KL (fun w3 h4 =>
 forkP (.ref h4.length 0 0 0 1) (h4 ++ [.log [] 1 3 .rw]) fun v5 h6 =>
 (binP .quo x1 (.int .i64 8 : PV)).bind fun v7 =>
 KL (fun w9 h10 =>
 (fz (.flat 1) (nthP w9 0) h10).bind fun q11 =>
 (Γ 41 [q11.1, x1] q11.2).bind fun p12 =>
 (Γ 40 [p12.1, x2] p12.2).bind fun p13 =>
 (extractP p13.1 0).bind fun v14 =>
 (extractP p13.1 1).bind fun v15 =>
 finP [(.flat 1), .keep, .keep] h p13.2 [v14, v15, (.int .i64 0 : PV)]) fun j8 =>
 loopP (s16_L0 Γ n x0 x1 x2 h6 v7 j8) n [v5, (.int .i64 0 : PV), undefP, undefP, undefP, undefP] h6) fun j2 =>
 ifP v1 (
 finP [(.flat 1), .keep, .keep] h p0.2 [(.nilS : PV), (.int .i64 0 : PV), p0.1]) (
 j2 [] p0.2)

theorem s16_eq (Γ : PCallee) (n : Nat) (x0 : PV) (x1 : PV) (x2 : PV) (h : PHeap) : pfunK Γ n A16 [x0, x1, x2] h = s16 Γ n x0 x1 x2 h := by kernel_rfl


/-- orchestrion/orchestrionref03.Undelta -/
def A17 : PFun := ⟨3, 74,
 (.seq (.region false (.op (some 6) (.a (.move (.const (.slice none 0 0)))) false
  (.op (some 7) (.a (.move (.const (.int .i64 0)))) false
  (.op (some 8) (.a (.move (.const (.int .i64 0)))) false
  .nil))))
  (.seq (.seq (.region false (.op (some 14) (.a (.move (.tmp 1))) false
  (.op (some 15) (.a (.call 32 [(.tmp 14)])) false
  (.op (some 16) (.a (.un .not (.tmp 15))) false
  .nil))))
  (.cond (.tmp 16) [] [6, 7, 8]
  (.seq (.region false (.op (some 6) (.a (.move (.const (.slice none 0 0)))) false
  (.op (some 7) (.a (.move (.const (.int .i64 0)))) false
  (.op (some 8) (.a (.move (.const (.int .i64 1)))) false
  .nil))))
  .ret)
  .skip))
  (.seq (.seq (.region false (.op (some 17) (.a (.move (.tmp 0))) false
  (.op (some 18) (.a (.move (.tmp 2))) false
  (.op (some 19) (.a (.call 42 [(.tmp 17), (.tmp 18)])) false
  (.op (some 9) (.a (.move (.tmp 19))) false
  .nil)))))
  (.seq (.region false (.op (some 20) (.a (.move (.tmp 9))) false
  (.op (some 21) (.a (.bin .neq (.tmp 20) (.const (.int .i64 0)))) false
  .nil)))
  (.cond (.tmp 21) [] [6, 7, 8, 22]
  (.seq (.region false (.op (some 22) (.a (.move (.tmp 9))) false
  (.op (some 6) (.a (.move (.const (.slice none 0 0)))) false
  (.op (some 7) (.a (.move (.const (.int .i64 0)))) false
  (.op (some 8) (.a (.move (.tmp 22))) false
  .nil)))))
  .ret)
  .skip)))
  (.seq (.region false (.op (some 23) (.a (.move (.tmp 1))) false
  (.op (some 24) (.a (.bin .quo (.tmp 23) (.const (.int .i64 8)))) false
  (.op (some 10) (.a (.move (.tmp 24))) false
  .nil))))
  (.seq (.region false (.op (some 11) (.growNil 3 1) false
  .nil))
  (.seq (.seq (.region false (.op (some 12) (.a (.move (.const (.int .i64 0)))) false
  .nil))
  (.block 0 [11] [12, 13, 25, 26, 27, 28, 29, 30, 31, 32, 33, 34, 35, 36, 37, 38, 39, 40, 41, 42, 43, 44, 45, 46, 47, 48, 49, 50, 51, 52, 53, 54, 55, 56, 57, 58, 59, 60, 61, 62, 63, 64]
  (.loop [11, 12, 29, 30, 31, 32, 33, 34, 35] [13, 25, 26, 27, 28, 36, 37, 38, 39, 40, 41, 42, 43, 44, 45, 46, 47, 48, 49, 50, 51, 52, 53, 54, 55, 56, 57, 58, 59, 60, 61, 62, 63, 64]
  (.seq (.seq (.region false (.op (some 25) (.a (.move (.tmp 12))) false
  (.op (some 26) (.a (.move (.tmp 2))) false
  (.op (some 27) (.a (.bin .lss (.tmp 25) (.tmp 26))) false
  (.op (some 28) (.a (.move (.tmp 27))) false
  (.sc 36 28 true [29, 30, 31, 32, 33, 34, 35]
  (.op (some 29) (.a (.move (.tmp 12))) false
  (.op (some 30) (.a (.bin .add (.tmp 29) (.const (.int .i64 1)))) false
  (.op (some 31) (.a (.move (.tmp 10))) false
  (.op (some 32) (.a (.bin .mul (.tmp 30) (.tmp 31))) false
  (.op (some 33) (.a (.move (.tmp 0))) false
  (.op (some 34) (.a (.len false (.tmp 33))) false
  (.op (some 35) (.a (.bin .leq (.tmp 32) (.tmp 34))) false
  .nil))))))) (.tmp 35)
  .nil))))))
  (.cond (.tmp 36) [] []
  .skip
  (.exit 0)))
  (.seq (.block 1 [11] [13, 39, 40, 41, 42, 43, 44, 45, 46, 47, 48, 49, 50, 51, 52, 53, 54, 55, 56, 57, 58, 59, 60, 61, 62, 63, 64]
  (.seq (.region false (.op (some 39) (.a (.move (.tmp 0))) false
  (.op (some 40) (.a (.move (.tmp 12))) false
  (.op (some 41) (.a (.move (.tmp 10))) false
  (.op (some 42) (.a (.bin .mul (.tmp 40) (.tmp 41))) false
  (.op (some 43) (.a (.indexAddr 1 (.tmp 39) (.tmp 42))) false
  (.op (some 44) (.a (.load false 1 (.tmp 43))) false
  (.op (some 45) (.a (.conv .i64 (.tmp 44))) false
  (.op (some 13) (.a (.move (.tmp 45))) false
  .nil)))))))))
  (.seq (.seq (.region false (.op (some 46) (.a (.move (.tmp 10))) false
  (.op (some 47) (.a (.bin .eql (.tmp 46) (.const (.int .i64 2)))) false
  .nil)))
  (.cond (.tmp 47) [13] [48, 49, 50, 51, 52, 53, 54, 55, 56, 57, 58]
  (.region false (.op (some 48) (.a (.move (.tmp 13))) false
  (.op (some 49) (.a (.move (.tmp 0))) false
  (.op (some 50) (.a (.move (.tmp 12))) false
  (.op (some 51) (.a (.move (.tmp 10))) false
  (.op (some 52) (.a (.bin .mul (.tmp 50) (.tmp 51))) false
  (.op (some 53) (.a (.bin .add (.tmp 52) (.const (.int .i64 1)))) false
  (.op (some 54) (.a (.indexAddr 1 (.tmp 49) (.tmp 53))) false
  (.op (some 55) (.a (.load false 1 (.tmp 54))) false
  (.op (some 56) (.a (.conv .i64 (.tmp 55))) false
  (.op (some 57) (.a (.bin .mul (.const (.int .i64 256)) (.tmp 56))) false
  (.op (some 58) (.a (.bin .add (.tmp 48) (.tmp 57))) false
  (.op (some 13) (.a (.move (.tmp 58))) false
  .nil)))))))))))))
  .skip))
  (.region false (.op (some 59) (.a (.move (.tmp 11))) false
  (.op (some 60) (.a (.move (.tmp 13))) false
  (.op (some 61) (.a (.move (.tmp 1))) false
  (.op (some 62) (.a (.call 43 [(.tmp 60), (.tmp 61)])) false
  (.op (some 63) (.buildF 3 [(.int .i64 0)] 1 [(0, 1, (.tmp 62))]) false
  (.op (some 64) (.a (.append 3 1 (.tmp 59) (.tmp 63))) false
  (.op (some 11) (.a (.move (.tmp 64))) false
  .nil)))))))))))
  (.region false (.op (some 37) (.a (.move (.tmp 12))) false
  (.op (some 38) (.a (.bin .add (.tmp 37) (.const (.int .i64 1)))) false
  (.op (some 12) (.a (.move (.tmp 38))) false
  .nil)))))))))
  (.seq (.region false (.op (some 65) (.a (.move (.tmp 11))) false
  (.op (some 66) (.a (.move (.tmp 1))) false
  (.fz 65 (.flat 1)
  (.op (some 67) (.a (.call 45 [(.tmp 65), (.tmp 66)])) false
  (.op (some 68) (.a (.move (.tmp 2))) false
  (.op (some 69) (.a (.call 44 [(.tmp 67), (.tmp 68)])) false
  (.op (some 70) (.a (.move (.tmp 2))) false
  (.op (some 71) (.a (.move (.tmp 11))) false
  (.op (some 72) (.a (.len false (.tmp 71))) false
  (.op (some 73) (.a (.bin .sub (.tmp 70) (.tmp 72))) false
  (.op (some 6) (.a (.move (.tmp 69))) false
  (.op (some 7) (.a (.move (.tmp 73))) false
  (.op (some 8) (.a (.move (.const (.int .i64 0)))) false
  .nil))))))))))))))
  .ret))))))),
 [.tmp 6, .tmp 7, .tmp 8], [(.flat 1), .keep, .keep]⟩
theorem ok17 : ∃ fn c, FunOk Try.prog 17 fn c A17.erase := ⟨Try.f17, _, ⟨Try.func17, rfl, by kernel_rfl, by kernel_rfl, by kernel_rfl, of_decide_eq_true (by kernel_rfl), by kernel_rfl⟩⟩
noncomputable def s17_L0 (Γ : PCallee) (n : Nat) (x0 : PV) (x1 : PV) (x2 : PV) (v10 : PV) (h12 : PHeap) (j13 : List PV → PHeap → Pt) : (List PV → PHeap → Pt) → List PV → PHeap → Pt := fun c21 w22 h23 =>
 (binP .lss (nthP w22 1) x2).bind fun v24 =>
 K1 (fun v26 h27 =>
 KL (fun w29 h30 =>
 KL (fun w32 h33 =>
 (binP .add (nthP w22 1) (.int .i64 1 : PV)).bind fun v34 =>
 c21 [(nthP w32 0), v34, PV.junk, PV.junk, PV.junk, PV.junk, PV.junk, PV.junk, PV.junk] (trim h12 [(nthP w32 0), v34, PV.junk, PV.junk, PV.junk, PV.junk, PV.junk, PV.junk, PV.junk] h33)) fun j31 =>
 (binP .mul (nthP w22 1) v10).bind fun v35 =>
 (indexAddrP 1 x0 v35).bind fun v36 =>
 (loadP false 1 v36 h30).bind fun v37 =>
 (convP .i64 v37).bind fun v38 =>
 (binP .eql v10 (.int .i64 2 : PV)).bind fun v39 =>
 KL (fun w41 h42 =>
 (Γ 43 [(nthP w41 0), x1] h42).bind fun p43 =>
 (fillP (repP [.int .i64 0] 1) [(0, 1, p43.1)]).bind fun l44 =>
 guardP (l44.all pure1) (
 forkP (.frz 1 (chunk 1 1 l44)) (p43.2) fun v45 h46 =>
 (appendP 3 1 (nthP w22 0) v45 h46).bind fun p47 =>
 j31 [p47.1] p47.2)) fun j40 =>
 ifP v39 (
 (binP .mul (nthP w22 1) v10).bind fun v48 =>
 (binP .add v48 (.int .i64 1 : PV)).bind fun v49 =>
 (indexAddrP 1 x0 v49).bind fun v50 =>
 (loadP false 1 v50 h30).bind fun v51 =>
 (convP .i64 v51).bind fun v52 =>
 (binP .mul (.int .i64 256 : PV) v52).bind fun v53 =>
 (binP .add v38 v53).bind fun v54 =>
 j40 [v54] h30) (
 j40 [v38] h30)) fun j28 =>
 ifP v26 (
 j28 [] h27) (
 j13 [(nthP w22 0)] h27)) fun j25 =>
 scP v24 true (
 (binP .add (nthP w22 1) (.int .i64 1 : PV)).bind fun v55 =>
 (binP .mul v55 v10).bind fun v56 =>
 (lenP false x0).bind fun v57 =>
 (binP .leq v56 v57).bind fun v58 =>
 j25 v58 h23)
 (j25 (.bool false) h23)
noncomputable def s17 (Γ : PCallee) (n : Nat) (x0 : PV) (x1 : PV) (x2 : PV) (h : PHeap) : Pt :=
 (Γ 32 [x1] h).bind fun p0 =>
 (unP .not p0.1).bind fun v1 =>
 KL (fun w3 h4 =>
 (Γ 42 [x0, x2] h4).bind fun p5 =>
 (binP .neq p5.1 (.int .i64 0 : PV)).bind fun v6 =>
 KL (fun w8 h9 =>
 (binP .quo x1 (.int .i64 8 : PV)).bind fun v10 =>
 forkP (.ref h9.length 0 0 0 1) (h9 ++ [.log [] 1 3 .rw]) fun v11 h12 =>
 KL (fun w14 h15 =>
 (fz (.flat 1) (nthP w14 0) h15).bind fun q16 =>
 (Γ 45 [q16.1, x1] q16.2).bind fun p17 =>
 (Γ 44 [p17.1, x2] p17.2).bind fun p18 =>
 (lenP false (nthP w14 0)).bind fun v19 =>
 (binP .sub x2 v19).bind fun v20 =>
 finP [(.flat 1), .keep, .keep] h p18.2 [p18.1, v20, (.int .i64 0 : PV)]) fun j13 =>
 loopP (s17_L0 Γ n x0 x1 x2 v10 h12 j13) n [v11, (.int .i64 0 : PV), undefP, undefP, undefP, undefP, undefP, undefP, undefP] h12) fun j7 =>
 ifP v6 (
 finP [(.flat 1), .keep, .keep] h p5.2 [(.nilS : PV), (.int .i64 0 : PV), p5.1]) (
 j7 [] p5.2)) fun j2 =>
 ifP v1 (
 finP [(.flat 1), .keep, .keep] h p0.2 [(.nilS : PV), (.int .i64 0 : PV), (.int .i64 1 : PV)]) (
 j2 [] p0.2)

theorem s17_eq (Γ : PCallee) (n : Nat) (x0 : PV) (x1 : PV) (x2 : PV) (h : PHeap) : pfunK Γ n A17 [x0, x1, x2] h = s17 Γ n x0 x1 x2 h := by kernel_rfl


/-- orchestrion/pack.Unblocks -/
def A18 : PFun := ⟨4, 118,
 (.seq (.region false (.op (some 8) (.a (.move (.const (.slice none 0 0)))) false
  (.op (some 9) (.a (.move (.const (.int .i64 0)))) false
  (.op (some 10) (.a (.move (.const (.int .i64 0)))) false
  (.op (some 11) (.a (.move (.const (.int .i64 0)))) false
  .nil)))))
  (.seq (.region false (.op (some 21) (.a (.call 28 [])) false
  (.op (some 22) (.a (.move (.tmp 2))) false
  (.op (some 23) (.a (.lookup .int (.agg #[.nilFunc, .nilFunc]) true (.tmp 21) (.tmp 22))) false
  (.op (some 20) (.a (.move (.tmp 23))) false
  (.op (some 24) (.a (.extract (.tmp 20) 0)) false
  (.op (some 25) (.a (.extract (.tmp 20) 1)) false
  (.op (some 12) (.a (.new 45 [.nilFunc, .nilFunc])) false
  (.op none (.a (.store 2 (.tmp 12) (.tmp 24))) false
  (.op (some 13) (.a (.move (.tmp 25))) false
  .nil))))))))))
  (.seq (.seq (.region false (.op (some 26) (.a (.move (.tmp 13))) false
  (.op (some 27) (.a (.un .not (.tmp 26))) false
  .nil)))
  (.cond (.tmp 27) [9] [8, 10, 11]
  (.seq (.region false (.op (some 8) (.a (.move (.const (.slice none 0 0)))) false
  (.op (some 9) (.a (.move (.const (.int .i64 0)))) false
  (.op (some 10) (.a (.move (.const (.int .i64 0)))) false
  (.op (some 11) (.a (.move (.const (.int .i64 1)))) false
  .nil)))))
  .ret)
  .skip))
  (.seq (.seq (.region false (.op (some 28) (.a (.move (.tmp 0))) false
  (.op (some 29) (.a (.move (.tmp 1))) false
  (.op (some 30) (.a (.move (.tmp 3))) false
  (.op (some 31) (.a (.call 39 [(.tmp 28), (.tmp 29), (.tmp 30)])) false
  (.op (some 14) (.a (.move (.tmp 31))) false
  .nil))))))
  (.seq (.region false (.op (some 32) (.a (.move (.tmp 14))) false
  (.op (some 33) (.a (.bin .neq (.tmp 32) (.const (.int .i64 0)))) false
  .nil)))
  (.cond (.tmp 33) [9] [8, 10, 11, 34]
  (.seq (.region false (.op (some 34) (.a (.move (.tmp 14))) false
  (.op (some 8) (.a (.move (.const (.slice none 0 0)))) false
  (.op (some 9) (.a (.move (.const (.int .i64 0)))) false
  (.op (some 10) (.a (.move (.const (.int .i64 0)))) false
  (.op (some 11) (.a (.move (.tmp 34))) false
  .nil))))))
  .ret)
  .skip)))
  (.seq (.region false (.op (some 15) (.growNil 3 1) false
  .nil))
  (.seq (.block 0 [9, 15] [8, 10, 11, 16, 17, 18, 19, 35, 36, 37, 38, 39, 40, 41, 42, 43, 44, 45, 46, 47, 48, 49, 50, 51, 52, 53, 54, 55, 56, 57, 58, 59, 60, 61, 62, 63, 64, 65, 66, 67, 68, 69, 70, 71, 72, 73, 74, 75, 76, 77, 78, 79, 80, 81, 82, 83, 84, 85, 86, 87, 88, 89, 90, 91, 92, 93, 94, 95, 96, 97, 98, 99, 100, 101, 102, 103, 104]
  (.loop [9, 15, 40, 41, 42, 43, 55, 56, 57, 72, 73, 74, 75] [8, 10, 11, 16, 17, 18, 19, 35, 36, 37, 38, 39, 44, 45, 46, 47, 48, 49, 50, 51, 52, 53, 54, 58, 59, 60, 61, 62, 63, 64, 65, 66, 67, 68, 69, 70, 71, 76, 77, 78, 79, 80, 81, 82, 83, 84, 85, 86, 87, 88, 89, 90, 91, 92, 93, 94, 95, 96, 97, 98, 99, 100, 101, 102, 103, 104]
  (.seq (.seq (.region false (.op (some 35) (.a (.move (.tmp 15))) false
  (.op (some 36) (.a (.len false (.tmp 35))) false
  (.op (some 37) (.a (.move (.tmp 3))) false
  (.op (some 38) (.a (.bin .lss (.tmp 36) (.tmp 37))) false
  (.op (some 39) (.a (.move (.tmp 38))) false
  (.sc 44 39 true [40, 41, 42, 43]
  (.op (some 40) (.a (.move (.tmp 9))) false
  (.op (some 41) (.a (.move (.tmp 0))) false
  (.op (some 42) (.a (.len false (.tmp 41))) false
  (.op (some 43) (.a (.bin .lss (.tmp 40) (.tmp 42))) false
  .nil)))) (.tmp 43)
  .nil)))))))
  (.cond (.tmp 44) [] []
  .skip
  (.exit 0)))
  (.block 1 [9, 15, 55, 56, 57, 72, 73, 74, 75] [8, 10, 11, 16, 17, 18, 19, 45, 46, 47, 48, 49, 50, 51, 52, 53, 54, 58, 59, 60, 61, 62, 63, 64, 65, 66, 67, 68, 69, 70, 71, 76, 77, 78, 79, 80, 81, 82, 83, 84, 85, 86, 87, 88, 89, 90, 91, 92, 93, 94, 95, 96, 97, 98, 99, 100, 101, 102, 103, 104]
  (.seq (.region false (.op (some 45) (.a (.move (.tmp 0))) false
  (.op (some 46) (.a (.move (.tmp 9))) false
  (.op (some 47) (.a (.indexAddr 1 (.tmp 45) (.tmp 46))) false
  (.op (some 48) (.a (.load false 1 (.tmp 47))) false
  (.op (some 49) (.a (.conv .i64 (.tmp 48))) false
  (.op (some 16) (.a (.move (.tmp 49))) false
  .nil)))))))
  (.seq (.region false (.op (some 50) (.a (.move (.tmp 9))) false
  (.op (some 51) (.a (.bin .add (.tmp 50) (.const (.int .i64 1)))) false
  (.op (some 9) (.a (.move (.tmp 51))) false
  .nil))))
  (.seq (.seq (.region false (.op (some 52) (.a (.move (.tmp 16))) false
  (.op (some 53) (.a (.bin .lss (.tmp 52) (.const (.int .i64 1)))) false
  (.op (some 54) (.a (.move (.tmp 53))) false
  (.sc 58 54 false [55, 56, 57]
  (.op (some 55) (.a (.move (.tmp 16))) false
  (.op (some 56) (.a (.move (.tmp 1))) false
  (.op (some 57) (.a (.bin .gtr (.tmp 55) (.tmp 56))) false
  .nil))) (.tmp 57)
  .nil)))))
  (.cond (.tmp 58) [9] [8, 10, 11]
  (.seq (.region false (.op (some 8) (.a (.move (.const (.slice none 0 0)))) false
  (.op (some 9) (.a (.move (.const (.int .i64 0)))) false
  (.op (some 10) (.a (.move (.const (.int .i64 0)))) false
  (.op (some 11) (.a (.move (.const (.int .i64 9)))) false
  .nil)))))
  .ret)
  .skip))
  (.seq (.region false (.op (some 17) (.a (.move (.const (.int .i64 0)))) false
  (.op (some 18) (.a (.move (.const (.int .i64 0)))) false
  .nil)))
  (.seq (.region false (.op (some 59) (.a (.move (.tmp 3))) false
  (.op (some 60) (.a (.move (.tmp 15))) false
  (.op (some 61) (.a (.len false (.tmp 60))) false
  (.op (some 62) (.a (.bin .sub (.tmp 59) (.tmp 61))) false
  (.op (some 63) (.a (.min [(.const (.int .i64 256)), (.tmp 62)])) false
  (.op (some 19) (.a (.move (.tmp 63))) false
  .nil)))))))
  (.block 2 [9, 15, 72, 73, 74, 75] [17, 18, 19, 64, 65, 66, 67, 68, 69, 70, 71, 76, 77, 78, 79, 80, 81, 82, 83, 84, 85, 86, 87, 88, 89, 90, 91, 92, 93, 94, 95, 96, 97, 98, 99, 100, 101, 102, 103, 104]
  (.loop [9, 15, 17, 18, 19, 72, 73, 74, 75] [64, 65, 66, 67, 68, 69, 70, 71, 76, 77, 78, 79, 80, 81, 82, 83, 84, 85, 86, 87, 88, 89, 90, 91, 92, 93, 94, 95, 96, 97, 98, 99, 100, 101, 102, 103, 104]
  (.seq (.seq (.region false (.op (some 64) (.a (.move (.tmp 19))) false
  (.op (some 65) (.a (.bin .gtr (.tmp 64) (.const (.int .i64 0)))) false
  .nil)))
  (.cond (.tmp 65) [] []
  .skip
  (.exit 2)))
  (.seq (.block 3 [9, 15, 17, 18, 72, 73, 74, 75] [68, 69, 70, 71, 76, 77, 78, 79, 80, 81, 82, 83, 84, 85, 86, 87, 88, 89, 90, 91, 92, 93, 94, 95, 96, 97, 98, 99, 100, 101, 102, 103, 104]
  (.seq (.block 4 [9, 17, 18, 72, 73, 74, 75] [68, 69, 70, 71, 76, 77, 78, 79, 80, 81, 82, 83, 84, 85, 86, 87, 88, 89]
  (.loop [9, 17, 18, 72, 73, 74, 75] [68, 69, 70, 71, 76, 77, 78, 79, 80, 81, 82, 83, 84, 85, 86, 87, 88, 89]
  (.seq (.seq (.region false (.op (some 68) (.a (.move (.tmp 18))) false
  (.op (some 69) (.a (.move (.tmp 16))) false
  (.op (some 70) (.a (.bin .lss (.tmp 68) (.tmp 69))) false
  (.op (some 71) (.a (.move (.tmp 70))) false
  (.sc 76 71 true [72, 73, 74, 75]
  (.op (some 72) (.a (.move (.tmp 9))) false
  (.op (some 73) (.a (.move (.tmp 0))) false
  (.op (some 74) (.a (.len false (.tmp 73))) false
  (.op (some 75) (.a (.bin .lss (.tmp 72) (.tmp 74))) false
  .nil)))) (.tmp 75)
  .nil))))))
  (.cond (.tmp 76) [] []
  .skip
  (.exit 4)))
  (.block 5 [9, 17, 18] [77, 78, 79, 80, 81, 82, 83, 84, 85, 86, 87, 88, 89]
  (.seq (.region false (.op (some 77) (.a (.move (.tmp 17))) false
  (.op (some 78) (.a (.move (.tmp 0))) false
  (.op (some 79) (.a (.move (.tmp 9))) false
  (.op (some 80) (.a (.indexAddr 1 (.tmp 78) (.tmp 79))) false
  (.op (some 81) (.a (.load false 1 (.tmp 80))) false
  (.op (some 82) (.a (.conv .i64 (.tmp 81))) false
  (.op (some 83) (.a (.move (.tmp 18))) false
  (.op (some 84) (.a (.bin .shl (.tmp 82) (.tmp 83))) false
  (.op (some 85) (.a (.bin .or (.tmp 77) (.tmp 84))) false
  (.op (some 17) (.a (.move (.tmp 85))) false
  .nil)))))))))))
  (.seq (.region false (.op (some 86) (.a (.move (.tmp 18))) false
  (.op (some 87) (.a (.bin .add (.tmp 86) (.const (.int .i64 8)))) false
  (.op (some 18) (.a (.move (.tmp 87))) false
  .nil))))
  (.region false (.op (some 88) (.a (.move (.tmp 9))) false
  (.op (some 89) (.a (.bin .add (.tmp 88) (.const (.int .i64 1)))) false
  (.op (some 9) (.a (.move (.tmp 89))) false
  .nil))))))))))
  (.seq (.seq (.region false (.op (some 90) (.a (.move (.tmp 18))) false
  (.op (some 91) (.a (.move (.tmp 16))) false
  (.op (some 92) (.a (.bin .lss (.tmp 90) (.tmp 91))) false
  .nil))))
  (.cond (.tmp 92) [] []
  (.exit 2)
  .skip))
  (.seq (.region false (.op (some 93) (.a (.move (.tmp 15))) false
  (.op (some 94) (.a (.move (.tmp 17))) false
  (.op (some 95) (.a (.move (.tmp 16))) false
  (.op (some 96) (.a (.call 38 [(.tmp 94), (.tmp 95)])) false
  (.op (some 97) (.buildF 3 [(.int .i64 0)] 1 [(0, 1, (.tmp 96))]) false
  (.op (some 98) (.a (.append 3 1 (.tmp 93) (.tmp 97))) false
  (.op (some 15) (.a (.move (.tmp 98))) false
  .nil))))))))
  (.seq (.region false (.op (some 99) (.a (.move (.tmp 17))) false
  (.op (some 100) (.a (.move (.tmp 16))) false
  (.op (some 101) (.a (.bin .shr (.tmp 99) (.tmp 100))) false
  (.op (some 17) (.a (.move (.tmp 101))) false
  .nil)))))
  (.region false (.op (some 102) (.a (.move (.tmp 18))) false
  (.op (some 103) (.a (.move (.tmp 16))) false
  (.op (some 104) (.a (.bin .sub (.tmp 102) (.tmp 103))) false
  (.op (some 18) (.a (.move (.tmp 104))) false
  .nil))))))))))
  (.region false (.op (some 66) (.a (.move (.tmp 19))) false
  (.op (some 67) (.a (.bin .sub (.tmp 66) (.const (.int .i64 1)))) false
  (.op (some 19) (.a (.move (.tmp 67))) false
  .nil)))))))))))))))))
  (.seq (.region false (.op (some 106) (.a (.indexAddrArr 2 1 (.tmp 12) (.const (.int .i64 1)))) false
  (.op (some 107) (.a (.load false 1 (.tmp 106))) false
  (.op (some 108) (.a (.move (.tmp 15))) false
  (.op (some 109) (.a (.move (.tmp 1))) false
  (.fz 108 (.flat 1)
  (.op (some 110) (.a (.callV (.tmp 107) [(.tmp 108), (.tmp 109)])) false
  (.op (some 111) (.a (.move (.tmp 3))) false
  (.op (some 112) (.a (.call 40 [(.tmp 110), (.tmp 111)])) false
  (.op (some 105) (.a (.move (.tmp 112))) false
  (.op (some 113) (.a (.extract (.tmp 105) 0)) false
  (.op (some 114) (.a (.extract (.tmp 105) 1)) false
  (.op (some 8) (.a (.move (.tmp 113))) false
  (.op (some 10) (.a (.move (.tmp 114))) false
  .nil))))))))))))))
  (.seq (.region false (.op (some 115) (.a (.move (.tmp 8))) false
  (.op (some 116) (.a (.move (.tmp 9))) false
  (.op (some 117) (.a (.move (.tmp 10))) false
  (.op (some 8) (.a (.move (.tmp 115))) false
  (.op (some 9) (.a (.move (.tmp 116))) false
  (.op (some 10) (.a (.move (.tmp 117))) false
  (.op (some 11) (.a (.move (.const (.int .i64 0)))) false
  .nil))))))))
  .ret)))))))),
 [.tmp 8, .tmp 9, .tmp 10, .tmp 11], [(.flat 1), .keep, .keep, .keep]⟩
theorem ok18 : ∃ fn c, FunOk Try.prog 18 fn c A18.erase := ⟨Try.f18, _, ⟨Try.func18, rfl, by kernel_rfl, by kernel_rfl, by kernel_rfl, of_decide_eq_true (by kernel_rfl), by kernel_rfl⟩⟩
noncomputable def s18_L0 (Γ : PCallee) (n : Nat) (x0 : PV) (v44 : PV) (h65 : PHeap) (j70 : List PV → PHeap → Pt) : (List PV → PHeap → Pt) → List PV → PHeap → Pt := fun c84 w85 h86 =>
 (binP .lss (nthP w85 2) v44).bind fun v87 =>
 K1 (fun v89 h90 =>
 KL (fun w92 h93 =>
 KL (fun w95 h96 =>
 c84 [(nthP w95 0), (nthP w95 1), (nthP w95 2), PV.junk, PV.junk, PV.junk, PV.junk] (trim h65 [(nthP w95 0), (nthP w95 1), (nthP w95 2), PV.junk, PV.junk, PV.junk, PV.junk] h96)) fun j94 =>
 (indexAddrP 1 x0 (nthP w85 0)).bind fun v97 =>
 (loadP false 1 v97 h93).bind fun v98 =>
 (convP .i64 v98).bind fun v99 =>
 (binP .shl v99 (nthP w85 2)).bind fun v100 =>
 (binP .or (nthP w85 1) v100).bind fun v101 =>
 (binP .add (nthP w85 2) (.int .i64 8 : PV)).bind fun v102 =>
 (binP .add (nthP w85 0) (.int .i64 1 : PV)).bind fun v103 =>
 j94 [v103, v101, v102] h93) fun j91 =>
 ifP v89 (
 j91 [] h90) (
 j70 [(nthP w85 0), (nthP w85 1), (nthP w85 2), PV.junk, PV.junk, PV.junk, PV.junk] h90)) fun j88 =>
 scP v87 true (
 (lenP false x0).bind fun v104 =>
 (binP .lss (nthP w85 0) v104).bind fun v105 =>
 j88 v105 h86)
 (j88 (.bool false) h86)
noncomputable def s18_L1 (Γ : PCallee) (n : Nat) (x0 : PV) (v44 : PV) (h52 : PHeap) (j56 : List PV → PHeap → Pt) : (List PV → PHeap → Pt) → List PV → PHeap → Pt := fun c59 w60 h61 =>
 (binP .gtr (nthP w60 4) (.int .i64 0 : PV)).bind fun v62 =>
 KL (fun w64 h65 =>
 KL (fun w67 h68 =>
 (binP .sub (nthP w60 4) (.int .i64 1 : PV)).bind fun v69 =>
 c59 [(nthP w67 0), (nthP w67 1), (nthP w67 2), (nthP w67 3), v69, (nthP w67 4), (nthP w67 5), (nthP w67 6), (nthP w67 7)] (trim h52 [(nthP w67 0), (nthP w67 1), (nthP w67 2), (nthP w67 3), v69, (nthP w67 4), (nthP w67 5), (nthP w67 6), (nthP w67 7)] h68)) fun j66 =>
 KL (fun w71 h72 =>
 (binP .lss (nthP w71 2) v44).bind fun v73 =>
 KL (fun w75 h76 =>
 (Γ 38 [(nthP w71 1), v44] h76).bind fun p77 =>
 (fillP (repP [.int .i64 0] 1) [(0, 1, p77.1)]).bind fun l78 =>
 guardP (l78.all pure1) (
 forkP (.frz 1 (chunk 1 1 l78)) (p77.2) fun v79 h80 =>
 (appendP 3 1 (nthP w60 1) v79 h80).bind fun p81 =>
 (binP .shr (nthP w71 1) v44).bind fun v82 =>
 (binP .sub (nthP w71 2) v44).bind fun v83 =>
 j66 [(nthP w71 0), p81.1, v82, v83, (nthP w71 3), (nthP w71 4), (nthP w71 5), (nthP w71 6)] p81.2)) fun j74 =>
 ifP v73 (
 j56 [(nthP w71 0), (nthP w60 1), (nthP w71 3), (nthP w71 4), (nthP w71 5), (nthP w71 6)] h72) (
 j74 [] h72)) fun j70 =>
 loopP (s18_L0 Γ n x0 v44 h65 j70) n [(nthP w60 0), (nthP w60 2), (nthP w60 3), (nthP w60 5), (nthP w60 6), (nthP w60 7), (nthP w60 8)] h65) fun j63 =>
 ifP v62 (
 j63 [] h61) (
 j56 [(nthP w60 0), (nthP w60 1), (nthP w60 5), (nthP w60 6), (nthP w60 7), (nthP w60 8)] h61)
noncomputable def s18_L2 (Γ : PCallee) (n : Nat) (x0 : PV) (x1 : PV) (x3 : PV) (h : PHeap) (h17 : PHeap) (j18 : List PV → PHeap → Pt) : (List PV → PHeap → Pt) → List PV → PHeap → Pt := fun c28 w29 h30 =>
 (lenP false (nthP w29 1)).bind fun v31 =>
 (binP .lss v31 x3).bind fun v32 =>
 K1 (fun v34 h35 =>
 KL (fun w37 h38 =>
 KL (fun w40 h41 =>
 c28 [(nthP w40 0), (nthP w40 1), PV.junk, PV.junk, PV.junk, PV.junk, (nthP w40 2), (nthP w40 3), (nthP w40 4), (nthP w40 5), (nthP w40 6), (nthP w40 7), (nthP w40 8)] (trim h17 [(nthP w40 0), (nthP w40 1), PV.junk, PV.junk, PV.junk, PV.junk, (nthP w40 2), (nthP w40 3), (nthP w40 4), (nthP w40 5), (nthP w40 6), (nthP w40 7), (nthP w40 8)] h41)) fun j39 =>
 (indexAddrP 1 x0 (nthP w29 0)).bind fun v42 =>
 (loadP false 1 v42 h38).bind fun v43 =>
 (convP .i64 v43).bind fun v44 =>
 (binP .add (nthP w29 0) (.int .i64 1 : PV)).bind fun v45 =>
 (binP .lss v44 (.int .i64 1 : PV)).bind fun v46 =>
 K1 (fun v48 h49 =>
 KL (fun w51 h52 =>
 (lenP false (nthP w29 1)).bind fun v53 =>
 (binP .sub x3 v53).bind fun v54 =>
 (fold1P min2P [(.int .i64 256 : PV), v54]).bind fun v55 =>
 KL (fun w57 h58 =>
 j39 [(nthP w57 0), (nthP w57 1), PV.junk, PV.junk, PV.junk, (nthP w57 2), (nthP w57 3), (nthP w57 4), (nthP w57 5)] h58) fun j56 =>
 loopP (s18_L1 Γ n x0 v44 h52 j56) n [(nthP w51 0), (nthP w29 1), (.int .i64 0 : PV), (.int .i64 0 : PV), v55, (nthP w29 9), (nthP w29 10), (nthP w29 11), (nthP w29 12)] h52) fun j50 =>
 ifP v48 (
 finP [(.flat 1), .keep, .keep, .keep] h h49 [(.nilS : PV), (.int .i64 0 : PV), (.int .i64 0 : PV), (.int .i64 9 : PV)]) (
 j50 [v45] h49)) fun j47 =>
 scP v46 false (
 (binP .gtr v44 x1).bind fun v106 =>
 j47 v106 h38)
 (j47 (.bool true) h38)) fun j36 =>
 ifP v34 (
 j36 [] h35) (
 j18 [(nthP w29 0), (nthP w29 1)] h35)) fun j33 =>
 scP v32 true (
 (lenP false x0).bind fun v107 =>
 (binP .lss (nthP w29 0) v107).bind fun v108 =>
 j33 v108 h30)
 (j33 (.bool false) h30)
noncomputable def s18 (Γ : PCallee) (n : Nat) (x0 : PV) (x1 : PV) (x2 : PV) (x3 : PV) (h : PHeap) : Pt :=
 (Γ 28 [] h).bind fun p0 =>
 (lookupP .int (.agg [.nilF, .nilF]) true p0.1 x2 p0.2).bind fun v1 =>
 (extractP v1 0).bind fun v2 =>
 (extractP v1 1).bind fun v3 =>
 forkP (.ptr p0.2.length 0) (p0.2 ++ [.box [.nilF, .nilF] 45 .rw]) fun v4 h5 =>
 (storeP 2 v4 v2 h5).bind fun h6 =>
 (unP .not v3).bind fun v7 =>
 KL (fun w9 h10 =>
 (Γ 39 [x0, x1, x3] h10).bind fun p11 =>
 (binP .neq p11.1 (.int .i64 0 : PV)).bind fun v12 =>
 KL (fun w14 h15 =>
 forkP (.ref h15.length 0 0 0 1) (h15 ++ [.log [] 1 3 .rw]) fun v16 h17 =>
 KL (fun w19 h20 =>
 (indexAddrArrP 2 1 v4 (.int .i64 1 : PV)).bind fun v21 =>
 (loadP false 1 v21 h20).bind fun v22 =>
 (fz (.flat 1) (nthP w19 1) h20).bind fun q23 =>
 (callVP Γ v22 [q23.1, x1] q23.2).bind fun p24 =>
 (Γ 40 [p24.1, x3] p24.2).bind fun p25 =>
 (extractP p25.1 0).bind fun v26 =>
 (extractP p25.1 1).bind fun v27 =>
 finP [(.flat 1), .keep, .keep, .keep] h p25.2 [v26, (nthP w19 0), v27, (.int .i64 0 : PV)]) fun j18 =>
 loopP (s18_L2 Γ n x0 x1 x3 h h17 j18) n [(nthP w14 0), v16, undefP, undefP, undefP, undefP, undefP, undefP, undefP, undefP, undefP, undefP, undefP] h17) fun j13 =>
 ifP v12 (
 finP [(.flat 1), .keep, .keep, .keep] h p11.2 [(.nilS : PV), (.int .i64 0 : PV), (.int .i64 0 : PV), p11.1]) (
 j13 [(nthP w9 0)] p11.2)) fun j8 =>
 ifP v7 (
 finP [(.flat 1), .keep, .keep, .keep] h h6 [(.nilS : PV), (.int .i64 0 : PV), (.int .i64 0 : PV), (.int .i64 1 : PV)]) (
 j8 [(.int .i64 0 : PV)] h6)

theorem s18_eq (Γ : PCallee) (n : Nat) (x0 : PV) (x1 : PV) (x2 : PV) (x3 : PV) (h : PHeap) : pfunK Γ n A18 [x0, x1, x2, x3] h = s18 Γ n x0 x1 x2 x3 h := by kernel_rfl


/-- orchestrion/orchestrionref03.Unblocks -/
def A19 : PFun := ⟨4, 52,
 (.seq (.region false (.op (some 8) (.a (.move (.const (.slice none 0 0)))) false
  (.op (some 9) (.a (.move (.const (.int .i64 0)))) false
  (.op (some 10) (.a (.move (.const (.int .i64 0)))) false
  (.op (some 11) (.a (.move (.const (.int .i64 0)))) false
  .nil)))))
  (.seq (.seq (.region false (.op (some 15) (.a (.move (.tmp 1))) false
  (.op (some 16) (.a (.call 32 [(.tmp 15)])) false
  (.op (some 17) (.a (.un .not (.tmp 16))) false
  (.op (some 18) (.a (.move (.tmp 17))) false
  (.sc 22 18 false [19, 20, 21]
  (.op (some 19) (.a (.move (.tmp 2))) false
  (.op (some 20) (.a (.call 33 [(.tmp 19)])) false
  (.op (some 21) (.a (.un .not (.tmp 20))) false
  .nil))) (.tmp 21)
  .nil))))))
  (.cond (.tmp 22) [] [8, 9, 10, 11]
  (.seq (.region false (.op (some 8) (.a (.move (.const (.slice none 0 0)))) false
  (.op (some 9) (.a (.move (.const (.int .i64 0)))) false
  (.op (some 10) (.a (.move (.const (.int .i64 0)))) false
  (.op (some 11) (.a (.move (.const (.int .i64 1)))) false
  .nil)))))
  .ret)
  .skip))
  (.seq (.seq (.region false (.op (some 23) (.a (.move (.tmp 0))) false
  (.op (some 24) (.a (.move (.tmp 3))) false
  (.op (some 25) (.a (.call 42 [(.tmp 23), (.tmp 24)])) false
  (.op (some 12) (.a (.move (.tmp 25))) false
  .nil)))))
  (.seq (.region false (.op (some 26) (.a (.move (.tmp 12))) false
  (.op (some 27) (.a (.bin .neq (.tmp 26) (.const (.int .i64 0)))) false
  .nil)))
  (.cond (.tmp 27) [] [8, 9, 10, 11, 28]
  (.seq (.region false (.op (some 28) (.a (.move (.tmp 12))) false
  (.op (some 8) (.a (.move (.const (.slice none 0 0)))) false
  (.op (some 9) (.a (.move (.const (.int .i64 0)))) false
  (.op (some 10) (.a (.move (.const (.int .i64 0)))) false
  (.op (some 11) (.a (.move (.tmp 28))) false
  .nil))))))
  .ret)
  .skip)))
  (.seq (.region false (.op (some 30) (.a (.move (.tmp 0))) false
  (.op (some 31) (.a (.move (.tmp 1))) false
  (.op (some 32) (.a (.move (.tmp 2))) false
  (.op (some 33) (.a (.move (.tmp 3))) false
  (.op (some 34) (.a (.call 46 [(.tmp 30), (.tmp 31), (.tmp 32), (.tmp 33)])) false
  (.op (some 29) (.a (.move (.tmp 34))) false
  (.op (some 35) (.a (.extract (.tmp 29) 0)) false
  (.op (some 36) (.a (.extract (.tmp 29) 1)) false
  (.op (some 37) (.a (.extract (.tmp 29) 2)) false
  (.op (some 13) (.a (.move (.tmp 35))) false
  (.op (some 9) (.a (.move (.tmp 36))) false
  (.op (some 14) (.a (.move (.tmp 37))) false
  .nil)))))))))))))
  (.seq (.seq (.region false (.op (some 38) (.a (.move (.tmp 14))) false
  .nil))
  (.cond (.tmp 38) [9] [8, 10, 11]
  (.seq (.region false (.op (some 8) (.a (.move (.const (.slice none 0 0)))) false
  (.op (some 9) (.a (.move (.const (.int .i64 0)))) false
  (.op (some 10) (.a (.move (.const (.int .i64 0)))) false
  (.op (some 11) (.a (.move (.const (.int .i64 9)))) false
  .nil)))))
  .ret)
  .skip))
  (.seq (.region false (.op (some 39) (.a (.move (.tmp 3))) false
  (.op (some 40) (.a (.move (.tmp 13))) false
  (.op (some 41) (.a (.len false (.tmp 40))) false
  (.op (some 42) (.a (.bin .sub (.tmp 39) (.tmp 41))) false
  (.op (some 10) (.a (.move (.tmp 42))) false
  .nil))))))
  (.seq (.seq (.region false (.op (some 43) (.a (.move (.tmp 10))) false
  (.op (some 44) (.a (.bin .gtr (.tmp 43) (.const (.int .i64 0)))) false
  .nil)))
  (.cond (.tmp 44) [9] [45, 46]
  (.region false (.op (some 45) (.a (.move (.tmp 0))) false
  (.op (some 46) (.a (.len false (.tmp 45))) false
  (.op (some 9) (.a (.move (.tmp 46))) false
  .nil))))
  .skip))
  (.seq (.region false (.op (some 47) (.a (.move (.tmp 13))) false
  (.op (some 48) (.a (.move (.tmp 3))) false
  (.op (some 49) (.a (.call 44 [(.tmp 47), (.tmp 48)])) false
  (.op (some 50) (.a (.move (.tmp 9))) false
  (.op (some 51) (.a (.move (.tmp 10))) false
  (.op (some 8) (.a (.move (.tmp 49))) false
  (.op (some 9) (.a (.move (.tmp 50))) false
  (.op (some 10) (.a (.move (.tmp 51))) false
  (.op (some 11) (.a (.move (.const (.int .i64 0)))) false
  .nil))))))))))
  .ret)))))))),
 [.tmp 8, .tmp 9, .tmp 10, .tmp 11], [(.flat 1), .keep, .keep, .keep]⟩
theorem ok19 : ∃ fn c, FunOk Try.prog 19 fn c A19.erase := ⟨Try.f19, _, ⟨Try.func19, rfl, by kernel_rfl, by kernel_rfl, by kernel_rfl, of_decide_eq_true (by kernel_rfl), by kernel_rfl⟩⟩
noncomputable def s19 (Γ : PCallee) (n : Nat) (x0 : PV) (x1 : PV) (x2 : PV) (x3 : PV) (h : PHeap) : Pt :=
 (Γ 32 [x1] h).bind fun p0 =>
 (unP .not p0.1).bind fun v1 =>
 K1 (fun v3 h4 =>
 KL (fun w6 h7 =>
 (Γ 42 [x0, x3] h7).bind fun p8 =>
 (binP .neq p8.1 (.int .i64 0 : PV)).bind fun v9 =>
 KL (fun w11 h12 =>
 (Γ 46 [x0, x1, x2, x3] h12).bind fun p13 =>
 (extractP p13.1 0).bind fun v14 =>
 (extractP p13.1 1).bind fun v15 =>
 (extractP p13.1 2).bind fun v16 =>
 KL (fun w18 h19 =>
 (lenP false v14).bind fun v20 =>
 (binP .sub x3 v20).bind fun v21 =>
 (binP .gtr v21 (.int .i64 0 : PV)).bind fun v22 =>
 KL (fun w24 h25 =>
 (Γ 44 [v14, x3] h25).bind fun p26 =>
 finP [(.flat 1), .keep, .keep, .keep] h p26.2 [p26.1, (nthP w24 0), v21, (.int .i64 0 : PV)]) fun j23 =>
 ifP v22 (
 (lenP false x0).bind fun v27 =>
 j23 [v27] h19) (
 j23 [(nthP w18 0)] h19)) fun j17 =>
 ifP v16 (
 finP [(.flat 1), .keep, .keep, .keep] h p13.2 [(.nilS : PV), (.int .i64 0 : PV), (.int .i64 0 : PV), (.int .i64 9 : PV)]) (
 j17 [v15] p13.2)) fun j10 =>
 ifP v9 (
 finP [(.flat 1), .keep, .keep, .keep] h p8.2 [(.nilS : PV), (.int .i64 0 : PV), (.int .i64 0 : PV), p8.1]) (
 j10 [] p8.2)) fun j5 =>
 ifP v3 (
 finP [(.flat 1), .keep, .keep, .keep] h h4 [(.nilS : PV), (.int .i64 0 : PV), (.int .i64 0 : PV), (.int .i64 1 : PV)]) (
 j5 [] h4)) fun j2 =>
 scP v1 false (
 (Γ 33 [x2] p0.2).bind fun p28 =>
 (unP .not p28.1).bind fun v29 =>
 j2 v29 p28.2)
 (j2 (.bool true) p0.2)

theorem s19_eq (Γ : PCallee) (n : Nat) (x0 : PV) (x1 : PV) (x2 : PV) (x3 : PV) (h : PHeap) : pfunK Γ n A19 [x0, x1, x2, x3] h = s19 Γ n x0 x1 x2 x3 h := by kernel_rfl


/-- orchestrion/pack.checkData -/
def A24 : PFun := ⟨2, 17,
 (.seq (.region false (.op (some 3) (.a (.box 3 (.tmp 1))) false
  (.op (some 4) (.a (.move (.const (.int .i64 0)))) false
  .nil)))
  (.seq (.seq (.region false (.op (some 5) (.a (.load false 1 (.tmp 3))) false
  (.op (some 6) (.a (.bin .neq (.tmp 5) (.const (.int .i64 8)))) false
  (.op (some 7) (.a (.move (.tmp 6))) false
  (.sc 10 7 true [8, 9]
  (.op (some 8) (.a (.load false 1 (.tmp 3))) false
  (.op (some 9) (.a (.bin .neq (.tmp 8) (.const (.int .i64 16)))) false
  .nil)) (.tmp 9)
  .nil)))))
  (.cond (.tmp 10) [] [4]
  (.seq (.region false (.op (some 4) (.a (.move (.const (.int .i64 1)))) false
  .nil))
  .ret)
  .skip))
  (.seq (.seq (.region false (.op (some 11) (.a (.move (.tmp 0))) false
  (.op (some 12) (.a (.mkFunc 53 [] [(.tmp 3)])) false
  (.op (some 13) (.a (.call 35 [(.tmp 11), (.tmp 12)])) false
  .nil))))
  (.cond (.tmp 13) [] [4]
  (.seq (.region false (.op (some 4) (.a (.move (.const (.int .i64 1)))) false
  .nil))
  .ret)
  .skip))
  (.seq (.seq (.region false (.op (some 14) (.a (.move (.tmp 0))) false
  (.op (some 15) (.a (.len false (.tmp 14))) false
  (.op (some 16) (.a (.bin .gtr (.tmp 15) (.const (.int .i64 4096)))) false
  .nil))))
  (.cond (.tmp 16) [] [4]
  (.seq (.region false (.op (some 4) (.a (.move (.const (.int .i64 3)))) false
  .nil))
  .ret)
  .skip))
  (.seq (.region false (.op (some 4) (.a (.move (.const (.int .i64 0)))) false
  .nil))
  .ret))))),
 [.tmp 4], [.keep]⟩
theorem ok24 : ∃ fn c, FunOk Try.prog 24 fn c A24.erase := ⟨Try.f24, _, ⟨Try.func24, rfl, by kernel_rfl, by kernel_rfl, by kernel_rfl, of_decide_eq_true (by kernel_rfl), by kernel_rfl⟩⟩
noncomputable def s24 (Γ : PCallee) (n : Nat) (x0 : PV) (x1 : PV) (h : PHeap) : Pt :=
 forkP (.ptr h.length 0) (h ++ [.box (cellsP x1) 3 .rw]) fun v0 h1 =>
 (loadP false 1 v0 h1).bind fun v2 =>
 (binP .neq v2 (.int .i64 8 : PV)).bind fun v3 =>
 K1 (fun v5 h6 =>
 KL (fun w8 h9 =>
 (Γ 35 [x0, (PV.func 53 [] [v0])] h9).bind fun p10 =>
 KL (fun w12 h13 =>
 (lenP false x0).bind fun v14 =>
 (binP .gtr v14 (.int .i64 4096 : PV)).bind fun v15 =>
 KL (fun w17 h18 =>
 finP [.keep] h h18 [(.int .i64 0 : PV)]) fun j16 =>
 ifP v15 (
 finP [.keep] h h13 [(.int .i64 3 : PV)]) (
 j16 [] h13)) fun j11 =>
 ifP p10.1 (
 finP [.keep] h p10.2 [(.int .i64 1 : PV)]) (
 j11 [] p10.2)) fun j7 =>
 ifP v5 (
 finP [.keep] h h6 [(.int .i64 1 : PV)]) (
 j7 [] h6)) fun j4 =>
 scP v3 true (
 (loadP false 1 v0 h1).bind fun v19 =>
 (binP .neq v19 (.int .i64 16 : PV)).bind fun v20 =>
 j4 v20 h1)
 (j4 (.bool false) h1)

theorem s24_eq (Γ : PCallee) (n : Nat) (x0 : PV) (x1 : PV) (h : PHeap) : pfunK Γ n A24 [x0, x1] h = s24 Γ n x0 x1 h := by kernel_rfl


/-- orchestrion/pack.differences -/
def A25 : PFun := ⟨2, 29,
 (.seq (.region false (.op (some 4) (.a (.move (.const (.slice none 0 0)))) false
  .nil))
  (.seq (.region false (.op (some 9) (.a (.move (.tmp 0))) false
  (.op (some 10) (.a (.len false (.tmp 9))) false
  (.op (some 11) (.a (.mkSlice 3 [(.int .i64 0)] (.const (.int .i64 0)) (.tmp 10))) false
  (.op (some 5) (.a (.move (.tmp 11))) false
  .nil)))))
  (.seq (.region false (.op (some 6) (.a (.move (.const (.int .i64 0)))) false
  .nil))
  (.seq (.seq (.region false (.op (some 12) (.a (.move (.tmp 0))) false
  (.op (some 13) (.a (.len false (.tmp 12))) false
  (.op (some 14) (.a (.move (.const (.int .i64 0)))) false
  .nil))))
  (.block 0 [5] [6, 8, 14, 15, 16, 17, 18, 19, 20, 21, 22, 23, 24, 25, 26, 27]
  (.loop [5, 6, 14] [8, 15, 16, 17, 18, 19, 20, 21, 22, 23, 24, 25, 26, 27]
  (.seq (.region false (.op (some 15) (.a (.bin .lss (.tmp 14) (.tmp 13))) false
  .nil))
  (.seq (.cond (.tmp 15) [] []
  .skip
  (.exit 0))
  (.seq (.block 1 [5, 6] [8, 16, 17, 18, 19, 20, 21, 22, 23, 24, 25, 26]
  (.seq (.region false (.op (some 16) (.a (.indexAddr 1 (.tmp 12) (.tmp 14))) false
  (.op (some 17) (.a (.load false 1 (.tmp 16))) false
  (.op (some 8) (.a (.move (.tmp 17))) false
  .nil))))
  (.seq (.region false (.op (some 18) (.a (.move (.tmp 5))) false
  (.op (some 19) (.a (.move (.tmp 8))) false
  (.op (some 20) (.a (.move (.tmp 6))) false
  (.op (some 21) (.a (.bin .sub (.tmp 19) (.tmp 20))) false
  (.op (some 22) (.a (.move (.tmp 1))) false
  (.op (some 23) (.a (.call 38 [(.tmp 21), (.tmp 22)])) false
  (.op (some 24) (.buildF 3 [(.int .i64 0)] 1 [(0, 1, (.tmp 23))]) false
  (.op (some 25) (.a (.append 3 1 (.tmp 18) (.tmp 24))) false
  (.op (some 5) (.a (.move (.tmp 25))) false
  .nil))))))))))
  (.region false (.op (some 26) (.a (.move (.tmp 8))) false
  (.op (some 6) (.a (.move (.tmp 26))) false
  .nil))))))
  (.region false (.op (some 27) (.a (.bin .add (.tmp 14) (.const (.int .i64 1)))) false
  (.op (some 14) (.a (.move (.tmp 27))) false
  .nil)))))))))
  (.seq (.region false (.op (some 28) (.a (.move (.tmp 5))) false
  (.op (some 4) (.a (.move (.tmp 28))) false
  .nil)))
  .ret))))),
 [.tmp 4], [(.flat 1)]⟩
theorem ok25 : ∃ fn c, FunOk Try.prog 25 fn c A25.erase := ⟨Try.f25, _, ⟨Try.func25, rfl, by kernel_rfl, by kernel_rfl, by kernel_rfl, of_decide_eq_true (by kernel_rfl), by kernel_rfl⟩⟩
noncomputable def s25_L0 (Γ : PCallee) (n : Nat) (x0 : PV) (x1 : PV) (p1 : PV × PHeap) (v2 : PV) (j3 : List PV → PHeap → Pt) : (List PV → PHeap → Pt) → List PV → PHeap → Pt := fun c6 w7 h8 =>
 (binP .lss (nthP w7 2) v2).bind fun v9 =>
 KL (fun w11 h12 =>
 KL (fun w14 h15 =>
 (binP .add (nthP w7 2) (.int .i64 1 : PV)).bind fun v16 =>
 c6 [(nthP w14 0), (nthP w14 1), v16] (trim p1.2 [(nthP w14 0), (nthP w14 1), v16] h15)) fun j13 =>
 (indexAddrP 1 x0 (nthP w7 2)).bind fun v17 =>
 (loadP false 1 v17 h12).bind fun v18 =>
 (binP .sub v18 (nthP w7 1)).bind fun v19 =>
 (Γ 38 [v19, x1] h12).bind fun p20 =>
 (fillP (repP [.int .i64 0] 1) [(0, 1, p20.1)]).bind fun l21 =>
 guardP (l21.all pure1) (
 forkP (.frz 1 (chunk 1 1 l21)) (p20.2) fun v22 h23 =>
 (appendP 3 1 (nthP w7 0) v22 h23).bind fun p24 =>
 j13 [p24.1, v18] p24.2)) fun j10 =>
 ifP v9 (
 j10 [] h8) (
 j3 [(nthP w7 0)] h8)
noncomputable def s25 (Γ : PCallee) (n : Nat) (x0 : PV) (x1 : PV) (h : PHeap) : Pt :=
 (lenP false x0).bind fun v0 =>
 (mkSliceP 3 [.int .i64 0] (.int .i64 0 : PV) v0 h).bind fun p1 =>
 (lenP false x0).bind fun v2 =>
 KL (fun w4 h5 =>
 finP [(.flat 1)] h h5 [(nthP w4 0)]) fun j3 =>
 loopP (s25_L0 Γ n x0 x1 p1 v2 j3) n [p1.1, (.int .i64 0 : PV), (.int .i64 0 : PV)] p1.2

theorem s25_eq (Γ : PCallee) (n : Nat) (x0 : PV) (x1 : PV) (h : PHeap) : pfunK Γ n A25 [x0, x1] h = s25 Γ n x0 x1 h := by kernel_rfl


/-- orchestrion/orchestrionref03.whole -/
def A26 : PFun := ⟨2, 25,
 (.seq (.region false (.op (some 4) (.a (.move (.const (.int .i64 0)))) false
  .nil))
  (.seq (.seq (.region false (.op (some 6) (.a (.move (.tmp 1))) false
  (.op (some 7) (.a (.call 32 [(.tmp 6)])) false
  (.op (some 8) (.a (.un .not (.tmp 7))) false
  .nil))))
  (.cond (.tmp 8) [] [4]
  (.seq (.region false (.op (some 4) (.a (.move (.const (.int .i64 1)))) false
  .nil))
  .ret)
  .skip))
  (.seq (.seq (.region false (.op (some 5) (.a (.move (.const (.int .i64 0)))) false
  .nil))
  (.block 0 [] [4, 5, 9, 10, 11, 12, 13, 14, 15, 16, 17, 18, 19, 20, 21]
  (.loop [5] [4, 9, 10, 11, 12, 13, 14, 15, 16, 17, 18, 19, 20, 21]
  (.seq (.seq (.region false (.op (some 9) (.a (.move (.tmp 5))) false
  (.op (some 10) (.a (.move (.tmp 0))) false
  (.op (some 11) (.a (.len false (.tmp 10))) false
  (.op (some 12) (.a (.bin .lss (.tmp 9) (.tmp 11))) false
  .nil)))))
  (.cond (.tmp 12) [] []
  .skip
  (.exit 0)))
  (.seq (.block 1 [] [4, 15, 16, 17, 18, 19, 20, 21]
  (.seq (.region false (.op (some 15) (.a (.move (.tmp 0))) false
  (.op (some 16) (.a (.move (.tmp 5))) false
  (.op (some 17) (.a (.indexAddr 1 (.tmp 15) (.tmp 16))) false
  (.op (some 18) (.a (.load false 1 (.tmp 17))) false
  (.op (some 19) (.a (.move (.tmp 1))) false
  (.op (some 20) (.a (.call 54 [(.tmp 18), (.tmp 19)])) false
  (.op (some 21) (.a (.un .not (.tmp 20))) false
  .nil))))))))
  (.cond (.tmp 21) [] [4]
  (.seq (.region false (.op (some 4) (.a (.move (.const (.int .i64 1)))) false
  .nil))
  .ret)
  .skip)))
  (.region false (.op (some 13) (.a (.move (.tmp 5))) false
  (.op (some 14) (.a (.bin .add (.tmp 13) (.const (.int .i64 1)))) false
  (.op (some 5) (.a (.move (.tmp 14))) false
  .nil)))))))))
  (.seq (.seq (.region false (.op (some 22) (.a (.move (.tmp 0))) false
  (.op (some 23) (.a (.len false (.tmp 22))) false
  (.op (some 24) (.a (.bin .gtr (.tmp 23) (.const (.int .i64 4096)))) false
  .nil))))
  (.cond (.tmp 24) [] [4]
  (.seq (.region false (.op (some 4) (.a (.move (.const (.int .i64 3)))) false
  .nil))
  .ret)
  .skip))
  (.seq (.region false (.op (some 4) (.a (.move (.const (.int .i64 0)))) false
  .nil))
  .ret))))),
 [.tmp 4], [.keep]⟩
theorem ok26 : ∃ fn c, FunOk Try.prog 26 fn c A26.erase := ⟨Try.f26, _, ⟨Try.func26, rfl, by kernel_rfl, by kernel_rfl, by kernel_rfl, of_decide_eq_true (by kernel_rfl), by kernel_rfl⟩⟩
noncomputable def s26_L0 (Γ : PCallee) (n : Nat) (x0 : PV) (x1 : PV) (h : PHeap) (h4 : PHeap) (j5 : List PV → PHeap → Pt) : (List PV → PHeap → Pt) → List PV → PHeap → Pt := fun c13 w14 h15 =>
 (lenP false x0).bind fun v16 =>
 (binP .lss (nthP w14 0) v16).bind fun v17 =>
 KL (fun w19 h20 =>
 KL (fun w22 h23 =>
 (binP .add (nthP w14 0) (.int .i64 1 : PV)).bind fun v24 =>
 c13 [v24] (trim h4 [v24] h23)) fun j21 =>
 (indexAddrP 1 x0 (nthP w14 0)).bind fun v25 =>
 (loadP false 1 v25 h20).bind fun v26 =>
 (Γ 54 [v26, x1] h20).bind fun p27 =>
 (unP .not p27.1).bind fun v28 =>
 KL (fun w30 h31 =>
 j21 [] h31) fun j29 =>
 ifP v28 (
 finP [.keep] h p27.2 [(.int .i64 1 : PV)]) (
 j29 [] p27.2)) fun j18 =>
 ifP v17 (
 j18 [] h15) (
 j5 [] h15)
noncomputable def s26 (Γ : PCallee) (n : Nat) (x0 : PV) (x1 : PV) (h : PHeap) : Pt :=
 (Γ 32 [x1] h).bind fun p0 =>
 (unP .not p0.1).bind fun v1 =>
 KL (fun w3 h4 =>
 KL (fun w6 h7 =>
 (lenP false x0).bind fun v8 =>
 (binP .gtr v8 (.int .i64 4096 : PV)).bind fun v9 =>
 KL (fun w11 h12 =>
 finP [.keep] h h12 [(.int .i64 0 : PV)]) fun j10 =>
 ifP v9 (
 finP [.keep] h h7 [(.int .i64 3 : PV)]) (
 j10 [] h7)) fun j5 =>
 loopP (s26_L0 Γ n x0 x1 h h4 j5) n [(.int .i64 0 : PV)] h4) fun j2 =>
 ifP v1 (
 finP [.keep] h p0.2 [(.int .i64 1 : PV)]) (
 j2 [] p0.2)

theorem s26_eq (Γ : PCallee) (n : Nat) (x0 : PV) (x1 : PV) (h : PHeap) : pfunK Γ n A26 [x0, x1] h = s26 Γ n x0 x1 h := by kernel_rfl


/-- orchestrion/orchestrionref03.differences -/
def A27 : PFun := ⟨2, 33,
 (.seq (.region false (.op (some 4) (.a (.move (.const (.slice none 0 0)))) false
  .nil))
  (.seq (.region false (.op (some 8) (.a (.move (.tmp 0))) false
  (.op (some 9) (.a (.len false (.tmp 8))) false
  (.op (some 10) (.a (.mkSlice 3 [(.int .i64 0)] (.tmp 9) (.tmp 9))) false
  (.op (some 5) (.a (.move (.tmp 10))) false
  .nil)))))
  (.seq (.region false (.op (some 6) (.a (.move (.const (.int .i64 0)))) false
  .nil))
  (.seq (.seq (.region false (.op (some 7) (.a (.move (.const (.int .i64 0)))) false
  .nil))
  (.block 0 [] [6, 7, 11, 12, 13, 14, 15, 16, 17, 18, 19, 20, 21, 22, 23, 24, 25, 26, 27, 28, 29, 30, 31]
  (.loop [6, 7] [11, 12, 13, 14, 15, 16, 17, 18, 19, 20, 21, 22, 23, 24, 25, 26, 27, 28, 29, 30, 31]
  (.seq (.seq (.region false (.op (some 11) (.a (.move (.tmp 7))) false
  (.op (some 12) (.a (.move (.tmp 0))) false
  (.op (some 13) (.a (.len false (.tmp 12))) false
  (.op (some 14) (.a (.bin .lss (.tmp 11) (.tmp 13))) false
  .nil)))))
  (.cond (.tmp 14) [] []
  .skip
  (.exit 0)))
  (.seq (.block 1 [6] [17, 18, 19, 20, 21, 22, 23, 24, 25, 26, 27, 28, 29, 30, 31]
  (.seq (.region false (.op (some 17) (.a (.move (.tmp 5))) false
  (.op (some 18) (.a (.move (.tmp 7))) false
  (.op (some 19) (.a (.move (.tmp 0))) false
  (.op (some 20) (.a (.move (.tmp 7))) false
  (.op (some 21) (.a (.indexAddr 1 (.tmp 19) (.tmp 20))) false
  (.op (some 22) (.a (.load false 1 (.tmp 21))) false
  (.op (some 23) (.a (.move (.tmp 6))) false
  (.op (some 24) (.a (.bin .sub (.tmp 22) (.tmp 23))) false
  (.op (some 25) (.a (.move (.tmp 1))) false
  (.op (some 26) (.a (.call 43 [(.tmp 24), (.tmp 25)])) false
  (.op (some 27) (.a (.indexAddr 1 (.tmp 17) (.tmp 18))) false
  (.op none (.a (.store 1 (.tmp 27) (.tmp 26))) false
  .nil)))))))))))))
  (.region false (.op (some 28) (.a (.move (.tmp 0))) false
  (.op (some 29) (.a (.move (.tmp 7))) false
  (.op (some 30) (.a (.indexAddr 1 (.tmp 28) (.tmp 29))) false
  (.op (some 31) (.a (.load false 1 (.tmp 30))) false
  (.op (some 6) (.a (.move (.tmp 31))) false
  .nil))))))))
  (.region false (.op (some 15) (.a (.move (.tmp 7))) false
  (.op (some 16) (.a (.bin .add (.tmp 15) (.const (.int .i64 1)))) false
  (.op (some 7) (.a (.move (.tmp 16))) false
  .nil)))))))))
  (.seq (.region false (.op (some 32) (.a (.move (.tmp 5))) false
  (.op (some 4) (.a (.move (.tmp 32))) false
  .nil)))
  .ret))))),
 [.tmp 4], [(.flat 1)]⟩
theorem ok27 : ∃ fn c, FunOk Try.prog 27 fn c A27.erase := ⟨Try.f27, _, ⟨Try.func27, rfl, by kernel_rfl, by kernel_rfl, by kernel_rfl, of_decide_eq_true (by kernel_rfl), by kernel_rfl⟩⟩
noncomputable def s27_L0 (Γ : PCallee) (n : Nat) (x0 : PV) (x1 : PV) (p1 : PV × PHeap) (j2 : List PV → PHeap → Pt) : (List PV → PHeap → Pt) → List PV → PHeap → Pt := fun c5 w6 h7 =>
 (lenP false x0).bind fun v8 =>
 (binP .lss (nthP w6 1) v8).bind fun v9 =>
 KL (fun w11 h12 =>
 KL (fun w14 h15 =>
 (binP .add (nthP w6 1) (.int .i64 1 : PV)).bind fun v16 =>
 c5 [(nthP w14 0), v16] (trim p1.2 [(nthP w14 0), v16] h15)) fun j13 =>
 (indexAddrP 1 x0 (nthP w6 1)).bind fun v17 =>
 (loadP false 1 v17 h12).bind fun v18 =>
 (binP .sub v18 (nthP w6 0)).bind fun v19 =>
 (Γ 43 [v19, x1] h12).bind fun p20 =>
 (indexAddrP 1 p1.1 (nthP w6 1)).bind fun v21 =>
 (storeP 1 v21 p20.1 p20.2).bind fun h22 =>
 (indexAddrP 1 x0 (nthP w6 1)).bind fun v23 =>
 (loadP false 1 v23 h22).bind fun v24 =>
 j13 [v24] h22) fun j10 =>
 ifP v9 (
 j10 [] h7) (
 j2 [] h7)
noncomputable def s27 (Γ : PCallee) (n : Nat) (x0 : PV) (x1 : PV) (h : PHeap) : Pt :=
 (lenP false x0).bind fun v0 =>
 (mkSliceP 3 [.int .i64 0] v0 v0 h).bind fun p1 =>
 KL (fun w3 h4 =>
 finP [(.flat 1)] h h4 [p1.1]) fun j2 =>
 loopP (s27_L0 Γ n x0 x1 p1 j2) n [(.int .i64 0 : PV), (.int .i64 0 : PV)] p1.2

theorem s27_eq (Γ : PCallee) (n : Nat) (x0 : PV) (x1 : PV) (h : PHeap) : pfunK Γ n A27 [x0, x1] h = s27 Γ n x0 x1 h := by kernel_rfl


/-- orchestrion/pack.coded -/
def A28 : PFun := ⟨0, 10,
 (.seq (.region false (.op (some 0) (.a (.move (.const (.map none)))) false
  .nil))
  (.seq (.region false (.op (some 1) (.a (.move (.func 55))) false
  .nil))
  (.seq (.region false (.op (some 2) (.a .mkMap) false
  (.op (some 3) (.a (.build [.nilFunc, .nilFunc] [(0, 1, (.func 25)), (1, 1, (.func 41))])) false
  (.op none (.a (.mapSet .int (.tmp 2) (.const (.int .i64 1)) (.tmp 3))) false
  (.op (some 4) (.a (.move (.tmp 1))) false
  (.op (some 5) (.a (.callV (.tmp 4) [(.func 25)])) false
  (.op (some 6) (.a (.move (.tmp 1))) false
  (.op (some 7) (.a (.callV (.tmp 6) [(.func 41)])) false
  (.op (some 8) (.a (.build [.nilFunc, .nilFunc] [(0, 1, (.tmp 5)), (1, 1, (.tmp 7))])) false
  (.op none (.a (.mapSet .int (.tmp 2) (.const (.int .i64 2)) (.tmp 8))) false
  (.op (some 9) (.a (.move (.tmp 2))) false
  (.op (some 0) (.a (.move (.tmp 9))) false
  .nil))))))))))))
  .ret))),
 [.tmp 0], [.keep]⟩
theorem ok28 : ∃ fn c, FunOk Try.prog 28 fn c A28.erase := ⟨Try.f28, _, ⟨Try.func28, rfl, by kernel_rfl, by kernel_rfl, by kernel_rfl, of_decide_eq_true (by kernel_rfl), by kernel_rfl⟩⟩
noncomputable def s28 (Γ : PCallee) (n : Nat) (h : PHeap) : Pt :=
 forkP (.map h.length) (h ++ [.map [] .rw]) fun v0 h1 =>
 (fillP [.nilF, .nilF] [(0, 1, (PV.func 25 [] [])), (1, 1, (PV.func 41 [] []))]).bind fun l2 =>
 (setMapP .int v0 (.int .i64 1 : PV) (PV.agg l2) h1).bind fun h3 =>
 (callVP Γ (PV.func 55 [] []) [(PV.func 25 [] [])] h3).bind fun p4 =>
 (callVP Γ (PV.func 55 [] []) [(PV.func 41 [] [])] p4.2).bind fun p5 =>
 (fillP [.nilF, .nilF] [(0, 1, p4.1), (1, 1, p5.1)]).bind fun l6 =>
 (setMapP .int v0 (.int .i64 2 : PV) (PV.agg l6) p5.2).bind fun h7 =>
 finP [.keep] h h7 [v0]

theorem s28_eq (Γ : PCallee) (n : Nat) (h : PHeap) : pfunK Γ n A28 [] h = s28 Γ n h := by kernel_rfl


/-- slices.Chunk[[]int,int] -/
def A29 : PFun := ⟨2, 9,
 (.seq (.region false (.op (some 2) (.a (.box 22 (.tmp 0))) false
  (.op (some 3) (.a (.box 3 (.tmp 1))) false
  (.op (some 4) (.a (.move (.const .nilFunc))) false
  .nil))))
  (.seq (.seq (.region false (.op (some 5) (.a (.load false 1 (.tmp 3))) false
  (.op (some 6) (.a (.bin .lss (.tmp 5) (.const (.int .i64 1)))) false
  .nil)))
  (.cond (.tmp 6) [] [7]
  (.region false (.op (some 7) (.a (.mkIface 9 (.const (.string ⟨#[99, 97, 110, 110, 111, 116, 32, 98, 101, 32, 108, 101, 115, 115, 32, 116, 104, 97, 110, 32, 49]⟩)))) false
  (.op none (.a .fail) false
  .nil)))
  .skip))
  (.seq (.region false (.op (some 8) (.a (.mkFunc 57 [] [(.tmp 2), (.tmp 3)])) false
  (.op (some 4) (.a (.move (.tmp 8))) false
  .nil)))
  .ret))),
 [.tmp 4], [.keep]⟩
theorem ok29 : ∃ fn c, FunOk Try.prog 29 fn c A29.erase := ⟨Try.f29, _, ⟨Try.func29, rfl, by kernel_rfl, by kernel_rfl, by kernel_rfl, of_decide_eq_true (by kernel_rfl), by kernel_rfl⟩⟩
noncomputable def s29 (Γ : PCallee) (n : Nat) (x0 : PV) (x1 : PV) (h : PHeap) : Pt :=
 forkP (.ptr h.length 0) (h ++ [.box (cellsP x0) 22 .rw]) fun v0 h1 =>
 forkP (.ptr h1.length 0) (h1 ++ [.box (cellsP x1) 3 .rw]) fun v2 h3 =>
 (loadP false 1 v2 h3).bind fun v4 =>
 (binP .lss v4 (.int .i64 1 : PV)).bind fun v5 =>
 KL (fun w7 h8 =>
 finP [.keep] h h8 [(PV.func 57 [] [v0, v2])]) fun j6 =>
 ifP v5 (
 none) (
 j6 [] h3)

theorem s29_eq (Γ : PCallee) (n : Nat) (x0 : PV) (x1 : PV) (h : PHeap) : pfunK Γ n A29 [x0, x1] h = s29 Γ n x0 x1 h := by kernel_rfl


/-- orchestrion/pack.width -/
def A30 : PFun := ⟨1, 28,
 (.seq (.region false (.op (some 2) (.a (.move (.const (.int .i64 0)))) false
  .nil))
  (.seq (.region false (.op (some 3) (.a (.move (.const (.int .i64 1)))) false
  .nil))
  (.seq (.seq (.region false (.op (some 6) (.a (.move (.tmp 0))) false
  (.op (some 7) (.a (.len false (.tmp 6))) false
  (.op (some 8) (.a (.move (.const (.int .i64 0)))) false
  .nil))))
  (.block 0 [3] [5, 8, 9, 10, 11, 12, 13, 14, 15, 16, 17, 18, 19, 20, 21, 22, 23, 24, 25, 26]
  (.loop [3, 8, 18, 19, 20, 21, 22] [5, 9, 10, 11, 12, 13, 14, 15, 16, 17, 23, 24, 25, 26]
  (.seq (.region false (.op (some 9) (.a (.bin .lss (.tmp 8) (.tmp 7))) false
  .nil))
  (.seq (.cond (.tmp 9) [] []
  .skip
  (.exit 0))
  (.seq (.block 1 [3, 18, 19, 20, 21, 22] [5, 10, 11, 12, 13, 14, 15, 16, 17, 23, 24, 25]
  (.seq (.region false (.op (some 10) (.a (.indexAddr 1 (.tmp 6) (.tmp 8))) false
  (.op (some 11) (.a (.load false 1 (.tmp 10))) false
  (.op (some 5) (.a (.move (.tmp 11))) false
  .nil))))
  (.block 2 [3, 18, 19, 20, 21, 22] [12, 13, 14, 15, 16, 17, 23, 24, 25]
  (.loop [3, 18, 19, 20, 21, 22] [12, 13, 14, 15, 16, 17, 23, 24, 25]
  (.seq (.seq (.region false (.op (some 12) (.a (.move (.tmp 5))) false
  (.op (some 13) (.a (.move (.tmp 3))) false
  (.op (some 14) (.a (.bin .sub (.tmp 13) (.const (.int .i64 1)))) false
  (.op (some 15) (.a (.bin .shl (.const (.int .i64 (-1))) (.tmp 14))) false
  (.op (some 16) (.a (.bin .lss (.tmp 12) (.tmp 15))) false
  (.op (some 17) (.a (.move (.tmp 16))) false
  (.sc 23 17 false [18, 19, 20, 21, 22]
  (.op (some 18) (.a (.move (.tmp 5))) false
  (.op (some 19) (.a (.move (.tmp 3))) false
  (.op (some 20) (.a (.bin .sub (.tmp 19) (.const (.int .i64 1)))) false
  (.op (some 21) (.a (.bin .shl (.const (.int .i64 1)) (.tmp 20))) false
  (.op (some 22) (.a (.bin .geq (.tmp 18) (.tmp 21))) false
  .nil))))) (.tmp 22)
  .nil))))))))
  (.cond (.tmp 23) [] []
  .skip
  (.exit 2)))
  (.block 3 [3] [24, 25]
  (.region false (.op (some 24) (.a (.move (.tmp 3))) false
  (.op (some 25) (.a (.bin .add (.tmp 24) (.const (.int .i64 1)))) false
  (.op (some 3) (.a (.move (.tmp 25))) false
  .nil))))))))))
  (.region false (.op (some 26) (.a (.bin .add (.tmp 8) (.const (.int .i64 1)))) false
  (.op (some 8) (.a (.move (.tmp 26))) false
  .nil)))))))))
  (.seq (.region false (.op (some 27) (.a (.move (.tmp 3))) false
  (.op (some 2) (.a (.move (.tmp 27))) false
  .nil)))
  .ret)))),
 [.tmp 2], [.keep]⟩
theorem ok30 : ∃ fn c, FunOk Try.prog 30 fn c A30.erase := ⟨Try.f30, _, ⟨Try.func30, rfl, by kernel_rfl, by kernel_rfl, by kernel_rfl, of_decide_eq_true (by kernel_rfl), by kernel_rfl⟩⟩
noncomputable def s30_L0 (Γ : PCallee) (n : Nat) (h10 : PHeap) (v16 : PV) (j17 : List PV → PHeap → Pt) : (List PV → PHeap → Pt) → List PV → PHeap → Pt := fun c20 w21 h22 =>
 (binP .sub (nthP w21 0) (.int .i64 1 : PV)).bind fun v23 =>
 (binP .shl (.int .i64 (-1) : PV) v23).bind fun v24 =>
 (binP .lss v16 v24).bind fun v25 =>
 K1 (fun v27 h28 =>
 KL (fun w30 h31 =>
 KL (fun w33 h34 =>
 c20 [(nthP w33 0), PV.junk, PV.junk, PV.junk, PV.junk, PV.junk] (trim h10 [(nthP w33 0), PV.junk, PV.junk, PV.junk, PV.junk, PV.junk] h34)) fun j32 =>
 (binP .add (nthP w21 0) (.int .i64 1 : PV)).bind fun v35 =>
 j32 [v35] h31) fun j29 =>
 ifP v27 (
 j29 [] h28) (
 j17 [(nthP w21 0), PV.junk, PV.junk, PV.junk, PV.junk, PV.junk] h28)) fun j26 =>
 scP v25 false (
 (binP .sub (nthP w21 0) (.int .i64 1 : PV)).bind fun v36 =>
 (binP .shl (.int .i64 1 : PV) v36).bind fun v37 =>
 (binP .geq v16 v37).bind fun v38 =>
 j26 v38 h22)
 (j26 (.bool true) h22)
noncomputable def s30_L1 (Γ : PCallee) (n : Nat) (x0 : PV) (h : PHeap) (v0 : PV) (j1 : List PV → PHeap → Pt) : (List PV → PHeap → Pt) → List PV → PHeap → Pt := fun c4 w5 h6 =>
 (binP .lss (nthP w5 1) v0).bind fun v7 =>
 KL (fun w9 h10 =>
 KL (fun w12 h13 =>
 (binP .add (nthP w5 1) (.int .i64 1 : PV)).bind fun v14 =>
 c4 [(nthP w12 0), v14, (nthP w12 1), (nthP w12 2), (nthP w12 3), (nthP w12 4), (nthP w12 5)] (trim h [(nthP w12 0), v14, (nthP w12 1), (nthP w12 2), (nthP w12 3), (nthP w12 4), (nthP w12 5)] h13)) fun j11 =>
 (indexAddrP 1 x0 (nthP w5 1)).bind fun v15 =>
 (loadP false 1 v15 h10).bind fun v16 =>
 KL (fun w18 h19 =>
 j11 [(nthP w18 0), (nthP w18 1), (nthP w18 2), (nthP w18 3), (nthP w18 4), (nthP w18 5)] h19) fun j17 =>
 loopP (s30_L0 Γ n h10 v16 j17) n [(nthP w5 0), (nthP w5 2), (nthP w5 3), (nthP w5 4), (nthP w5 5), (nthP w5 6)] h10) fun j8 =>
 ifP v7 (
 j8 [] h6) (
 j1 [(nthP w5 0)] h6)
noncomputable def s30 (Γ : PCallee) (n : Nat) (x0 : PV) (h : PHeap) : Pt :=
 (lenP false x0).bind fun v0 =>
 KL (fun w2 h3 =>
 finP [.keep] h h3 [(nthP w2 0)]) fun j1 =>
 loopP (s30_L1 Γ n x0 h v0 j1) n [(.int .i64 1 : PV), (.int .i64 0 : PV), undefP, undefP, undefP, undefP, undefP] h

theorem s30_eq (Γ : PCallee) (n : Nat) (x0 : PV) (h : PHeap) : pfunK Γ n A30 [x0] h = s30 Γ n x0 h := by kernel_rfl


/-- orchestrion/pack.Blocks$1 -/
def A31 : PFun := ⟨5, 26,
 (.seq (.region true (.op (some 7) (.a (.load false 1 (.tmp 2))) false
  (.op (some 8) (.a (.move (.tmp 0))) false
  (.op (some 9) (.a (.load false 1 (.tmp 3))) false
  (.op (some 10) (.a (.bin .shl (.tmp 8) (.tmp 9))) false
  (.op (some 11) (.a (.bin .or (.tmp 7) (.tmp 10))) false
  (.op none (.a (.store 1 (.tmp 2) (.tmp 11))) false
  .nil)))))))
  (.seq (.region false (.op (some 12) (.a (.load false 1 (.tmp 3))) false
  (.op (some 13) (.a (.move (.tmp 1))) false
  (.op (some 14) (.a (.bin .add (.tmp 12) (.tmp 13))) false
  (.op none (.a (.store 1 (.tmp 3) (.tmp 14))) false
  .nil)))))
  (.block 0 [] [15, 16, 17, 18, 19, 20, 21, 22, 23, 24, 25]
  (.loop [] [15, 16, 17, 18, 19, 20, 21, 22, 23, 24, 25]
  (.seq (.seq (.region false (.op (some 15) (.a (.load false 1 (.tmp 3))) false
  (.op (some 16) (.a (.bin .geq (.tmp 15) (.const (.int .i64 8)))) false
  .nil)))
  (.cond (.tmp 16) [] []
  .skip
  (.exit 0)))
  (.seq (.block 1 [] [19, 20, 21, 22, 23, 24, 25]
  (.seq (.region false (.op (some 19) (.a (.load false 1 (.tmp 4))) false
  (.op (some 20) (.a (.load false 1 (.tmp 2))) false
  (.op (some 21) (.a (.conv .u8 (.tmp 20))) false
  (.op (some 22) (.buildF 5 [(.int .u8 0)] 1 [(0, 1, (.tmp 21))]) false
  (.op (some 23) (.a (.append 5 1 (.tmp 19) (.tmp 22))) false
  (.op none (.a (.store 1 (.tmp 4) (.tmp 23))) false
  .nil)))))))
  (.region false (.op (some 24) (.a (.load false 1 (.tmp 2))) false
  (.op (some 25) (.a (.bin .shr (.tmp 24) (.const (.int .u64 8)))) false
  (.op none (.a (.store 1 (.tmp 2) (.tmp 25))) false
  .nil))))))
  (.region false (.op (some 17) (.a (.load false 1 (.tmp 3))) false
  (.op (some 18) (.a (.bin .sub (.tmp 17) (.const (.int .i64 8)))) false
  (.op none (.a (.store 1 (.tmp 3) (.tmp 18))) false
  .nil)))))))))),
 [], []⟩
theorem ok31 : ∃ fn c, FunOk Try.prog 31 fn c A31.erase := ⟨Try.f31, _, ⟨Try.func31, rfl, by kernel_rfl, by kernel_rfl, by kernel_rfl, of_decide_eq_true (by kernel_rfl), by kernel_rfl⟩⟩
noncomputable def s31_L0 (Γ : PCallee) (n : Nat) (x2 : PV) (x3 : PV) (x4 : PV) (h7 : PHeap) (j8 : List PV → PHeap → Pt) : (List PV → PHeap → Pt) → List PV → PHeap → Pt := fun c11 w12 h13 =>
 (loadP false 1 x3 h13).bind fun v14 =>
 (binP .geq v14 (.int .i64 8 : PV)).bind fun v15 =>
 KL (fun w17 h18 =>
 KL (fun w20 h21 =>
 (loadP false 1 x3 h21).bind fun v22 =>
 (binP .sub v22 (.int .i64 8 : PV)).bind fun v23 =>
 (storeP 1 x3 v23 h21).bind fun h24 =>
 c11 [] (trim h7 [] h24)) fun j19 =>
 (loadP false 1 x4 h18).bind fun v25 =>
 (loadP false 1 x2 h18).bind fun v26 =>
 (convP .u8 v26).bind fun v27 =>
 (fillP (repP [.int .u8 0] 1) [(0, 1, v27)]).bind fun l28 =>
 guardP (l28.all pure1) (
 forkP (.frz 1 (chunk 1 1 l28)) (h18) fun v29 h30 =>
 (appendP 5 1 v25 v29 h30).bind fun p31 =>
 (storeP 1 x4 p31.1 p31.2).bind fun h32 =>
 (loadP false 1 x2 h32).bind fun v33 =>
 (binP .shr v33 (.int .u64 8 : PV)).bind fun v34 =>
 (storeP 1 x2 v34 h32).bind fun h35 =>
 j19 [] h35)) fun j16 =>
 ifP v15 (
 j16 [] h13) (
 j8 [] h13)
noncomputable def s31 (Γ : PCallee) (n : Nat) (x0 : PV) (x1 : PV) (x2 : PV) (x3 : PV) (x4 : PV) (h : PHeap) : Pt :=
 (loadP false 1 x2 h).bind fun v0 =>
 (loadP false 1 x3 h).bind fun v1 =>
 (binP .shl x0 v1).bind fun v2 =>
 (binP .or v0 v2).bind fun v3 =>
 (storeP 1 x2 v3 h).bind fun h4 =>
 (loadP false 1 x3 h4).bind fun v5 =>
 (binP .add v5 x1).bind fun v6 =>
 (storeP 1 x3 v6 h4).bind fun h7 =>
 KL (fun w9 h10 =>
 finP [] h h10 []) fun j8 =>
 loopP (s31_L0 Γ n x2 x3 x4 h7 j8) n [] h7

theorem s31_eq (Γ : PCallee) (n : Nat) (x0 : PV) (x1 : PV) (x2 : PV) (x3 : PV) (x4 : PV) (h : PHeap) : pfunK Γ n A31 [x0, x1, x2, x3, x4] h = s31 Γ n x0 x1 x2 x3 x4 h := by kernel_rfl


/-- orchestrion/orchestrionref03.right -/
def A32 : PFun := ⟨1, 9,
 (.seq (.region false (.op (some 2) (.a (.move (.const (.bool false)))) false
  .nil))
  (.seq (.region false (.op (some 3) (.a (.move (.tmp 0))) false
  (.op (some 4) (.a (.bin .eql (.tmp 3) (.const (.int .i64 8)))) false
  (.op (some 5) (.a (.move (.tmp 4))) false
  (.sc 8 5 false [6, 7]
  (.op (some 6) (.a (.move (.tmp 0))) false
  (.op (some 7) (.a (.bin .eql (.tmp 6) (.const (.int .i64 16)))) false
  .nil)) (.tmp 7)
  (.op (some 2) (.a (.move (.tmp 8))) false
  .nil))))))
  .ret)),
 [.tmp 2], [.keep]⟩
theorem ok32 : ∃ fn c, FunOk Try.prog 32 fn c A32.erase := ⟨Try.f32, _, ⟨Try.func32, rfl, by kernel_rfl, by kernel_rfl, by kernel_rfl, of_decide_eq_true (by kernel_rfl), by kernel_rfl⟩⟩
noncomputable def s32 (Γ : PCallee) (n : Nat) (x0 : PV) (h : PHeap) : Pt :=
 (binP .eql x0 (.int .i64 8 : PV)).bind fun v0 =>
 K1 (fun v2 h3 =>
 finP [.keep] h h3 [v2]) fun j1 =>
 scP v0 false (
 (binP .eql x0 (.int .i64 16 : PV)).bind fun v4 =>
 j1 v4 h)
 (j1 (.bool true) h)

theorem s32_eq (Γ : PCallee) (n : Nat) (x0 : PV) (h : PHeap) : pfunK Γ n A32 [x0] h = s32 Γ n x0 h := by kernel_rfl


/-- orchestrion/orchestrionref03.versioned -/
def A33 : PFun := ⟨1, 9,
 (.seq (.region false (.op (some 2) (.a (.move (.const (.bool false)))) false
  .nil))
  (.seq (.region false (.op (some 3) (.a (.move (.tmp 0))) false
  (.op (some 4) (.a (.bin .eql (.tmp 3) (.const (.int .i64 1)))) false
  (.op (some 5) (.a (.move (.tmp 4))) false
  (.sc 8 5 false [6, 7]
  (.op (some 6) (.a (.move (.tmp 0))) false
  (.op (some 7) (.a (.bin .eql (.tmp 6) (.const (.int .i64 2)))) false
  .nil)) (.tmp 7)
  (.op (some 2) (.a (.move (.tmp 8))) false
  .nil))))))
  .ret)),
 [.tmp 2], [.keep]⟩
theorem ok33 : ∃ fn c, FunOk Try.prog 33 fn c A33.erase := ⟨Try.f33, _, ⟨Try.func33, rfl, by kernel_rfl, by kernel_rfl, by kernel_rfl, of_decide_eq_true (by kernel_rfl), by kernel_rfl⟩⟩
noncomputable def s33 (Γ : PCallee) (n : Nat) (x0 : PV) (h : PHeap) : Pt :=
 (binP .eql x0 (.int .i64 1 : PV)).bind fun v0 =>
 K1 (fun v2 h3 =>
 finP [.keep] h h3 [v2]) fun j1 =>
 scP v0 false (
 (binP .eql x0 (.int .i64 2 : PV)).bind fun v4 =>
 j1 v4 h)
 (j1 (.bool true) h)

theorem s33_eq (Γ : PCallee) (n : Nat) (x0 : PV) (h : PHeap) : pfunK Γ n A33 [x0] h = s33 Γ n x0 h := by kernel_rfl


/-- orchestrion/orchestrionref03.block -/
def A34 : PFun := ⟨1, 64,
 (.seq (.region false (.op (some 2) (.a (.move (.const (.slice none 0 0)))) false
  .nil))
  (.seq (.region false (.op (some 3) (.a (.move (.const (.int .i64 1)))) false
  .nil))
  (.seq (.seq (.region false (.op (some 4) (.a (.move (.const (.int .i64 0)))) false
  .nil))
  (.block 0 [3] [4, 7, 8, 9, 10, 11, 12, 13, 14, 15, 16, 17, 18, 19, 20, 21]
  (.loop [3, 4] [7, 8, 9, 10, 11, 12, 13, 14, 15, 16, 17, 18, 19, 20, 21]
  (.seq (.seq (.region false (.op (some 7) (.a (.move (.tmp 4))) false
  (.op (some 8) (.a (.move (.tmp 0))) false
  (.op (some 9) (.a (.len false (.tmp 8))) false
  (.op (some 10) (.a (.bin .lss (.tmp 7) (.tmp 9))) false
  .nil)))))
  (.cond (.tmp 10) [] []
  .skip
  (.exit 0)))
  (.seq (.block 1 [3] [13, 14, 15, 16, 17, 18, 19, 20, 21]
  (.block 2 [3] [13, 14, 15, 16, 17, 18, 19, 20, 21]
  (.loop [3] [13, 14, 15, 16, 17, 18, 19, 20, 21]
  (.seq (.seq (.region false (.op (some 13) (.a (.move (.tmp 0))) false
  (.op (some 14) (.a (.move (.tmp 4))) false
  (.op (some 15) (.a (.indexAddr 1 (.tmp 13) (.tmp 14))) false
  (.op (some 16) (.a (.load false 1 (.tmp 15))) false
  (.op (some 17) (.a (.move (.tmp 3))) false
  (.op (some 18) (.a (.call 54 [(.tmp 16), (.tmp 17)])) false
  (.op (some 19) (.a (.un .not (.tmp 18))) false
  .nil))))))))
  (.cond (.tmp 19) [] []
  .skip
  (.exit 2)))
  (.block 3 [3] [20, 21]
  (.region false (.op (some 20) (.a (.move (.tmp 3))) false
  (.op (some 21) (.a (.bin .add (.tmp 20) (.const (.int .i64 1)))) false
  (.op (some 3) (.a (.move (.tmp 21))) false
  .nil)))))))))
  (.region false (.op (some 11) (.a (.move (.tmp 4))) false
  (.op (some 12) (.a (.bin .add (.tmp 11) (.const (.int .i64 1)))) false
  (.op (some 4) (.a (.move (.tmp 12))) false
  .nil)))))))))
  (.seq (.region false (.op (some 22) (.a (.move (.tmp 3))) false
  (.op (some 23) (.a (.conv .u8 (.tmp 22))) false
  (.op (some 24) (.a (.buildSlice 5 [(.int .u8 0)] 1 [(0, 1, (.tmp 23))])) false
  (.op (some 25) (.a (.move (.tmp 0))) false
  (.op (some 26) (.a (.len false (.tmp 25))) false
  (.op (some 27) (.a (.move (.tmp 3))) false
  (.op (some 28) (.a (.bin .mul (.tmp 26) (.tmp 27))) false
  (.op (some 29) (.a (.bin .add (.tmp 28) (.const (.int .i64 7)))) false
  (.op (some 30) (.a (.bin .quo (.tmp 29) (.const (.int .i64 8)))) false
  (.op (some 31) (.a (.appendN 5 1 [(.int .u8 0)] (.tmp 24) (.tmp 30))) false
  (.op (some 5) (.a (.move (.tmp 31))) false
  .nil))))))))))))
  (.seq (.seq (.region false (.op (some 6) (.a (.move (.const (.int .i64 0)))) false
  .nil))
  (.block 4 [] [6, 32, 33, 34, 35, 36, 37, 38, 39, 40, 41, 42, 43, 44, 45, 46, 47, 48, 49, 50, 51, 52, 53, 54, 55, 56, 57, 58, 59, 60, 61, 62]
  (.loop [6] [32, 33, 34, 35, 36, 37, 38, 39, 40, 41, 42, 43, 44, 45, 46, 47, 48, 49, 50, 51, 52, 53, 54, 55, 56, 57, 58, 59, 60, 61, 62]
  (.seq (.seq (.region false (.op (some 32) (.a (.move (.tmp 6))) false
  (.op (some 33) (.a (.move (.tmp 0))) false
  (.op (some 34) (.a (.len false (.tmp 33))) false
  (.op (some 35) (.a (.move (.tmp 3))) false
  (.op (some 36) (.a (.bin .mul (.tmp 34) (.tmp 35))) false
  (.op (some 37) (.a (.bin .lss (.tmp 32) (.tmp 36))) false
  .nil)))))))
  (.cond (.tmp 37) [] []
  .skip
  (.exit 4)))
  (.seq (.block 5 [] [40, 41, 42, 43, 44, 45, 46, 47, 48, 49, 50, 51, 52, 53, 54, 55, 56, 57, 58, 59, 60, 61, 62]
  (.seq (.region true (.op (some 40) (.a (.move (.tmp 0))) false
  (.op (some 41) (.a (.move (.tmp 6))) false
  (.op (some 42) (.a (.move (.tmp 3))) false
  (.op (some 43) (.a (.bin .quo (.tmp 41) (.tmp 42))) false
  (.op (some 44) (.a (.indexAddr 1 (.tmp 40) (.tmp 43))) false
  (.op (some 45) (.a (.load false 1 (.tmp 44))) false
  (.op (some 46) (.a (.move (.tmp 6))) false
  (.op (some 47) (.a (.move (.tmp 3))) false
  (.op (some 48) (.a (.bin .rem (.tmp 46) (.tmp 47))) false
  (.op (some 49) (.a (.bin .shr (.tmp 45) (.tmp 48))) false
  (.op (some 50) (.a (.bin .and (.tmp 49) (.const (.int .i64 1)))) false
  (.op (some 51) (.a (.bin .eql (.tmp 50) (.const (.int .i64 1)))) false
  .nil)))))))))))))
  (.cond (.tmp 51) [] [52, 53, 54, 55, 56, 57, 58, 59, 60, 61, 62]
  (.region true (.op (some 52) (.a (.move (.tmp 5))) false
  (.op (some 53) (.a (.move (.tmp 6))) false
  (.op (some 54) (.a (.bin .quo (.tmp 53) (.const (.int .i64 8)))) false
  (.op (some 55) (.a (.bin .add (.const (.int .i64 1)) (.tmp 54))) false
  (.op (some 56) (.a (.indexAddr 1 (.tmp 52) (.tmp 55))) false
  (.op (some 57) (.a (.load false 1 (.tmp 56))) false
  (.op (some 58) (.a (.move (.tmp 6))) false
  (.op (some 59) (.a (.bin .rem (.tmp 58) (.const (.int .i64 8)))) false
  (.op (some 60) (.a (.bin .shl (.const (.int .u8 1)) (.tmp 59))) false
  (.op (some 61) (.a (.bin .or (.tmp 57) (.tmp 60))) false
  (.op (some 62) (.a (.indexAddr 1 (.tmp 52) (.tmp 55))) false
  (.op none (.a (.store 1 (.tmp 62) (.tmp 61))) false
  .nil)))))))))))))
  .skip)))
  (.region false (.op (some 38) (.a (.move (.tmp 6))) false
  (.op (some 39) (.a (.bin .add (.tmp 38) (.const (.int .i64 1)))) false
  (.op (some 6) (.a (.move (.tmp 39))) false
  .nil)))))))))
  (.seq (.region false (.op (some 63) (.a (.move (.tmp 5))) false
  (.op (some 2) (.a (.move (.tmp 63))) false
  .nil)))
  .ret)))))),
 [.tmp 2], [(.flat 1)]⟩
theorem ok34 : ∃ fn c, FunOk Try.prog 34 fn c A34.erase := ⟨Try.f34, _, ⟨Try.func34, rfl, by kernel_rfl, by kernel_rfl, by kernel_rfl, of_decide_eq_true (by kernel_rfl), by kernel_rfl⟩⟩
noncomputable def s34_L0 (Γ : PCallee) (n : Nat) (x0 : PV) (w1 : List PV) (p11 : PV × PHeap) (j12 : List PV → PHeap → Pt) : (List PV → PHeap → Pt) → List PV → PHeap → Pt := fun c15 w16 h17 =>
 (lenP false x0).bind fun v18 =>
 (binP .mul v18 (nthP w1 0)).bind fun v19 =>
 (binP .lss (nthP w16 0) v19).bind fun v20 =>
 KL (fun w22 h23 =>
 KL (fun w25 h26 =>
 (binP .add (nthP w16 0) (.int .i64 1 : PV)).bind fun v27 =>
 c15 [v27] (trim p11.2 [v27] h26)) fun j24 =>
 (binP .quo (nthP w16 0) (nthP w1 0)).bind fun v28 =>
 (indexAddrP 1 x0 v28).bind fun v29 =>
 (loadP false 1 v29 h23).bind fun v30 =>
 (binP .rem (nthP w16 0) (nthP w1 0)).bind fun v31 =>
 (binP .shr v30 v31).bind fun v32 =>
 (binP .and v32 (.int .i64 1 : PV)).bind fun v33 =>
 (binP .eql v33 (.int .i64 1 : PV)).bind fun v34 =>
 KL (fun w36 h37 =>
 j24 [] h37) fun j35 =>
 ifP v34 (
 (binP .quo (nthP w16 0) (.int .i64 8 : PV)).bind fun v38 =>
 (binP .add (.int .i64 1 : PV) v38).bind fun v39 =>
 (indexAddrP 1 p11.1 v39).bind fun v40 =>
 (loadP false 1 v40 h23).bind fun v41 =>
 (binP .rem (nthP w16 0) (.int .i64 8 : PV)).bind fun v42 =>
 (binP .shl (.int .u8 1 : PV) v42).bind fun v43 =>
 (binP .or v41 v43).bind fun v44 =>
 (indexAddrP 1 p11.1 v39).bind fun v45 =>
 (storeP 1 v45 v44 h23).bind fun h46 =>
 j35 [] h46) (
 j35 [] h23)) fun j21 =>
 ifP v20 (
 j21 [] h17) (
 j12 [] h17)
noncomputable def s34_L1 (Γ : PCallee) (n : Nat) (x0 : PV) (w48 : List PV) (h54 : PHeap) (j59 : List PV → PHeap → Pt) : (List PV → PHeap → Pt) → List PV → PHeap → Pt := fun c62 w63 h64 =>
 (indexAddrP 1 x0 (nthP w48 1)).bind fun v65 =>
 (loadP false 1 v65 h64).bind fun v66 =>
 (Γ 54 [v66, (nthP w63 0)] h64).bind fun p67 =>
 (unP .not p67.1).bind fun v68 =>
 KL (fun w70 h71 =>
 KL (fun w73 h74 =>
 c62 [(nthP w73 0)] (trim h54 [(nthP w73 0)] h74)) fun j72 =>
 (binP .add (nthP w63 0) (.int .i64 1 : PV)).bind fun v75 =>
 j72 [v75] h71) fun j69 =>
 ifP v68 (
 j69 [] p67.2) (
 j59 [(nthP w63 0)] p67.2)
noncomputable def s34_L2 (Γ : PCallee) (n : Nat) (x0 : PV) (h : PHeap) (j0 : List PV → PHeap → Pt) : (List PV → PHeap → Pt) → List PV → PHeap → Pt := fun c47 w48 h49 =>
 (lenP false x0).bind fun v50 =>
 (binP .lss (nthP w48 1) v50).bind fun v51 =>
 KL (fun w53 h54 =>
 KL (fun w56 h57 =>
 (binP .add (nthP w48 1) (.int .i64 1 : PV)).bind fun v58 =>
 c47 [(nthP w56 0), v58] (trim h [(nthP w56 0), v58] h57)) fun j55 =>
 KL (fun w60 h61 =>
 j55 [(nthP w60 0)] h61) fun j59 =>
 loopP (s34_L1 Γ n x0 w48 h54 j59) n [(nthP w48 0)] h54) fun j52 =>
 ifP v51 (
 j52 [] h49) (
 j0 [(nthP w48 0)] h49)
noncomputable def s34 (Γ : PCallee) (n : Nat) (x0 : PV) (h : PHeap) : Pt :=
 KL (fun w1 h2 =>
 (convP .u8 (nthP w1 0)).bind fun v3 =>
 (fillP (repP [.int .u8 0] 1) [(0, 1, v3)]).bind fun l4 =>
 forkP (.ref h2.length 0 1 1 1) (h2 ++ [.log (chunk 1 1 l4) 1 5 .rw]) fun v5 h6 =>
 (lenP false x0).bind fun v7 =>
 (binP .mul v7 (nthP w1 0)).bind fun v8 =>
 (binP .add v8 (.int .i64 7 : PV)).bind fun v9 =>
 (binP .quo v9 (.int .i64 8 : PV)).bind fun v10 =>
 (appendNP 5 1 [.int .u8 0] v5 v10 h6).bind fun p11 =>
 KL (fun w13 h14 =>
 finP [(.flat 1)] h h14 [p11.1]) fun j12 =>
 loopP (s34_L0 Γ n x0 w1 p11 j12) n [(.int .i64 0 : PV)] p11.2) fun j0 =>
 loopP (s34_L2 Γ n x0 h j0) n [(.int .i64 1 : PV), (.int .i64 0 : PV)] h

theorem s34_eq (Γ : PCallee) (n : Nat) (x0 : PV) (h : PHeap) : pfunK Γ n A34 [x0] h = s34 Γ n x0 h := by kernel_rfl


/-- slices.ContainsFunc[[]int,int] -/
def A35 : PFun := ⟨2, 9,
 (.seq (.region false (.op (some 4) (.a (.move (.const (.bool false)))) false
  .nil))
  (.seq (.region false (.op (some 5) (.a (.move (.tmp 0))) false
  (.op (some 6) (.a (.move (.tmp 1))) false
  (.op (some 7) (.a (.call 58 [(.tmp 5), (.tmp 6)])) false
  (.op (some 8) (.a (.bin .geq (.tmp 7) (.const (.int .i64 0)))) false
  (.op (some 4) (.a (.move (.tmp 8))) false
  .nil))))))
  .ret)),
 [.tmp 4], [.keep]⟩
theorem ok35 : ∃ fn c, FunOk Try.prog 35 fn c A35.erase := ⟨Try.f35, _, ⟨Try.func35, rfl, by kernel_rfl, by kernel_rfl, by kernel_rfl, of_decide_eq_true (by kernel_rfl), by kernel_rfl⟩⟩
noncomputable def s35 (Γ : PCallee) (n : Nat) (x0 : PV) (x1 : PV) (h : PHeap) : Pt :=
 (Γ 58 [x0, x1] h).bind fun p0 =>
 (binP .geq p0.1 (.int .i64 0 : PV)).bind fun v1 =>
 finP [.keep] h p0.2 [v1]

theorem s35_eq (Γ : PCallee) (n : Nat) (x0 : PV) (x1 : PV) (h : PHeap) : pfunK Γ n A35 [x0, x1] h = s35 Γ n x0 x1 h := by kernel_rfl


/-- orchestrion/pack.Nibbles$1 -/
def A36 : PFun := ⟨1, 9,
 (.seq (.region false (.op (some 2) (.a (.move (.const (.bool false)))) false
  .nil))
  (.seq (.region false (.op (some 3) (.a (.move (.tmp 0))) false
  (.op (some 4) (.a (.bin .lss (.tmp 3) (.const (.int .i64 (-128))))) false
  (.op (some 5) (.a (.move (.tmp 4))) false
  (.sc 8 5 false [6, 7]
  (.op (some 6) (.a (.move (.tmp 0))) false
  (.op (some 7) (.a (.bin .gtr (.tmp 6) (.const (.int .i64 127)))) false
  .nil)) (.tmp 7)
  (.op (some 2) (.a (.move (.tmp 8))) false
  .nil))))))
  .ret)),
 [.tmp 2], [.keep]⟩
theorem ok36 : ∃ fn c, FunOk Try.prog 36 fn c A36.erase := ⟨Try.f36, _, ⟨Try.func36, rfl, by kernel_rfl, by kernel_rfl, by kernel_rfl, of_decide_eq_true (by kernel_rfl), by kernel_rfl⟩⟩
noncomputable def s36 (Γ : PCallee) (n : Nat) (x0 : PV) (h : PHeap) : Pt :=
 (binP .lss x0 (.int .i64 (-128) : PV)).bind fun v0 =>
 K1 (fun v2 h3 =>
 finP [.keep] h h3 [v2]) fun j1 =>
 scP v0 false (
 (binP .gtr x0 (.int .i64 127 : PV)).bind fun v4 =>
 j1 v4 h)
 (j1 (.bool true) h)

theorem s36_eq (Γ : PCallee) (n : Nat) (x0 : PV) (h : PHeap) : pfunK Γ n A36 [x0] h = s36 Γ n x0 h := by kernel_rfl


/-- orchestrion/pack.isTable -/
def A37 : PFun := ⟨1, 11,
 (.seq (.region false (.op (some 2) (.a (.move (.const (.bool false)))) false
  .nil))
  (.seq (.region false (.op (some 3) (.a (.move (.tmp 0))) false
  (.op (some 4) (.a (.len false (.tmp 3))) false
  (.op (some 5) (.a (.bin .eql (.tmp 4) (.const (.int .i64 16)))) false
  (.op (some 6) (.a (.move (.tmp 5))) false
  (.sc 10 6 true [7, 8, 9]
  (.op (some 7) (.a (.move (.tmp 0))) false
  (.op (some 8) (.a (.call 35 [(.tmp 7), (.func 59)])) false
  (.op (some 9) (.a (.un .not (.tmp 8))) false
  .nil))) (.tmp 9)
  (.op (some 2) (.a (.move (.tmp 10))) false
  .nil)))))))
  .ret)),
 [.tmp 2], [.keep]⟩
theorem ok37 : ∃ fn c, FunOk Try.prog 37 fn c A37.erase := ⟨Try.f37, _, ⟨Try.func37, rfl, by kernel_rfl, by kernel_rfl, by kernel_rfl, of_decide_eq_true (by kernel_rfl), by kernel_rfl⟩⟩
noncomputable def s37 (Γ : PCallee) (n : Nat) (x0 : PV) (h : PHeap) : Pt :=
 (lenP false x0).bind fun v0 =>
 (binP .eql v0 (.int .i64 16 : PV)).bind fun v1 =>
 K1 (fun v3 h4 =>
 finP [.keep] h h4 [v3]) fun j2 =>
 scP v1 true (
 (Γ 35 [x0, (PV.func 59 [] [])] h).bind fun p5 =>
 (unP .not p5.1).bind fun v6 =>
 j2 v6 p5.2)
 (j2 (.bool false) h)

theorem s37_eq (Γ : PCallee) (n : Nat) (x0 : PV) (h : PHeap) : pfunK Γ n A37 [x0] h = s37 Γ n x0 h := by kernel_rfl


/-- orchestrion/pack.wrap -/
def A38 : PFun := ⟨2, 20,
 (.seq (.region false (.op (some 4) (.a (.move (.const (.int .i64 0)))) false
  .nil))
  (.seq (.region false (.op (some 6) (.a (.move (.tmp 1))) false
  (.op (some 7) (.a (.bin .shl (.const (.int .i64 1)) (.tmp 6))) false
  (.op (some 5) (.a (.move (.tmp 7))) false
  .nil))))
  (.seq (.region false (.op (some 8) (.a (.move (.tmp 0))) false
  (.op (some 9) (.a (.move (.tmp 5))) false
  (.op (some 10) (.a (.bin .sub (.tmp 9) (.const (.int .i64 1)))) false
  (.op (some 11) (.a (.bin .and (.tmp 8) (.tmp 10))) false
  (.op (some 0) (.a (.move (.tmp 11))) false
  .nil))))))
  (.seq (.seq (.region false (.op (some 12) (.a (.move (.tmp 0))) false
  (.op (some 13) (.a (.move (.tmp 5))) false
  (.op (some 14) (.a (.bin .quo (.tmp 13) (.const (.int .i64 2)))) false
  (.op (some 15) (.a (.bin .geq (.tmp 12) (.tmp 14))) false
  .nil)))))
  (.cond (.tmp 15) [0] [16, 17, 18]
  (.region false (.op (some 16) (.a (.move (.tmp 0))) false
  (.op (some 17) (.a (.move (.tmp 5))) false
  (.op (some 18) (.a (.bin .sub (.tmp 16) (.tmp 17))) false
  (.op (some 0) (.a (.move (.tmp 18))) false
  .nil)))))
  .skip))
  (.seq (.region false (.op (some 19) (.a (.move (.tmp 0))) false
  (.op (some 4) (.a (.move (.tmp 19))) false
  .nil)))
  .ret))))),
 [.tmp 4], [.keep]⟩
theorem ok38 : ∃ fn c, FunOk Try.prog 38 fn c A38.erase := ⟨Try.f38, _, ⟨Try.func38, rfl, by kernel_rfl, by kernel_rfl, by kernel_rfl, of_decide_eq_true (by kernel_rfl), by kernel_rfl⟩⟩
noncomputable def s38 (Γ : PCallee) (n : Nat) (x0 : PV) (x1 : PV) (h : PHeap) : Pt :=
 (binP .shl (.int .i64 1 : PV) x1).bind fun v0 =>
 (binP .sub v0 (.int .i64 1 : PV)).bind fun v1 =>
 (binP .and x0 v1).bind fun v2 =>
 (binP .quo v0 (.int .i64 2 : PV)).bind fun v3 =>
 (binP .geq v2 v3).bind fun v4 =>
 KL (fun w6 h7 =>
 finP [.keep] h h7 [(nthP w6 0)]) fun j5 =>
 ifP v4 (
 (binP .sub v2 v0).bind fun v8 =>
 j5 [v8] h) (
 j5 [v2] h)

theorem s38_eq (Γ : PCallee) (n : Nat) (x0 : PV) (x1 : PV) (h : PHeap) : pfunK Γ n A38 [x0, x1] h = s38 Γ n x0 x1 h := by kernel_rfl


/-- orchestrion/pack.checkBytes -/
def A39 : PFun := ⟨3, 25,
 (.seq (.region false (.op (some 6) (.a (.move (.const (.int .i64 0)))) false
  .nil))
  (.seq (.block 0 [] [6, 7, 8, 9, 10, 11, 12, 13, 14, 15, 16, 17, 18, 19, 20, 21, 22, 23, 24]
  (.seq (.region false (.op (some 8) (.a (.move (.tmp 1))) false
  (.op (some 9) (.a (.bin .neq (.tmp 8) (.const (.int .i64 8)))) false
  (.op (some 10) (.a (.move (.tmp 9))) false
  (.sc 13 10 true [11, 12]
  (.op (some 11) (.a (.move (.tmp 1))) false
  (.op (some 12) (.a (.bin .neq (.tmp 11) (.const (.int .i64 16)))) false
  .nil)) (.tmp 12)
  (.op (some 7) (.a (.move (.tmp 13))) false
  .nil))))))
  (.cond (.tmp 7) [] [6, 14, 15, 16, 17, 18, 19, 20, 21, 22, 23, 24]
  (.seq (.region false (.op (some 6) (.a (.move (.const (.int .i64 1)))) false
  .nil))
  .ret)
  (.seq (.region false (.op (some 15) (.a (.move (.tmp 0))) false
  (.op (some 16) (.a (.len false (.tmp 15))) false
  (.op (some 17) (.a (.bin .gtr (.tmp 16) (.const (.int .i64 400000)))) false
  (.op (some 14) (.a (.move (.tmp 17))) false
  .nil)))))
  (.cond (.tmp 14) [] [6, 18, 19, 20, 21, 22, 23, 24]
  (.seq (.region false (.op (some 6) (.a (.move (.const (.int .i64 3)))) false
  .nil))
  .ret)
  (.seq (.region false (.op (some 19) (.a (.move (.tmp 2))) false
  (.op (some 20) (.a (.bin .lss (.tmp 19) (.const (.int .i64 0)))) false
  (.op (some 21) (.a (.move (.tmp 20))) false
  (.sc 24 21 false [22, 23]
  (.op (some 22) (.a (.move (.tmp 2))) false
  (.op (some 23) (.a (.bin .gtr (.tmp 22) (.const (.int .i64 4096)))) false
  .nil)) (.tmp 23)
  (.op (some 18) (.a (.move (.tmp 24))) false
  .nil))))))
  (.cond (.tmp 18) [] [6]
  (.seq (.region false (.op (some 6) (.a (.move (.const (.int .i64 5)))) false
  .nil))
  .ret)
  .skip)))))))
  (.seq (.region false (.op (some 6) (.a (.move (.const (.int .i64 0)))) false
  .nil))
  .ret))),
 [.tmp 6], [.keep]⟩
theorem ok39 : ∃ fn c, FunOk Try.prog 39 fn c A39.erase := ⟨Try.f39, _, ⟨Try.func39, rfl, by kernel_rfl, by kernel_rfl, by kernel_rfl, of_decide_eq_true (by kernel_rfl), by kernel_rfl⟩⟩
noncomputable def s39 (Γ : PCallee) (n : Nat) (x0 : PV) (x1 : PV) (x2 : PV) (h : PHeap) : Pt :=
 KL (fun w1 h2 =>
 finP [.keep] h h2 [(.int .i64 0 : PV)]) fun j0 =>
 (binP .neq x1 (.int .i64 8 : PV)).bind fun v3 =>
 K1 (fun v5 h6 =>
 KL (fun w8 h9 =>
 j0 [] h9) fun j7 =>
 ifP v5 (
 finP [.keep] h h6 [(.int .i64 1 : PV)]) (
 (lenP false x0).bind fun v10 =>
 (binP .gtr v10 (.int .i64 400000 : PV)).bind fun v11 =>
 KL (fun w13 h14 =>
 j7 [] h14) fun j12 =>
 ifP v11 (
 finP [.keep] h h6 [(.int .i64 3 : PV)]) (
 (binP .lss x2 (.int .i64 0 : PV)).bind fun v15 =>
 K1 (fun v17 h18 =>
 KL (fun w20 h21 =>
 j12 [] h21) fun j19 =>
 ifP v17 (
 finP [.keep] h h18 [(.int .i64 5 : PV)]) (
 j19 [] h18)) fun j16 =>
 scP v15 false (
 (binP .gtr x2 (.int .i64 4096 : PV)).bind fun v22 =>
 j16 v22 h6)
 (j16 (.bool true) h6)))) fun j4 =>
 scP v3 true (
 (binP .neq x1 (.int .i64 16 : PV)).bind fun v23 =>
 j4 v23 h)
 (j4 (.bool false) h)

theorem s39_eq (Γ : PCallee) (n : Nat) (x0 : PV) (x1 : PV) (x2 : PV) (h : PHeap) : pfunK Γ n A39 [x0, x1, x2] h = s39 Γ n x0 x1 x2 h := by kernel_rfl


/-- orchestrion/pack.padded -/
def A40 : PFun := ⟨2, 21,
 (.seq (.region false (.op (some 4) (.a (.move (.const (.slice none 0 0)))) false
  (.op (some 5) (.a (.move (.const (.int .i64 0)))) false
  .nil)))
  (.seq (.region false (.op (some 6) (.a (.move (.tmp 0))) false
  (.op (some 7) (.a (.move (.tmp 0))) false
  (.op (some 8) (.a (.len false (.tmp 7))) false
  (.op (some 9) (.a (.move (.tmp 1))) false
  (.op (some 10) (.a (.min [(.tmp 8), (.tmp 9)])) false
  (.op (some 11) (.a (.slice 1 (.tmp 6) none (some (.tmp 10)) none)) false
  (.op (some 0) (.a (.move (.tmp 11))) false
  .nil))))))))
  (.seq (.region false (.op (some 12) (.a (.move (.tmp 1))) false
  (.op (some 13) (.a (.move (.tmp 0))) false
  (.op (some 14) (.a (.len false (.tmp 13))) false
  (.op (some 15) (.a (.bin .sub (.tmp 12) (.tmp 14))) false
  (.op (some 5) (.a (.move (.tmp 15))) false
  .nil))))))
  (.seq (.region false (.op (some 16) (.a (.move (.tmp 0))) false
  (.op (some 17) (.a (.call 49 [(.tmp 16)])) false
  (.op (some 18) (.a (.move (.tmp 5))) false
  (.op (some 19) (.a (.appendN 3 1 [(.int .i64 0)] (.tmp 17) (.tmp 18))) false
  (.op (some 20) (.a (.move (.tmp 5))) false
  (.op (some 4) (.a (.move (.tmp 19))) false
  (.op (some 5) (.a (.move (.tmp 20))) false
  .nil))))))))
  .ret)))),
 [.tmp 4, .tmp 5], [(.flat 1), .keep]⟩
theorem ok40 : ∃ fn c, FunOk Try.prog 40 fn c A40.erase := ⟨Try.f40, _, ⟨Try.func40, rfl, by kernel_rfl, by kernel_rfl, by kernel_rfl, of_decide_eq_true (by kernel_rfl), by kernel_rfl⟩⟩
noncomputable def s40 (Γ : PCallee) (n : Nat) (x0 : PV) (x1 : PV) (h : PHeap) : Pt :=
 (lenP false x0).bind fun v0 =>
 (fold1P min2P [v0, x1]).bind fun v1 =>
 (sliceP 1 x0 none (some v1) none).bind fun v2 =>
 (lenP false v2).bind fun v3 =>
 (binP .sub x1 v3).bind fun v4 =>
 (Γ 49 [v2] h).bind fun p5 =>
 (appendNP 3 1 [.int .i64 0] p5.1 v4 p5.2).bind fun p6 =>
 finP [(.flat 1), .keep] h p6.2 [p6.1, v4]

theorem s40_eq (Γ : PCallee) (n : Nat) (x0 : PV) (x1 : PV) (h : PHeap) : pfunK Γ n A40 [x0, x1] h = s40 Γ n x0 x1 h := by kernel_rfl


/-- orchestrion/pack.sums -/
def A41 : PFun := ⟨2, 29,
 (.seq (.region false (.op (some 4) (.a (.move (.const (.slice none 0 0)))) false
  .nil))
  (.seq (.region false (.op (some 9) (.a (.move (.tmp 0))) false
  (.op (some 10) (.a (.len false (.tmp 9))) false
  (.op (some 11) (.a (.mkSlice 3 [(.int .i64 0)] (.const (.int .i64 0)) (.tmp 10))) false
  (.op (some 5) (.a (.move (.tmp 11))) false
  .nil)))))
  (.seq (.region false (.op (some 6) (.a (.move (.const (.int .i64 0)))) false
  .nil))
  (.seq (.seq (.region false (.op (some 12) (.a (.move (.tmp 0))) false
  (.op (some 13) (.a (.len false (.tmp 12))) false
  (.op (some 14) (.a (.move (.const (.int .i64 0)))) false
  .nil))))
  (.block 0 [5] [6, 8, 14, 15, 16, 17, 18, 19, 20, 21, 22, 23, 24, 25, 26, 27]
  (.loop [5, 6, 14] [8, 15, 16, 17, 18, 19, 20, 21, 22, 23, 24, 25, 26, 27]
  (.seq (.region false (.op (some 15) (.a (.bin .lss (.tmp 14) (.tmp 13))) false
  .nil))
  (.seq (.cond (.tmp 15) [] []
  .skip
  (.exit 0))
  (.seq (.block 1 [5, 6] [8, 16, 17, 18, 19, 20, 21, 22, 23, 24, 25, 26]
  (.seq (.region false (.op (some 16) (.a (.indexAddr 1 (.tmp 12) (.tmp 14))) false
  (.op (some 17) (.a (.load false 1 (.tmp 16))) false
  (.op (some 8) (.a (.move (.tmp 17))) false
  .nil))))
  (.seq (.region false (.op (some 18) (.a (.move (.tmp 6))) false
  (.op (some 19) (.a (.move (.tmp 8))) false
  (.op (some 20) (.a (.bin .add (.tmp 18) (.tmp 19))) false
  (.op (some 21) (.a (.move (.tmp 1))) false
  (.op (some 22) (.a (.call 38 [(.tmp 20), (.tmp 21)])) false
  (.op (some 6) (.a (.move (.tmp 22))) false
  .nil)))))))
  (.region false (.op (some 23) (.a (.move (.tmp 5))) false
  (.op (some 24) (.a (.move (.tmp 6))) false
  (.op (some 25) (.buildF 3 [(.int .i64 0)] 1 [(0, 1, (.tmp 24))]) false
  (.op (some 26) (.a (.append 3 1 (.tmp 23) (.tmp 25))) false
  (.op (some 5) (.a (.move (.tmp 26))) false
  .nil)))))))))
  (.region false (.op (some 27) (.a (.bin .add (.tmp 14) (.const (.int .i64 1)))) false
  (.op (some 14) (.a (.move (.tmp 27))) false
  .nil)))))))))
  (.seq (.region false (.op (some 28) (.a (.move (.tmp 5))) false
  (.op (some 4) (.a (.move (.tmp 28))) false
  .nil)))
  .ret))))),
 [.tmp 4], [(.flat 1)]⟩
theorem ok41 : ∃ fn c, FunOk Try.prog 41 fn c A41.erase := ⟨Try.f41, _, ⟨Try.func41, rfl, by kernel_rfl, by kernel_rfl, by kernel_rfl, of_decide_eq_true (by kernel_rfl), by kernel_rfl⟩⟩
noncomputable def s41_L0 (Γ : PCallee) (n : Nat) (x0 : PV) (x1 : PV) (p1 : PV × PHeap) (v2 : PV) (j3 : List PV → PHeap → Pt) : (List PV → PHeap → Pt) → List PV → PHeap → Pt := fun c6 w7 h8 =>
 (binP .lss (nthP w7 2) v2).bind fun v9 =>
 KL (fun w11 h12 =>
 KL (fun w14 h15 =>
 (binP .add (nthP w7 2) (.int .i64 1 : PV)).bind fun v16 =>
 c6 [(nthP w14 0), (nthP w14 1), v16] (trim p1.2 [(nthP w14 0), (nthP w14 1), v16] h15)) fun j13 =>
 (indexAddrP 1 x0 (nthP w7 2)).bind fun v17 =>
 (loadP false 1 v17 h12).bind fun v18 =>
 (binP .add (nthP w7 1) v18).bind fun v19 =>
 (Γ 38 [v19, x1] h12).bind fun p20 =>
 (fillP (repP [.int .i64 0] 1) [(0, 1, p20.1)]).bind fun l21 =>
 guardP (l21.all pure1) (
 forkP (.frz 1 (chunk 1 1 l21)) (p20.2) fun v22 h23 =>
 (appendP 3 1 (nthP w7 0) v22 h23).bind fun p24 =>
 j13 [p24.1, p20.1] p24.2)) fun j10 =>
 ifP v9 (
 j10 [] h8) (
 j3 [(nthP w7 0)] h8)
noncomputable def s41 (Γ : PCallee) (n : Nat) (x0 : PV) (x1 : PV) (h : PHeap) : Pt :=
 (lenP false x0).bind fun v0 =>
 (mkSliceP 3 [.int .i64 0] (.int .i64 0 : PV) v0 h).bind fun p1 =>
 (lenP false x0).bind fun v2 =>
 KL (fun w4 h5 =>
 finP [(.flat 1)] h h5 [(nthP w4 0)]) fun j3 =>
 loopP (s41_L0 Γ n x0 x1 p1 v2 j3) n [p1.1, (.int .i64 0 : PV), (.int .i64 0 : PV)] p1.2

theorem s41_eq (Γ : PCallee) (n : Nat) (x0 : PV) (x1 : PV) (h : PHeap) : pfunK Γ n A41 [x0, x1] h = s41 Γ n x0 x1 h := by kernel_rfl


/-- orchestrion/orchestrionref03.asked -/
def A42 : PFun := ⟨2, 16,
 (.seq (.region false (.op (some 4) (.a (.move (.const (.int .i64 0)))) false
  .nil))
  (.seq (.block 0 [] [4, 5, 6, 7, 8, 9, 10, 11, 12, 13, 14, 15]
  (.seq (.region false (.op (some 6) (.a (.move (.tmp 0))) false
  (.op (some 7) (.a (.len false (.tmp 6))) false
  (.op (some 8) (.a (.bin .gtr (.tmp 7) (.const (.int .i64 400000)))) false
  (.op (some 5) (.a (.move (.tmp 8))) false
  .nil)))))
  (.cond (.tmp 5) [] [4, 9, 10, 11, 12, 13, 14, 15]
  (.seq (.region false (.op (some 4) (.a (.move (.const (.int .i64 3)))) false
  .nil))
  .ret)
  (.seq (.region false (.op (some 10) (.a (.move (.tmp 1))) false
  (.op (some 11) (.a (.bin .lss (.tmp 10) (.const (.int .i64 0)))) false
  (.op (some 12) (.a (.move (.tmp 11))) false
  (.sc 15 12 false [13, 14]
  (.op (some 13) (.a (.move (.tmp 1))) false
  (.op (some 14) (.a (.bin .gtr (.tmp 13) (.const (.int .i64 4096)))) false
  .nil)) (.tmp 14)
  (.op (some 9) (.a (.move (.tmp 15))) false
  .nil))))))
  (.cond (.tmp 9) [] [4]
  (.seq (.region false (.op (some 4) (.a (.move (.const (.int .i64 5)))) false
  .nil))
  .ret)
  .skip)))))
  (.seq (.region false (.op (some 4) (.a (.move (.const (.int .i64 0)))) false
  .nil))
  .ret))),
 [.tmp 4], [.keep]⟩
theorem ok42 : ∃ fn c, FunOk Try.prog 42 fn c A42.erase := ⟨Try.f42, _, ⟨Try.func42, rfl, by kernel_rfl, by kernel_rfl, by kernel_rfl, of_decide_eq_true (by kernel_rfl), by kernel_rfl⟩⟩
noncomputable def s42 (Γ : PCallee) (n : Nat) (x0 : PV) (x1 : PV) (h : PHeap) : Pt :=
 KL (fun w1 h2 =>
 finP [.keep] h h2 [(.int .i64 0 : PV)]) fun j0 =>
 (lenP false x0).bind fun v3 =>
 (binP .gtr v3 (.int .i64 400000 : PV)).bind fun v4 =>
 KL (fun w6 h7 =>
 j0 [] h7) fun j5 =>
 ifP v4 (
 finP [.keep] h h [(.int .i64 3 : PV)]) (
 (binP .lss x1 (.int .i64 0 : PV)).bind fun v8 =>
 K1 (fun v10 h11 =>
 KL (fun w13 h14 =>
 j5 [] h14) fun j12 =>
 ifP v10 (
 finP [.keep] h h11 [(.int .i64 5 : PV)]) (
 j12 [] h11)) fun j9 =>
 scP v8 false (
 (binP .gtr x1 (.int .i64 4096 : PV)).bind fun v15 =>
 j9 v15 h)
 (j9 (.bool true) h))

theorem s42_eq (Γ : PCallee) (n : Nat) (x0 : PV) (x1 : PV) (h : PHeap) : pfunK Γ n A42 [x0, x1] h = s42 Γ n x0 x1 h := by kernel_rfl


/-- orchestrion/orchestrionref03.wrap -/
def A43 : PFun := ⟨2, 17,
 (.seq (.region false (.op (some 4) (.a (.move (.const (.int .i64 0)))) false
  .nil))
  (.seq (.region false (.op (some 6) (.a (.move (.tmp 1))) false
  (.op (some 7) (.a (.bin .sub (.tmp 6) (.const (.int .i64 1)))) false
  (.op (some 8) (.a (.bin .shl (.const (.int .i64 1)) (.tmp 7))) false
  (.op (some 5) (.a (.move (.tmp 8))) false
  .nil)))))
  (.seq (.region false (.op (some 9) (.a (.move (.tmp 0))) false
  (.op (some 10) (.a (.move (.tmp 5))) false
  (.op (some 11) (.a (.bin .add (.tmp 9) (.tmp 10))) false
  (.op (some 12) (.a (.move (.tmp 5))) false
  (.op (some 13) (.a (.bin .mul (.const (.int .i64 2)) (.tmp 12))) false
  (.op (some 14) (.a (.call 60 [(.tmp 11), (.tmp 13)])) false
  (.op (some 15) (.a (.move (.tmp 5))) false
  (.op (some 16) (.a (.bin .sub (.tmp 14) (.tmp 15))) false
  (.op (some 4) (.a (.move (.tmp 16))) false
  .nil))))))))))
  .ret))),
 [.tmp 4], [.keep]⟩
theorem ok43 : ∃ fn c, FunOk Try.prog 43 fn c A43.erase := ⟨Try.f43, _, ⟨Try.func43, rfl, by kernel_rfl, by kernel_rfl, by kernel_rfl, of_decide_eq_true (by kernel_rfl), by kernel_rfl⟩⟩
noncomputable def s43 (Γ : PCallee) (n : Nat) (x0 : PV) (x1 : PV) (h : PHeap) : Pt :=
 (binP .sub x1 (.int .i64 1 : PV)).bind fun v0 =>
 (binP .shl (.int .i64 1 : PV) v0).bind fun v1 =>
 (binP .add x0 v1).bind fun v2 =>
 (binP .mul (.int .i64 2 : PV) v1).bind fun v3 =>
 (Γ 60 [v2, v3] h).bind fun p4 =>
 (binP .sub p4.1 v1).bind fun v5 =>
 finP [.keep] h p4.2 [v5]

theorem s43_eq (Γ : PCallee) (n : Nat) (x0 : PV) (x1 : PV) (h : PHeap) : pfunK Γ n A43 [x0, x1] h = s43 Γ n x0 x1 h := by kernel_rfl


/-- orchestrion/orchestrionref03.filled -/
def A44 : PFun := ⟨2, 13,
 (.seq (.region false (.op (some 4) (.a (.move (.const (.slice none 0 0)))) false
  .nil))
  (.seq (.region false (.op (some 5) (.a (.buildSlice 3 [] 0 [])) false
  (.op (some 6) (.a (.move (.tmp 0))) false
  (.op (some 7) (.a (.append 3 1 (.tmp 5) (.tmp 6))) false
  (.op (some 8) (.a (.move (.tmp 1))) false
  (.op (some 9) (.a (.move (.tmp 0))) false
  (.op (some 10) (.a (.len false (.tmp 9))) false
  (.op (some 11) (.a (.bin .sub (.tmp 8) (.tmp 10))) false
  (.op (some 12) (.a (.appendN 3 1 [(.int .i64 0)] (.tmp 7) (.tmp 11))) false
  (.op (some 4) (.a (.move (.tmp 12))) false
  .nil))))))))))
  .ret)),
 [.tmp 4], [(.flat 1)]⟩
theorem ok44 : ∃ fn c, FunOk Try.prog 44 fn c A44.erase := ⟨Try.f44, _, ⟨Try.func44, rfl, by kernel_rfl, by kernel_rfl, by kernel_rfl, of_decide_eq_true (by kernel_rfl), by kernel_rfl⟩⟩
noncomputable def s44 (Γ : PCallee) (n : Nat) (x0 : PV) (x1 : PV) (h : PHeap) : Pt :=
 (appendP 3 1 PV.emp x0 h).bind fun p0 =>
 (lenP false x0).bind fun v1 =>
 (binP .sub x1 v1).bind fun v2 =>
 (appendNP 3 1 [.int .i64 0] p0.1 v2 p0.2).bind fun p3 =>
 finP [(.flat 1)] h p3.2 [p3.1]

theorem s44_eq (Γ : PCallee) (n : Nat) (x0 : PV) (x1 : PV) (h : PHeap) : pfunK Γ n A44 [x0, x1] h = s44 Γ n x0 x1 h := by kernel_rfl


/-- orchestrion/orchestrionref03.sums -/
def A45 : PFun := ⟨2, 30,
 (.seq (.region false (.op (some 4) (.a (.move (.const (.slice none 0 0)))) false
  .nil))
  (.seq (.region false (.op (some 8) (.a (.move (.tmp 0))) false
  (.op (some 9) (.a (.len false (.tmp 8))) false
  (.op (some 10) (.a (.mkSlice 3 [(.int .i64 0)] (.tmp 9) (.tmp 9))) false
  (.op (some 5) (.a (.move (.tmp 10))) false
  .nil)))))
  (.seq (.region false (.op (some 6) (.a (.move (.const (.int .i64 0)))) false
  .nil))
  (.seq (.seq (.region false (.op (some 7) (.a (.move (.const (.int .i64 0)))) false
  .nil))
  (.block 0 [] [6, 7, 11, 12, 13, 14, 15, 16, 17, 18, 19, 20, 21, 22, 23, 24, 25, 26, 27, 28]
  (.loop [6, 7] [11, 12, 13, 14, 15, 16, 17, 18, 19, 20, 21, 22, 23, 24, 25, 26, 27, 28]
  (.seq (.seq (.region false (.op (some 11) (.a (.move (.tmp 7))) false
  (.op (some 12) (.a (.move (.tmp 0))) false
  (.op (some 13) (.a (.len false (.tmp 12))) false
  (.op (some 14) (.a (.bin .lss (.tmp 11) (.tmp 13))) false
  .nil)))))
  (.cond (.tmp 14) [] []
  .skip
  (.exit 0)))
  (.seq (.block 1 [6] [17, 18, 19, 20, 21, 22, 23, 24, 25, 26, 27, 28]
  (.seq (.region false (.op (some 17) (.a (.move (.tmp 6))) false
  (.op (some 18) (.a (.move (.tmp 0))) false
  (.op (some 19) (.a (.move (.tmp 7))) false
  (.op (some 20) (.a (.indexAddr 1 (.tmp 18) (.tmp 19))) false
  (.op (some 21) (.a (.load false 1 (.tmp 20))) false
  (.op (some 22) (.a (.bin .add (.tmp 17) (.tmp 21))) false
  (.op (some 23) (.a (.move (.tmp 1))) false
  (.op (some 24) (.a (.call 43 [(.tmp 22), (.tmp 23)])) false
  (.op (some 6) (.a (.move (.tmp 24))) false
  .nil))))))))))
  (.region false (.op (some 25) (.a (.move (.tmp 5))) false
  (.op (some 26) (.a (.move (.tmp 7))) false
  (.op (some 27) (.a (.move (.tmp 6))) false
  (.op (some 28) (.a (.indexAddr 1 (.tmp 25) (.tmp 26))) false
  (.op none (.a (.store 1 (.tmp 28) (.tmp 27))) false
  .nil))))))))
  (.region false (.op (some 15) (.a (.move (.tmp 7))) false
  (.op (some 16) (.a (.bin .add (.tmp 15) (.const (.int .i64 1)))) false
  (.op (some 7) (.a (.move (.tmp 16))) false
  .nil)))))))))
  (.seq (.region false (.op (some 29) (.a (.move (.tmp 5))) false
  (.op (some 4) (.a (.move (.tmp 29))) false
  .nil)))
  .ret))))),
 [.tmp 4], [(.flat 1)]⟩
theorem ok45 : ∃ fn c, FunOk Try.prog 45 fn c A45.erase := ⟨Try.f45, _, ⟨Try.func45, rfl, by kernel_rfl, by kernel_rfl, by kernel_rfl, of_decide_eq_true (by kernel_rfl), by kernel_rfl⟩⟩
noncomputable def s45_L0 (Γ : PCallee) (n : Nat) (x0 : PV) (x1 : PV) (p1 : PV × PHeap) (j2 : List PV → PHeap → Pt) : (List PV → PHeap → Pt) → List PV → PHeap → Pt := fun c5 w6 h7 =>
 (lenP false x0).bind fun v8 =>
 (binP .lss (nthP w6 1) v8).bind fun v9 =>
 KL (fun w11 h12 =>
 KL (fun w14 h15 =>
 (binP .add (nthP w6 1) (.int .i64 1 : PV)).bind fun v16 =>
 c5 [(nthP w14 0), v16] (trim p1.2 [(nthP w14 0), v16] h15)) fun j13 =>
 (indexAddrP 1 x0 (nthP w6 1)).bind fun v17 =>
 (loadP false 1 v17 h12).bind fun v18 =>
 (binP .add (nthP w6 0) v18).bind fun v19 =>
 (Γ 43 [v19, x1] h12).bind fun p20 =>
 (indexAddrP 1 p1.1 (nthP w6 1)).bind fun v21 =>
 (storeP 1 v21 p20.1 p20.2).bind fun h22 =>
 j13 [p20.1] h22) fun j10 =>
 ifP v9 (
 j10 [] h7) (
 j2 [] h7)
noncomputable def s45 (Γ : PCallee) (n : Nat) (x0 : PV) (x1 : PV) (h : PHeap) : Pt :=
 (lenP false x0).bind fun v0 =>
 (mkSliceP 3 [.int .i64 0] v0 v0 h).bind fun p1 =>
 KL (fun w3 h4 =>
 finP [(.flat 1)] h h4 [p1.1]) fun j2 =>
 loopP (s45_L0 Γ n x0 x1 p1 j2) n [(.int .i64 0 : PV), (.int .i64 0 : PV)] p1.2

theorem s45_eq (Γ : PCallee) (n : Nat) (x0 : PV) (x1 : PV) (h : PHeap) : pfunK Γ n A45 [x0, x1] h = s45 Γ n x0 x1 h := by kernel_rfl


/-- orchestrion/orchestrionref03.Undone -/
def A46 : PFun := ⟨4, 126,
 (.seq (.region false (.op (some 8) (.a (.move (.const (.slice none 0 0)))) false
  (.op (some 9) (.a (.move (.const (.int .i64 0)))) false
  (.op (some 10) (.a (.move (.const (.bool false)))) false
  .nil))))
  (.seq (.region false (.op (some 11) (.growNil 3 1) false
  .nil))
  (.seq (.block 0 [9, 10, 11] [12, 13, 14, 15, 16, 17, 18, 19, 20, 21, 22, 23, 24, 25, 26, 27, 28, 29, 30, 31, 32, 33, 34, 35, 36, 37, 38, 39, 40, 41, 42, 43, 44, 45, 46, 47, 48, 49, 50, 51, 52, 53, 54, 55, 56, 57, 58, 59, 60, 61, 62, 63, 64, 65, 66, 67, 68, 69, 70, 71, 72, 73, 74, 75, 76, 77, 78, 79, 80, 81, 82, 83, 84, 85, 86, 87, 88, 89, 90, 91, 92, 93, 94, 95, 96, 97, 98, 99, 100, 101, 102, 103, 104, 105, 106, 107, 108, 109, 110, 111, 112, 113, 114]
  (.loop [9, 10, 11, 26, 27, 28, 29, 39, 40, 41] [12, 13, 14, 15, 16, 17, 18, 19, 20, 21, 22, 23, 24, 25, 30, 31, 32, 33, 34, 35, 36, 37, 38, 42, 43, 44, 45, 46, 47, 48, 49, 50, 51, 52, 53, 54, 55, 56, 57, 58, 59, 60, 61, 62, 63, 64, 65, 66, 67, 68, 69, 70, 71, 72, 73, 74, 75, 76, 77, 78, 79, 80, 81, 82, 83, 84, 85, 86, 87, 88, 89, 90, 91, 92, 93, 94, 95, 96, 97, 98, 99, 100, 101, 102, 103, 104, 105, 106, 107, 108, 109, 110, 111, 112, 113, 114]
  (.seq (.seq (.region false (.op (some 21) (.a (.move (.tmp 11))) false
  (.op (some 22) (.a (.len false (.tmp 21))) false
  (.op (some 23) (.a (.move (.tmp 3))) false
  (.op (some 24) (.a (.bin .lss (.tmp 22) (.tmp 23))) false
  (.op (some 25) (.a (.move (.tmp 24))) false
  (.sc 30 25 true [26, 27, 28, 29]
  (.op (some 26) (.a (.move (.tmp 9))) false
  (.op (some 27) (.a (.move (.tmp 0))) false
  (.op (some 28) (.a (.len false (.tmp 27))) false
  (.op (some 29) (.a (.bin .lss (.tmp 26) (.tmp 28))) false
  .nil)))) (.tmp 29)
  .nil)))))))
  (.cond (.tmp 30) [] []
  .skip
  (.exit 0)))
  (.block 1 [9, 10, 11, 39, 40, 41] [12, 13, 14, 15, 16, 17, 18, 19, 20, 31, 32, 33, 34, 35, 36, 37, 38, 42, 43, 44, 45, 46, 47, 48, 49, 50, 51, 52, 53, 54, 55, 56, 57, 58, 59, 60, 61, 62, 63, 64, 65, 66, 67, 68, 69, 70, 71, 72, 73, 74, 75, 76, 77, 78, 79, 80, 81, 82, 83, 84, 85, 86, 87, 88, 89, 90, 91, 92, 93, 94, 95, 96, 97, 98, 99, 100, 101, 102, 103, 104, 105, 106, 107, 108, 109, 110, 111, 112, 113, 114]
  (.seq (.region false (.op (some 31) (.a (.move (.tmp 0))) false
  (.op (some 32) (.a (.move (.tmp 9))) false
  (.op (some 33) (.a (.indexAddr 1 (.tmp 31) (.tmp 32))) false
  (.op (some 34) (.a (.load false 1 (.tmp 33))) false
  (.op (some 35) (.a (.conv .i64 (.tmp 34))) false
  (.op (some 12) (.a (.move (.tmp 35))) false
  .nil)))))))
  (.seq (.seq (.region false (.op (some 36) (.a (.move (.tmp 12))) false
  (.op (some 37) (.a (.bin .lss (.tmp 36) (.const (.int .i64 1)))) false
  (.op (some 38) (.a (.move (.tmp 37))) false
  (.sc 42 38 false [39, 40, 41]
  (.op (some 39) (.a (.move (.tmp 12))) false
  (.op (some 40) (.a (.move (.tmp 1))) false
  (.op (some 41) (.a (.bin .gtr (.tmp 39) (.tmp 40))) false
  .nil))) (.tmp 41)
  .nil)))))
  (.cond (.tmp 42) [10] []
  (.seq (.region false (.op (some 10) (.a (.move (.const (.bool true)))) false
  .nil))
  (.exit 0))
  .skip))
  (.seq (.region false (.op (some 43) (.a (.move (.tmp 3))) false
  (.op (some 44) (.a (.move (.tmp 11))) false
  (.op (some 45) (.a (.len false (.tmp 44))) false
  (.op (some 46) (.a (.bin .sub (.tmp 43) (.tmp 45))) false
  (.op (some 47) (.a (.min [(.const (.int .i64 256)), (.tmp 46)])) false
  (.op (some 13) (.a (.move (.tmp 47))) false
  .nil)))))))
  (.seq (.region false (.op (some 48) (.a (.move (.tmp 13))) false
  (.op (some 49) (.a (.move (.tmp 12))) false
  (.op (some 50) (.a (.bin .mul (.tmp 48) (.tmp 49))) false
  (.op (some 51) (.a (.bin .add (.tmp 50) (.const (.int .i64 7)))) false
  (.op (some 52) (.a (.bin .quo (.tmp 51) (.const (.int .i64 8)))) false
  (.op (some 14) (.a (.move (.tmp 52))) false
  .nil)))))))
  (.seq (.region false (.op (some 53) (.a (.move (.tmp 0))) false
  (.op (some 54) (.a (.move (.tmp 9))) false
  (.op (some 55) (.a (.bin .add (.tmp 54) (.const (.int .i64 1)))) false
  (.op (some 56) (.a (.slice 1 (.tmp 53) (some (.tmp 55)) none none)) false
  (.op (some 15) (.a (.move (.tmp 56))) false
  .nil))))))
  (.seq (.seq (.region false (.op (some 57) (.a (.move (.tmp 14))) false
  (.op (some 58) (.a (.move (.tmp 15))) false
  (.op (some 59) (.a (.len false (.tmp 58))) false
  (.op (some 60) (.a (.bin .gtr (.tmp 57) (.tmp 59))) false
  .nil)))))
  (.cond (.tmp 60) [13, 14] [61, 62, 63, 64, 65, 66, 67]
  (.seq (.region false (.op (some 61) (.a (.move (.tmp 15))) false
  (.op (some 62) (.a (.len false (.tmp 61))) false
  (.op (some 63) (.a (.bin .mul (.tmp 62) (.const (.int .i64 8)))) false
  (.op (some 64) (.a (.move (.tmp 12))) false
  (.op (some 65) (.a (.bin .quo (.tmp 63) (.tmp 64))) false
  (.op (some 13) (.a (.move (.tmp 65))) false
  .nil)))))))
  (.region false (.op (some 66) (.a (.move (.tmp 15))) false
  (.op (some 67) (.a (.len false (.tmp 66))) false
  (.op (some 14) (.a (.move (.tmp 67))) false
  .nil)))))
  .skip))
  (.seq (.region false (.op (some 68) (.a (.move (.tmp 13))) false
  (.op (some 69) (.a (.move (.tmp 3))) false
  (.op (some 70) (.a (.move (.tmp 11))) false
  (.op (some 71) (.a (.len false (.tmp 70))) false
  (.op (some 72) (.a (.bin .sub (.tmp 69) (.tmp 71))) false
  (.op (some 73) (.a (.min [(.const (.int .i64 256)), (.tmp 72)])) false
  (.op (some 74) (.a (.bin .lss (.tmp 68) (.tmp 73))) false
  (.op (some 16) (.a (.move (.tmp 74))) false
  .nil)))))))))
  (.seq (.seq (.region false (.op (some 17) (.a (.move (.const (.int .i64 0)))) false
  .nil))
  (.block 2 [11] [17, 18, 19, 20, 75, 76, 77, 78, 79, 80, 81, 82, 83, 84, 85, 86, 87, 88, 89, 90, 91, 92, 93, 94, 95, 96, 97, 98, 99, 100, 101, 102, 103, 104, 105, 106, 107, 108, 109]
  (.loop [11, 17] [18, 19, 20, 75, 76, 77, 78, 79, 80, 81, 82, 83, 84, 85, 86, 87, 88, 89, 90, 91, 92, 93, 94, 95, 96, 97, 98, 99, 100, 101, 102, 103, 104, 105, 106, 107, 108, 109]
  (.seq (.seq (.region false (.op (some 75) (.a (.move (.tmp 17))) false
  (.op (some 76) (.a (.move (.tmp 13))) false
  (.op (some 77) (.a (.bin .lss (.tmp 75) (.tmp 76))) false
  .nil))))
  (.cond (.tmp 77) [] []
  .skip
  (.exit 2)))
  (.seq (.block 3 [11] [18, 19, 20, 80, 81, 82, 83, 84, 85, 86, 87, 88, 89, 90, 91, 92, 93, 94, 95, 96, 97, 98, 99, 100, 101, 102, 103, 104, 105, 106, 107, 108, 109]
  (.seq (.region false (.op (some 18) (.a (.move (.const (.int .i64 0)))) false
  .nil))
  (.seq (.seq (.region false (.op (some 19) (.a (.move (.const (.int .i64 0)))) false
  .nil))
  (.block 4 [18] [19, 20, 80, 81, 82, 83, 84, 85, 86, 87, 88, 89, 90, 91, 92, 93, 94, 95, 96, 97, 98, 99, 100, 101, 102, 103]
  (.loop [18, 19] [20, 80, 81, 82, 83, 84, 85, 86, 87, 88, 89, 90, 91, 92, 93, 94, 95, 96, 97, 98, 99, 100, 101, 102, 103]
  (.seq (.seq (.region false (.op (some 80) (.a (.move (.tmp 19))) false
  (.op (some 81) (.a (.move (.tmp 12))) false
  (.op (some 82) (.a (.bin .lss (.tmp 80) (.tmp 81))) false
  .nil))))
  (.cond (.tmp 82) [] []
  .skip
  (.exit 4)))
  (.seq (.block 5 [18] [20, 85, 86, 87, 88, 89, 90, 91, 92, 93, 94, 95, 96, 97, 98, 99, 100, 101, 102, 103]
  (.seq (.region false (.op (some 85) (.a (.move (.tmp 17))) false
  (.op (some 86) (.a (.move (.tmp 12))) false
  (.op (some 87) (.a (.bin .mul (.tmp 85) (.tmp 86))) false
  (.op (some 88) (.a (.move (.tmp 19))) false
  (.op (some 89) (.a (.bin .add (.tmp 87) (.tmp 88))) false
  (.op (some 20) (.a (.move (.tmp 89))) false
  .nil)))))))
  (.region false (.op (some 90) (.a (.move (.tmp 18))) false
  (.op (some 91) (.a (.move (.tmp 15))) false
  (.op (some 92) (.a (.move (.tmp 20))) false
  (.op (some 93) (.a (.bin .quo (.tmp 92) (.const (.int .i64 8)))) false
  (.op (some 94) (.a (.indexAddr 1 (.tmp 91) (.tmp 93))) false
  (.op (some 95) (.a (.load false 1 (.tmp 94))) false
  (.op (some 96) (.a (.move (.tmp 20))) false
  (.op (some 97) (.a (.bin .rem (.tmp 96) (.const (.int .i64 8)))) false
  (.op (some 98) (.a (.bin .shr (.tmp 95) (.tmp 97))) false
  (.op (some 99) (.a (.bin .and (.tmp 98) (.const (.int .u8 1)))) false
  (.op (some 100) (.a (.conv .i64 (.tmp 99))) false
  (.op (some 101) (.a (.move (.tmp 19))) false
  (.op (some 102) (.a (.bin .shl (.tmp 100) (.tmp 101))) false
  (.op (some 103) (.a (.bin .add (.tmp 90) (.tmp 102))) false
  (.op (some 18) (.a (.move (.tmp 103))) false
  .nil))))))))))))))))))
  (.region false (.op (some 83) (.a (.move (.tmp 19))) false
  (.op (some 84) (.a (.bin .add (.tmp 83) (.const (.int .i64 1)))) false
  (.op (some 19) (.a (.move (.tmp 84))) false
  .nil)))))))))
  (.region false (.op (some 104) (.a (.move (.tmp 11))) false
  (.op (some 105) (.a (.move (.tmp 18))) false
  (.op (some 106) (.a (.move (.tmp 12))) false
  (.op (some 107) (.a (.call 43 [(.tmp 105), (.tmp 106)])) false
  (.op (some 108) (.buildF 3 [(.int .i64 0)] 1 [(0, 1, (.tmp 107))]) false
  (.op (some 109) (.a (.append 3 1 (.tmp 104) (.tmp 108))) false
  (.op (some 11) (.a (.move (.tmp 109))) false
  .nil)))))))))))
  (.region false (.op (some 78) (.a (.move (.tmp 17))) false
  (.op (some 79) (.a (.bin .add (.tmp 78) (.const (.int .i64 1)))) false
  (.op (some 17) (.a (.move (.tmp 79))) false
  .nil)))))))))
  (.seq (.region false (.op (some 110) (.a (.move (.tmp 9))) false
  (.op (some 111) (.a (.move (.tmp 14))) false
  (.op (some 112) (.a (.bin .add (.const (.int .i64 1)) (.tmp 111))) false
  (.op (some 113) (.a (.bin .add (.tmp 110) (.tmp 112))) false
  (.op (some 9) (.a (.move (.tmp 113))) false
  .nil))))))
  (.seq (.region false (.op (some 114) (.a (.move (.tmp 16))) false
  .nil))
  (.cond (.tmp 114) [] []
  (.exit 0)
  .skip)))))))))))))))
  (.seq (.region false (.op (some 115) (.a (.move (.tmp 11))) false
  (.op (some 116) (.a (.move (.tmp 1))) false
  (.fz 115 (.flat 1)
  (.op (some 117) (.a (.call 45 [(.tmp 115), (.tmp 116)])) false
  (.op (some 11) (.a (.move (.tmp 117))) false
  .nil))))))
  (.seq (.seq (.region false (.op (some 118) (.a (.move (.tmp 2))) false
  (.op (some 119) (.a (.bin .eql (.tmp 118) (.const (.int .i64 2)))) false
  .nil)))
  (.cond (.tmp 119) [11] [120, 121, 122]
  (.region false (.op (some 120) (.a (.move (.tmp 11))) false
  (.op (some 121) (.a (.move (.tmp 1))) false
  (.fz 120 (.flat 1)
  (.op (some 122) (.a (.call 45 [(.tmp 120), (.tmp 121)])) false
  (.op (some 11) (.a (.move (.tmp 122))) false
  .nil))))))
  .skip))
  (.seq (.region false (.op (some 123) (.a (.move (.tmp 11))) false
  (.op (some 124) (.a (.move (.tmp 9))) false
  (.op (some 125) (.a (.move (.tmp 10))) false
  (.op (some 8) (.a (.move (.tmp 123))) false
  (.op (some 9) (.a (.move (.tmp 124))) false
  (.op (some 10) (.a (.move (.tmp 125))) false
  .nil)))))))
  .ret)))))),
 [.tmp 8, .tmp 9, .tmp 10], [(.flat 1), .keep, .keep]⟩
theorem ok46 : ∃ fn c, FunOk Try.prog 46 fn c A46.erase := ⟨Try.f46, _, ⟨Try.func46, rfl, by kernel_rfl, by kernel_rfl, by kernel_rfl, of_decide_eq_true (by kernel_rfl), by kernel_rfl⟩⟩
noncomputable def s46_L0 (Γ : PCallee) (n : Nat) (v29 : PV) (v44 : PV) (w63 : List PV) (h68 : PHeap) (j73 : List PV → PHeap → Pt) : (List PV → PHeap → Pt) → List PV → PHeap → Pt := fun c81 w82 h83 =>
 (binP .lss (nthP w82 1) v29).bind fun v84 =>
 KL (fun w86 h87 =>
 KL (fun w89 h90 =>
 (binP .add (nthP w82 1) (.int .i64 1 : PV)).bind fun v91 =>
 c81 [(nthP w89 0), v91] (trim h68 [(nthP w89 0), v91] h90)) fun j88 =>
 (binP .mul (nthP w63 1) v29).bind fun v92 =>
 (binP .add v92 (nthP w82 1)).bind fun v93 =>
 (binP .quo v93 (.int .i64 8 : PV)).bind fun v94 =>
 (indexAddrP 1 v44 v94).bind fun v95 =>
 (loadP false 1 v95 h87).bind fun v96 =>
 (binP .rem v93 (.int .i64 8 : PV)).bind fun v97 =>
 (binP .shr v96 v97).bind fun v98 =>
 (binP .and v98 (.int .u8 1 : PV)).bind fun v99 =>
 (convP .i64 v99).bind fun v100 =>
 (binP .shl v100 (nthP w82 1)).bind fun v101 =>
 (binP .add (nthP w82 0) v101).bind fun v102 =>
 j88 [v102] h87) fun j85 =>
 ifP v84 (
 j85 [] h83) (
 j73 [(nthP w82 0)] h83)
noncomputable def s46_L1 (Γ : PCallee) (n : Nat) (v29 : PV) (v44 : PV) (w48 : List PV) (h49 : PHeap) (j54 : List PV → PHeap → Pt) : (List PV → PHeap → Pt) → List PV → PHeap → Pt := fun c62 w63 h64 =>
 (binP .lss (nthP w63 1) (nthP w48 0)).bind fun v65 =>
 KL (fun w67 h68 =>
 KL (fun w70 h71 =>
 (binP .add (nthP w63 1) (.int .i64 1 : PV)).bind fun v72 =>
 c62 [(nthP w70 0), v72] (trim h49 [(nthP w70 0), v72] h71)) fun j69 =>
 KL (fun w74 h75 =>
 (Γ 43 [(nthP w74 0), v29] h75).bind fun p76 =>
 (fillP (repP [.int .i64 0] 1) [(0, 1, p76.1)]).bind fun l77 =>
 guardP (l77.all pure1) (
 forkP (.frz 1 (chunk 1 1 l77)) (p76.2) fun v78 h79 =>
 (appendP 3 1 (nthP w63 0) v78 h79).bind fun p80 =>
 j69 [p80.1] p80.2)) fun j73 =>
 loopP (s46_L0 Γ n v29 v44 w63 h68 j73) n [(.int .i64 0 : PV), (.int .i64 0 : PV)] h68) fun j66 =>
 ifP v65 (
 j66 [] h64) (
 j54 [(nthP w63 0)] h64)
noncomputable def s46_L2 (Γ : PCallee) (n : Nat) (x0 : PV) (x1 : PV) (x3 : PV) (h1 : PHeap) (j2 : List PV → PHeap → Pt) : (List PV → PHeap → Pt) → List PV → PHeap → Pt := fun c13 w14 h15 =>
 (lenP false (nthP w14 2)).bind fun v16 =>
 (binP .lss v16 x3).bind fun v17 =>
 K1 (fun v19 h20 =>
 KL (fun w22 h23 =>
 KL (fun w25 h26 =>
 c13 [(nthP w25 0), (nthP w25 1), (nthP w25 2), PV.junk, PV.junk, PV.junk, PV.junk, (nthP w25 3), (nthP w25 4), (nthP w25 5)] (trim h1 [(nthP w25 0), (nthP w25 1), (nthP w25 2), PV.junk, PV.junk, PV.junk, PV.junk, (nthP w25 3), (nthP w25 4), (nthP w25 5)] h26)) fun j24 =>
 (indexAddrP 1 x0 (nthP w14 0)).bind fun v27 =>
 (loadP false 1 v27 h23).bind fun v28 =>
 (convP .i64 v28).bind fun v29 =>
 (binP .lss v29 (.int .i64 1 : PV)).bind fun v30 =>
 K1 (fun v32 h33 =>
 KL (fun w35 h36 =>
 (lenP false (nthP w14 2)).bind fun v37 =>
 (binP .sub x3 v37).bind fun v38 =>
 (fold1P min2P [(.int .i64 256 : PV), v38]).bind fun v39 =>
 (binP .mul v39 v29).bind fun v40 =>
 (binP .add v40 (.int .i64 7 : PV)).bind fun v41 =>
 (binP .quo v41 (.int .i64 8 : PV)).bind fun v42 =>
 (binP .add (nthP w14 0) (.int .i64 1 : PV)).bind fun v43 =>
 (sliceP 1 x0 (some v43) none none).bind fun v44 =>
 (lenP false v44).bind fun v45 =>
 (binP .gtr v42 v45).bind fun v46 =>
 KL (fun w48 h49 =>
 (lenP false (nthP w14 2)).bind fun v50 =>
 (binP .sub x3 v50).bind fun v51 =>
 (fold1P min2P [(.int .i64 256 : PV), v51]).bind fun v52 =>
 (binP .lss (nthP w48 0) v52).bind fun v53 =>
 KL (fun w55 h56 =>
 (binP .add (.int .i64 1 : PV) (nthP w48 1)).bind fun v57 =>
 (binP .add (nthP w14 0) v57).bind fun v58 =>
 KL (fun w60 h61 =>
 j24 [v58, (nthP w35 0), (nthP w55 0), PV.junk, PV.junk, PV.junk] h61) fun j59 =>
 ifP v53 (
 j2 [v58, (nthP w35 0), (nthP w55 0)] h56) (
 j59 [] h56)) fun j54 =>
 loopP (s46_L1 Γ n v29 v44 w48 h49 j54) n [(nthP w14 2), (.int .i64 0 : PV)] h49) fun j47 =>
 ifP v46 (
 (lenP false v44).bind fun v103 =>
 (binP .mul v103 (.int .i64 8 : PV)).bind fun v104 =>
 (binP .quo v104 v29).bind fun v105 =>
 (lenP false v44).bind fun v106 =>
 j47 [v105, v106] h36) (
 j47 [v39, v42] h36)) fun j34 =>
 ifP v32 (
 j2 [(nthP w14 0), (.bool true : PV), (nthP w14 2)] h33) (
 j34 [(nthP w14 1)] h33)) fun j31 =>
 scP v30 false (
 (binP .gtr v29 x1).bind fun v107 =>
 j31 v107 h23)
 (j31 (.bool true) h23)) fun j21 =>
 ifP v19 (
 j21 [] h20) (
 j2 [(nthP w14 0), (nthP w14 1), (nthP w14 2)] h20)) fun j18 =>
 scP v17 true (
 (lenP false x0).bind fun v108 =>
 (binP .lss (nthP w14 0) v108).bind fun v109 =>
 j18 v109 h15)
 (j18 (.bool false) h15)
noncomputable def s46 (Γ : PCallee) (n : Nat) (x0 : PV) (x1 : PV) (x2 : PV) (x3 : PV) (h : PHeap) : Pt :=
 forkP (.ref h.length 0 0 0 1) (h ++ [.log [] 1 3 .rw]) fun v0 h1 =>
 KL (fun w3 h4 =>
 (fz (.flat 1) (nthP w3 2) h4).bind fun q5 =>
 (Γ 45 [q5.1, x1] q5.2).bind fun p6 =>
 (binP .eql x2 (.int .i64 2 : PV)).bind fun v7 =>
 KL (fun w9 h10 =>
 finP [(.flat 1), .keep, .keep] h h10 [(nthP w9 0), (nthP w3 0), (nthP w3 1)]) fun j8 =>
 ifP v7 (
 (fz (.flat 1) p6.1 p6.2).bind fun q11 =>
 (Γ 45 [q11.1, x1] q11.2).bind fun p12 =>
 j8 [p12.1] p12.2) (
 j8 [p6.1] p6.2)) fun j2 =>
 loopP (s46_L2 Γ n x0 x1 x3 h1 j2) n [(.int .i64 0 : PV), (.bool false : PV), v0, undefP, undefP, undefP, undefP, undefP, undefP, undefP] h1

theorem s46_eq (Γ : PCallee) (n : Nat) (x0 : PV) (x1 : PV) (x2 : PV) (x3 : PV) (h : PHeap) : pfunK Γ n A46 [x0, x1, x2, x3] h = s46 Γ n x0 x1 x2 x3 h := by kernel_rfl


/-- slices.Clone[[]int,int] -/
def A49 : PFun := ⟨1, 8,
 (.seq (.region false (.op (some 2) (.a (.move (.const (.slice none 0 0)))) false
  .nil))
  (.seq (.seq (.region false (.op (some 3) (.a (.move (.tmp 0))) false
  (.op (some 4) (.a (.isNil .slice false (.tmp 3))) false
  .nil)))
  (.cond (.tmp 4) [] [2]
  (.seq (.region false (.op (some 2) (.a (.move (.const (.slice none 0 0)))) false
  .nil))
  .ret)
  .skip))
  (.seq (.region false (.op (some 5) (.a (.buildSlice 3 [] 0 [])) false
  (.op (some 6) (.a (.move (.tmp 0))) false
  (.op (some 7) (.a (.append 3 1 (.tmp 5) (.tmp 6))) false
  (.op (some 2) (.a (.move (.tmp 7))) false
  .nil)))))
  .ret))),
 [.tmp 2], [.raw]⟩
theorem ok49 : ∃ fn c, FunOk Try.prog 49 fn c A49.erase := ⟨Try.f49, _, ⟨Try.func49, rfl, by kernel_rfl, by kernel_rfl, by kernel_rfl, of_decide_eq_true (by kernel_rfl), by kernel_rfl⟩⟩
noncomputable def s49 (Γ : PCallee) (n : Nat) (x0 : PV) (h : PHeap) : Pt :=
 isNilK .slice false x0 fun v0 =>
 KL (fun w2 h3 =>
 (appendP 3 1 PV.emp x0 h3).bind fun p4 =>
 finP [.raw] h p4.2 [p4.1]) fun j1 =>
 ifP v0 (
 finP [.raw] h h [(.nilS : PV)]) (
 j1 [] h)

theorem s49_eq (Γ : PCallee) (n : Nat) (x0 : PV) (h : PHeap) : pfunK Γ n A49 [x0] h = s49 Γ n x0 h := by kernel_rfl


/-- orchestrion/orchestrionref03.tabled -/
def A52 : PFun := ⟨1, 19,
 (.seq (.region false (.op (some 2) (.a (.move (.const (.bool false)))) false
  .nil))
  (.seq (.seq (.region false (.op (some 3) (.a (.move (.const (.int .i64 0)))) false
  .nil))
  (.block 0 [] [2, 3, 4, 5, 6, 7, 8, 9, 10, 11, 12, 13, 14, 15]
  (.loop [3] [2, 4, 5, 6, 7, 8, 9, 10, 11, 12, 13, 14, 15]
  (.seq (.seq (.region false (.op (some 4) (.a (.move (.tmp 3))) false
  (.op (some 5) (.a (.move (.tmp 0))) false
  (.op (some 6) (.a (.len false (.tmp 5))) false
  (.op (some 7) (.a (.bin .lss (.tmp 4) (.tmp 6))) false
  .nil)))))
  (.cond (.tmp 7) [] []
  .skip
  (.exit 0)))
  (.seq (.block 1 [] [2, 10, 11, 12, 13, 14, 15]
  (.seq (.region false (.op (some 10) (.a (.move (.tmp 0))) false
  (.op (some 11) (.a (.move (.tmp 3))) false
  (.op (some 12) (.a (.indexAddr 1 (.tmp 10) (.tmp 11))) false
  (.op (some 13) (.a (.load false 1 (.tmp 12))) false
  (.op (some 14) (.a (.call 54 [(.tmp 13), (.const (.int .i64 8))])) false
  (.op (some 15) (.a (.un .not (.tmp 14))) false
  .nil)))))))
  (.cond (.tmp 15) [] [2]
  (.seq (.region false (.op (some 2) (.a (.move (.const (.bool false)))) false
  .nil))
  .ret)
  .skip)))
  (.region false (.op (some 8) (.a (.move (.tmp 3))) false
  (.op (some 9) (.a (.bin .add (.tmp 8) (.const (.int .i64 1)))) false
  (.op (some 3) (.a (.move (.tmp 9))) false
  .nil)))))))))
  (.seq (.region false (.op (some 16) (.a (.move (.tmp 0))) false
  (.op (some 17) (.a (.len false (.tmp 16))) false
  (.op (some 18) (.a (.bin .eql (.tmp 17) (.const (.int .i64 16)))) false
  (.op (some 2) (.a (.move (.tmp 18))) false
  .nil)))))
  .ret))),
 [.tmp 2], [.keep]⟩
theorem ok52 : ∃ fn c, FunOk Try.prog 52 fn c A52.erase := ⟨Try.f52, _, ⟨Try.func52, rfl, by kernel_rfl, by kernel_rfl, by kernel_rfl, of_decide_eq_true (by kernel_rfl), by kernel_rfl⟩⟩
noncomputable def s52_L0 (Γ : PCallee) (n : Nat) (x0 : PV) (h : PHeap) (j0 : List PV → PHeap → Pt) : (List PV → PHeap → Pt) → List PV → PHeap → Pt := fun c5 w6 h7 =>
 (lenP false x0).bind fun v8 =>
 (binP .lss (nthP w6 0) v8).bind fun v9 =>
 KL (fun w11 h12 =>
 KL (fun w14 h15 =>
 (binP .add (nthP w6 0) (.int .i64 1 : PV)).bind fun v16 =>
 c5 [v16] (trim h [v16] h15)) fun j13 =>
 (indexAddrP 1 x0 (nthP w6 0)).bind fun v17 =>
 (loadP false 1 v17 h12).bind fun v18 =>
 (Γ 54 [v18, (.int .i64 8 : PV)] h12).bind fun p19 =>
 (unP .not p19.1).bind fun v20 =>
 KL (fun w22 h23 =>
 j13 [] h23) fun j21 =>
 ifP v20 (
 finP [.keep] h p19.2 [(.bool false : PV)]) (
 j21 [] p19.2)) fun j10 =>
 ifP v9 (
 j10 [] h7) (
 j0 [] h7)
noncomputable def s52 (Γ : PCallee) (n : Nat) (x0 : PV) (h : PHeap) : Pt :=
 KL (fun w1 h2 =>
 (lenP false x0).bind fun v3 =>
 (binP .eql v3 (.int .i64 16 : PV)).bind fun v4 =>
 finP [.keep] h h2 [v4]) fun j0 =>
 loopP (s52_L0 Γ n x0 h j0) n [(.int .i64 0 : PV)] h

theorem s52_eq (Γ : PCallee) (n : Nat) (x0 : PV) (h : PHeap) : pfunK Γ n A52 [x0] h = s52 Γ n x0 h := by kernel_rfl


/-- orchestrion/pack.checkData$1 -/
def A53 : PFun := ⟨2, 16,
 (.seq (.region false (.op (some 3) (.a (.move (.const (.bool false)))) false
  .nil))
  (.seq (.region false (.op (some 4) (.a (.move (.tmp 0))) false
  (.op (some 5) (.a (.load false 1 (.tmp 1))) false
  (.op (some 6) (.a (.bin .sub (.tmp 5) (.const (.int .i64 1)))) false
  (.op (some 7) (.a (.bin .shl (.const (.int .i64 (-1))) (.tmp 6))) false
  (.op (some 8) (.a (.bin .lss (.tmp 4) (.tmp 7))) false
  (.op (some 9) (.a (.move (.tmp 8))) false
  (.sc 15 9 false [10, 11, 12, 13, 14]
  (.op (some 10) (.a (.move (.tmp 0))) false
  (.op (some 11) (.a (.load false 1 (.tmp 1))) false
  (.op (some 12) (.a (.bin .sub (.tmp 11) (.const (.int .i64 1)))) false
  (.op (some 13) (.a (.bin .shl (.const (.int .i64 1)) (.tmp 12))) false
  (.op (some 14) (.a (.bin .geq (.tmp 10) (.tmp 13))) false
  .nil))))) (.tmp 14)
  (.op (some 3) (.a (.move (.tmp 15))) false
  .nil)))))))))
  .ret)),
 [.tmp 3], [.keep]⟩
theorem ok53 : ∃ fn c, FunOk Try.prog 53 fn c A53.erase := ⟨Try.f53, _, ⟨Try.func53, rfl, by kernel_rfl, by kernel_rfl, by kernel_rfl, of_decide_eq_true (by kernel_rfl), by kernel_rfl⟩⟩
noncomputable def s53 (Γ : PCallee) (n : Nat) (x0 : PV) (x1 : PV) (h : PHeap) : Pt :=
 (loadP false 1 x1 h).bind fun v0 =>
 (binP .sub v0 (.int .i64 1 : PV)).bind fun v1 =>
 (binP .shl (.int .i64 (-1) : PV) v1).bind fun v2 =>
 (binP .lss x0 v2).bind fun v3 =>
 K1 (fun v5 h6 =>
 finP [.keep] h h6 [v5]) fun j4 =>
 scP v3 false (
 (loadP false 1 x1 h).bind fun v7 =>
 (binP .sub v7 (.int .i64 1 : PV)).bind fun v8 =>
 (binP .shl (.int .i64 1 : PV) v8).bind fun v9 =>
 (binP .geq x0 v9).bind fun v10 =>
 j4 v10 h)
 (j4 (.bool true) h)

theorem s53_eq (Γ : PCallee) (n : Nat) (x0 : PV) (x1 : PV) (h : PHeap) : pfunK Γ n A53 [x0, x1] h = s53 Γ n x0 x1 h := by kernel_rfl


/-- orchestrion/orchestrionref03.fits -/
def A54 : PFun := ⟨2, 10,
 (.seq (.region false (.op (some 4) (.a (.move (.const (.bool false)))) false
  .nil))
  (.seq (.region false (.op (some 5) (.a (.move (.tmp 0))) false
  (.op (some 6) (.a (.move (.tmp 1))) false
  (.op (some 7) (.a (.call 43 [(.tmp 5), (.tmp 6)])) false
  (.op (some 8) (.a (.move (.tmp 0))) false
  (.op (some 9) (.a (.bin .eql (.tmp 7) (.tmp 8))) false
  (.op (some 4) (.a (.move (.tmp 9))) false
  .nil)))))))
  .ret)),
 [.tmp 4], [.keep]⟩
theorem ok54 : ∃ fn c, FunOk Try.prog 54 fn c A54.erase := ⟨Try.f54, _, ⟨Try.func54, rfl, by kernel_rfl, by kernel_rfl, by kernel_rfl, of_decide_eq_true (by kernel_rfl), by kernel_rfl⟩⟩
noncomputable def s54 (Γ : PCallee) (n : Nat) (x0 : PV) (x1 : PV) (h : PHeap) : Pt :=
 (Γ 43 [x0, x1] h).bind fun p0 =>
 (binP .eql p0.1 x0).bind fun v1 =>
 finP [.keep] h p0.2 [v1]

theorem s54_eq (Γ : PCallee) (n : Nat) (x0 : PV) (x1 : PV) (h : PHeap) : pfunK Γ n A54 [x0, x1] h = s54 Γ n x0 x1 h := by kernel_rfl


/-- orchestrion/pack.coded$1 -/
def A55 : PFun := ⟨1, 4,
 (.seq (.region false (.op (some 1) (.a (.box 43 (.tmp 0))) false
  (.op (some 2) (.a (.move (.const .nilFunc))) false
  .nil)))
  (.seq (.region false (.op (some 3) (.a (.mkFunc 56 [] [(.tmp 1)])) false
  (.op (some 2) (.a (.move (.tmp 3))) false
  .nil)))
  .ret)),
 [.tmp 2], [.keep]⟩
theorem ok55 : ∃ fn c, FunOk Try.prog 55 fn c A55.erase := ⟨Try.f55, _, ⟨Try.func55, rfl, by kernel_rfl, by kernel_rfl, by kernel_rfl, of_decide_eq_true (by kernel_rfl), by kernel_rfl⟩⟩
noncomputable def s55 (Γ : PCallee) (n : Nat) (x0 : PV) (h : PHeap) : Pt :=
 forkP (.ptr h.length 0) (h ++ [.box (cellsP x0) 43 .rw]) fun v0 h1 =>
 finP [.keep] h h1 [(PV.func 56 [] [v0])]

theorem s55_eq (Γ : PCallee) (n : Nat) (x0 : PV) (h : PHeap) : pfunK Γ n A55 [x0] h = s55 Γ n x0 h := by kernel_rfl


/-- orchestrion/pack.coded$1$1 -/
def A56 : PFun := ⟨3, 13,
 (.seq (.region false (.op (some 5) (.a (.move (.const (.slice none 0 0)))) false
  .nil))
  (.seq (.region true (.op (some 6) (.a (.load false 1 (.tmp 2))) false
  (.op (some 7) (.a (.load false 1 (.tmp 2))) false
  (.op (some 8) (.a (.move (.tmp 0))) false
  (.op (some 9) (.a (.move (.tmp 1))) false
  (.op (some 10) (.a (.callV (.tmp 7) [(.tmp 8), (.tmp 9)])) true
  (.op (some 11) (.a (.move (.tmp 1))) false
  (.op (some 12) (.a (.callV (.tmp 6) [(.tmp 10), (.tmp 11)])) false
  (.op (some 5) (.a (.move (.tmp 12))) false
  .nil)))))))))
  .ret)),
 [.tmp 5], [(.flat 1)]⟩
theorem ok56 : ∃ fn c, FunOk Try.prog 56 fn c A56.erase := ⟨Try.f56, _, ⟨Try.func56, rfl, by kernel_rfl, by kernel_rfl, by kernel_rfl, of_decide_eq_true (by kernel_rfl), by kernel_rfl⟩⟩
noncomputable def s56 (Γ : PCallee) (n : Nat) (x0 : PV) (x1 : PV) (x2 : PV) (h : PHeap) : Pt :=
 (loadP false 1 x2 h).bind fun v0 =>
 (loadP false 1 x2 h).bind fun v1 =>
 (callVP Γ v1 [x0, x1] (lock h)).bind fun p2 =>
 unl h p2.2 fun h3 =>
 (callVP Γ v0 [p2.1, x1] h3).bind fun p4 =>
 finP [(.flat 1)] h p4.2 [p4.1]

theorem s56_eq (Γ : PCallee) (n : Nat) (x0 : PV) (x1 : PV) (x2 : PV) (h : PHeap) : pfunK Γ n A56 [x0, x1, x2] h = s56 Γ n x0 x1 x2 h := by kernel_rfl


/-- slices.Chunk[[]int,int]$1 -/
def A57 : PFun := ⟨3, 31,
 (.seq (.region false (.op (some 4) (.a (.move (.const (.int .i64 0)))) false
  .nil))
  (.block 0 [] [4, 5, 6, 7, 8, 9, 10, 11, 12, 13, 14, 15, 16, 17, 18, 19, 20, 21, 22, 23, 24, 25, 26, 27, 28, 29, 30]
  (.loop [4] [5, 6, 7, 8, 9, 10, 11, 12, 13, 14, 15, 16, 17, 18, 19, 20, 21, 22, 23, 24, 25, 26, 27, 28, 29, 30]
  (.seq (.seq (.region false (.op (some 6) (.a (.move (.tmp 4))) false
  (.op (some 7) (.a (.load false 1 (.tmp 1))) false
  (.op (some 8) (.a (.len false (.tmp 7))) false
  (.op (some 9) (.a (.bin .lss (.tmp 6) (.tmp 8))) false
  .nil)))))
  (.cond (.tmp 9) [] []
  .skip
  (.exit 0)))
  (.seq (.block 1 [] [5, 13, 14, 15, 16, 17, 18, 19, 20, 21, 22, 23, 24, 25, 26, 27, 28, 29, 30]
  (.seq (.region true (.op (some 13) (.a (.load false 1 (.tmp 2))) false
  (.op (some 14) (.a (.load false 1 (.tmp 1))) false
  (.op (some 15) (.a (.move (.tmp 4))) false
  (.op (some 16) (.a (.slice 1 (.tmp 14) (some (.tmp 15)) none none)) false
  (.op (some 17) (.a (.len false (.tmp 16))) false
  (.op (some 18) (.a (.min [(.tmp 13), (.tmp 17)])) false
  (.op (some 5) (.a (.move (.tmp 18))) false
  .nil))))))))
  (.seq (.region false (.op (some 19) (.a (.move (.tmp 0))) false
  (.op (some 20) (.a (.load false 1 (.tmp 1))) false
  (.op (some 21) (.a (.move (.tmp 4))) false
  (.op (some 22) (.a (.move (.tmp 4))) false
  (.op (some 23) (.a (.move (.tmp 5))) false
  (.op (some 24) (.a (.bin .add (.tmp 22) (.tmp 23))) false
  (.op (some 25) (.a (.move (.tmp 4))) false
  (.op (some 26) (.a (.move (.tmp 5))) false
  (.op (some 27) (.a (.bin .add (.tmp 25) (.tmp 26))) false
  (.op (some 28) (.a (.slice 1 (.tmp 20) (some (.tmp 21)) (some (.tmp 24)) (some (.tmp 27)))) false
  (.fz 28 (.flat 1)
  (.op (some 29) (.a (.callV (.tmp 19) [(.tmp 28)])) false
  (.op (some 30) (.a (.un .not (.tmp 29))) false
  .nil))))))))))))))
  (.cond (.tmp 30) [] []
  .ret
  .skip))))
  (.region false (.op (some 10) (.a (.move (.tmp 4))) false
  (.op (some 11) (.a (.load false 1 (.tmp 2))) false
  (.op (some 12) (.a (.bin .add (.tmp 10) (.tmp 11))) false
  (.op (some 4) (.a (.move (.tmp 12))) false
  .nil)))))))))),
 [], []⟩
theorem ok57 : ∃ fn c, FunOk Try.prog 57 fn c A57.erase := ⟨Try.f57, _, ⟨Try.func57, rfl, by kernel_rfl, by kernel_rfl, by kernel_rfl, of_decide_eq_true (by kernel_rfl), by kernel_rfl⟩⟩
noncomputable def s57_L0 (Γ : PCallee) (n : Nat) (x0 : PV) (x1 : PV) (x2 : PV) (h : PHeap) (j0 : List PV → PHeap → Pt) : (List PV → PHeap → Pt) → List PV → PHeap → Pt := fun c3 w4 h5 =>
 (loadP false 1 x1 h5).bind fun v6 =>
 (lenP false v6).bind fun v7 =>
 (binP .lss (nthP w4 0) v7).bind fun v8 =>
 KL (fun w10 h11 =>
 KL (fun w13 h14 =>
 (loadP false 1 x2 h14).bind fun v15 =>
 (binP .add (nthP w4 0) v15).bind fun v16 =>
 c3 [v16] (trim h [v16] h14)) fun j12 =>
 (loadP false 1 x2 h11).bind fun v17 =>
 (loadP false 1 x1 h11).bind fun v18 =>
 (sliceP 1 v18 (some (nthP w4 0)) none none).bind fun v19 =>
 (lenP false v19).bind fun v20 =>
 (fold1P min2P [v17, v20]).bind fun v21 =>
 (loadP false 1 x1 h11).bind fun v22 =>
 (binP .add (nthP w4 0) v21).bind fun v23 =>
 (binP .add (nthP w4 0) v21).bind fun v24 =>
 (sliceP 1 v22 (some (nthP w4 0)) (some v23) (some v24)).bind fun v25 =>
 (fz (.flat 1) v25 h11).bind fun q26 =>
 (callVP Γ x0 [q26.1] q26.2).bind fun p27 =>
 (unP .not p27.1).bind fun v28 =>
 KL (fun w30 h31 =>
 j12 [] h31) fun j29 =>
 ifP v28 (
 finP [] h p27.2 []) (
 j29 [] p27.2)) fun j9 =>
 ifP v8 (
 j9 [] h5) (
 j0 [] h5)
noncomputable def s57 (Γ : PCallee) (n : Nat) (x0 : PV) (x1 : PV) (x2 : PV) (h : PHeap) : Pt :=
 KL (fun w1 h2 =>
 finP [] h h2 []) fun j0 =>
 loopP (s57_L0 Γ n x0 x1 x2 h j0) n [(.int .i64 0 : PV)] h

theorem s57_eq (Γ : PCallee) (n : Nat) (x0 : PV) (x1 : PV) (x2 : PV) (h : PHeap) : pfunK Γ n A57 [x0, x1, x2] h = s57 Γ n x0 x1 x2 h := by kernel_rfl


/-- slices.IndexFunc[[]int,int] -/
def A58 : PFun := ⟨2, 19,
 (.seq (.region false (.op (some 4) (.a (.move (.const (.int .i64 0)))) false
  .nil))
  (.seq (.seq (.region false (.op (some 6) (.a (.move (.tmp 0))) false
  (.op (some 7) (.a (.len false (.tmp 6))) false
  (.op (some 8) (.a (.move (.const (.int .i64 0)))) false
  .nil))))
  (.block 0 [] [4, 5, 8, 9, 10, 11, 12, 13, 14, 15, 16, 17, 18]
  (.loop [8] [4, 5, 9, 10, 11, 12, 13, 14, 15, 16, 17, 18]
  (.seq (.region false (.op (some 9) (.a (.bin .lss (.tmp 8) (.tmp 7))) false
  .nil))
  (.seq (.cond (.tmp 9) [] []
  .skip
  (.exit 0))
  (.seq (.block 1 [] [4, 5, 10, 11, 12, 13, 14, 15, 16, 17]
  (.seq (.region false (.op (some 10) (.a (.move (.tmp 8))) false
  (.op (some 5) (.a (.move (.tmp 10))) false
  .nil)))
  (.seq (.region false (.op (some 11) (.a (.move (.tmp 1))) false
  (.op (some 12) (.a (.move (.tmp 0))) false
  (.op (some 13) (.a (.move (.tmp 5))) false
  (.op (some 14) (.a (.indexAddr 1 (.tmp 12) (.tmp 13))) false
  (.op (some 15) (.a (.load false 1 (.tmp 14))) false
  (.op (some 16) (.a (.callV (.tmp 11) [(.tmp 15)])) false
  .nil)))))))
  (.cond (.tmp 16) [] [4, 17]
  (.seq (.region false (.op (some 17) (.a (.move (.tmp 5))) false
  (.op (some 4) (.a (.move (.tmp 17))) false
  .nil)))
  .ret)
  .skip))))
  (.region false (.op (some 18) (.a (.bin .add (.tmp 8) (.const (.int .i64 1)))) false
  (.op (some 8) (.a (.move (.tmp 18))) false
  .nil)))))))))
  (.seq (.region false (.op (some 4) (.a (.move (.const (.int .i64 (-1))))) false
  .nil))
  .ret))),
 [.tmp 4], [.keep]⟩
theorem ok58 : ∃ fn c, FunOk Try.prog 58 fn c A58.erase := ⟨Try.f58, _, ⟨Try.func58, rfl, by kernel_rfl, by kernel_rfl, by kernel_rfl, of_decide_eq_true (by kernel_rfl), by kernel_rfl⟩⟩
noncomputable def s58_L0 (Γ : PCallee) (n : Nat) (x0 : PV) (x1 : PV) (h : PHeap) (v0 : PV) (j1 : List PV → PHeap → Pt) : (List PV → PHeap → Pt) → List PV → PHeap → Pt := fun c4 w5 h6 =>
 (binP .lss (nthP w5 0) v0).bind fun v7 =>
 KL (fun w9 h10 =>
 KL (fun w12 h13 =>
 (binP .add (nthP w5 0) (.int .i64 1 : PV)).bind fun v14 =>
 c4 [v14] (trim h [v14] h13)) fun j11 =>
 (indexAddrP 1 x0 (nthP w5 0)).bind fun v15 =>
 (loadP false 1 v15 h10).bind fun v16 =>
 (callVP Γ x1 [v16] h10).bind fun p17 =>
 KL (fun w19 h20 =>
 j11 [] h20) fun j18 =>
 ifP p17.1 (
 finP [.keep] h p17.2 [(nthP w5 0)]) (
 j18 [] p17.2)) fun j8 =>
 ifP v7 (
 j8 [] h6) (
 j1 [] h6)
noncomputable def s58 (Γ : PCallee) (n : Nat) (x0 : PV) (x1 : PV) (h : PHeap) : Pt :=
 (lenP false x0).bind fun v0 =>
 KL (fun w2 h3 =>
 finP [.keep] h h3 [(.int .i64 (-1) : PV)]) fun j1 =>
 loopP (s58_L0 Γ n x0 x1 h v0 j1) n [(.int .i64 0 : PV)] h

theorem s58_eq (Γ : PCallee) (n : Nat) (x0 : PV) (x1 : PV) (h : PHeap) : pfunK Γ n A58 [x0, x1] h = s58 Γ n x0 x1 h := by kernel_rfl


/-- orchestrion/pack.isTable$1 -/
def A59 : PFun := ⟨1, 9,
 (.seq (.region false (.op (some 2) (.a (.move (.const (.bool false)))) false
  .nil))
  (.seq (.region false (.op (some 3) (.a (.move (.tmp 0))) false
  (.op (some 4) (.a (.bin .lss (.tmp 3) (.const (.int .i64 (-128))))) false
  (.op (some 5) (.a (.move (.tmp 4))) false
  (.sc 8 5 false [6, 7]
  (.op (some 6) (.a (.move (.tmp 0))) false
  (.op (some 7) (.a (.bin .gtr (.tmp 6) (.const (.int .i64 127)))) false
  .nil)) (.tmp 7)
  (.op (some 2) (.a (.move (.tmp 8))) false
  .nil))))))
  .ret)),
 [.tmp 2], [.keep]⟩
theorem ok59 : ∃ fn c, FunOk Try.prog 59 fn c A59.erase := ⟨Try.f59, _, ⟨Try.func59, rfl, by kernel_rfl, by kernel_rfl, by kernel_rfl, of_decide_eq_true (by kernel_rfl), by kernel_rfl⟩⟩
noncomputable def s59 (Γ : PCallee) (n : Nat) (x0 : PV) (h : PHeap) : Pt :=
 (binP .lss x0 (.int .i64 (-128) : PV)).bind fun v0 =>
 K1 (fun v2 h3 =>
 finP [.keep] h h3 [v2]) fun j1 =>
 scP v0 false (
 (binP .gtr x0 (.int .i64 127 : PV)).bind fun v4 =>
 j1 v4 h)
 (j1 (.bool true) h)

theorem s59_eq (Γ : PCallee) (n : Nat) (x0 : PV) (h : PHeap) : pfunK Γ n A59 [x0] h = s59 Γ n x0 h := by kernel_rfl


/-- orchestrion/orchestrionref01.Mod -/
def A60 : PFun := ⟨2, 12,
 (.seq (.region false (.op (some 4) (.a (.move (.const (.int .i64 0)))) false
  .nil))
  (.seq (.region false (.op (some 5) (.a (.move (.tmp 0))) false
  (.op (some 6) (.a (.move (.tmp 1))) false
  (.op (some 7) (.a (.move (.tmp 0))) false
  (.op (some 8) (.a (.move (.tmp 1))) false
  (.op (some 9) (.a (.call 64 [(.tmp 7), (.tmp 8)])) false
  (.op (some 10) (.a (.bin .mul (.tmp 6) (.tmp 9))) false
  (.op (some 11) (.a (.bin .sub (.tmp 5) (.tmp 10))) false
  (.op (some 4) (.a (.move (.tmp 11))) false
  .nil)))))))))
  .ret)),
 [.tmp 4], [.keep]⟩
theorem ok60 : ∃ fn c, FunOk Try.prog 60 fn c A60.erase := ⟨Try.f60, _, ⟨Try.func60, rfl, by kernel_rfl, by kernel_rfl, by kernel_rfl, of_decide_eq_true (by kernel_rfl), by kernel_rfl⟩⟩
noncomputable def s60 (Γ : PCallee) (n : Nat) (x0 : PV) (x1 : PV) (h : PHeap) : Pt :=
 (Γ 64 [x0, x1] h).bind fun p0 =>
 (binP .mul x1 p0.1).bind fun v1 =>
 (binP .sub x0 v1).bind fun v2 =>
 finP [.keep] h p0.2 [v2]

theorem s60_eq (Γ : PCallee) (n : Nat) (x0 : PV) (x1 : PV) (h : PHeap) : pfunK Γ n A60 [x0, x1] h = s60 Γ n x0 x1 h := by kernel_rfl


/-- orchestrion/orchestrionref01.Floor -/
def A64 : PFun := ⟨2, 16,
 (.seq (.region false (.op (some 4) (.a (.move (.const (.int .i64 0)))) false
  .nil))
  (.seq (.region false (.op (some 6) (.a (.move (.tmp 0))) false
  (.op (some 7) (.a (.move (.tmp 1))) false
  (.op (some 8) (.a (.bin .quo (.tmp 6) (.tmp 7))) false
  (.op (some 5) (.a (.move (.tmp 8))) false
  .nil)))))
  (.seq (.seq (.region false (.op (some 9) (.a (.move (.tmp 0))) false
  (.op (some 10) (.a (.move (.tmp 1))) false
  (.op (some 11) (.a (.bin .rem (.tmp 9) (.tmp 10))) false
  (.op (some 12) (.a (.bin .lss (.tmp 11) (.const (.int .i64 0)))) false
  .nil)))))
  (.cond (.tmp 12) [5] [13, 14]
  (.region false (.op (some 13) (.a (.move (.tmp 5))) false
  (.op (some 14) (.a (.bin .sub (.tmp 13) (.const (.int .i64 1)))) false
  (.op (some 5) (.a (.move (.tmp 14))) false
  .nil))))
  .skip))
  (.seq (.region false (.op (some 15) (.a (.move (.tmp 5))) false
  (.op (some 4) (.a (.move (.tmp 15))) false
  .nil)))
  .ret)))),
 [.tmp 4], [.keep]⟩
theorem ok64 : ∃ fn c, FunOk Try.prog 64 fn c A64.erase := ⟨Try.f64, _, ⟨Try.func64, rfl, by kernel_rfl, by kernel_rfl, by kernel_rfl, of_decide_eq_true (by kernel_rfl), by kernel_rfl⟩⟩
noncomputable def s64 (Γ : PCallee) (n : Nat) (x0 : PV) (x1 : PV) (h : PHeap) : Pt :=
 (binP .quo x0 x1).bind fun v0 =>
 (binP .rem x0 x1).bind fun v1 =>
 (binP .lss v1 (.int .i64 0 : PV)).bind fun v2 =>
 KL (fun w4 h5 =>
 finP [.keep] h h5 [(nthP w4 0)]) fun j3 =>
 ifP v2 (
 (binP .sub v0 (.int .i64 1 : PV)).bind fun v6 =>
 j3 [v6] h) (
 j3 [v0] h)

theorem s64_eq (Γ : PCallee) (n : Nat) (x0 : PV) (x1 : PV) (h : PHeap) : pfunK Γ n A64 [x0, x1] h = s64 Γ n x0 x1 h := by kernel_rfl


def T : PTable := [(3, A3), (4, A4), (5, A5), (6, A6), (8, A8), (9, A9), (10, A10), (11, A11), (12, A12), (13, A13), (14, A14), (15, A15), (16, A16), (17, A17), (18, A18), (19, A19), (24, A24), (25, A25), (26, A26), (27, A27), (28, A28), (29, A29), (30, A30), (31, A31), (32, A32), (33, A33), (34, A34), (35, A35), (36, A36), (37, A37), (38, A38), (39, A39), (40, A40), (41, A41), (42, A42), (43, A43), (44, A44), (45, A45), (46, A46), (49, A49), (52, A52), (53, A53), (54, A54), (55, A55), (56, A56), (57, A57), (58, A58), (59, A59), (60, A60), (64, A64)]
/-- What the calls come to. -/
noncomputable def Γ0 : PCallee := prun noCalleeP T
theorem gbody {f : FuncId} {F : PFun} (hT : T.get f = some F) (fuel : Nat) {args : List PV} {h : PHeap} {r : PV × PHeap} (hk : pfunK Γ0 fuel F args h = some r) (hf : Nat.beq f yieldId = false := by rfl) : Γ0 f args h = some r := prun_of_body hT fuel hk hf
theorem gbody_round (fuel : Nat) {args : List PV} {h : PHeap} {r : PV × PHeap} (hk : proundK Γ0 fuel args h = some r) : Γ0 yieldId args h = some r := prun_of_round fuel hk
end Go.Vm.X
