/- One part of the proof. -/
import Derived.Test.YtffennknofmjoaaGreatP5
import Derived.Test.YtffennknofmjoaaGreatChecked
import Derived.TacticsInMore
import Derived.Lib.Walk
import Derived.WalkKit
import Derived.BigCall
import Derived.OwnWalkIn
set_option linter.unusedSimpArgs false
set_option linter.unusedVariables false
set_option linter.unusedVariables false
set_option maxRecDepth 100000
namespace Go.Vm.X
open Go.Proofs Go.Am Go.Vm
open Go.Vm.G in
def A146 : PFun := ⟨3, 15, (S (R <| o 6 (.move (.const (.bool false))) <| z) <|
  (S (R <| m 7 0 <| m 8 1 <| b 9 .geq (t 7) (t 8) <| m 10 9 <| q 14 10 true [11, 12, 13] (m 11 0 <| m 12 2 <| b 13 .leq (t 11) (t 12) <| z) (t 13) <|
  m 6 14 <| z) <|
  .ret)), [.tmp 6], [.keep]⟩
theorem ok146 : ∃ fn c, FunOk Tryz.prog 146 fn c A146.erase := ⟨Tryz.f146, _, ⟨Tryz.func146, rfl, by kernel_rfl, by kernel_rfl, by kernel_rfl, of_decide_eq_true (by kernel_rfl), by kernel_rfl⟩⟩
noncomputable def s146 (Γ : PCallee) (n : Nat) (x0 : PV) (x1 : PV) (x2 : PV) (h : PHeap) : Pt := (binP .geq x0 x1).bind fun v0 => K1 (fun v2 h3 => finP [.keep] h h3 [v2]) fun j1 => scP v0 true ( (binP .leq x0 x2).bind fun v4 => j1 v4 h) (j1 (.bool false) h)
theorem s146_eq (Γ : PCallee) (n : Nat) (x0 : PV) (x1 : PV) (x2 : PV) (h : PHeap) : pfunK Γ n A146 [x0, x1, x2] h = s146 Γ n x0 x1 x2 h := by kernel_rfl
open Go.Vm.G in
def A147 : PFun := ⟨1, 6, (S (R <| o 1 (.box 41 (t 0)) <| o 2 (.move (.const (.bool false))) <| z) <|
  (S (R <| o 3 (.load true 6 (t 1)) <| o 4 (.call 148 [(t 3)]) <| o 5 (.un .not (t 4)) <| m 2 5 <| z) <|
  .ret)), [.tmp 2], [.keep]⟩
theorem ok147 : ∃ fn c, FunOk Tryz.prog 147 fn c A147.erase := ⟨Tryz.f147, _, ⟨Tryz.func147, rfl, by kernel_rfl, by kernel_rfl, by kernel_rfl, of_decide_eq_true (by kernel_rfl), by kernel_rfl⟩⟩
noncomputable def s147 (Γ : PCallee) (n : Nat) (x0 : PV) (h : PHeap) : Pt := forkP (.ptr h.length 0) (h ++ [.box (cellsP x0) 41 .rw]) fun v0 h1 => (loadP true 6 v0 h1).bind fun v2 => (Γ 148 [v2] h1).bind fun p3 => (unP .not p3.1).bind fun v4 => finP [.keep] h p3.2 [v4]
theorem s147_eq (Γ : PCallee) (n : Nat) (x0 : PV) (h : PHeap) : pfunK Γ n A147 [x0] h = s147 Γ n x0 h := by kernel_rfl
open Go.Vm.G in
def A148 : PFun := ⟨1, 72, (S (R <| o 1 (.box 41 (t 0)) <| o 2 (.move (.const (.bool false))) <| z) <|
  (S (R <| f 6 0 1 <| l 7 6 <| o 8 (.call 104 [(t 7), (i 0), (i 120)]) <| m 9 8 <| q 13 9 false [10, 11, 12] (f 10 0 1 <| l 11 10 <| b 12 .eql (t 11) (i 253) <| z) (t 12) <|
  m 14 13 <| q 18 14 false [15, 16, 17] (f 15 0 1 <| l 16 15 <| b 17 .eql (t 16) (i 254) <| z) (t 17) <|
  m 19 18 <| q 23 19 false [20, 21, 22] (f 20 0 1 <| l 21 20 <| b 22 .eql (t 21) (i 255) <| z) (t 22) <|
  m 3 23 <| z) <|
  (S (R <| f 24 2 1 <| l 25 24 <| o 26 (.call 104 [(t 25), (i 0), (i 12)]) <| m 27 26 <| q 31 27 true [28, 29, 30] (f 28 3 1 <| l 29 28 <| o 30 (.call 104 [(t 29), (i 0), (i 99)]) <| z) (t 30) <|
  m 32 31 <| q 41 32 true (g 33 4 ++ [40, 37, 38, 39]) (f 33 2 1 <| l 34 33 <| b 35 .gtr (t 34) (i 0) <| m 36 35 <| q 40 36 false [37, 38, 39] (f 37 3 1 <| l 38 37 <| b 39 .eql (t 38) (i 0) <| z) (t 39) <|
  z) (t 40) <|
  m 4 41 <| z) <|
  (S (R <| f 42 4 1 <| l 43 42 <| o 44 (.call 104 [(t 43), (i 0), (i 36)]) <| m 45 44 <| q 49 45 true [46, 47, 48] (f 46 5 1 <| l 47 46 <| o 48 (.call 104 [(t 47), (i 0), (i 255)]) <| z) (t 48) <|
  m 50 49 <| q 59 50 true (g 51 4 ++ [58, 55, 56, 57]) (f 51 4 1 <| l 52 51 <| b 53 .gtr (t 52) (i 0) <| m 54 53 <| q 58 54 false [55, 56, 57] (f 55 5 1 <| l 56 55 <| b 57 .eql (t 56) (i 0) <| z) (t 57) <|
  z) (t 58) <|
  m 5 59 <| z) <|
  (S (R <| m 60 3 <| m 61 60 <| q 65 61 true [62, 63, 64] (f 62 1 1 <| l 63 62 <| o 64 (.call 104 [(t 63), (i 0), (i 31)]) <| z) (t 64) <|
  m 66 65 <| q 68 66 true [67] (m 67 4 <| z) (t 67) <|
  m 69 68 <| q 71 69 true [70] (m 70 5 <| z) (t 70) <|
  m 2 71 <| z) <|
  .ret))))), [.tmp 2], [.keep]⟩
theorem ok148 : ∃ fn c, FunOk Tryz.prog 148 fn c A148.erase := ⟨Tryz.f148, _, ⟨Tryz.func148, rfl, by kernel_rfl, by kernel_rfl, by kernel_rfl, of_decide_eq_true (by kernel_rfl), by kernel_rfl⟩⟩
noncomputable def s148 (Γ : PCallee) (n : Nat) (x0 : PV) (h : PHeap) : Pt := forkP (.ptr h.length 0) (h ++ [.box (cellsP x0) 41 .rw]) fun v0 h1 => (fieldAddrP 0 v0).bind fun v2 => (loadP false 1 v2 h1).bind fun v3 => (Γ 104 [v3, (.int .i64 0 : PV), (.int .i64 120 : PV)] h1).bind fun p4 => K1 (fun v6 h7 => K1 (fun v9 h10 => K1 (fun v12 h13 => (fieldAddrP 2 v0).bind fun v14 => (loadP false 1 v14 h13).bind fun v15 => (Γ 104 [v15, (.int .i64 0 : PV), (.int .i64 12 : PV)] h13).bind fun p16 => K1 (fun v18 h19 => K1 (fun v21 h22 => (fieldAddrP 4 v0).bind fun v23 => (loadP false 1 v23 h22).bind fun v24 => (Γ 104 [v24, (.int .i64 0 : PV), (.int .i64 36 : PV)] h22).bind fun p25 => K1 (fun v27 h28 => K1 (fun v30 h31 => K1 (fun v33 h34 => K1 (fun v36 h37 => K1 (fun v39 h40 => finP [.keep] h h40 [v39]) fun j38 => scP v36 true ( j38 v30 h37) (j38 (.bool false) h37)) fun j35 => scP v33 true ( j35 v21 h34) (j35 (.bool false) h34)) fun j32 => scP v12 true ( (fieldAddrP 1 v0).bind fun v41 => (loadP false 1 v41 h31).bind fun v42 => (Γ 104 [v42, (.int .i64 0 : PV), (.int .i64 31 : PV)] h31).bind fun p43 => j32 p43.1 p43.2) (j32 (.bool false) h31)) fun j29 => scP v27 true ( (fieldAddrP 4 v0).bind fun v44 => (loadP false 1 v44 h28).bind fun v45 => (binP .gtr v45 (.int .i64 0 : PV)).bind fun v46 => K1 (fun v48 h49 => j29 v48 h49) fun j47 => scP v46 false ( (fieldAddrP 5 v0).bind fun v50 => (loadP false 1 v50 h28).bind fun v51 => (binP .eql v51 (.int .i64 0 : PV)).bind fun v52 => j47 v52 h28) (j47 (.bool true) h28)) (j29 (.bool false) h28)) fun j26 => scP p25.1 true ( (fieldAddrP 5 v0).bind fun v53 => (loadP false 1 v53 p25.2).bind fun v54 => (Γ 104 [v54, (.int .i64 0 : PV), (.int .i64 255 : PV)] p25.2).bind fun p55 => j26 p55.1 p55.2) (j26 (.bool false) p25.2)) fun j20 => scP v18 true ( (fieldAddrP 2 v0).bind fun v56 => (loadP false 1 v56 h19).bind fun v57 => (binP .gtr v57 (.int .i64 0 : PV)).bind fun v58 => K1 (fun v60 h61 => j20 v60 h61) fun j59 => scP v58 false ( (fieldAddrP 3 v0).bind fun v62 => (loadP false 1 v62 h19).bind fun v63 => (binP .eql v63 (.int .i64 0 : PV)).bind fun v64 => j59 v64 h19) (j59 (.bool true) h19)) (j20 (.bool false) h19)) fun j17 => scP p16.1 true ( (fieldAddrP 3 v0).bind fun v65 => (loadP false 1 v65 p16.2).bind fun v66 => (Γ 104 [v66, (.int .i64 0 : PV), (.int .i64 99 : PV)] p16.2).bind fun p67 => j17 p67.1 p67.2) (j17 (.bool false) p16.2)) fun j11 => scP v9 false ( (fieldAddrP 0 v0).bind fun v68 => (loadP false 1 v68 h10).bind fun v69 => (binP .eql v69 (.int .i64 255 : PV)).bind fun v70 => j11 v70 h10) (j11 (.bool true) h10)) fun j8 => scP v6 false ( (fieldAddrP 0 v0).bind fun v71 => (loadP false 1 v71 h7).bind fun v72 => (binP .eql v72 (.int .i64 254 : PV)).bind fun v73 => j8 v73 h7) (j8 (.bool true) h7)) fun j5 => scP p4.1 false ( (fieldAddrP 0 v0).bind fun v74 => (loadP false 1 v74 p4.2).bind fun v75 => (binP .eql v75 (.int .i64 253 : PV)).bind fun v76 => j5 v76 p4.2) (j5 (.bool true) p4.2)
theorem s148_eq (Γ : PCallee) (n : Nat) (x0 : PV) (h : PHeap) : pfunK Γ n A148 [x0] h = s148 Γ n x0 h := by kernel_rfl
open Go.Vm.G in
def A149 : PFun := ⟨2, 19, (S (R <| o 4 (.move (i 0)) <| z) <|
  (S (S (R <| m 6 0 <| o 7 (.len false (t 6)) <| o 8 (.move (i 0)) <| z) <|
  (.block 0 [] ([4, 5] ++ g 8 11)
  (.loop [8] ([4, 5] ++ g 9 10)
  (S (R <| b 9 .lss (t 8) (t 7) <| z) <|
  (S (.cond (t 9) [] []
  .skip
  (.exit 0)) <|
  (S (.block 1 [] ([4, 5] ++ g 10 8)
  (S (R <| m 10 8 <| m 5 10 <| z) <|
  (S (R <| m 11 1 <| m 12 0 <| m 13 5 <| o 14 (.indexAddr 6 (t 12) (t 13)) <| o 15 (.load true 6 (t 14)) <| o 16 (.callV (t 11) [(t 15)]) <| z) <|
  (.cond (t 16) [] [4, 17]
  (S (R <| m 17 5 <| m 4 17 <| z) <|
  .ret)
  .skip)))) <|
  (R <| b 18 .add (t 8) (i 1) <| m 8 18 <| z))))))) <|
  (S (R <| o 4 (.move (i (-1))) <| z) <|
  .ret))), [.tmp 4], [.keep]⟩
theorem ok149 : ∃ fn c, FunOk Tryz.prog 149 fn c A149.erase := ⟨Tryz.f149, _, ⟨Tryz.func149, rfl, by kernel_rfl, by kernel_rfl, by kernel_rfl, of_decide_eq_true (by kernel_rfl), by kernel_rfl⟩⟩
noncomputable def s149_L0 (Γ : PCallee) (n : Nat) (x0 : PV) (x1 : PV) (h : PHeap) (v0 : PV) (j1 : Kt) : (Kt) → Kt := fun c4 w5 h6 => (binP .lss (nthP w5 0) v0).bind fun v7 => KL (fun w9 h10 => KL (fun w12 h13 => (binP .add (nthP w5 0) (.int .i64 1 : PV)).bind fun v14 => c4 [v14] (trim h [v14] h13)) fun j11 => (indexAddrP 6 x0 (nthP w5 0)).bind fun v15 => (loadP true 6 v15 h10).bind fun v16 => (callVP Γ x1 [v16] h10).bind fun p17 => KL (fun w19 h20 => j11 [] h20) fun j18 => ifP p17.1 ( finP [.keep] h p17.2 [(nthP w5 0)]) ( j18 [] p17.2)) fun j8 => ifP v7 ( j8 [] h6) ( j1 [] h6)
noncomputable def s149 (Γ : PCallee) (n : Nat) (x0 : PV) (x1 : PV) (h : PHeap) : Pt := (lenP false x0).bind fun v0 => KL (fun w2 h3 => finP [.keep] h h3 [(.int .i64 (-1) : PV)]) fun j1 => loopP (s149_L0 Γ n x0 x1 h v0 j1) n [(.int .i64 0 : PV)] h
theorem s149_eq (Γ : PCallee) (n : Nat) (x0 : PV) (x1 : PV) (h : PHeap) : pfunK Γ n A149 [x0, x1] h = s149 Γ n x0 x1 h := by kernel_rfl
open Go.Vm.G in
def A150 : PFun := ⟨2, 46, (S (R <| o 4 (.move (.const (.bool false))) <| z) <|
  (S (R <| o 6 (.call 102 []) <| m 7 0 <| o 8 (.indexArr 7 true 29 (t 6) (t 7)) <| o 5 (.new 83 V29) <| n (.store 29 (t 5) (t 8)) <| z) <|
  (S (S (R <| m 9 1 <| z) <|
  (.block 0 [] ([4] ++ g 10 26)
  (S (R <| b 11 .eql (t 9) (i 0) <| m 10 11 <| z) <|
  (.cond (t 10) [] ([4] ++ g 12 24)
  (S (R <| o 4 (.move (.const (.bool true))) <| z) <|
  .ret)
  (S (R <| b 13 .eql (t 9) (i 255) <| m 12 13 <| z) <|
  (.cond (t 12) [] ([4] ++ g 14 22)
  (S (R <| m 14 0 <| b 15 .eql (t 14) (i 3) <| m 16 15 <| q 19 16 false [17, 18] (m 17 0 <| b 18 .eql (t 17) (i 4) <| z) (t 18) <|
  m 20 19 <| q 23 20 false [21, 22] (m 21 0 <| b 22 .eql (t 21) (i 6) <| z) (t 22) <|
  m 4 23 <| z) <|
  .ret)
  (S (R <| b 25 .eql (t 9) (i 254) <| m 24 25 <| z) <|
  (.cond (t 24) [] ([4] ++ g 26 10)
  (S (R <| m 26 0 <| b 27 .eql (t 26) (i 2) <| m 28 27 <| q 31 28 false [29, 30] (m 29 0 <| b 30 .eql (t 29) (i 4) <| z) (t 30) <|
  m 4 31 <| z) <|
  .ret)
  (S (R <| b 33 .eql (t 9) (i 253) <| m 32 33 <| z) <|
  (.cond (t 32) [] [4, 34, 35]
  (S (R <| m 34 0 <| b 35 .eql (t 34) (i 4) <| m 4 35 <| z) <|
  .ret)
  .skip)))))))))) <|
  (S (R <| m 36 1 <| f 37 4 5 <| l 38 37 <| b 39 .geq (t 36) (t 38) <| m 40 39 <| q 45 40 true (g 41 4) (m 41 1 <| f 42 5 5 <| l 43 42 <| b 44 .leq (t 41) (t 43) <| z) (t 44) <|
  m 4 45 <| z) <|
  .ret)))), [.tmp 4], [.keep]⟩
theorem ok150 : ∃ fn c, FunOk Tryz.prog 150 fn c A150.erase := ⟨Tryz.f150, _, ⟨Tryz.func150, rfl, by kernel_rfl, by kernel_rfl, by kernel_rfl, of_decide_eq_true (by kernel_rfl), by kernel_rfl⟩⟩
noncomputable def s150 (Γ : PCallee) (n : Nat) (x0 : PV) (x1 : PV) (h : PHeap) : Pt := (Γ 102 [] h).bind fun p0 => (indexArrP 7 true 29 p0.1 x0).bind fun v1 => forkP (.ptr p0.2.length 0) (p0.2 ++ [.box Z29 83 .rw]) fun v2 h3 => (storeP 29 v2 v1 h3).bind fun h4 => KL (fun w6 h7 => (fieldAddrP 4 v2).bind fun v8 => (loadP false 1 v8 h7).bind fun v9 => (binP .geq x1 v9).bind fun v10 => K1 (fun v12 h13 => finP [.keep] h h13 [v12]) fun j11 => scP v10 true ( (fieldAddrP 5 v2).bind fun v14 => (loadP false 1 v14 h7).bind fun v15 => (binP .leq x1 v15).bind fun v16 => j11 v16 h7) (j11 (.bool false) h7)) fun j5 => (binP .eql x1 (.int .i64 0 : PV)).bind fun v17 => KL (fun w19 h20 => j5 [] h20) fun j18 => ifP v17 ( finP [.keep] h h4 [(.bool true : PV)]) ( (binP .eql x1 (.int .i64 255 : PV)).bind fun v21 => KL (fun w23 h24 => j18 [] h24) fun j22 => ifP v21 ( (binP .eql x0 (.int .i64 3 : PV)).bind fun v25 => K1 (fun v27 h28 => K1 (fun v30 h31 => finP [.keep] h h31 [v30]) fun j29 => scP v27 false ( (binP .eql x0 (.int .i64 6 : PV)).bind fun v32 => j29 v32 h28) (j29 (.bool true) h28)) fun j26 => scP v25 false ( (binP .eql x0 (.int .i64 4 : PV)).bind fun v33 => j26 v33 h4) (j26 (.bool true) h4)) ( (binP .eql x1 (.int .i64 254 : PV)).bind fun v34 => KL (fun w36 h37 => j22 [] h37) fun j35 => ifP v34 ( (binP .eql x0 (.int .i64 2 : PV)).bind fun v38 => K1 (fun v40 h41 => finP [.keep] h h41 [v40]) fun j39 => scP v38 false ( (binP .eql x0 (.int .i64 4 : PV)).bind fun v42 => j39 v42 h4) (j39 (.bool true) h4)) ( (binP .eql x1 (.int .i64 253 : PV)).bind fun v43 => KL (fun w45 h46 => j35 [] h46) fun j44 => ifP v43 ( (binP .eql x0 (.int .i64 4 : PV)).bind fun v47 => finP [.keep] h h4 [v47]) ( j44 [] h4))))
theorem s150_eq (Γ : PCallee) (n : Nat) (x0 : PV) (x1 : PV) (h : PHeap) : pfunK Γ n A150 [x0, x1] h = s150 Γ n x0 x1 h := by kernel_rfl
open Go.Vm.G in
def A151 : PFun := ⟨1, 7, (S (R <| o 2 (.move (i 0)) <| z) <|
  (S (R <| o 3 .mkMap <| n (.mapSet .int (t 3) (i 2) (i 1)) <| n (.mapSet .int (t 3) (i 3) (i 8)) <| n (.mapSet .int (t 3) (i 4) (i 10)) <| m 4 3 <| m 5 0 <| o 6 (.lookup .int (.int .i64 0) false (t 4) (t 5)) <| m 2 6 <| z) <|
  .ret)), [.tmp 2], [.keep]⟩
theorem ok151 : ∃ fn c, FunOk Tryz.prog 151 fn c A151.erase := ⟨Tryz.f151, _, ⟨Tryz.func151, rfl, by kernel_rfl, by kernel_rfl, by kernel_rfl, of_decide_eq_true (by kernel_rfl), by kernel_rfl⟩⟩
noncomputable def s151 (Γ : PCallee) (n : Nat) (x0 : PV) (h : PHeap) : Pt := forkP (.map h.length) (h ++ [.map [] .rw]) fun v0 h1 => (setMapP .int v0 (.int .i64 2 : PV) (.int .i64 1 : PV) h1).bind fun h2 => (setMapP .int v0 (.int .i64 3 : PV) (.int .i64 8 : PV) h2).bind fun h3 => (setMapP .int v0 (.int .i64 4 : PV) (.int .i64 10 : PV) h3).bind fun h4 => (lookupP .int (.int .i64 0) false v0 x0 h4).bind fun v5 => finP [.keep] h h4 [v5]
theorem s151_eq (Γ : PCallee) (n : Nat) (x0 : PV) (h : PHeap) : pfunK Γ n A151 [x0] h = s151 Γ n x0 h := by kernel_rfl
open Go.Vm.G in
def A152 : PFun := ⟨2, 8, (S (R <| o 4 (.move (i 0)) <| z) <|
  (S (R <| m 5 0 <| m 6 1 <| o 7 (.call 171 [(t 5), (t 6)]) <| m 4 7 <| z) <|
  .ret)), [.tmp 4], [.keep]⟩
theorem ok152 : ∃ fn c, FunOk Tryz.prog 152 fn c A152.erase := ⟨Tryz.f152, _, ⟨Tryz.func152, rfl, by kernel_rfl, by kernel_rfl, by kernel_rfl, of_decide_eq_true (by kernel_rfl), by kernel_rfl⟩⟩
noncomputable def s152 (Γ : PCallee) (n : Nat) (x0 : PV) (x1 : PV) (h : PHeap) : Pt := (Γ 171 [x0, x1] h).bind fun p0 => finP [.keep] h p0.2 [p0.1]
theorem s152_eq (Γ : PCallee) (n : Nat) (x0 : PV) (x1 : PV) (h : PHeap) : pfunK Γ n A152 [x0, x1] h = s152 Γ n x0 x1 h := by kernel_rfl
open Go.Vm.G in
def A153 : PFun := ⟨1, 9, (S (R <| o 2 (.move (.const (.string ⟨#[]⟩))) <| z) <|
  (S (S (R <| m 3 0 <| o 4 (.call 101 [(t 3)]) <| o 5 (.un .not (t 4)) <| z) <|
  (.cond (t 5) [] [2]
  (S (R <| o 2 (.move (.const (.string ⟨#[]⟩))) <| z) <|
  .ret)
  .skip)) <|
  (S (R <| o 6 (.build [(.string ⟨#[]⟩), (.string ⟨#[]⟩), (.string ⟨#[]⟩), (.string ⟨#[]⟩), (.string ⟨#[]⟩), (.string ⟨#[]⟩), (.string ⟨#[]⟩)] [(1, 1, (.const (.string ⟨#[48, 49, 50, 51, 52, 53, 54, 55, 56, 57, 65, 66, 67, 68, 69, 70]⟩))), (2, 1, (.const (.string ⟨#[65, 66, 67, 68, 69, 70, 71, 72, 73, 74, 75, 76, 79, 81, 82, 83, 84, 85, 86, 88]⟩))), (3, 1, (.const (.string ⟨#[48, 49, 50, 51, 52, 53, 54, 55, 56, 57, 65, 66, 67, 68, 69, 70, 71, 72, 75, 76, 80, 82, 84, 88]⟩))), (4, 1, (.const (.string ⟨#[65, 66, 67, 68, 69, 70, 71, 72, 73, 74, 75, 76, 77, 78, 79, 80, 81, 82, 83, 84, 85, 86, 87, 88, 89, 90]⟩))), (5, 1, (.const (.string ⟨#[48, 49, 50, 51, 52, 53]⟩))), (6, 1, (.const (.string ⟨#[48, 49, 50, 51, 52, 65, 66, 67, 68, 69, 70, 78, 83]⟩)))]) <| m 7 0 <| o 8 (.indexArr 7 false 1 (t 6) (t 7)) <| m 2 8 <| z) <|
  .ret))), [.tmp 2], [.keep]⟩
theorem ok153 : ∃ fn c, FunOk Tryz.prog 153 fn c A153.erase := ⟨Tryz.f153, _, ⟨Tryz.func153, rfl, by kernel_rfl, by kernel_rfl, by kernel_rfl, of_decide_eq_true (by kernel_rfl), by kernel_rfl⟩⟩
noncomputable def s153 (Γ : PCallee) (n : Nat) (x0 : PV) (h : PHeap) : Pt := (Γ 101 [x0] h).bind fun p0 => (unP .not p0.1).bind fun v1 => KL (fun w3 h4 => (fillP [.str ⟨#[]⟩, .str ⟨#[]⟩, .str ⟨#[]⟩, .str ⟨#[]⟩, .str ⟨#[]⟩, .str ⟨#[]⟩, .str ⟨#[]⟩] [(1, 1, (.str ⟨#[48, 49, 50, 51, 52, 53, 54, 55, 56, 57, 65, 66, 67, 68, 69, 70]⟩ : PV)), (2, 1, (.str ⟨#[65, 66, 67, 68, 69, 70, 71, 72, 73, 74, 75, 76, 79, 81, 82, 83, 84, 85, 86, 88]⟩ : PV)), (3, 1, (.str ⟨#[48, 49, 50, 51, 52, 53, 54, 55, 56, 57, 65, 66, 67, 68, 69, 70, 71, 72, 75, 76, 80, 82, 84, 88]⟩ : PV)), (4, 1, (.str ⟨#[65, 66, 67, 68, 69, 70, 71, 72, 73, 74, 75, 76, 77, 78, 79, 80, 81, 82, 83, 84, 85, 86, 87, 88, 89, 90]⟩ : PV)), (5, 1, (.str ⟨#[48, 49, 50, 51, 52, 53]⟩ : PV)), (6, 1, (.str ⟨#[48, 49, 50, 51, 52, 65, 66, 67, 68, 69, 70, 78, 83]⟩ : PV))]).bind fun l5 => (indexArrP 7 false 1 (PV.agg l5) x0).bind fun v6 => finP [.keep] h h4 [v6]) fun j2 => ifP v1 ( finP [.keep] h p0.2 [(.str ⟨#[]⟩ : PV)]) ( j2 [] p0.2)
theorem s153_eq (Γ : PCallee) (n : Nat) (x0 : PV) (h : PHeap) : pfunK Γ n A153 [x0] h = s153 Γ n x0 h := by kernel_rfl
open Go.Vm.G in
def A154 : PFun := ⟨1, 6, (S (R <| o 2 (.move (.const (.int .u8 0))) <| z) <|
  (S (R <| m 3 0 <| b 4 .sub (t 3) (i 1) <| o 5 (.indexStr (.const (.string ⟨#[48, 49, 50, 51, 52, 53, 54, 55, 56, 57, 65, 66, 67, 68, 69, 70, 71, 72, 73, 74, 75, 76, 77, 78, 79, 80, 81, 82, 83, 84, 85, 86, 87, 88, 89, 90]⟩)) (t 4)) <| m 2 5 <| z) <|
  .ret)), [.tmp 2], [.keep]⟩
theorem ok154 : ∃ fn c, FunOk Tryz.prog 154 fn c A154.erase := ⟨Tryz.f154, _, ⟨Tryz.func154, rfl, by kernel_rfl, by kernel_rfl, by kernel_rfl, of_decide_eq_true (by kernel_rfl), by kernel_rfl⟩⟩
noncomputable def s154 (Γ : PCallee) (n : Nat) (x0 : PV) (h : PHeap) : Pt := (binP .sub x0 (.int .i64 1 : PV)).bind fun v0 => (indexStrP (.str ⟨#[48, 49, 50, 51, 52, 53, 54, 55, 56, 57, 65, 66, 67, 68, 69, 70, 71, 72, 73, 74, 75, 76, 77, 78, 79, 80, 81, 82, 83, 84, 85, 86, 87, 88, 89, 90]⟩ : PV) v0).bind fun v1 => finP [.keep] h h [v1]
theorem s154_eq (Γ : PCallee) (n : Nat) (x0 : PV) (h : PHeap) : pfunK Γ n A154 [x0] h = s154 Γ n x0 h := by kernel_rfl
open Go.Vm.G in
def A155 : PFun := ⟨1, 11, (S (R <| o 2 (.move (i 0)) <| o 3 (.move (i 0)) <| z) <|
  (S (D <| m 4 0 <| b 5 .sub (t 4) (i 1) <| b 6 .shl (i (-1)) (t 5) <| m 7 0 <| b 8 .sub (t 7) (i 1) <| b 9 .shl (i 1) (t 8) <| b 10 .sub (t 9) (i 1) <| m 2 6 <| m 3 10 <| z) <|
  .ret)), [.tmp 2, .tmp 3], [.keep, .keep]⟩
theorem ok155 : ∃ fn c, FunOk Tryz.prog 155 fn c A155.erase := ⟨Tryz.f155, _, ⟨Tryz.func155, rfl, by kernel_rfl, by kernel_rfl, by kernel_rfl, of_decide_eq_true (by kernel_rfl), by kernel_rfl⟩⟩
noncomputable def s155 (Γ : PCallee) (n : Nat) (x0 : PV) (h : PHeap) : Pt := (binP .sub x0 (.int .i64 1 : PV)).bind fun v0 => (binP .shl (.int .i64 (-1) : PV) v0).bind fun v1 => (binP .sub x0 (.int .i64 1 : PV)).bind fun v2 => (binP .shl (.int .i64 1 : PV) v2).bind fun v3 => (binP .sub v3 (.int .i64 1 : PV)).bind fun v4 => finP [.keep, .keep] h h [v1, v4]
theorem s155_eq (Γ : PCallee) (n : Nat) (x0 : PV) (h : PHeap) : pfunK Γ n A155 [x0] h = s155 Γ n x0 h := by kernel_rfl
open Go.Vm.G in
def A156 : PFun := ⟨4, 33, (S (R <| o 8 (.move (.const (.bool false))) <| z) <|
  (S (S (R <| m 9 0 <| z) <|
  (.block 0 [] ([8] ++ g 10 23)
  (S (R <| b 11 .eql (t 9) (i 0) <| m 10 11 <| z) <|
  (.cond (t 10) [] ([8] ++ g 12 21)
  (S (R <| m 12 1 <| b 13 .eql (t 12) (i 0) <| m 14 13 <| q 17 14 true [15, 16] (m 15 2 <| b 16 .eql (t 15) (i 0) <| z) (t 16) <|
  m 8 17 <| z) <|
  .ret)
  (S (S (R <| b 19 .eql (t 9) (i 1) <| m 18 19 <| z) <|
  (.cond (t 18) [18] [20]
  .skip
  (R <| b 20 .eql (t 9) (i 2) <| m 18 20 <| z))) <|
  (.cond (t 18) [] ([8] ++ g 21 12)
  (S (R <| m 21 1 <| b 22 .leq (i 0) (t 21) <| m 23 22 <| q 27 23 true [24, 25, 26] (m 24 1 <| m 25 2 <| b 26 .lss (t 24) (t 25) <| z) (t 26) <|
  m 28 27 <| q 32 28 true [29, 30, 31] (m 29 2 <| m 30 3 <| b 31 .leq (t 29) (t 30) <| z) (t 31) <|
  m 8 32 <| z) <|
  .ret)
  .skip)))))) <|
  (S (R <| o 8 (.move (.const (.bool false))) <| z) <|
  .ret))), [.tmp 8], [.keep]⟩
theorem ok156 : ∃ fn c, FunOk Tryz.prog 156 fn c A156.erase := ⟨Tryz.f156, _, ⟨Tryz.func156, rfl, by kernel_rfl, by kernel_rfl, by kernel_rfl, of_decide_eq_true (by kernel_rfl), by kernel_rfl⟩⟩
noncomputable def s156 (Γ : PCallee) (n : Nat) (x0 : PV) (x1 : PV) (x2 : PV) (x3 : PV) (h : PHeap) : Pt := KL (fun w1 h2 => finP [.keep] h h2 [(.bool false : PV)]) fun j0 => (binP .eql x0 (.int .i64 0 : PV)).bind fun v3 => KL (fun w5 h6 => j0 [] h6) fun j4 => ifP v3 ( (binP .eql x1 (.int .i64 0 : PV)).bind fun v7 => K1 (fun v9 h10 => finP [.keep] h h10 [v9]) fun j8 => scP v7 true ( (binP .eql x2 (.int .i64 0 : PV)).bind fun v11 => j8 v11 h) (j8 (.bool false) h)) ( (binP .eql x0 (.int .i64 1 : PV)).bind fun v12 => KL (fun w14 h15 => KL (fun w17 h18 => j4 [] h18) fun j16 => ifP (nthP w14 0) ( (binP .leq (.int .i64 0 : PV) x1).bind fun v19 => K1 (fun v21 h22 => K1 (fun v24 h25 => finP [.keep] h h25 [v24]) fun j23 => scP v21 true ( (binP .leq x2 x3).bind fun v26 => j23 v26 h22) (j23 (.bool false) h22)) fun j20 => scP v19 true ( (binP .lss x1 x2).bind fun v27 => j20 v27 h15) (j20 (.bool false) h15)) ( j16 [] h15)) fun j13 => ifP v12 ( j13 [v12] h) ( (binP .eql x0 (.int .i64 2 : PV)).bind fun v28 => j13 [v28] h))
theorem s156_eq (Γ : PCallee) (n : Nat) (x0 : PV) (x1 : PV) (x2 : PV) (x3 : PV) (h : PHeap) : pfunK Γ n A156 [x0, x1, x2, x3] h = s156 Γ n x0 x1 x2 x3 h := by kernel_rfl
open Go.Vm.G in
def A157 : PFun := ⟨1, 23, (S (R <| o 2 (.move (.const (.bool false))) <| z) <|
  (S (S (R <| m 4 0 <| o 5 (.len true (t 4)) <| o 6 (.move (i 0)) <| z) <|
  (.block 0 [] ([2, 3] ++ g 6 14)
  (.loop [6] ([2, 3] ++ g 7 13)
  (S (R <| b 7 .lss (t 6) (t 5) <| z) <|
  (S (.cond (t 7) [] []
  .skip
  (.exit 0)) <|
  (S (.block 1 [] ([2, 3] ++ g 8 11)
  (S (R <| m 8 6 <| m 3 8 <| z) <|
  (S (R <| m 9 0 <| m 10 3 <| o 11 (.indexStr (t 9) (t 10)) <| b 12 .lss (t 11) (.const (.int .u8 32)) <| m 13 12 <| q 18 13 false (g 14 4) (m 14 0 <| m 15 3 <| o 16 (.indexStr (t 14) (t 15)) <| b 17 .gtr (t 16) (.const (.int .u8 126)) <| z) (t 17) <|
  z) <|
  (.cond (t 18) [] [2]
  (S (R <| o 2 (.move (.const (.bool false))) <| z) <|
  .ret)
  .skip)))) <|
  (R <| b 19 .add (t 6) (i 1) <| m 6 19 <| z))))))) <|
  (S (R <| m 20 0 <| o 21 (.len true (t 20)) <| b 22 .leq (t 21) (i 22) <| m 2 22 <| z) <|
  .ret))), [.tmp 2], [.keep]⟩
theorem ok157 : ∃ fn c, FunOk Tryz.prog 157 fn c A157.erase := ⟨Tryz.f157, _, ⟨Tryz.func157, rfl, by kernel_rfl, by kernel_rfl, by kernel_rfl, of_decide_eq_true (by kernel_rfl), by kernel_rfl⟩⟩
noncomputable def s157_L0 (Γ : PCallee) (n : Nat) (x0 : PV) (h : PHeap) (v0 : PV) (j1 : Kt) : (Kt) → Kt := fun c6 w7 h8 => (binP .lss (nthP w7 0) v0).bind fun v9 => KL (fun w11 h12 => KL (fun w14 h15 => (binP .add (nthP w7 0) (.int .i64 1 : PV)).bind fun v16 => c6 [v16] (trim h [v16] h15)) fun j13 => (indexStrP x0 (nthP w7 0)).bind fun v17 => (binP .lss v17 (.int .u8 32 : PV)).bind fun v18 => K1 (fun v20 h21 => KL (fun w23 h24 => j13 [] h24) fun j22 => ifP v20 ( finP [.keep] h h21 [(.bool false : PV)]) ( j22 [] h21)) fun j19 => scP v18 false ( (indexStrP x0 (nthP w7 0)).bind fun v25 => (binP .gtr v25 (.int .u8 126 : PV)).bind fun v26 => j19 v26 h12) (j19 (.bool true) h12)) fun j10 => ifP v9 ( j10 [] h8) ( j1 [] h8)
noncomputable def s157 (Γ : PCallee) (n : Nat) (x0 : PV) (h : PHeap) : Pt := (lenP true x0).bind fun v0 => KL (fun w2 h3 => (lenP true x0).bind fun v4 => (binP .leq v4 (.int .i64 22 : PV)).bind fun v5 => finP [.keep] h h3 [v5]) fun j1 => loopP (s157_L0 Γ n x0 h v0 j1) n [(.int .i64 0 : PV)] h
theorem s157_eq (Γ : PCallee) (n : Nat) (x0 : PV) (h : PHeap) : pfunK Γ n A157 [x0] h = s157 Γ n x0 h := by kernel_rfl
open Go.Vm.G in
def A158 : PFun := ⟨1, 13, (S (R <| o 1 (.box 89 (t 0)) <| o 2 (.move (.const (.bool false))) <| z) <|
  (S (R <| f 3 0 1 <| l 4 3 <| o 5 (.call 146 [(t 4), (i 0), (i 119)]) <| o 6 (.un .not (t 5)) <| m 7 6 <| q 12 7 false (g 8 4) (f 8 1 1 <| l 9 8 <| o 10 (.call 146 [(t 9), (i 0), (i 31)]) <| o 11 (.un .not (t 10)) <| z) (t 11) <|
  m 2 12 <| z) <|
  .ret)), [.tmp 2], [.keep]⟩
theorem ok158 : ∃ fn c, FunOk Tryz.prog 158 fn c A158.erase := ⟨Tryz.f158, _, ⟨Tryz.func158, rfl, by kernel_rfl, by kernel_rfl, by kernel_rfl, of_decide_eq_true (by kernel_rfl), by kernel_rfl⟩⟩
noncomputable def s158 (Γ : PCallee) (n : Nat) (x0 : PV) (h : PHeap) : Pt := forkP (.ptr h.length 0) (h ++ [.box (cellsP x0) 89 .rw]) fun v0 h1 => (fieldAddrP 0 v0).bind fun v2 => (loadP false 1 v2 h1).bind fun v3 => (Γ 146 [v3, (.int .i64 0 : PV), (.int .i64 119 : PV)] h1).bind fun p4 => (unP .not p4.1).bind fun v5 => K1 (fun v7 h8 => finP [.keep] h h8 [v7]) fun j6 => scP v5 false ( (fieldAddrP 1 v0).bind fun v9 => (loadP false 1 v9 p4.2).bind fun v10 => (Γ 146 [v10, (.int .i64 0 : PV), (.int .i64 31 : PV)] p4.2).bind fun p11 => (unP .not p11.1).bind fun v12 => j6 v12 p11.2) (j6 (.bool true) p4.2)
theorem s158_eq (Γ : PCallee) (n : Nat) (x0 : PV) (h : PHeap) : pfunK Γ n A158 [x0] h = s158 Γ n x0 h := by kernel_rfl
open Go.Vm.G in
def A159 : PFun := ⟨3, 92, (S (R <| o 3 (.box 55 (t 0)) <| o 6 (.move (.const (.bool false))) <| z) <|
  (S (S (R <| f 10 1 3 <| l 11 10 <| o 12 (.len false (t 11)) <| b 13 .gtr (t 12) (i 16) <| m 14 13 <| q 23 14 false ([15, 16, 17, 22] ++ g 18 4) (f 15 0 3 <| l 16 15 <| m 17 16 <| q 22 17 true (g 18 4) (f 18 1 3 <| l 19 18 <| o 20 (.len false (t 19)) <| b 21 .eql (t 20) (i 0) <| z) (t 21) <|
  z) (t 22) <|
  z) <|
  (.cond (t 23) [] [6]
  (S (R <| o 6 (.move (.const (.bool false))) <| z) <|
  .ret)
  .skip)) <|
  (S (S (R <| f 24 1 3 <| l 25 24 <| o 26 (.len false (t 25)) <| o 27 (.move (i 0)) <| z) <|
  (.block 0 [] ([6, 7, 8] ++ g 27 46)
  (.loop [27] ([6, 7, 8] ++ g 28 45)
  (S (R <| b 28 .lss (t 27) (t 26) <| z) <|
  (S (.cond (t 28) [] []
  .skip
  (.exit 0)) <|
  (S (.block 1 [] ([6, 7, 8] ++ g 29 43)
  (S (R <| m 29 27 <| o 30 (.indexAddr 2 (t 25) (t 27)) <| o 31 (.load true 2 (t 30)) <| o 8 (.new 120 [(.int .i64 0), (.int .i64 0)]) <| m 7 29 <| n (.store 2 (t 8) (t 31)) <| z) <|
  (S (D <| m 32 7 <| b 33 .eql (t 32) (i 0) <| m 34 33 <| q 38 34 true [35, 36, 37] (f 35 0 8 <| l 36 35 <| b 37 .neq (t 36) (i 0) <| z) (t 37) <|
  m 39 38 <| q 54 39 false ([40, 41, 42, 53] ++ g 43 10) (m 40 7 <| b 41 .gtr (t 40) (i 0) <| m 42 41 <| q 53 42 true (g 43 10) (f 43 0 8 <| l 44 43 <| f 45 1 3 <| l 46 45 <| m 47 7 <| b 48 .sub (t 47) (i 1) <| o 49 (.indexAddr 2 (t 46) (t 48)) <| f 50 0 49 <| l 51 50 <| b 52 .leq (t 44) (t 51) <| z) (t 52) <|
  z) (t 53) <|
  m 55 54 <| q 59 55 false [56, 57, 58] (f 56 0 8 <| l 57 56 <| b 58 .gtr (t 57) (i 9999) <| z) (t 58) <|
  m 60 59 <| q 65 60 false (g 61 4) (f 61 1 8 <| l 62 61 <| m 63 1 <| b 64 .lss (t 62) (t 63) <| z) (t 64) <|
  m 66 65 <| q 71 66 false (g 67 4) (f 67 1 8 <| l 68 67 <| m 69 2 <| b 70 .gtr (t 68) (t 69) <| z) (t 70) <|
  z) <|
  (.cond (t 71) [] [6]
  (S (R <| o 6 (.move (.const (.bool false))) <| z) <|
  .ret)
  .skip)))) <|
  (R <| b 72 .add (t 27) (i 1) <| m 27 72 <| z))))))) <|
  (S (R <| o 73 (.mkFunc 172 [] [(t 3)]) <| m 9 73 <| z) <|
  (S (R <| m 74 9 <| f 75 2 3 <| l 76 75 <| f 77 3 3 <| l 78 77 <| f 79 4 3 <| l 80 79 <| o 81 (.callV (t 74) [(t 76), (t 78), (t 80)]) <| m 82 81 <| q 91 82 true (g 83 8) (m 83 9 <| f 84 5 3 <| l 85 84 <| f 86 6 3 <| l 87 86 <| f 88 7 3 <| l 89 88 <| o 90 (.callV (t 83) [(t 85), (t 87), (t 89)]) <| z) (t 90) <|
  m 6 91 <| z) <|
  .ret))))), [.tmp 6], [.keep]⟩
theorem ok159 : ∃ fn c, FunOk Tryz.prog 159 fn c A159.erase := ⟨Tryz.f159, _, ⟨Tryz.func159, rfl, by kernel_rfl, by kernel_rfl, by kernel_rfl, of_decide_eq_true (by kernel_rfl), by kernel_rfl⟩⟩
noncomputable def s159_L0 (Γ : PCallee) (n : Nat) (x1 : PV) (x2 : PV) (h : PHeap) (v0 : PV) (h11 : PHeap) (v13 : PV) (v14 : PV) (j15 : Kt) : (Kt) → Kt := fun c35 w36 h37 => (binP .lss (nthP w36 0) v14).bind fun v38 => KL (fun w40 h41 => KL (fun w43 h44 => (binP .add (nthP w36 0) (.int .i64 1 : PV)).bind fun v45 => c35 [v45] (trim h11 [v45] h44)) fun j42 => (indexAddrP 2 v13 (nthP w36 0)).bind fun v46 => (loadP true 2 v46 h41).bind fun v47 => forkP (.ptr h41.length 0) (h41 ++ [.box [.int .i64 0, .int .i64 0] 120 .rw]) fun v48 h49 => (storeP 2 v48 v47 h49).bind fun h50 => (binP .eql (nthP w36 0) (.int .i64 0 : PV)).bind fun v51 => K1 (fun v53 h54 => K1 (fun v56 h57 => K1 (fun v59 h60 => K1 (fun v62 h63 => K1 (fun v65 h66 => KL (fun w68 h69 => j42 [] h69) fun j67 => ifP v65 ( finP [.keep] h h66 [(.bool false : PV)]) ( j67 [] h66)) fun j64 => scP v62 false ( (fieldAddrP 1 v48).bind fun v70 => (loadP false 1 v70 h63).bind fun v71 => (binP .gtr v71 x2).bind fun v72 => j64 v72 h63) (j64 (.bool true) h63)) fun j61 => scP v59 false ( (fieldAddrP 1 v48).bind fun v73 => (loadP false 1 v73 h60).bind fun v74 => (binP .lss v74 x1).bind fun v75 => j61 v75 h60) (j61 (.bool true) h60)) fun j58 => scP v56 false ( (fieldAddrP 0 v48).bind fun v76 => (loadP false 1 v76 h57).bind fun v77 => (binP .gtr v77 (.int .i64 9999 : PV)).bind fun v78 => j58 v78 h57) (j58 (.bool true) h57)) fun j55 => scP v53 false ( (binP .gtr (nthP w36 0) (.int .i64 0 : PV)).bind fun v79 => K1 (fun v81 h82 => j55 v81 h82) fun j80 => scP v79 true ( (fieldAddrP 0 v48).bind fun v83 => (loadP false 1 v83 h54).bind fun v84 => (fieldAddrP 1 v0).bind fun v85 => (loadP false 1 v85 h54).bind fun v86 => (binP .sub (nthP w36 0) (.int .i64 1 : PV)).bind fun v87 => (indexAddrP 2 v86 v87).bind fun v88 => (fieldAddrP 0 v88).bind fun v89 => (loadP false 1 v89 h54).bind fun v90 => (binP .leq v84 v90).bind fun v91 => j80 v91 h54) (j80 (.bool false) h54)) (j55 (.bool true) h54)) fun j52 => scP v51 true ( (fieldAddrP 0 v48).bind fun v92 => (loadP false 1 v92 h50).bind fun v93 => (binP .neq v93 (.int .i64 0 : PV)).bind fun v94 => j52 v94 h50) (j52 (.bool false) h50)) fun j39 => ifP v38 ( j39 [] h37) ( j15 [] h37)
noncomputable def s159 (Γ : PCallee) (n : Nat) (x0 : PV) (x1 : PV) (x2 : PV) (h : PHeap) : Pt := forkP (.ptr h.length 0) (h ++ [.box (cellsP x0) 55 .rw]) fun v0 h1 => (fieldAddrP 1 v0).bind fun v2 => (loadP false 1 v2 h1).bind fun v3 => (lenP false v3).bind fun v4 => (binP .gtr v4 (.int .i64 16 : PV)).bind fun v5 => K1 (fun v7 h8 => KL (fun w10 h11 => (fieldAddrP 1 v0).bind fun v12 => (loadP false 1 v12 h11).bind fun v13 => (lenP false v13).bind fun v14 => KL (fun w16 h17 => (fieldAddrP 2 v0).bind fun v18 => (loadP false 1 v18 h17).bind fun v19 => (fieldAddrP 3 v0).bind fun v20 => (loadP false 1 v20 h17).bind fun v21 => (fieldAddrP 4 v0).bind fun v22 => (loadP false 1 v22 h17).bind fun v23 => (callVP Γ (PV.func 172 [] [v0]) [v19, v21, v23] h17).bind fun p24 => K1 (fun v26 h27 => finP [.keep] h h27 [v26]) fun j25 => scP p24.1 true ( (fieldAddrP 5 v0).bind fun v28 => (loadP false 1 v28 p24.2).bind fun v29 => (fieldAddrP 6 v0).bind fun v30 => (loadP false 1 v30 p24.2).bind fun v31 => (fieldAddrP 7 v0).bind fun v32 => (loadP false 1 v32 p24.2).bind fun v33 => (callVP Γ (PV.func 172 [] [v0]) [v29, v31, v33] p24.2).bind fun p34 => j25 p34.1 p34.2) (j25 (.bool false) p24.2)) fun j15 => loopP (s159_L0 Γ n x1 x2 h v0 h11 v13 v14 j15) n [(.int .i64 0 : PV)] h11) fun j9 => ifP v7 ( finP [.keep] h h8 [(.bool false : PV)]) ( j9 [] h8)) fun j6 => scP v5 false ( (fieldAddrP 0 v0).bind fun v95 => (loadP false 1 v95 h1).bind fun v96 => K1 (fun v98 h99 => j6 v98 h99) fun j97 => scP v96 true ( (fieldAddrP 1 v0).bind fun v100 => (loadP false 1 v100 h1).bind fun v101 => (lenP false v101).bind fun v102 => (binP .eql v102 (.int .i64 0 : PV)).bind fun v103 => j97 v103 h1) (j97 (.bool false) h1)) (j6 (.bool true) h1)
theorem s159_eq (Γ : PCallee) (n : Nat) (x0 : PV) (x1 : PV) (x2 : PV) (h : PHeap) : pfunK Γ n A159 [x0, x1, x2] h = s159 Γ n x0 x1 x2 h := by kernel_rfl
open Go.Vm.G in
def A160 : PFun := ⟨2, 19, (S (R <| o 4 (.move (i 0)) <| z) <|
  (S (S (R <| m 6 0 <| o 7 (.len false (t 6)) <| o 8 (.move (i 0)) <| z) <|
  (.block 0 [] ([4, 5] ++ g 8 11)
  (.loop [8] ([4, 5] ++ g 9 10)
  (S (R <| b 9 .lss (t 8) (t 7) <| z) <|
  (S (.cond (t 9) [] []
  .skip
  (.exit 0)) <|
  (S (.block 1 [] ([4, 5] ++ g 10 8)
  (S (R <| m 10 8 <| m 5 10 <| z) <|
  (S (R <| m 11 1 <| m 12 0 <| m 13 5 <| o 14 (.indexAddr 2 (t 12) (t 13)) <| o 15 (.load true 2 (t 14)) <| o 16 (.callV (t 11) [(t 15)]) <| z) <|
  (.cond (t 16) [] [4, 17]
  (S (R <| m 17 5 <| m 4 17 <| z) <|
  .ret)
  .skip)))) <|
  (R <| b 18 .add (t 8) (i 1) <| m 8 18 <| z))))))) <|
  (S (R <| o 4 (.move (i (-1))) <| z) <|
  .ret))), [.tmp 4], [.keep]⟩
theorem ok160 : ∃ fn c, FunOk Tryz.prog 160 fn c A160.erase := ⟨Tryz.f160, _, ⟨Tryz.func160, rfl, by kernel_rfl, by kernel_rfl, by kernel_rfl, of_decide_eq_true (by kernel_rfl), by kernel_rfl⟩⟩
noncomputable def s160_L0 (Γ : PCallee) (n : Nat) (x0 : PV) (x1 : PV) (h : PHeap) (v0 : PV) (j1 : Kt) : (Kt) → Kt := fun c4 w5 h6 => (binP .lss (nthP w5 0) v0).bind fun v7 => KL (fun w9 h10 => KL (fun w12 h13 => (binP .add (nthP w5 0) (.int .i64 1 : PV)).bind fun v14 => c4 [v14] (trim h [v14] h13)) fun j11 => (indexAddrP 2 x0 (nthP w5 0)).bind fun v15 => (loadP true 2 v15 h10).bind fun v16 => (callVP Γ x1 [v16] h10).bind fun p17 => KL (fun w19 h20 => j11 [] h20) fun j18 => ifP p17.1 ( finP [.keep] h p17.2 [(nthP w5 0)]) ( j18 [] p17.2)) fun j8 => ifP v7 ( j8 [] h6) ( j1 [] h6)
noncomputable def s160 (Γ : PCallee) (n : Nat) (x0 : PV) (x1 : PV) (h : PHeap) : Pt := (lenP false x0).bind fun v0 => KL (fun w2 h3 => finP [.keep] h h3 [(.int .i64 (-1) : PV)]) fun j1 => loopP (s160_L0 Γ n x0 x1 h v0 j1) n [(.int .i64 0 : PV)] h
theorem s160_eq (Γ : PCallee) (n : Nat) (x0 : PV) (x1 : PV) (h : PHeap) : pfunK Γ n A160 [x0, x1] h = s160 Γ n x0 x1 h := by kernel_rfl
open Go.Vm.G in
def A164 : PFun := ⟨3, 56, (S (R <| o 3 (.box 27 (t 0)) <| o 4 (.box 39 (t 1)) <| o 6 (.move (i 0)) <| z) <|
  (S (S (R <| m 9 2 <| b 10 .neq (t 9) (i 0) <| m 11 10 <| q 16 11 true (g 12 4) (f 12 0 4 <| l 13 12 <| m 14 2 <| b 15 .neq (t 13) (t 14) <| z) (t 15) <|
  m 17 16 <| q 23 17 false (g 18 5) (o 18 (.load true 2 (t 4)) <| f 19 2 3 <| l 20 19 <| o 21 (.call 173 [(t 18), (t 20)]) <| o 22 (.un .not (t 21)) <| z) (t 22) <|
  z) <|
  (.cond (t 23) [] [6]
  (S (R <| o 6 (.move (i 1)) <| z) <|
  .ret)
  .skip)) <|
  (S (S (R <| o 7 (.move (i 0)) <| z) <|
  (.block 0 [] ([6, 7] ++ g 24 16)
  (.loop [7] ([6] ++ g 24 16)
  (S (S (R <| m 24 7 <| f 25 1 4 <| l 26 25 <| o 27 (.len false (t 26)) <| b 28 .lss (t 24) (t 27) <| z) <|
  (.cond (t 28) [] []
  .skip
  (.exit 0))) <|
  (S (.block 1 [] ([6] ++ g 31 9)
  (S (D <| f 31 1 3 <| l 32 31 <| f 33 1 4 <| l 34 33 <| m 35 7 <| o 36 (.indexAddr 6 (t 34) (t 35)) <| o 37 (.load true 6 (t 36)) <| o 38 (.call 174 [(t 32), (t 37)]) <| o 39 (.un .not (t 38)) <| z) <|
  (.cond (t 39) [] [6]
  (S (R <| o 6 (.move (i 1)) <| z) <|
  .ret)
  .skip))) <|
  (R <| m 29 7 <| b 30 .add (t 29) (i 1) <| m 7 30 <| z)))))) <|
  (S (S (R <| o 8 (.move (i 0)) <| z) <|
  (.block 2 [] ([6, 8] ++ g 40 16)
  (.loop [8] ([6] ++ g 40 16)
  (S (S (R <| m 40 8 <| f 41 1 4 <| l 42 41 <| o 43 (.len false (t 42)) <| b 44 .lss (t 40) (t 43) <| z) <|
  (.cond (t 44) [] []
  .skip
  (.exit 2))) <|
  (S (.block 3 [] ([6] ++ g 47 9)
  (S (D <| f 47 1 4 <| l 48 47 <| m 49 8 <| o 50 (.indexAddr 6 (t 48) (t 49)) <| f 51 1 50 <| l 52 51 <| o 53 (.load true 13 (t 3)) <| O 54 (.call 112 [(t 53)]) <| b 55 .gtr (t 52) (t 54) <| z) <|
  (.cond (t 55) [] [6]
  (S (R <| o 6 (.move (i 10)) <| z) <|
  .ret)
  .skip))) <|
  (R <| m 45 8 <| b 46 .add (t 45) (i 1) <| m 8 46 <| z)))))) <|
  (S (R <| o 6 (.move (i 0)) <| z) <|
  .ret))))), [.tmp 6], [.keep]⟩
theorem ok164 : ∃ fn c, FunOk Tryz.prog 164 fn c A164.erase := ⟨Tryz.f164, _, ⟨Tryz.func164, rfl, by kernel_rfl, by kernel_rfl, by kernel_rfl, of_decide_eq_true (by kernel_rfl), by kernel_rfl⟩⟩
noncomputable def s164_L0 (Γ : PCallee) (n : Nat) (h : PHeap) (v0 : PV) (v2 : PV) (h16 : PHeap) (j17 : Kt) : (Kt) → Kt := fun c20 w21 h22 => (fieldAddrP 1 v2).bind fun v23 => (loadP false 1 v23 h22).bind fun v24 => (lenP false v24).bind fun v25 => (binP .lss (nthP w21 0) v25).bind fun v26 => KL (fun w28 h29 => KL (fun w31 h32 => (binP .add (nthP w21 0) (.int .i64 1 : PV)).bind fun v33 => c20 [v33] (trim h16 [v33] h32)) fun j30 => (fieldAddrP 1 v2).bind fun v34 => (loadP false 1 v34 h29).bind fun v35 => (indexAddrP 6 v35 (nthP w21 0)).bind fun v36 => (fieldAddrP 1 v36).bind fun v37 => (loadP false 1 v37 h29).bind fun v38 => (loadP true 13 v0 h29).bind fun v39 => (Γ 112 [v39] (lock h29)).bind fun p40 => unl h29 p40.2 fun h41 => (binP .gtr v38 p40.1).bind fun v42 => KL (fun w44 h45 => j30 [] h45) fun j43 => ifP v42 ( finP [.keep] h h41 [(.int .i64 10 : PV)]) ( j43 [] h41)) fun j27 => ifP v26 ( j27 [] h22) ( j17 [] h22)
noncomputable def s164_L1 (Γ : PCallee) (n : Nat) (h : PHeap) (v0 : PV) (v2 : PV) (h13 : PHeap) (j14 : Kt) : (Kt) → Kt := fun c46 w47 h48 => (fieldAddrP 1 v2).bind fun v49 => (loadP false 1 v49 h48).bind fun v50 => (lenP false v50).bind fun v51 => (binP .lss (nthP w47 0) v51).bind fun v52 => KL (fun w54 h55 => KL (fun w57 h58 => (binP .add (nthP w47 0) (.int .i64 1 : PV)).bind fun v59 => c46 [v59] (trim h13 [v59] h58)) fun j56 => (fieldAddrP 1 v0).bind fun v60 => (loadP false 1 v60 h55).bind fun v61 => (fieldAddrP 1 v2).bind fun v62 => (loadP false 1 v62 h55).bind fun v63 => (indexAddrP 6 v63 (nthP w47 0)).bind fun v64 => (loadP true 6 v64 h55).bind fun v65 => (Γ 174 [v61, v65] h55).bind fun p66 => (unP .not p66.1).bind fun v67 => KL (fun w69 h70 => j56 [] h70) fun j68 => ifP v67 ( finP [.keep] h p66.2 [(.int .i64 1 : PV)]) ( j68 [] p66.2)) fun j53 => ifP v52 ( j53 [] h48) ( j14 [] h48)
noncomputable def s164 (Γ : PCallee) (n : Nat) (x0 : PV) (x1 : PV) (x2 : PV) (h : PHeap) : Pt := forkP (.ptr h.length 0) (h ++ [.box (cellsP x0) 27 .rw]) fun v0 h1 => forkP (.ptr h1.length 0) (h1 ++ [.box (cellsP x1) 39 .rw]) fun v2 h3 => (binP .neq x2 (.int .i64 0 : PV)).bind fun v4 => K1 (fun v6 h7 => K1 (fun v9 h10 => KL (fun w12 h13 => KL (fun w15 h16 => KL (fun w18 h19 => finP [.keep] h h19 [(.int .i64 0 : PV)]) fun j17 => loopP (s164_L0 Γ n h v0 v2 h16 j17) n [(.int .i64 0 : PV)] h16) fun j14 => loopP (s164_L1 Γ n h v0 v2 h13 j14) n [(.int .i64 0 : PV)] h13) fun j11 => ifP v9 ( finP [.keep] h h10 [(.int .i64 1 : PV)]) ( j11 [] h10)) fun j8 => scP v6 false ( (loadP true 2 v2 h7).bind fun v71 => (fieldAddrP 2 v0).bind fun v72 => (loadP false 1 v72 h7).bind fun v73 => (Γ 173 [v71, v73] h7).bind fun p74 => (unP .not p74.1).bind fun v75 => j8 v75 p74.2) (j8 (.bool true) h7)) fun j5 => scP v4 true ( (fieldAddrP 0 v2).bind fun v76 => (loadP false 1 v76 h3).bind fun v77 => (binP .neq v77 x2).bind fun v78 => j5 v78 h3) (j5 (.bool false) h3)
theorem s164_eq (Γ : PCallee) (n : Nat) (x0 : PV) (x1 : PV) (x2 : PV) (h : PHeap) : pfunK Γ n A164 [x0, x1, x2] h = s164 Γ n x0 x1 x2 h := by kernel_rfl
open Go.Vm.G in
def A165 : PFun := ⟨1, 98, (S (R <| o 1 (.box 43 (t 0)) <| o 2 (.move (.const (.bool false))) <| z) <|
  (S (R <| f 5 1 1 <| l 6 5 <| o 7 (.len false (t 6)) <| m 3 7 <| z) <|
  (S (S (R <| f 8 0 1 <| l 9 8 <| o 10 (.call 137 [(t 9)]) <| o 11 (.un .not (t 10)) <| m 12 11 <| q 21 12 false (g 13 4 ++ [20, 17, 18, 19]) (f 13 2 1 <| l 14 13 <| b 15 .neq (t 14) (i 8) <| m 16 15 <| q 20 16 true [17, 18, 19] (f 17 2 1 <| l 18 17 <| b 19 .neq (t 18) (i 16) <| z) (t 19) <|
  z) (t 20) <|
  m 22 21 <| q 25 22 false [23, 24] (m 23 3 <| b 24 .gtr (t 23) (i 4096) <| z) (t 24) <|
  m 26 25 <| q 30 26 false [27, 28, 29] (f 27 3 1 <| l 28 27 <| b 29 .lss (t 28) (i 1) <| z) (t 29) <|
  m 31 30 <| q 35 31 false [32, 33, 34] (f 32 3 1 <| l 33 32 <| b 34 .gtr (t 33) (i 65535) <| z) (t 34) <|
  m 36 35 <| q 40 36 false [37, 38, 39] (f 37 4 1 <| l 38 37 <| b 39 .lss (t 38) (i 0) <| z) (t 39) <|
  m 41 40 <| q 45 41 false [42, 43, 44] (f 42 4 1 <| l 43 42 <| b 44 .gtr (t 43) (i 64) <| z) (t 44) <|
  m 46 45 <| q 50 46 false [47, 48, 49] (f 47 5 1 <| l 48 47 <| b 49 .lss (t 48) (i (-1)) <| z) (t 49) <|
  m 51 50 <| q 55 51 false [52, 53, 54] (f 52 5 1 <| l 53 52 <| b 54 .gtr (t 53) (i 256) <| z) (t 54) <|
  m 56 55 <| q 60 56 false [57, 58, 59] (f 57 6 1 <| l 58 57 <| b 59 .lss (t 58) (i (-64)) <| z) (t 59) <|
  m 61 60 <| q 65 61 false [62, 63, 64] (f 62 6 1 <| l 63 62 <| b 64 .gtr (t 63) (i 63) <| z) (t 64) <|
  z) <|
  (.cond (t 65) [] [2]
  (S (R <| o 2 (.move (.const (.bool false))) <| z) <|
  .ret)
  .skip)) <|
  (S (S (R <| o 4 (.move (i 0)) <| z) <|
  (.block 0 [] ([2, 4] ++ g 66 14)
  (.loop [4] ([2] ++ g 66 14)
  (S (S (R <| m 66 4 <| m 67 3 <| b 68 .lss (t 66) (t 67) <| z) <|
  (.cond (t 68) [] []
  .skip
  (.exit 0))) <|
  (S (.block 1 [] ([2] ++ g 71 9)
  (S (D <| f 71 1 1 <| l 72 71 <| m 73 4 <| o 74 (.indexAddr 1 (t 72) (t 73)) <| l 75 74 <| f 76 2 1 <| l 77 76 <| o 78 (.call 175 [(t 75), (t 77)]) <| o 79 (.un .not (t 78)) <| z) <|
  (.cond (t 79) [] [2]
  (S (R <| o 2 (.move (.const (.bool false))) <| z) <|
  .ret)
  .skip))) <|
  (R <| m 69 4 <| b 70 .add (t 69) (i 1) <| m 4 70 <| z)))))) <|
  (S (R <| f 80 7 1 <| l 81 80 <| f 82 8 1 <| l 83 82 <| f 84 9 1 <| l 85 84 <| m 86 3 <| o 87 (.call 176 [(t 81), (t 83), (t 85), (t 86)]) <| m 88 87 <| q 97 88 true (g 89 8) (f 89 10 1 <| l 90 89 <| f 91 11 1 <| l 92 91 <| f 93 12 1 <| l 94 93 <| m 95 3 <| o 96 (.call 176 [(t 90), (t 92), (t 94), (t 95)]) <| z) (t 96) <|
  m 2 97 <| z) <|
  .ret))))), [.tmp 2], [.keep]⟩
theorem ok165 : ∃ fn c, FunOk Tryz.prog 165 fn c A165.erase := ⟨Tryz.f165, _, ⟨Tryz.func165, rfl, by kernel_rfl, by kernel_rfl, by kernel_rfl, of_decide_eq_true (by kernel_rfl), by kernel_rfl⟩⟩
noncomputable def s165_L0 (Γ : PCallee) (n : Nat) (h : PHeap) (v0 : PV) (v4 : PV) (h41 : PHeap) (j42 : Kt) : (Kt) → Kt := fun c62 w63 h64 => (binP .lss (nthP w63 0) v4).bind fun v65 => KL (fun w67 h68 => KL (fun w70 h71 => (binP .add (nthP w63 0) (.int .i64 1 : PV)).bind fun v72 => c62 [v72] (trim h41 [v72] h71)) fun j69 => (fieldAddrP 1 v0).bind fun v73 => (loadP false 1 v73 h68).bind fun v74 => (indexAddrP 1 v74 (nthP w63 0)).bind fun v75 => (loadP false 1 v75 h68).bind fun v76 => (fieldAddrP 2 v0).bind fun v77 => (loadP false 1 v77 h68).bind fun v78 => (Γ 175 [v76, v78] h68).bind fun p79 => (unP .not p79.1).bind fun v80 => KL (fun w82 h83 => j69 [] h83) fun j81 => ifP v80 ( finP [.keep] h p79.2 [(.bool false : PV)]) ( j81 [] p79.2)) fun j66 => ifP v65 ( j66 [] h64) ( j42 [] h64)
noncomputable def s165 (Γ : PCallee) (n : Nat) (x0 : PV) (h : PHeap) : Pt := forkP (.ptr h.length 0) (h ++ [.box (cellsP x0) 43 .rw]) fun v0 h1 => (fieldAddrP 1 v0).bind fun v2 => (loadP false 1 v2 h1).bind fun v3 => (lenP false v3).bind fun v4 => (fieldAddrP 0 v0).bind fun v5 => (loadP false 1 v5 h1).bind fun v6 => (Γ 137 [v6] h1).bind fun p7 => (unP .not p7.1).bind fun v8 => K1 (fun v10 h11 => K1 (fun v13 h14 => K1 (fun v16 h17 => K1 (fun v19 h20 => K1 (fun v22 h23 => K1 (fun v25 h26 => K1 (fun v28 h29 => K1 (fun v31 h32 => K1 (fun v34 h35 => K1 (fun v37 h38 => KL (fun w40 h41 => KL (fun w43 h44 => (fieldAddrP 7 v0).bind fun v45 => (loadP false 1 v45 h44).bind fun v46 => (fieldAddrP 8 v0).bind fun v47 => (loadP false 1 v47 h44).bind fun v48 => (fieldAddrP 9 v0).bind fun v49 => (loadP false 1 v49 h44).bind fun v50 => (Γ 176 [v46, v48, v50, v4] h44).bind fun p51 => K1 (fun v53 h54 => finP [.keep] h h54 [v53]) fun j52 => scP p51.1 true ( (fieldAddrP 10 v0).bind fun v55 => (loadP false 1 v55 p51.2).bind fun v56 => (fieldAddrP 11 v0).bind fun v57 => (loadP false 1 v57 p51.2).bind fun v58 => (fieldAddrP 12 v0).bind fun v59 => (loadP false 1 v59 p51.2).bind fun v60 => (Γ 176 [v56, v58, v60, v4] p51.2).bind fun p61 => j52 p61.1 p61.2) (j52 (.bool false) p51.2)) fun j42 => loopP (s165_L0 Γ n h v0 v4 h41 j42) n [(.int .i64 0 : PV)] h41) fun j39 => ifP v37 ( finP [.keep] h h38 [(.bool false : PV)]) ( j39 [] h38)) fun j36 => scP v34 false ( (fieldAddrP 6 v0).bind fun v84 => (loadP false 1 v84 h35).bind fun v85 => (binP .gtr v85 (.int .i64 63 : PV)).bind fun v86 => j36 v86 h35) (j36 (.bool true) h35)) fun j33 => scP v31 false ( (fieldAddrP 6 v0).bind fun v87 => (loadP false 1 v87 h32).bind fun v88 => (binP .lss v88 (.int .i64 (-64) : PV)).bind fun v89 => j33 v89 h32) (j33 (.bool true) h32)) fun j30 => scP v28 false ( (fieldAddrP 5 v0).bind fun v90 => (loadP false 1 v90 h29).bind fun v91 => (binP .gtr v91 (.int .i64 256 : PV)).bind fun v92 => j30 v92 h29) (j30 (.bool true) h29)) fun j27 => scP v25 false ( (fieldAddrP 5 v0).bind fun v93 => (loadP false 1 v93 h26).bind fun v94 => (binP .lss v94 (.int .i64 (-1) : PV)).bind fun v95 => j27 v95 h26) (j27 (.bool true) h26)) fun j24 => scP v22 false ( (fieldAddrP 4 v0).bind fun v96 => (loadP false 1 v96 h23).bind fun v97 => (binP .gtr v97 (.int .i64 64 : PV)).bind fun v98 => j24 v98 h23) (j24 (.bool true) h23)) fun j21 => scP v19 false ( (fieldAddrP 4 v0).bind fun v99 => (loadP false 1 v99 h20).bind fun v100 => (binP .lss v100 (.int .i64 0 : PV)).bind fun v101 => j21 v101 h20) (j21 (.bool true) h20)) fun j18 => scP v16 false ( (fieldAddrP 3 v0).bind fun v102 => (loadP false 1 v102 h17).bind fun v103 => (binP .gtr v103 (.int .i64 65535 : PV)).bind fun v104 => j18 v104 h17) (j18 (.bool true) h17)) fun j15 => scP v13 false ( (fieldAddrP 3 v0).bind fun v105 => (loadP false 1 v105 h14).bind fun v106 => (binP .lss v106 (.int .i64 1 : PV)).bind fun v107 => j15 v107 h14) (j15 (.bool true) h14)) fun j12 => scP v10 false ( (binP .gtr v4 (.int .i64 4096 : PV)).bind fun v108 => j12 v108 h11) (j12 (.bool true) h11)) fun j9 => scP v8 false ( (fieldAddrP 2 v0).bind fun v109 => (loadP false 1 v109 p7.2).bind fun v110 => (binP .neq v110 (.int .i64 8 : PV)).bind fun v111 => K1 (fun v113 h114 => j9 v113 h114) fun j112 => scP v111 true ( (fieldAddrP 2 v0).bind fun v115 => (loadP false 1 v115 p7.2).bind fun v116 => (binP .neq v116 (.int .i64 16 : PV)).bind fun v117 => j112 v117 p7.2) (j112 (.bool false) p7.2)) (j9 (.bool true) p7.2)
theorem s165_eq (Γ : PCallee) (n : Nat) (x0 : PV) (h : PHeap) : pfunK Γ n A165 [x0] h = s165 Γ n x0 h := by kernel_rfl
open Go.Vm.G in
def A166 : PFun := ⟨2, 26, (S (R <| o 2 (.box 27 (t 0)) <| o 3 (.box 57 (t 1)) <| o 4 (.move (i 0)) <| z) <|
  (S (S (R <| o 6 (.load true 33 (t 3)) <| o 7 (.call 110 [(t 6)]) <| o 8 (.un .not (t 7)) <| z) <|
  (.cond (t 8) [] [4]
  (S (R <| o 4 (.move (i 1)) <| z) <|
  .ret)
  .skip)) <|
  (S (S (R <| o 5 (.move (i 0)) <| z) <|
  (.block 0 [] ([4, 5] ++ g 9 17)
  (.loop [5] ([4] ++ g 9 17)
  (S (S (R <| m 9 5 <| f 10 1 3 <| l 11 10 <| o 12 (.len false (t 11)) <| b 13 .lss (t 9) (t 12) <| z) <|
  (.cond (t 13) [] []
  .skip
  (.exit 0))) <|
  (S (.block 1 [] ([4] ++ g 16 10)
  (S (D <| f 16 1 3 <| l 17 16 <| m 18 5 <| o 19 (.indexAddr 2 (t 17) (t 18)) <| f 20 1 19 <| l 21 20 <| f 22 11 2 <| l 23 22 <| o 24 (.len false (t 23)) <| b 25 .gtr (t 21) (t 24) <| z) <|
  (.cond (t 25) [] [4]
  (S (R <| o 4 (.move (i 10)) <| z) <|
  .ret)
  .skip))) <|
  (R <| m 14 5 <| b 15 .add (t 14) (i 1) <| m 5 15 <| z)))))) <|
  (S (R <| o 4 (.move (i 0)) <| z) <|
  .ret)))), [.tmp 4], [.keep]⟩
theorem ok166 : ∃ fn c, FunOk Tryz.prog 166 fn c A166.erase := ⟨Tryz.f166, _, ⟨Tryz.func166, rfl, by kernel_rfl, by kernel_rfl, by kernel_rfl, of_decide_eq_true (by kernel_rfl), by kernel_rfl⟩⟩
noncomputable def s166_L0 (Γ : PCallee) (n : Nat) (h : PHeap) (v0 : PV) (v2 : PV) (h9 : PHeap) (j10 : Kt) : (Kt) → Kt := fun c13 w14 h15 => (fieldAddrP 1 v2).bind fun v16 => (loadP false 1 v16 h15).bind fun v17 => (lenP false v17).bind fun v18 => (binP .lss (nthP w14 0) v18).bind fun v19 => KL (fun w21 h22 => KL (fun w24 h25 => (binP .add (nthP w14 0) (.int .i64 1 : PV)).bind fun v26 => c13 [v26] (trim h9 [v26] h25)) fun j23 => (fieldAddrP 1 v2).bind fun v27 => (loadP false 1 v27 h22).bind fun v28 => (indexAddrP 2 v28 (nthP w14 0)).bind fun v29 => (fieldAddrP 1 v29).bind fun v30 => (loadP false 1 v30 h22).bind fun v31 => (fieldAddrP 11 v0).bind fun v32 => (loadP false 1 v32 h22).bind fun v33 => (lenP false v33).bind fun v34 => (binP .gtr v31 v34).bind fun v35 => KL (fun w37 h38 => j23 [] h38) fun j36 => ifP v35 ( finP [.keep] h h22 [(.int .i64 10 : PV)]) ( j36 [] h22)) fun j20 => ifP v19 ( j20 [] h15) ( j10 [] h15)
noncomputable def s166 (Γ : PCallee) (n : Nat) (x0 : PV) (x1 : PV) (h : PHeap) : Pt := forkP (.ptr h.length 0) (h ++ [.box (cellsP x0) 27 .rw]) fun v0 h1 => forkP (.ptr h1.length 0) (h1 ++ [.box (cellsP x1) 57 .rw]) fun v2 h3 => (loadP true 33 v2 h3).bind fun v4 => (Γ 110 [v4] h3).bind fun p5 => (unP .not p5.1).bind fun v6 => KL (fun w8 h9 => KL (fun w11 h12 => finP [.keep] h h12 [(.int .i64 0 : PV)]) fun j10 => loopP (s166_L0 Γ n h v0 v2 h9 j10) n [(.int .i64 0 : PV)] h9) fun j7 => ifP v6 ( finP [.keep] h p5.2 [(.int .i64 1 : PV)]) ( j7 [] p5.2)
theorem s166_eq (Γ : PCallee) (n : Nat) (x0 : PV) (x1 : PV) (h : PHeap) : pfunK Γ n A166 [x0, x1] h = s166 Γ n x0 x1 h := by kernel_rfl
open Go.Vm.G in
def L167_0a : PCode := (R <| m 5 7 <| z)
open Go.Vm.G in
def L167_0b : PCode := (.block 1 [] (g 8 4)
  (R <| l 8 2 <| m 9 5 <| (.op (some 10) (.buildF 3 [(.int .i64 0)] 1 [(0, 1, (t 9))]) false <| o 11 (.append 3 1 (t 8) (t 10)) <| n (.store 1 (t 2) (t 11)) <| z)))
open Go.Vm.G in
def A167 : PFun := ⟨2, 13, (S (R <| .gr 0 3 1 <| o 2 (.box 22 (t 0)) <| o 4 (.move (.const (.slice none 0 0))) <| z) <|
  (S (S (R <| m 6 1 <| z) <|
  (.block 0 [] []
  (.rangeF (t 6) [2] [7] L167_0a L167_0b))) <|
  (S (R <| l 12 2 <| m 4 12 <| z) <|
  .ret))), [.tmp 4], [.raw]⟩
theorem ok167 : ∃ fn c, FunOk Tryz.prog 167 fn c A167.erase := ⟨Tryz.f167, _, ⟨Tryz.func167, rfl, by kernel_rfl, by kernel_rfl, by kernel_rfl, of_decide_eq_true (by kernel_rfl), by kernel_rfl⟩⟩
noncomputable def s167 (Γ : PCallee) (n : Nat) (x0 : PV) (x1 : PV) (h : PHeap) : Pt := (growP x0 3 1 h).bind fun q0 => forkP (.ptr q0.2.length 0) (q0.2 ++ [.box (cellsP q0.1) 22 .rw]) fun v1 h2 => KL (fun w4 h5 => (loadP false 1 v1 h5).bind fun v6 => finP [.raw] h h5 [v6]) fun j3 => (callFP Γ x1 [.yield h2.length] (h2 ++ [.loop [v1] [2] [7] L167_0a L167_0b .ready none .rw])).bind fun p7 => (pendOfP h2.length p7.2).bind fun o8 => forkP undefP (trim h2 [] (p7.2.set h2.length .dead)) fun v9 h10 =>
endF o8 ( j3 [] h10) (fun i11 => bif Nat.beq i11 0 then (j3 [] h10) else none) ( finP [.raw] h h10 [(.nilS : PV)])
theorem s167_eq (Γ : PCallee) (n : Nat) (x0 : PV) (x1 : PV) (h : PHeap) : pfunK Γ n A167 [x0, x1] h = s167 Γ n x0 x1 h := by kernel_rfl
noncomputable def r167_0 (Γ : PCallee) (n : Nat) (w2 : PV) (a7 : PV) (b : Nat) (h : PHeap) : Pt := (beginRoundP b h).bind fun h0 => KL (fun w2 h3 => (endRoundP b .normal h3).map fun q => (q.1, trim h [] q.2)) fun j1 => (loadP false 1 w2 h0).bind fun v4 => (fillP (repP [.int .i64 0] 1) [(0, 1, a7)]).bind fun l5 => guardP (l5.all pure1) ( forkP (.frz 1 (chunk 1 1 l5)) (h0) fun v6 h7 => (appendP 3 1 v4 v6 h7).bind fun p8 => (storeP 1 w2 p8.1 p8.2).bind fun h9 => j1 [] h9)
theorem r167_0_eq (Γ : PCallee) (n : Nat) (w2 : PV) (a7 : PV) (b : Nat) (h : PHeap) (pend : Option AExit) (md : Md) (hb : h[b]? = some (.loop [w2] [2] [7] L167_0a L167_0b .ready pend md)) : proundK Γ n (.ptr b 0 :: [a7]) h = r167_0 Γ n w2 a7 b h := (proundK_eq hb rfl).trans (by kernel_rfl)
open Go.Vm.G in
def A170 : PFun := ⟨4, 29, (S (R <| o 8 (.move (.const (.bool false))) <| z) <|
  (S (S (R <| m 9 0 <| o 10 (.un .not (t 9)) <| z) <|
  (.cond (t 10) [] ([8] ++ g 11 6)
  (S (R <| m 11 1 <| b 12 .eql (t 11) (i 0) <| m 13 12 <| q 16 13 true [14, 15] (m 14 2 <| b 15 .eql (t 14) (i 0) <| z) (t 15) <|
  m 8 16 <| z) <|
  .ret)
  .skip)) <|
  (S (R <| m 17 1 <| b 18 .leq (i 0) (t 17) <| m 19 18 <| q 23 19 true [20, 21, 22] (m 20 1 <| m 21 2 <| b 22 .leq (t 20) (t 21) <| z) (t 22) <|
  m 24 23 <| q 28 24 true [25, 26, 27] (m 25 2 <| m 26 3 <| b 27 .lss (t 25) (t 26) <| z) (t 27) <|
  m 8 28 <| z) <|
  .ret))), [.tmp 8], [.keep]⟩
theorem ok170 : ∃ fn c, FunOk Tryz.prog 170 fn c A170.erase := ⟨Tryz.f170, _, ⟨Tryz.func170, rfl, by kernel_rfl, by kernel_rfl, by kernel_rfl, of_decide_eq_true (by kernel_rfl), by kernel_rfl⟩⟩
noncomputable def s170 (Γ : PCallee) (n : Nat) (x0 : PV) (x1 : PV) (x2 : PV) (x3 : PV) (h : PHeap) : Pt := (unP .not x0).bind fun v0 => KL (fun w2 h3 => (binP .leq (.int .i64 0 : PV) x1).bind fun v4 => K1 (fun v6 h7 => K1 (fun v9 h10 => finP [.keep] h h10 [v9]) fun j8 => scP v6 true ( (binP .lss x2 x3).bind fun v11 => j8 v11 h7) (j8 (.bool false) h7)) fun j5 => scP v4 true ( (binP .leq x1 x2).bind fun v12 => j5 v12 h3) (j5 (.bool false) h3)) fun j1 => ifP v0 ( (binP .eql x1 (.int .i64 0 : PV)).bind fun v13 => K1 (fun v15 h16 => finP [.keep] h h16 [v15]) fun j14 => scP v13 true ( (binP .eql x2 (.int .i64 0 : PV)).bind fun v17 => j14 v17 h) (j14 (.bool false) h)) ( j1 [] h)
theorem s170_eq (Γ : PCallee) (n : Nat) (x0 : PV) (x1 : PV) (x2 : PV) (x3 : PV) (h : PHeap) : pfunK Γ n A170 [x0, x1, x2, x3] h = s170 Γ n x0 x1 x2 x3 h := by kernel_rfl
open Go.Vm.G in
def A172 : PFun := ⟨4, 30, (S (R <| o 7 (.move (.const (.bool false))) <| z) <|
  (S (S (R <| m 8 0 <| o 9 (.un .not (t 8)) <| z) <|
  (.cond (t 9) [] ([7] ++ g 10 6)
  (S (R <| m 10 1 <| b 11 .eql (t 10) (i 0) <| m 12 11 <| q 15 12 true [13, 14] (m 13 2 <| b 14 .eql (t 13) (i 0) <| z) (t 14) <|
  m 7 15 <| z) <|
  .ret)
  .skip)) <|
  (S (R <| m 16 1 <| b 17 .geq (t 16) (i 0) <| m 18 17 <| q 22 18 true [19, 20, 21] (m 19 1 <| m 20 2 <| b 21 .leq (t 19) (t 20) <| z) (t 21) <|
  m 23 22 <| q 29 23 true (g 24 5) (m 24 2 <| f 25 1 3 <| l 26 25 <| o 27 (.len false (t 26)) <| b 28 .lss (t 24) (t 27) <| z) (t 28) <|
  m 7 29 <| z) <|
  .ret))), [.tmp 7], [.keep]⟩
theorem ok172 : ∃ fn c, FunOk Tryz.prog 172 fn c A172.erase := ⟨Tryz.f172, _, ⟨Tryz.func172, rfl, by kernel_rfl, by kernel_rfl, by kernel_rfl, of_decide_eq_true (by kernel_rfl), by kernel_rfl⟩⟩
noncomputable def s172 (Γ : PCallee) (n : Nat) (x0 : PV) (x1 : PV) (x2 : PV) (x3 : PV) (h : PHeap) : Pt := (unP .not x0).bind fun v0 => KL (fun w2 h3 => (binP .geq x1 (.int .i64 0 : PV)).bind fun v4 => K1 (fun v6 h7 => K1 (fun v9 h10 => finP [.keep] h h10 [v9]) fun j8 => scP v6 true ( (fieldAddrP 1 x3).bind fun v11 => (loadP false 1 v11 h7).bind fun v12 => (lenP false v12).bind fun v13 => (binP .lss x2 v13).bind fun v14 => j8 v14 h7) (j8 (.bool false) h7)) fun j5 => scP v4 true ( (binP .leq x1 x2).bind fun v15 => j5 v15 h3) (j5 (.bool false) h3)) fun j1 => ifP v0 ( (binP .eql x1 (.int .i64 0 : PV)).bind fun v16 => K1 (fun v18 h19 => finP [.keep] h h19 [v18]) fun j17 => scP v16 true ( (binP .eql x2 (.int .i64 0 : PV)).bind fun v20 => j17 v20 h) (j17 (.bool false) h)) ( j1 [] h)
theorem s172_eq (Γ : PCallee) (n : Nat) (x0 : PV) (x1 : PV) (x2 : PV) (x3 : PV) (h : PHeap) : pfunK Γ n A172 [x0, x1, x2, x3] h = s172 Γ n x0 x1 x2 x3 h := by kernel_rfl
open Go.Vm.G in
def A173 : PFun := ⟨2, 43, (S (R <| o 2 (.box 39 (t 0)) <| o 4 (.move (.const (.bool false))) <| z) <|
  (S (S (R <| m 6 1 <| o 7 (.call 189 [(t 6)]) <| o 8 (.un .not (t 7)) <| m 9 8 <| q 13 9 false [10, 11, 12] (f 10 0 2 <| l 11 10 <| b 12 .lss (t 11) (i 1) <| z) (t 12) <|
  m 14 13 <| q 18 14 false [15, 16, 17] (f 15 0 2 <| l 16 15 <| b 17 .gtr (t 16) (i 64) <| z) (t 17) <|
  m 19 18 <| q 28 19 false (g 20 8) (f 20 1 2 <| l 21 20 <| o 22 (.len false (t 21)) <| f 23 0 2 <| l 24 23 <| m 25 1 <| b 26 .mul (t 24) (t 25) <| b 27 .neq (t 22) (t 26) <| z) (t 27) <|
  z) <|
  (.cond (t 28) [] [4]
  (S (R <| o 4 (.move (.const (.bool false))) <| z) <|
  .ret)
  .skip)) <|
  (S (S (R <| o 5 (.move (i 0)) <| z) <|
  (.block 0 [] ([4, 5] ++ g 29 14)
  (.loop [5] ([4] ++ g 29 14)
  (S (S (R <| m 29 5 <| f 30 1 2 <| l 31 30 <| o 32 (.len false (t 31)) <| b 33 .lss (t 29) (t 32) <| z) <|
  (.cond (t 33) [] []
  .skip
  (.exit 0))) <|
  (S (.block 1 [] ([4] ++ g 36 7)
  (S (R <| f 36 1 2 <| l 37 36 <| m 38 5 <| o 39 (.indexAddr 6 (t 37) (t 38)) <| o 40 (.load true 6 (t 39)) <| o 41 (.call 190 [(t 40)]) <| o 42 (.un .not (t 41)) <| z) <|
  (.cond (t 42) [] [4]
  (S (R <| o 4 (.move (.const (.bool false))) <| z) <|
  .ret)
  .skip))) <|
  (R <| m 34 5 <| b 35 .add (t 34) (i 1) <| m 5 35 <| z)))))) <|
  (S (R <| o 4 (.move (.const (.bool true))) <| z) <|
  .ret)))), [.tmp 4], [.keep]⟩
theorem ok173 : ∃ fn c, FunOk Tryz.prog 173 fn c A173.erase := ⟨Tryz.f173, _, ⟨Tryz.func173, rfl, by kernel_rfl, by kernel_rfl, by kernel_rfl, of_decide_eq_true (by kernel_rfl), by kernel_rfl⟩⟩
noncomputable def s173_L0 (Γ : PCallee) (n : Nat) (h : PHeap) (v0 : PV) (h15 : PHeap) (j16 : Kt) : (Kt) → Kt := fun c19 w20 h21 => (fieldAddrP 1 v0).bind fun v22 => (loadP false 1 v22 h21).bind fun v23 => (lenP false v23).bind fun v24 => (binP .lss (nthP w20 0) v24).bind fun v25 => KL (fun w27 h28 => KL (fun w30 h31 => (binP .add (nthP w20 0) (.int .i64 1 : PV)).bind fun v32 => c19 [v32] (trim h15 [v32] h31)) fun j29 => (fieldAddrP 1 v0).bind fun v33 => (loadP false 1 v33 h28).bind fun v34 => (indexAddrP 6 v34 (nthP w20 0)).bind fun v35 => (loadP true 6 v35 h28).bind fun v36 => (Γ 190 [v36] h28).bind fun p37 => (unP .not p37.1).bind fun v38 => KL (fun w40 h41 => j29 [] h41) fun j39 => ifP v38 ( finP [.keep] h p37.2 [(.bool false : PV)]) ( j39 [] p37.2)) fun j26 => ifP v25 ( j26 [] h21) ( j16 [] h21)
noncomputable def s173 (Γ : PCallee) (n : Nat) (x0 : PV) (x1 : PV) (h : PHeap) : Pt := forkP (.ptr h.length 0) (h ++ [.box (cellsP x0) 39 .rw]) fun v0 h1 => (Γ 189 [x1] h1).bind fun p2 => (unP .not p2.1).bind fun v3 => K1 (fun v5 h6 => K1 (fun v8 h9 => K1 (fun v11 h12 => KL (fun w14 h15 => KL (fun w17 h18 => finP [.keep] h h18 [(.bool true : PV)]) fun j16 => loopP (s173_L0 Γ n h v0 h15 j16) n [(.int .i64 0 : PV)] h15) fun j13 => ifP v11 ( finP [.keep] h h12 [(.bool false : PV)]) ( j13 [] h12)) fun j10 => scP v8 false ( (fieldAddrP 1 v0).bind fun v42 => (loadP false 1 v42 h9).bind fun v43 => (lenP false v43).bind fun v44 => (fieldAddrP 0 v0).bind fun v45 => (loadP false 1 v45 h9).bind fun v46 => (binP .mul v46 x1).bind fun v47 => (binP .neq v44 v47).bind fun v48 => j10 v48 h9) (j10 (.bool true) h9)) fun j7 => scP v5 false ( (fieldAddrP 0 v0).bind fun v49 => (loadP false 1 v49 h6).bind fun v50 => (binP .gtr v50 (.int .i64 64 : PV)).bind fun v51 => j7 v51 h6) (j7 (.bool true) h6)) fun j4 => scP v3 false ( (fieldAddrP 0 v0).bind fun v52 => (loadP false 1 v52 p2.2).bind fun v53 => (binP .lss v53 (.int .i64 1 : PV)).bind fun v54 => j4 v54 p2.2) (j4 (.bool true) p2.2)
theorem s173_eq (Γ : PCallee) (n : Nat) (x0 : PV) (x1 : PV) (h : PHeap) : pfunK Γ n A173 [x0, x1] h = s173 Γ n x0 x1 h := by kernel_rfl
open Go.Vm.G in
def A174 : PFun := ⟨2, 43, (S (R <| o 3 (.box 41 (t 1)) <| o 4 (.move (.const (.bool false))) <| z) <|
  (S (S (R <| m 8 0 <| o 9 (.call 56 [(t 8)]) <| m 7 9 <| o 10 (.extract (t 7) 0) <| o 11 (.extract (t 7) 1) <| o 5 (.new 83 V29) <| n (.store 29 (t 5) (t 10)) <| m 6 11 <| z) <|
  (S (R <| m 12 6 <| b 13 .neq (t 12) (i 0) <| m 14 13 <| q 18 14 false [15, 16, 17] (o 15 (.load true 6 (t 3)) <| o 16 (.call 190 [(t 15)]) <| o 17 (.un .not (t 16)) <| z) (t 17) <|
  z) <|
  (.cond (t 18) [] [4]
  (S (R <| o 4 (.move (.const (.bool false))) <| z) <|
  .ret)
  .skip))) <|
  (S (D <| m 19 0 <| f 20 0 3 <| l 21 20 <| o 22 (.call 191 [(t 19), (t 21)]) <| m 23 22 <| q 29 23 true (g 24 5) (f 24 2 3 <| l 25 24 <| m 26 0 <| O 27 (.call 192 [(t 26)]) <| b 28 .leq (t 25) (t 27) <| z) (t 28) <|
  m 30 29 <| q 42 30 true (g 31 4 ++ [41] ++ g 35 6) (f 31 4 3 <| l 32 31 <| b 33 .eql (t 32) (i 0) <| m 34 33 <| q 41 34 false (g 35 6) (m 35 0 <| O 36 (.call 194 [(t 35)]) <| f 37 4 3 <| l 38 37 <| o 39 (.call 195 [(t 38)]) <| o 40 (.call 193 [(t 36), (t 39)]) <| z) (t 40) <|
  z) (t 41) <|
  m 4 42 <| z) <|
  .ret))), [.tmp 4], [.keep]⟩
theorem ok174 : ∃ fn c, FunOk Tryz.prog 174 fn c A174.erase := ⟨Tryz.f174, _, ⟨Tryz.func174, rfl, by kernel_rfl, by kernel_rfl, by kernel_rfl, of_decide_eq_true (by kernel_rfl), by kernel_rfl⟩⟩
noncomputable def s174 (Γ : PCallee) (n : Nat) (x0 : PV) (x1 : PV) (h : PHeap) : Pt := forkP (.ptr h.length 0) (h ++ [.box (cellsP x1) 41 .rw]) fun v0 h1 => (Γ 56 [x0] h1).bind fun p2 => (extractP p2.1 0).bind fun v3 => (extractP p2.1 1).bind fun v4 => forkP (.ptr p2.2.length 0) (p2.2 ++ [.box Z29 83 .rw]) fun v5 h6 => (storeP 29 v5 v3 h6).bind fun h7 => (binP .neq v4 (.int .i64 0 : PV)).bind fun v8 => K1 (fun v10 h11 => KL (fun w13 h14 => (fieldAddrP 0 v0).bind fun v15 => (loadP false 1 v15 h14).bind fun v16 => (Γ 191 [x0, v16] h14).bind fun p17 => K1 (fun v19 h20 => K1 (fun v22 h23 => finP [.keep] h h23 [v22]) fun j21 => scP v19 true ( (fieldAddrP 4 v0).bind fun v24 => (loadP false 1 v24 h20).bind fun v25 => (binP .eql v25 (.int .i64 0 : PV)).bind fun v26 => K1 (fun v28 h29 => j21 v28 h29) fun j27 => scP v26 false ( (Γ 194 [x0] (lock h20)).bind fun p30 => unl h20 p30.2 fun h31 => (fieldAddrP 4 v0).bind fun v32 => (loadP false 1 v32 h31).bind fun v33 => (Γ 195 [v33] h31).bind fun p34 => (Γ 193 [p30.1, p34.1] p34.2).bind fun p35 => j27 p35.1 p35.2) (j27 (.bool true) h20)) (j21 (.bool false) h20)) fun j18 => scP p17.1 true ( (fieldAddrP 2 v0).bind fun v36 => (loadP false 1 v36 p17.2).bind fun v37 => (Γ 192 [x0] (lock p17.2)).bind fun p38 => unl p17.2 p38.2 fun h39 => (binP .leq v37 p38.1).bind fun v40 => j18 v40 h39) (j18 (.bool false) p17.2)) fun j12 => ifP v10 ( finP [.keep] h h11 [(.bool false : PV)]) ( j12 [] h11)) fun j9 => scP v8 false ( (loadP true 6 v0 h7).bind fun v41 => (Γ 190 [v41] h7).bind fun p42 => (unP .not p42.1).bind fun v43 => j9 v43 p42.2) (j9 (.bool true) h7)
theorem s174_eq (Γ : PCallee) (n : Nat) (x0 : PV) (x1 : PV) (h : PHeap) : pfunK Γ n A174 [x0, x1] h = s174 Γ n x0 x1 h := by kernel_rfl
open Go.Vm.G in
def A175 : PFun := ⟨2, 18, (S (R <| o 4 (.move (.const (.bool false))) <| z) <|
  (S (R <| m 6 1 <| b 7 .sub (t 6) (i 1) <| b 8 .shl (i 1) (t 7) <| m 5 8 <| z) <|
  (S (R <| m 9 5 <| o 10 (.un .neg (t 9)) <| m 11 0 <| b 12 .leq (t 10) (t 11) <| m 13 12 <| q 17 13 true [14, 15, 16] (m 14 0 <| m 15 5 <| b 16 .lss (t 14) (t 15) <| z) (t 16) <|
  m 4 17 <| z) <|
  .ret))), [.tmp 4], [.keep]⟩
theorem ok175 : ∃ fn c, FunOk Tryz.prog 175 fn c A175.erase := ⟨Tryz.f175, _, ⟨Tryz.func175, rfl, by kernel_rfl, by kernel_rfl, by kernel_rfl, of_decide_eq_true (by kernel_rfl), by kernel_rfl⟩⟩
noncomputable def s175 (Γ : PCallee) (n : Nat) (x0 : PV) (x1 : PV) (h : PHeap) : Pt := (binP .sub x1 (.int .i64 1 : PV)).bind fun v0 => (binP .shl (.int .i64 1 : PV) v0).bind fun v1 => (unP .neg v1).bind fun v2 => (binP .leq v2 x0).bind fun v3 => K1 (fun v5 h6 => finP [.keep] h h6 [v5]) fun j4 => scP v3 true ( (binP .lss x0 v1).bind fun v7 => j4 v7 h) (j4 (.bool false) h)
theorem s175_eq (Γ : PCallee) (n : Nat) (x0 : PV) (x1 : PV) (h : PHeap) : pfunK Γ n A175 [x0, x1] h = s175 Γ n x0 x1 h := by kernel_rfl
open Go.Vm.G in
def A176 : PFun := ⟨4, 33, (S (R <| o 8 (.move (.const (.bool false))) <| z) <|
  (S (S (R <| m 9 0 <| z) <|
  (.block 0 [] ([8] ++ g 10 23)
  (S (R <| b 11 .eql (t 9) (i 0) <| m 10 11 <| z) <|
  (.cond (t 10) [] ([8] ++ g 12 21)
  (S (R <| m 12 1 <| b 13 .eql (t 12) (i 0) <| m 14 13 <| q 17 14 true [15, 16] (m 15 2 <| b 16 .eql (t 15) (i 0) <| z) (t 16) <|
  m 8 17 <| z) <|
  .ret)
  (S (S (R <| b 19 .eql (t 9) (i 1) <| m 18 19 <| z) <|
  (.cond (t 18) [18] [20]
  .skip
  (R <| b 20 .eql (t 9) (i 2) <| m 18 20 <| z))) <|
  (.cond (t 18) [] ([8] ++ g 21 12)
  (S (R <| m 21 1 <| b 22 .leq (i 0) (t 21) <| m 23 22 <| q 27 23 true [24, 25, 26] (m 24 1 <| m 25 2 <| b 26 .lss (t 24) (t 25) <| z) (t 26) <|
  m 28 27 <| q 32 28 true [29, 30, 31] (m 29 2 <| m 30 3 <| b 31 .leq (t 29) (t 30) <| z) (t 31) <|
  m 8 32 <| z) <|
  .ret)
  .skip)))))) <|
  (S (R <| o 8 (.move (.const (.bool false))) <| z) <|
  .ret))), [.tmp 8], [.keep]⟩
theorem ok176 : ∃ fn c, FunOk Tryz.prog 176 fn c A176.erase := ⟨Tryz.f176, _, ⟨Tryz.func176, rfl, by kernel_rfl, by kernel_rfl, by kernel_rfl, of_decide_eq_true (by kernel_rfl), by kernel_rfl⟩⟩
noncomputable def s176 (Γ : PCallee) (n : Nat) (x0 : PV) (x1 : PV) (x2 : PV) (x3 : PV) (h : PHeap) : Pt := KL (fun w1 h2 => finP [.keep] h h2 [(.bool false : PV)]) fun j0 => (binP .eql x0 (.int .i64 0 : PV)).bind fun v3 => KL (fun w5 h6 => j0 [] h6) fun j4 => ifP v3 ( (binP .eql x1 (.int .i64 0 : PV)).bind fun v7 => K1 (fun v9 h10 => finP [.keep] h h10 [v9]) fun j8 => scP v7 true ( (binP .eql x2 (.int .i64 0 : PV)).bind fun v11 => j8 v11 h) (j8 (.bool false) h)) ( (binP .eql x0 (.int .i64 1 : PV)).bind fun v12 => KL (fun w14 h15 => KL (fun w17 h18 => j4 [] h18) fun j16 => ifP (nthP w14 0) ( (binP .leq (.int .i64 0 : PV) x1).bind fun v19 => K1 (fun v21 h22 => K1 (fun v24 h25 => finP [.keep] h h25 [v24]) fun j23 => scP v21 true ( (binP .leq x2 x3).bind fun v26 => j23 v26 h22) (j23 (.bool false) h22)) fun j20 => scP v19 true ( (binP .lss x1 x2).bind fun v27 => j20 v27 h15) (j20 (.bool false) h15)) ( j16 [] h15)) fun j13 => ifP v12 ( j13 [v12] h) ( (binP .eql x0 (.int .i64 2 : PV)).bind fun v28 => j13 [v28] h))
theorem s176_eq (Γ : PCallee) (n : Nat) (x0 : PV) (x1 : PV) (x2 : PV) (x3 : PV) (h : PHeap) : pfunK Γ n A176 [x0, x1, x2, x3] h = s176 Γ n x0 x1 x2 x3 h := by kernel_rfl
open Go.Vm.G in
def A189 : PFun := ⟨1, 9, (S (R <| o 2 (.move (.const (.bool false))) <| z) <|
  (S (R <| m 3 0 <| b 4 .leq (i 1) (t 3) <| m 5 4 <| q 8 5 true [6, 7] (m 6 0 <| b 7 .leq (t 6) (i 16) <| z) (t 7) <|
  m 2 8 <| z) <|
  .ret)), [.tmp 2], [.keep]⟩
theorem ok189 : ∃ fn c, FunOk Tryz.prog 189 fn c A189.erase := ⟨Tryz.f189, _, ⟨Tryz.func189, rfl, by kernel_rfl, by kernel_rfl, by kernel_rfl, of_decide_eq_true (by kernel_rfl), by kernel_rfl⟩⟩
noncomputable def s189 (Γ : PCallee) (n : Nat) (x0 : PV) (h : PHeap) : Pt := (binP .leq (.int .i64 1 : PV) x0).bind fun v0 => K1 (fun v2 h3 => finP [.keep] h h3 [v2]) fun j1 => scP v0 true ( (binP .leq x0 (.int .i64 16 : PV)).bind fun v4 => j1 v4 h) (j1 (.bool false) h)
theorem s189_eq (Γ : PCallee) (n : Nat) (x0 : PV) (h : PHeap) : pfunK Γ n A189 [x0] h = s189 Γ n x0 h := by kernel_rfl
open Go.Vm.G in
def A190 : PFun := ⟨1, 102, (S (R <| o 1 (.box 41 (t 0)) <| o 2 (.move (.const (.bool false))) <| z) <|
  (S (R <| f 6 0 1 <| l 7 6 <| b 8 .leq (i 0) (t 7) <| m 9 8 <| q 13 9 true [10, 11, 12] (f 10 0 1 <| l 11 10 <| b 12 .leq (t 11) (i 120) <| z) (t 12) <|
  m 14 13 <| q 18 14 false [15, 16, 17] (f 15 0 1 <| l 16 15 <| b 17 .eql (t 16) (i 253) <| z) (t 17) <|
  m 19 18 <| q 23 19 false [20, 21, 22] (f 20 0 1 <| l 21 20 <| b 22 .eql (t 21) (i 254) <| z) (t 22) <|
  m 24 23 <| q 28 24 false [25, 26, 27] (f 25 0 1 <| l 26 25 <| b 27 .eql (t 26) (i 255) <| z) (t 27) <|
  m 3 28 <| z) <|
  (S (R <| f 29 2 1 <| l 30 29 <| b 31 .eql (t 30) (i 0) <| m 32 31 <| q 36 32 true [33, 34, 35] (f 33 3 1 <| l 34 33 <| b 35 .eql (t 34) (i 0) <| z) (t 35) <|
  m 37 36 <| q 56 37 false (g 38 4 ++ [45, 42, 43, 44, 46, 50, 47, 48, 49, 51, 55, 52, 53, 54]) (f 38 2 1 <| l 39 38 <| b 40 .leq (i 1) (t 39) <| m 41 40 <| q 45 41 true [42, 43, 44] (f 42 2 1 <| l 43 42 <| b 44 .leq (t 43) (i 12) <| z) (t 44) <|
  m 46 45 <| q 50 46 true [47, 48, 49] (f 47 3 1 <| l 48 47 <| b 49 .leq (i 0) (t 48) <| z) (t 49) <|
  m 51 50 <| q 55 51 true [52, 53, 54] (f 52 3 1 <| l 53 52 <| b 54 .leq (t 53) (i 99) <| z) (t 54) <|
  z) (t 55) <|
  m 4 56 <| z) <|
  (S (R <| f 57 4 1 <| l 58 57 <| b 59 .eql (t 58) (i 0) <| m 60 59 <| q 64 60 true [61, 62, 63] (f 61 5 1 <| l 62 61 <| b 63 .eql (t 62) (i 0) <| z) (t 63) <|
  m 65 64 <| q 84 65 false (g 66 4 ++ [73, 70, 71, 72, 74, 78, 75, 76, 77, 79, 83, 80, 81, 82]) (f 66 4 1 <| l 67 66 <| b 68 .leq (i 1) (t 67) <| m 69 68 <| q 73 69 true [70, 71, 72] (f 70 4 1 <| l 71 70 <| b 72 .leq (t 71) (i 36) <| z) (t 72) <|
  m 74 73 <| q 78 74 true [75, 76, 77] (f 75 5 1 <| l 76 75 <| b 77 .leq (i 0) (t 76) <| z) (t 77) <|
  m 79 78 <| q 83 79 true [80, 81, 82] (f 80 5 1 <| l 81 80 <| b 82 .leq (t 81) (i 255) <| z) (t 82) <|
  z) (t 83) <|
  m 5 84 <| z) <|
  (S (R <| m 85 3 <| m 86 85 <| q 88 86 true [87] (m 87 4 <| z) (t 87) <|
  m 89 88 <| q 91 89 true [90] (m 90 5 <| z) (t 90) <|
  m 92 91 <| q 96 92 true [93, 94, 95] (f 93 1 1 <| l 94 93 <| b 95 .leq (i 0) (t 94) <| z) (t 95) <|
  m 97 96 <| q 101 97 true [98, 99, 100] (f 98 1 1 <| l 99 98 <| b 100 .leq (t 99) (i 31) <| z) (t 100) <|
  m 2 101 <| z) <|
  .ret))))), [.tmp 2], [.keep]⟩
theorem ok190 : ∃ fn c, FunOk Tryz.prog 190 fn c A190.erase := ⟨Tryz.f190, _, ⟨Tryz.func190, rfl, by kernel_rfl, by kernel_rfl, by kernel_rfl, of_decide_eq_true (by kernel_rfl), by kernel_rfl⟩⟩
noncomputable def s190 (Γ : PCallee) (n : Nat) (x0 : PV) (h : PHeap) : Pt := forkP (.ptr h.length 0) (h ++ [.box (cellsP x0) 41 .rw]) fun v0 h1 => (fieldAddrP 0 v0).bind fun v2 => (loadP false 1 v2 h1).bind fun v3 => (binP .leq (.int .i64 0 : PV) v3).bind fun v4 => K1 (fun v6 h7 => K1 (fun v9 h10 => K1 (fun v12 h13 => K1 (fun v15 h16 => (fieldAddrP 2 v0).bind fun v17 => (loadP false 1 v17 h16).bind fun v18 => (binP .eql v18 (.int .i64 0 : PV)).bind fun v19 => K1 (fun v21 h22 => K1 (fun v24 h25 => (fieldAddrP 4 v0).bind fun v26 => (loadP false 1 v26 h25).bind fun v27 => (binP .eql v27 (.int .i64 0 : PV)).bind fun v28 => K1 (fun v30 h31 => K1 (fun v33 h34 => K1 (fun v36 h37 => K1 (fun v39 h40 => K1 (fun v42 h43 => K1 (fun v45 h46 => finP [.keep] h h46 [v45]) fun j44 => scP v42 true ( (fieldAddrP 1 v0).bind fun v47 => (loadP false 1 v47 h43).bind fun v48 => (binP .leq v48 (.int .i64 31 : PV)).bind fun v49 => j44 v49 h43) (j44 (.bool false) h43)) fun j41 => scP v39 true ( (fieldAddrP 1 v0).bind fun v50 => (loadP false 1 v50 h40).bind fun v51 => (binP .leq (.int .i64 0 : PV) v51).bind fun v52 => j41 v52 h40) (j41 (.bool false) h40)) fun j38 => scP v36 true ( j38 v33 h37) (j38 (.bool false) h37)) fun j35 => scP v15 true ( j35 v24 h34) (j35 (.bool false) h34)) fun j32 => scP v30 false ( (fieldAddrP 4 v0).bind fun v53 => (loadP false 1 v53 h31).bind fun v54 => (binP .leq (.int .i64 1 : PV) v54).bind fun v55 => K1 (fun v57 h58 => K1 (fun v60 h61 => K1 (fun v63 h64 => j32 v63 h64) fun j62 => scP v60 true ( (fieldAddrP 5 v0).bind fun v65 => (loadP false 1 v65 h61).bind fun v66 => (binP .leq v66 (.int .i64 255 : PV)).bind fun v67 => j62 v67 h61) (j62 (.bool false) h61)) fun j59 => scP v57 true ( (fieldAddrP 5 v0).bind fun v68 => (loadP false 1 v68 h58).bind fun v69 => (binP .leq (.int .i64 0 : PV) v69).bind fun v70 => j59 v70 h58) (j59 (.bool false) h58)) fun j56 => scP v55 true ( (fieldAddrP 4 v0).bind fun v71 => (loadP false 1 v71 h31).bind fun v72 => (binP .leq v72 (.int .i64 36 : PV)).bind fun v73 => j56 v73 h31) (j56 (.bool false) h31)) (j32 (.bool true) h31)) fun j29 => scP v28 true ( (fieldAddrP 5 v0).bind fun v74 => (loadP false 1 v74 h25).bind fun v75 => (binP .eql v75 (.int .i64 0 : PV)).bind fun v76 => j29 v76 h25) (j29 (.bool false) h25)) fun j23 => scP v21 false ( (fieldAddrP 2 v0).bind fun v77 => (loadP false 1 v77 h22).bind fun v78 => (binP .leq (.int .i64 1 : PV) v78).bind fun v79 => K1 (fun v81 h82 => K1 (fun v84 h85 => K1 (fun v87 h88 => j23 v87 h88) fun j86 => scP v84 true ( (fieldAddrP 3 v0).bind fun v89 => (loadP false 1 v89 h85).bind fun v90 => (binP .leq v90 (.int .i64 99 : PV)).bind fun v91 => j86 v91 h85) (j86 (.bool false) h85)) fun j83 => scP v81 true ( (fieldAddrP 3 v0).bind fun v92 => (loadP false 1 v92 h82).bind fun v93 => (binP .leq (.int .i64 0 : PV) v93).bind fun v94 => j83 v94 h82) (j83 (.bool false) h82)) fun j80 => scP v79 true ( (fieldAddrP 2 v0).bind fun v95 => (loadP false 1 v95 h22).bind fun v96 => (binP .leq v96 (.int .i64 12 : PV)).bind fun v97 => j80 v97 h22) (j80 (.bool false) h22)) (j23 (.bool true) h22)) fun j20 => scP v19 true ( (fieldAddrP 3 v0).bind fun v98 => (loadP false 1 v98 h16).bind fun v99 => (binP .eql v99 (.int .i64 0 : PV)).bind fun v100 => j20 v100 h16) (j20 (.bool false) h16)) fun j14 => scP v12 false ( (fieldAddrP 0 v0).bind fun v101 => (loadP false 1 v101 h13).bind fun v102 => (binP .eql v102 (.int .i64 255 : PV)).bind fun v103 => j14 v103 h13) (j14 (.bool true) h13)) fun j11 => scP v9 false ( (fieldAddrP 0 v0).bind fun v104 => (loadP false 1 v104 h10).bind fun v105 => (binP .eql v105 (.int .i64 254 : PV)).bind fun v106 => j11 v106 h10) (j11 (.bool true) h10)) fun j8 => scP v6 false ( (fieldAddrP 0 v0).bind fun v107 => (loadP false 1 v107 h7).bind fun v108 => (binP .eql v108 (.int .i64 253 : PV)).bind fun v109 => j8 v109 h7) (j8 (.bool true) h7)) fun j5 => scP v4 true ( (fieldAddrP 0 v0).bind fun v110 => (loadP false 1 v110 h1).bind fun v111 => (binP .leq v111 (.int .i64 120 : PV)).bind fun v112 => j5 v112 h1) (j5 (.bool false) h1)
theorem s190_eq (Γ : PCallee) (n : Nat) (x0 : PV) (h : PHeap) : pfunK Γ n A190 [x0] h = s190 Γ n x0 h := by kernel_rfl
open Go.Vm.G in
def A191 : PFun := ⟨2, 49, (S (R <| o 4 (.move (.const (.bool false))) <| z) <|
  (S (R <| m 8 0 <| o 9 (.call 56 [(t 8)]) <| m 7 9 <| o 10 (.extract (t 7) 0) <| o 11 (.extract (t 7) 1) <| o 5 (.new 83 V29) <| n (.store 29 (t 5) (t 10)) <| m 6 11 <| z) <|
  (S (S (R <| m 12 1 <| z) <|
  (.block 0 [] ([4] ++ g 13 26)
  (S (R <| b 14 .eql (t 12) (i 0) <| m 13 14 <| z) <|
  (.cond (t 13) [] ([4] ++ g 15 24)
  (S (R <| o 4 (.move (.const (.bool true))) <| z) <|
  .ret)
  (S (R <| b 16 .eql (t 12) (i 255) <| m 15 16 <| z) <|
  (.cond (t 15) [] ([4] ++ g 17 22)
  (S (R <| m 17 0 <| b 18 .eql (t 17) (i 3) <| m 19 18 <| q 22 19 false [20, 21] (m 20 0 <| b 21 .eql (t 20) (i 4) <| z) (t 21) <|
  m 23 22 <| q 26 23 false [24, 25] (m 24 0 <| b 25 .eql (t 24) (i 6) <| z) (t 25) <|
  m 4 26 <| z) <|
  .ret)
  (S (R <| b 28 .eql (t 12) (i 254) <| m 27 28 <| z) <|
  (.cond (t 27) [] ([4] ++ g 29 10)
  (S (R <| m 29 0 <| b 30 .eql (t 29) (i 2) <| m 31 30 <| q 34 31 false [32, 33] (m 32 0 <| b 33 .eql (t 32) (i 4) <| z) (t 33) <|
  m 4 34 <| z) <|
  .ret)
  (S (R <| b 36 .eql (t 12) (i 253) <| m 35 36 <| z) <|
  (.cond (t 35) [] [4, 37, 38]
  (S (R <| m 37 0 <| b 38 .eql (t 37) (i 4) <| m 4 38 <| z) <|
  .ret)
  .skip)))))))))) <|
  (S (R <| f 39 4 5 <| l 40 39 <| m 41 1 <| b 42 .leq (t 40) (t 41) <| m 43 42 <| q 48 43 true (g 44 4) (m 44 1 <| f 45 5 5 <| l 46 45 <| b 47 .leq (t 44) (t 46) <| z) (t 47) <|
  m 4 48 <| z) <|
  .ret)))), [.tmp 4], [.keep]⟩
theorem ok191 : ∃ fn c, FunOk Tryz.prog 191 fn c A191.erase := ⟨Tryz.f191, _, ⟨Tryz.func191, rfl, by kernel_rfl, by kernel_rfl, by kernel_rfl, of_decide_eq_true (by kernel_rfl), by kernel_rfl⟩⟩
noncomputable def s191 (Γ : PCallee) (n : Nat) (x0 : PV) (x1 : PV) (h : PHeap) : Pt := (Γ 56 [x0] h).bind fun p0 => (extractP p0.1 0).bind fun v1 => (extractP p0.1 1).bind fun v2 => forkP (.ptr p0.2.length 0) (p0.2 ++ [.box Z29 83 .rw]) fun v3 h4 => (storeP 29 v3 v1 h4).bind fun h5 => KL (fun w7 h8 => (fieldAddrP 4 v3).bind fun v9 => (loadP false 1 v9 h8).bind fun v10 => (binP .leq v10 x1).bind fun v11 => K1 (fun v13 h14 => finP [.keep] h h14 [v13]) fun j12 => scP v11 true ( (fieldAddrP 5 v3).bind fun v15 => (loadP false 1 v15 h8).bind fun v16 => (binP .leq x1 v16).bind fun v17 => j12 v17 h8) (j12 (.bool false) h8)) fun j6 => (binP .eql x1 (.int .i64 0 : PV)).bind fun v18 => KL (fun w20 h21 => j6 [] h21) fun j19 => ifP v18 ( finP [.keep] h h5 [(.bool true : PV)]) ( (binP .eql x1 (.int .i64 255 : PV)).bind fun v22 => KL (fun w24 h25 => j19 [] h25) fun j23 => ifP v22 ( (binP .eql x0 (.int .i64 3 : PV)).bind fun v26 => K1 (fun v28 h29 => K1 (fun v31 h32 => finP [.keep] h h32 [v31]) fun j30 => scP v28 false ( (binP .eql x0 (.int .i64 6 : PV)).bind fun v33 => j30 v33 h29) (j30 (.bool true) h29)) fun j27 => scP v26 false ( (binP .eql x0 (.int .i64 4 : PV)).bind fun v34 => j27 v34 h5) (j27 (.bool true) h5)) ( (binP .eql x1 (.int .i64 254 : PV)).bind fun v35 => KL (fun w37 h38 => j23 [] h38) fun j36 => ifP v35 ( (binP .eql x0 (.int .i64 2 : PV)).bind fun v39 => K1 (fun v41 h42 => finP [.keep] h h42 [v41]) fun j40 => scP v39 false ( (binP .eql x0 (.int .i64 4 : PV)).bind fun v43 => j40 v43 h5) (j40 (.bool true) h5)) ( (binP .eql x1 (.int .i64 253 : PV)).bind fun v44 => KL (fun w46 h47 => j36 [] h47) fun j45 => ifP v44 ( (binP .eql x0 (.int .i64 4 : PV)).bind fun v48 => finP [.keep] h h5 [v48]) ( j45 [] h5))))
theorem s191_eq (Γ : PCallee) (n : Nat) (x0 : PV) (x1 : PV) (h : PHeap) : pfunK Γ n A191 [x0, x1] h = s191 Γ n x0 x1 h := by kernel_rfl
open Go.Vm.G in
def A192 : PFun := ⟨1, 10, (S (R <| o 2 (.move (i 0)) <| z) <|
  (S (S (R <| m 3 0 <| z) <|
  (.block 0 [] ([2] ++ g 4 6)
  (S (R <| b 5 .eql (t 3) (i 2) <| m 4 5 <| z) <|
  (.cond (t 4) [] ([2] ++ g 6 4)
  (S (R <| o 2 (.move (i 1)) <| z) <|
  .ret)
  (S (R <| b 7 .eql (t 3) (i 3) <| m 6 7 <| z) <|
  (.cond (t 6) [] [2, 8, 9]
  (S (R <| o 2 (.move (i 8)) <| z) <|
  .ret)
  (S (R <| b 9 .eql (t 3) (i 4) <| m 8 9 <| z) <|
  (.cond (t 8) [] [2]
  (S (R <| o 2 (.move (i 10)) <| z) <|
  .ret)
  .skip)))))))) <|
  (S (R <| o 2 (.move (i 0)) <| z) <|
  .ret))), [.tmp 2], [.keep]⟩
theorem ok192 : ∃ fn c, FunOk Tryz.prog 192 fn c A192.erase := ⟨Tryz.f192, _, ⟨Tryz.func192, rfl, by kernel_rfl, by kernel_rfl, by kernel_rfl, of_decide_eq_true (by kernel_rfl), by kernel_rfl⟩⟩
noncomputable def s192 (Γ : PCallee) (n : Nat) (x0 : PV) (h : PHeap) : Pt := KL (fun w1 h2 => finP [.keep] h h2 [(.int .i64 0 : PV)]) fun j0 => (binP .eql x0 (.int .i64 2 : PV)).bind fun v3 => KL (fun w5 h6 => j0 [] h6) fun j4 => ifP v3 ( finP [.keep] h h [(.int .i64 1 : PV)]) ( (binP .eql x0 (.int .i64 3 : PV)).bind fun v7 => KL (fun w9 h10 => j4 [] h10) fun j8 => ifP v7 ( finP [.keep] h h [(.int .i64 8 : PV)]) ( (binP .eql x0 (.int .i64 4 : PV)).bind fun v11 => KL (fun w13 h14 => j8 [] h14) fun j12 => ifP v11 ( finP [.keep] h h [(.int .i64 10 : PV)]) ( j12 [] h)))
theorem s192_eq (Γ : PCallee) (n : Nat) (x0 : PV) (h : PHeap) : pfunK Γ n A192 [x0] h = s192 Γ n x0 h := by kernel_rfl
open Go.Vm.G in
def A193 : PFun := ⟨2, 17, (S (R <| o 4 (.move (.const (.bool false))) <| z) <|
  (S (S (R <| o 5 (.move (i 0)) <| z) <|
  (.block 0 [] (g 4 13)
  (.loop [5] ([4] ++ g 6 11)
  (S (S (R <| m 6 5 <| m 7 0 <| o 8 (.len true (t 7)) <| b 9 .lss (t 6) (t 8) <| z) <|
  (.cond (t 9) [] []
  .skip
  (.exit 0))) <|
  (S (.block 1 [] ([4] ++ g 12 5)
  (S (R <| m 12 0 <| m 13 5 <| o 14 (.indexStr (t 12) (t 13)) <| m 15 1 <| b 16 .eql (t 14) (t 15) <| z) <|
  (.cond (t 16) [] [4]
  (S (R <| o 4 (.move (.const (.bool true))) <| z) <|
  .ret)
  .skip))) <|
  (R <| m 10 5 <| b 11 .add (t 10) (i 1) <| m 5 11 <| z)))))) <|
  (S (R <| o 4 (.move (.const (.bool false))) <| z) <|
  .ret))), [.tmp 4], [.keep]⟩
theorem ok193 : ∃ fn c, FunOk Tryz.prog 193 fn c A193.erase := ⟨Tryz.f193, _, ⟨Tryz.func193, rfl, by kernel_rfl, by kernel_rfl, by kernel_rfl, of_decide_eq_true (by kernel_rfl), by kernel_rfl⟩⟩
noncomputable def s193_L0 (Γ : PCallee) (n : Nat) (x0 : PV) (x1 : PV) (h : PHeap) (j0 : Kt) : (Kt) → Kt := fun c3 w4 h5 => (lenP true x0).bind fun v6 => (binP .lss (nthP w4 0) v6).bind fun v7 => KL (fun w9 h10 => KL (fun w12 h13 => (binP .add (nthP w4 0) (.int .i64 1 : PV)).bind fun v14 => c3 [v14] (trim h [v14] h13)) fun j11 => (indexStrP x0 (nthP w4 0)).bind fun v15 => (binP .eql v15 x1).bind fun v16 => KL (fun w18 h19 => j11 [] h19) fun j17 => ifP v16 ( finP [.keep] h h10 [(.bool true : PV)]) ( j17 [] h10)) fun j8 => ifP v7 ( j8 [] h5) ( j0 [] h5)
noncomputable def s193 (Γ : PCallee) (n : Nat) (x0 : PV) (x1 : PV) (h : PHeap) : Pt := KL (fun w1 h2 => finP [.keep] h h2 [(.bool false : PV)]) fun j0 => loopP (s193_L0 Γ n x0 x1 h j0) n [(.int .i64 0 : PV)] h
theorem s193_eq (Γ : PCallee) (n : Nat) (x0 : PV) (x1 : PV) (h : PHeap) : pfunK Γ n A193 [x0, x1] h = s193 Γ n x0 x1 h := by kernel_rfl
open Go.Vm.G in
def A194 : PFun := ⟨1, 16, (S (R <| o 2 (.move (.const (.string ⟨#[]⟩))) <| z) <|
  (S (S (R <| m 3 0 <| z) <|
  (.block 0 [] ([2] ++ g 4 12)
  (S (R <| b 5 .eql (t 3) (i 1) <| m 4 5 <| z) <|
  (.cond (t 4) [] ([2] ++ g 6 10)
  (S (R <| o 2 (.move (.const (.string ⟨#[48, 49, 50, 51, 52, 53, 54, 55, 56, 57, 65, 66, 67, 68, 69, 70]⟩))) <| z) <|
  .ret)
  (S (R <| b 7 .eql (t 3) (i 2) <| m 6 7 <| z) <|
  (.cond (t 6) [] ([2] ++ g 8 8)
  (S (R <| o 2 (.move (.const (.string ⟨#[65, 66, 67, 68, 69, 70, 71, 72, 73, 74, 75, 76, 79, 81, 82, 83, 84, 85, 86, 88]⟩))) <| z) <|
  .ret)
  (S (R <| b 9 .eql (t 3) (i 3) <| m 8 9 <| z) <|
  (.cond (t 8) [] ([2] ++ g 10 6)
  (S (R <| o 2 (.move (.const (.string ⟨#[48, 49, 50, 51, 52, 53, 54, 55, 56, 57, 65, 66, 67, 68, 69, 70, 71, 72, 75, 76, 80, 82, 84, 88]⟩))) <| z) <|
  .ret)
  (S (R <| b 11 .eql (t 3) (i 4) <| m 10 11 <| z) <|
  (.cond (t 10) [] ([2] ++ g 12 4)
  (S (R <| o 2 (.move (.const (.string ⟨#[65, 66, 67, 68, 69, 70, 71, 72, 73, 74, 75, 76, 77, 78, 79, 80, 81, 82, 83, 84, 85, 86, 87, 88, 89, 90]⟩))) <| z) <|
  .ret)
  (S (R <| b 13 .eql (t 3) (i 5) <| m 12 13 <| z) <|
  (.cond (t 12) [] [2, 14, 15]
  (S (R <| o 2 (.move (.const (.string ⟨#[48, 49, 50, 51, 52, 53]⟩))) <| z) <|
  .ret)
  (S (R <| b 15 .eql (t 3) (i 6) <| m 14 15 <| z) <|
  (.cond (t 14) [] [2]
  (S (R <| o 2 (.move (.const (.string ⟨#[48, 49, 50, 51, 52, 65, 66, 67, 68, 69, 70, 78, 83]⟩))) <| z) <|
  .ret)
  .skip)))))))))))))) <|
  (S (R <| o 2 (.move (.const (.string ⟨#[]⟩))) <| z) <|
  .ret))), [.tmp 2], [.keep]⟩
theorem ok194 : ∃ fn c, FunOk Tryz.prog 194 fn c A194.erase := ⟨Tryz.f194, _, ⟨Tryz.func194, rfl, by kernel_rfl, by kernel_rfl, by kernel_rfl, of_decide_eq_true (by kernel_rfl), by kernel_rfl⟩⟩
noncomputable def s194 (Γ : PCallee) (n : Nat) (x0 : PV) (h : PHeap) : Pt := KL (fun w1 h2 => finP [.keep] h h2 [(.str ⟨#[]⟩ : PV)]) fun j0 => (binP .eql x0 (.int .i64 1 : PV)).bind fun v3 => KL (fun w5 h6 => j0 [] h6) fun j4 => ifP v3 ( finP [.keep] h h [(.str ⟨#[48, 49, 50, 51, 52, 53, 54, 55, 56, 57, 65, 66, 67, 68, 69, 70]⟩ : PV)]) ( (binP .eql x0 (.int .i64 2 : PV)).bind fun v7 => KL (fun w9 h10 => j4 [] h10) fun j8 => ifP v7 ( finP [.keep] h h [(.str ⟨#[65, 66, 67, 68, 69, 70, 71, 72, 73, 74, 75, 76, 79, 81, 82, 83, 84, 85, 86, 88]⟩ : PV)]) ( (binP .eql x0 (.int .i64 3 : PV)).bind fun v11 => KL (fun w13 h14 => j8 [] h14) fun j12 => ifP v11 ( finP [.keep] h h [(.str ⟨#[48, 49, 50, 51, 52, 53, 54, 55, 56, 57, 65, 66, 67, 68, 69, 70, 71, 72, 75, 76, 80, 82, 84, 88]⟩ : PV)]) ( (binP .eql x0 (.int .i64 4 : PV)).bind fun v15 => KL (fun w17 h18 => j12 [] h18) fun j16 => ifP v15 ( finP [.keep] h h [(.str ⟨#[65, 66, 67, 68, 69, 70, 71, 72, 73, 74, 75, 76, 77, 78, 79, 80, 81, 82, 83, 84, 85, 86, 87, 88, 89, 90]⟩ : PV)]) ( (binP .eql x0 (.int .i64 5 : PV)).bind fun v19 => KL (fun w21 h22 => j16 [] h22) fun j20 => ifP v19 ( finP [.keep] h h [(.str ⟨#[48, 49, 50, 51, 52, 53]⟩ : PV)]) ( (binP .eql x0 (.int .i64 6 : PV)).bind fun v23 => KL (fun w25 h26 => j20 [] h26) fun j24 => ifP v23 ( finP [.keep] h h [(.str ⟨#[48, 49, 50, 51, 52, 65, 66, 67, 68, 69, 70, 78, 83]⟩ : PV)]) ( j24 [] h))))))
theorem s194_eq (Γ : PCallee) (n : Nat) (x0 : PV) (h : PHeap) : pfunK Γ n A194 [x0] h = s194 Γ n x0 h := by kernel_rfl
open Go.Vm.G in
def A195 : PFun := ⟨1, 13, (S (R <| o 2 (.move (.const (.int .u8 0))) <| z) <|
  (S (S (R <| m 3 0 <| b 4 .leq (t 3) (i 10) <| z) <|
  (.cond (t 4) [] ([2] ++ g 5 4)
  (S (R <| m 5 0 <| b 6 .sub (t 5) (i 1) <| o 7 (.conv .u8 (t 6)) <| b 8 .add (.const (.int .u8 48)) (t 7) <| m 2 8 <| z) <|
  .ret)
  .skip)) <|
  (S (R <| m 9 0 <| b 10 .sub (t 9) (i 11) <| o 11 (.conv .u8 (t 10)) <| b 12 .add (.const (.int .u8 65)) (t 11) <| m 2 12 <| z) <|
  .ret))), [.tmp 2], [.keep]⟩
theorem ok195 : ∃ fn c, FunOk Tryz.prog 195 fn c A195.erase := ⟨Tryz.f195, _, ⟨Tryz.func195, rfl, by kernel_rfl, by kernel_rfl, by kernel_rfl, of_decide_eq_true (by kernel_rfl), by kernel_rfl⟩⟩
noncomputable def s195 (Γ : PCallee) (n : Nat) (x0 : PV) (h : PHeap) : Pt := (binP .leq x0 (.int .i64 10 : PV)).bind fun v0 => KL (fun w2 h3 => (binP .sub x0 (.int .i64 11 : PV)).bind fun v4 => (convP .u8 v4).bind fun v5 => (binP .add (.int .u8 65 : PV) v5).bind fun v6 => finP [.keep] h h3 [v6]) fun j1 => ifP v0 ( (binP .sub x0 (.int .i64 1 : PV)).bind fun v7 => (convP .u8 v7).bind fun v8 => (binP .add (.int .u8 48 : PV) v8).bind fun v9 => finP [.keep] h h [v9]) ( j1 [] h)
theorem s195_eq (Γ : PCallee) (n : Nat) (x0 : PV) (h : PHeap) : pfunK Γ n A195 [x0] h = s195 Γ n x0 h := by kernel_rfl
def T : PTable := [(6, A6), (7, A7), (8, A8), (16, A16), (17, A17), (19, A19), (20, A20), (21, A21), (22, A22), (23, A23), (24, A24), (41, A41), (43, A43), (45, A45), (47, A47), (49, A49), (52, A52), (53, A53), (54, A54), (55, A55), (56, A56), (57, A57), (60, A60), (61, A61), (62, A62), (63, A63), (64, A64), (65, A65), (66, A66), (67, A67), (68, A68), (69, A69), (70, A70), (71, A71), (72, A72), (87, A87), (94, A94), (96, A96), (99, A99), (101, A101), (102, A102), (103, A103), (104, A104), (105, A105), (106, A106), (107, A107), (108, A108), (109, A109), (110, A110), (111, A111), (112, A112), (113, A113), (114, A114), (115, A115), (116, A116), (117, A117), (118, A118), (119, A119), (120, A120), (121, A121), (122, A122), (123, A123), (124, A124), (125, A125), (126, A126), (127, A127), (128, A128), (129, A129), (135, A135), (136, A136), (137, A137), (138, A138), (139, A139), (140, A140), (141, A141), (142, A142), (143, A143), (145, A145), (146, A146), (147, A147), (148, A148), (149, A149), (150, A150), (151, A151), (152, A152), (153, A153), (154, A154), (155, A155), (156, A156), (157, A157), (158, A158), (159, A159), (160, A160), (164, A164), (165, A165), (166, A166), (167, A167), (170, A170), (172, A172), (173, A173), (174, A174), (175, A175), (176, A176), (189, A189), (190, A190), (191, A191), (192, A192), (193, A193), (194, A194), (195, A195)]
noncomputable def Γ0 : PCallee := prun (orP (idxP 171) (sortP 144)) T
theorem gbody {f : FuncId} {F : PFun} (hT : T.get f = some F) (fuel : Nat) {args : List PV} {h : PHeap} {r : PV × PHeap} (hk : pfunK Γ0 fuel F args h = some r) (hf : Nat.beq f yieldId = false := by rfl) : Γ0 f args h = some r := prun_of_body hT fuel hk hf
theorem gbody_round (fuel : Nat) {args : List PV} {h : PHeap} {r : PV × PHeap} (hk : proundK Γ0 fuel args h = some r) : Γ0 yieldId args h = some r := prun_of_round fuel hk
end Go.Vm.X


set_option linter.unusedVariables false
namespace Go.Vm.X
open Go.Am Go.Vm Go.Proofs Go.RowKit
theorem idx_enters : ∀ (xs : Array Value) (w : World), (callFunc 171 xs).run Tryz.prog w = .ok (.enter 171 xs) w := fun xs w => enter_run Tryz.func171 rfl (by kernel_rfl)
set_option maxHeartbeats 1000000 in
set_option maxRecDepth 100000 in
theorem idx_calls (F : Fence) (n : Nat) (hF : WideF F) (s : ByteArray) (c : Int) (w : World) : CallsIn F.plain n Tryz.prog 171 #[.string s, .int .u8 c] w fun e w' => e = .returned (.int .i64 (Lib.indexByte s.data.toList c.toNat.toUInt8)) ∧ w' = w := by
  have mixed : Tryz.prog.follows .mixedOrders = true := by kernel_rfl
  have u3 := Tryz.underlying3
  have u5 := Tryz.underlying5
  have u9 := Tryz.underlying9
  refine callsIn_of_wp Tryz.func171 rfl (hF.1 171) ?_ rfl
  simp only [show Tryz.f171.ntmps = 8 from rfl, List.size_toArray, List.length_cons, List.length_nil, Nat.reduceAdd, Nat.reduceSub, Array.replicate_succ, Array.replicate_zero, List.push_toArray, List.append_toArray, List.nil_append, List.cons_append]
  gi_wp2
  refine ⟨hF.1 188, ?_⟩
  rw [run_callFunc_extern Tryz.func188 (by kernel_rfl) (by kernel_rfl) (by kernel_rfl) (e := Extern.BytealgIndexByte.indexByte) (by kernel_rfl), Lib.run_indexByteString]
  simp only [Result.andThen]
  rw [Oper.uponIn_value]
  gi_wp2
  go_ret
  exact ⟨rfl, rfl⟩
theorem idx_ok : CallOk Tryz.prog (idxA 171) := idxA_ok idx_enters idx_calls rfl
end Go.Vm.X


set_option linter.unusedSimpArgs false
set_option linter.unusedVariables false
namespace Go.Vm.X
open Go.Am Go.Vm
attribute [local congr] bind_c ifP_c loop_c K1_c
def inW (x lo hi : Int) : Bool := decide (lo ≤ x) && decide (x ≤ hi)
theorem c54 (x lo hi : Int) (h : PHeap) : Γ0 54 [.int .i64 x, .int .i64 lo, .int .i64 hi] h = some (.bool (inW x lo hi), h) := by
  refine gbody (F := A54) (by kernel_rfl) 1 ?_
  rw [s54_eq]
  unfold s54 inW
  simp only [bin_geq, bin_leq, bS, K1_and, fin_bool0, ge_iff_le]
theorem c104 (x lo hi : Int) (h : PHeap) : Γ0 104 [.int .i64 x, .int .i64 lo, .int .i64 hi] h = some (.bool (inW x lo hi), h) := by
  refine gbody (F := A104) (by kernel_rfl) 1 ?_
  rw [s104_eq]
  unfold s104 inW
  simp only [bin_geq, bin_leq, bS, K1_and, fin_bool0, ge_iff_le]
theorem c146 (x lo hi : Int) (h : PHeap) : Γ0 146 [.int .i64 x, .int .i64 lo, .int .i64 hi] h = some (.bool (inW x lo hi), h) := by
  refine gbody (F := A146) (by kernel_rfl) 1 ?_
  rw [s146_eq]
  unfold s146 inW
  simp only [bin_geq, bin_leq, bS, K1_and, fin_bool0, ge_iff_le]
theorem c57 (x lo hi : Int) (h : PHeap) : Γ0 57 [.int .i64 x, .int .i64 lo, .int .i64 hi] h = some (.bool (inW x lo hi), h) := by
  refine gbody (F := A57) (by kernel_rfl) 1 ?_
  rw [s57_eq]
  unfold s57 inW
  simp only [bin_geq, bin_leq, bS, K1_and, fin_bool0]
theorem c101 (d : Int) (h : PHeap) : Γ0 101 [.int .i64 d] h = some (.bool (inW d 1 6), h) := by
  refine gbody (F := A101) (by kernel_rfl) 1 ?_
  rw [s101_eq]
  unfold s101 inW
  simp only [bin_geq, bin_leq, bS, K1_and, fin_bool0, ge_iff_le]
theorem c103 (x : Int) (h : PHeap) : Γ0 103 [.int .i64 x] h = some (.bool (inW x 1 16), h) := by
  refine gbody (F := A103) (by kernel_rfl) 1 ?_
  rw [s103_eq]
  unfold s103
  simp only [c104, bS, fin_bool0]
structure Cell where
  (note inst vc va ef pa : Int)
def Cell.cs (c : Cell) : List PV := [.int .i64 c.note, .int .i64 c.inst, .int .i64 c.vc, .int .i64 c.va, .int .i64 c.ef, .int .i64 c.pa]
def cellOK (c : Cell) : Bool :=
  (inW c.note 0 120 || c.note == 253 || c.note == 254 || c.note == 255) && inW c.inst 0 31 && (inW c.vc 0 12 && inW c.va 0 99 && (decide (c.vc > 0) || c.va == 0)) && (inW c.ef 0 36 && inW c.pa 0 255 && (decide (c.ef > 0) || c.pa == 0))
section
variable {h : PHeap} {c : Cell} {t : TypeId}
theorem cl0 : loadP false 1 (.ptr h.length 0) (h ++ [.box c.cs t .rw]) = some (.int .i64 c.note) := load_new rfl
theorem cl1 : loadP false 1 (.ptr h.length 1) (h ++ [.box c.cs t .rw]) = some (.int .i64 c.inst) := load_new rfl
theorem cl2 : loadP false 1 (.ptr h.length 2) (h ++ [.box c.cs t .rw]) = some (.int .i64 c.vc) := load_new rfl
theorem cl3 : loadP false 1 (.ptr h.length 3) (h ++ [.box c.cs t .rw]) = some (.int .i64 c.va) := load_new rfl
theorem cl4 : loadP false 1 (.ptr h.length 4) (h ++ [.box c.cs t .rw]) = some (.int .i64 c.ef) := load_new rfl
theorem cl5 : loadP false 1 (.ptr h.length 5) (h ++ [.box c.cs t .rw]) = some (.int .i64 c.pa) := load_new rfl
theorem cells_agg (l : List PV) : cellsP (.agg l) = l := rfl
end
theorem c148 (c : Cell) (h : PHeap) : Γ0 148 [.agg c.cs] h = some (.bool (cellOK c), h) := by
  refine gbody (F := A148) (by kernel_rfl) 1 ?_
  rw [s148_eq]
  unfold s148 cellOK
  simp only [fork_def, cells_agg, field_new, cl0, cl1, cl2, cl3, cl4, cl5, c104, bin_eql, bin_gtr, bS, K1_or, K1_and, K1_one, fin_bool]
theorem c190 (c : Cell) (h : PHeap) : Γ0 190 [.agg c.cs] h = some (.bool (cellOK c), h) := by
  refine gbody (F := A190) (by kernel_rfl) 1 ?_
  rw [s190_eq]
  unfold s190
  simp only [fork_def, cells_agg, field_new, cl0, cl1, cl2, cl3, cl4, cl5, bin_eql, bin_leq, bS, K1_or, K1_and, K1_one, fin_bool]
  congr 3
  unfold cellOK inW
  rw [Bool.eq_iff_iff]
  simp only [Bool.and_eq_true, Bool.or_eq_true, decide_eq_true_eq, beq_iff_eq]
  omega
end Go.Vm.X


set_option linter.unusedSimpArgs false
set_option linter.unusedVariables false
namespace Go.Vm.X
open Go.Am Go.Vm
attribute [local congr] bind_c ifP_c loop_c K1_c
theorem first_not {α : Type} (p : α → Bool) (l : List α) : ∃ k, k ≤ l.length ∧ (∀ i a, i < k → l[i]? = some a → p a = true) ∧ (k = l.length ∧ l.all p = true ∨ ∃ a, l[k]? = some a ∧ p a = false ∧ l.all p = false) := by
  induction l with
  | nil => exact ⟨0, Nat.le_refl _, fun i a h => by omega, .inl ⟨rfl, rfl⟩⟩
  | cons x l ih =>
    cases hx : p x with
    | false => exact ⟨0, Nat.zero_le _, fun i a h => by omega, .inr ⟨x, rfl, hx, by simp [hx]⟩⟩
    | true =>
      obtain ⟨k, h1, h2, h3⟩ := ih
      refine ⟨k + 1, by simp; omega, fun i a hi ha => ?_, ?_⟩
      · cases i with
        | zero => cases ha; exact hx
        | succ i => exact h2 i a (by omega) ha
      · rcases h3 with ⟨h3, h4⟩ | ⟨a, h3, h4, h5⟩
        · exact .inl ⟨by simp [h3], by simp [hx, h4]⟩
        · exact .inr ⟨a, h3, h4, by simp [h5]⟩
def bys (s : ByteArray) : List UInt8 := s.data.toList
theorem bys_len (s : ByteArray) : (bys s).length = s.size := by unfold bys; rw [Array.length_toList]; rfl
theorem idx_by {s : ByteArray} {i : Nat} {b : UInt8} (h : (bys s)[i]? = some b) : indexStrP (.str s) (.int .i64 (i : Int)) = some (.int .u8 (b.toNat : Int)) := by
  have e : s.data[i]? = some b := by unfold bys at h; rwa [Array.getElem?_toList] at h
  simp only [indexStrP, Int.toNat_natCast, e]
  rw [if_pos (by omega)]
  rfl
theorem lt_l {α : Type} {l : List α} {i : Nat} (h : i < l.length) : ∃ a, l[i]? = some a := ⟨_, List.getElem?_eq_getElem h⟩
def byOK (b : UInt8) : Bool := inW (b.toNat : Int) 32 126
def nameOK (s : ByteArray) : Bool := (bys s).all byOK && decide (s.size ≤ 22)
theorem conv_by (b : UInt8) : convP .i64 (.int .u8 (b.toNat : Int)) = some (.int .i64 (b.toNat : Int)) := by
  have := b.toNat_lt
  rw [conv_int, wrap64 (by unfold isI64; omega)]
theorem c114 {s : ByteArray} (hs : s.size < 9223372036854775808) (h : PHeap) : Γ0 114 [.str s] h = some (.bool (nameOK s), h) := by
  have hbl := bys_len s
  refine gbody (F := A114) (by kernel_rfl) (s.size + 1) ?_
  rw [s114_eq]
  unfold s114 nameOK
  simp only [len_str, bS, ↓KLn]
  obtain ⟨k, h1, h2, h3⟩ := first_not byOK (bys s)
  refine loop_pure (fun i => [.int .i64 (i : Int)]) k (by omega) rfl (fun i hi K => ?_) fun K => ?_
  · obtain ⟨b, hb⟩ := lt_l (show i < (bys s).length by omega)
    have hlt : ((i : Int) < (s.size : Int)) = True := eq_true (by omega)
    have hok : inW (b.toNat : Int) 32 126 = true := h2 i b hi hb
    unfold s114_L0
    simp only [nth_zero, bin_lss, hlt, decide_true, bS, ↓KLn, if_bool, if_true, idx_by hb, conv_by, c54, hok, un_not, Bool.not_true, Bool.false_eq_true, if_false, bin_add, succ63 (show i < 9223372036854775807 by omega), trim_self]
  · rcases h3 with ⟨rfl, h4⟩ | ⟨b, h3, h4, h5⟩
    · have hlt : (((bys s).length : Int) < (s.size : Int)) = False := eq_false (by omega)
      have hle : decide ((s.size : Int) ≤ 22) = decide (s.size ≤ 22) := by rw [decide_eq_decide]; omega
      unfold s114_L0
      simp only [nth_zero, bin_lss, hlt, decide_false, bS, ↓KLn, if_bool, Bool.false_eq_true, if_false, bin_leq, h4, Bool.true_and, hle, fin_bool0]
    · have hk : k < (bys s).length := by
        obtain ⟨hh, _⟩ := List.getElem?_eq_some_iff.1 h3
        exact hh
      have hlt : ((k : Int) < (s.size : Int)) = True := eq_true (by omega)
      have hok : inW (b.toNat : Int) 32 126 = false := h4
      unfold s114_L0
      simp only [nth_zero, bin_lss, hlt, decide_true, bS, ↓KLn, if_bool, if_true, idx_by h3, conv_by, c54, hok, un_not, Bool.not_false, h5, Bool.false_and, fin_bool0]
def volc (d : Int) : Int := if d = 2 then 1 else if d = 3 then 8 else if d = 4 then 10 else 0
theorem c192 (d : Int) (h : PHeap) : Γ0 192 [.int .i64 d] h = some (.int .i64 (volc d), h) := by
  refine gbody (F := A192) (by kernel_rfl) 1 ?_
  rw [s192_eq]
  unfold s192 volc
  simp only [bin_eql, bS, ↓KLn, if_bool, beq_iff_eq, fin_int0]
  split <;> first | rfl | (split <;> first | rfl | (split <;> rfl))
def lettersL : Int → List UInt8 := fun d =>
  if d = 1 then [48, 49, 50, 51, 52, 53, 54, 55, 56, 57, 65, 66, 67, 68, 69, 70]
  else if d = 2 then [65, 66, 67, 68, 69, 70, 71, 72, 73, 74, 75, 76, 79, 81, 82, 83, 84, 85, 86, 88]
  else if d = 3 then [48, 49, 50, 51, 52, 53, 54, 55, 56, 57, 65, 66, 67, 68, 69, 70, 71, 72, 75, 76, 80, 82, 84, 88]
  else if d = 4 then [65, 66, 67, 68, 69, 70, 71, 72, 73, 74, 75, 76, 77, 78, 79, 80, 81, 82, 83, 84, 85, 86, 87, 88, 89, 90]
  else if d = 5 then [48, 49, 50, 51, 52, 53]
  else if d = 6 then [48, 49, 50, 51, 52, 65, 66, 67, 68, 69, 70, 78, 83]
  else []
def strOf (l : List UInt8) : PV := .str ⟨l.toArray⟩
theorem fin_str0 {h : PHeap} {s : ByteArray} : finP [.keep] h h [.str s] = some (.str s, h) := by
  have := fin_keep (h := h) (l := []) (v := .str s) fun _ => by simp [ltV]
  rwa [List.append_nil] at this
theorem c194 (d : Int) (h : PHeap) : Γ0 194 [.int .i64 d] h = some (strOf (lettersL d), h) := by
  refine gbody (F := A194) (by kernel_rfl) 1 ?_
  rw [s194_eq]
  unfold s194 lettersL strOf
  simp only [bin_eql, bS, ↓KLn, if_bool, beq_iff_eq, fin_str0]
  repeat' split
  all_goals rfl
end Go.Vm.X


set_option linter.unusedSimpArgs false
set_option linter.unusedVariables false
namespace Go.Vm.X
open Go.Am Go.Vm
attribute [local congr] bind_c ifP_c loop_c K1_c
theorem pcall_base {Γ : PCallee} {T : PTable} {f : FuncId} (hf : Nat.beq f yieldId = false) (hT : T.get f = none) (args : List PV) (h : PHeap) : ∀ n, pcall Γ T n f args h = Γ f args h
  | 0 => by unfold pcall; rw [hf, hT]; rfl
  | n + 1 => by unfold pcall; rw [hf, hT]; rfl
theorem prun_base {Γ : PCallee} {T : PTable} {f : FuncId} (hf : Nat.beq f yieldId = false) (hT : T.get f = none) {args : List PV} {h : PHeap} {r : PV × PHeap} (hr : Γ f args h = some r) : prun Γ T f args h = some r := by
  unfold prun
  have H : ∃ n, (pcall Γ T n f args h).isSome = true := ⟨0, by rw [pcall_base hf hT, hr]; rfl⟩
  rw [dif_pos H, pcall_base hf hT, hr]
theorem c171 (s : ByteArray) (c : Int) (h : PHeap) : Γ0 171 [.str s, .int .u8 c] h = some (.int .i64 (Lib.indexByte (bys s) c.toNat.toUInt8), h) := prun_base rfl (by kernel_rfl) rfl
theorem c152 (s : ByteArray) (c : Int) (h : PHeap) : Γ0 152 [.str s, .int .u8 c] h = some (.int .i64 (Lib.indexByte (bys s) c.toNat.toUInt8), h) := by
  refine gbody (F := A152) (by kernel_rfl) 1 ?_
  rw [s152_eq]
  unfold s152
  simp only [c171, bS, fin_int0]
theorem index_has : ∀ (l : List UInt8) (c : UInt8), decide (Lib.indexByte l c ≥ 0) = l.contains c ∧ (Lib.indexByte l c = -1 ∨ 0 ≤ Lib.indexByte l c)
  | [], c => ⟨rfl, .inl rfl⟩
  | b :: l, c => by
    obtain ⟨h1, h2⟩ := index_has l c
    unfold Lib.indexByte
    by_cases hb : (b == c) = true
    · rw [if_pos hb]
      refine ⟨?_, .inr (by decide)⟩
      have : c = b := by rw [beq_iff_eq] at hb; exact hb.symm
      simp [this]
    · rw [if_neg hb]
      have hcb : (c == b) = false := by
        rw [beq_eq_false_iff_ne]
        intro e
        exact hb (by rw [e]; simp)
      rw [List.contains_cons, hcb, Bool.false_or, ← h1]
      rcases h2 with h2 | h2
      · rw [h2]; exact ⟨rfl, .inl rfl⟩
      · have : ¬ ((Lib.indexByte l c == -1) = true) := by rw [beq_iff_eq]; omega
        rw [if_neg this]
        refine ⟨?_, .inr (by omega)⟩
        rw [decide_eq_decide]; omega
def letterU (e : Int) : Nat := if e ≤ 10 then (47 + e).toNat else (54 + e).toNat
theorem c195 {e : Int} (he : 1 ≤ e ∧ e ≤ 36) (h : PHeap) : Γ0 195 [.int .i64 e] h = some (.int .u8 (letterU e : Int), h) := by
  refine gbody (F := A195) (by kernel_rfl) 1 ?_
  rw [s195_eq]
  unfold s195 letterU
  have w1 : IntKind.i64.wrap (e - 1) = e - 1 := wrap64 (by unfold isI64; omega)
  have w2 : IntKind.i64.wrap (e - 11) = e - 11 := wrap64 (by unfold isI64; omega)
  simp only [bin_leq, bin_sub, bin_add, w1, w2, conv_int, wrap8, bS, ↓KLn, if_bool, decide_eq_true_eq, fin_int0]
  split
  · congr 3
    omega
  · congr 3
    omega
theorem c154 {e : Int} (he : 1 ≤ e ∧ e ≤ 36) (h : PHeap) : Γ0 154 [.int .i64 e] h = some (.int .u8 (letterU e : Int), h) := by
  refine gbody (F := A154) (by kernel_rfl) 1 ?_
  rw [s154_eq]
  unfold s154
  obtain ⟨k, rfl, hk⟩ : ∃ k : Nat, e = ((k + 1 : Nat) : Int) ∧ k < 36 := ⟨(e - 1).toNat, by omega, by omega⟩
  have w1 : IntKind.i64.wrap (((k + 1 : Nat) : Int) - 1) = (k : Int) := by rw [wrap64 (by unfold isI64; omega)]; omega
  have tab : ∀ k : Nat, k < 36 → indexStrP (.str ⟨#[48, 49, 50, 51, 52, 53, 54, 55, 56, 57, 65, 66, 67, 68, 69, 70, 71, 72, 73, 74, 75, 76, 77, 78, 79, 80, 81, 82, 83, 84, 85, 86, 87, 88, 89, 90]⟩) (.int .i64 (k : Int)) = some (.int .u8 (letterU ((k + 1 : Nat) : Int) : Int)) := by
    intro k hk
    have : k = 0 ∨ k = 1 ∨ k = 2 ∨ k = 3 ∨ k = 4 ∨ k = 5 ∨ k = 6 ∨ k = 7 ∨ k = 8 ∨ k = 9 ∨ k = 10 ∨ k = 11 ∨ k = 12 ∨ k = 13 ∨ k = 14 ∨ k = 15 ∨ k = 16 ∨ k = 17 ∨ k = 18 ∨ k = 19 ∨ k = 20 ∨ k = 21 ∨ k = 22 ∨ k = 23 ∨ k = 24 ∨ k = 25 ∨ k = 26 ∨ k = 27 ∨ k = 28 ∨ k = 29 ∨ k = 30 ∨ k = 31 ∨ k = 32 ∨ k = 33 ∨ k = 34 ∨ k = 35 := by omega
    rcases this with rfl | rfl | rfl | rfl | rfl | rfl | rfl | rfl | rfl | rfl | rfl | rfl | rfl | rfl | rfl | rfl | rfl | rfl | rfl | rfl | rfl | rfl | rfl | rfl | rfl | rfl | rfl | rfl | rfl | rfl | rfl | rfl | rfl | rfl | rfl | rfl <;> rfl
  simp only [bin_sub, w1, bS, tab k hk, fin_int0]
theorem c193 {s : ByteArray} (hs : s.size < 9223372036854775808) (c : Nat) (hc : c < 256) (h : PHeap) : Γ0 193 [.str s, .int .u8 (c : Int)] h = some (.bool ((bys s).contains c.toUInt8), h) := by
  have hbl := bys_len s
  refine gbody (F := A193) (by kernel_rfl) (s.size + 1) ?_
  rw [s193_eq]
  unfold s193
  simp only [↓KLn]
  have heq : ∀ b : UInt8, (((b.toNat : Nat) : Int) == (c : Int)) = (b == c.toUInt8) := fun b => by
    rw [Bool.eq_iff_iff, beq_iff_eq, beq_iff_eq]
    constructor
    · intro e
      have e2 : b.toNat = c := by omega
      rw [← e2]
      simp
    · intro e
      rw [e]
      have : c.toUInt8.toNat = c := by simp [Nat.mod_eq_of_lt hc]
      omega
  obtain ⟨k, h1, h2, h3⟩ := first_not (fun b => !(b == c.toUInt8)) (bys s)
  have hcon : (bys s).contains c.toUInt8 = !(bys s).all (fun b => !(b == c.toUInt8)) := by
    rw [List.not_all_eq_any_not]
    simp only [Bool.not_not]
    rw [List.contains_eq_any_beq]
    congr 1
    funext b
    rw [Bool.eq_iff_iff, beq_iff_eq, beq_iff_eq]
    exact ⟨fun e => e.symm, fun e => e.symm⟩
  refine loop_pure (fun i => [.int .i64 (i : Int)]) k (by omega) rfl (fun i hi K => ?_) fun K => ?_
  · obtain ⟨b, hb⟩ := lt_l (show i < (bys s).length by omega)
    have hlt : ((i : Int) < (s.size : Int)) = True := eq_true (by omega)
    have hok : (b == c.toUInt8) = false := by have := h2 i b hi hb; simpa using this
    unfold s193_L0
    simp only [nth_zero, len_str, bin_lss, hlt, decide_true, bS, ↓KLn, if_bool, if_true, idx_by hb, bin_eql, heq, hok, Bool.false_eq_true, if_false, bin_add, succ63 (show i < 9223372036854775807 by omega), trim_self]
  · rcases h3 with ⟨rfl, h4⟩ | ⟨b, h3, h4, h5⟩
    · have hlt : (((bys s).length : Int) < (s.size : Int)) = False := eq_false (by omega)
      unfold s193_L0
      simp only [nth_zero, len_str, bin_lss, hlt, decide_false, bS, ↓KLn, if_bool, Bool.false_eq_true, if_false, hcon, h4, Bool.not_true, fin_bool0]
    · have hk : k < (bys s).length := by
        obtain ⟨hh, _⟩ := List.getElem?_eq_some_iff.1 h3
        exact hh
      have hlt : ((k : Int) < (s.size : Int)) = True := eq_true (by omega)
      have hok : (b == c.toUInt8) = true := by simpa using h4
      unfold s193_L0
      simp only [nth_zero, len_str, bin_lss, hlt, decide_true, bS, ↓KLn, if_bool, if_true, idx_by h3, bin_eql, heq, hok, hcon, h5, Bool.not_false, fin_bool0]
end Go.Vm.X


set_option linter.unusedSimpArgs false
set_option linter.unusedVariables false
namespace Go.Vm.X
open Go.Am Go.Vm
attribute [local congr] bind_c ifP_c loop_c K1_c
theorem inW_six {d : Int} (h : inW d 1 6 = true) : d = 1 ∨ d = 2 ∨ d = 3 ∨ d = 4 ∨ d = 5 ∨ d = 6 := by
  unfold inW at h
  simp only [Bool.and_eq_true, decide_eq_true_eq] at h
  omega
theorem c153 (d : Int) (h : PHeap) : Γ0 153 [.int .i64 d] h = some (strOf (lettersL d), h) := by
  refine gbody (F := A153) (by kernel_rfl) 1 ?_
  rw [s153_eq]
  unfold s153
  simp only [c101, bS, un_not, ↓KLn, if_bool]
  cases hd : inW d 1 6 with
  | false =>
    have e : lettersL d = [] := by
      unfold inW at hd
      simp only [Bool.and_eq_false_iff, decide_eq_false_iff_not] at hd
      unfold lettersL
      rw [if_neg (by omega), if_neg (by omega), if_neg (by omega), if_neg (by omega), if_neg (by omega), if_neg (by omega)]
    rw [e]
    simp only [Bool.not_false, if_true]
    exact Eq.trans (show _ = finP [.keep] h h [strOf []] from rfl) fin_str0
  | true =>
    simp only [Bool.not_true, Bool.false_eq_true, if_false]
    rcases inW_six hd with rfl | rfl | rfl | rfl | rfl | rfl
    · exact Eq.trans (show _ = finP [.keep] h h [strOf (lettersL 1)] from rfl) fin_str0
    · exact Eq.trans (show _ = finP [.keep] h h [strOf (lettersL 2)] from rfl) fin_str0
    · exact Eq.trans (show _ = finP [.keep] h h [strOf (lettersL 3)] from rfl) fin_str0
    · exact Eq.trans (show _ = finP [.keep] h h [strOf (lettersL 4)] from rfl) fin_str0
    · exact Eq.trans (show _ = finP [.keep] h h [strOf (lettersL 5)] from rfl) fin_str0
    · exact Eq.trans (show _ = finP [.keep] h h [strOf (lettersL 6)] from rfl) fin_str0
theorem c151 (d : Int) (h : PHeap) : Γ0 151 [.int .i64 d] h = some (.int .i64 (volc d), h) := by
  refine gbody (F := A151) (by kernel_rfl) 1 ?_
  rw [s151_eq]
  unfold s151
  have k1 : insMapP .int (.int .i64 2) (.int .i64 1) [] = some [(.int .i64 2, .int .i64 1)] := rfl
  have k2 : insMapP .int (.int .i64 3) (.int .i64 8) [(.int .i64 2, .int .i64 1)] = some [(.int .i64 2, .int .i64 1), (.int .i64 3, .int .i64 8)] := rfl
  have k3 : insMapP .int (.int .i64 4) (.int .i64 10) [(.int .i64 2, .int .i64 1), (.int .i64 3, .int .i64 8)] = some [(.int .i64 2, .int .i64 1), (.int .i64 3, .int .i64 8), (.int .i64 4, .int .i64 10)] := rfl
  have sm : ∀ (es es' : List (PV × PV)) (i v : PV), insMapP .int i v es = some es' → setMapP .int (.map h.length) i v (h ++ [.map es .rw]) = some (h ++ [.map es' .rw]) := fun es es' i v e => by
    simp only [setMapP, get_new0, List.getElem?_cons_zero, e, Option.map_some, set_new0, List.set_cons_zero]
  have lk : lookupP .int (.int .i64 0) false (.map h.length) (.int .i64 d) (h ++ [.map [(.int .i64 2, .int .i64 1), (.int .i64 3, .int .i64 8), (.int .i64 4, .int .i64 10)] .rw]) = some (.int .i64 (volc d)) := by
    unfold lookupP mapOfP volc
    simp only [get_new0, List.getElem?_cons_zero, Option.bind_some, findMapP, keyEqP, if_true]
    by_cases h2 : d = 2
    · subst h2; rfl
    · have e2 : (d == 2) = false := by simp [h2]
      by_cases h3 : d = 3
      · subst h3; rfl
      · have e3 : (d == 3) = false := by simp [h3]
        by_cases h4 : d = 4
        · subst h4; rfl
        · have e4 : (d == 4) = false := by simp [h4]
          simp [e2, e3, e4, h2, h3, h4]
  simp only [fork_def, sm _ _ _ _ k1, sm _ _ _ _ k2, sm _ _ _ _ k3, bS, lk, fin_int]
end Go.Vm.X


namespace Go.Vm.X
open Go.Am Go.Vm
def qrow0 : List PV := [.str ⟨#[]⟩, .int .i64 0, .int .i64 0, .int .i64 0, .int .i64 0, .int .i64 0, .bool false, .bool false, .bool false, .int .i64 0, .int .i64 0, .int .i64 0, .bool false, .bool false, .bool false, .bool false, .int .i64 0, .bool false, .int .i64 0, .bool false, .bool false, .int .i64 0, .bool false, .bool false, .bool false, .bool false, .bool false, .bool false, .bool false]
def qrow1 : List PV := [.str ⟨#[102, 111, 117, 114]⟩, .int .i64 4, .int .i64 32, .int .i64 64, .int .i64 49, .int .i64 84, .bool false, .bool false, .bool false, .int .i64 1, .int .i64 453, .int .i64 3424, .bool false, .bool false, .bool false, .bool false, .int .i64 5, .bool true, .int .i64 1, .bool true, .bool false, .int .i64 1, .bool true, .bool false, .bool false, .bool true, .bool false, .bool false, .bool false]
def qrow2 : List PV := [.str ⟨#[115, 99, 114, 101, 97, 109]⟩, .int .i64 16, .int .i64 32, .int .i64 64, .int .i64 13, .int .i64 108, .bool false, .bool true, .bool false, .int .i64 1, .int .i64 64, .int .i64 32767, .bool false, .bool false, .bool false, .bool false, .int .i64 5, .bool false, .int .i64 0, .bool false, .bool false, .int .i64 0, .bool false, .bool false, .bool false, .bool false, .bool false, .bool false, .bool false]
def qrow3 : List PV := [.str ⟨#[102, 97, 115, 116]⟩, .int .i64 16, .int .i64 32, .int .i64 0, .int .i64 1, .int .i64 96, .bool true, .bool true, .bool true, .int .i64 0, .int .i64 32, .int .i64 65535, .bool true, .bool false, .bool false, .bool false, .int .i64 6, .bool true, .int .i64 0, .bool true, .bool true, .int .i64 1, .bool false, .bool true, .bool true, .bool true, .bool true, .bool true, .bool false]
def qrow4 : List PV := [.str ⟨#[105, 109, 112, 117, 108, 115, 101]⟩, .int .i64 16, .int .i64 32, .int .i64 0, .int .i64 1, .int .i64 120, .bool true, .bool true, .bool true, .int .i64 0, .int .i64 16, .int .i64 65535, .bool false, .bool false, .bool false, .bool true, .int .i64 6, .bool false, .int .i64 0, .bool true, .bool false, .int .i64 2, .bool false, .bool true, .bool false, .bool false, .bool false, .bool true, .bool false]
def qrow5 : List PV := [.str ⟨#[99, 111, 109, 112, 111, 115, 101]⟩, .int .i64 8, .int .i64 32, .int .i64 64, .int .i64 13, .int .i64 72, .bool false, .bool false, .bool false, .int .i64 2, .int .i64 0, .int .i64 0, .bool false, .bool true, .bool false, .bool false, .int .i64 5, .bool false, .int .i64 2, .bool false, .bool false, .int .i64 0, .bool false, .bool false, .bool false, .bool false, .bool false, .bool false, .bool true]
def qrow6 : List PV := [.str ⟨#[99, 104, 105, 112]⟩, .int .i64 4, .int .i64 32, .int .i64 0, .int .i64 13, .int .i64 108, .bool true, .bool false, .bool false, .int .i64 1, .int .i64 16, .int .i64 65535, .bool false, .bool false, .bool true, .bool false, .int .i64 5, .bool true, .int .i64 2, .bool false, .bool false, .int .i64 0, .bool false, .bool true, .bool false, .bool false, .bool false, .bool true, .bool false]
end Go.Vm.X


set_option linter.unusedSimpArgs false
set_option linter.unusedVariables false
namespace Go.Vm.X
open Go.Am Go.Vm
attribute [local congr] bind_c ifP_c loop_c K1_c
def plainV : PV → Bool
  | .int _ _ => true
  | .bool _ => true
  | .str _ => true
  | _ => false
theorem plain_lt {n : Nat} : ∀ {v : PV}, plainV v = true → ltV n v
  | .int _ _, _ => lt_int _ _ _
  | .bool _, _ => lt_bool _ _
  | .str _, _ => lt_str _ _
theorem agg_lt {l : List PV} (h : l.all plainV = true) (n : Nat) : ltV n (.agg l) := by
  simp only [ltV]
  exact fun x hx => plain_lt (List.all_eq_true.1 h x hx)
def qTab : List PV := qrow0 ++ qrow1 ++ qrow2 ++ qrow3 ++ qrow4 ++ qrow5 ++ qrow6
def qOf (d : Int) : List PV := if d = 1 then qrow1 else if d = 2 then qrow2 else if d = 3 then qrow3 else if d = 4 then qrow4 else if d = 5 then qrow5 else if d = 6 then qrow6 else qrow0
theorem qOf_out {d : Int} (h : inW d 1 6 = false) : qOf d = qrow0 := by
  unfold inW at h
  simp only [Bool.and_eq_false_iff, decide_eq_false_iff_not] at h
  unfold qOf
  rw [if_neg (by omega), if_neg (by omega), if_neg (by omega), if_neg (by omega), if_neg (by omega), if_neg (by omega)]
theorem qOf_len (d : Int) : (qOf d).length = 29 := by unfold qOf; repeat' split
                                                      all_goals rfl
theorem qOf_one (d : Int) : (qOf d).all oneP = true := by unfold qOf; repeat' split
                                                          all_goals rfl
theorem qOf_plain (d : Int) : (qOf d).all plainV = true := by unfold qOf; repeat' split
                                                              all_goals rfl
theorem box_set {h : PHeap} {n : Nat} {cs vs : List PV} {t : TypeId} (h1 : vs.length = n) (h2 : cs.length = n) (h0 : 0 < n) (hv : cs.all oneP = true) : storeP n (.ptr h.length 0) (.agg cs) (h ++ [.box vs t .rw]) = some (h ++ [.box cs t .rw]) := by
  rw [store_whole (t := t) (by rw [get_new0]; rfl) h1 h2 h0 hv, set_new0]
  rfl
theorem box_all {h : PHeap} {n : Nat} {vs : List PV} {t : TypeId} (h1 : vs.length = n) : loadP true n (.ptr h.length 0) (h ++ [.box vs t .rw]) = some (.agg vs) := by
  rw [load_box, boxAt_some (vs := vs) (t := t) (md := .rw) (by rw [get_new0]; rfl), Option.bind_some, part_all h1]
theorem c102 (h : PHeap) : Γ0 102 [] h = some (.agg qTab, h) := by
  refine gbody (F := A102) (by kernel_rfl) 1 ?_
  rw [s102_eq]
  have key : s102 Γ0 1 h = (storeP 203 (.ptr h.length 0) (.agg qTab) (h ++ [.box Z203 131 .rw])).bind fun h9 => (loadP true 203 (.ptr h.length 0) h9).bind fun v10 => finP [.keep] h h9 [v10] := by kernel_rfl
  have hl : qTab.length = 203 := by kernel_rfl
  have hz : Z203.length = 203 := by kernel_rfl
  have hp : qTab.all plainV = true := by kernel_rfl
  have h1 : qTab.all oneP = true := by kernel_rfl
  rw [key, box_set hz hl (by decide) h1, bS, box_all hl, bS, fin_keep (agg_lt hp)]
theorem fin_qe {h l : PHeap} {d e : Int} : finP [.keep, .keep] h (h ++ l) [.agg (qOf d), .int .i64 e] = some (.tuple [.agg (qOf d), .int .i64 e], h) := by
  simp only [fin_def, fzL_cons, fzL_nil, fz_keep, Option.bind_some, Option.map_some, single_two]
  rw [trim_new _ (fun x hx => by simp only [List.mem_cons, List.not_mem_nil, or_false] at hx; rcases hx with rfl | rfl <;> first | exact lt_int _ _ _ | exact agg_lt (qOf_plain d) _)]
def kindE (d : Int) : Int := if inW d 1 6 then 0 else 6
theorem arr_q {d : Int} (h : inW d 1 6 = true) : indexArrP 7 true 29 (.agg qTab) (.int .i64 d) = some (.agg (qOf d)) := by
  rcases inW_six h with rfl | rfl | rfl | rfl | rfl | rfl <;> kernel_rfl
theorem c53 (d : Int) (h : PHeap) : Γ0 53 [.int .i64 d] h = some (.tuple [.agg (qOf d), .int .i64 (kindE d)], h) := by
  refine gbody (F := A53) (by kernel_rfl) 1 ?_
  rw [s53_eq]
  unfold s53 kindE
  have hz : Z29.length = 29 := rfl
  simp only [fork_def, c101, bS, un_not, ↓KLn, if_bool]
  cases hd : inW d 1 6 with
  | false =>
    simp only [Bool.not_false, if_true, Bool.false_eq_true, if_false]
    have e := qOf_out hd
    have fe := fin_qe (h := h) (l := [.box (qOf d) 83 .rw]) (d := d) (e := 6)
    rw [e] at fe ⊢
    have f0 := box_set (h := h) (n := 29) (cs := qrow0) (vs := Z29) (t := 83) hz hz (by decide) rfl
    have f1 := box_all (h := h) (n := 29) (vs := qrow0) (t := 83) rfl
    refine Eq.trans (show _ = (storeP 29 (.ptr h.length 0) (.agg qrow0) (h ++ [.box Z29 83 .rw])).bind fun h12 => (loadP true 29 (.ptr h.length 0) h12).bind fun v13 => finP [.keep, .keep] h h12 [v13, .int .i64 6] from rfl) ?_
    rw [f0, bS, f1, bS, fe]
  | true =>
    simp only [Bool.not_true, Bool.false_eq_true, if_false, if_true, c102, bS, arr_q hd]
    have f0 := box_set (h := h) (n := 29) (cs := qOf d) (vs := Z29) (t := 83) hz (qOf_len d) (by decide) (qOf_one d)
    have f1 := box_all (h := h) (n := 29) (vs := qOf d) (t := 83) (qOf_len d)
    refine Eq.trans (show _ = (storeP 29 (.ptr h.length 0) (.agg (qOf d)) (h ++ [.box Z29 83 .rw])).bind fun h12 => (loadP true 29 (.ptr h.length 0) h12).bind fun v13 => finP [.keep, .keep] h h12 [v13, .int .i64 0] from rfl) ?_
    rw [f0, bS, f1, bS, fin_qe]
end Go.Vm.X


set_option linter.unusedSimpArgs false
set_option linter.unusedVariables false
namespace Go.Vm.X
open Go.Am Go.Vm
attribute [local congr] bind_c ifP_c loop_c K1_c ite_c
theorem q_end (d e : Int) (h : PHeap) (t : TypeId) : ((storeP 29 (.ptr h.length 0) (.agg (qOf d)) (h ++ [.box Z29 t .rw])).bind fun h12 => (loadP true 29 (.ptr h.length 0) h12).bind fun v13 => finP [.keep, .keep] h h12 [v13, .int .i64 e]) = some (.tuple [.agg (qOf d), .int .i64 e], h) := by
  have hz : Z29.length = 29 := rfl
  rw [box_set hz (qOf_len d) (by decide) (qOf_one d), bS, box_all (qOf_len d), bS, fin_qe]
theorem c56 (d : Int) (h : PHeap) : Γ0 56 [.int .i64 d] h = some (.tuple [.agg (qOf d), .int .i64 (kindE d)], h) := by
  refine gbody (F := A56) (by kernel_rfl) 1 ?_
  rw [s56_eq]
  cases hd : inW d 1 6 with
  | true =>
    rcases inW_six hd with rfl | rfl | rfl | rfl | rfl | rfl
    · exact Eq.trans (show _ = (storeP 29 (.ptr h.length 0) (.agg (qOf 1)) (h ++ [.box Z29 83 .rw])).bind fun h12 => (loadP true 29 (.ptr h.length 0) h12).bind fun v13 => finP [.keep, .keep] h h12 [v13, .int .i64 (kindE 1)] by kernel_rfl) (q_end 1 (kindE 1) h 83)
    · exact Eq.trans (show _ = (storeP 29 (.ptr h.length 0) (.agg (qOf 2)) (h ++ [.box Z29 83 .rw])).bind fun h12 => (loadP true 29 (.ptr h.length 0) h12).bind fun v13 => finP [.keep, .keep] h h12 [v13, .int .i64 (kindE 2)] by kernel_rfl) (q_end 2 (kindE 2) h 83)
    · exact Eq.trans (show _ = (storeP 29 (.ptr h.length 0) (.agg (qOf 3)) (h ++ [.box Z29 83 .rw])).bind fun h12 => (loadP true 29 (.ptr h.length 0) h12).bind fun v13 => finP [.keep, .keep] h h12 [v13, .int .i64 (kindE 3)] by kernel_rfl) (q_end 3 (kindE 3) h 83)
    · exact Eq.trans (show _ = (storeP 29 (.ptr h.length 0) (.agg (qOf 4)) (h ++ [.box Z29 83 .rw])).bind fun h12 => (loadP true 29 (.ptr h.length 0) h12).bind fun v13 => finP [.keep, .keep] h h12 [v13, .int .i64 (kindE 4)] by kernel_rfl) (q_end 4 (kindE 4) h 83)
    · exact Eq.trans (show _ = (storeP 29 (.ptr h.length 0) (.agg (qOf 5)) (h ++ [.box Z29 83 .rw])).bind fun h12 => (loadP true 29 (.ptr h.length 0) h12).bind fun v13 => finP [.keep, .keep] h h12 [v13, .int .i64 (kindE 5)] by kernel_rfl) (q_end 5 (kindE 5) h 83)
    · exact Eq.trans (show _ = (storeP 29 (.ptr h.length 0) (.agg (qOf 6)) (h ++ [.box Z29 83 .rw])).bind fun h12 => (loadP true 29 (.ptr h.length 0) h12).bind fun v13 => finP [.keep, .keep] h h12 [v13, .int .i64 (kindE 6)] by kernel_rfl) (q_end 6 (kindE 6) h 83)
  | false =>
    have hd' := hd
    unfold inW at hd'
    simp only [Bool.and_eq_false_iff, decide_eq_false_iff_not] at hd'
    have e1 : (d == 1) = false := by rw [beq_eq_false_iff_ne]; omega
    have e2 : (d == 2) = false := by rw [beq_eq_false_iff_ne]; omega
    have e3 : (d == 3) = false := by rw [beq_eq_false_iff_ne]; omega
    have e4 : (d == 4) = false := by rw [beq_eq_false_iff_ne]; omega
    have e5 : (d == 5) = false := by rw [beq_eq_false_iff_ne]; omega
    have e6 : (d == 6) = false := by rw [beq_eq_false_iff_ne]; omega
    have hk : kindE d = 6 := by unfold kindE; rw [hd]; rfl
    have hq := q_end d 6 h 83
    rw [qOf_out hd] at hq ⊢
    rw [hk]
    unfold s56
    simp only [fork_def, bin_eql, bS, ↓KLn, if_bool, e1, e2, e3, e4, e5, e6, Bool.false_eq_true, if_false]
    exact Eq.trans (show _ = (storeP 29 (.ptr h.length 0) (.agg qrow0) (h ++ [.box Z29 83 .rw])).bind fun h12 => (loadP true 29 (.ptr h.length 0) h12).bind fun v13 => finP [.keep, .keep] h h12 [v13, .int .i64 6] from rfl) hq
end Go.Vm.X


set_option linter.unusedSimpArgs false
set_option linter.unusedVariables false
namespace Go.Vm.X
open Go.Am Go.Vm
attribute [local congr] bind_c ifP_c loop_c K1_c ite_c
def lowQ (d : Int) : Int := if d = 1 then 49 else if d = 2 then 13 else if d = 3 then 1 else if d = 4 then 1 else if d = 5 then 13 else if d = 6 then 13 else 0
def highQ (d : Int) : Int := if d = 1 then 84 else if d = 2 then 108 else if d = 3 then 96 else if d = 4 then 120 else if d = 5 then 72 else if d = 6 then 108 else 0
theorem q_low (d : Int) : (qOf d)[4]? = some (.int .i64 (lowQ d)) := by
  unfold qOf lowQ
  repeat' split
  all_goals rfl
theorem q_high (d : Int) : (qOf d)[5]? = some (.int .i64 (highQ d)) := by
  unfold qOf highQ
  repeat' split
  all_goals rfl
def noteOK (d x : Int) : Bool := if x = 0 then true else if x = 255 then d == 3 || d == 4 || d == 6 else if x = 254 then d == 2 || d == 4 else if x = 253 then d == 4 else inW x (lowQ d) (highQ d)
theorem c150 {d : Int} (hd : inW d 1 6 = true) (x : Int) (h : PHeap) : Γ0 150 [.int .i64 d, .int .i64 x] h = some (.bool (noteOK d x), h) := by
  refine gbody (F := A150) (by kernel_rfl) 1 ?_
  rw [s150_eq]
  unfold s150 noteOK inW
  have hz : Z29.length = 29 := rfl
  have f0 := box_set (h := h) (n := 29) (cs := qOf d) (vs := Z29) (t := 83) hz (qOf_len d) (by decide) (qOf_one d)
  have l4 : loadP false 1 (.ptr h.length 4) (h ++ [.box (qOf d) 83 .rw]) = some (.int .i64 (lowQ d)) := load_new (q_low d)
  have l5 : loadP false 1 (.ptr h.length 5) (h ++ [.box (qOf d) 83 .rw]) = some (.int .i64 (highQ d)) := load_new (q_high d)
  simp only [c102, arr_q hd, fork_def, f0, bS, ↓KLn, bin_eql, if_bool, beq_iff_eq, fin_bool]
  by_cases h0 : x = 0
  · simp only [h0, if_true]
  · by_cases h1 : x = 255
    · simp only [h0, h1, if_true, if_false, K1_or, K1_one, bS, bin_eql, fin_bool, show ((255 : Int) = 0) = False from eq_false (by decide)]
    · by_cases h2 : x = 254
      · simp only [h0, h1, h2, if_true, if_false, K1_or, K1_one, bS, bin_eql, fin_bool, ↓KLn, if_bool, beq_iff_eq, show ((254 : Int) = 0) = False from eq_false (by decide), show ((254 : Int) = 255) = False from eq_false (by decide)]
      · by_cases h3 : x = 253
        · simp only [h0, h1, h2, h3, if_true, if_false, K1_or, K1_one, bS, bin_eql, fin_bool, ↓KLn, if_bool, beq_iff_eq, show ((253 : Int) = 0) = False from eq_false (by decide), show ((253 : Int) = 255) = False from eq_false (by decide), show ((253 : Int) = 254) = False from eq_false (by decide)]
        · simp only [h0, h1, h2, h3, if_true, if_false, K1_and, K1_one, bS, bin_eql, bin_geq, bin_leq, fin_bool, ↓KLn, if_bool, beq_iff_eq, field_new, l4, l5, ge_iff_le]
theorem c191 (d x : Int) (h : PHeap) : Γ0 191 [.int .i64 d, .int .i64 x] h = some (.bool (noteOK d x), h) := by
  refine gbody (F := A191) (by kernel_rfl) 1 ?_
  rw [s191_eq]
  unfold s191 noteOK inW
  have hz : Z29.length = 29 := rfl
  have f0 := box_set (h := h) (n := 29) (cs := qOf d) (vs := Z29) (t := 83) hz (qOf_len d) (by decide) (qOf_one d)
  have l4 : loadP false 1 (.ptr h.length 4) (h ++ [.box (qOf d) 83 .rw]) = some (.int .i64 (lowQ d)) := load_new (q_low d)
  have l5 : loadP false 1 (.ptr h.length 5) (h ++ [.box (qOf d) 83 .rw]) = some (.int .i64 (highQ d)) := load_new (q_high d)
  simp only [c56, y20, y21, fork_def, f0, bS, ↓KLn, bin_eql, if_bool, beq_iff_eq, fin_bool]
  by_cases h0 : x = 0
  · simp only [h0, if_true]
  · by_cases h1 : x = 255
    · simp only [h0, h1, if_true, if_false, K1_or, K1_one, bS, bin_eql, fin_bool, show ((255 : Int) = 0) = False from eq_false (by decide)]
    · by_cases h2 : x = 254
      · simp only [h0, h1, h2, if_true, if_false, K1_or, K1_one, bS, bin_eql, fin_bool, ↓KLn, if_bool, beq_iff_eq, show ((254 : Int) = 0) = False from eq_false (by decide), show ((254 : Int) = 255) = False from eq_false (by decide)]
      · by_cases h3 : x = 253
        · simp only [h0, h1, h2, h3, if_true, if_false, K1_or, K1_one, bS, bin_eql, fin_bool, ↓KLn, if_bool, beq_iff_eq, show ((253 : Int) = 0) = False from eq_false (by decide), show ((253 : Int) = 255) = False from eq_false (by decide), show ((253 : Int) = 254) = False from eq_false (by decide)]
        · simp only [h0, h1, h2, h3, if_true, if_false, K1_and, K1_one, bS, bin_eql, bin_geq, bin_leq, fin_bool, ↓KLn, if_bool, beq_iff_eq, field_new, l4, l5, ge_iff_le]
end Go.Vm.X


set_option linter.unusedSimpArgs false
set_option linter.unusedVariables false
namespace Go.Vm.X
open Go.Am Go.Vm
attribute [local congr] bind_c ifP_c loop_c K1_c ite_c scP_c
def cellIn (d : Int) (c : Cell) : Bool := inW d 1 6 && (cellOK c && (noteOK d c.note && (decide (c.vc ≤ volc d) && (c.ef == 0 || (lettersL d).contains (letterU c.ef).toUInt8))))
theorem bys_str (l : List UInt8) : bys ⟨l.toArray⟩ = l := by simp [bys]
theorem c152s (l : List UInt8) (c : Int) (h : PHeap) : Γ0 152 [strOf l, .int .u8 c] h = some (.int .i64 (Lib.indexByte l c.toNat.toUInt8), h) := by
  have := c152 ⟨l.toArray⟩ c h
  rwa [bys_str] at this
theorem cell_ef {c : Cell} (h : cellOK c = true) : 0 ≤ c.ef ∧ c.ef ≤ 36 := by
  unfold cellOK inW at h
  simp only [Bool.and_eq_true, decide_eq_true_eq] at h
  exact h.2.1.1
theorem c118 (d : Int) (c : Cell) (h : PHeap) : Γ0 118 [.int .i64 d, .agg c.cs] h = some (.bool (cellIn d c), h) := by
  refine gbody (F := A118) (by kernel_rfl) 1 ?_
  rw [s118_eq]
  unfold s118 cellIn
  have hb : loadP true 6 (.ptr h.length 0) (h ++ [.box c.cs 41 .rw]) = some (.agg c.cs) := box_all rfl
  simp only [fork_def, cells_agg, c101, bS, un_not, ↓K1n, ↓KLn, sc_or]
  cases hd : inW d 1 6 with
  | false => simp only [Bool.not_false, Bool.true_eq_false, if_false, if_bool, if_true, Bool.false_and, fin_bool]
  | true =>
    simp only [Bool.not_true, if_true, hb, c148, bS, un_not, Bool.true_and]
    cases hc : cellOK c with
    | false => simp only [Bool.not_false, Bool.true_eq_false, if_false, if_bool, if_true, Bool.false_and, fin_bool, sc_or, ↓K1n, ↓KLn]
    | true =>
      have hef := cell_ef hc
      simp only [Bool.not_true, if_true, field_new, cl0, cl2, cl4, c150 hd, bS, un_not, sc_or, ↓K1n, ↓KLn, Bool.true_and]
      cases hn : noteOK d c.note with
      | false => simp only [Bool.not_false, Bool.true_eq_false, if_false, if_bool, if_true, Bool.false_and, fin_bool, sc_or, ↓K1n, ↓KLn]
      | true =>
        simp only [Bool.not_true, if_true, field_new, cl0, cl2, cl4, c151, bS, un_not, sc_or, ↓K1n, ↓KLn, unl_self, bin_gtr, Bool.true_and, if_bool, decide_eq_true_eq]
        by_cases hv : c.vc > volc d
        · have : decide (c.vc ≤ volc d) = false := decide_eq_false (by omega)
          simp only [hv, if_true, this, Bool.false_and, fin_bool]
        · have hv' : decide (c.vc ≤ volc d) = true := decide_eq_true (by omega)
          simp only [hv, if_false, hv', Bool.true_and, field_new, cl4, bS, bin_eql, ↓K1n, ↓KLn, if_bool]
          by_cases he : c.ef = 0
          · have : (c.ef == 0) = true := by rw [beq_iff_eq]; exact he
            simp only [this, if_true, Bool.true_or, fin_bool]
          · have he' : (c.ef == 0) = false := by rw [beq_eq_false_iff_ne]; exact he
            have k60 := fun H => c154 (e := c.ef) ⟨by omega, hef.2⟩ H
            simp only [he', Bool.false_eq_true, if_false, Bool.false_or, c153, bS, unl_self, field_new, cl4, k60, c152s, bin_geq, Int.toNat_natCast, (index_has _ _).1, fin_bool]
theorem strOf_size (d : Int) : (⟨(lettersL d).toArray⟩ : ByteArray).size ≤ 26 := by
  show (lettersL d).toArray.size ≤ 26
  rw [List.size_toArray]
  unfold lettersL
  repeat' split
  all_goals decide
theorem load_new2 {h l : PHeap} {vs : List PV} {t : TypeId} {k : Nat} {v : PV} (hv : vs[k]? = some v) : loadP false 1 (.ptr h.length k) ((h ++ [.box vs t .rw]) ++ l) = some v := by
  rw [List.append_assoc, load_box, boxAt_some (vs := vs) (t := t) (md := .rw) (by rw [get_new0]; rfl), Option.bind_some, part_cell, hv]
theorem box_all2 {h l : PHeap} {n : Nat} {vs : List PV} {t : TypeId} (h1 : vs.length = n) : loadP true n (.ptr h.length 0) ((h ++ [.box vs t .rw]) ++ l) = some (.agg vs) := by
  rw [List.append_assoc, load_box, boxAt_some (vs := vs) (t := t) (md := .rw) (by rw [get_new0]; rfl), Option.bind_some, part_all h1]
theorem fin_bool2 {h l m : PHeap} {b : Bool} : finP [.keep] h ((h ++ l) ++ m) [.bool b] = some (.bool b, h) := by rw [List.append_assoc]; exact fin_bool
theorem c193s (d : Int) (c : Nat) (hc : c < 256) (h : PHeap) : Γ0 193 [strOf (lettersL d), .int .u8 (c : Int)] h = some (.bool ((lettersL d).contains c.toUInt8), h) := by
  have := c193 (s := ⟨(lettersL d).toArray⟩) (by have := strOf_size d; omega) c hc h
  rwa [bys_str] at this
theorem letterU_lt {e : Int} (h : 1 ≤ e ∧ e ≤ 36) : letterU e < 256 := by unfold letterU; split <;> omega
theorem c174 (d : Int) (c : Cell) (h : PHeap) : Γ0 174 [.int .i64 d, .agg c.cs] h = some (.bool (cellIn d c), h) := by
  refine gbody (F := A174) (by kernel_rfl) 1 ?_
  rw [s174_eq]
  unfold s174 cellIn
  have hz : Z29.length = 29 := rfl
  have f0 := box_set (h := h ++ [.box c.cs 41 .rw]) (n := 29) (cs := qOf d) (vs := Z29) (t := 83) hz (qOf_len d) (by decide) (qOf_one d)
  have g0 : loadP false 1 (.ptr h.length 0) ((h ++ [.box c.cs 41 .rw]) ++ [.box (qOf d) 83 .rw]) = some (.int .i64 c.note) := load_new2 rfl
  have g2 : loadP false 1 (.ptr h.length 2) ((h ++ [.box c.cs 41 .rw]) ++ [.box (qOf d) 83 .rw]) = some (.int .i64 c.vc) := load_new2 rfl
  have g4 : loadP false 1 (.ptr h.length 4) ((h ++ [.box c.cs 41 .rw]) ++ [.box (qOf d) 83 .rw]) = some (.int .i64 c.ef) := load_new2 rfl
  have gb : loadP true 6 (.ptr h.length 0) ((h ++ [.box c.cs 41 .rw]) ++ [.box (qOf d) 83 .rw]) = some (.agg c.cs) := box_all2 rfl
  simp only [fork_def, cells_agg, c56, y20, y21, f0, bS, bin_neq, ↓K1n, ↓KLn, sc_or]
  unfold kindE
  cases hd : inW d 1 6 with
  | false =>
    have : ((if false = true then (0 : Int) else 6) != 0) = true := rfl
    simp only [this, Bool.true_eq_false, if_false, if_bool, if_true, Bool.false_and, fin_bool2]
  | true =>
    have z0 : ((0 : Int) != 0) = false := rfl
    simp only [if_true, z0, gb, c190, bS, un_not, Bool.true_and]
    cases hc : cellOK c with
    | false => simp only [Bool.not_false, if_bool, if_true, Bool.false_and, fin_bool2]
    | true =>
      have hef := cell_ef hc
      simp only [Bool.not_true, Bool.false_eq_true, if_false, if_bool, field_new, g0, c191, bS, ↓K1n, ↓KLn, sc_and, Bool.true_and]
      cases hn : noteOK d c.note with
      | false => simp only [Bool.false_eq_true, if_false, Bool.false_and, fin_bool2]
      | true =>
        simp only [if_true, field_new, g2, c192, bS, unl_self, bin_leq, sc_and, Bool.true_and]
        cases hv : decide (c.vc ≤ volc d) with
        | false => simp only [Bool.false_eq_true, if_false, Bool.false_and, fin_bool2]
        | true =>
          simp only [if_true, field_new, g4, bS, bin_eql, ↓K1n, sc_or, Bool.true_and]
          by_cases he : c.ef = 0
          · have : (c.ef == 0) = true := by rw [beq_iff_eq]; exact he
            simp only [this, Bool.true_eq_false, if_false, Bool.true_or, fin_bool2]
          · have he' : (c.ef == 0) = false := by rw [beq_eq_false_iff_ne]; exact he
            have k82 := fun H => c195 (e := c.ef) ⟨by omega, hef.2⟩ H
            have hlt := letterU_lt (e := c.ef) ⟨by omega, hef.2⟩
            simp only [he', if_true, Bool.false_or, c194, bS, unl_self, field_new, g4, k82, c193s d _ hlt, fin_bool2]
end Go.Vm.X


set_option linter.unusedSimpArgs false
set_option linter.unusedVariables false
namespace Go.Vm.X
open Go.Am Go.Vm
attribute [local congr] bind_c ifP_c loop_c K1_c ite_c
theorem by_bad (b : UInt8) : (decide ((b.toNat : Int) < 32) || decide ((b.toNat : Int) > 126)) = !byOK b := by
  unfold byOK inW
  rw [Bool.eq_iff_iff]
  simp only [Bool.or_eq_true, decide_eq_true_eq, Bool.not_eq_true', Bool.and_eq_false_iff, decide_eq_false_iff_not]
  omega
theorem c157 {s : ByteArray} (hs : s.size < 9223372036854775808) (h : PHeap) : Γ0 157 [.str s] h = some (.bool (nameOK s), h) := by
  have hbl := bys_len s
  refine gbody (F := A157) (by kernel_rfl) (s.size + 1) ?_
  rw [s157_eq]
  unfold s157 nameOK
  simp only [len_str, bS, ↓KLn]
  obtain ⟨k, h1, h2, h3⟩ := first_not byOK (bys s)
  refine loop_pure (fun i => [.int .i64 (i : Int)]) k (by omega) rfl (fun i hi K => ?_) fun K => ?_
  · obtain ⟨b, hb⟩ := lt_l (show i < (bys s).length by omega)
    have hlt : ((i : Int) < (s.size : Int)) = True := eq_true (by omega)
    have hok : byOK b = true := h2 i b hi hb
    unfold s157_L0
    simp only [nth_zero, nth_one, nth_two, nth_three, bin_lss, bin_gtr, hlt, decide_true, bS, ↓KLn, if_bool, if_true, idx_by hb, K1_or, by_bad, hok, Bool.not_true, Bool.false_eq_true, if_false, bin_add, succ63 (show i < 9223372036854775807 by omega), trim_self]
  · rcases h3 with ⟨rfl, h4⟩ | ⟨b, h3, h4, h5⟩
    · have hlt : (((bys s).length : Int) < (s.size : Int)) = False := eq_false (by omega)
      have hle : decide ((s.size : Int) ≤ 22) = decide (s.size ≤ 22) := by rw [decide_eq_decide]; omega
      unfold s157_L0
      simp only [nth_zero, bin_lss, hlt, decide_false, bS, ↓KLn, if_bool, Bool.false_eq_true, if_false, bin_leq, h4, Bool.true_and, hle, fin_bool0]
    · have hk : k < (bys s).length := by
        obtain ⟨hh, _⟩ := List.getElem?_eq_some_iff.1 h3
        exact hh
      have hlt : ((k : Int) < (s.size : Int)) = True := eq_true (by omega)
      unfold s157_L0
      simp only [nth_zero, bin_lss, bin_gtr, hlt, decide_true, bS, ↓KLn, if_bool, if_true, idx_by h3, K1_or, by_bad, h4, Bool.not_false, h5, Bool.false_and, fin_bool0]
theorem c137 {s : ByteArray} (hs : s.size < 9223372036854775808) (h : PHeap) : Γ0 137 [.str s] h = some (.bool (nameOK s), h) := by
  have hbl := bys_len s
  refine gbody (F := A137) (by kernel_rfl) (s.size + 1) ?_
  rw [s137_eq]
  unfold s137 nameOK
  simp only [len_str, bS, ↓KLn, bin_gtr, if_bool, decide_eq_true_eq, fin_bool0]
  by_cases h22 : (s.size : Int) > 22
  · have : decide (s.size ≤ 22) = false := decide_eq_false (by omega)
    rw [if_pos h22, this, Bool.and_false]
  · have hd : decide (s.size ≤ 22) = true := decide_eq_true (by omega)
    rw [if_neg h22, hd, Bool.and_true]
    obtain ⟨k, h1, h2, h3⟩ := first_not byOK (bys s)
    refine loop_pure (fun i => [.int .i64 (i : Int)]) k (by omega) rfl (fun i hi K => ?_) fun K => ?_
    · obtain ⟨b, hb⟩ := lt_l (show i < (bys s).length by omega)
      have hlt : ((i : Int) < (s.size : Int)) = True := eq_true (by omega)
      have hok : byOK b = true := h2 i b hi hb
      unfold s137_L0
      simp only [nth_zero, nth_one, nth_two, nth_three, len_str, bin_lss, bin_gtr, hlt, decide_true, bS, ↓KLn, if_bool, if_true, idx_by hb, K1_or, by_bad, hok, Bool.not_true, Bool.false_eq_true, if_false, bin_add, succ63 (show i < 9223372036854775807 by omega), trim_self]
    · rcases h3 with ⟨rfl, h4⟩ | ⟨b, h3, h4, h5⟩
      · have hlt : (((bys s).length : Int) < (s.size : Int)) = False := eq_false (by omega)
        unfold s137_L0
        simp only [nth_zero, len_str, bin_lss, hlt, decide_false, bS, ↓KLn, if_bool, Bool.false_eq_true, if_false, h4, fin_bool0]
      · have hk : k < (bys s).length := by
          obtain ⟨hh, _⟩ := List.getElem?_eq_some_iff.1 h3
          exact hh
        have hlt : ((k : Int) < (s.size : Int)) = True := eq_true (by omega)
        unfold s137_L0
        simp only [nth_zero, len_str, bin_lss, bin_gtr, hlt, decide_true, bS, ↓KLn, if_bool, if_true, idx_by h3, K1_or, by_bad, h4, Bool.not_false, h5, fin_bool0]
end Go.Vm.X


set_option linter.unusedSimpArgs false
set_option linter.unusedVariables false
namespace Go.Vm.X
open Go.Am Go.Vm
attribute [local congr] bind_c ifP_c loop_c K1_c ite_c
def firstI {α : Type} (p : α → Bool) : List α → Int
  | [] => -1
  | a :: l => if p a then 0 else if firstI p l = -1 then -1 else firstI p l + 1
theorem first_at {α : Type} (p : α → Bool) (l : List α) : ∃ k, k ≤ l.length ∧ (∀ i a, i < k → l[i]? = some a → p a = false) ∧ (k = l.length ∧ firstI p l = -1 ∧ l.any p = false ∨ ∃ a, l[k]? = some a ∧ p a = true ∧ firstI p l = (k : Int) ∧ l.any p = true) := by
  induction l with
  | nil => exact ⟨0, Nat.le_refl _, fun i a h => by omega, .inl ⟨rfl, rfl, rfl⟩⟩
  | cons x l ih =>
    cases hx : p x with
    | true => exact ⟨0, Nat.zero_le _, fun i a h => by omega, .inr ⟨x, rfl, hx, by simp [firstI, hx], by simp [hx]⟩⟩
    | false =>
      obtain ⟨k, h1, h2, h3⟩ := ih
      refine ⟨k + 1, by simp; omega, fun i a hi ha => ?_, ?_⟩
      · cases i with
        | zero => cases ha; exact hx
        | succ i => exact h2 i a (by omega) ha
      · rcases h3 with ⟨h3, h4, h5⟩ | ⟨a, h3, h4, h5, h6⟩
        · exact .inl ⟨by simp [h3], by simp [firstI, hx, h4], by simp [hx, h5]⟩
        · refine .inr ⟨a, h3, h4, ?_, by simp [h6]⟩
          have : ¬ (firstI p l = -1) := by omega
          simp only [firstI, hx, this, Bool.false_eq_true, if_false]
          omega
theorem first_any {α : Type} (p : α → Bool) (l : List α) : decide (firstI p l ≥ 0) = l.any p := by
  obtain ⟨k, _, _, h3⟩ := first_at p l
  rcases h3 with ⟨_, h4, h5⟩ | ⟨_, _, _, h5, h6⟩
  · rw [h4, h5]; rfl
  · rw [h5, h6]; exact decide_eq_true (by omega)
def cellsPV (l : List Cell) : PV := .frz 6 (l.map Cell.cs)
theorem len_cells (l : List Cell) : lenP false (cellsPV l) = some (.int .i64 l.length) := len_map
theorem idx_cells {l : List Cell} {i : Nat} {c : Cell} (k : IntKind) (h : l[i]? = some c) : indexAddrP 6 (cellsPV l) (.int k i) = some (.fptr c.cs 0) := idx_map k h
theorem load_cell (c : Cell) (h : PHeap) : loadP true 6 (.fptr c.cs 0) h = some (.agg c.cs) := by rw [load_fptr]; exact part_all rfl
theorem c149 {f : PV} {p : Cell → Bool} {l : List Cell} {h : PHeap} (hm : l.length < 9223372036854775808) (hf : ∀ c, callVP Γ0 f [.agg c.cs] h = some (.bool (p c), h)) : Γ0 149 [cellsPV l, f] h = some (.int .i64 (firstI p l), h) := by
  refine gbody (F := A149) (by kernel_rfl) (l.length + 1) ?_
  rw [s149_eq]
  unfold s149
  simp only [len_cells, bS, ↓KLn]
  obtain ⟨k, h1, h2, h3⟩ := first_at p l
  refine loop_pure (fun i => [.int .i64 (i : Int)]) k (by omega) rfl (fun i hi K => ?_) fun K => ?_
  · obtain ⟨c, hc⟩ := lt_l (show i < l.length by omega)
    have hp := h2 i c hi hc
    unfold s149_L0
    simp only [nth_zero, bin_lss, ltT (show i < l.length by omega), decide_true, bS, ↓KLn, if_bool, if_true, idx_cells _ hc, load_cell, hf, hp, Bool.false_eq_true, if_false, bin_add, succ63 (show i < 9223372036854775807 by omega), trim_self]
  · rcases h3 with ⟨rfl, h4, h5⟩ | ⟨c, h3, h4, h5, h6⟩
    · unfold s149_L0
      simp only [nth_zero, bin_lss, ltF, decide_false, bS, ↓KLn, if_bool, Bool.false_eq_true, if_false, h4, fin_int0]
    · have hk : k < l.length := by
        obtain ⟨hh, _⟩ := List.getElem?_eq_some_iff.1 h3
        exact hh
      unfold s149_L0
      simp only [nth_zero, bin_lss, ltT hk, decide_true, bS, ↓KLn, if_bool, if_true, idx_cells _ h3, load_cell, hf, h4, h5, fin_int0]
theorem c116 {f : PV} {p : Cell → Bool} {l : List Cell} {h : PHeap} (hm : l.length < 9223372036854775808) (hf : ∀ c, callVP Γ0 f [.agg c.cs] h = some (.bool (p c), h)) : Γ0 116 [cellsPV l, f] h = some (.bool (l.any p), h) := by
  refine gbody (F := A116) (by kernel_rfl) 1 ?_
  rw [s116_eq]
  unfold s116
  simp only [c149 hm hf, bS, bin_geq, first_any, fin_bool0]
theorem c147 (c : Cell) (h : PHeap) : Γ0 147 [.agg c.cs] h = some (.bool (!cellOK c), h) := by
  refine gbody (F := A147) (by kernel_rfl) 1 ?_
  rw [s147_eq]
  unfold s147
  have hb : loadP true 6 (.ptr h.length 0) (h ++ [.box c.cs 41 .rw]) = some (.agg c.cs) := box_all rfl
  simp only [fork_def, cells_agg, hb, c148, bS, un_not, fin_bool]
theorem c189 (x : Int) (h : PHeap) : Γ0 189 [.int .i64 x] h = some (.bool (inW x 1 16), h) := by
  refine gbody (F := A189) (by kernel_rfl) 1 ?_
  rw [s189_eq]
  unfold s189 inW
  simp only [bin_leq, bS, K1_and, fin_bool0]
def patV (r : Int) (l : List Cell) : PV := .agg [.int .i64 r, cellsPV l]
def patOK (r : Int) (l : List Cell) (ch : Int) : Bool := inW ch 1 16 && inW r 1 64 && ((l.length : Int) == IntKind.i64.wrap (r * ch)) && l.all cellOK
theorem any_not_all (l : List Cell) : (!l.any fun c => !cellOK c) = l.all cellOK := by rw [List.not_any_eq_all_not]; simp
theorem c115 (r : Int) {l : List Cell} (hm : l.length < 9223372036854775808) (ch : Int) (h : PHeap) : Γ0 115 [patV r l, .int .i64 ch] h = some (.bool (patOK r l ch), h) := by
  refine gbody (F := A115) (by kernel_rfl) 1 ?_
  rw [s115_eq]
  unfold s115 patOK patV
  have l0 : loadP false 1 (.ptr h.length 0) (h ++ [.box [.int .i64 r, cellsPV l] 39 .rw]) = some (.int .i64 r) := load_new rfl
  have l1 : loadP false 1 (.ptr h.length 1) (h ++ [.box [.int .i64 r, cellsPV l] 39 .rw]) = some (cellsPV l) := load_new rfl
  have k32 := c116 (f := .func 147 [] []) (p := fun c => !cellOK c) (h := h ++ [.box [.int .i64 r, cellsPV l] 39 .rw]) hm fun c => by rw [callV_func Γ0 147]; exact c147 c _
  simp only [fork_def, cells_agg, c103, c104, field_new, l0, l1, len_cells, bin_mul, bin_eql, k32, un_not, any_not_all, bS, K1_and, fin_bool]
theorem c173 (r : Int) {l : List Cell} (hm : l.length < 9223372036854775808) (ch : Int) (h : PHeap) : Γ0 173 [patV r l, .int .i64 ch] h = some (.bool (patOK r l ch), h) := by
  refine gbody (F := A173) (by kernel_rfl) (l.length + 1) ?_
  rw [s173_eq]
  unfold s173 patOK patV
  have l0 : loadP false 1 (.ptr h.length 0) (h ++ [.box [.int .i64 r, cellsPV l] 39 .rw]) = some (.int .i64 r) := load_new rfl
  have l1 : loadP false 1 (.ptr h.length 1) (h ++ [.box [.int .i64 r, cellsPV l] 39 .rw]) = some (cellsPV l) := load_new rfl
  simp only [fork_def, cells_agg, c189, field_new, l0, l1, len_cells, bin_mul, bin_neq, bin_lss, bin_gtr, un_not, bS, K1_or, if_bool, ↓KLn]
  have hcond : ((((!inW ch 1 16) || decide (r < 1)) || decide (r > 64)) || ((l.length : Int) != IntKind.i64.wrap (r * ch))) = !(inW ch 1 16 && inW r 1 64 && ((l.length : Int) == IntKind.i64.wrap (r * ch))) := by
    unfold inW
    rw [Bool.eq_iff_iff]
    simp only [Bool.or_eq_true, Bool.not_eq_true', Bool.and_eq_false_iff, decide_eq_true_eq, decide_eq_false_iff_not, bne_iff_ne, beq_eq_false_iff_ne, ne_eq]
    omega
  rw [hcond]
  cases hc : (inW ch 1 16 && inW r 1 64 && ((l.length : Int) == IntKind.i64.wrap (r * ch))) with
  | false => simp only [Bool.not_false, if_true, Bool.false_and, fin_bool]
  | true =>
    simp only [Bool.not_true, Bool.false_eq_true, if_false, Bool.true_and]
    obtain ⟨k, h1, h2, h3⟩ := first_not cellOK l
    refine loop_pure (fun i => [.int .i64 (i : Int)]) k (by omega) rfl (fun i hi K => ?_) fun K => ?_
    · obtain ⟨c, hc⟩ := lt_l (show i < l.length by omega)
      have hp := h2 i c hi hc
      unfold s173_L0
      simp only [nth_zero, field_new, l1, len_cells, bin_lss, ltT (show i < l.length by omega), decide_true, bS, ↓KLn, if_bool, if_true, idx_cells _ hc, load_cell, c190, hp, un_not, Bool.not_true, Bool.false_eq_true, if_false, bin_add, succ63 (show i < 9223372036854775807 by omega), trim_self]
    · rcases h3 with ⟨rfl, h4⟩ | ⟨c, h3, h4, h5⟩
      · unfold s173_L0
        simp only [nth_zero, field_new, l1, len_cells, bin_lss, ltF, decide_false, bS, ↓KLn, if_bool, Bool.false_eq_true, if_false, h4, fin_bool]
      · have hk : k < l.length := by
          obtain ⟨hh, _⟩ := List.getElem?_eq_some_iff.1 h3
          exact hh
        unfold s173_L0
        simp only [nth_zero, field_new, l1, len_cells, bin_lss, ltT hk, decide_true, bS, ↓KLn, if_bool, if_true, idx_cells _ h3, load_cell, c190, h4, un_not, Bool.not_false, h5, fin_bool]
end Go.Vm.X


set_option linter.unusedSimpArgs false
set_option linter.unusedVariables false
namespace Go.Vm.X
open Go.Am Go.Vm
attribute [local congr] bind_c ifP_c loop_c K1_c ite_c
def loopV (k a b n : Int) : Bool := if k = 0 then a == 0 && b == 0 else if k = 1 ∨ k = 2 then decide (0 ≤ a) && decide (a < b) && decide (b ≤ n) else false
theorem c156 (k a b n : Int) (h : PHeap) : Γ0 156 [.int .i64 k, .int .i64 a, .int .i64 b, .int .i64 n] h = some (.bool (loopV k a b n), h) := by
  refine gbody (F := A156) (by kernel_rfl) 1 ?_
  rw [s156_eq]
  unfold s156 loopV
  by_cases h0 : k = 0
  · subst h0
    simp only [bin_eql, bS, ↓KLn, if_bool, beq_self_eq_true, if_true, K1_and, fin_bool0]
  · have e0 : (k == 0) = false := by rw [beq_eq_false_iff_ne]; exact h0
    by_cases h1 : k = 1
    · subst h1
      simp only [bin_eql, bin_leq, bin_lss, bS, ↓KLn, if_bool, e0, h0, beq_self_eq_true, Bool.false_eq_true, if_false, if_true, true_or, nth_zero, K1_and, fin_bool0]
    · have e1 : (k == 1) = false := by rw [beq_eq_false_iff_ne]; exact h1
      by_cases h2 : k = 2
      · subst h2
        simp only [bin_eql, bin_leq, bin_lss, bS, ↓KLn, if_bool, e0, e1, h0, h1, beq_self_eq_true, Bool.false_eq_true, if_false, if_true, or_true, nth_zero, K1_and, fin_bool0]
      · have e2 : (k == 2) = false := by rw [beq_eq_false_iff_ne]; exact h2
        simp only [bin_eql, bS, ↓KLn, if_bool, e0, e1, e2, h0, h1, h2, Bool.false_eq_true, if_false, or_self, nth_zero, fin_bool0]
theorem c176 (k a b n : Int) (h : PHeap) : Γ0 176 [.int .i64 k, .int .i64 a, .int .i64 b, .int .i64 n] h = some (.bool (loopV k a b n), h) := by
  refine gbody (F := A176) (by kernel_rfl) 1 ?_
  rw [s176_eq]
  unfold s176 loopV
  by_cases h0 : k = 0
  · subst h0
    simp only [bin_eql, bS, ↓KLn, if_bool, beq_self_eq_true, if_true, K1_and, fin_bool0]
  · have e0 : (k == 0) = false := by rw [beq_eq_false_iff_ne]; exact h0
    by_cases h1 : k = 1
    · subst h1
      simp only [bin_eql, bin_leq, bin_lss, bS, ↓KLn, if_bool, e0, h0, beq_self_eq_true, Bool.false_eq_true, if_false, if_true, true_or, nth_zero, K1_and, fin_bool0]
    · have e1 : (k == 1) = false := by rw [beq_eq_false_iff_ne]; exact h1
      by_cases h2 : k = 2
      · subst h2
        simp only [bin_eql, bin_leq, bin_lss, bS, ↓KLn, if_bool, e0, e1, h0, h1, beq_self_eq_true, Bool.false_eq_true, if_false, if_true, or_true, nth_zero, K1_and, fin_bool0]
      · have e2 : (k == 2) = false := by rw [beq_eq_false_iff_ne]; exact h2
        simp only [bin_eql, bS, ↓KLn, if_bool, e0, e1, e2, h0, h1, h2, Bool.false_eq_true, if_false, or_self, nth_zero, fin_bool0]
theorem fin_ii {h : PHeap} {a b : Int} : finP [.keep, .keep] h h [.int .i64 a, .int .i64 b] = some (.tuple [.int .i64 a, .int .i64 b], h) := by
  simp only [fin_def, fzL_cons, fzL_nil, fz_keep, Option.bind_some, Option.map_some, single_two, trim_self]
def topV (bits : Int) : Int := if bits = 8 then 128 else 32768
theorem c155 {bits : Int} (hb : bits = 8 ∨ bits = 16) (h : PHeap) : Γ0 155 [.int .i64 bits] h = some (.tuple [.int .i64 (-topV bits), .int .i64 (topV bits - 1)], h) := by
  refine gbody (F := A155) (by kernel_rfl) 1 ?_
  rw [s155_eq]
  rcases hb with rfl | rfl
  · exact Eq.trans (show _ = finP [.keep, .keep] h h [.int .i64 (-topV 8), .int .i64 (topV 8 - 1)] by kernel_rfl) fin_ii
  · exact Eq.trans (show _ = finP [.keep, .keep] h h [.int .i64 (-topV 16), .int .i64 (topV 16 - 1)] by kernel_rfl) fin_ii
def fitV (x bits : Int) : Bool := decide (-topV bits ≤ x) && decide (x < topV bits)
theorem c175 {bits : Int} (hb : bits = 8 ∨ bits = 16) (x : Int) (h : PHeap) : Γ0 175 [.int .i64 x, .int .i64 bits] h = some (.bool (fitV x bits), h) := by
  refine gbody (F := A175) (by kernel_rfl) 1 ?_
  rw [s175_eq]
  unfold s175 fitV
  have e1 : binP .sub (.int .i64 bits) (.int .i64 1) = some (.int .i64 (bits - 1)) := by rcases hb with rfl | rfl <;> rfl
  have e2 : binP .shl (.int .i64 1) (.int .i64 (bits - 1)) = some (.int .i64 (topV bits)) := by rcases hb with rfl | rfl <;> rfl
  have e3 : unP .neg (.int .i64 (topV bits)) = some (.int .i64 (-topV bits)) := by rcases hb with rfl | rfl <;> rfl
  simp only [e1, e2, e3, bin_leq, bin_lss, bS, K1_and, fin_bool0]
end Go.Vm.X


set_option linter.unusedSimpArgs false
set_option linter.unusedVariables false
namespace Go.Vm.X
open Go.Am Go.Vm
attribute [local congr] bind_c ifP_c loop_c K1_c ite_c
structure Smp where
  name : ByteArray
  data : List Int
  (bits rate vol pan fine lo st en su sst sen : Int)
def Smp.cs (s : Smp) : List PV := [.str s.name, ints s.data, .int .i64 s.bits, .int .i64 s.rate, .int .i64 s.vol, .int .i64 s.pan, .int .i64 s.fine, .int .i64 s.lo, .int .i64 s.st, .int .i64 s.en, .int .i64 s.su, .int .i64 s.sst, .int .i64 s.sen]
def smpR (s : Smp) : Bool := decide (1 ≤ s.rate ∧ s.rate ≤ 65535 ∧ 0 ≤ s.vol ∧ s.vol ≤ 64 ∧ -1 ≤ s.pan ∧ s.pan ≤ 256 ∧ -64 ≤ s.fine ∧ s.fine ≤ 63)
def smpB (s : Smp) : Bool := decide ((s.bits = 8 ∨ s.bits = 16) ∧ s.data.length ≤ 4096)
def smpL (s : Smp) : Bool := loopV s.lo s.st s.en s.data.length && loopV s.su s.sst s.sen s.data.length
def smpOK (s : Smp) : Bool := nameOK s.name && smpB s && s.data.all (fun x => fitV x s.bits) && (smpR s && smpL s)
section
variable {h : PHeap} {s : Smp} {t : TypeId}
theorem sl0 : loadP false 1 (.ptr h.length 0) (h ++ [.box s.cs t .rw]) = some (.str s.name) := load_new rfl
theorem sl1 : loadP false 1 (.ptr h.length 1) (h ++ [.box s.cs t .rw]) = some (ints s.data) := load_new rfl
theorem sl2 : loadP false 1 (.ptr h.length 2) (h ++ [.box s.cs t .rw]) = some (.int .i64 s.bits) := load_new rfl
theorem sl3 : loadP false 1 (.ptr h.length 3) (h ++ [.box s.cs t .rw]) = some (.int .i64 s.rate) := load_new rfl
theorem sl4 : loadP false 1 (.ptr h.length 4) (h ++ [.box s.cs t .rw]) = some (.int .i64 s.vol) := load_new rfl
theorem sl5 : loadP false 1 (.ptr h.length 5) (h ++ [.box s.cs t .rw]) = some (.int .i64 s.pan) := load_new rfl
theorem sl6 : loadP false 1 (.ptr h.length 6) (h ++ [.box s.cs t .rw]) = some (.int .i64 s.fine) := load_new rfl
theorem sl7 : loadP false 1 (.ptr h.length 7) (h ++ [.box s.cs t .rw]) = some (.int .i64 s.lo) := load_new rfl
theorem sl8 : loadP false 1 (.ptr h.length 8) (h ++ [.box s.cs t .rw]) = some (.int .i64 s.st) := load_new rfl
theorem sl9 : loadP false 1 (.ptr h.length 9) (h ++ [.box s.cs t .rw]) = some (.int .i64 s.en) := load_new rfl
theorem sl10 : loadP false 1 (.ptr h.length 10) (h ++ [.box s.cs t .rw]) = some (.int .i64 s.su) := load_new rfl
theorem sl11 : loadP false 1 (.ptr h.length 11) (h ++ [.box s.cs t .rw]) = some (.int .i64 s.sst) := load_new rfl
theorem sl12 : loadP false 1 (.ptr h.length 12) (h ++ [.box s.cs t .rw]) = some (.int .i64 s.sen) := load_new rfl
end
theorem forkN {R : Type} (v : PV) (h : PHeap) (k : PV → PHeap → Option R) : forkP v h k = k v h := Eq.trans (fork_def v h k) (Eq.refl _)
theorem K1oneN {R : Type} (k : PV → PHeap → Option R) (v : PV) (h : PHeap) : K1 k (fun j => j v h) = k v h := Eq.trans (K1_one k v h) (Eq.refl _)
theorem ifbN (t : Bool) {R : Type} (a b : Option R) : ifP (.bool t) a b = if t = true then a else b := Eq.trans (if_bool t a b) (Eq.refl _)
theorem cellsN (l : List PV) : cellsP (.agg l) = l := Eq.trans (cells_agg l) (Eq.refl _)
theorem unN (b : Bool) : unP .not (.bool b) = some (.bool !b) := Eq.trans (un_not b) (Eq.refl _)
theorem c165 (s : Smp) (hn : s.name.size < 9223372036854775808) (hm : s.data.length < 9223372036854775808) (h : PHeap) : Γ0 165 [.agg s.cs] h = some (.bool (smpOK s), h) := by
  refine gbody (F := A165) (by kernel_rfl) (s.data.length + 1) ?_
  rw [s165_eq]
  unfold s165 smpOK
  simp only [forkN, cellsN, field_new, sl0, sl1, sl2, sl3, sl4, sl5, sl6, len_ints, c137 hn, bS, unN, bin_neq, bin_gtr, bin_lss, K1_and, K1_or, K1oneN, ↓KLn, ifbN]
  generalize hN : nameOK s.name = N
  have hcond : ((((((((((!N || ((s.bits != 8) && (s.bits != 16))) || decide ((s.data.length : Int) > 4096)) || decide (s.rate < 1)) || decide (s.rate > 65535)) || decide (s.vol < 0)) || decide (s.vol > 64)) || decide (s.pan < -1)) || decide (s.pan > 256)) || decide (s.fine < -64)) || decide (s.fine > 63)) = !(N && smpB s && smpR s) := by
    unfold smpB smpR
    cases N with
    | false => simp
    | true =>
      rw [Bool.eq_iff_iff]
      simp only [Bool.or_eq_true, Bool.and_eq_true, Bool.not_eq_true', Bool.true_and, Bool.and_eq_false_iff, decide_eq_true_eq, decide_eq_false_iff_not, bne_iff_ne, ne_eq, Bool.not_true, Bool.false_eq_true, false_or]
      omega
  rw [hcond]
  cases hc : (N && smpB s && smpR s) with
  | false =>
    have : (N && smpB s && s.data.all (fun x => fitV x s.bits) && (smpR s && smpL s)) = false := by
      revert hc
      cases N <;> cases smpB s <;> cases smpR s <;> cases s.data.all (fun x => fitV x s.bits) <;> cases smpL s <;> simp
    simp only [Bool.not_false, if_true, this, fin_bool]
  | true =>
    rw [Bool.and_eq_true, Bool.and_eq_true] at hc
    obtain ⟨⟨c1, c2⟩, c9003⟩ := hc
    rw [c1, c2, c9003]
    have hb : (s.bits = 8 ∨ s.bits = 16) := by
      unfold smpB at c2
      exact (of_decide_eq_true c2).1
    simp only [Bool.not_true, Bool.false_eq_true, if_false, Bool.true_and, Bool.and_true]
    obtain ⟨k, h1, h2, h3⟩ := first_not (fun x => fitV x s.bits) s.data
    refine loop_pure (fun i => [.int .i64 (i : Int)]) k (by omega) rfl (fun i hi K => ?_) fun K => ?_
    · obtain ⟨a, ha⟩ := lt_l (show i < s.data.length by omega)
      have hp := h2 i a hi ha
      unfold s165_L0
      simp only [nth_zero, field_new, sl1, sl2, bin_lss, ltT (show i < s.data.length by omega), decide_true, bS, ↓KLn, ifbN, if_true, idx_ints _ ha, load_iV, c175 hb, hp, unN, Bool.not_true, Bool.false_eq_true, if_false, bin_add, succ63 (show i < 9223372036854775807 by omega), trim_self]
    · rcases h3 with ⟨rfl, h4⟩ | ⟨a, h3, h4, h5⟩
      · unfold s165_L0
        simp only [nth_zero, field_new, sl1, sl2, sl7, sl8, sl9, sl10, sl11, sl12, bin_lss, ltF, decide_false, bS, ↓KLn, ifbN, Bool.false_eq_true, if_false, h4, Bool.true_and, c176, K1_and, smpL, fin_bool]
      · have hk : k < s.data.length := by
          obtain ⟨hh, _⟩ := List.getElem?_eq_some_iff.1 h3
          exact hh
        unfold s165_L0
        simp only [nth_zero, field_new, sl1, sl2, bin_lss, ltT hk, decide_true, bS, ↓KLn, ifbN, if_true, idx_ints _ h3, load_iV, c175 hb, h4, unN, Bool.not_false, h5, Bool.false_and, fin_bool]
end Go.Vm.X


set_option linter.unusedSimpArgs false
set_option linter.unusedVariables false
namespace Go.Vm.X
open Go.Am Go.Vm
attribute [local congr] bind_c ifP_c loop_c K1_c ite_c
theorem fit_bad (x bits : Int) : (decide (x < -topV bits) || decide (x > topV bits - 1)) = !fitV x bits := by
  unfold fitV
  rw [Bool.eq_iff_iff]
  simp only [Bool.or_eq_true, decide_eq_true_eq, Bool.not_eq_true', Bool.and_eq_false_iff, decide_eq_false_iff_not]
  omega
theorem smpR_not (s : Smp) : (((((((decide (s.rate < 1) || decide (s.rate > 65535)) || decide (s.vol < 0)) || decide (s.vol > 64)) || decide (s.pan < -1)) || decide (s.pan > 256)) || decide (s.fine < -64)) || decide (s.fine > 63)) = !smpR s := by
  unfold smpR
  rw [Bool.eq_iff_iff]
  simp only [Bool.or_eq_true, Bool.not_eq_true', decide_eq_true_eq, decide_eq_false_iff_not]
  omega
theorem smpB_not (s : Smp) : ((decide ((s.name.size : Int) > 22) || ((s.bits != 8) && (s.bits != 16))) || decide ((s.data.length : Int) > 4096)) = !(decide (s.name.size ≤ 22) && smpB s) := by
  unfold smpB
  rw [Bool.eq_iff_iff]
  simp only [Bool.or_eq_true, Bool.and_eq_true, Bool.not_eq_true', Bool.and_eq_false_iff, decide_eq_true_eq, decide_eq_false_iff_not, bne_iff_ne, ne_eq]
  omega
theorem c126 (s : Smp) (hn : s.name.size < 9223372036854775808) (hm : s.data.length < 9223372036854775808) (h : PHeap) : Γ0 126 [.agg s.cs] h = some (.bool (smpOK s), h) := by
  have hbl := bys_len s.name
  obtain ⟨N, hN1, hN2⟩ : ∃ N : Nat, s.data.length < N ∧ s.name.size < N := ⟨s.data.length + s.name.size + 1, by omega, by omega⟩
  refine gbody (F := A126) (by kernel_rfl) N ?_
  rw [s126_eq]
  unfold s126 smpOK nameOK
  simp only [forkN, cellsN, field_new, sl0, sl1, sl2, len_ints, len_str, bS, bin_neq, bin_gtr, K1_and, K1_or, K1oneN, ↓KLn, ifbN, smpB_not]
  cases hc : (decide (s.name.size ≤ 22) && smpB s) with
  | false =>
    have : ((bys s.name).all byOK && decide (s.name.size ≤ 22) && smpB s && s.data.all (fun x => fitV x s.bits) && (smpR s && smpL s)) = false := by
      revert hc
      cases (bys s.name).all byOK <;> cases decide (s.name.size ≤ 22) <;> cases smpB s <;> simp
    simp only [Bool.not_false, if_true, this, fin_bool]
  | true =>
    rw [Bool.and_eq_true] at hc
    obtain ⟨c1, c2⟩ := hc
    rw [c1, c2]
    have hb : (s.bits = 8 ∨ s.bits = 16) := by
      unfold smpB at c2
      exact (of_decide_eq_true c2).1
    simp only [Bool.not_true, Bool.false_eq_true, if_false, Bool.and_true]
    obtain ⟨k, h1, h2, h3⟩ := first_not byOK (bys s.name)
    refine loop_pure (fun i => [.int .i64 (i : Int)]) k (by omega) rfl (fun i hi K => ?_) fun K => ?_
    · obtain ⟨b, hb⟩ := lt_l (show i < (bys s.name).length by omega)
      have hlt : ((i : Int) < (s.name.size : Int)) = True := eq_true (by omega)
      have hok : byOK b = true := h2 i b hi hb
      unfold s126_L1
      simp only [nth_zero, nth_one, nth_two, nth_three, nth_four, field_new, sl0, bin_lss, bin_gtr, hlt, decide_true, bS, ↓KLn, ifbN, if_true, idx_by hb, K1_or, by_bad, hok, Bool.not_true, Bool.false_eq_true, if_false, bin_add, succ63 (show i < 9223372036854775807 by omega), trim_self]
    · rcases h3 with ⟨rfl, h4⟩ | ⟨b, h3, h4, h5⟩
      · have hlt : (((bys s.name).length : Int) < (s.name.size : Int)) = False := eq_false (by omega)
        unfold s126_L1
        simp only [nth_zero, bin_lss, hlt, decide_false, bS, ↓KLn, ifbN, Bool.false_eq_true, if_false, field_new, sl1, sl2, c155 hb, y20, y21, len_ints, h4, Bool.true_and]
        obtain ⟨k2, g1, g2, g3⟩ := first_not (fun x => fitV x s.bits) s.data
        refine loop_pure (fun i => [.int .i64 (i : Int)]) k2 (by omega) rfl (fun i hi K => ?_) fun K => ?_
        · obtain ⟨a, ha⟩ := lt_l (show i < s.data.length by omega)
          have hp := g2 i a hi ha
          unfold s126_L0
          simp only [nth_zero, nth_one, nth_two, bin_lss, bin_gtr, ltT (show i < s.data.length by omega), decide_true, bS, ↓KLn, ifbN, if_true, idx_ints _ ha, load_iV, K1_or, fit_bad, hp, Bool.not_true, Bool.false_eq_true, if_false, bin_add, succ63 (show i < 9223372036854775807 by omega), trim_self]
        · rcases g3 with ⟨rfl, g4⟩ | ⟨a, g3, g4, g5⟩
          · unfold s126_L0
            simp only [nth_zero, bin_lss, ltF, decide_false, bS, ↓KLn, ifbN, Bool.false_eq_true, if_false, field_new, sl1, sl3, sl4, sl5, sl6, bin_gtr, K1_or, smpR_not, g4, Bool.true_and]
            cases hR : smpR s with
            | false => simp only [Bool.not_false, if_true, Bool.false_and, fin_bool]
            | true => simp only [Bool.not_true, Bool.false_eq_true, if_false, field_new, sl1, sl7, sl8, sl9, sl10, sl11, sl12, len_ints, c156, bS, K1_and, Bool.true_and, smpL, fin_bool]
          · have hk : k2 < s.data.length := by
              obtain ⟨hh, _⟩ := List.getElem?_eq_some_iff.1 g3
              exact hh
            unfold s126_L0
            simp only [nth_zero, bin_lss, bin_gtr, ltT hk, decide_true, bS, ↓KLn, ifbN, if_true, idx_ints _ g3, load_iV, K1_or, fit_bad, g4, Bool.not_false, g5, Bool.false_and, fin_bool]
      · have hk : k < (bys s.name).length := by
          obtain ⟨hh, _⟩ := List.getElem?_eq_some_iff.1 h3
          exact hh
        have hlt : ((k : Int) < (s.name.size : Int)) = True := eq_true (by omega)
        unfold s126_L1
        simp only [nth_zero, field_new, sl0, bin_lss, bin_gtr, hlt, decide_true, bS, ↓KLn, ifbN, if_true, idx_by h3, K1_or, by_bad, h4, Bool.not_false, h5, Bool.false_and, fin_bool]
end Go.Vm.X


set_option linter.unusedSimpArgs false
set_option linter.unusedVariables false
namespace Go.Vm.X
open Go.Am Go.Vm
attribute [local congr] bind_c ifP_c loop_c K1_c ite_c
theorem c121 {f : PV} {p : Int → Bool} {l : List Int} {h : PHeap} (hm : l.length < 9223372036854775808) (hf : ∀ x, callVP Γ0 f [.int .i64 x] h = some (.bool (p x), h)) : Γ0 121 [ints l, f] h = some (.int .i64 (firstI p l), h) := by
  refine gbody (F := A121) (by kernel_rfl) (l.length + 1) ?_
  rw [s121_eq]
  unfold s121
  simp only [len_ints, bS, ↓KLn]
  obtain ⟨k, h1, h2, h3⟩ := first_at p l
  refine loop_pure (fun i => [.int .i64 (i : Int)]) k (by omega) rfl (fun i hi K => ?_) fun K => ?_
  · obtain ⟨c, hc⟩ := lt_l (show i < l.length by omega)
    have hp := h2 i c hi hc
    unfold s121_L0
    simp only [nth_zero, bin_lss, ltT (show i < l.length by omega), decide_true, bS, ↓KLn, ifbN, if_true, idx_ints _ hc, load_iV, hf, hp, Bool.false_eq_true, if_false, bin_add, succ63 (show i < 9223372036854775807 by omega), trim_self]
  · rcases h3 with ⟨rfl, h4, h5⟩ | ⟨c, h3, h4, h5, h6⟩
    · unfold s121_L0
      simp only [nth_zero, bin_lss, ltF, decide_false, bS, ↓KLn, ifbN, Bool.false_eq_true, if_false, h4, fin_int0]
    · have hk : k < l.length := by
        obtain ⟨hh, _⟩ := List.getElem?_eq_some_iff.1 h3
        exact hh
      unfold s121_L0
      simp only [nth_zero, bin_lss, ltT hk, decide_true, bS, ↓KLn, ifbN, if_true, idx_ints _ h3, load_iV, hf, h4, h5, fin_int0]
def smpsPV (l : List Smp) : PV := .frz 13 (l.map Smp.cs)
theorem len_smps (l : List Smp) : lenP false (smpsPV l) = some (.int .i64 l.length) := len_map
theorem idx_smps {l : List Smp} {i : Nat} {c : Smp} (k : IntKind) (h : l[i]? = some c) : indexAddrP 13 (smpsPV l) (.int k i) = some (.fptr c.cs 0) := idx_map k h
theorem load_smp (c : Smp) (h : PHeap) : loadP true 13 (.fptr c.cs 0) h = some (.agg c.cs) := by rw [load_fptr]; exact part_all rfl
theorem c124 {f : PV} {p : Smp → Bool} {l : List Smp} {h : PHeap} (hm : l.length < 9223372036854775808) (hf : ∀ c ∈ l, callVP Γ0 f [.agg c.cs] h = some (.bool (p c), h)) : Γ0 124 [smpsPV l, f] h = some (.int .i64 (firstI p l), h) := by
  refine gbody (F := A124) (by kernel_rfl) (l.length + 1) ?_
  rw [s124_eq]
  unfold s124
  simp only [len_smps, bS, ↓KLn]
  obtain ⟨k, h1, h2, h3⟩ := first_at p l
  refine loop_pure (fun i => [.int .i64 (i : Int)]) k (by omega) rfl (fun i hi K => ?_) fun K => ?_
  · obtain ⟨c, hc⟩ := lt_l (show i < l.length by omega)
    have hp := h2 i c hi hc
    unfold s124_L0
    simp only [nth_zero, bin_lss, ltT (show i < l.length by omega), decide_true, bS, ↓KLn, ifbN, if_true, idx_smps _ hc, load_smp, hf c (List.mem_of_getElem? hc), hp, Bool.false_eq_true, if_false, bin_add, succ63 (show i < 9223372036854775807 by omega), trim_self]
  · rcases h3 with ⟨rfl, h4, h5⟩ | ⟨c, h3, h4, h5, h6⟩
    · unfold s124_L0
      simp only [nth_zero, bin_lss, ltF, decide_false, bS, ↓KLn, ifbN, Bool.false_eq_true, if_false, h4, fin_int0]
    · have hk : k < l.length := by
        obtain ⟨hh, _⟩ := List.getElem?_eq_some_iff.1 h3
        exact hh
      unfold s124_L0
      simp only [nth_zero, bin_lss, ltT hk, decide_true, bS, ↓KLn, ifbN, if_true, idx_smps _ h3, load_smp, hf c (List.mem_of_getElem? h3), h4, h5, fin_int0]
end Go.Vm.X


set_option linter.unusedSimpArgs false
set_option linter.unusedVariables false
namespace Go.Vm.X
open Go.Am Go.Vm
attribute [local congr] bind_c ifP_c loop_c K1_c ite_c
def rightV (is : Bool) (a b n : Int) : Bool := if is = true then decide (0 ≤ a) && decide (a ≤ b) && decide (b < n) else a == 0 && b == 0
theorem c170 (is : Bool) (a b n : Int) (h : PHeap) : Γ0 170 [.bool is, .int .i64 a, .int .i64 b, .int .i64 n] h = some (.bool (rightV is a b n), h) := by
  refine gbody (F := A170) (by kernel_rfl) 1 ?_
  rw [s170_eq]
  unfold s170 rightV
  cases is with
  | true => simp only [unN, Bool.not_true, bS, ↓KLn, ifbN, Bool.false_eq_true, if_false, if_true, bin_leq, bin_lss, K1_and, fin_bool0]
  | false => simp only [unN, Bool.not_false, bS, ↓KLn, ifbN, Bool.false_eq_true, if_false, if_true, bin_eql, K1_and, fin_bool0]
theorem c172 (is : Bool) (a b n : Int) {h : PHeap} {k : Nat} {v : PV} (hl : loadP false 1 (.ptr k 1) h = some v) (hn : lenP false v = some (.int .i64 n)) : Γ0 172 [.bool is, .int .i64 a, .int .i64 b, .ptr k 0] h = some (.bool (rightV is a b n), h) := by
  refine gbody (F := A172) (by kernel_rfl) 1 ?_
  rw [s172_eq]
  unfold s172 rightV
  cases is with
  | true => simp only [unN, Bool.not_true, bS, ↓KLn, ifbN, Bool.false_eq_true, if_false, if_true, bin_geq, bin_leq, bin_lss, field_new, hl, hn, K1_and, fin_bool0, ge_iff_le]
  | false => simp only [unN, Bool.not_false, bS, ↓KLn, ifbN, Bool.false_eq_true, if_false, if_true, bin_eql, K1_and, fin_bool0]
end Go.Vm.X


set_option linter.unusedSimpArgs false
set_option linter.unusedVariables false
namespace Go.Vm.X
open Go.Am Go.Vm
attribute [local congr] bind_c ifP_c loop_c K1_c ite_c
def keyC (k : Int × Int) : List PV := [.int .i64 k.1, .int .i64 k.2]
def keysPV (l : List (Int × Int)) : PV := .frz 2 (l.map keyC)
theorem len_keys (l : List (Int × Int)) : lenP false (keysPV l) = some (.int .i64 l.length) := len_map
theorem idx_keys {l : List (Int × Int)} {i : Nat} {c : Int × Int} (k : IntKind) (h : l[i]? = some c) : indexAddrP 2 (keysPV l) (.int k i) = some (.fptr (keyC c) 0) := idx_map k h
theorem load_key (c : Int × Int) (h : PHeap) : loadP true 2 (.fptr (keyC c) 0) h = some (.agg (keyC c)) := by rw [load_fptr]; exact part_all rfl
theorem c158 (k : Int × Int) (h : PHeap) : Γ0 158 [.agg (keyC k)] h = some (.bool (!inW k.1 0 119 || !inW k.2 0 31), h) := by
  refine gbody (F := A158) (by kernel_rfl) 1 ?_
  rw [s158_eq]
  unfold s158
  have l0 : loadP false 1 (.ptr h.length 0) (h ++ [.box (keyC k) 89 .rw]) = some (.int .i64 k.1) := load_new rfl
  have l1 : loadP false 1 (.ptr h.length 1) (h ++ [.box (keyC k) 89 .rw]) = some (.int .i64 k.2) := load_new rfl
  simp only [forkN, cellsN, field_new, l0, l1, c146, unN, bS, K1_or, fin_bool]
theorem c160 {f : PV} {p : Int × Int → Bool} {l : List (Int × Int)} {h : PHeap} (hm : l.length < 9223372036854775808) (hf : ∀ c, callVP Γ0 f [.agg (keyC c)] h = some (.bool (p c), h)) : Γ0 160 [keysPV l, f] h = some (.int .i64 (firstI p l), h) := by
  refine gbody (F := A160) (by kernel_rfl) (l.length + 1) ?_
  rw [s160_eq]
  unfold s160
  simp only [len_keys, bS, ↓KLn]
  obtain ⟨k, h1, h2, h3⟩ := first_at p l
  refine loop_pure (fun i => [.int .i64 (i : Int)]) k (by omega) rfl (fun i hi K => ?_) fun K => ?_
  · obtain ⟨c, hc⟩ := lt_l (show i < l.length by omega)
    have hp := h2 i c hi hc
    unfold s160_L0
    simp only [nth_zero, bin_lss, ltT (show i < l.length by omega), decide_true, bS, ↓KLn, ifbN, if_true, idx_keys _ hc, load_key, hf, hp, Bool.false_eq_true, if_false, bin_add, succ63 (show i < 9223372036854775807 by omega), trim_self]
  · rcases h3 with ⟨rfl, h4, h5⟩ | ⟨c, h3, h4, h5, h6⟩
    · unfold s160_L0
      simp only [nth_zero, bin_lss, ltF, decide_false, bS, ↓KLn, ifbN, Bool.false_eq_true, if_false, h4, fin_int0]
    · have hk : k < l.length := by
        obtain ⟨hh, _⟩ := List.getElem?_eq_some_iff.1 h3
        exact hh
      unfold s160_L0
      simp only [nth_zero, bin_lss, ltT hk, decide_true, bS, ↓KLn, ifbN, if_true, idx_keys _ h3, load_key, hf, h4, h5, fin_int0]
theorem c128 {f : PV} {p : Int × Int → Bool} {l : List (Int × Int)} {h : PHeap} (hm : l.length < 9223372036854775808) (hf : ∀ c, callVP Γ0 f [.agg (keyC c)] h = some (.bool (p c), h)) : Γ0 128 [keysPV l, f] h = some (.bool (l.any p), h) := by
  refine gbody (F := A128) (by kernel_rfl) 1 ?_
  rw [s128_eq]
  unfold s128
  simp only [c160 hm hf, bS, bin_geq, first_any, fin_bool0]
end Go.Vm.X


set_option linter.unusedSimpArgs false
set_option linter.unusedVariables false
namespace Go.Vm.X
open Go.Am Go.Vm
attribute [local congr] bind_c ifP_c loop_c K1_c ite_c
theorem pred63 {i : Nat} (h : i < 9223372036854775807) : IntKind.i64.wrap (((i + 1 : Nat) : Int) - 1) = (i : Int) := by rw [wrap64 (by unfold isI64; omega)]; omega
def ptC (p : Int × Int) : List PV := [.int .i64 p.1, .int .i64 p.2]
def ptsPV (l : List (Int × Int)) : PV := .frz 2 (l.map ptC)
theorem len_pts (l : List (Int × Int)) : lenP false (ptsPV l) = some (.int .i64 l.length) := len_map
theorem idx_pts {l : List (Int × Int)} {i : Nat} {c : Int × Int} (k : IntKind) (h : l[i]? = some c) : indexAddrP 2 (ptsPV l) (.int k i) = some (.fptr (ptC c) 0) := idx_map k h
theorem load_pt (c : Int × Int) (h : PHeap) : loadP true 2 (.fptr (ptC c) 0) h = some (.agg (ptC c)) := by rw [load_fptr]; exact part_all rfl
theorem field_new2 (k : Nat) (row : List PV) : fieldAddrP k (.fptr row 0) = some (.fptr row k) := by rw [field_fptr, Nat.zero_add]
theorem load_pt0 (c : Int × Int) (h : PHeap) : loadP false 1 (.fptr (ptC c) 0) h = some (.int .i64 c.1) := rfl
structure Env where
  on : Bool
  pts : List (Int × Int)
  sus : Bool
  (ss se : Int)
  lp : Bool
  (ls le : Int)
def Env.cs (e : Env) : List PV := [.bool e.on, ptsPV e.pts, .bool e.sus, .int .i64 e.ss, .int .i64 e.se, .bool e.lp, .int .i64 e.ls, .int .i64 e.le]
def ptBad (l : List (Int × Int)) (lo hi : Int) (i : Nat) : Bool :=
  (((match i with | 0 => (l.getD 0 (0, 0)).1 != 0 | j + 1 => decide ((l.getD (j + 1) (0, 0)).1 ≤ (l.getD j (0, 0)).1)) || decide ((l.getD i (0, 0)).1 > 9999)) || decide ((l.getD i (0, 0)).2 < lo)) || decide ((l.getD i (0, 0)).2 > hi)
def ptsOK (l : List (Int × Int)) (lo hi : Int) : Bool := (List.range l.length).all fun i => !ptBad l lo hi i
theorem ptsOK_not {l : List (Int × Int)} {lo hi : Int} {i : Nat} (h1 : i < l.length) (h2 : ptBad l lo hi i = true) : ptsOK l lo hi = false := by
  unfold ptsOK
  rw [Bool.eq_false_iff]
  intro h
  have := List.all_eq_true.1 h i (List.mem_range.2 h1)
  rw [h2] at this
  cases this
theorem ptsOK_is {l : List (Int × Int)} {lo hi : Int} (h : ∀ j, j < l.length → ptBad l lo hi j = false) : ptsOK l lo hi = true := by
  unfold ptsOK
  exact List.all_eq_true.2 fun i hi => by rw [h i (List.mem_range.1 hi)]; rfl
def envOK (e : Env) (lo hi : Int) : Bool := !(decide ((e.pts.length : Int) > 16) || (e.on && ((e.pts.length : Int) == 0))) && (ptsOK e.pts lo hi && (rightV e.sus e.ss e.se e.pts.length && rightV e.lp e.ls e.le e.pts.length))
section
variable {h : PHeap} {e : Env} {t : TypeId}
theorem el0 : loadP false 1 (.ptr h.length 0) (h ++ [.box e.cs t .rw]) = some (.bool e.on) := load_new rfl
theorem el1 : loadP false 1 (.ptr h.length 1) (h ++ [.box e.cs t .rw]) = some (ptsPV e.pts) := load_new rfl
theorem el2 : loadP false 1 (.ptr h.length 2) (h ++ [.box e.cs t .rw]) = some (.bool e.sus) := load_new rfl
theorem el3 : loadP false 1 (.ptr h.length 3) (h ++ [.box e.cs t .rw]) = some (.int .i64 e.ss) := load_new rfl
theorem el4 : loadP false 1 (.ptr h.length 4) (h ++ [.box e.cs t .rw]) = some (.int .i64 e.se) := load_new rfl
theorem el5 : loadP false 1 (.ptr h.length 5) (h ++ [.box e.cs t .rw]) = some (.bool e.lp) := load_new rfl
theorem el6 : loadP false 1 (.ptr h.length 6) (h ++ [.box e.cs t .rw]) = some (.int .i64 e.ls) := load_new rfl
theorem el7 : loadP false 1 (.ptr h.length 7) (h ++ [.box e.cs t .rw]) = some (.int .i64 e.le) := load_new rfl
theorem el1' {l : PHeap} : loadP false 1 (.ptr h.length 1) ((h ++ [.box e.cs t .rw]) ++ l) = some (ptsPV e.pts) := load_new2 rfl
end
theorem box_pt (h : PHeap) (c : Int × Int) : storeP 2 (.ptr h.length 0) (.agg (ptC c)) (h ++ [.box [.int .i64 0, .int .i64 0] 120 .rw]) = some (h ++ [.box (ptC c) 120 .rw]) := box_set rfl rfl (by decide) rfl
theorem pl0 {h : PHeap} {c : Int × Int} {t : TypeId} : loadP false 1 (.ptr h.length 0) (h ++ [.box (ptC c) t .rw]) = some (.int .i64 c.1) := load_new rfl
theorem pl1 {h : PHeap} {c : Int × Int} {t : TypeId} : loadP false 1 (.ptr h.length 1) (h ++ [.box (ptC c) t .rw]) = some (.int .i64 c.2) := load_new rfl
theorem getD_of {α : Type} {l : List α} {i : Nat} {d a : α} (h : l[i]? = some a) : l.getD i d = a := by rw [List.getD_eq_getElem?_getD, h]; rfl
theorem s159_round {e : Env} {lo hi : Int} {h : PHeap} {n : Nat} {j15 : List PV → PHeap → Pt} (hm : e.pts.length < 9223372036854775808) {i : Nat} (hi' : i < e.pts.length) (K : List PV → PHeap → Pt) :
    s159_L0 Γ0 n (.int .i64 lo) (.int .i64 hi) h (.ptr h.length 0) (h ++ [.box e.cs 55 .rw]) (ptsPV e.pts) (.int .i64 e.pts.length) j15 K [.int .i64 i] (h ++ [.box e.cs 55 .rw]) = if ptBad e.pts lo hi i = true then some (.bool false, h) else K [.int .i64 ((i + 1 : Nat) : Int)] (h ++ [.box e.cs 55 .rw]) := by
  obtain ⟨p, hp⟩ := lt_l' hi'
  unfold s159_L0 ptBad
  cases i with
  | zero =>
    have e0 : (((0 : Nat) : Int) == 0) = true := rfl
    have g0 : decide (((0 : Nat) : Int) > 0) = false := rfl
    simp only [nth_zero, bin_lss, ltT hi', decide_true, bS, ↓KLn, ifbN, if_true, idx_pts _ hp, load_pt, forkN, box_pt, bin_eql, e0, scTT, K1oneN, field_new, pl0, pl1, bin_neq, bin_gtr, g0, scFT, K1_or, bin_lss, getD_of hp, fin_bool2, bin_add, succ63 (show 0 < 9223372036854775807 by omega), trim_i1, Bool.true_and, Bool.or_false]
  | succ j =>
    have e0 : (((j + 1 : Nat) : Int) == 0) = false := by rw [beq_eq_false_iff_ne]; omega
    have g0 : decide (((j + 1 : Nat) : Int) > 0) = true := decide_eq_true (by omega)
    obtain ⟨q, hq⟩ := lt_l' (show j < e.pts.length by omega)
    simp only [nth_zero, bin_lss, ltT hi', decide_true, bS, ↓KLn, ifbN, if_true, idx_pts _ hp, load_pt, forkN, box_pt, bin_eql, e0, scFT, K1oneN, scFF, field_new, field_new2, pl0, pl1, bin_neq, bin_gtr, g0, scTT, el1', bin_sub, pred63 (show j < 9223372036854775807 by omega), idx_pts _ hq, load_pt0, bin_leq, K1_or, bin_lss, getD_of hp, getD_of hq, fin_bool2, bin_add, succ63 (show j + 1 < 9223372036854775807 by omega), trim_i1, Bool.false_and]
theorem c159 (e : Env) (hm : e.pts.length < 9223372036854775808) (lo hi : Int) (h : PHeap) : Γ0 159 [.agg e.cs, .int .i64 lo, .int .i64 hi] h = some (.bool (envOK e lo hi), h) := by
  obtain ⟨N, hN⟩ : ∃ N : Nat, e.pts.length < N := ⟨_, Nat.lt_succ_self _⟩
  refine gbody (F := A159) (by kernel_rfl) N ?_
  rw [s159_eq]
  unfold s159 envOK
  simp only [forkN, cellsN, field_new, el0, el1, len_pts, bS, bin_gtr, bin_eql, K1_and, K1oneN, K1_or, ↓KLn, ifbN]
  cases hc : (decide ((e.pts.length : Int) > 16) || (e.on && ((e.pts.length : Int) == 0))) with
  | true => simp only [if_true, Bool.not_true, Bool.false_and, fin_bool]
  | false =>
    simp only [Bool.false_eq_true, if_false, Bool.not_false, Bool.true_and]
    refine loop_until (ptBad e.pts lo hi) (fun i => [.int .i64 (i : Int)]) (fun _ => h ++ [.box e.cs 55 .rw]) e.pts.length hN rfl rfl (fun i hi' hb K => ?_) (fun i hi' hb hj K => ?_) (fun hj K => ?_)
    · rw [s159_round hm hi' K, hb]; rfl
    · rw [s159_round hm hi' K, hb, ptsOK_not hi' hb]; rfl
    · have k75 : ∀ (b : Bool) (x y : Int), callVP Γ0 (.func 172 [] [.ptr h.length 0]) [.bool b, .int .i64 x, .int .i64 y] (h ++ [.box e.cs 55 .rw]) = some (.bool (rightV b x y e.pts.length), h ++ [.box e.cs 55 .rw]) := fun b x y => by
        rw [callV_func Γ0 172]
        exact c172 b x y e.pts.length el1 (len_pts _)
      unfold s159_L0
      simp only [nth_zero, bin_lss, ltF, decide_false, bS, ↓KLn, ifbN, Bool.false_eq_true, if_false, field_new, el2, el3, el4, el5, el6, el7, k75, K1_and, ptsOK_is hj, Bool.true_and, fin_bool]
theorem s145_round {e : Env} {lo hi : Int} {h : PHeap} {n : Nat} {j12 : List PV → PHeap → Pt} (hm : e.pts.length < 9223372036854775808) {i : Nat} (hi' : i < e.pts.length) (K : List PV → PHeap → Pt) :
    s145_L0 Γ0 n (.int .i64 lo) (.int .i64 hi) h (.ptr h.length 0) (.int .i64 e.pts.length) (h ++ [.box e.cs 55 .rw]) j12 K [.int .i64 i] (h ++ [.box e.cs 55 .rw]) = if ptBad e.pts lo hi i = true then some (.bool false, h) else K [.int .i64 ((i + 1 : Nat) : Int)] (h ++ [.box e.cs 55 .rw]) := by
  obtain ⟨p, hp⟩ := lt_l' hi'
  unfold s145_L0 ptBad
  cases i with
  | zero =>
    have e0 : (((0 : Nat) : Int) == 0) = true := rfl
    have g0 : decide (((0 : Nat) : Int) > 0) = false := rfl
    simp only [nth_zero, bin_lss, ltT hi', decide_true, bS, ↓KLn, ifbN, if_true, field_new, el1, idx_pts _ hp, load_pt, forkN, box_pt, bin_eql, e0, scTT, K1oneN, field_new, pl0, pl1, bin_neq, bin_gtr, g0, scFT, K1_or, bin_lss, getD_of hp, fin_bool2, bin_add, succ63 (show 0 < 9223372036854775807 by omega), trim_i1, Bool.true_and, Bool.or_false]
  | succ j =>
    have e0 : (((j + 1 : Nat) : Int) == 0) = false := by rw [beq_eq_false_iff_ne]; omega
    have g0 : decide (((j + 1 : Nat) : Int) > 0) = true := decide_eq_true (by omega)
    obtain ⟨q, hq⟩ := lt_l' (show j < e.pts.length by omega)
    simp only [nth_zero, bin_lss, ltT hi', decide_true, bS, ↓KLn, ifbN, if_true, field_new, el1, idx_pts _ hp, load_pt, forkN, box_pt, bin_eql, e0, scFT, K1oneN, scFF, field_new, field_new2, pl0, pl1, bin_neq, bin_gtr, g0, scTT, el1', bin_sub, pred63 (show j < 9223372036854775807 by omega), idx_pts _ hq, load_pt0, bin_leq, K1_or, bin_lss, getD_of hp, getD_of hq, fin_bool2, bin_add, succ63 (show j + 1 < 9223372036854775807 by omega), trim_i1, Bool.false_and]
theorem c145 (e : Env) (hm : e.pts.length < 9223372036854775808) (lo hi : Int) (h : PHeap) : Γ0 145 [.agg e.cs, .int .i64 lo, .int .i64 hi] h = some (.bool (envOK e lo hi), h) := by
  obtain ⟨N, hN⟩ : ∃ N : Nat, e.pts.length < N := ⟨_, Nat.lt_succ_self _⟩
  refine gbody (F := A145) (by kernel_rfl) N ?_
  rw [s145_eq]
  unfold s145 envOK
  simp only [forkN, cellsN, field_new, el0, el1, len_pts, bS, bin_gtr, bin_eql, K1_and, K1oneN, K1_or, ↓KLn, ifbN]
  cases hc : (decide ((e.pts.length : Int) > 16) || (e.on && ((e.pts.length : Int) == 0))) with
  | true => simp only [if_true, Bool.not_true, Bool.false_and, fin_bool]
  | false =>
    simp only [Bool.false_eq_true, if_false, Bool.not_false, Bool.true_and]
    refine loop_until (ptBad e.pts lo hi) (fun i => [.int .i64 (i : Int)]) (fun _ => h ++ [.box e.cs 55 .rw]) e.pts.length hN rfl rfl (fun i hi' hb K => ?_) (fun i hi' hb hj K => ?_) (fun hj K => ?_)
    · rw [s145_round hm hi' K, hb]; rfl
    · rw [s145_round hm hi' K, hb, ptsOK_not hi' hb]; rfl
    · unfold s145_L0
      simp only [nth_zero, bin_lss, ltF, decide_false, bS, ↓KLn, ifbN, Bool.false_eq_true, if_false, field_new, el2, el3, el4, el5, el6, el7, c170, K1_and, ptsOK_is hj, Bool.true_and, fin_bool]
end Go.Vm.X


set_option linter.unusedSimpArgs false
set_option linter.unusedVariables false
namespace Go.Vm.X
open Go.Am Go.Vm
attribute [local congr] bind_c ifP_c loop_c K1_c ite_c
structure Ins where
  name : ByteArray
  keys : List (Int × Int)
  (vol pan pit : Env)
  (fade nn dup dd gl cut res : Int)
def Ins.cs (i : Ins) : List PV := [.str i.name, keysPV i.keys] ++ (i.vol.cs ++ (i.pan.cs ++ (i.pit.cs ++ [.int .i64 i.fade, .int .i64 i.nn, .int .i64 i.dup, .int .i64 i.dd, .int .i64 i.gl, .int .i64 i.cut, .int .i64 i.res])))
def keyBad (k : Int × Int) : Bool := !inW k.1 0 119 || !inW k.2 0 31
def insR (i : Ins) : Bool := inW i.fade 0 1024 && (inW i.nn 0 3 && (inW i.dup 0 3 && (inW i.dd 0 2 && (inW i.gl 0 64 && (inW i.cut (-1) 127 && inW i.res (-1) 127)))))
def insOK (i : Ins) : Bool := !i.keys.any keyBad && (nameOK i.name && (((i.keys.length : Int) == 0 || (i.keys.length : Int) == 120) && (envOK i.vol 0 64 && (envOK i.pan (-32) 32 && (envOK i.pit (-32) 32 && insR i)))))
section
variable {h : PHeap} {i : Ins} {t : TypeId}
theorem il0 : loadP false 1 (.ptr h.length 0) (h ++ [.box i.cs t .rw]) = some (.str i.name) := load_new rfl
theorem il1 : loadP false 1 (.ptr h.length 1) (h ++ [.box i.cs t .rw]) = some (keysPV i.keys) := load_new rfl
theorem il2 : loadP true 8 (.ptr h.length 2) (h ++ [.box i.cs t .rw]) = some (.agg i.vol.cs) := load_newA (Nat.le_of_ble_eq_true rfl) rfl
theorem il10 : loadP true 8 (.ptr h.length 10) (h ++ [.box i.cs t .rw]) = some (.agg i.pan.cs) := load_newA (Nat.le_of_ble_eq_true rfl) rfl
theorem il18 : loadP true 8 (.ptr h.length 18) (h ++ [.box i.cs t .rw]) = some (.agg i.pit.cs) := load_newA (Nat.le_of_ble_eq_true rfl) rfl
theorem il26 : loadP false 1 (.ptr h.length 26) (h ++ [.box i.cs t .rw]) = some (.int .i64 i.fade) := load_new rfl
theorem il27 : loadP false 1 (.ptr h.length 27) (h ++ [.box i.cs t .rw]) = some (.int .i64 i.nn) := load_new rfl
theorem il28 : loadP false 1 (.ptr h.length 28) (h ++ [.box i.cs t .rw]) = some (.int .i64 i.dup) := load_new rfl
theorem il29 : loadP false 1 (.ptr h.length 29) (h ++ [.box i.cs t .rw]) = some (.int .i64 i.dd) := load_new rfl
theorem il30 : loadP false 1 (.ptr h.length 30) (h ++ [.box i.cs t .rw]) = some (.int .i64 i.gl) := load_new rfl
theorem il31 : loadP false 1 (.ptr h.length 31) (h ++ [.box i.cs t .rw]) = some (.int .i64 i.cut) := load_new rfl
theorem il32 : loadP false 1 (.ptr h.length 32) (h ++ [.box i.cs t .rw]) = some (.int .i64 i.res) := load_new rfl
end
structure InsLen (i : Ins) : Prop where
  name : i.name.size < 9223372036854775808
  keys : i.keys.length < 9223372036854775808
  vol : i.vol.pts.length < 9223372036854775808
  pan : i.pan.pts.length < 9223372036854775808
  pit : i.pit.pts.length < 9223372036854775808
theorem c127 (i : Ins) (hl : InsLen i) (h : PHeap) : Γ0 127 [.agg i.cs] h = some (.bool (insOK i), h) := by
  refine gbody (F := A127) (by kernel_rfl) 1 ?_
  rw [s127_eq]
  unfold s127 insOK insR
  have k45 : ∀ hh, Γ0 128 [keysPV i.keys, .func 158 [] []] hh = some (.bool (i.keys.any keyBad), hh) := fun hh => c128 (by have := hl.keys; omega) fun c => by rw [callV_func Γ0 158]; exact c158 c _
  simp only [forkN, cellsN, field_new, il0, il1, il2, il10, il18, il26, il27, il28, il29, il30, il31, il32, len_keys, c157 hl.name, k45, c159 _ hl.vol, c159 _ hl.pan, c159 _ hl.pit, c146, unN, bS, bin_neq, K1_and, K1_or, K1oneN, ↓KLn, ifbN, fin_bool, Bool.and_assoc]
  have e1 : ((i.keys.length : Int) != 0) = !((i.keys.length : Int) == 0) := rfl
  have e2 : ((i.keys.length : Int) != 120) = !((i.keys.length : Int) == 120) := rfl
  rw [e1, e2]
  generalize nameOK i.name = N, ((i.keys.length : Int) == 0) = a, ((i.keys.length : Int) == 120) = b, i.keys.any keyBad = K, envOK i.vol 0 64 = v, envOK i.pan (-32) 32 = p, envOK i.pit (-32) 32 = q
  cases N <;> cases a <;> cases b <;> cases K <;> cases v <;> cases p <;> cases q <;> rfl
theorem box_key (h : PHeap) (c : Int × Int) : storeP 2 (.ptr h.length 0) (.agg (keyC c)) (h ++ [.box [.int .i64 0, .int .i64 0] 89 .rw]) = some (h ++ [.box (keyC c) 89 .rw]) := box_set rfl rfl (by decide) rfl
theorem kl0 {h : PHeap} {c : Int × Int} {t : TypeId} : loadP false 1 (.ptr h.length 0) (h ++ [.box (keyC c) t .rw]) = some (.int .i64 c.1) := load_new rfl
theorem kl1 {h : PHeap} {c : Int × Int} {t : TypeId} : loadP false 1 (.ptr h.length 1) (h ++ [.box (keyC c) t .rw]) = some (.int .i64 c.2) := load_new rfl
theorem keyBad_is (k : Int × Int) : (((decide (k.1 < 0) || decide (k.1 > 119)) || decide (k.2 < 0)) || decide (k.2 > 31)) = keyBad k := by
  unfold keyBad inW
  rw [Bool.eq_iff_iff]
  simp only [Bool.or_eq_true, Bool.not_eq_true', Bool.and_eq_false_iff, decide_eq_true_eq, decide_eq_false_iff_not]
  omega
theorem c110 (i : Ins) (hl : InsLen i) (h : PHeap) : Γ0 110 [.agg i.cs] h = some (.bool (insOK i), h) := by
  obtain ⟨N, hN⟩ : ∃ N : Nat, i.keys.length < N := ⟨_, Nat.lt_succ_self _⟩
  refine gbody (F := A110) (by kernel_rfl) N ?_
  rw [s110_eq]
  unfold s110 insOK insR
  simp only [forkN, cellsN, ↓KLn]
  have hkm := hl.keys
  refine loop_find i.keys keyBad (fun i => [.int .i64 (i : Int)]) hN rfl (fun j c hj hc hp K => ?_) (fun j c hj hc hp h1 h2 K => ?_) (fun h1 h2 K => ?_)
  · unfold s110_L0
    simp only [nth_zero, field_new, il1, len_keys, bin_lss, ltT hj, decide_true, bS, ↓KLn, ifbN, if_true, idx_keys _ hc, load_key, forkN, box_key, kl0, kl1, bin_gtr, K1_or, keyBad_is, hp, Bool.false_eq_true, if_false, bin_add, succ63 (show j < 9223372036854775807 by omega), trim_i1]
  · unfold s110_L0
    simp only [nth_zero, field_new, il1, len_keys, bin_lss, ltT hj, decide_true, bS, ↓KLn, ifbN, if_true, idx_keys _ hc, load_key, forkN, box_key, kl0, kl1, bin_gtr, K1_or, keyBad_is, hp, fin_bool2, h2, Bool.not_true, Bool.false_and]
  · unfold s110_L0
    simp only [nth_zero, field_new, il0, il1, il2, il10, il18, il26, il27, il28, il29, il30, il31, il32, len_keys, bin_lss, ltF, decide_false, bS, ↓KLn, ifbN, Bool.false_eq_true, if_false, c137 hl.name, c145 _ hl.vol, c145 _ hl.pan, c145 _ hl.pit, bin_eql, bin_leq, K1_and, K1_or, fin_bool, h2, inW, Bool.not_false, Bool.true_and, Bool.and_assoc]
end Go.Vm.X


set_option linter.unusedSimpArgs false
set_option linter.unusedVariables false
namespace Go.Vm.X
open Go.Am Go.Vm
attribute [local congr] bind_c ifP_c loop_c K1_c ite_c fork_c guard_c
abbrev Pat := Int × List Cell
def patC (p : Pat) : List PV := [.int .i64 p.1, cellsPV p.2]
def patsPV (l : List Pat) : PV := .frz 2 (l.map patC)
def inssPV (l : List Ins) : PV := .frz 33 (l.map Ins.cs)
structure Sng where
  name : ByteArray
  (dia ch : Int)
  ords : List Int
  (rest spd tem glb : Int)
  lin : Bool
  pans : List Int
  pats : List Pat
  smps : List Smp
  inss : List Ins
def Sng.cs (s : Sng) : List PV := [.str s.name, .int .i64 s.dia, .int .i64 s.ch, ints s.ords, .int .i64 s.rest, .int .i64 s.spd, .int .i64 s.tem, .int .i64 s.glb, .bool s.lin, ints s.pans, patsPV s.pats, smpsPV s.smps, inssPV s.inss]
def Sng.ck (s : Sng) : List PV := s.cs ++ qOf s.dia
theorem qOf_cases (P : List PV → Prop) (h0 : P qrow0) (h1 : P qrow1) (h2 : P qrow2) (h3 : P qrow3) (h4 : P qrow4) (h5 : P qrow5) (h6 : P qrow6) (d : Int) : P (qOf d) := by
  unfold qOf
  repeat' split
  all_goals assumption
def rI (r : List PV) (k : Nat) : Int := match r[k]? with | some (.int _ n) => n | _ => 0
def rB (r : List PV) (k : Nat) : Bool := match r[k]? with | some (.bool b) => b | _ => false
def qI (d : Int) (k : Nat) : Int := rI (qOf d) k
def qB (d : Int) (k : Nat) : Bool := rB (qOf d) k
theorem q_1 (d : Int) : (qOf d)[1]? = some (.int .i64 (qI d 1)) := qOf_cases (fun r => r[1]? = some (.int .i64 (rI r 1))) rfl rfl rfl rfl rfl rfl rfl d
theorem q_2 (d : Int) : (qOf d)[2]? = some (.int .i64 (qI d 2)) := qOf_cases (fun r => r[2]? = some (.int .i64 (rI r 2))) rfl rfl rfl rfl rfl rfl rfl d
theorem q_3 (d : Int) : (qOf d)[3]? = some (.int .i64 (qI d 3)) := qOf_cases (fun r => r[3]? = some (.int .i64 (rI r 3))) rfl rfl rfl rfl rfl rfl rfl d
theorem q_6 (d : Int) : (qOf d)[6]? = some (.bool (qB d 6)) := qOf_cases (fun r => r[6]? = some (.bool (rB r 6))) rfl rfl rfl rfl rfl rfl rfl d
theorem q_8 (d : Int) : (qOf d)[8]? = some (.bool (qB d 8)) := qOf_cases (fun r => r[8]? = some (.bool (rB r 8))) rfl rfl rfl rfl rfl rfl rfl d
theorem q_known (d : Int) : (qI d 1 == 0) = !inW d 1 6 := by
  unfold qI qOf inW
  by_cases h1 : d = 1
  · subst h1; decide
  · by_cases h2 : d = 2
    · subst h2; decide
    · by_cases h3 : d = 3
      · subst h3; decide
      · by_cases h4 : d = 4
        · subst h4; decide
        · by_cases h5 : d = 5
          · subst h5; decide
          · by_cases h6 : d = 6
            · subst h6; decide
            · rw [if_neg h1, if_neg h2, if_neg h3, if_neg h4, if_neg h5, if_neg h6]
              have : (decide (1 ≤ d) && decide (d ≤ 6)) = false := by
                rw [Bool.and_eq_false_iff, decide_eq_false_iff_not, decide_eq_false_iff_not]; omega
              rw [this]; rfl
section
variable (s : Sng)
theorem sc0 : s.cs[0]? = some (.str s.name) := nr rfl
theorem sc1 : s.cs[1]? = some (.int .i64 s.dia) := nr rfl
theorem sc2 : s.cs[2]? = some (.int .i64 s.ch) := nr rfl
theorem sc3 : s.cs[3]? = some (ints s.ords) := nr rfl
theorem sc4 : s.cs[4]? = some (.int .i64 s.rest) := nr rfl
theorem sc5 : s.cs[5]? = some (.int .i64 s.spd) := nr rfl
theorem sc6 : s.cs[6]? = some (.int .i64 s.tem) := nr rfl
theorem sc7 : s.cs[7]? = some (.int .i64 s.glb) := nr rfl
theorem sc8 : s.cs[8]? = some (.bool s.lin) := nr rfl
theorem sc9 : s.cs[9]? = some (ints s.pans) := nr rfl
theorem sc10 : s.cs[10]? = some (patsPV s.pats) := nr rfl
theorem sc11 : s.cs[11]? = some (smpsPV s.smps) := nr rfl
theorem sc12 : s.cs[12]? = some (inssPV s.inss) := nr rfl
theorem sk0 : s.ck[0]? = some (.str s.name) := nr rfl
theorem sk1 : s.ck[1]? = some (.int .i64 s.dia) := nr rfl
theorem sk2 : s.ck[2]? = some (.int .i64 s.ch) := nr rfl
theorem sk3 : s.ck[3]? = some (ints s.ords) := nr rfl
theorem sk4 : s.ck[4]? = some (.int .i64 s.rest) := nr rfl
theorem sk5 : s.ck[5]? = some (.int .i64 s.spd) := nr rfl
theorem sk6 : s.ck[6]? = some (.int .i64 s.tem) := nr rfl
theorem sk7 : s.ck[7]? = some (.int .i64 s.glb) := nr rfl
theorem sk8 : s.ck[8]? = some (.bool s.lin) := nr rfl
theorem sk9 : s.ck[9]? = some (ints s.pans) := nr rfl
theorem sk10 : s.ck[10]? = some (patsPV s.pats) := nr rfl
theorem sk11 : s.ck[11]? = some (smpsPV s.smps) := nr rfl
theorem sk12 : s.ck[12]? = some (inssPV s.inss) := nr rfl
theorem sk14 : s.ck[14]? = some (.int .i64 (qI s.dia 1)) := q_1 s.dia
theorem sk15 : s.ck[15]? = some (.int .i64 (qI s.dia 2)) := q_2 s.dia
theorem sk16 : s.ck[16]? = some (.int .i64 (qI s.dia 3)) := q_3 s.dia
theorem sk19 : s.ck[19]? = some (.bool (qB s.dia 6)) := q_6 s.dia
theorem sk21 : s.ck[21]? = some (.bool (qB s.dia 8)) := q_8 s.dia
theorem s_whole : partP true 0 13 s.cs = some (.agg s.cs) := part_all rfl
theorem ck_len : s.ck.length = 42 := by unfold Sng.ck; rw [List.length_append, qOf_len]; rfl
theorem ck_whole : partP true 0 42 s.ck = some (.agg s.ck) := part_all (ck_len s)
end
theorem q_fz {ss : List FS} (d : Int) (h : ss = List.replicate 29 .keep) : fzOKL ss (qOf d) = true := by
  subst h
  unfold qOf
  repeat' split
  all_goals rfl
theorem fzOKL_app : ∀ {s1 s2 : List FS} {v1 v2 : List PV}, fzOKL s1 v1 = true → fzOKL s2 v2 = true → fzOKL (s1 ++ s2) (v1 ++ v2) = true
  | [], _, [], _, _, h2 => h2
  | s :: s1, s2, v :: v1, v2, h1, h2 => by
    unfold fzOKL at h1
    rw [Bool.and_eq_true] at h1
    show (fzOK s v && fzOKL (s1 ++ s2) (v1 ++ v2)) = true
    rw [h1.1, fzOKL_app h1.2 h2]; rfl
theorem ck_fz (s : Sng) : fzOKL SA42 s.ck = true :=
  fzOKL_app (s1 := [.keep, .keep, .keep, .flat 1, .keep, .keep, .keep, .keep, .keep, .flat 1, (.sl 2 [.keep, (.flat 6)]), (.sl 13 [.keep, (.flat 1), .keep, .keep, .keep, .keep, .keep, .keep, .keep, .keep, .keep, .keep, .keep]), (.sl 33 [.keep, (.flat 2), .keep, (.flat 2), .keep, .keep, .keep, .keep, .keep, .keep, .keep, (.flat 2), .keep, .keep, .keep, .keep, .keep, .keep, .keep, (.flat 2), .keep, .keep, .keep, .keep, .keep, .keep, .keep, .keep, .keep, .keep, .keep, .keep, .keep])]) (v1 := s.cs) rfl (q_fz s.dia rfl)
def mark (o : Int) : Bool := o == 254 || o == 255
theorem c87 (o : Int) (h : PHeap) : Γ0 87 [.int .i64 o] h = some (.bool (mark o), h) := by
  refine gbody (F := A87) (by kernel_rfl) 1 ?_
  rw [s87_eq]; unfold s87 mark
  simp only [bin_eql, bS, K1_or, fin_bool0]
theorem c49 (o : Int) (h : PHeap) : Γ0 49 [.int .i64 o] h = some (.bool (mark o), h) := by
  refine gbody (F := A49) (by kernel_rfl) 1 ?_
  rw [s49_eq]; unfold s49 mark
  simp only [bin_eql, bS, K1_or, fin_bool0]
theorem c123 (o : Int) (h : PHeap) : Γ0 123 [.int .i64 o] h = some (.bool (!inW o 0 256), h) := by
  refine gbody (F := A123) (by kernel_rfl) 1 ?_
  rw [s123_eq]; unfold s123
  simp only [c54, notW, bS, fin_bool0]
theorem c125 (s : Smp) (hn : s.name.size < 9223372036854775808) (hm : s.data.length < 9223372036854775808) (h : PHeap) : Γ0 125 [.agg s.cs] h = some (.bool (!smpOK s), h) := by
  refine gbody (F := A125) (by kernel_rfl) 1 ?_
  rw [s125_eq]; unfold s125
  have hw : partP true 0 13 s.cs = some (.agg s.cs) := part_all rfl
  simp only [cellsW, forkW, loadN0, hw, c126 s hn hm, notW, bS, fin_bool]
def names (s : Sng) : Int := if qB s.dia 6 then s.inss.length else s.smps.length
theorem len_pats (l : List Pat) : lenP false (patsPV l) = some (.int .i64 l.length) := len_map
theorem idx_pats {l : List Pat} {i : Nat} {c : Pat} (k : IntKind) (h : l[i]? = some c) : indexAddrP 2 (patsPV l) (.int k i) = some (.fptr (patC c) 0) := idx_map k h
theorem len_inss (l : List Ins) : lenP false (inssPV l) = some (.int .i64 l.length) := len_map
theorem idx_inss {l : List Ins} {i : Nat} {c : Ins} (k : IntKind) (h : l[i]? = some c) : indexAddrP 33 (inssPV l) (.int k i) = some (.fptr c.cs 0) := idx_map k h
theorem c120 (s : Sng) (h : PHeap) : Γ0 120 [.agg s.ck] h = some (.int .i64 (names s), h) := by
  refine gbody (F := A120) (by kernel_rfl) 1 ?_
  rw [s120_eq]; unfold s120 names
  simp only [cellsW, forkW, fieldW, Nat.reduceAdd, Nat.zero_add, loadN0, partC, sk19, sk12, sk11, len_smps, len_inss, bS, ↓KLn, ifW, fin_int]
  cases qB s.dia 6 <;> rfl
theorem c52 (s : Sng) (h : PHeap) : Γ0 52 [.agg s.cs] h = some (.bool (qB s.dia 6), h) := by
  refine gbody (F := A52) (by kernel_rfl) 1 ?_
  rw [s52_eq]; unfold s52
  have hz : putAt Z29 0 (qOf s.dia) = some (qOf s.dia) := put_whole (by rw [qOf_len]; rfl) (qOf_one _)
  simp only [cellsW, forkW, fieldW, Nat.zero_add, loadN0, partC, sc1, c56, y20, y21, bS, List.append_assoc, List.cons_append, List.nil_append, len1, storeNk, storeCk, storeC0 (v := .agg (qOf s.dia)) (n := 29) (qOf_len _) (by decide), hz, mapS, loadNk, loadCk, loadC0, q_6, fin_bool]
theorem c112 (s : Sng) (h : PHeap) : Γ0 112 [.agg s.cs] h = some (.int .i64 (names s), h) := by
  refine gbody (F := A112) (by kernel_rfl) 1 ?_
  rw [s112_eq]; unfold s112 names
  simp only [cellsW, forkW, fieldW, Nat.zero_add, loadN0, partC, s_whole, c52, sc12, sc11, len_smps, len_inss, bS, ↓KLn, ifW, fin_int]
  cases qB s.dia 6 <;> rfl
theorem load_app {agg : Bool} {n b o : Nat} {h : PHeap} {v : PV} (hl : loadP agg n (.ptr b o) h = some v) (l : PHeap) : loadP agg n (.ptr b o) (h ++ l) = some v := by
  rw [load_box] at hl ⊢
  unfold boxAt at hl ⊢
  cases hb : h[b]? with
  | none => rw [hb] at hl; cases hl
  | some blk =>
    have hlt : b < h.length := by
      rcases Nat.lt_or_ge b h.length with h1 | h1
      · exact h1
      · rw [List.getElem?_eq_none h1] at hb; cases hb
    rw [List.getElem?_append_left hlt, hb]
    rw [hb] at hl
    exact hl
theorem cell_whole (c : Cell) : partP true 0 6 c.cs = some (.agg c.cs) := part_all rfl
theorem cc1 (c : Cell) : c.cs[1]? = some (.int .i64 c.inst) := nr rfl
theorem c117 (c : Cell) {d : Int} {b : Nat} {h : PHeap} (hl : loadP false 1 (.ptr b 1) h = some (.int .i64 d)) : Γ0 117 [.agg c.cs, .ptr b 0] h = some (.bool (!cellIn d c), h) := by
  refine gbody (F := A117) (by kernel_rfl) 1 ?_
  rw [s117_eq]; unfold s117
  simp only [cellsW, forkW, fieldW, Nat.zero_add, load_app hl, loadN0, cell_whole, c118, notW, bS, fin_bool]
theorem c119 (c : Cell) {s : Sng} {b : Nat} {h : PHeap} (hl : loadP true 42 (.ptr b 0) h = some (.agg s.ck)) : Γ0 119 [.agg c.cs, .ptr b 0] h = some (.bool (decide (c.inst > names s)), h) := by
  refine gbody (F := A119) (by kernel_rfl) 1 ?_
  rw [s119_eq]; unfold s119
  simp only [cellsW, forkW, fieldW, Nat.zero_add, load_app hl, loadN0, partC, cc1, fz_aggI _ (ck_fz s), c120, unl_self, bin_gtr, bS, fin_bool]
theorem c122 (o : Int) {l : List Pat} {b : Nat} {h : PHeap} (hl : loadP false 1 (.ptr b 10) h = some (patsPV l)) : Γ0 122 [.int .i64 o, .ptr b 0] h = some (.bool (!mark o && !inW o 0 (IntKind.i64.wrap ((l.length : Int) - 1))), h) := by
  refine gbody (F := A122) (by kernel_rfl) 1 ?_
  rw [s122_eq]; unfold s122
  simp only [c87, notW, bS, fieldW, Nat.zero_add, hl, len_pats, bin_sub, c54, K1_and, fin_bool0]
theorem c129 (k : Int × Int) {l : List Smp} {b : Nat} {h : PHeap} (hl : loadP false 1 (.ptr b 11) h = some (smpsPV l)) : Γ0 129 [.agg (keyC k), .ptr b 0] h = some (.bool (decide (k.2 > (l.length : Int))), h) := by
  refine gbody (F := A129) (by kernel_rfl) 1 ?_
  rw [s129_eq]; unfold s129
  have k1 : (keyC k)[1]? = some (.int .i64 k.2) := rfl
  simp only [cellsW, forkW, fieldW, Nat.zero_add, load_app hl, loadN0, partC, k1, len_smps, bin_gtr, bS, fin_bool]
end Go.Vm.X


set_option linter.unusedSimpArgs false
set_option linter.unusedVariables false
namespace Go.Vm.X
open Go.Am Go.Vm
attribute [local congr] bind_c ifP_c loop_c K1_c ite_c fork_c guard_c
abbrev Flt := ByteArray × Int × Int
def fltC (f : Flt) : List PV := [.str f.1, .int .i64 f.2.1, .int .i64 f.2.2]
def noF : Flt := (⟨#[]⟩, 0, 0)
def isF (f : Flt) : Bool := f.2.2 != 0
theorem fill3 (x y z : PV) (a : ByteArray) (k k' : IntKind) (m n : Int) : fillP [x, y, z] [(0, 1, .str a), (1, 1, .int k m), (2, 1, .int k' n)] = some [.str a, .int k m, .int k' n] := nr rfl
theorem st3 (o : Nat) (a b c : PV) (vs : List PV) (t : TypeId) (l : PHeap) : storeP 3 (.ptr 0 o) (.agg [a, b, c]) (.box vs t .rw :: l) = (putAt vs o [a, b, c]).map fun vs' => .box vs' t .rw :: l := storeC0 rfl (by decide)
theorem put3 (x y z : PV) (a : ByteArray) (k k' : IntKind) (m n : Int) : putAt [x, y, z] 0 [.str a, .int k m, .int k' n] = some [.str a, .int k m, .int k' n] := nr rfl
theorem part3 (a b c : PV) : partP true 0 3 [a, b, c] = some (.agg [a, b, c]) := nr rfl
theorem fin_fb (h l : PHeap) (a : ByteArray) (k k' : IntKind) (m n : Int) (b : Bool) : finP [.keep, .keep] h (h ++ l) [.agg [.str a, .int k m, .int k' n], .bool b] = some (.tuple [.agg [.str a, .int k m, .int k' n], .bool b], h) := fin_k2 rfl rfl
theorem fin_f (h l : PHeap) (a : ByteArray) (k k' : IntKind) (m n : Int) : finP [.keep] h (h ++ l) [.agg [.str a, .int k m, .int k' n]] = some (.agg [.str a, .int k m, .int k' n], h) := fin_k1 rfl
structure SngLen (s : Sng) : Prop where
  name : s.name.size < 9223372036854775808
  ords : s.ords.length < 9223372036854775808
  pans : s.pans.length < 9223372036854775808
  pats : s.pats.length < 9223372036854775808
  cells : ∀ p ∈ s.pats, p.2.length < 9223372036854775808
  smps : s.smps.length < 9223372036854775808
  smp : ∀ p ∈ s.smps, p.name.size < 9223372036854775808 ∧ p.data.length < 9223372036854775808
  inss : s.inss.length < 9223372036854775808
  ins : ∀ p ∈ s.inss, InsLen p
theorem firstI_idx {α : Type} (p : α → Bool) (l : List α) : firstI p l = match l.findIdx? p with | some i => (i : Int) | none => -1 := by
  induction l with
  | nil => rfl
  | cons x l ih =>
    rw [List.findIdx?_cons]
    unfold firstI
    cases p x with
    | true => rfl
    | false =>
      simp only [Bool.false_eq_true, if_false]
      rw [ih]
      cases l.findIdx? p with
      | none => rfl
      | some i =>
        simp only [Option.map_some]
        rw [if_neg (by omega)]
        show ((i : Int) + 1) = ((i + 1 : Nat) : Int)
        omega
def headA (s : Sng) : Flt × Bool :=
  if (!nameOK s.name) = true then ((⟨#[110, 97, 109, 101]⟩, 0, 1), true)
  else if (qI s.dia 1 == 0) = true then ((⟨#[100, 105, 97, 108, 101, 99, 116]⟩, 0, 6), true)
  else if (!inW s.ch 1 (qI s.dia 1)) = true then ((⟨#[99, 104, 97, 110, 110, 101, 108, 115]⟩, 0, 5), true)
  else (noF, false)
def resA (a : Flt × Bool) : PV := .tuple [.agg (fltC a.1), .bool a.2]
theorem c114' {s : Sng} (hl : SngLen s) (h : PHeap) : Γ0 114 [.str s.name] h = some (.bool (nameOK s.name), h) := c114 (by have := hl.name; omega) h
theorem c68 (s : Sng) (hl : SngLen s) (h : PHeap) : Γ0 68 [.agg s.ck] h = some (resA (headA s), h) := by
  refine gbody (F := A68) (by kernel_rfl) 1 ?_
  rw [s68_eq]; unfold s68 headA
  simp only [words, ↓KLn, Nat.reduceAdd, sk0, sk1, sk2, sk14, c114' hl, c54, fill3, fill_none, st3, put3, part3, fin_fb]
  cases (!nameOK s.name) with
  | true => rfl
  | false =>
    cases (qI s.dia 1 == 0) with
    | true => rfl
    | false => cases (!inW s.ch 1 (qI s.dia 1)) <;> rfl
def ordBad (s : Sng) (o : Int) : Bool := !mark o && !inW o 0 (IntKind.i64.wrap ((s.pats.length : Int) - 1))
def ordA (s : Sng) : Flt × Bool :=
  if (!inW s.ords.length 1 64) = true then ((⟨#[111, 114, 100, 101, 114, 115]⟩, 0, 4), true)
  else match s.ords.findIdx? (ordBad s) with
    | some i => ((⟨#[111, 114, 100, 101, 114, 115]⟩, i, 10), true)
    | none => ((⟨#[114, 101, 115, 116, 97, 114, 116]⟩, 0, 5), !inW s.rest 0 (IntKind.i64.wrap ((s.ords.length : Int) - 1)))
theorem dec_none : decide ((-1 : Int) ≥ 0) = false := nr rfl
theorem dec_some (i : Nat) : decide ((i : Int) ≥ 0) = true := decide_eq_true (by omega)
theorem c70 (s : Sng) (hl : SngLen s) (h : PHeap) : Γ0 70 [.agg s.ck] h = some (resA (ordA s), h) := by
  refine gbody (F := A70) (by kernel_rfl) 1 ?_
  rw [s70_eq]; unfold s70 ordA
  have k37 : ∀ l, Γ0 121 [ints s.ords, .func 122 [] [.ptr h.length 0]] (h ++ .box s.ck 104 .rw :: l) = some (.int .i64 (firstI (ordBad s) s.ords), h ++ .box s.ck 104 .rw :: l) := fun l => c121 (by have := hl.ords; omega) fun x => by
    rw [callV_func Γ0 122]
    exact c122 x (by rw [loadN0, partC]; rfl)
  simp only [words, ↓KLn, Nat.reduceAdd, sk3, sk4, len_ints, c54, fz_ints, k37, firstI_idx, fill3, st3, put3, part3, fin_fb]
  cases (!inW (s.ords.length : Int) 1 64) with
  | true => rfl
  | false =>
    simp only [Bool.false_eq_true, if_false]
    cases s.ords.findIdx? (ordBad s) with
    | some i => simp only [dec_some, if_true]; rfl
    | none => simp only [dec_none, Bool.false_eq_true, if_false]; rfl
def numA (s : Sng) : Flt × Bool :=
  if (!inW s.spd 1 31) = true then ((⟨#[115, 112, 101, 101, 100]⟩, 0, 5), true)
  else if (!inW s.tem 32 255) = true then ((⟨#[116, 101, 109, 112, 111]⟩, 0, 5), true)
  else if (!inW s.glb 0 128) = true then ((⟨#[103, 108, 111, 98, 97, 108]⟩, 0, 5), true)
  else if (s.lin && !qB s.dia 8) = true then ((⟨#[108, 105, 110, 101, 97, 114]⟩, 0, 6), true)
  else if ((s.pans.length : Int) != s.ch) = true then ((⟨#[112, 97, 110, 115]⟩, 0, 4), true)
  else match s.pans.findIdx? (fun p => !inW p 0 256) with
    | some i => ((⟨#[112, 97, 110, 115]⟩, i, 5), true)
    | none => ((⟨#[112, 97, 110, 115]⟩, -1, 5), false)
theorem c71 (s : Sng) (hl : SngLen s) (h : PHeap) : Γ0 71 [.agg s.ck] h = some (resA (numA s), h) := by
  refine gbody (F := A71) (by kernel_rfl) 1 ?_
  rw [s71_eq]; unfold s71 numA
  have k37 : ∀ h, Γ0 121 [ints s.pans, .func 123 [] []] h = some (.int .i64 (firstI (fun p => !inW p 0 256) s.pans), h) := fun h => c121 (by have := hl.pans; omega) fun x => by
    rw [callV_func Γ0 123]
    exact c123 x h
  simp only [words, ↓KLn, Nat.reduceAdd, sk2, sk5, sk6, sk7, sk8, sk9, sk21, len_ints, c54, k37, firstI_idx, fill3, st3, put3, part3, fin_fb]
  cases (!inW s.spd 1 31) with
  | true => rfl
  | false => cases (!inW s.tem 32 255) with
    | true => rfl
    | false => cases (!inW s.glb 0 128) with
      | true => rfl
      | false => cases (s.lin && !qB s.dia 8) with
        | true => rfl
        | false => cases ((s.pans.length : Int) != s.ch) with
          | true => rfl
          | false =>
            cases s.pans.findIdx? (fun p => !inW p 0 256) with
            | some i => simp only [dec_some]; rfl
            | none => simp only [dec_none]; rfl
end Go.Vm.X


set_option linter.unusedSimpArgs false
set_option linter.unusedVariables false
namespace Go.Vm.X
open Go.Am Go.Vm
attribute [local congr] bind_c ifP_c loop_c K1_c ite_c fork_c guard_c
def patBad (s : Sng) (p : Pat) : Bool := ((qI s.dia 3 != 0 && p.1 != qI s.dia 3) || !patOK p.1 p.2 s.ch) || p.2.any fun c => !cellIn s.dia c
def patCode (s : Sng) (p : Pat) : Int := if patBad s p = true then 1 else if (p.2.any fun c => decide (c.inst > names s)) = true then 10 else 0
theorem st2 (o : Nat) (a b : PV) (vs : List PV) (t : TypeId) (l : PHeap) : storeP 2 (.ptr 0 o) (.agg [a, b]) (.box vs t .rw :: l) = (putAt vs o [a, b]).map fun vs' => .box vs' t .rw :: l := storeC0 rfl (by decide)
theorem pat_fptr (p : Pat) : partP true 0 2 (patC p) = some (.agg (patC p)) := part_all rfl
theorem pat_st (p : Pat) (vs : List PV) (t : TypeId) (l : PHeap) : storeP 2 (.ptr 0 0) (.agg (patC p)) (.box vs t .rw :: l) = (putAt vs 0 (patC p)).map fun vs' => .box vs' t .rw :: l := storeC0 rfl (by decide)
theorem pat_put (p : Pat) (a b : PV) : putAt [a, b] 0 (patC p) = some (patC p) := put_whole rfl rfl
theorem pc0 (p : Pat) : (patC p)[0]? = some (.int .i64 p.1) := nr rfl
theorem pc1 (p : Pat) : (patC p)[1]? = some (cellsPV p.2) := nr rfl
theorem fz_cells (n : Nat) (l : List Cell) (h : PHeap) : fz (.flat n) (cellsPV l) h = some (cellsPV l, h) := fz_frz _ _ _ _
theorem fz_pat (p : Pat) (h : PHeap) : fz (.agg [.keep, .flat 6]) (.agg (patC p)) h = some (.agg (patC p), h) := fz_aggI _ rfl
theorem c115p (p : Pat) (hm : p.2.length < 9223372036854775808) (ch : Int) (h : PHeap) : Γ0 115 [.agg (patC p), .int .i64 ch] h = some (.bool (patOK p.1 p.2 ch), h) := c115 p.1 (by omega) ch h
theorem c173p (p : Pat) (hm : p.2.length < 9223372036854775808) (ch : Int) (h : PHeap) : Γ0 173 [.agg (patC p), .int .i64 ch] h = some (.bool (patOK p.1 p.2 ch), h) := c173 p.1 (by omega) ch h
theorem s69_round {s : Sng} {h : PHeap} {n : Nat} {j20 : List PV → PHeap → Pt} (hl : SngLen s) {i : Nat} {p : Pat} (hi : i < s.pats.length) (hp : s.pats[i]? = some p) (K : List PV → PHeap → Pt) :
    s69_L0 Γ0 n h (.ptr h.length 0) (.ptr (h.length + 1) 0) (h ++ [.box s.ck 104 .rw, .box [.str ⟨#[]⟩, .int .i64 0, .int .i64 0] 108 .rw]) (patsPV s.pats) (.int .i64 s.pats.length) j20 K [.int .i64 i] (h ++ [.box s.ck 104 .rw, .box [.str ⟨#[]⟩, .int .i64 0, .int .i64 0] 108 .rw]) =
      if (patCode s p != 0) = true then some (resA ((⟨#[112, 97, 116, 116, 101, 114, 110, 115]⟩, i, patCode s p), true), h) else K [.int .i64 ((i + 1 : Nat) : Int)] (h ++ [.box s.ck 104 .rw, .box [.str ⟨#[]⟩, .int .i64 0, .int .i64 0] 108 .rw]) := by
  have hpm := hl.cells p (List.mem_of_getElem? hp)
  have hlm := hl.pats
  have k33 : ∀ l, Γ0 116 [cellsPV p.2, .func 117 [] [.ptr h.length 0]] (h ++ .box s.ck 104 .rw :: l) = some (.bool (p.2.any fun c => !cellIn s.dia c), h ++ .box s.ck 104 .rw :: l) := fun l => c116 (by omega) fun c => by
    rw [callV_func Γ0 117]
    exact c117 c (by rw [loadN0, partC]; rfl)
  have k35 : ∀ l, Γ0 116 [cellsPV p.2, .func 119 [] [.ptr h.length 0]] (h ++ .box s.ck 104 .rw :: l) = some (.bool (p.2.any fun c => decide (c.inst > names s)), h ++ .box s.ck 104 .rw :: l) := fun l => c116 (by omega) fun c => by
    rw [callV_func Γ0 119]
    exact c119 c (by rw [loadN0, ck_whole])
  unfold s69_L0 patCode patBad
  simp only [words, ↓KLn, Nat.reduceAdd, ltT hi, decide_true, if_true, idx_pats _ hp, pat_fptr, pat_st, pat_put, pc0, pc1, sk16, sk2, fz_cells, fz_pat, c115p p hpm, k33, k35, fill3, st3, put3, part3, fin_fb, trim_i2', succ63 (show i < 9223372036854775807 by omega)]
  cases ((qI s.dia 3 != 0 && p.1 != qI s.dia 3) || !patOK p.1 p.2 s.ch || p.2.any fun c => !cellIn s.dia c) with
  | true => rfl
  | false => cases (p.2.any fun c => decide (c.inst > names s)) <;> rfl
def patA (s : Sng) : Flt × Bool :=
  if (!inW s.pats.length 1 (qI s.dia 2)) = true then ((⟨#[112, 97, 116, 116, 101, 114, 110, 115]⟩, 0, 4), true)
  else match s.pats.findIdx? (fun p => patCode s p != 0) with
    | some i => ((⟨#[112, 97, 116, 116, 101, 114, 110, 115]⟩, i, (s.pats[i]?.map (patCode s)).getD 0), true)
    | none => (noF, false)
theorem c69 (s : Sng) (hl : SngLen s) (h : PHeap) : Γ0 69 [.agg s.ck] h = some (resA (patA s), h) := by
  obtain ⟨N, hN⟩ : ∃ N : Nat, s.pats.length < N := ⟨_, Nat.lt_succ_self _⟩
  refine gbody (F := A69) (by kernel_rfl) N ?_
  rw [s69_eq]; unfold s69 patA
  simp only [words, ↓KLn, Nat.reduceAdd, sk10, sk15, len_pats, c54, fill3, fill_none, st3, put3, part3, fin_fb]
  cases (!inW (s.pats.length : Int) 1 (qI s.dia 2)) with
  | true => rfl
  | false =>
    simp only [Bool.false_eq_true, if_false]
    refine loop_find s.pats (fun p => patCode s p != 0) (fun i => [.int .i64 (i : Int)]) hN rfl (fun i p hi hp hb K => ?_) (fun i p hi hp hb h1 h2 K => ?_) (fun h1 h2 K => ?_)
    · rw [s69_round hl hi hp K, if_neg (by rw [hb]; decide)]
    · rw [s69_round hl hi hp K, if_pos hb, h1]
      simp only [hp, Option.map_some, Option.getD_some]
    · rw [h1]
      unfold s69_L0
      simp only [words, ↓KLn, Nat.reduceAdd, ltF, decide_false, Bool.false_eq_true, if_false, fill_none, st3, put3, part3, fin_fb]
      rfl
def insCode (s : Sng) (x : Ins) : Int := if (!insOK x) = true then 1 else if (x.keys.any fun k => decide (k.2 > (s.smps.length : Int))) = true then 10 else 0
theorem ins_fptr (p : Ins) : partP true 0 33 p.cs = some (.agg p.cs) := part_all rfl
theorem ins_st (p : Ins) (vs : List PV) (t : TypeId) (l : PHeap) : storeP 33 (.ptr 0 0) (.agg p.cs) (.box vs t .rw :: l) = (putAt vs 0 p.cs).map fun vs' => .box vs' t .rw :: l := storeC0 rfl (by decide)
theorem ins_put {vs : List PV} (p : Ins) (h : vs.length = 33) : putAt vs 0 p.cs = some p.cs := put_whole (by rw [h]; rfl) rfl
theorem ic1 (p : Ins) : p.cs[1]? = some (keysPV p.keys) := nr rfl
theorem fz_keys (n : Nat) (l : List (Int × Int)) (h : PHeap) : fz (.flat n) (keysPV l) h = some (keysPV l, h) := fz_frz _ _ _ _
theorem fz_ins (p : Ins) (h : PHeap) : fz (.agg SA33) (.agg p.cs) h = some (.agg p.cs, h) := fz_aggI _ rfl
theorem fz_smps (n : Nat) (cs : List FS) (l : List Smp) (h : PHeap) : fz (.sl n cs) (smpsPV l) h = some (smpsPV l, h) := fz_frzs _ _ _ _ _
theorem s72_round {s : Sng} {h : PHeap} {n : Nat} {j39 : List PV → PHeap → Pt} (hl : SngLen s) {i : Nat} {p : Ins} (hi : i < s.inss.length) (hp : s.inss[i]? = some p) (K : List PV → PHeap → Pt) :
    s72_L0 Γ0 n h (.ptr h.length 0) (.ptr (h.length + 1) 0) (h ++ [.box s.ck 104 .rw, .box [.str ⟨#[]⟩, .int .i64 0, .int .i64 0] 108 .rw]) (inssPV s.inss) (.int .i64 s.inss.length) j39 K [.int .i64 i] (h ++ [.box s.ck 104 .rw, .box [.str ⟨#[]⟩, .int .i64 0, .int .i64 0] 108 .rw]) =
      if (insCode s p != 0) = true then some (resA ((⟨#[105, 110, 115, 116, 115]⟩, i, insCode s p), true), h) else K [.int .i64 ((i + 1 : Nat) : Int)] (h ++ [.box s.ck 104 .rw, .box [.str ⟨#[]⟩, .int .i64 0, .int .i64 0] 108 .rw]) := by
  have hpm := hl.ins p (List.mem_of_getElem? hp)
  have hlm := hl.inss
  have hkm := hpm.keys
  have k46 : ∀ l, Γ0 128 [keysPV p.keys, .func 129 [] [.ptr h.length 0]] (h ++ .box s.ck 104 .rw :: l) = some (.bool (p.keys.any fun k => decide (k.2 > (s.smps.length : Int))), h ++ .box s.ck 104 .rw :: l) := fun l => c128 (by omega) fun c => by
    rw [callV_func Γ0 129]
    exact c129 c (by rw [loadN0, partC]; rfl)
  have hz := ins_put (vs := Z33) p rfl
  unfold s72_L0 insCode
  simp only [words, ↓KLn, Nat.reduceAdd, ltT hi, decide_true, if_true, idx_inss _ hp, ins_fptr, ins_st, hz, ic1, fz_ins, fz_keys, c127 p hpm, k46, fill3, st3, put3, part3, fin_fb, trim_i2', succ63 (show i < 9223372036854775807 by omega)]
  cases insOK p with
  | false => rfl
  | true => cases (p.keys.any fun k => decide (k.2 > (s.smps.length : Int))) <;> rfl
def sndA (s : Sng) : Flt × Bool :=
  if (decide ((s.smps.length : Int) > 31) || (s.dia == 6 && decide ((s.smps.length : Int) > 0))) = true then ((⟨#[115, 97, 109, 112, 108, 101, 115]⟩, 0, 4), true)
  else match s.smps.findIdx? (fun x => !smpOK x) with
    | some i => ((⟨#[115, 97, 109, 112, 108, 101, 115]⟩, i, 1), true)
    | none =>
      if (decide ((s.inss.length : Int) > 31) || (!qB s.dia 6 && decide ((s.inss.length : Int) > 0))) = true then ((⟨#[105, 110, 115, 116, 115]⟩, 0, 4), true)
      else match s.inss.findIdx? (fun p => insCode s p != 0) with
        | some i => ((⟨#[105, 110, 115, 116, 115]⟩, i, (s.inss[i]?.map (insCode s)).getD 0), true)
        | none => (noF, false)
theorem c72 (s : Sng) (hl : SngLen s) (h : PHeap) : Γ0 72 [.agg s.ck] h = some (resA (sndA s), h) := by
  obtain ⟨N, hN⟩ : ∃ N : Nat, s.inss.length < N := ⟨_, Nat.lt_succ_self _⟩
  refine gbody (F := A72) (by kernel_rfl) N ?_
  rw [s72_eq]; unfold s72 sndA
  have k41 : ∀ h, Γ0 124 [smpsPV s.smps, .func 125 [] []] h = some (.int .i64 (firstI (fun x => !smpOK x) s.smps), h) := fun h => c124 (by have := hl.smps; omega) fun x hx => by
    rw [callV_func Γ0 125]
    have hx := hl.smp x hx
    exact c125 x (by omega) (by omega) h
  simp only [words, ↓KLn, Nat.reduceAdd, sk11, sk1, sk12, sk19, len_smps, len_inss, fz_smps, k41, firstI_idx, fill3, fill_none, st3, put3, part3, fin_fb]
  cases (decide ((s.smps.length : Int) > 31) || (s.dia == 6 && decide ((s.smps.length : Int) > 0))) with
  | true => rfl
  | false =>
    simp only [Bool.false_eq_true, if_false]
    cases s.smps.findIdx? (fun x => !smpOK x) with
    | some i => simp only [dec_some, if_true]; rfl
    | none =>
      simp only [dec_none, Bool.false_eq_true, if_false]
      cases (decide ((s.inss.length : Int) > 31) || (!qB s.dia 6 && decide ((s.inss.length : Int) > 0))) with
      | true => rfl
      | false =>
        simp only [Bool.false_eq_true, if_false]
        refine loop_find s.inss (fun p => insCode s p != 0) (fun i => [.int .i64 (i : Int)]) hN rfl (fun i p hi hp hb K => ?_) (fun i p hi hp hb h1 h2 K => ?_) (fun h1 h2 K => ?_)
        · rw [s72_round hl hi hp K, if_neg (by rw [hb]; decide)]
        · rw [s72_round hl hi hp K, if_pos hb, h1]
          simp only [hp, Option.map_some, Option.getD_some]
        · rw [h1]
          unfold s72_L0
          simp only [words, ↓KLn, Nat.reduceAdd, ltF, decide_false, Bool.false_eq_true, if_false, fill_none, st3, put3, part3, fin_fb]
          rfl
end Go.Vm.X


set_option linter.unusedSimpArgs false
set_option linter.unusedVariables false
namespace Go.Vm.X
open Go.Am Go.Vm
attribute [local congr] bind_c ifP_c loop_c K1_c ite_c fork_c guard_c
def asks (s : Sng) : List (Nat × Flt × Bool) := [(68, headA s), (69, patA s), (70, ordA s), (71, numA s), (72, sndA s)]
def okF : Flt := (⟨#[]⟩, -1, 0)
def wrongP (s : Sng) : Flt := match (asks s).find? (fun a => a.2.2) with | some a => a.2.1 | none => okF
def wrongV (f : Flt) : PV := .tuple [.str f.1, .int .i64 f.2.1, .int .i64 f.2.2]
theorem asks_call {s : Sng} (hl : SngLen s) {a : Nat × Flt × Bool} (ha : a ∈ asks s) (h : PHeap) : callVP Γ0 (.func a.1 [.agg s.ck] []) [] h = some (resA a.2, h) := by
  unfold asks at ha
  simp only [List.mem_cons, List.not_mem_nil, or_false] at ha
  rcases ha with rfl | rfl | rfl | rfl | rfl
  · rw [callV_func Γ0 68]; exact c68 s hl h
  · rw [callV_func Γ0 69]; exact c69 s hl h
  · rw [callV_func Γ0 70]; exact c70 s hl h
  · rw [callV_func Γ0 71]; exact c71 s hl h
  · rw [callV_func Γ0 72]; exact c72 s hl h
theorem fill_ck (s : Sng) : fillP Z42 [(0, 13, .agg s.cs), (13, 29, .agg (qOf s.dia))] = some s.ck := by
  rw [fill_step (size := 13) (v := .agg s.cs) rfl (by decide) (Nat.le_of_ble_eq_true rfl), fill_step (size := 29) (v := .agg (qOf s.dia)) (qOf_len _) (by decide) (Nat.le_of_ble_eq_true rfl), fill_none]
  show some (s.cs ++ qOf s.dia ++ []) = _
  rw [List.append_nil]; rfl
theorem ck_st (s : Sng) (vs : List PV) (t : TypeId) (l : PHeap) : storeP 42 (.ptr 0 0) (.agg s.ck) (.box vs t .rw :: l) = (putAt vs 0 s.ck).map fun vs' => .box vs' t .rw :: l := storeC0 (ck_len s) (by decide)
theorem ck_put (s : Sng) {vs : List PV} (hv : vs.length = 42) : putAt vs 0 s.ck = some s.ck := put_whole (by rw [hv, ck_len]) (by unfold Sng.ck; rw [List.all_append, qOf_one]; rfl)
theorem q_st (d : Int) (vs : List PV) (t : TypeId) (l : PHeap) : storeP 29 (.ptr 0 0) (.agg (qOf d)) (.box vs t .rw :: l) = (putAt vs 0 (qOf d)).map fun vs' => .box vs' t .rw :: l := storeC0 (qOf_len d) (by decide)
theorem q_put (d : Int) {vs : List PV} (hv : vs.length = 29) : putAt vs 0 (qOf d) = some (qOf d) := put_whole (by rw [hv, qOf_len]) (qOf_one d)
theorem q_whole (d : Int) : partP true 0 29 (qOf d) = some (.agg (qOf d)) := part_all (qOf_len d)
theorem fill5 (a b c d e : Nat) (xs : List PV) : fillP (repP [.nilF] 5) [(0, 1, .func a xs []), (1, 1, .func b xs []), (2, 1, .func c xs []), (3, 1, .func d xs []), (4, 1, .func e xs [])] = some [.func a xs [], .func b xs [], .func c xs [], .func d xs [], .func e xs []] := nr rfl
theorem chunk5 (a b c d e : PV) : chunk 1 5 [a, b, c, d, e] = [[a], [b], [c], [d], [e]] := nr rfl
theorem flt_st (f : Flt) (vs : List PV) (t : TypeId) (l : PHeap) : storeP 3 (.ptr 0 0) (.agg (fltC f)) (.box vs t .rw :: l) = (putAt vs 0 (fltC f)).map fun vs' => .box vs' t .rw :: l := storeC0 rfl (by decide)
theorem flt_put (f : Flt) (a b c : PV) : putAt [a, b, c] 0 (fltC f) = some (fltC f) := put_whole rfl rfl
theorem fc0 (f : Flt) : (fltC f)[0]? = some (.str f.1) := nr rfl
theorem fc1 (f : Flt) : (fltC f)[1]? = some (.int .i64 f.2.1) := nr rfl
theorem fc2 (f : Flt) : (fltC f)[2]? = some (.int .i64 f.2.2) := nr rfl
theorem fin_w (h l : PHeap) (a : ByteArray) (k k' : IntKind) (m n : Int) : finP [.keep, .keep, .keep] h (h ++ l) [.str a, .int k m, .int k' n] = some (.tuple [.str a, .int k m, .int k' n], h) := fin_k3 rfl rfl rfl
theorem c24 (s : Sng) (hl : SngLen s) (h : PHeap) : Γ0 24 [.agg s.cs] h = some (wrongV (wrongP s), h) := by
  obtain ⟨N, hN⟩ : ∃ N : Nat, 5 < N := ⟨_, Nat.lt_succ_self _⟩
  refine gbody (F := A24) (by kernel_rfl) N ?_
  rw [s24_eq]; unfold s24 wrongP
  have hq := q_put s.dia (vs := Z29) rfl
  have hf := fill_ck s
  have hp := ck_put s (vs := Z42) rfl
  simp only [words, ↓KLn, Nat.reduceAdd, sc1, c53, q_st, hq, s_whole, q_whole, hf, ck_st, hp, ck_whole, fill5, chunk5, len_ref]
  refine loop_find (asks s) (fun a => a.2.2) (fun i => [.int .i64 (i : Int)]) hN rfl (fun i a hi ha hb K => ?_) (fun i a hi ha hb h1 h2 K => ?_) (fun h1 h2 K => ?_)
  · have hrow : ([[PV.func 68 [.agg s.ck] []], [.func 69 [.agg s.ck] []], [.func 70 [.agg s.ck] []], [.func 71 [.agg s.ck] []], [.func 72 [.agg s.ck] []]] : List (List PV))[i]? = some [.func a.1 [.agg s.ck] []] := by
      have : ((asks s).map fun a => [PV.func a.1 [.agg s.ck] []])[i]? = some [.func a.1 [.agg s.ck] []] := by rw [List.getElem?_map, ha]; rfl
      exact this
    have hi5 : ((i : Int) < ((5 : Nat) : Int)) = True := eq_true (by have : i < 5 := hi; omega)
    unfold s24_L0
    simp only [words, ↓KLn, Nat.reduceAdd, hi5, decide_true, if_true, idx_ref (sz := 1) .i64 (show i < 5 from hi), loadLNk, loadLCk, loadLC0 5 rfl hrow, List.getElem?_cons_zero, asks_call hl (List.mem_of_getElem? ha), resA, flt_st, flt_put, hb, Bool.false_eq_true, if_false, succ63 (show i < 9223372036854775807 by have : i < 5 := hi; omega), trim_i4']
  · have hrow : ([[PV.func 68 [.agg s.ck] []], [.func 69 [.agg s.ck] []], [.func 70 [.agg s.ck] []], [.func 71 [.agg s.ck] []], [.func 72 [.agg s.ck] []]] : List (List PV))[i]? = some [.func a.1 [.agg s.ck] []] := by
      have : ((asks s).map fun a => [PV.func a.1 [.agg s.ck] []])[i]? = some [.func a.1 [.agg s.ck] []] := by rw [List.getElem?_map, ha]; rfl
      exact this
    have hi5 : ((i : Int) < ((5 : Nat) : Int)) = True := eq_true (by have : i < 5 := hi; omega)
    unfold s24_L0
    simp only [words, ↓KLn, Nat.reduceAdd, hi5, decide_true, if_true, idx_ref (sz := 1) .i64 (show i < 5 from hi), loadLNk, loadLCk, loadLC0 5 rfl hrow, List.getElem?_cons_zero, asks_call hl (List.mem_of_getElem? ha), resA, flt_st, flt_put, hb, fc0, fc1, fc2, fin_w, find_idx, h1, ha, Option.bind_some, wrongV]
  · unfold s24_L0
    have hi5 : (((asks s).length : Int) < ((5 : Nat) : Int)) = False := eq_false (by show ¬ (((5 : Nat) : Int) < ((5 : Nat) : Int)); omega)
    simp only [words, ↓KLn, Nat.reduceAdd, hi5, decide_false, Bool.false_eq_true, if_false, fin_w, find_idx, h1, Option.bind_none]
    rfl
theorem c16 (s : Sng) (hl : SngLen s) (h : PHeap) : Γ0 16 [.agg s.cs] h = some (.bool ((wrongP s).2.2 == 0), h) := by
  refine gbody (F := A16) (by kernel_rfl) 1 ?_
  rw [s16_eq]; unfold s16
  simp only [words, ↓KLn, Nat.reduceAdd, s_whole, c24 s hl, wrongV, y30, y31, y32, fin_bool]
end Go.Vm.X


set_option linter.unusedSimpArgs false
set_option linter.unusedVariables false
namespace Go.Vm.X
open Go.Am Go.Vm
attribute [local congr] bind_c ifP_c loop_c K1_c ite_c fork_c guard_c
theorem iv0 (a : Int) : (iV a)[0]? = some (.int .i64 a) := nr rfl
def unF (ok : Bool) (part : ByteArray) (e : Int) : Flt := if ok = true then noF else (part, 0, e)
def fltsPV (l : List Flt) : PV := .frz 3 (l.map fltC)
theorem len_flts (l : List Flt) : lenP false (fltsPV l) = some (.int .i64 l.length) := len_map
theorem idx_flts {l : List Flt} {i : Nat} {c : Flt} (k : IntKind) (h : l[i]? = some c) : indexAddrP 3 (fltsPV l) (.int k i) = some (.fptr (fltC c) 0) := idx_map k h
theorem flt_whole (f : Flt) : partP true 0 3 (fltC f) = some (.agg (fltC f)) := part_all rfl
theorem fin_fltb (h l : PHeap) (f : Flt) (b : Bool) : finP [.keep, .keep] h (h ++ l) [.agg (fltC f), .bool b] = some (.tuple [.agg (fltC f), .bool b], h) := fin_k2 rfl rfl
def firstR (l : List Flt) : Flt × Bool := match l.find? isF with | some f => (f, true) | none => (noF, false)
theorem c136 (ok : Bool) (part : ByteArray) (e : Int) (h : PHeap) : Γ0 136 [.bool ok, .str part, .int .i64 e] h = some (.agg (fltC (unF ok part e)), h) := by
  refine gbody (F := A136) (by kernel_rfl) 1 ?_
  rw [s136_eq]; unfold s136 unF
  simp only [words, ↓KLn, Nat.reduceAdd, fill3, fill_none, st3, put3, part3, fin_f]
  cases ok <;> rfl
theorem c135 (l : List Flt) (hm : l.length < 9223372036854775808) (h : PHeap) : Γ0 135 [fltsPV l] h = some (resA (firstR l), h) := by
  obtain ⟨N, hN⟩ : ∃ N : Nat, l.length < N := ⟨_, Nat.lt_succ_self _⟩
  refine gbody (F := A135) (by kernel_rfl) N ?_
  rw [s135_eq]; unfold s135 firstR
  simp only [words, ↓KLn, Nat.reduceAdd, len_flts]
  refine loop_find l isF (fun i => [.int .i64 (i : Int)]) hN rfl (fun i a hi ha hb K => ?_) (fun i a hi ha hb h1 h2 K => ?_) (fun h1 h2 K => ?_)
  · unfold isF at hb
    unfold s135_L0
    simp only [words, ↓KLn, Nat.reduceAdd, ltT hi, decide_true, if_true, idx_flts _ ha, flt_whole, flt_st, flt_put, fc2, hb, Bool.false_eq_true, if_false, succ63 (show i < 9223372036854775807 by omega), trim_i1']
  · have hb' := hb
    unfold isF at hb
    unfold s135_L0
    simp only [words, ↓KLn, Nat.reduceAdd, ltT hi, decide_true, if_true, idx_flts _ ha, flt_whole, flt_st, flt_put, fc2, hb, fin_fltb, find_idx, h1, ha, Option.bind_some, resA]
  · unfold s135_L0
    simp only [words, ↓KLn, Nat.reduceAdd, ltF, decide_false, Bool.false_eq_true, if_false, fill_none, st3, put3, part3, fin_fb, find_idx, h1, Option.bind_none, resA]
    rfl
def scanF {α : Type} (part : ByteArray) (code : α → Int) (l : List α) : Flt := match l.findIdx? (fun a => code a != 0) with | some i => (part, i, (l[i]?.map code).getD 0) | none => noF
theorem scan_hit {α : Type} {part : ByteArray} {code : α → Int} {l : List α} {i : Nat} {a : α} (h1 : l.findIdx? (fun a => code a != 0) = some i) (h2 : l[i]? = some a) : scanF part code l = (part, (i : Int), code a) := by
  unfold scanF; rw [h1]; simp only [h2, Option.map_some, Option.getD_some]
theorem scan_none {α : Type} {part : ByteArray} {code : α → Int} {l : List α} (h1 : l.findIdx? (fun a => code a != 0) = none) : scanF part code l = noF := by
  unfold scanF; rw [h1]
theorem c164 (s : Sng) (hl : SngLen s) (p : Pat) (hpm : p.2.length < 9223372036854775808) (h : PHeap) : Γ0 164 [.agg s.cs, .agg (patC p), .int .i64 (qI s.dia 3)] h = some (.int .i64 (patCode s p), h) := by
  obtain ⟨N, hN⟩ : ∃ N : Nat, p.2.length < N := ⟨_, Nat.lt_succ_self _⟩
  refine gbody (F := A164) (by kernel_rfl) N ?_
  rw [s164_eq]; unfold s164 patCode patBad
  simp only [words, ↓KLn, Nat.reduceAdd, pc0, pat_fptr, sc2, c173p p hpm, fin_int]
  cases ((qI s.dia 3 != 0 && p.1 != qI s.dia 3) || !patOK p.1 p.2 s.ch) with
  | true => rfl
  | false =>
    simp only [Bool.false_eq_true, if_false, Bool.false_or]
    refine loop_find p.2 (fun c => !cellIn s.dia c) (fun i => [.int .i64 (i : Int)]) hN rfl (fun i a hi ha hb K => ?_) (fun i a hi ha hb h1 h2 K => ?_) (fun h1 h2 K => ?_)
    · unfold s164_L1
      simp only [words, ↓KLn, Nat.reduceAdd, pc1, len_cells, ltT hi, decide_true, if_true, sc1, idx_cells _ ha, cell_whole, c174, hb, Bool.false_eq_true, if_false, succ63 (show i < 9223372036854775807 by omega), trim_i2']
    · unfold s164_L1
      simp only [words, ↓KLn, Nat.reduceAdd, pc1, len_cells, ltT hi, decide_true, if_true, sc1, idx_cells _ ha, cell_whole, c174, hb, fin_int, h2]
    · unfold s164_L1
      simp only [words, ↓KLn, Nat.reduceAdd, pc1, len_cells, ltF, decide_false, Bool.false_eq_true, if_false, h2]
      refine loop_find p.2 (fun c => decide (c.inst > names s)) (fun i => [.int .i64 (i : Int)]) hN rfl (fun i a hi ha hb K => ?_) (fun i a hi ha hb h1 h2 K => ?_) (fun h1 h2 K => ?_)
      · unfold s164_L0
        simp only [words, ↓KLn, Nat.reduceAdd, pc1, len_cells, ltT hi, decide_true, if_true, sc1, idx_cells _ ha, cc1, s_whole, c112, hb, Bool.false_eq_true, if_false, succ63 (show i < 9223372036854775807 by omega), trim_i2']
      · unfold s164_L0
        simp only [words, ↓KLn, Nat.reduceAdd, pc1, len_cells, ltT hi, decide_true, if_true, sc1, idx_cells _ ha, cc1, s_whole, c112, hb, fin_int, h2]
      · unfold s164_L0
        simp only [words, ↓KLn, Nat.reduceAdd, pc1, len_cells, ltF, decide_false, Bool.false_eq_true, if_false, h2, fin_int]
theorem c138 (s : Sng) (hl : SngLen s) (h : PHeap) : Γ0 138 [.agg s.cs, .int .i64 (qI s.dia 3)] h = some (.agg (fltC (scanF ⟨#[112, 97, 116, 116, 101, 114, 110, 115]⟩ (patCode s) s.pats)), h) := by
  obtain ⟨N, hN⟩ : ∃ N : Nat, s.pats.length < N := ⟨_, Nat.lt_succ_self _⟩
  refine gbody (F := A138) (by kernel_rfl) N ?_
  rw [s138_eq]; unfold s138
  have hm := hl.pats
  simp only [words, ↓KLn, Nat.reduceAdd, sc10, len_pats]
  refine loop_find s.pats (fun p => patCode s p != 0) (fun i => [.int .i64 (i : Int)]) hN rfl (fun i a hi ha hb K => ?_) (fun i a hi ha hb h1 h2 K => ?_) (fun h1 h2 K => ?_)
  · have k47 := c164 s hl a (hl.cells a (List.mem_of_getElem? ha))
    unfold s138_L0
    simp only [words, ↓KLn, Nat.reduceAdd, ltT hi, decide_true, if_true, s_whole, sc10, idx_pats _ ha, pat_fptr, k47, hb, Bool.false_eq_true, if_false, succ63 (show i < 9223372036854775807 by omega), trim_i2']
  · have k47 := c164 s hl a (hl.cells a (List.mem_of_getElem? ha))
    unfold s138_L0
    simp only [words, ↓KLn, Nat.reduceAdd, ltT hi, decide_true, if_true, s_whole, sc10, idx_pats _ ha, pat_fptr, k47, hb, fill3, st3, put3, part3, fin_f, scan_hit h1 ha, fltC]
  · unfold s138_L0
    simp only [words, ↓KLn, Nat.reduceAdd, ltF, decide_false, Bool.false_eq_true, if_false, fill_none, st3, put3, part3, fin_f, scan_none h1]
    rfl
theorem c139 (s : Sng) (hl : SngLen s) (h : PHeap) : Γ0 139 [.agg s.cs] h = some (.agg (fltC (scanF ⟨#[111, 114, 100, 101, 114, 115]⟩ (fun o => if ordBad s o = true then 10 else 0) s.ords)), h) := by
  obtain ⟨N, hN⟩ : ∃ N : Nat, s.ords.length < N := ⟨_, Nat.lt_succ_self _⟩
  refine gbody (F := A139) (by kernel_rfl) N ?_
  rw [s139_eq]; unfold s139
  have hm := hl.ords
  have hp : ∀ o, ((if ordBad s o = true then (10 : Int) else 0) != 0) = ordBad s o := fun o => by cases ordBad s o <;> rfl
  simp only [words, ↓KLn, Nat.reduceAdd, sc3, len_ints]
  refine loop_find s.ords (fun o => (if ordBad s o = true then (10 : Int) else 0) != 0) (fun i => [.int .i64 (i : Int)]) hN rfl (fun i a hi ha hb K => ?_) (fun i a hi ha hb h1 h2 K => ?_) (fun h1 h2 K => ?_)
  · simp only [hp] at hb
    unfold ordBad at hb
    unfold s139_L0
    simp only [words, ↓KLn, Nat.reduceAdd, ltT hi, decide_true, if_true, idx_ints _ ha, iv0, c49, sc10, len_pats, c57, hb, Bool.false_eq_true, if_false, succ63 (show i < 9223372036854775807 by omega), trim_i2']
  · have hb2 := hb
    simp only [hp] at hb
    have hb' := hb
    unfold ordBad at hb
    unfold s139_L0
    simp only [words, ↓KLn, Nat.reduceAdd, ltT hi, decide_true, if_true, idx_ints _ ha, iv0, c49, sc10, len_pats, c57, hb, fill3, st3, put3, part3, fin_f, scan_hit h1 ha, fltC, hb']
  · unfold s139_L0
    simp only [words, ↓KLn, Nat.reduceAdd, ltF, decide_false, Bool.false_eq_true, if_false, fill_none, st3, put3, part3, fin_f, scan_none h1]
    rfl
theorem c140 (s : Sng) (hl : SngLen s) (h : PHeap) : Γ0 140 [.agg s.cs] h = some (.agg (fltC (scanF ⟨#[112, 97, 110, 115]⟩ (fun o => if (!inW o 0 256) = true then 5 else 0) s.pans)), h) := by
  obtain ⟨N, hN⟩ : ∃ N : Nat, s.pans.length < N := ⟨_, Nat.lt_succ_self _⟩
  refine gbody (F := A140) (by kernel_rfl) N ?_
  rw [s140_eq]; unfold s140
  have hm := hl.pans
  have hp : ∀ o : Int, ((if (!inW o 0 256) = true then (5 : Int) else 0) != 0) = !inW o 0 256 := fun o => by cases inW o 0 256 <;> rfl
  simp only [words, ↓KLn, Nat.reduceAdd, sc9, len_ints]
  refine loop_find s.pans (fun o => (if (!inW o 0 256) = true then (5 : Int) else 0) != 0) (fun i => [.int .i64 (i : Int)]) hN rfl (fun i a hi ha hb K => ?_) (fun i a hi ha hb h1 h2 K => ?_) (fun h1 h2 K => ?_)
  · simp only [hp] at hb
    unfold s140_L0
    simp only [words, ↓KLn, Nat.reduceAdd, ltT hi, decide_true, if_true, idx_ints _ ha, iv0, c57, hb, Bool.false_eq_true, if_false, succ63 (show i < 9223372036854775807 by omega), trim_i2']
  · simp only [hp] at hb
    unfold s140_L0
    simp only [words, ↓KLn, Nat.reduceAdd, ltT hi, decide_true, if_true, idx_ints _ ha, iv0, c57, hb, fill3, st3, put3, part3, fin_f, scan_hit h1 ha, fltC]
  · unfold s140_L0
    simp only [words, ↓KLn, Nat.reduceAdd, ltF, decide_false, Bool.false_eq_true, if_false, fill_none, st3, put3, part3, fin_f, scan_none h1]
    rfl
theorem smp_fptr (c : Smp) : partP true 0 13 c.cs = some (.agg c.cs) := part_all rfl
theorem c141 (s : Sng) (hl : SngLen s) (h : PHeap) : Γ0 141 [.agg s.cs] h = some (.agg (fltC (scanF ⟨#[115, 97, 109, 112, 108, 101, 115]⟩ (fun x => if (!smpOK x) = true then 1 else 0) s.smps)), h) := by
  obtain ⟨N, hN⟩ : ∃ N : Nat, s.smps.length < N := ⟨_, Nat.lt_succ_self _⟩
  refine gbody (F := A141) (by kernel_rfl) N ?_
  rw [s141_eq]; unfold s141
  have hm := hl.smps
  have hp : ∀ x : Smp, ((if (!smpOK x) = true then (1 : Int) else 0) != 0) = !smpOK x := fun o => by cases smpOK o <;> rfl
  simp only [words, ↓KLn, Nat.reduceAdd, sc11, len_smps]
  refine loop_find s.smps (fun x => (if (!smpOK x) = true then (1 : Int) else 0) != 0) (fun i => [.int .i64 (i : Int)]) hN rfl (fun i a hi ha hb K => ?_) (fun i a hi ha hb h1 h2 K => ?_) (fun h1 h2 K => ?_)
  · simp only [hp] at hb
    have hx := hl.smp a (List.mem_of_getElem? ha)
    unfold s141_L0
    simp only [words, ↓KLn, Nat.reduceAdd, ltT hi, decide_true, if_true, sc11, idx_smps _ ha, smp_fptr, c165 a (by omega) (by omega), hb, Bool.false_eq_true, if_false, succ63 (show i < 9223372036854775807 by omega), trim_i2']
  · simp only [hp] at hb
    have hx := hl.smp a (List.mem_of_getElem? ha)
    unfold s141_L0
    simp only [words, ↓KLn, Nat.reduceAdd, ltT hi, decide_true, if_true, sc11, idx_smps _ ha, smp_fptr, c165 a (by omega) (by omega), hb, fill3, st3, put3, part3, fin_f, scan_hit h1 ha, fltC]
  · unfold s141_L0
    simp only [words, ↓KLn, Nat.reduceAdd, ltF, decide_false, Bool.false_eq_true, if_false, fill_none, st3, put3, part3, fin_f, scan_none h1]
    rfl
theorem c166 (s : Sng) (x : Ins) (hx : InsLen x) (h : PHeap) : Γ0 166 [.agg s.cs, .agg x.cs] h = some (.int .i64 (insCode s x), h) := by
  obtain ⟨N, hN⟩ : ∃ N : Nat, x.keys.length < N := ⟨_, Nat.lt_succ_self _⟩
  refine gbody (F := A166) (by kernel_rfl) N ?_
  rw [s166_eq]; unfold s166 insCode
  have hkm := hx.keys
  simp only [words, ↓KLn, Nat.reduceAdd, ins_fptr, c110 x hx, fin_int]
  cases insOK x with
  | false => rfl
  | true =>
    simp only [Bool.not_true, Bool.false_eq_true, if_false]
    refine loop_find x.keys (fun k => decide (k.2 > (s.smps.length : Int))) (fun i => [.int .i64 (i : Int)]) hN rfl (fun i a hi ha hb K => ?_) (fun i a hi ha hb h1 h2 K => ?_) (fun h1 h2 K => ?_)
    · have k1 : (keyC a)[1]? = some (.int .i64 a.2) := rfl
      unfold s166_L0
      simp only [words, ↓KLn, Nat.reduceAdd, ic1, len_keys, ltT hi, decide_true, if_true, idx_keys _ ha, k1, sc11, len_smps, hb, Bool.false_eq_true, if_false, succ63 (show i < 9223372036854775807 by omega), trim_i2']
    · have k1 : (keyC a)[1]? = some (.int .i64 a.2) := rfl
      unfold s166_L0
      simp only [words, ↓KLn, Nat.reduceAdd, ic1, len_keys, ltT hi, decide_true, if_true, idx_keys _ ha, k1, sc11, len_smps, hb, fin_int, h2]
    · unfold s166_L0
      simp only [words, ↓KLn, Nat.reduceAdd, ic1, len_keys, ltF, decide_false, Bool.false_eq_true, if_false, h2, fin_int]
theorem c142 (s : Sng) (hl : SngLen s) (h : PHeap) : Γ0 142 [.agg s.cs] h = some (.agg (fltC (scanF ⟨#[105, 110, 115, 116, 115]⟩ (insCode s) s.inss)), h) := by
  obtain ⟨N, hN⟩ : ∃ N : Nat, s.inss.length < N := ⟨_, Nat.lt_succ_self _⟩
  refine gbody (F := A142) (by kernel_rfl) N ?_
  rw [s142_eq]; unfold s142
  have hm := hl.inss
  simp only [words, ↓KLn, Nat.reduceAdd, sc12, len_inss]
  refine loop_find s.inss (fun p => insCode s p != 0) (fun i => [.int .i64 (i : Int)]) hN rfl (fun i a hi ha hb K => ?_) (fun i a hi ha hb h1 h2 K => ?_) (fun h1 h2 K => ?_)
  · have k50 := c166 s a (hl.ins a (List.mem_of_getElem? ha))
    unfold s142_L0
    simp only [words, ↓KLn, Nat.reduceAdd, ltT hi, decide_true, if_true, s_whole, sc12, idx_inss _ ha, ins_fptr, k50, hb, Bool.false_eq_true, if_false, succ63 (show i < 9223372036854775807 by omega), trim_i2']
  · have k50 := c166 s a (hl.ins a (List.mem_of_getElem? ha))
    unfold s142_L0
    simp only [words, ↓KLn, Nat.reduceAdd, ltT hi, decide_true, if_true, s_whole, sc12, idx_inss _ ha, ins_fptr, k50, hb, fill3, st3, put3, part3, fin_f, scan_hit h1 ha, fltC]
  · unfold s142_L0
    simp only [words, ↓KLn, Nat.reduceAdd, ltF, decide_false, Bool.false_eq_true, if_false, fill_none, st3, put3, part3, fin_f, scan_none h1]
    rfl
end Go.Vm.X


set_option linter.unusedSimpArgs false
set_option linter.unusedVariables false
set_option maxRecDepth 20000
namespace Go.Vm.X
open Go.Am Go.Vm
attribute [local congr] bind_c ifP_c loop_c K1_c ite_c fork_c guard_c unl_c
def headL (s : Sng) : List Flt := [unF (nameOK s.name) ⟨#[110, 97, 109, 101]⟩ 1, unF (kindE s.dia == 0) ⟨#[100, 105, 97, 108, 101, 99, 116]⟩ 6, unF (inW s.ch 1 (qI s.dia 1)) ⟨#[99, 104, 97, 110, 110, 101, 108, 115]⟩ 5]
def restL (s : Sng) : List Flt := [
  unF (inW s.pats.length 1 (qI s.dia 2)) ⟨#[112, 97, 116, 116, 101, 114, 110, 115]⟩ 4,
  scanF ⟨#[112, 97, 116, 116, 101, 114, 110, 115]⟩ (patCode s) s.pats,
  unF (inW s.ords.length 1 64) ⟨#[111, 114, 100, 101, 114, 115]⟩ 4,
  scanF ⟨#[111, 114, 100, 101, 114, 115]⟩ (fun o => if ordBad s o = true then 10 else 0) s.ords,
  unF (inW s.rest 0 (IntKind.i64.wrap ((s.ords.length : Int) - 1))) ⟨#[114, 101, 115, 116, 97, 114, 116]⟩ 5,
  unF (inW s.spd 1 31) ⟨#[115, 112, 101, 101, 100]⟩ 5,
  unF (inW s.tem 32 255) ⟨#[116, 101, 109, 112, 111]⟩ 5,
  unF (inW s.glb 0 128) ⟨#[103, 108, 111, 98, 97, 108]⟩ 5,
  unF (!s.lin || qB s.dia 8) ⟨#[108, 105, 110, 101, 97, 114]⟩ 6,
  unF ((s.pans.length : Int) == s.ch) ⟨#[112, 97, 110, 115]⟩ 4,
  scanF ⟨#[112, 97, 110, 115]⟩ (fun o => if (!inW o 0 256) = true then 5 else 0) s.pans,
  unF (decide ((s.smps.length : Int) ≤ 31) && (s.dia != 6 || (s.smps.length : Int) == 0)) ⟨#[115, 97, 109, 112, 108, 101, 115]⟩ 4,
  scanF ⟨#[115, 97, 109, 112, 108, 101, 115]⟩ (fun x => if (!smpOK x) = true then 1 else 0) s.smps,
  unF (decide ((s.inss.length : Int) ≤ 31) && (qB s.dia 6 || (s.inss.length : Int) == 0)) ⟨#[105, 110, 115, 116, 115]⟩ 4,
  scanF ⟨#[105, 110, 115, 116, 115]⟩ (insCode s) s.inss]
def wrongR (s : Sng) : Flt := match (headL s).find? isF with | some f => f | none => match (restL s).find? isF with | some f => f | none => okF
theorem fill_f3 (a b c : Flt) : fillP (repP [.str ⟨#[]⟩, .int .i64 0, .int .i64 0] 3) [(0, 3, .agg (fltC a)), (3, 3, .agg (fltC b)), (6, 3, .agg (fltC c))] = some ([a, b, c].map fltC).flatten := nr rfl
theorem pure_f3 (a b c : Flt) : ([a, b, c].map fltC).flatten.all pure1 = true := nr rfl
theorem chunk_f3 (a b c : Flt) : (PV.frz 3 (chunk 3 3 ([a, b, c].map fltC).flatten)) = fltsPV [a, b, c] := nr rfl
theorem fill_f15 (a b c d e f g i j k l m n o p : Flt) : fillP (repP [.str ⟨#[]⟩, .int .i64 0, .int .i64 0] 15) [(0, 3, .agg (fltC a)), (3, 3, .agg (fltC b)), (6, 3, .agg (fltC c)), (9, 3, .agg (fltC d)), (12, 3, .agg (fltC e)), (15, 3, .agg (fltC f)), (18, 3, .agg (fltC g)), (21, 3, .agg (fltC i)), (24, 3, .agg (fltC j)), (27, 3, .agg (fltC k)), (30, 3, .agg (fltC l)), (33, 3, .agg (fltC m)), (36, 3, .agg (fltC n)), (39, 3, .agg (fltC o)), (42, 3, .agg (fltC p))] = some ([a, b, c, d, e, f, g, i, j, k, l, m, n, o, p].map fltC).flatten := nr (by kernel_rfl)
theorem pure_f15 (a b c d e f g i j k l m n o p : Flt) : ([a, b, c, d, e, f, g, i, j, k, l, m, n, o, p].map fltC).flatten.all pure1 = true := nr (by kernel_rfl)
theorem chunk_f15 (a b c d e f g i j k l m n o p : Flt) : (PV.frz 3 (chunk 3 15 ([a, b, c, d, e, f, g, i, j, k, l, m, n, o, p].map fltC).flatten)) = fltsPV [a, b, c, d, e, f, g, i, j, k, l, m, n, o, p] := nr (by kernel_rfl)
theorem flt_put' (f g : Flt) : putAt (fltC g) 0 (fltC f) = some (fltC f) := put_whole rfl rfl
theorem c137' {s : Sng} (hl : SngLen s) (h : PHeap) : Γ0 137 [.str s.name] h = some (.bool (nameOK s.name), h) := c137 (by have := hl.name; omega) h
theorem c99 (s : Sng) (hl : SngLen s) (h : PHeap) : Γ0 99 [.agg s.cs] h = some (wrongV (wrongR s), h) := by
  refine gbody (F := A99) (by kernel_rfl) 1 ?_
  rw [s99_eq]; unfold s99 wrongR
  have hq := q_put s.dia (vs := Z29) rfl
  have k17a := fun a b c h => c135 [a, b, c] (show 3 < 9223372036854775808 by decide) h
  have k17b := fun a b c d e f g i j k l m n o p h => c135 [a, b, c, d, e, f, g, i, j, k, l, m, n, o, p] (show 15 < 9223372036854775808 by decide) h
  simp only [words, ↓KLn, Nat.reduceAdd, sc0, sc1, sc2, c56, q_st, hq, c137' hl, c136, c57, q_1, fill_f3, pure_f3, guardW, chunk_f3, k17a, resA, flt_st, flt_put]
  show (if (firstR (headL s)).2 = true then _ else _) = _
  have hfold : ∀ f, [unF (nameOK s.name) ⟨#[110, 97, 109, 101]⟩ 1, unF (kindE s.dia == 0) ⟨#[100, 105, 97, 108, 101, 99, 116]⟩ 6, unF (inW s.ch 1 (qI s.dia 1)) ⟨#[99, 104, 97, 110, 110, 101, 108, 115]⟩ 5] = f ↔ headL s = f := fun f => Iff.rfl
  cases hf : (headL s).find? isF with
  | some f =>
    have e1 : firstR (headL s) = (f, true) := by unfold firstR; rw [hf]
    unfold headL at e1 ⊢
    simp only [e1, if_true, words, ↓KLn, Nat.reduceAdd, fc0, fc1, fc2, fin_w]
    rfl
  | none =>
    have e1 : firstR (headL s) = (noF, false) := by unfold firstR; rw [hf]
    unfold headL at e1 ⊢
    simp only [e1, Bool.false_eq_true, if_false, words, ↓KLn, Nat.reduceAdd, sc1, sc2, sc3, sc4, sc5, sc6, sc7, sc8, sc9, sc10, sc11, sc12, q_2, q_3, q_6, q_8, s_whole, len_pats, len_ints, len_smps, len_inss, c136, c57, c138 s hl, c139 s hl, c140 s hl, c141 s hl, c142 s hl, fill_f15, pure_f15, guardW, chunk_f15, k17b, resA, flt_st, flt_put']
    show (if (firstR (restL s)).2 = true then _ else _) = _
    cases hg : (restL s).find? isF with
    | some f =>
      have e2 : firstR (restL s) = (f, true) := by unfold firstR; rw [hg]
      unfold restL at e2 ⊢
      simp only [e2, if_true, words, ↓KLn, Nat.reduceAdd, fc0, fc1, fc2, fin_w]
      rfl
    | none =>
      have e2 : firstR (restL s) = (noF, false) := by unfold firstR; rw [hg]
      unfold restL at e2 ⊢
      simp only [e2, Bool.false_eq_true, if_false, words, ↓KLn, Nat.reduceAdd, fin_w]
      rfl
end Go.Vm.X


set_option linter.unusedSimpArgs false
set_option linter.unusedVariables false
namespace Go.Vm.X
open Go.Am Go.Vm
theorem find_un {ok : Bool} {part : ByteArray} {e : Int} (he : e ≠ 0) (l : List Flt) : (unF ok part e :: l).find? isF = if (!ok) = true then some (part, 0, e) else l.find? isF := by
  rw [List.find?_cons]
  cases ok with
  | true => rfl
  | false =>
    have : isF (unF false part e) = true := by
      show (e != 0) = true
      rw [bne_iff_ne]; exact he
    rw [this]; rfl
theorem idx_some {α : Type} {p : α → Bool} {l : List α} {i : Nat} (h : l.findIdx? p = some i) : ∃ a, l[i]? = some a ∧ p a = true := by
  obtain ⟨h1, h2, h3⟩ := List.findIdx?_eq_some_iff_getElem.1 h
  exact ⟨_, List.getElem?_eq_getElem h1, h2⟩
theorem find_scan {α : Type} (part : ByteArray) (code : α → Int) (xs : List α) (l : List Flt) : (scanF part code xs :: l).find? isF = match xs.findIdx? (fun a => code a != 0) with | some i => some (part, (i : Int), (xs[i]?.map code).getD 0) | none => l.find? isF := by
  rw [List.find?_cons]
  unfold scanF
  cases h : xs.findIdx? (fun a => code a != 0) with
  | none => rfl
  | some i =>
    obtain ⟨a, h1, h2⟩ := idx_some h
    simp only [h1, Option.map_some, Option.getD_some]
    have : isF (part, (i : Int), code a) = true := h2
    rw [this]
def ofA (a : Flt × Bool) : Option Flt := if a.2 = true then some a.1 else none
theorem kind_q (d : Int) : (!(kindE d == 0)) = (qI d 1 == 0) := by
  rw [q_known]; unfold kindE
  cases inW d 1 6 <;> rfl
theorem head_law (s : Sng) : (headL s).find? isF = ofA (headA s) := by
  unfold headL headA ofA
  rw [find_un (by decide), find_un (by decide), find_un (by decide), kind_q]
  cases nameOK s.name with
  | false => rfl
  | true => cases (qI s.dia 1 == 0) with
    | true => rfl
    | false => cases inW s.ch 1 (qI s.dia 1) <;> rfl
theorem pat_law (s : Sng) (l : List Flt) : (unF (inW s.pats.length 1 (qI s.dia 2)) ⟨#[112, 97, 116, 116, 101, 114, 110, 115]⟩ 4 :: scanF ⟨#[112, 97, 116, 116, 101, 114, 110, 115]⟩ (patCode s) s.pats :: l).find? isF = (ofA (patA s)).or (l.find? isF) := by
  unfold patA ofA
  rw [find_un (by decide), find_scan]
  cases inW (s.pats.length : Int) 1 (qI s.dia 2) with
  | false => rfl
  | true =>
    simp only [Bool.not_true, Bool.false_eq_true, if_false]
    cases s.pats.findIdx? (fun p => patCode s p != 0) with
    | none => rfl
    | some i => rfl
theorem ten_idx {α : Type} {p : α → Bool} {c : Int} (hc : c ≠ 0) (l : List α) : l.findIdx? (fun o => (if p o = true then c else 0) != 0) = l.findIdx? p := by
  congr 1
  funext o
  cases p o with
  | true => simp only [if_true, bne_iff_ne, ne_eq]; exact hc
  | false => rfl
theorem ten_get {α : Type} {p : α → Bool} {c : Int} {l : List α} {i : Nat} (h : l.findIdx? p = some i) : (l[i]?.map fun o => if p o = true then c else 0).getD 0 = c := by
  obtain ⟨a, h1, h2⟩ := idx_some h
  rw [h1]
  simp only [Option.map_some, Option.getD_some, h2, if_true]
theorem ord_law (s : Sng) (l : List Flt) : (unF (inW s.ords.length 1 64) ⟨#[111, 114, 100, 101, 114, 115]⟩ 4 :: scanF ⟨#[111, 114, 100, 101, 114, 115]⟩ (fun o => if ordBad s o = true then 10 else 0) s.ords :: unF (inW s.rest 0 (IntKind.i64.wrap ((s.ords.length : Int) - 1))) ⟨#[114, 101, 115, 116, 97, 114, 116]⟩ 5 :: l).find? isF = (ofA (ordA s)).or (l.find? isF) := by
  unfold ordA ofA
  rw [find_un (by decide), find_scan, ten_idx (by decide)]
  cases inW (s.ords.length : Int) 1 64 with
  | false => rfl
  | true =>
    simp only [Bool.not_true, Bool.false_eq_true, if_false]
    cases h : s.ords.findIdx? (ordBad s) with
    | some i => simp only [ten_get h]; rfl
    | none =>
      simp only
      rw [find_un (by decide)]
      cases inW s.rest 0 (IntKind.i64.wrap ((s.ords.length : Int) - 1)) <;> rfl
theorem num_law (s : Sng) (l : List Flt) : (unF (inW s.spd 1 31) ⟨#[115, 112, 101, 101, 100]⟩ 5 :: unF (inW s.tem 32 255) ⟨#[116, 101, 109, 112, 111]⟩ 5 :: unF (inW s.glb 0 128) ⟨#[103, 108, 111, 98, 97, 108]⟩ 5 :: unF (!s.lin || qB s.dia 8) ⟨#[108, 105, 110, 101, 97, 114]⟩ 6 :: unF ((s.pans.length : Int) == s.ch) ⟨#[112, 97, 110, 115]⟩ 4 :: scanF ⟨#[112, 97, 110, 115]⟩ (fun o => if (!inW o 0 256) = true then 5 else 0) s.pans :: l).find? isF = (ofA (numA s)).or (l.find? isF) := by
  unfold numA ofA
  have e1 : (!(!s.lin || qB s.dia 8)) = (s.lin && !qB s.dia 8) := by cases s.lin <;> cases qB s.dia 8 <;> rfl
  have e2 : (!((s.pans.length : Int) == s.ch)) = ((s.pans.length : Int) != s.ch) := rfl
  rw [find_un (by decide), find_un (by decide), find_un (by decide), find_un (by decide), find_un (by decide), find_scan, ten_idx (p := fun o => !inW o 0 256) (by decide), e1, e2]
  cases inW s.spd 1 31 with
  | false => rfl
  | true => cases inW s.tem 32 255 with
    | false => rfl
    | true => cases inW s.glb 0 128 with
      | false => rfl
      | true => cases (s.lin && !qB s.dia 8) with
        | true => rfl
        | false => cases ((s.pans.length : Int) != s.ch) with
          | true => rfl
          | false =>
            simp only [Bool.not_true, Bool.false_eq_true, if_false]
            cases h : s.pans.findIdx? (fun o => !inW o 0 256) with
            | none => rfl
            | some i => simp only [ten_get h]; rfl
theorem snd_law (s : Sng) (l : List Flt) : (unF (decide ((s.smps.length : Int) ≤ 31) && (s.dia != 6 || (s.smps.length : Int) == 0)) ⟨#[115, 97, 109, 112, 108, 101, 115]⟩ 4 :: scanF ⟨#[115, 97, 109, 112, 108, 101, 115]⟩ (fun x => if (!smpOK x) = true then 1 else 0) s.smps :: unF (decide ((s.inss.length : Int) ≤ 31) && (qB s.dia 6 || (s.inss.length : Int) == 0)) ⟨#[105, 110, 115, 116, 115]⟩ 4 :: scanF ⟨#[105, 110, 115, 116, 115]⟩ (insCode s) s.inss :: l).find? isF = (ofA (sndA s)).or (l.find? isF) := by
  unfold sndA ofA
  have e1 : (!(decide ((s.smps.length : Int) ≤ 31) && (s.dia != 6 || (s.smps.length : Int) == 0))) = (decide ((s.smps.length : Int) > 31) || (s.dia == 6 && decide ((s.smps.length : Int) > 0))) := by
    rw [Bool.eq_iff_iff]
    simp only [Bool.not_eq_true', Bool.and_eq_false_iff, Bool.or_eq_false_iff, decide_eq_false_iff_not, bne_eq_false_iff_eq, beq_eq_false_iff_ne, Bool.or_eq_true, Bool.and_eq_true, decide_eq_true_eq, beq_iff_eq, ne_eq]
    omega
  have e2 : (!(decide ((s.inss.length : Int) ≤ 31) && (qB s.dia 6 || (s.inss.length : Int) == 0))) = (decide ((s.inss.length : Int) > 31) || (!qB s.dia 6 && decide ((s.inss.length : Int) > 0))) := by
    rw [Bool.eq_iff_iff]
    simp only [Bool.not_eq_true', Bool.and_eq_false_iff, Bool.or_eq_false_iff, decide_eq_false_iff_not, beq_eq_false_iff_ne, Bool.or_eq_true, Bool.and_eq_true, decide_eq_true_eq, ne_eq]
    cases qB s.dia 6 with
    | true => simp only [Bool.true_eq_false, false_and, or_false, Bool.not_true, Bool.false_eq_true]; omega
    | false => simp only [true_and, Bool.not_false]; omega
  rw [find_un (by decide), find_scan, ten_idx (p := fun x => !smpOK x) (by decide), find_un (by decide), find_scan, e1, e2]
  cases (decide ((s.smps.length : Int) > 31) || (s.dia == 6 && decide ((s.smps.length : Int) > 0))) with
  | true => rfl
  | false =>
    simp only [Bool.false_eq_true, if_false]
    cases h : s.smps.findIdx? (fun x => !smpOK x) with
    | some i => simp only [ten_get h]; rfl
    | none =>
      simp only
      cases (decide ((s.inss.length : Int) > 31) || (!qB s.dia 6 && decide ((s.inss.length : Int) > 0))) with
      | true => rfl
      | false =>
        simp only [Bool.false_eq_true, if_false]
        cases s.inss.findIdx? (fun p => insCode s p != 0) <;> rfl
theorem wrong_same (s : Sng) : wrongP s = wrongR s := by
  unfold wrongP wrongR
  rw [head_law]
  unfold restL
  rw [pat_law, ord_law, num_law, snd_law]
  unfold asks ofA
  cases h1 : (headA s).2 with
  | true => simp only [List.find?_cons, h1]; rfl
  | false => cases h2 : (patA s).2 with
    | true => simp only [List.find?_cons, h1, h2]; rfl
    | false => cases h3 : (ordA s).2 with
      | true => simp only [List.find?_cons, h1, h2, h3]; rfl
      | false => cases h4 : (numA s).2 with
        | true => simp only [List.find?_cons, h1, h2, h3, h4]; rfl
        | false => cases h5 : (sndA s).2 with
          | true => simp only [List.find?_cons, h1, h2, h3, h4, h5]; rfl
          | false => simp only [List.find?_cons, h1, h2, h3, h4, h5]; rfl
end Go.Vm.X


set_option linter.unusedSimpArgs false
set_option linter.unusedVariables false
namespace Go.Vm.X
open Go.Am Go.Vm
attribute [local congr] bind_c ifP_c loop_c K1_c ite_c fork_c guard_c unl_c
def w64 (n : Int) : Int := IntKind.i64.wrap n
def lightN (s : Sng) : Int :=
  s.inss.foldl (fun n x => w64 (n + w64 (w64 (w64 (w64 (w64 (1 + x.keys.length) + x.vol.pts.length) + x.pan.pts.length) + x.pit.pts.length) + x.name.size)))
    (s.smps.foldl (fun n x => w64 (n + w64 (w64 (1 + x.data.length) + x.name.size)))
      (s.pats.foldl (fun n p => w64 (n + w64 (1 + p.2.length))) (w64 (w64 (s.ords.length + s.pans.length) + s.name.size))))
theorem smp_st (p : Smp) (vs : List PV) (t : TypeId) (l : PHeap) : storeP 13 (.ptr 0 0) (.agg p.cs) (.box vs t .rw :: l) = (putAt vs 0 p.cs).map fun vs' => .box vs' t .rw :: l := storeC0 rfl (by decide)
theorem smp_put (p : Smp) {vs : List PV} (h : vs.length = 13) : putAt vs 0 p.cs = some p.cs := put_whole (by rw [h]; rfl) rfl
def smp0 : List PV := [.str ⟨#[]⟩, .nilS, .int .i64 0, .int .i64 0, .int .i64 0, .int .i64 0, .int .i64 0, .int .i64 0, .int .i64 0, .int .i64 0, .int .i64 0, .int .i64 0, .int .i64 0]
theorem mc0 (p : Smp) : p.cs[0]? = some (.str p.name) := nr rfl
theorem mc1 (p : Smp) : p.cs[1]? = some (ints p.data) := nr rfl
theorem ic0 (p : Ins) : p.cs[0]? = some (.str p.name) := nr rfl
theorem ic3 (p : Ins) : p.cs[3]? = some (ptsPV p.vol.pts) := nr rfl
theorem ic11 (p : Ins) : p.cs[11]? = some (ptsPV p.pan.pts) := nr rfl
theorem ic19 (p : Ins) : p.cs[19]? = some (ptsPV p.pit.pts) := nr rfl
theorem nthOne (v w : PV) (vs : List PV) : nthP (v :: w :: vs) 1 = w := nr rfl
theorem c7 (s : Sng) (hl : SngLen s) (h : PHeap) : Γ0 7 [.agg s.cs] h = some (.bool (decide (lightN s ≤ 60000)), h) := by
  obtain ⟨N, h1, h2, h3⟩ : ∃ N : Nat, s.pats.length < N ∧ s.smps.length < N ∧ s.inss.length < N := ⟨s.pats.length + s.smps.length + s.inss.length + 1, by omega, by omega, by omega⟩
  refine gbody (F := A7) (by kernel_rfl) N ?_
  rw [s7_eq]; unfold s7 lightN w64
  have m1 := hl.pats
  have m2 := hl.smps
  have m3 := hl.inss
  simp only [words, ↓KLn, Nat.reduceAdd, sc0, sc3, sc9, sc10, len_ints, len_str, len_pats]
  refine loop_fold s.pats (fun n p => IntKind.i64.wrap (n + IntKind.i64.wrap (1 + p.2.length))) _ (fun n i => [.int .i64 n, .int .i64 (i : Int)]) h1 rfl (fun i p n hi hp K => ?_) fun K => ?_
  · unfold s7_L2
    simp only [words, ↓KLn, Nat.reduceAdd, nthOne, ltT hi, decide_true, if_true, idx_pats _ hp, pat_fptr, pat_st, pat_put, pc1, len_cells, succ63 (show i < 9223372036854775807 by omega), trim_ii1]
  · unfold s7_L2
    simp only [words, ↓KLn, Nat.reduceAdd, nthOne, ltF, decide_false, Bool.false_eq_true, if_false, sc11, len_smps]
    refine loop_fold s.smps (fun n x => IntKind.i64.wrap (n + IntKind.i64.wrap (IntKind.i64.wrap (1 + x.data.length) + x.name.size))) _ (fun n i => [.int .i64 n, .int .i64 (i : Int)]) h2 rfl (fun i p n hi hp K => ?_) fun K => ?_
    · have hz := smp_put (vs := smp0) p rfl
      unfold smp0 at hz
      unfold s7_L1
      simp only [words, ↓KLn, Nat.reduceAdd, nthOne, ltT hi, decide_true, if_true, idx_smps _ hp, smp_fptr, smp_st, hz, mc0, mc1, len_ints, len_str, succ63 (show i < 9223372036854775807 by omega), trim_ii1]
    · unfold s7_L1
      simp only [words, ↓KLn, Nat.reduceAdd, nthOne, ltF, decide_false, Bool.false_eq_true, if_false, sc12, len_inss]
      refine loop_fold s.inss (fun n x => IntKind.i64.wrap (n + IntKind.i64.wrap (IntKind.i64.wrap (IntKind.i64.wrap (IntKind.i64.wrap (IntKind.i64.wrap (1 + x.keys.length) + x.vol.pts.length) + x.pan.pts.length) + x.pit.pts.length) + x.name.size))) _ (fun n i => [.int .i64 n, .int .i64 (i : Int)]) h3 rfl (fun i p n hi hp K => ?_) fun K => ?_
      · have hz := ins_put (vs := Z33) p rfl
        unfold s7_L0
        simp only [words, ↓KLn, Nat.reduceAdd, nthOne, ltT hi, decide_true, if_true, idx_inss _ hp, ins_fptr, ins_st, hz, ic0, ic1, ic3, ic11, ic19, len_keys, len_pts, len_str, succ63 (show i < 9223372036854775807 by omega), trim_ii1]
      · unfold s7_L0
        simp only [words, ↓KLn, Nat.reduceAdd, nthOne, ltF, decide_false, Bool.false_eq_true, if_false, fin_bool]
end Go.Vm.X


set_option linter.unusedSimpArgs false
set_option linter.unusedVariables false
set_option maxRecDepth 20000
namespace Go.Vm.X
open Go.Am Go.Vm
attribute [local congr] bind_c ifP_c loop_c K1_c ite_c fork_c guard_c unl_c
def cell0 : Cell := ⟨0, 0, 0, 0, 0, 0⟩
theorem fill2r (x y : PV) (k : IntKind) (m : Int) (b lo n v sz : Nat) : fillP [x, y] [(0, 1, .int k m), (1, 1, .ref b lo n v sz)] = some [.int k m, .ref b lo n v sz] := nr rfl
theorem put2r (x y : PV) (k : IntKind) (m : Int) (b lo n v sz : Nat) : putAt [x, y] 0 [.int k m, .ref b lo n v sz] = some [.int k m, .ref b lo n v sz] := nr rfl
theorem part2 (a b : PV) : partP true 0 2 [a, b] = some (.agg [a, b]) := nr rfl
theorem c55 (r ch : Int) (hr : inW r 1 64 = true) (hc : inW ch 1 16 = true) (h : PHeap) : Γ0 55 [.int .i64 r, .int .i64 ch] h = some (.tuple [.agg (patC (r, List.replicate (r * ch).toNat cell0)), .int .i64 0], h) := by
  refine gbody (F := A55) (by kernel_rfl) 1 ?_
  rw [s55_eq]; unfold s55
  have hr' := hr
  have hc' := hc
  unfold inW at hr' hc'
  simp only [Bool.and_eq_true, decide_eq_true_eq] at hr' hc'
  have hb1 : r * ch ≤ 64 * 16 := Int.mul_le_mul hr'.2 hc'.2 (by omega) (by omega)
  have hb2 : 1 * 1 ≤ r * ch := Int.mul_le_mul hr'.1 hc'.1 (by omega) (by omega)
  obtain ⟨N, hN⟩ : ∃ N : Nat, r * ch = (N : Int) := ⟨(r * ch).toNat, by omega⟩
  have hw : IntKind.i64.wrap (r * ch) = (N : Int) := by rw [wrap64 (by unfold isI64; omega), hN]
  have hm : N ≤ mostLen := by unfold mostLen; omega
  have hz : (List.replicate N ([.int .i64 0, .int .i64 0, .int .i64 0, .int .i64 0, .int .i64 0, .int .i64 0] : List PV)) = (List.replicate N cell0).map Cell.cs := by rw [List.map_replicate]; rfl
  have hlen : ((List.replicate N cell0).map Cell.cs).length = N := by simp
  rw [hN, Int.toNat_natCast]
  simp only [words, ↓KLn, Nat.reduceAdd, c103, c104, hr, hc, Bool.not_true, Bool.false_eq_true, if_false, bin_mul, hw, mkSlice_new hm, hz, fill2r, st2, put2r, part2]
  have e := fz_logF (h := h) (l := [.box [.int .i64 r, .ref (h.length + 1) 0 N N 6] 39 .rw, .log ((List.replicate N cell0).map Cell.cs) 6 41 .rw]) (k := 1) (s := 6) rfl (by rw [hlen]; omega) (pure_map (f := Cell.cs) (fun c => rfl) _)
  rw [hlen] at e
  refine fin_new (ws := [.agg (patC (r, List.replicate N cell0)), .int .i64 0]) (l := [.box [.int .i64 r, .ref (h.length + 1) 0 N N 6] 39 .rw, .log ((List.replicate N cell0).map Cell.cs) 6 41 .ro]) ?_ ?_
  · rw [fzL_cons, fz_aggs, fzL_cons, fz_keep, Option.bind_some, fzL_cons]
    show Option.bind (Option.map _ (Option.map _ ((fz (.flat 6) (.ref (h.length + 1) 0 N N 6) _).bind _))) _ = _
    rw [show ([PV.int .i64 0, .int .i64 0, .int .i64 0, .int .i64 0, .int .i64 0, .int .i64 0] : List PV).length = 6 from rfl, e]
    simp only [bS, mapS, fzL_nil, fzL_cons, fz_keep, List.set_cons_succ, List.set_cons_zero]
    rfl
  · intro v hv
    simp only [List.mem_cons, List.not_mem_nil, or_false] at hv
    rcases hv with rfl | rfl
    · exact plainP_lt rfl
    · exact plainP_lt rfl
def blank : Sng := { name := ⟨#[]⟩, dia := 1, ch := 4, ords := [0], rest := 0, spd := 6, tem := 125, glb := 128, lin := false, pans := [0, 256, 256, 0], pats := [(64, List.replicate 256 cell0)], smps := [], inss := [] }
def blankL : Sng := { blank with lin := true }
def blk13 (ords pans pats : PV) : PBlk := .box [.str ⟨#[]⟩, .int .i64 1, .int .i64 4, ords, .int .i64 0, .int .i64 6, .int .i64 125, .int .i64 128, .bool false, pans, pats, .nilS, .nilS] 27 .rw
theorem fill_b (d ch : Int) (b : Bool) : fillP [.str ⟨#[]⟩, .int .i64 0, .int .i64 0, .nilS, .int .i64 0, .int .i64 0, .int .i64 0, .int .i64 0, .bool false, .nilS, .nilS, .nilS, .nilS] [(1, 1, .int .i64 d), (2, 1, .int .i64 ch), (5, 1, .int .i64 6), (6, 1, .int .i64 125), (7, 1, .int .i64 128), (8, 1, .bool b)] = some [.str ⟨#[]⟩, .int .i64 d, .int .i64 ch, .nilS, .int .i64 0, .int .i64 6, .int .i64 125, .int .i64 128, .bool b, .nilS, .nilS, .nilS, .nilS] := nr rfl
theorem st13 (a b c d e f g i j k l m n : PV) (vs : List PV) (t : TypeId) (r : PHeap) : storeP 13 (.ptr 0 0) (.agg [a, b, c, d, e, f, g, i, j, k, l, m, n]) (.box vs t .rw :: r) = (putAt vs 0 [a, b, c, d, e, f, g, i, j, k, l, m, n]).map fun vs' => .box vs' t .rw :: r := storeC0 rfl (by decide)
theorem part13 (a b c d e f g i j k l m n : PV) : partP true 0 13 [a, b, c, d, e, f, g, i, j, k, l, m, n] = some (.agg [a, b, c, d, e, f, g, i, j, k, l, m, n]) := nr rfl
theorem part13_9 (a b c d e f g i j k l m n : PV) : [a, b, c, d, e, f, g, i, j, k, l, m, n][9]? = some k := nr rfl
theorem part13_3 (a b c d e f g i j k l m n : PV) : [a, b, c, d, e, f, g, i, j, k, l, m, n][3]? = some d := nr rfl
theorem part13_10 (a b c d e f g i j k l m n : PV) : [a, b, c, d, e, f, g, i, j, k, l, m, n][10]? = some l := nr rfl
theorem put13_9 (a b c d e f g i j k l m n : PV) (u v w x y : Nat) : putAt [a, b, c, d, e, f, g, i, j, k, l, m, n] 9 [.ref u v w x y] = some [a, b, c, d, e, f, g, i, j, .ref u v w x y, l, m, n] := nr rfl
theorem put13_3 (a b c d e f g i j k l m n : PV) (u v w x y : Nat) : putAt [a, b, c, d, e, f, g, i, j, k, l, m, n] 3 [.ref u v w x y] = some [a, b, c, .ref u v w x y, e, f, g, i, j, k, l, m, n] := nr rfl
theorem put13_10 (a b c d e f g i j k l m n : PV) (u v w x y : Nat) : putAt [a, b, c, d, e, f, g, i, j, k, l, m, n] 10 [.ref u v w x y] = some [a, b, c, d, e, f, g, i, j, k, .ref u v w x y, m, n] := nr rfl
theorem st1r (u v w x y o : Nat) (vs : List PV) (t : TypeId) (l : PHeap) : storeP 1 (.ptr 0 o) (.ref u v w x y) (.box vs t .rw :: l) = (putAt vs o [.ref u v w x y]).map fun vs' => .box vs' t .rw :: l := st1 rfl o vs t l
theorem fill1i (z : PV) (k : IntKind) (n : Int) : fillP (repP [z] 1) [(0, 1, .int k n)] = some [.int k n] := fill_int z k n
theorem pure1i (k : IntKind) (n : Int) : [PV.int k n].all pure1 = true := nr rfl
theorem chunk1i (v : PV) : chunk 1 1 [v] = [[v]] := nr rfl
theorem fillLit (a b c d : Int) : fillP [.int .i64 0, .int .i64 0, .int .i64 0, .int .i64 0] [(0, 1, .int .i64 a), (1, 1, .int .i64 b), (2, 1, .int .i64 c), (3, 1, .int .i64 d)] = some [.int .i64 a, .int .i64 b, .int .i64 c, .int .i64 d] := nr rfl
def pans4 : List Int := [0, 256, 256, 0]
theorem lit4 {i : Nat} (hi : i < 4) {a : Int} (ha : pans4[i]? = some a) : indexArrP 4 false 1 (.agg [.int .i64 0, .int .i64 256, .int .i64 256, .int .i64 0]) (.int .i64 i) = some (.int .i64 a) := by
  have : i = 0 ∨ i = 1 ∨ i = 2 ∨ i = 3 := by omega
  rcases this with rfl | rfl | rfl | rfl <;> (cases ha; rfl)
def hsP (h : PHeap) : Nat → PHeap
  | 0 => h ++ [.box [.str ⟨#[]⟩, .int .i64 0, .int .i64 0, .nilS, .int .i64 0, .int .i64 0, .int .i64 0, .int .i64 0, .bool false, .nilS, .nilS, .nilS, .nilS] 27 .rw, .box (qOf 1) 83 .rw, blk13 .nilS .nilS .nilS]
  | i + 1 => h ++ [.box [.str ⟨#[]⟩, .int .i64 0, .int .i64 0, .nilS, .int .i64 0, .int .i64 0, .int .i64 0, .int .i64 0, .bool false, .nilS, .nilS, .nilS, .nilS] 27 .rw, .box (qOf 1) 83 .rw, blk13 .nilS (.ref (h.length + 3) 0 (i + 1) (i + 1) 1) .nilS, .log ((pans4.take (i + 1)).map iV) 1 3 .rw]
theorem app3 {h l : PHeap} {a b c : PBlk} {sz n : Nat} {t : TypeId} {rows : List (List PV)} {row : List PV} (hn : n = rows.length) (hs : 0 < sz) (hp : row.all oneP = true) (hm : n < mostLen) :
    appendP t sz (.ref (h.length + 3) 0 n n sz) (.frz sz [row]) (h ++ a :: b :: c :: .log rows sz t .rw :: l) = some (.ref (h.length + 3) 0 (n + 1) (n + 1) sz, h ++ a :: b :: c :: .log (rows ++ [row]) sz t .rw :: l) := by
  subst hn
  exact append_new (k := 3) (l := a :: b :: c :: .log rows sz t .rw :: l) rfl hs hp hm
theorem s17_pan {N : Nat} {h : PHeap} {j17 : List PV → PHeap → Pt} {i : Nat} (hi : i < 4) (K : List PV → PHeap → Pt) :
    s17_L1 Γ0 N (.int .i64 1) (.int .i64 4) (.ptr (h.length + 2) 0) (hsP h 0) j17 K [.int .i64 i] (hsP h i) = K [.int .i64 ((i + 1 : Nat) : Int)] (hsP h (i + 1)) := by
  obtain ⟨a, ha⟩ : ∃ a, pans4[i]? = some a := ⟨_, List.getElem?_eq_getElem hi⟩
  have hlt : ((i : Int) < 4) = True := eq_true (by omega)
  have e11 : ((1 : Int) == 1) = true := rfl
  have hrow : ([PV.int .i64 a] : List PV).all oneP = true := rfl
  have hk : ∀ h', h'[h.length + 2]? = some (blk13 .nilS (.ref (h.length + 3) 0 (i + 1) (i + 1) 1) .nilS) → trim (hsP h 0) [.int .i64 ((i + 1 : Nat) : Int)] h' = h' := fun h' e => by
    refine trim_keep (b := h.length + 2) (by show _ < (h ++ _).length; simp) e ?_ (not_ltB (b := h.length + 3) (lo := 0) (m := i + 1) (v := i + 1) (sz := 1) (by simp) (by show (h ++ _).length ≤ _; simp))
    show (h ++ _)[_]? ≠ _
    rw [get_new]
    intro k
    cases k
  unfold s17_L1
  cases i with
  | zero =>
    show _ = K _ (hsP h 1)
    simp only [hsP, blk13, words, ↓KLn, Nat.reduceAdd, hlt, decide_true, if_true, e11, fillLit, lit4 hi ha, part13_9, fill1i, pure1i, guardW, chunk1i, append_nilS (sz := 1) (by decide) hrow, len3, st1r, put13_9, succ63 (show 0 < 9223372036854775807 by omega)]
    cases ha
    refine congrArg (K _) (Eq.trans (hk _ ?_) ?_)
    · rw [get_new]; rfl
    · rfl
  | succ i =>
    have hml : i + 1 < mostLen := by unfold mostLen; omega
    have hrl : i + 1 = ((pans4.take (i + 1)).map iV).length := by
      rw [List.length_map, List.length_take]; show i + 1 = min (i + 1) 4; omega
    simp only [hsP, blk13, words, ↓KLn, Nat.reduceAdd, hlt, decide_true, if_true, e11, fillLit, lit4 hi ha, part13_9, fill1i, pure1i, guardW, chunk1i, app3 (sz := 1) hrl (by decide) hrow hml, st1r, put13_9, succ63 (show i + 1 < 9223372036854775807 by omega)]
    refine congrArg (K _) (Eq.trans (hk _ ?_) ?_)
    · rw [get_new]; rfl
    · rw [take_succ_get ha, List.map_append]; rfl
theorem put13b (a b c d e f g i j k l m n : PV) (x : ByteArray) (y z : Int) (w : Bool) : putAt [a, b, c, d, e, f, g, i, j, k, l, m, n] 0 [.str x, .int .i64 y, .int .i64 z, .nilS, .int .i64 0, .int .i64 6, .int .i64 125, .int .i64 128, .bool w, .nilS, .nilS, .nilS, .nilS] = some [.str x, .int .i64 y, .int .i64 z, .nilS, .int .i64 0, .int .i64 6, .int .i64 125, .int .i64 128, .bool w, .nilS, .nilS, .nilS, .nilS] := nr rfl
theorem put13r (a b c d e f g i j k l m n : PV) (x : ByteArray) (y z : Int) (w : Bool) (q1 q2 q3 q4 q5 r1 r2 r3 r4 r5 t1 t2 t3 t4 t5 : Nat) : putAt [a, b, c, d, e, f, g, i, j, k, l, m, n] 0 [.str x, .int .i64 y, .int .i64 z, .ref q1 q2 q3 q4 q5, .int .i64 0, .int .i64 6, .int .i64 125, .int .i64 128, .bool w, .ref r1 r2 r3 r4 r5, .ref t1 t2 t3 t4 t5, .nilS, .nilS] = some [.str x, .int .i64 y, .int .i64 z, .ref q1 q2 q3 q4 q5, .int .i64 0, .int .i64 6, .int .i64 125, .int .i64 128, .bool w, .ref r1 r2 r3 r4 r5, .ref t1 t2 t3 t4 t5, .nilS, .nilS] := nr rfl
def pat64 : Pat := (64, List.replicate 256 cell0)
theorem fill_pat (p : Pat) : fillP (repP [.int .i64 0, .nilS] 1) [(0, 2, .agg (patC p))] = some (patC p) := nr rfl
theorem pure_pat (p : Pat) : (patC p).all pure1 = true := nr rfl
theorem chunk_pat (p : Pat) : chunk 2 1 (patC p) = [patC p] := nr rfl
def bl7 (b0 : PBlk) (n : Nat) (m1 m2 m3 : Md) : PHeap := [b0, .box (qOf 1) 83 .rw, blk13 (.ref (n + 6) 0 1 1 1) (.ref (n + 3) 0 4 4 1) (.ref (n + 5) 0 1 1 2), .log (pans4.map iV) 1 3 m2, .box (patC pat64) 39 .rw, .log [patC pat64] 2 39 m3, .log [[.int .i64 0]] 1 3 m1]
def b13z : PBlk := .box [.str ⟨#[]⟩, .int .i64 0, .int .i64 0, .nilS, .int .i64 0, .int .i64 0, .int .i64 0, .int .i64 0, .bool false, .nilS, .nilS, .nilS, .nilS] 27 .rw
def hsQ (h : PHeap) : Nat → PHeap
  | 0 => hsP h 4
  | _ + 1 => h ++ bl7 b13z h.length .rw .rw .rw
theorem s17_pat {N : Nat} {h : PHeap} {j20 : List PV → PHeap → Pt} (K : List PV → PHeap → Pt) :
    s17_L0 Γ0 N (.int .i64 4) (.int .i64 1) (.ptr (h.length + 2) 0) (hsP h 4) j20 K [.int .i64 ((0 : Nat) : Int)] (hsP h 4) = K [.int .i64 ((1 : Nat) : Int)] (hsQ h 1) := by
  have k27 : ∀ h, Γ0 55 [.int .i64 64, .int .i64 4] h = some (.tuple [.agg (patC pat64), .int .i64 0], h) := fun h => c55 64 4 rfl rfl h
  have hlt : (((0 : Nat) : Int) < 1) = True := eq_true (by decide)
  have hp : (patC pat64).all oneP = true := rfl
  have hr : ([PV.int .i64 ((0 : Nat) : Int)] : List PV).all oneP = true := rfl
  have hk : ∀ h', h'[h.length + 2]? = some (blk13 (.ref (h.length + 6) 0 1 1 1) (.ref (h.length + 3) 0 4 4 1) (.ref (h.length + 5) 0 1 1 2)) → trim (hsP h 4) [.int .i64 ((1 : Nat) : Int)] h' = h' := fun h' e => by
    refine trim_keep (b := h.length + 2) (by show _ < (h ++ _).length; simp) e ?_ (not_ltB (b := h.length + 6) (lo := 0) (m := 1) (v := 1) (sz := 1) (by simp) (by show (h ++ _).length ≤ _; simp))
    show (h ++ _)[_]? ≠ _
    rw [get_new]
    intro k
    cases k
  unfold s17_L0
  simp only [hsP, blk13, words, ↓KLn, Nat.reduceAdd, hlt, decide_true, if_true, k27, pat_st, pat_put, part13_10, pat_fptr, fill_pat, pure_pat, guardW, chunk_pat, append_nilS (sz := 2) (by decide) hp, lock_len, unl_new, part13_3, fill1i, pure1i, chunk1i, append_nilS (sz := 1) (by decide) hr, len6, st1r, put13_10, put13_3, succ63 (show 0 < 9223372036854775807 by omega)]
  refine congrArg (K _) (Eq.trans (hk _ ?_) ?_)
  · rw [get_new]; rfl
  · rfl
theorem c17 (h : PHeap) : Γ0 17 [.int .i64 1, .int .i64 4, .int .i64 1] h = some (.tuple [.agg blank.cs, .int .i64 0], h) := by
  obtain ⟨N, hN⟩ : ∃ N : Nat, 4 < N := ⟨_, Nat.lt_succ_self _⟩
  refine gbody (F := A17) (by kernel_rfl) N ?_
  rw [s17_eq]; unfold s17
  have hk : kindE 1 = 0 := rfl
  have hq := q_put 1 (vs := Z29) rfl
  have e0 : ((0 : Int) != 0) = false := rfl
  have e1 : inW 4 1 (qI 1 1) = true := by decide
  have e2 : inW 1 1 32 = true := by decide
  have e3 : qB 1 8 = false := rfl
  simp only [words, ↓KLn, Nat.reduceAdd, c53, hk, q_st, hq, e0, Bool.false_eq_true, if_false, q_1, c54, e1, e2, Bool.not_true, Bool.or_false, q_8, e3, fill_b, st13, put13b]
  refine loop_run (fun i => [.int .i64 (i : Int)]) (hsP h) 4 hN rfl rfl (fun i hi K => s17_pan hi K) fun K => ?_
  have hf4 : (((4 : Nat) : Int) < 4) = False := eq_false (by decide)
  unfold s17_L1
  simp only [words, ↓KLn, Nat.reduceAdd, hf4, decide_false, Bool.false_eq_true, if_false]
  refine loop_run (fun i => [.int .i64 (i : Int)]) (hsQ h) 1 (by omega) rfl rfl (fun i hi K => ?_) fun K => ?_
  · have : i = 0 := by omega
    subst this
    exact s17_pat K
  · have hf1 : (((1 : Nat) : Int) < 1) = False := eq_false (by decide)
    unfold s17_L0
    simp only [hsQ, bl7, b13z, blk13, words, ↓KLn, Nat.reduceAdd, hf1, decide_false, Bool.false_eq_true, if_false, part13, st13, put13r]
    refine fin_new (ws := [.agg blank.cs, .int .i64 0]) (l := bl7 (blk13 (.ref (h.length + 6) 0 1 1 1) (.ref (h.length + 3) 0 4 4 1) (.ref (h.length + 5) 0 1 1 2)) h.length .ro .ro .ro) ?_ ?_
    · generalize hb0 : PBlk.box [.str ⟨#[]⟩, .int .i64 1, .int .i64 4, .ref (h.length + 6) 0 1 1 1, .int .i64 0, .int .i64 6, .int .i64 125, .int .i64 128, .bool false, .ref (h.length + 3) 0 4 4 1, .ref (h.length + 5) 0 1 1 2, .nilS, .nilS] 27 .rw = b0
      have z1 : fz (.flat 1) (.ref (h.length + 6) 0 1 1 1) (h ++ bl7 b0 h.length .rw .rw .rw) = some (ints [0], h ++ bl7 b0 h.length .ro .rw .rw) := fz_logF (k := 6) (rows := [[.int .i64 0]]) rfl (by decide) rfl
      have z2 : fz (.flat 1) (.ref (h.length + 3) 0 4 4 1) (h ++ bl7 b0 h.length .ro .rw .rw) = some (ints pans4, h ++ bl7 b0 h.length .ro .ro .rw) := fz_logF (k := 3) (rows := pans4.map iV) rfl (by decide) rfl
      have z3 : fz (.sl 2 [.keep, .flat 6]) (.ref (h.length + 5) 0 1 1 2) (h ++ bl7 b0 h.length .ro .ro .rw) = some (patsPV [pat64], h ++ bl7 b0 h.length .ro .ro .ro) := fz_logS (k := 5) (rows := [patC pat64]) rfl (by decide) (fun r hr => by simp only [List.mem_singleton] at hr; subst hr; rfl) rfl
      have hb : ∀ b, blk13 (.ref (h.length + 6) 0 1 1 1) (.ref (h.length + 3) 0 4 4 1) (.ref (h.length + 5) 0 1 1 2) = b → True := fun _ _ => trivial
      subst hb0
      rw [fzL_cons, fz_aggs]
      show Option.bind (Option.map _ (fzL _ _ (h ++ bl7 (blk13 (.ref (h.length + 6) 0 1 1 1) (.ref (h.length + 3) 0 4 4 1) (.ref (h.length + 5) 0 1 1 2)) h.length .rw .rw .rw))) _ = _
      unfold blk13 SA13
      simp only [fzL_cons, fzL_nil, fz_keep, bS, mapS, z1, z2, z3, fz_nils]
      rfl
    · intro v hv
      simp only [List.mem_cons, List.not_mem_nil, or_false] at hv
      rcases hv with rfl | rfl
      · exact plainP_lt rfl
      · exact plainP_lt rfl
end Go.Vm.X


set_option linter.unusedSimpArgs false
set_option linter.unusedVariables false
set_option maxRecDepth 20000
namespace Go.Vm.X
open Go.Am Go.Vm
attribute [local congr] bind_c ifP_c loop_c K1_c ite_c fork_c guard_c unl_c
theorem sng_st (s : Sng) (vs : List PV) (t : TypeId) (l : PHeap) : storeP 13 (.ptr 0 0) (.agg s.cs) (.box vs t .rw :: l) = (putAt vs 0 s.cs).map fun vs' => .box vs' t .rw :: l := storeC0 rfl (by decide)
theorem sng_put (s : Sng) (a b c d e f g i j k l m n : PV) : putAt [a, b, c, d, e, f, g, i, j, k, l, m, n] 0 s.cs = some s.cs := put_whole rfl rfl
theorem st1b (b : Bool) (o : Nat) (vs : List PV) (t : TypeId) (l : PHeap) : storeP 1 (.ptr 0 o) (.bool b) (.box vs t .rw :: l) = (putAt vs o [.bool b]).map fun vs' => .box vs' t .rw :: l := st1 rfl o vs t l
theorem put_lin : putAt blank.cs 8 [.bool true] = some blankL.cs := nr rfl
theorem ix_pan : indexAddrP 1 (ints blank.pans) (.int .i64 1) = some (.fptr (iV 256) 0) := nr rfl
theorem blank_len : SngLen blank where
  name := by decide
  ords := by decide
  pans := by decide
  pats := by decide
  cells := fun p hp => by
    have : p = pat64 := by simpa [blank, pat64] using hp
    subst this
    show (List.replicate 256 cell0).length < _
    rw [List.length_replicate]; decide
  smps := by decide
  smp := fun p hp => by cases hp
  inss := by decide
  ins := fun p hp => by cases hp
theorem blankL_len : SngLen blankL where
  name := by decide
  ords := by decide
  pans := by decide
  pats := by decide
  cells := blank_len.cells
  smps := by decide
  smp := fun p hp => by cases hp
  inss := by decide
  ins := fun p hp => by cases hp
theorem wrong_blank : wrongP blank = okF := by kernel_rfl
theorem wrong_blankL : wrongP blankL = (⟨#[108, 105, 110, 101, 97, 114]⟩, 0, 6) := by kernel_rfl
theorem c8 (h : PHeap) : Γ0 8 [] h = some (.bool true, h) := by
  refine gbody (F := A8) (by kernel_rfl) 1 ?_
  rw [s8_eq]; unfold s8
  simp only [words, ↓KLn, Nat.reduceAdd, c17, sng_st, sng_put, s_whole, st1b, put_lin, c24 blankL blankL_len, wrong_blankL, wrongV, y30, y31, y32, c16 blank blank_len, wrong_blank, sc9, len_ints, ix_pan, iv0, bin_seq, fin_bool]
  have e1 : (okF.2.2 == 0) = true := rfl
  have e2 : ((blank.pans.length : Int) == 4) = true := rfl
  simp only [e1, e2, beq_self_eq_true, Bool.and_self]
end Go.Vm.X

