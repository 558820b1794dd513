import Derived.Test.YtffennknofmjoaaGreatP4
import Derived.Test.YtffennknofmjoaaGreatChecked
set_option linter.unusedSimpArgs false
set_option linter.unusedVariables false
set_option maxRecDepth 100000
open Option renaming some → I
namespace Go.aN.X
open Go.Proofs Go.bB Go.aN
abbrev bb:=List J->U->bh
end Go.aN.X
namespace Go.aN.G
open Go.bB Go.aN
def bM(k s p:Nat)(r:eh):eh:=o k (.load true s (t p)) r
def bP(s a b:Nat)(r:eh):eh:=n (.store s (t a) (t b)) r
def bS(k a:Nat)(r:eh):eh:=o k (.len false (t a)) r
def b3(k a:Nat)(r:eh):eh:=o k (.move (i a)) r
def cn(k:Nat)(r:eh):eh:=o k (.move (.const (.bool false))) r
def gk(k:Nat)(r:eh):eh:=o k (.move (.const (.bool true))) r
def cu(k s a b:Nat)(r:eh):eh:=o k (.indexAddr s (t a) (t b)) r
def c9(k s a:Nat)(r:eh):eh:=o k (.box s (t a)) r
def dA(k f a:Nat)(r:eh):eh:=o k (.call f [t a]) r
def dU(k f a b:Nat)(r:eh):eh:=o k (.call f [t a,t b]) r
def dB(k a:Nat)(r:eh):eh:=o k (.un .not (t a)) r
def eC(k a j:Nat)(r:eh):eh:=o k (.extract (t a) j) r
def f'(k a:Nat)(r:eh):eh:=o k (.nilCheck (t a)) r
end Go.aN.G
namespace Go.aN.X
open Go.Proofs Go.bB Go.aN
def b5(i:FuncId)(A:bU):Prop:=∃fn c,Aj Tryz.prog i fn c A.erase
theorem b7 {i : FuncId} {A : bU} {fn : Func} {c : Code} (h : Tryz.prog.funcs[i]? = I fn) (h1 : fn.body = I c) (h2 : (fn.name == "runtime.NumGoroutine") = false := by kernel_rfl) (ak : dO Tryz.prog fn.ntmps c = I (dv A.erase.code) := by kernel_rfl) (aH : lp A.erase.code = true := by kernel_rfl) (aM : decide (A.erase.nG ≤ fn.ntmps) = true := by kernel_rfl) (bp : fn.results.toList.mapM (Ai Tryz.prog) = I A.erase.results := by kernel_rfl) : b5 i A := ⟨fn, c, h, h1, h2, ak, aH, of_decide_eq_true aM, bp⟩
def ym:List Value:=[(.string ⟨#[]⟩),(.slice none 0 0),(.int .i64 0),(.int .i64 0),(.int .i64 0),(.int .i64 0),(.int .i64 0),(.int .i64 0),(.int .i64 0),(.int .i64 0),(.int .i64 0),(.int .i64 0),(.int .i64 0)]
def ko:List Value:=[(.string ⟨#[]⟩),(.int .i64 0),(.int .i64 0),(.slice none 0 0),(.int .i64 0),(.int .i64 0),(.int .i64 0),(.int .i64 0),(.bool false),(.slice none 0 0),(.slice none 0 0),(.slice none 0 0),(.slice none 0 0)]
def MQ:List Value:=[(.int .i64 0),(.int .i64 0),(.int .i64 0),(.int .i64 0),(.int .i64 0),(.int .i64 0)]
def XQ:List Value:=[(.int .i64 0),(.int .i64 0),(.int .i64 0),(.int .i64 0)]
def eH:List Value:=[(.string ⟨#[]⟩),(.int .i64 0),(.int .i64 0)]
def MR:List Value:=[(.string ⟨#[]⟩),(.int .i64 0),(.int .i64 0),(.int .i64 0),(.int .i64 0),(.int .i64 0),(.int .i64 0),(.bool false)]
def XR:List Value:=[(.bool false),(.slice none 0 0),(.bool false),(.int .i64 0),(.int .i64 0),(.bool false),(.int .i64 0),(.int .i64 0)]
def XS:List Value:=[(.string ⟨#[]⟩),(.string ⟨#[]⟩),(.string ⟨#[]⟩),(.string ⟨#[]⟩),(.string ⟨#[]⟩),(.string ⟨#[]⟩),(.string ⟨#[]⟩)]
noncomputable section
def h0:List J:=[.str ⟨#[]⟩,.bc,.bool false,.bc,.bool false,.int .i64 0,.int .i64 0,.bool false,.int .i64 0,.int .i64 0,.bool false,.bc,.bool false,.int .i64 0,.int .i64 0,.bool false,.int .i64 0,.int .i64 0,.bool false,.bc,.bool false,.int .i64 0,.int .i64 0,.bool false,.int .i64 0,.int .i64 0,.int .i64 0,.int .i64 0,.int .i64 0,.int .i64 0,.int .i64 0,.int .i64 0,.int .i64 0]
def eR:List J:=[.str ⟨#[]⟩,.int .i64 0,.int .i64 0,.int .i64 0,.int .i64 0,.int .i64 0,.bool false,.bool false,.bool false,.int .i64 0,.int .i64 0,.int .i64 0,.bool false,.bool false,.bool false,.bool false,.int .i64 0,.bool false,.int .i64 0,.bool false,.bool false,.int .i64 0,.bool false,.bool false,.bool false,.bool false,.bool false,.bool false,.bool false]
def A6:List J:=[.str ⟨#[]⟩,.int .i64 0,.int .i64 0,.bc,.int .i64 0,.int .i64 0,.int .i64 0,.int .i64 0,.bool false,.bc,.bc,.bc,.bc,.str ⟨#[]⟩,.int .i64 0,.int .i64 0,.int .i64 0,.int .i64 0,.int .i64 0,.bool false,.bool false,.bool false,.int .i64 0,.int .i64 0,.int .i64 0,.bool false,.bool false,.bool false,.bool false,.int .i64 0,.bool false,.int .i64 0,.bool false,.bool false,.int .i64 0,.bool false,.bool false,.bool false,.bool false,.bool false,.bool false,.bool false]
def A7:List J:=[.str ⟨#[]⟩,.int .i64 0,.int .i64 0,.int .i64 0,.int .i64 0,.int .i64 0,.bool false,.bool false,.bool false,.int .i64 0,.int .i64 0,.int .i64 0,.bool false,.bool false,.bool false,.bool false,.int .i64 0,.bool false,.int .i64 0,.bool false,.bool false,.int .i64 0,.bool false,.bool false,.bool false,.bool false,.bool false,.bool false,.bool false,.str ⟨#[]⟩,.int .i64 0,.int .i64 0,.int .i64 0,.int .i64 0,.int .i64 0,.bool false,.bool false,.bool false,.int .i64 0,.int .i64 0,.int .i64 0,.bool false,.bool false,.bool false,.bool false,.int .i64 0,.bool false,.int .i64 0,.bool false,.bool false,.int .i64 0,.bool false,.bool false,.bool false,.bool false,.bool false,.bool false,.bool false,.str ⟨#[]⟩,.int .i64 0,.int .i64 0,.int .i64 0,.int .i64 0,.int .i64 0,.bool false,.bool false,.bool false,.int .i64 0,.int .i64 0,.int .i64 0,.bool false,.bool false,.bool false,.bool false,.int .i64 0,.bool false,.int .i64 0,.bool false,.bool false,.int .i64 0,.bool false,.bool false,.bool false,.bool false,.bool false,.bool false,.bool false,.str ⟨#[]⟩,.int .i64 0,.int .i64 0,.int .i64 0,.int .i64 0,.int .i64 0,.bool false,.bool false,.bool false,.int .i64 0,.int .i64 0,.int .i64 0,.bool false,.bool false,.bool false,.bool false,.int .i64 0,.bool false,.int .i64 0,.bool false,.bool false,.int .i64 0,.bool false,.bool false,.bool false,.bool false,.bool false,.bool false,.bool false,.str ⟨#[]⟩,.int .i64 0,.int .i64 0,.int .i64 0,.int .i64 0,.int .i64 0,.bool false,.bool false,.bool false,.int .i64 0,.int .i64 0,.int .i64 0,.bool false,.bool false,.bool false,.bool false,.int .i64 0,.bool false,.int .i64 0,.bool false,.bool false,.int .i64 0,.bool false,.bool false,.bool false,.bool false,.bool false,.bool false,.bool false,.str ⟨#[]⟩,.int .i64 0,.int .i64 0,.int .i64 0,.int .i64 0,.int .i64 0,.bool false,.bool false,.bool false,.int .i64 0,.int .i64 0,.int .i64 0,.bool false,.bool false,.bool false,.bool false,.int .i64 0,.bool false,.int .i64 0,.bool false,.bool false,.int .i64 0,.bool false,.bool false,.bool false,.bool false,.bool false,.bool false,.bool false,.str ⟨#[]⟩,.int .i64 0,.int .i64 0,.int .i64 0,.int .i64 0,.int .i64 0,.bool false,.bool false,.bool false,.int .i64 0,.int .i64 0,.int .i64 0,.bool false,.bool false,.bool false,.bool false,.int .i64 0,.bool false,.int .i64 0,.bool false,.bool false,.int .i64 0,.bool false,.bool false,.bool false,.bool false,.bool false,.bool false,.bool false]
def rm:List Value:=[(.string ⟨#[]⟩),(.slice none 0 0),(.bool false),(.slice none 0 0),(.bool false),(.int .i64 0),(.int .i64 0),(.bool false),(.int .i64 0),(.int .i64 0),(.bool false),(.slice none 0 0),(.bool false),(.int .i64 0),(.int .i64 0),(.bool false),(.int .i64 0),(.int .i64 0),(.bool false),(.slice none 0 0),(.bool false),(.int .i64 0),(.int .i64 0),(.bool false),(.int .i64 0),(.int .i64 0),(.int .i64 0),(.int .i64 0),(.int .i64 0),(.int .i64 0),(.int .i64 0),(.int .i64 0),(.int .i64 0)]
def iM:List Value:=[(.string ⟨#[]⟩),(.int .i64 0),(.int .i64 0),(.int .i64 0),(.int .i64 0),(.int .i64 0),(.bool false),(.bool false),(.bool false),(.int .i64 0),(.int .i64 0),(.int .i64 0),(.bool false),(.bool false),(.bool false),(.bool false),(.int .i64 0),(.bool false),(.int .i64 0),(.bool false),(.bool false),(.int .i64 0),(.bool false),(.bool false),(.bool false),(.bool false),(.bool false),(.bool false),(.bool false)]
def MS:List Value:=[(.string ⟨#[]⟩),(.int .i64 0),(.int .i64 0),(.slice none 0 0),(.int .i64 0),(.int .i64 0),(.int .i64 0),(.int .i64 0),(.bool false),(.slice none 0 0),(.slice none 0 0),(.slice none 0 0),(.slice none 0 0),(.string ⟨#[]⟩),(.int .i64 0),(.int .i64 0),(.int .i64 0),(.int .i64 0),(.int .i64 0),(.bool false),(.bool false),(.bool false),(.int .i64 0),(.int .i64 0),(.int .i64 0),(.bool false),(.bool false),(.bool false),(.bool false),(.int .i64 0),(.bool false),(.int .i64 0),(.bool false),(.bool false),(.int .i64 0),(.bool false),(.bool false),(.bool false),(.bool false),(.bool false),(.bool false),(.bool false)]
def MT:List Value:=[(.string ⟨#[]⟩),(.int .i64 0),(.int .i64 0),(.int .i64 0),(.int .i64 0),(.int .i64 0),(.bool false),(.bool false),(.bool false),(.int .i64 0),(.int .i64 0),(.int .i64 0),(.bool false),(.bool false),(.bool false),(.bool false),(.int .i64 0),(.bool false),(.int .i64 0),(.bool false),(.bool false),(.int .i64 0),(.bool false),(.bool false),(.bool false),(.bool false),(.bool false),(.bool false),(.bool false),(.string ⟨#[]⟩),(.int .i64 0),(.int .i64 0),(.int .i64 0),(.int .i64 0),(.int .i64 0),(.bool false),(.bool false),(.bool false),(.int .i64 0),(.int .i64 0),(.int .i64 0),(.bool false),(.bool false),(.bool false),(.bool false),(.int .i64 0),(.bool false),(.int .i64 0),(.bool false),(.bool false),(.int .i64 0),(.bool false),(.bool false),(.bool false),(.bool false),(.bool false),(.bool false),(.bool false),(.string ⟨#[]⟩),(.int .i64 0),(.int .i64 0),(.int .i64 0),(.int .i64 0),(.int .i64 0),(.bool false),(.bool false),(.bool false),(.int .i64 0),(.int .i64 0),(.int .i64 0),(.bool false),(.bool false),(.bool false),(.bool false),(.int .i64 0),(.bool false),(.int .i64 0),(.bool false),(.bool false),(.int .i64 0),(.bool false),(.bool false),(.bool false),(.bool false),(.bool false),(.bool false),(.bool false),(.string ⟨#[]⟩),(.int .i64 0),(.int .i64 0),(.int .i64 0),(.int .i64 0),(.int .i64 0),(.bool false),(.bool false),(.bool false),(.int .i64 0),(.int .i64 0),(.int .i64 0),(.bool false),(.bool false),(.bool false),(.bool false),(.int .i64 0),(.bool false),(.int .i64 0),(.bool false),(.bool false),(.int .i64 0),(.bool false),(.bool false),(.bool false),(.bool false),(.bool false),(.bool false),(.bool false),(.string ⟨#[]⟩),(.int .i64 0),(.int .i64 0),(.int .i64 0),(.int .i64 0),(.int .i64 0),(.bool false),(.bool false),(.bool false),(.int .i64 0),(.int .i64 0),(.int .i64 0),(.bool false),(.bool false),(.bool false),(.bool false),(.int .i64 0),(.bool false),(.int .i64 0),(.bool false),(.bool false),(.int .i64 0),(.bool false),(.bool false),(.bool false),(.bool false),(.bool false),(.bool false),(.bool false),(.string ⟨#[]⟩),(.int .i64 0),(.int .i64 0),(.int .i64 0),(.int .i64 0),(.int .i64 0),(.bool false),(.bool false),(.bool false),(.int .i64 0),(.int .i64 0),(.int .i64 0),(.bool false),(.bool false),(.bool false),(.bool false),(.int .i64 0),(.bool false),(.int .i64 0),(.bool false),(.bool false),(.int .i64 0),(.bool false),(.bool false),(.bool false),(.bool false),(.bool false),(.bool false),(.bool false),(.string ⟨#[]⟩),(.int .i64 0),(.int .i64 0),(.int .i64 0),(.int .i64 0),(.int .i64 0),(.bool false),(.bool false),(.bool false),(.int .i64 0),(.int .i64 0),(.int .i64 0),(.bool false),(.bool false),(.bool false),(.bool false),(.int .i64 0),(.bool false),(.int .i64 0),(.bool false),(.bool false),(.int .i64 0),(.bool false),(.bool false),(.bool false),(.bool false),(.bool false),(.bool false),(.bool false)]
def jf:List fx:=[.ah,.ah,.ah,(.flat 1),.ah,.ah,.ah,.ah,.ah,(.flat 1),(.bO 2 [.ah,(.flat 6)]),(.bO 13 [.ah,(.flat 1),.ah,.ah,.ah,.ah,.ah,.ah,.ah,.ah,.ah,.ah,.ah]),(.bO 33 [.ah,(.flat 2),.ah,(.flat 2),.ah,.ah,.ah,.ah,.ah,.ah,.ah,(.flat 2),.ah,.ah,.ah,.ah,.ah,.ah,.ah,(.flat 2),.ah,.ah,.ah,.ah,.ah,.ah,.ah,.ah,.ah,.ah,.ah,.ah,.ah])]
def MU:List fx:=[.ah,(.flat 1),.ah,.ah,.ah,.ah,.ah,.ah,.ah,.ah,.ah,.ah,.ah]
def HP:List fx:=[.ah,(.flat 2),.ah,(.flat 2),.ah,.ah,.ah,.ah,.ah,.ah,.ah,(.flat 2),.ah,.ah,.ah,.ah,.ah,.ah,.ah,(.flat 2),.ah,.ah,.ah,.ah,.ah,.ah,.ah,.ah,.ah,.ah,.ah,.ah,.ah]
def HQ:List fx:=[.ah,.ah,.ah,(.flat 1),.ah,.ah,.ah,.ah,.ah,(.flat 1),(.bO 2 [.ah,(.flat 6)]),(.bO 13 [.ah,(.flat 1),.ah,.ah,.ah,.ah,.ah,.ah,.ah,.ah,.ah,.ah,.ah]),(.bO 33 [.ah,(.flat 2),.ah,(.flat 2),.ah,.ah,.ah,.ah,.ah,.ah,.ah,(.flat 2),.ah,.ah,.ah,.ah,.ah,.ah,.ah,(.flat 2),.ah,.ah,.ah,.ah,.ah,.ah,.ah,.ah,.ah,.ah,.ah,.ah,.ah]),.ah,.ah,.ah,.ah,.ah,.ah,.ah,.ah,.ah,.ah,.ah,.ah,.ah,.ah,.ah,.ah,.ah,.ah,.ah,.ah,.ah,.ah,.ah,.ah,.ah,.ah,.ah,.ah,.ah]
open Go.aN.G in
def ep:bU:=⟨2,55,(S (R<|c9 2 27 0<|c9 3 27 1<|cn 4<|z)<|
 (S (S (R<|bM 9 13 2<|dA 10 7 9<|dB 11 10<|m 12 11<|q 16 12 false [13,14,15] (bM 13 13 3<|dA 14 7 13<|dB 15 14<|z) (t 15)<|
 z)<|
 (.cond (t 16) [] [4,17]
 (S (R<|o 17 (.call 8 [])<|m 4 17<|z)<|
 .ret)
 .skip))<|
 (S (R<|bM 19 13 2<|bM 20 13 3<|dU 21 9 19 20<|m 18 21<|eC 22 18 0<|eC 23 18 1<|m 5 22<|m 6 23<|z)<|
 (S (R<|bM 25 13 2<|bM 26 13 3<|dU 27 10 25 26<|m 24 27<|eC 28 24 0<|eC 29 24 1<|m 7 28<|m 8 29<|z)<|
 (S (D<|bM 30 13 2<|bM 31 13 3<|O 32 (.call 11 [(t 30),(t 31)])<|bM 33 13 2<|bM 34 13 3<|dU 35 12 33 34<|o 36 (.mQ false (t 32) (t 35))<|m 37 36<|q 41 37 true [38,39,40] (bM 38 13 2<|bM 39 13 2<|dU 40 11 38 39<|z) (t 40)<|
 m 42 41<|q 46 42 true [43,44,45] (m 43 5<|m 44 7<|o 45 (.mQ false (t 43) (t 44))<|z) (t 45)<|
 m 47 46<|q 51 47 true [48,49,50] (m 48 6<|m 49 8<|b 50 .eql (t 48) (t 49)<|z) (t 50)<|
 m 52 51<|q 54 52 true [53] (o 53 (.call 8 [])<|z) (t 53)<|
 m 4 54<|z)<|
 .ret))))),[.tmp 4],[.ah]⟩
theorem XT:b5 3 ep:=b7 Tryz.func3 rfl
def kh(b:aR)(c:Nat)(e g:J)(h:U):bh:=bF (.ptr h.length 0) (h++[.box (b' e) 27 .rw]) λc e=>bF (.ptr e.length 0) (e++[.box (b' g) 27 .rw]) λe g=>(ab true 13 c g).bind λi=>(b 7 [i] g).bind λg=>(di .not g.1).bind λi=>a6 (λg i=>aB (λ_ g=>(ab true 13 c g).bind λi=>(ab true 13 e g).bind λj=>(b 9 [i,j] g).bind λg=>(ea g.1 0).bind λi=>(ea g.1 1).bind λj=>(ab true 13 c g.2).bind λk=>(ab true 13 e g.2).bind λl=>(b 10 [k,l] g.2).bind λg=>(ea g.1 0).bind λk=>(ea g.1 1).bind λl=>(ab true 13 c g.2).bind λm=>(ab true 13 e g.2).bind λn=>(b 11 [m,n] (lock g.2)).bind λm=>dQ g.2 m.2 λg=>(ab true 13 c g).bind λn=>(ab true 13 e g).bind λe=>(b 12 [n,e] g).bind λe=>(nO false m.1 e.1).bind λg=>a6 (λc e=>a6 (λc e=>a6 (λc e=>a6 (λb c=>aL [.ah] h c [b]) λg=>a7 c true ((b 8 [] e).bind λb=>g b.1 b.2) (g (.bool false) e)) λb=>a7 c true ((ar .eql j l).bind λc=>b c e) (b (.bool false) e)) λb=>a7 c true ((nO false i k).bind λc=>b c e) (b (.bool false) e)) λh=>a7 g true ((ab true 13 c e.2).bind λg=>(ab true 13 c e.2).bind λc=>(b 11 [g,c] e.2).bind λb=>h b.1 b.2) (h (.bool false) e.2)) λc=>a8 g ((b 8 [] i).bind λb=>aL [.ah] h b.2 [b.1]) (c [] i)) λc=>a7 i false ((ab true 13 e g.2).bind λe=>(b 7 [e] g.2).bind λb=>(di .not b.1).bind λe=>c e b.2) (c (.bool true) g.2)
open Go.aN.G in
def A8:bU:=⟨1,88,(S (R<|c9 1 27 0<|cn 2<|z)<|
 (S (R<|f 10 3 1<|l 11 10<|bS 12 11<|f 13 9 1<|l 14 13<|bS 15 14<|b 16 .add (t 12) (t 15)<|f 17 0 1<|l 18 17<|o 19 (.len true (t 18))<|b 20 .add (t 16) (t 19)<|m 3 20<|z)<|
 (S (S (R<|f 21 10 1<|l 22 21<|bS 23 22<|b3 24 0<|z)<|
 (.block 0 [3] ([5]++g 24 11)
 (.loop [3,24] ([5]++g 25 10)
 (S (R<|b 25 .lss (t 24) (t 23)<|z)<|
 (S (.cond (t 25) [] []
 .skip
 (.exit 0))<|
 (S (.block 1 [3] ([5]++g 26 8)
 (S (R<|cu 26 2 22 24<|bM 27 2 26<|o 5 (.new 39 [(.int .i64 0),(.slice none 0 0)])<|bP 2 5 27<|z)<|
 (R<|m 28 3<|f 29 1 5<|l 30 29<|bS 31 30<|b 32 .add (i 1) (t 31)<|b 33 .add (t 28) (t 32)<|m 3 33<|z)))<|
 (R<|b 34 .add (t 24) (i 1)<|m 24 34<|z)))))))<|
 (S (S (R<|f 35 11 1<|l 36 35<|bS 37 36<|b3 38 0<|z)<|
 (.block 2 [3] ([7]++g 38 15)
 (.loop [3,38] ([7]++g 39 14)
 (S (R<|b 39 .lss (t 38) (t 37)<|z)<|
 (S (.cond (t 39) [] []
 .skip
 (.exit 2))<|
 (S (.block 3 [3] ([7]++g 40 12)
 (S (R<|cu 40 13 36 38<|bM 41 13 40<|o 7 (.new 43 ym)<|bP 13 7 41<|z)<|
 (R<|m 42 3<|f 43 1 7<|l 44 43<|bS 45 44<|b 46 .add (i 1) (t 45)<|f 47 0 7<|l 48 47<|o 49 (.len true (t 48))<|b 50 .add (t 46) (t 49)<|b 51 .add (t 42) (t 50)<|m 3 51<|z)))<|
 (R<|b 52 .add (t 38) (i 1)<|m 38 52<|z)))))))<|
 (S (S (R<|f 53 12 1<|l 54 53<|bS 55 54<|b3 56 0<|z)<|
 (.block 4 [3] ([9]++g 56 30)
 (.loop [3,56] ([9]++g 57 29)
 (S (R<|b 57 .lss (t 56) (t 55)<|z)<|
 (S (.cond (t 57) [] []
 .skip
 (.exit 4))<|
 (S (.block 5 [3] ([9]++g 58 27)
 (S (R<|cu 58 33 54 56<|bM 59 33 58<|o 9 (.new 57 rm)<|bP 33 9 59<|z)<|
 (R<|m 60 3<|f 61 1 9<|l 62 61<|bS 63 62<|b 64 .add (i 1) (t 63)<|f 65 2 9<|f 66 1 65<|l 67 66<|bS 68 67<|b 69 .add (t 64) (t 68)<|f 70 10 9<|f 71 1 70<|l 72 71<|bS 73 72<|b 74 .add (t 69) (t 73)<|f 75 18 9<|f 76 1 75<|l 77 76<|bS 78 77<|b 79 .add (t 74) (t 78)<|f 80 0 9<|l 81 80<|o 82 (.len true (t 81))<|b 83 .add (t 79) (t 82)<|b 84 .add (t 60) (t 83)<|m 3 84<|z)))<|
 (R<|b 85 .add (t 56) (i 1)<|m 56 85<|z)))))))<|
 (S (R<|m 86 3<|b 87 .leq (t 86) (i 60000)<|m 2 87<|z)<|
 .ret)))))),[.tmp 2],[.ah]⟩
theorem XU:b5 7 A8:=b7 Tryz.func7 rfl
def HR(b:aR)(c:Nat)(e:U)(g h:J)(i:bb):(bb)->bb:=λb c j=>(ar .lss (aI c 1) h).bind λh=>aB (λ_ h=>aB (λg h=>(ar .add (aI c 1) (.int .i64 1)).bind λc=>b [(aI g 0),c] (trim e [(aI g 0),c] h)) λb=>(bW 33 g (aI c 1)).bind λe=>(ab true 33 e h).bind λe=>bF (.ptr h.length 0) (h++[.box h0 57 .rw]) λg h=>(a_ 33 g e h).bind λe=>(aq 1 g).bind λh=>(ab false 1 h e).bind λh=>(bw false h).bind λh=>(ar .add (.int .i64 1) h).bind λh=>(aq 2 g).bind λi=>(aq 1 i).bind λi=>(ab false 1 i e).bind λi=>(bw false i).bind λi=>(ar .add h i).bind λh=>(aq 10 g).bind λi=>(aq 1 i).bind λi=>(ab false 1 i e).bind λi=>(bw false i).bind λi=>(ar .add h i).bind λh=>(aq 18 g).bind λi=>(aq 1 i).bind λi=>(ab false 1 i e).bind λi=>(bw false i).bind λi=>(ar .add h i).bind λh=>(aq 0 g).bind λg=>(ab false 1 g e).bind λg=>(bw true g).bind λg=>(ar .add h g).bind λg=>(ar .add (aI c 0) g).bind λc=>b [c] e) λb=>a8 h (b [] j) (i [(aI c 0)] j)
def HS(b:aR)(c:Nat)(e:U)(g h:J)(i:bb):(bb)->bb:=λb c j=>(ar .lss (aI c 1) h).bind λh=>aB (λ_ h=>aB (λg h=>(ar .add (aI c 1) (.int .i64 1)).bind λc=>b [(aI g 0),c] (trim e [(aI g 0),c] h)) λb=>(bW 13 g (aI c 1)).bind λe=>(ab true 13 e h).bind λe=>bF (.ptr h.length 0) (h++[.box [.str ⟨#[]⟩,.bc,.int .i64 0,.int .i64 0,.int .i64 0,.int .i64 0,.int .i64 0,.int .i64 0,.int .i64 0,.int .i64 0,.int .i64 0,.int .i64 0,.int .i64 0] 43 .rw]) λg h=>(a_ 13 g e h).bind λe=>(aq 1 g).bind λh=>(ab false 1 h e).bind λh=>(bw false h).bind λh=>(ar .add (.int .i64 1) h).bind λh=>(aq 0 g).bind λg=>(ab false 1 g e).bind λg=>(bw true g).bind λg=>(ar .add h g).bind λg=>(ar .add (aI c 0) g).bind λc=>b [c] e) λb=>a8 h (b [] j) (i [(aI c 0)] j)
def HT(b:aR)(c:Nat)(e:U)(g h:J)(i:bb):(bb)->bb:=λb c j=>(ar .lss (aI c 1) h).bind λh=>aB (λ_ h=>aB (λg h=>(ar .add (aI c 1) (.int .i64 1)).bind λc=>b [(aI g 0),c] (trim e [(aI g 0),c] h)) λb=>(bW 2 g (aI c 1)).bind λe=>(ab true 2 e h).bind λe=>bF (.ptr h.length 0) (h++[.box [.int .i64 0,.bc] 39 .rw]) λg h=>(a_ 2 g e h).bind λe=>(aq 1 g).bind λg=>(ab false 1 g e).bind λg=>(bw false g).bind λg=>(ar .add (.int .i64 1) g).bind λg=>(ar .add (aI c 0) g).bind λc=>b [c] e) λb=>a8 h (b [] j) (i [(aI c 0)] j)
def MV(b:aR)(c:Nat)(e:J)(g:U):bh:=bF (.ptr g.length 0) (g++[.box (b' e) 27 .rw]) λe h=>(aq 3 e).bind λi=>(ab false 1 i h).bind λi=>(bw false i).bind λi=>(aq 9 e).bind λj=>(ab false 1 j h).bind λj=>(bw false j).bind λj=>(ar .add i j).bind λi=>(aq 0 e).bind λj=>(ab false 1 j h).bind λj=>(bw true j).bind λj=>(ar .add i j).bind λi=>(aq 10 e).bind λj=>(ab false 1 j h).bind λj=>(bw false j).bind λk=>aB (λh i=>(aq 11 e).bind λj=>(ab false 1 j i).bind λj=>(bw false j).bind λk=>aB (λh i=>(aq 12 e).bind λe=>(ab false 1 e i).bind λe=>(bw false e).bind λj=>aB (λb c=>(ar .leq (aI b 0) (.int .i64 60000)).bind λb=>aL [.ah] g c [b]) λg=>cr (HR b c i e j g) c [(aI h 0),(.int .i64 0)] i) λe=>cr (HS b c i j k e) c [(aI h 0),(.int .i64 0)] i) λe=>cr (HT b c h j k e) c [i,(.int .i64 0)] h
open Go.aN.G in
def A9:bU:=⟨0,50,(S (R<|cn 0<|z)<|
 (S (R<|o 8 (.call 17 [(i 1),(i 4),(i 1)])<|m 7 8<|eC 9 7 0<|eC 10 7 1<|o 1 (.new 27 ko)<|bP 13 1 9<|m 2 10<|z)<|
 (S (R<|bM 11 13 1<|o 3 (.new 27 ko)<|bP 13 3 11<|z)<|
 (S (R<|f 12 8 3<|n (.store 1 (t 12) (.const (.bool true)))<|z)<|
 (S (R<|bM 14 13 3<|dA 15 24 14<|m 13 15<|eC 16 13 0<|eC 17 13 1<|eC 18 13 2<|m 4 16<|m 5 17<|m 6 18<|z)<|
 (S (R<|m 19 2<|b 20 .eql (t 19) (i 0)<|m 21 20<|q 24 21 true [22,23] (bM 22 13 1<|dA 23 16 22<|z) (t 23)<|
 m 25 24<|q 30 25 true (g 26 4) (f 26 9 1<|l 27 26<|bS 28 27<|b 29 .eql (t 28) (i 4)<|z) (t 29)<|
 m 31 30<|q 37 31 true (g 32 5) (f 32 9 1<|l 33 32<|o 34 (.indexAddr 1 (t 33) (i 1))<|l 35 34<|b 36 .eql (t 35) (i 256)<|z) (t 36)<|
 m 38 37<|q 41 38 true [39,40] (m 39 4<|b 40 .eql (t 39) (.const (.string ⟨#[108,105,110,101,97,114]⟩))<|z) (t 40)<|
 m 42 41<|q 45 42 true [43,44] (m 43 5<|b 44 .eql (t 43) (i 0)<|z) (t 44)<|
 m 46 45<|q 49 46 true [47,48] (m 47 6<|b 48 .eql (t 47) (i 6)<|z) (t 48)<|
 m 0 49<|z)<|
 .ret)))))),[.tmp 0],[.ah]⟩
theorem XV:b5 8 A9:=b7 Tryz.func8 rfl
def MW(b:aR)(c:Nat)(e:U):bh:=(b 17 [(.int .i64 1),(.int .i64 4),(.int .i64 1)] e).bind λc=>(ea c.1 0).bind λg=>(ea c.1 1).bind λh=>bF (.ptr c.2.length 0) (c.2++[.box [.str ⟨#[]⟩,.int .i64 0,.int .i64 0,.bc,.int .i64 0,.int .i64 0,.int .i64 0,.int .i64 0,.bool false,.bc,.bc,.bc,.bc] 27 .rw]) λc i=>(a_ 13 c g i).bind λg=>(ab true 13 c g).bind λi=>bF (.ptr g.length 0) (g++[.box [.str ⟨#[]⟩,.int .i64 0,.int .i64 0,.bc,.int .i64 0,.int .i64 0,.int .i64 0,.int .i64 0,.bool false,.bc,.bc,.bc,.bc] 27 .rw]) λg j=>(a_ 13 g i j).bind λi=>(aq 8 g).bind λj=>(a_ 1 j (.bool true) i).bind λi=>(ab true 13 g i).bind λg=>(b 24 [g] i).bind λg=>(ea g.1 0).bind λi=>(ea g.1 1).bind λj=>(ea g.1 2).bind λk=>(ar .eql h (.int .i64 0)).bind λh=>a6 (λb g=>a6 (λb g=>a6 (λb c=>a6 (λb c=>a6 (λb c=>a6 (λb c=>aL [.ah] e c [b]) λe=>a7 b true ((ar .eql k (.int .i64 6)).bind λb=>e b c) (e (.bool false) c)) λe=>a7 b true ((ar .eql j (.int .i64 0)).bind λb=>e b c) (e (.bool false) c)) λe=>a7 b true ((ar .eql i (.str ⟨#[108,105,110,101,97,114]⟩:J)).bind λb=>e b c) (e (.bool false) c)) λe=>a7 b true ((aq 9 c).bind λb=>(ab false 1 b g).bind λb=>(bW 1 b (.int .i64 1)).bind λb=>(ab false 1 b g).bind λb=>(ar .eql b (.int .i64 256)).bind λb=>e b g) (e (.bool false) g)) λe=>a7 b true ((aq 9 c).bind λb=>(ab false 1 b g).bind λb=>(bw false b).bind λb=>(ar .eql b (.int .i64 4)).bind λb=>e b g) (e (.bool false) g)) λe=>a7 h true ((ab true 13 c g.2).bind λc=>(b 16 [c] g.2).bind λb=>e b.1 b.2) (e (.bool false) g.2)
open Go.aN.G in
def A_:bU:=⟨2,28,(S (R<|c9 2 27 0<|c9 3 27 1<|cn 4<|b3 5 0<|z)<|
 (S (R<|bM 10 13 2<|dA 11 14 10<|m 9 11<|eC 12 9 0<|eC 13 9 1<|o 6 (.new 27 ko)<|bP 13 6 12<|m 7 13<|z)<|
 (S (S (R<|m 14 7<|b 15 .neq (t 14) (i 0)<|z)<|
 (.cond (t 15) [] [4,5,16]
 (S (R<|m 16 7<|cn 4<|m 5 16<|z)<|
 .ret)
 .skip))<|
 (S (R<|bM 18 13 3<|dA 19 14 18<|m 17 19<|eC 20 17 0<|eC 21 17 1<|o 8 (.new 27 ko)<|bP 13 8 20<|m 7 21<|z)<|
 (S (S (R<|m 22 7<|b 23 .neq (t 22) (i 0)<|z)<|
 (.cond (t 23) [] [4,5,24]
 (S (R<|m 24 7<|cn 4<|m 5 24<|z)<|
 .ret)
 .skip))<|
 (S (R<|bM 25 13 6<|bM 26 13 8<|dU 27 11 25 26<|m 4 27<|b3 5 0<|z)<|
 .ret)))))),[.tmp 4,.tmp 5],[.ah,.ah]⟩
theorem XW:b5 9 A_:=b7 Tryz.func9 rfl
def MX(b:aR)(c:Nat)(e g:J)(h:U):bh:=bF (.ptr h.length 0) (h++[.box (b' e) 27 .rw]) λc e=>bF (.ptr e.length 0) (e++[.box (b' g) 27 .rw]) λe g=>(ab true 13 c g).bind λc=>(b 14 [c] g).bind λc=>(ea c.1 0).bind λg=>(ea c.1 1).bind λi=>bF (.ptr c.2.length 0) (c.2++[.box [.str ⟨#[]⟩,.int .i64 0,.int .i64 0,.bc,.int .i64 0,.int .i64 0,.int .i64 0,.int .i64 0,.bool false,.bc,.bc,.bc,.bc] 27 .rw]) λc j=>(a_ 13 c g j).bind λg=>(ar .neq i (.int .i64 0)).bind λj=>aB (λ_ g=>(ab true 13 e g).bind λe=>(b 14 [e] g).bind λe=>(ea e.1 0).bind λg=>(ea e.1 1).bind λi=>bF (.ptr e.2.length 0) (e.2++[.box [.str ⟨#[]⟩,.int .i64 0,.int .i64 0,.bc,.int .i64 0,.int .i64 0,.int .i64 0,.int .i64 0,.bool false,.bc,.bc,.bc,.bc] 27 .rw]) λe j=>(a_ 13 e g j).bind λg=>(ar .neq i (.int .i64 0)).bind λj=>aB (λ_ g=>(ab true 13 c g).bind λc=>(ab true 13 e g).bind λe=>(b 11 [c,e] g).bind λb=>aL [.ah,.ah] h b.2 [b.1,(.int .i64 0)]) λb=>a8 j (aL [.ah,.ah] h g [(.bool false),i]) (b [] g)) λb=>a8 j (aL [.ah,.ah] h g [(.bool false),i]) (b [] g)
open Go.aN.G in
def A':bU:=⟨2,29,(S (R<|c9 2 27 0<|c9 3 27 1<|cn 4<|b3 5 0<|z)<|
 (S (R<|bM 11 13 2<|dA 12 15 11<|m 10 12<|eC 13 10 0<|eC 14 10 1<|o 6 (.new 27 ko)<|bP 13 6 13<|m 7 14<|z)<|
 (S (R<|bM 16 13 3<|dA 17 15 16<|m 15 17<|eC 18 15 0<|eC 19 15 1<|o 8 (.new 27 ko)<|bP 13 8 18<|m 9 19<|z)<|
 (S (S (R<|m 20 7<|b 21 .neq (t 20) (i 0)<|m 22 21<|q 25 22 false [23,24] (m 23 9<|b 24 .neq (t 23) (i 0)<|z) (t 24)<|
 z)<|
 (.cond (t 25) [] [4,5]
 (S (R<|cn 4<|b3 5 1<|z)<|
 .ret)
 .skip))<|
 (S (R<|bM 26 13 6<|bM 27 13 8<|dU 28 12 26 27<|m 4 28<|b3 5 0<|z)<|
 .ret))))),[.tmp 4,.tmp 5],[.ah,.ah]⟩
theorem XX:b5 10 A':=b7 Tryz.func10 rfl
def MY(b:aR)(c:Nat)(e g:J)(h:U):bh:=bF (.ptr h.length 0) (h++[.box (b' e) 27 .rw]) λc e=>bF (.ptr e.length 0) (e++[.box (b' g) 27 .rw]) λe g=>(ab true 13 c g).bind λc=>(b 15 [c] g).bind λc=>(ea c.1 0).bind λg=>(ea c.1 1).bind λi=>bF (.ptr c.2.length 0) (c.2++[.box [.str ⟨#[]⟩,.int .i64 0,.int .i64 0,.bc,.int .i64 0,.int .i64 0,.int .i64 0,.int .i64 0,.bool false,.bc,.bc,.bc,.bc] 27 .rw]) λc j=>(a_ 13 c g j).bind λg=>(ab true 13 e g).bind λe=>(b 15 [e] g).bind λe=>(ea e.1 0).bind λg=>(ea e.1 1).bind λj=>bF (.ptr e.2.length 0) (e.2++[.box [.str ⟨#[]⟩,.int .i64 0,.int .i64 0,.bc,.int .i64 0,.int .i64 0,.int .i64 0,.int .i64 0,.bool false,.bc,.bc,.bc,.bc] 27 .rw]) λe k=>(a_ 13 e g k).bind λg=>(ar .neq i (.int .i64 0)).bind λi=>a6 (λg i=>aB (λ_ g=>(ab true 13 c g).bind λc=>(ab true 13 e g).bind λe=>(b 12 [c,e] g).bind λb=>aL [.ah,.ah] h b.2 [b.1,(.int .i64 0)]) λb=>a8 g (aL [.ah,.ah] h i [(.bool false),(.int .i64 1)]) (b [] i)) λb=>a7 i false ((ar .neq j (.int .i64 0)).bind λc=>b c g) (b (.bool true) g)
open Go.aN.G in
def Ba:bU:=⟨2,45,(S (R<|c9 2 27 0<|c9 3 27 1<|cn 4<|z)<|
 (S (D<|bM 5 13 2<|O 6 (.call 25 [(t 5)])<|bM 7 13 3<|dA 8 25 7<|o 9 (.nC [.str,.int,.int,.int,.int,.int,.int,.bool] false (t 6) (t 8))<|m 10 9<|q 16 10 true (g 11 5) (f 11 3 2<|l 12 11<|f 13 3 3<|l 14 13<|dU 15 26 12 14<|z) (t 15)<|
 m 17 16<|q 23 17 true (g 18 5) (f 18 9 2<|l 19 18<|f 20 9 3<|l 21 20<|dU 22 26 19 21<|z) (t 22)<|
 m 24 23<|q 30 24 true (g 25 5) (f 25 10 2<|l 26 25<|f 27 10 3<|l 28 27<|o 29 (.call 27 [(t 26),(t 28),(.func 28)])<|z) (t 29)<|
 m 31 30<|q 37 31 true (g 32 5) (f 32 11 2<|l 33 32<|f 34 11 3<|l 35 34<|o 36 (.call 29 [(t 33),(t 35),(.func 30)])<|z) (t 36)<|
 m 38 37<|q 44 38 true (g 39 5) (f 39 12 2<|l 40 39<|f 41 12 3<|l 42 41<|o 43 (.call 31 [(t 40),(t 42),(.func 32)])<|z) (t 43)<|
 m 4 44<|z)<|
 .ret)),[.tmp 4],[.ah]⟩
theorem XY:b5 11 Ba:=b7 Tryz.func11 rfl
def MZ(b:aR)(c:Nat)(e g:J)(h:U):bh:=bF (.ptr h.length 0) (h++[.box (b' e) 27 .rw]) λc e=>bF (.ptr e.length 0) (e++[.box (b' g) 27 .rw]) λe g=>(ab true 13 c g).bind λi=>(b 25 [i] (lock g)).bind λi=>dQ g i.2 λg=>(ab true 13 e g).bind λj=>(b 25 [j] g).bind λg=>(lu [.str,.int,.int,.int,.int,.int,.int,.bool] false i.1 g.1).bind λi=>a6 (λg i=>a6 (λg i=>a6 (λg i=>a6 (λg i=>a6 (λb c=>aL [.ah] h c [b]) λh=>a7 g true ((aq 12 c).bind λc=>(ab false 1 c i).bind λc=>(aq 12 e).bind λe=>(ab false 1 e i).bind λe=>(b 31 [c,e,(J.func 32 [] [])] i).bind λb=>h b.1 b.2) (h (.bool false) i)) λh=>a7 g true ((aq 11 c).bind λc=>(ab false 1 c i).bind λc=>(aq 11 e).bind λe=>(ab false 1 e i).bind λe=>(b 29 [c,e,(J.func 30 [] [])] i).bind λb=>h b.1 b.2) (h (.bool false) i)) λh=>a7 g true ((aq 10 c).bind λc=>(ab false 1 c i).bind λc=>(aq 10 e).bind λe=>(ab false 1 e i).bind λe=>(b 27 [c,e,(J.func 28 [] [])] i).bind λb=>h b.1 b.2) (h (.bool false) i)) λh=>a7 g true ((aq 9 c).bind λc=>(ab false 1 c i).bind λc=>(aq 9 e).bind λe=>(ab false 1 e i).bind λe=>(b 26 [c,e] i).bind λb=>h b.1 b.2) (h (.bool false) i)) λh=>a7 i true ((aq 3 c).bind λc=>(ab false 1 c g.2).bind λc=>(aq 3 e).bind λe=>(ab false 1 e g.2).bind λe=>(b 26 [c,e] g.2).bind λb=>h b.1 b.2) (h (.bool false) g.2)
open Go.aN.G in
def Bb:bU:=⟨2,78,(S (R<|c9 2 27 0<|c9 3 27 1<|cn 4<|z)<|
 (S (R<|f 5 0 2<|l 6 5<|f 7 0 3<|l 8 7<|b 9 .eql (t 6) (t 8)<|m 10 9<|q 16 10 true (g 11 5) (f 11 1 2<|l 12 11<|f 13 1 3<|l 14 13<|b 15 .eql (t 12) (t 14)<|z) (t 15)<|
 m 17 16<|q 23 17 true (g 18 5) (f 18 2 2<|l 19 18<|f 20 2 3<|l 21 20<|b 22 .eql (t 19) (t 21)<|z) (t 22)<|
 m 24 23<|q 30 24 true (g 25 5) (f 25 3 2<|l 26 25<|f 27 3 3<|l 28 27<|dU 29 33 26 28<|z) (t 29)<|
 m 31 30<|q 37 31 true (g 32 5) (f 32 4 2<|l 33 32<|f 34 4 3<|l 35 34<|b 36 .eql (t 33) (t 35)<|z) (t 36)<|
 m 38 37<|q 44 38 true (g 39 5) (f 39 5 2<|l 40 39<|f 41 5 3<|l 42 41<|b 43 .eql (t 40) (t 42)<|z) (t 43)<|
 m 45 44<|q 51 45 true (g 46 5) (f 46 6 2<|l 47 46<|f 48 6 3<|l 49 48<|b 50 .eql (t 47) (t 49)<|z) (t 50)<|
 m 52 51<|q 58 52 true (g 53 5) (f 53 7 2<|l 54 53<|f 55 7 3<|l 56 55<|b 57 .eql (t 54) (t 56)<|z) (t 57)<|
 m 59 58<|q 65 59 true (g 60 5) (f 60 8 2<|l 61 60<|f 62 8 3<|l 63 62<|o 64 (.mQ false (t 61) (t 63))<|z) (t 64)<|
 m 66 65<|q 72 66 true (g 67 5) (f 67 9 2<|l 68 67<|f 69 9 3<|l 70 69<|dU 71 33 68 70<|z) (t 71)<|
 m 73 72<|q 77 73 true [74,75,76] (bM 74 13 2<|bM 75 13 3<|dU 76 34 74 75<|z) (t 76)<|
 m 4 77<|z)<|
 .ret)),[.tmp 4],[.ah]⟩
theorem XZ:b5 12 Bb:=b7 Tryz.func12 rfl
def M0(b:aR)(c:Nat)(e g:J)(h:U):bh:=bF (.ptr h.length 0) (h++[.box (b' e) 27 .rw]) λc e=>bF (.ptr e.length 0) (e++[.box (b' g) 27 .rw]) λe g=>(aq 0 c).bind λi=>(ab false 1 i g).bind λi=>(aq 0 e).bind λj=>(ab false 1 j g).bind λj=>(ar .eql i j).bind λi=>a6 (λg i=>a6 (λg i=>a6 (λg i=>a6 (λg i=>a6 (λg i=>a6 (λg i=>a6 (λg i=>a6 (λg i=>a6 (λg i=>a6 (λb c=>aL [.ah] h c [b]) λh=>a7 g true ((ab true 13 c i).bind λc=>(ab true 13 e i).bind λe=>(b 34 [c,e] i).bind λb=>h b.1 b.2) (h (.bool false) i)) λh=>a7 g true ((aq 9 c).bind λc=>(ab false 1 c i).bind λc=>(aq 9 e).bind λe=>(ab false 1 e i).bind λe=>(b 33 [c,e] i).bind λb=>h b.1 b.2) (h (.bool false) i)) λb=>a7 g true ((aq 8 c).bind λc=>(ab false 1 c i).bind λc=>(aq 8 e).bind λe=>(ab false 1 e i).bind λe=>(nO false c e).bind λc=>b c i) (b (.bool false) i)) λb=>a7 g true ((aq 7 c).bind λc=>(ab false 1 c i).bind λc=>(aq 7 e).bind λe=>(ab false 1 e i).bind λe=>(ar .eql c e).bind λc=>b c i) (b (.bool false) i)) λb=>a7 g true ((aq 6 c).bind λc=>(ab false 1 c i).bind λc=>(aq 6 e).bind λe=>(ab false 1 e i).bind λe=>(ar .eql c e).bind λc=>b c i) (b (.bool false) i)) λb=>a7 g true ((aq 5 c).bind λc=>(ab false 1 c i).bind λc=>(aq 5 e).bind λe=>(ab false 1 e i).bind λe=>(ar .eql c e).bind λc=>b c i) (b (.bool false) i)) λb=>a7 g true ((aq 4 c).bind λc=>(ab false 1 c i).bind λc=>(aq 4 e).bind λe=>(ab false 1 e i).bind λe=>(ar .eql c e).bind λc=>b c i) (b (.bool false) i)) λh=>a7 g true ((aq 3 c).bind λc=>(ab false 1 c i).bind λc=>(aq 3 e).bind λe=>(ab false 1 e i).bind λe=>(b 33 [c,e] i).bind λb=>h b.1 b.2) (h (.bool false) i)) λb=>a7 g true ((aq 2 c).bind λc=>(ab false 1 c i).bind λc=>(aq 2 e).bind λe=>(ab false 1 e i).bind λe=>(ar .eql c e).bind λc=>b c i) (b (.bool false) i)) λb=>a7 i true ((aq 1 c).bind λc=>(ab false 1 c g).bind λc=>(aq 1 e).bind λe=>(ab false 1 e g).bind λe=>(ar .eql c e).bind λc=>b c g) (b (.bool false) g)
open Go.aN.G in
def Bc:bU:=⟨1,114,(S (R<|c9 1 27 0<|o 2 (.new 27 ko)<|z)<|
 (S (D<|f 7 3 1<|l 8 7<|O 9 (.call 35 [(t 8)])<|f 10 9 1<|l 11 10<|dA 12 35 11<|f 13 3 1<|bP 1 13 9<|f 14 9 1<|bP 1 14 12<|z)<|
 (S (D<|o 15 (.buildSlice 39 [] 0 [])<|f 16 10 1<|l 17 16<|o 19 (.buildSlice 43 [] 0 [])<|f 20 11 1<|l 21 20<|o 23 (.buildSlice 57 [] 0 [])<|f 24 12 1<|l 25 24<|(.op (I 18) (.a (.append 39 2 (t 15) (t 17))) (.hf [(15,20),(15,24)])<|(.op (I 22) (.a (.append 43 13 (t 19) (t 21))) (.hf [(19,24)])<|o 26 (.append 57 33 (t 23) (t 25))<|f 27 10 1<|bP 1 27 18<|f 28 11 1<|bP 1 28 22<|f 29 12 1<|bP 1 29 26<|z)))<|
 (S (S (R<|f 30 10 1<|l 31 30<|bS 32 31<|b3 33 0<|z)<|
 (.block 0 [] ([3]++g 33 17)
 (.loop [33] ([3]++g 34 16)
 (S (R<|b 34 .lss (t 33) (t 32)<|z)<|
 (S (.cond (t 34) [] []
 .skip
 (.exit 0))<|
 (S (.block 1 [] ([3]++g 35 14)
 (S (R<|m 35 33<|m 3 35<|z)<|
 (D<|f 36 10 1<|l 37 36<|m 38 3<|o 39 (.buildSlice 41 [] 0 [])<|f 40 10 1<|l 41 40<|m 42 3<|cu 43 2 41 42<|f 44 1 43<|l 45 44<|(.op (I 46) (.a (.append 41 6 (t 39) (t 45))) (.hf [(39,36)])<|cu 47 2 37 38<|f 48 1 47<|bP 1 48 46<|z))))<|
 (R<|b 49 .add (t 33) (i 1)<|m 33 49<|z)))))))<|
 (S (S (R<|f 50 11 1<|l 51 50<|bS 52 51<|b3 53 0<|z)<|
 (.block 2 [] ([4]++g 53 16)
 (.loop [53] ([4]++g 54 15)
 (S (R<|b 54 .lss (t 53) (t 52)<|z)<|
 (S (.cond (t 54) [] []
 .skip
 (.exit 2))<|
 (S (.block 3 [] ([4]++g 55 13)
 (S (R<|m 55 53<|m 4 55<|z)<|
 (D<|f 56 11 1<|l 57 56<|m 58 4<|f 59 11 1<|l 60 59<|m 61 4<|cu 62 13 60 61<|f 63 1 62<|l 64 63<|O 65 (.call 35 [(t 64)])<|cu 66 13 57 58<|f 67 1 66<|bP 1 67 65<|z)))<|
 (R<|b 68 .add (t 53) (i 1)<|m 53 68<|z)))))))<|
 (S (S (R<|f 69 12 1<|l 70 69<|bS 71 70<|b3 72 0<|z)<|
 (.block 4 [] ([5,6]++g 72 41)
 (.loop [72] ([5,6]++g 73 40)
 (S (R<|b 73 .lss (t 72) (t 71)<|z)<|
 (S (.cond (t 73) [] []
 .skip
 (.exit 4))<|
 (S (.block 5 [] ([5,6]++g 74 38)
 (S (R<|m 74 72<|m 5 74<|z)<|
 (S (R<|f 75 12 1<|l 76 75<|m 77 5<|cu 78 33 76 77<|m 6 78<|z)<|
 (D<|m 79 6<|m 80 6<|m 81 6<|m 82 6<|o 83 (.buildSlice 89 [] 0 [])<|m 84 6<|f' 85 84<|f 86 1 85<|l 87 86<|(.op (I 88) (.a (.append 89 2 (t 83) (t 87))) (.hf [])<|m 89 6<|f' 90 89<|f 91 2 90<|(.op (I 92) (.a (.load true 8 (t 91))) (.hf [(88,91)])<|O 93 (.call 36 [(t 92)])<|m 94 6<|f' 95 94<|f 96 10 95<|(.op (I 97) (.a (.load true 8 (t 96))) (.hf [(88,96)])<|O 98 (.call 36 [(t 97)])<|m 99 6<|f' 100 99<|f 101 18 100<|(.op (I 102) (.a (.load true 8 (t 101))) (.hf [(88,101)])<|dA 103 36 102<|f' 104 79<|f 105 1 104<|bP 1 105 88<|f' 106 80<|f 107 2 106<|bP 8 107 93<|f' 108 81<|f 109 10 108<|bP 8 109 98<|f' 110 82<|f 111 18 110<|bP 8 111 103<|z))))))))<|
 (R<|b 112 .add (t 72) (i 1)<|m 72 112<|z)))))))<|
 (S (R<|bM 113 13 1<|bP 13 2 113<|z)<|
 .ret))))))),[.cell 2 true 13],[.ah]⟩
theorem X0:b5 13 Bc:=b7 Tryz.func13 rfl
def Bd(b:aR)(c:Nat)(e:J)(g:U)(h:J)(i:bb):(bb)->bb:=λc j k=>(ar .lss (aI j 0) h).bind λh=>aB (λ_ h=>aB (λ_ b=>(ar .add (aI j 0) (.int .i64 1)).bind λe=>c [e] (trim g [e] b)) λc=>(aq 12 e).bind λe=>(ab false 1 e h).bind λe=>(bW 33 e (aI j 0)).bind λe=>(fA e).bind λg=>(aq 1 g).bind λg=>(ab false 1 g h).bind λg=>(ek 89 2 J.emp g h).bind λg=>(fA e).bind λh=>(aq 2 h).bind λh=>hY (iX g.1 h g.2&&true) ((ab true 8 h g.2).bind λh=>(b 36 [h] (lock g.2)).bind λh=>dQ g.2 h.2 λi=>(fA e).bind λj=>(aq 10 j).bind λj=>hY (iX g.1 j i&&true) ((ab true 8 j i).bind λj=>(b 36 [j] (lock i)).bind λj=>dQ i j.2 λi=>(fA e).bind λk=>(aq 18 k).bind λk=>hY (iX g.1 k i&&true) ((ab true 8 k i).bind λk=>(b 36 [k] i).bind λb=>(fA e).bind λi=>(aq 1 i).bind λi=>(a_ 1 i g.1 b.2).bind λg=>(fA e).bind λi=>(aq 2 i).bind λi=>(a_ 8 i h.1 g).bind λg=>(fA e).bind λh=>(aq 10 h).bind λh=>(a_ 8 h j.1 g).bind λg=>(fA e).bind λe=>(aq 18 e).bind λe=>(a_ 8 e b.1 g).bind λb=>c [] b)))) λb=>a8 h (b [] k) (i [] k)
def Be(b:aR)(c:Nat)(e:J)(g:U)(h:J)(i:bb):(bb)->bb:=λc j k=>(ar .lss (aI j 0) h).bind λh=>aB (λ_ h=>aB (λ_ b=>(ar .add (aI j 0) (.int .i64 1)).bind λe=>c [e] (trim g [e] b)) λc=>(aq 11 e).bind λg=>(ab false 1 g h).bind λg=>(aq 11 e).bind λe=>(ab false 1 e h).bind λe=>(bW 13 e (aI j 0)).bind λe=>(aq 1 e).bind λe=>(ab false 1 e h).bind λe=>(b 35 [e] (lock h)).bind λb=>dQ h b.2 λe=>(bW 13 g (aI j 0)).bind λg=>(aq 1 g).bind λg=>(a_ 1 g b.1 e).bind λb=>c [] b) λb=>a8 h (b [] k) (i [] k)
def Bf(b:aR)(c:Nat)(e:J)(g:U)(h:J)(i:bb):(bb)->bb:=λb c j=>(ar .lss (aI c 0) h).bind λh=>aB (λ_ h=>aB (λ_ e=>(ar .add (aI c 0) (.int .i64 1)).bind λc=>b [c] (trim g [c] e)) λb=>(aq 10 e).bind λg=>(ab false 1 g h).bind λi=>(aq 10 e).bind λe=>(ab false 1 e h).bind λe=>(bW 2 e (aI c 0)).bind λe=>(aq 1 e).bind λe=>(ab false 1 e h).bind λe=>hY (iX J.emp g h&&true) ((ek 41 6 J.emp e h).bind λe=>(bW 2 i (aI c 0)).bind λc=>(aq 1 c).bind λc=>(a_ 1 c e.1 e.2).bind λc=>b [] c)) λb=>a8 h (b [] j) (i [] j)
def M1(b:aR)(c:Nat)(e:J)(g:U):bh:=bF (.ptr g.length 0) (g++[.box (b' e) 27 .rw]) λe h=>bF (.ptr h.length 0) (h++[.box [.str ⟨#[]⟩,.int .i64 0,.int .i64 0,.bc,.int .i64 0,.int .i64 0,.int .i64 0,.int .i64 0,.bool false,.bc,.bc,.bc,.bc] 27 .rw]) λh i=>(aq 3 e).bind λj=>(ab false 1 j i).bind λj=>(b 35 [j] (lock i)).bind λj=>dQ i j.2 λi=>(aq 9 e).bind λk=>(ab false 1 k i).bind λk=>(b 35 [k] i).bind λi=>(aq 3 e).bind λk=>(a_ 1 k j.1 i.2).bind λj=>(aq 9 e).bind λk=>(a_ 1 k i.1 j).bind λi=>(aq 10 e).bind λj=>(ab false 1 j i).bind λj=>(aq 11 e).bind λk=>(ab false 1 k i).bind λl=>(aq 12 e).bind λm=>(ab false 1 m i).bind λn=>hY (iX J.emp k i&&iX J.emp m i&&true) ((ek 39 2 J.emp j i).bind λi=>hY (iX J.emp m i.2&&true) ((ek 43 13 J.emp l i.2).bind λj=>(ek 57 33 J.emp n j.2).bind λk=>(aq 10 e).bind λl=>(a_ 1 l i.1 k.2).bind λi=>(aq 11 e).bind λl=>(a_ 1 l j.1 i).bind λi=>(aq 12 e).bind λj=>(a_ 1 j k.1 i).bind λi=>(aq 10 e).bind λj=>(ab false 1 j i).bind λj=>(bw false j).bind λj=>aB (λ_ i=>(aq 11 e).bind λj=>(ab false 1 j i).bind λj=>(bw false j).bind λj=>aB (λ_ i=>(aq 12 e).bind λj=>(ab false 1 j i).bind λj=>(bw false j).bind λj=>aB (λ_ b=>(ab true 13 e b).bind λc=>(a_ 13 h c b).bind λb=>(ab true 13 h b).bind λc=>aL [.ah] g b [c]) λg=>cr (Bd b c e i j g) c [(.int .i64 0)] i) λg=>cr (Be b c e i j g) c [(.int .i64 0)] i) λg=>cr (Bf b c e i j g) c [(.int .i64 0)] i))
open Go.aN.G in
def Bg:bU:=⟨1,53,(S (R<|c9 1 27 0<|o 2 (.new 27 ko)<|b3 3 0<|z)<|
 (S (S (R<|bM 6 13 1<|dA 7 16 6<|dB 8 7<|z)<|
 (.cond (t 8) [] [3,9]
 (S (R<|o 9 (.build ko [])<|bP 13 2 9<|b3 3 1<|z)<|
 .ret)
 .skip))<|
 (S (R<|bM 10 13 1<|dA 11 37 10<|o 4 (.new 27 ko)<|bP 13 4 11<|z)<|
 (S (R<|dA 12 38 4<|z)<|
 (S (D<|bM 13 13 4<|O 14 (.call 41 [(t 13)])<|f 15 10 4<|l 16 15<|bS 17 16<|dU 18 40 14 17<|o 19 (.call 39 [(t 4),(i 0),(t 18)])<|z)<|
 (S (D<|bM 20 13 4<|f 21 10 4<|l 22 21<|bS 23 22<|O 24 (.call 44 [(t 23)])<|dU 25 43 20 24<|dA 26 42 25<|m 5 26<|z)<|
 (S (S (R<|bM 27 13 4<|dA 28 45 27<|o 29 (.field false 6 1 (t 28))<|dB 30 29<|z)<|
 (.cond (t 30) [] ([3]++g 31 7)
 (S (R<|m 31 5<|f 32 11 4<|l 33 32<|bS 34 33<|dU 35 40 31 34<|o 36 (.call 39 [(t 4),(i 1),(t 35)])<|z)<|
 (S (R<|bM 37 13 4<|bP 13 2 37<|b3 3 0<|z)<|
 .ret))
 .skip))<|
 (S (R<|m 38 5<|f 39 12 4<|l 40 39<|bS 41 40<|dU 42 40 38 41<|o 43 (.call 39 [(t 4),(i 2),(t 42)])<|z)<|
 (S (D<|bM 44 13 4<|O 45 (.call 46 [(t 44)])<|O 46 (.call 42 [(t 45)])<|f 47 11 4<|l 48 47<|bS 49 48<|dU 50 40 46 49<|o 51 (.call 39 [(t 4),(i 1),(t 50)])<|z)<|
 (S (R<|bM 52 13 4<|bP 13 2 52<|b3 3 0<|z)<|
 .ret)))))))))),[.cell 2 true 13,.tmp 3],[(.agg jf),.ah]⟩
theorem X1:b5 14 Bg:=b7 Tryz.func14 rfl
def M3(b:aR)(c:Nat)(e:J)(g:U):bh:=bF (.ptr g.length 0) (g++[.box (b' e) 27 .rw]) λc e=>bF (.ptr e.length 0) (e++[.box [.str ⟨#[]⟩,.int .i64 0,.int .i64 0,.bc,.int .i64 0,.int .i64 0,.int .i64 0,.int .i64 0,.bool false,.bc,.bc,.bc,.bc] 27 .rw]) λe h=>(ab true 13 c h).bind λi=>(b 16 [i] h).bind λh=>(di .not h.1).bind λi=>aB (λ_ h=>(ab true 13 c h).bind λc=>(b 37 [c] h).bind λc=>bF (.ptr c.2.length 0) (c.2++[.box [.str ⟨#[]⟩,.int .i64 0,.int .i64 0,.bc,.int .i64 0,.int .i64 0,.int .i64 0,.int .i64 0,.bool false,.bc,.bc,.bc,.bc] 27 .rw]) λh i=>(a_ 13 h c.1 i).bind λc=>(b 38 [h] c).bind λc=>(ab true 13 h c.2).bind λi=>(b 41 [i] (lock c.2)).bind λi=>dQ c.2 i.2 λc=>(aq 10 h).bind λj=>(ab false 1 j c).bind λj=>(bw false j).bind λj=>(b 40 [i.1,j] c).bind λc=>(b 39 [h,(.int .i64 0),c.1] c.2).bind λc=>(ab true 13 h c.2).bind λi=>(aq 10 h).bind λj=>(ab false 1 j c.2).bind λj=>(bw false j).bind λj=>(b 44 [j] (lock c.2)).bind λj=>dQ c.2 j.2 λc=>(b 43 [i,j.1] c).bind λc=>(b 42 [c.1] c.2).bind λc=>(ab true 13 h c.2).bind λi=>(b 45 [i] c.2).bind λi=>(vi false 6 1 i.1).bind λj=>(di .not j).bind λj=>aB (λ_ i=>(aq 12 h).bind λj=>(ab false 1 j i).bind λj=>(bw false j).bind λj=>(b 40 [c.1,j] i).bind λc=>(b 39 [h,(.int .i64 2),c.1] c.2).bind λc=>(ab true 13 h c.2).bind λi=>(b 46 [i] (lock c.2)).bind λi=>dQ c.2 i.2 λc=>(b 42 [i.1] (lock c)).bind λi=>dQ c i.2 λc=>(aq 11 h).bind λj=>(ab false 1 j c).bind λj=>(bw false j).bind λj=>(b 40 [i.1,j] c).bind λc=>(b 39 [h,(.int .i64 1),c.1] c.2).bind λb=>(ab true 13 h b.2).bind λc=>(a_ 13 e c b.2).bind λb=>(ab true 13 e b).bind λc=>aL [(.agg jf),.ah] g b [c,(.int .i64 0)]) λk=>a8 j ((aq 11 h).bind λj=>(ab false 1 j i.2).bind λj=>(bw false j).bind λj=>(b 40 [c.1,j] i.2).bind λc=>(b 39 [h,(.int .i64 1),c.1] c.2).bind λb=>(ab true 13 h b.2).bind λc=>(a_ 13 e c b.2).bind λb=>(ab true 13 e b).bind λc=>aL [(.agg jf),.ah] g b [c,(.int .i64 0)]) (k [] i.2)) λb=>a8 i ((cK [.str ⟨#[]⟩,.int .i64 0,.int .i64 0,.bc,.int .i64 0,.int .i64 0,.int .i64 0,.int .i64 0,.bool false,.bc,.bc,.bc,.bc] []).bind λb=>(a_ 13 e (J.agg b) h.2).bind λb=>(ab true 13 e b).bind λc=>aL [(.agg jf),.ah] g b [c,(.int .i64 1)]) (b [] h.2)
open Go.aN.G in
def Bh:bU:=⟨1,117,(S (R<|c9 1 27 0<|o 2 (.new 27 ko)<|b3 3 0<|z)<|
 (S (S (R<|bM 15 13 1<|F 15 (.agg jf)<|dA 16 47 15<|dB 17 16<|z)<|
 (.cond (t 17) [] [3,18]
 (S (R<|o 18 (.build ko [])<|bP 13 2 18<|b3 3 1<|z)<|
 .ret)
 .skip))<|
 (S (R<|bM 19 13 1<|dA 20 48 19<|bP 13 1 20<|z)<|
 (S (R<|(.op (I 4) (.r6 3 1) .no<|z))<|
 (S (S (R<|f 21 3 1<|l 22 21<|bS 23 22<|b3 24 0<|z)<|
 (.block 0 [4] ([6]++g 24 12)
 (.loop [4,24] ([6]++g 25 11)
 (S (R<|b 25 .lss (t 24) (t 23)<|z)<|
 (S (.cond (t 25) [] []
 .skip
 (.exit 0))<|
 (S (.block 1 [4] ([6]++g 26 9)
 (S (R<|cu 26 1 22 24<|l 27 26<|m 6 27<|z)<|
 (S (R<|m 28 6<|dA 29 49 28<|dB 30 29<|z)<|
 (.cond (t 30) [4] (g 31 4)
 (R<|m 31 4<|m 32 6<|(.op (I 33) (.lQ 3 [(.int .i64 0)] 1 [(0,1,(t 32))]) .no<|o 34 (.append 3 1 (t 31) (t 33))<|m 4 34<|z))
 .skip))))<|
 (R<|b 35 .add (t 24) (i 1)<|m 24 35<|z)))))))<|
 (S (D<|bM 36 13 1<|f 37 10 1<|l 38 37<|bS 39 38<|m 40 4<|F 40 (.flat 1)<|O 41 (.call 51 [(t 39),(t 40)])<|o 42 (.call 50 [(t 36),(i 0),(t 41)])<|bP 13 1 42<|z)<|
 (S (R<|(.op (I 4) (.r6 3 1) .no<|z))<|
 (S (S (R<|f 43 10 1<|l 44 43<|bS 45 44<|b3 46 0<|z)<|
 (.block 2 [4] ([8,10]++g 46 22)
 (.loop [4,46] ([8,10]++g 47 21)
 (S (R<|b 47 .lss (t 46) (t 45)<|z)<|
 (S (.cond (t 47) [] []
 .skip
 (.exit 2))<|
 (S (.block 3 [4] ([8,10]++g 48 19)
 (S (R<|cu 48 2 44 46<|bM 49 2 48<|o 8 (.new 39 [(.int .i64 0),(.slice none 0 0)])<|bP 2 8 49<|z)<|
 (S (R<|f 50 1 8<|l 51 50<|bS 52 51<|b3 53 0<|z)<|
 (.block 4 [4] ([10]++g 53 14)
 (.loop [4,53] ([10]++g 54 13)
 (S (R<|b 54 .lss (t 53) (t 52)<|z)<|
 (S (.cond (t 54) [] []
 .skip
 (.exit 4))<|
 (S (.block 5 [4] ([10]++g 55 11)
 (S (R<|cu 55 6 51 53<|bM 56 6 55<|o 10 (.new 41 MQ)<|bP 6 10 56<|z)<|
 (S (R<|f 57 1 10<|l 58 57<|b 59 .neq (t 58) (i 0)<|z)<|
 (.cond (t 59) [4] (g 60 6)
 (R<|m 60 4<|f 61 1 10<|l 62 61<|b 63 .sub (t 62) (i 1)<|(.op (I 64) (.lQ 3 [(.int .i64 0)] 1 [(0,1,(t 63))]) .no<|o 65 (.append 3 1 (t 60) (t 64))<|m 4 65<|z))
 .skip))))<|
 (R<|b 66 .add (t 53) (i 1)<|m 53 66<|z)))))))))<|
 (R<|b 67 .add (t 46) (i 1)<|m 46 67<|z)))))))<|
 (S (S (R<|bM 68 13 1<|dA 69 52 68<|dB 70 69<|z)<|
 (.cond (t 70) [] ([3]++g 71 7)
 (S (D<|bM 71 13 1<|f 72 11 1<|l 73 72<|bS 74 73<|m 75 4<|F 75 (.flat 1)<|O 76 (.call 51 [(t 74),(t 75)])<|o 77 (.call 50 [(t 71),(i 1),(t 76)])<|bP 13 2 77<|b3 3 0<|z)<|
 .ret)
 .skip))<|
 (S (D<|bM 78 13 1<|f 79 12 1<|l 80 79<|bS 81 80<|m 82 4<|F 82 (.flat 1)<|O 83 (.call 51 [(t 81),(t 82)])<|o 84 (.call 50 [(t 78),(i 2),(t 83)])<|bP 13 1 84<|z)<|
 (S (R<|(.op (I 4) (.r6 3 1) .no<|z))<|
 (S (S (R<|f 85 12 1<|l 86 85<|bS 87 86<|b3 88 0<|z)<|
 (.block 6 [4] ([12,14]++g 88 22)
 (.loop [4,88] ([12,14]++g 89 21)
 (S (R<|b 89 .lss (t 88) (t 87)<|z)<|
 (S (.cond (t 89) [] []
 .skip
 (.exit 6))<|
 (S (.block 7 [4] ([12,14]++g 90 19)
 (S (R<|cu 90 33 86 88<|bM 91 33 90<|o 12 (.new 57 rm)<|bP 33 12 91<|z)<|
 (S (R<|f 92 1 12<|l 93 92<|bS 94 93<|b3 95 0<|z)<|
 (.block 8 [4] ([14]++g 95 14)
 (.loop [4,95] ([14]++g 96 13)
 (S (R<|b 96 .lss (t 95) (t 94)<|z)<|
 (S (.cond (t 96) [] []
 .skip
 (.exit 8))<|
 (S (.block 9 [4] ([14]++g 97 11)
 (S (R<|cu 97 2 93 95<|bM 98 2 97<|o 14 (.new 89 [(.int .i64 0),(.int .i64 0)])<|bP 2 14 98<|z)<|
 (S (R<|f 99 1 14<|l 100 99<|b 101 .neq (t 100) (i 0)<|z)<|
 (.cond (t 101) [4] (g 102 6)
 (R<|m 102 4<|f 103 1 14<|l 104 103<|b 105 .sub (t 104) (i 1)<|(.op (I 106) (.lQ 3 [(.int .i64 0)] 1 [(0,1,(t 105))]) .no<|o 107 (.append 3 1 (t 102) (t 106))<|m 4 107<|z))
 .skip))))<|
 (R<|b 108 .add (t 95) (i 1)<|m 95 108<|z)))))))))<|
 (R<|b 109 .add (t 88) (i 1)<|m 88 109<|z)))))))<|
 (S (D<|bM 110 13 1<|f 111 11 1<|l 112 111<|bS 113 112<|m 114 4<|F 114 (.flat 1)<|O 115 (.call 51 [(t 113),(t 114)])<|o 116 (.call 50 [(t 110),(i 1),(t 115)])<|bP 13 2 116<|b3 3 0<|z)<|
 .ret))))))))))))),[.cell 2 true 13,.tmp 3],[(.agg jf),.ah]⟩
theorem X2:b5 15 Bh:=b7 Tryz.func15 rfl
def Bi(b:aR)(c:Nat)(e:U)(g h:J)(i:bb):(bb)->bb:=λb c j=>(ar .lss (aI c 1) h).bind λh=>aB (λ_ h=>aB (λg h=>(ar .add (aI c 1) (.int .i64 1)).bind λc=>b [(aI g 0),c] (trim e [(aI g 0),c] h)) λb=>(bW 2 g (aI c 1)).bind λe=>(ab true 2 e h).bind λe=>bF (.ptr h.length 0) (h++[.box [.int .i64 0,.int .i64 0] 89 .rw]) λg h=>(a_ 2 g e h).bind λe=>(aq 1 g).bind λh=>(ab false 1 h e).bind λh=>(ar .neq h (.int .i64 0)).bind λh=>aB (λc e=>b [(aI c 0)] e) λb=>a8 h ((aq 1 g).bind λg=>(ab false 1 g e).bind λg=>(ar .sub g (.int .i64 1)).bind λg=>(cK (hL [.int .i64 0] 1) [(0,1,g)]).bind λg=>hY (g.all fz) (bF (.bz 1 (hJ 1 1 g)) (e) λe g=>(ek 3 1 (aI c 0) e g).bind λc=>b [c.1] c.2)) (b [(aI c 0)] e)) λb=>a8 h (b [] j) (i [(aI c 0)] j)
def Bj(b:aR)(c:Nat)(e:U)(g h:J)(i:bb):(bb)->bb:=λj k l=>(ar .lss (aI k 1) h).bind λh=>aB (λ_ h=>aB (λb c=>(ar .add (aI k 1) (.int .i64 1)).bind λg=>j [(aI b 0),g] (trim e [(aI b 0),g] c)) λe=>(bW 33 g (aI k 1)).bind λg=>(ab true 33 g h).bind λg=>bF (.ptr h.length 0) (h++[.box h0 57 .rw]) λh i=>(a_ 33 h g i).bind λg=>(aq 1 h).bind λh=>(ab false 1 h g).bind λh=>(bw false h).bind λi=>aB (λb c=>e [(aI b 0)] c) λe=>cr (Bi b c g h i e) c [(aI k 0),(.int .i64 0)] g) λb=>a8 h (b [] l) (i [(aI k 0)] l)
def Bk(b:aR)(c:Nat)(e:U)(g h:J)(i:bb):(bb)->bb:=λb c j=>(ar .lss (aI c 1) h).bind λh=>aB (λ_ h=>aB (λg h=>(ar .add (aI c 1) (.int .i64 1)).bind λc=>b [(aI g 0),c] (trim e [(aI g 0),c] h)) λb=>(bW 6 g (aI c 1)).bind λe=>(ab true 6 e h).bind λe=>bF (.ptr h.length 0) (h++[.box [.int .i64 0,.int .i64 0,.int .i64 0,.int .i64 0,.int .i64 0,.int .i64 0] 41 .rw]) λg h=>(a_ 6 g e h).bind λe=>(aq 1 g).bind λh=>(ab false 1 h e).bind λh=>(ar .neq h (.int .i64 0)).bind λh=>aB (λc e=>b [(aI c 0)] e) λb=>a8 h ((aq 1 g).bind λg=>(ab false 1 g e).bind λg=>(ar .sub g (.int .i64 1)).bind λg=>(cK (hL [.int .i64 0] 1) [(0,1,g)]).bind λg=>hY (g.all fz) (bF (.bz 1 (hJ 1 1 g)) (e) λe g=>(ek 3 1 (aI c 0) e g).bind λc=>b [c.1] c.2)) (b [(aI c 0)] e)) λb=>a8 h (b [] j) (i [(aI c 0)] j)
def Bl(b:aR)(c:Nat)(e:U)(g h:J)(i:bb):(bb)->bb:=λj k l=>(ar .lss (aI k 1) h).bind λh=>aB (λ_ h=>aB (λb c=>(ar .add (aI k 1) (.int .i64 1)).bind λg=>j [(aI b 0),g] (trim e [(aI b 0),g] c)) λe=>(bW 2 g (aI k 1)).bind λg=>(ab true 2 g h).bind λg=>bF (.ptr h.length 0) (h++[.box [.int .i64 0,.bc] 39 .rw]) λh i=>(a_ 2 h g i).bind λg=>(aq 1 h).bind λh=>(ab false 1 h g).bind λh=>(bw false h).bind λi=>aB (λb c=>e [(aI b 0)] c) λe=>cr (Bk b c g h i e) c [(aI k 0),(.int .i64 0)] g) λb=>a8 h (b [] l) (i [(aI k 0)] l)
def Bm(b:aR)(c:Nat)(e:U)(g h:J)(i:bb):(bb)->bb:=λc j k=>(ar .lss (aI j 1) h).bind λh=>aB (λ_ h=>aB (λb g=>(ar .add (aI j 1) (.int .i64 1)).bind λh=>c [(aI b 0),h] (trim e [(aI b 0),h] g)) λc=>(bW 1 g (aI j 1)).bind λe=>(ab false 1 e h).bind λe=>(b 49 [e] h).bind λb=>(di .not b.1).bind λg=>aB (λb e=>c [(aI b 0)] e) λc=>a8 g ((cK (hL [.int .i64 0] 1) [(0,1,e)]).bind λe=>hY (e.all fz) (bF (.bz 1 (hJ 1 1 e)) (b.2) λb e=>(ek 3 1 (aI j 0) b e).bind λb=>c [b.1] b.2)) (c [(aI j 0)] b.2)) λb=>a8 h (b [] k) (i [(aI j 0)] k)
def M4(b:aR)(c:Nat)(e:J)(g:U):bh:=bF (.ptr g.length 0) (g++[.box (b' e) 27 .rw]) λe h=>bF (.ptr h.length 0) (h++[.box [.str ⟨#[]⟩,.int .i64 0,.int .i64 0,.bc,.int .i64 0,.int .i64 0,.int .i64 0,.int .i64 0,.bool false,.bc,.bc,.bc,.bc] 27 .rw]) λh i=>(ab true 13 e i).bind λj=>(dh (.agg jf) j i).bind λi=>(b 47 [i.1] i.2).bind λi=>(di .not i.1).bind λj=>aB (λ_ i=>(ab true 13 e i).bind λj=>(b 48 [j] i).bind λi=>(a_ 13 e i.1 i.2).bind λi=>bF (.ref i.length 0 0 0 1) (i++[.log [] 1 3 .rw]) λi j=>(aq 3 e).bind λk=>(ab false 1 k j).bind λk=>(bw false k).bind λl=>aB (λi j=>(ab true 13 e j).bind λk=>(aq 10 e).bind λl=>(ab false 1 l j).bind λl=>(bw false l).bind λl=>(dh (.flat 1) (aI i 0) j).bind λi=>(b 51 [l,i.1] (lock i.2)).bind λj=>dQ i.2 j.2 λi=>(b 50 [k,(.int .i64 0),j.1] i).bind λi=>(a_ 13 e i.1 i.2).bind λi=>bF (.ref i.length 0 0 0 1) (i++[.log [] 1 3 .rw]) λi j=>(aq 10 e).bind λk=>(ab false 1 k j).bind λk=>(bw false k).bind λl=>aB (λi j=>(ab true 13 e j).bind λk=>(b 52 [k] j).bind λj=>(di .not j.1).bind λk=>aB (λ_ j=>(ab true 13 e j).bind λk=>(aq 12 e).bind λl=>(ab false 1 l j).bind λl=>(bw false l).bind λl=>(dh (.flat 1) (aI i 0) j).bind λi=>(b 51 [l,i.1] (lock i.2)).bind λj=>dQ i.2 j.2 λi=>(b 50 [k,(.int .i64 2),j.1] i).bind λi=>(a_ 13 e i.1 i.2).bind λi=>bF (.ref i.length 0 0 0 1) (i++[.log [] 1 3 .rw]) λi j=>(aq 12 e).bind λk=>(ab false 1 k j).bind λk=>(bw false k).bind λl=>aB (λc i=>(ab true 13 e i).bind λj=>(aq 11 e).bind λe=>(ab false 1 e i).bind λe=>(bw false e).bind λe=>(dh (.flat 1) (aI c 0) i).bind λc=>(b 51 [e,c.1] (lock c.2)).bind λe=>dQ c.2 e.2 λc=>(b 50 [j,(.int .i64 1),e.1] c).bind λb=>(a_ 13 h b.1 b.2).bind λb=>(ab true 13 h b).bind λc=>aL [(.agg jf),.ah] g b [c,(.int .i64 0)]) λe=>cr (Bj b c j k l e) c [i,(.int .i64 0)] j) λc=>a8 k ((ab true 13 e j.2).bind λc=>(aq 11 e).bind λe=>(ab false 1 e j.2).bind λe=>(bw false e).bind λe=>(dh (.flat 1) (aI i 0) j.2).bind λi=>(b 51 [e,i.1] (lock i.2)).bind λe=>dQ i.2 e.2 λi=>(b 50 [c,(.int .i64 1),e.1] i).bind λb=>(a_ 13 h b.1 b.2).bind λb=>(ab true 13 h b).bind λc=>aL [(.agg jf),.ah] g b [c,(.int .i64 0)]) (c [] j.2)) λe=>cr (Bl b c j k l e) c [i,(.int .i64 0)] j) λe=>cr (Bm b c j k l e) c [i,(.int .i64 0)] j) λb=>a8 j ((cK [.str ⟨#[]⟩,.int .i64 0,.int .i64 0,.bc,.int .i64 0,.int .i64 0,.int .i64 0,.int .i64 0,.bool false,.bc,.bc,.bc,.bc] []).bind λb=>(a_ 13 h (J.agg b) i.2).bind λb=>(ab true 13 h b).bind λc=>aL [(.agg jf),.ah] g b [c,(.int .i64 1)]) (b [] i.2)
open Go.aN.G in
def Bn:bU:=⟨1,14,(S (R<|c9 1 27 0<|cn 2<|z)<|
 (S (R<|bM 7 13 1<|dA 8 24 7<|m 6 8<|eC 9 6 0<|eC 10 6 1<|eC 11 6 2<|m 3 9<|m 4 10<|m 5 11<|z)<|
 (S (R<|m 12 5<|b 13 .eql (t 12) (i 0)<|m 2 13<|z)<|
 .ret))),[.tmp 2],[.ah]⟩
theorem X3:b5 16 Bn:=b7 Tryz.func16 rfl
def M5(b:aR)(c:Nat)(e:J)(g:U):bh:=bF (.ptr g.length 0) (g++[.box (b' e) 27 .rw]) λc e=>(ab true 13 c e).bind λc=>(b 24 [c] e).bind λb=>(ea b.1 0).bind λ_=>(ea b.1 1).bind λ_=>(ea b.1 2).bind λc=>(ar .eql c (.int .i64 0)).bind λc=>aL [.ah] g b.2 [c]
open Go.aN.G in
def Bo:bU:=⟨3,82,(S (R<|o 6 (.new 27 ko)<|b3 7 0<|z)<|
 (S (R<|m 17 0<|dA 18 53 17<|m 16 18<|eC 19 16 0<|eC 20 16 1<|o 8 (.new 83 iM)<|bP 29 8 19<|m 9 20<|z)<|
 (S (.block 0 [] ([7]++g 21 17)
 (S (R<|m 22 9<|b 23 .neq (t 22) (i 0)<|m 21 23<|z)<|
 (.cond (t 21) [] ([7]++g 24 14)
 (S (R<|o 24 (.build ko [])<|m 25 9<|bP 13 6 24<|m 7 25<|z)<|
 .ret)
 (S (R<|m 27 1<|f 28 1 8<|l 29 28<|o 30 (.call 54 [(t 27),(i 1),(t 29)])<|dB 31 30<|m 32 31<|q 36 32 false [33,34,35] (m 33 2<|o 34 (.call 54 [(t 33),(i 1),(i 32)])<|dB 35 34<|z) (t 35)<|
 m 26 36<|z)<|
 (.cond (t 26) [] [7,37]
 (S (R<|o 37 (.build ko [])<|bP 13 6 37<|b3 7 5<|z)<|
 .ret)
 .skip)))))<|
 (S (R<|m 38 0<|m 39 1<|f 40 8 8<|l 41 40<|o 42 (.build ko [(1,1,(t 38)),(2,1,(t 39)),(5,1,(i 6)),(6,1,(i 125)),(7,1,(i 128)),(8,1,(t 41))])<|o 10 (.new 27 ko)<|bP 13 10 42<|z)<|
 (S (S (R<|m 43 1<|b3 44 0<|z)<|
 (.block 1 [] ([11,12]++g 44 15)
 (.loop [44] ([11,12]++g 45 14)
 (S (R<|b 45 .lss (t 44) (t 43)<|z)<|
 (S (.cond (t 45) [] []
 .skip
 (.exit 1))<|
 (S (.block 2 [] ([11,12]++g 46 12)
 (S (R<|m 46 44<|m 11 46<|z)<|
 (S (R<|b3 12 128<|z)<|
 (S (S (R<|m 47 0<|b 48 .eql (t 47) (i 1)<|z)<|
 (.cond (t 48) [12] [49,50,51]
 (R<|o 49 (.build XQ [(0,1,(i 0)),(1,1,(i 256)),(2,1,(i 256)),(3,1,(i 0))])<|m 50 11<|o 51 (.q0 4 false 1 (t 49) (t 50))<|m 12 51<|z)
 .skip))<|
 (R<|f 52 9 10<|l 53 52<|m 54 12<|(.op (I 55) (.lQ 3 [(.int .i64 0)] 1 [(0,1,(t 54))]) .no<|o 56 (.append 3 1 (t 53) (t 55))<|f 57 9 10<|bP 1 57 56<|z))))))<|
 (R<|b 58 .add (t 44) (i 1)<|m 44 58<|z)))))))<|
 (S (S (R<|m 59 2<|b3 60 0<|z)<|
 (.block 3 [] ([13,14,15]++g 60 21)
 (.loop [60] ([13,14,15]++g 61 20)
 (S (R<|b 61 .lss (t 60) (t 59)<|z)<|
 (S (.cond (t 61) [] []
 .skip
 (.exit 3))<|
 (S (.block 4 [] ([13,14,15]++g 62 18)
 (S (R<|m 62 60<|m 13 62<|z)<|
 (S (R<|m 64 1<|o 65 (.call 55 [(i 64),(t 64)])<|m 63 65<|eC 66 63 0<|eC 67 63 1<|o 14 (.new 39 [(.int .i64 0),(.slice none 0 0)])<|bP 2 14 66<|m 15 67<|z)<|
 (D<|f 68 10 10<|l 69 68<|bM 70 2 14<|(.op (I 71) (.lQ 39 [(.int .i64 0),(.slice none 0 0)] 1 [(0,2,(t 70))]) .no<|f 73 3 10<|l 74 73<|m 75 13<|(.op (I 76) (.lQ 3 [(.int .i64 0)] 1 [(0,1,(t 75))]) .no<|(.op (I 72) (.a (.append 39 2 (t 69) (t 71))) (.hf [(69,73)])<|o 77 (.append 3 1 (t 74) (t 76))<|f 78 10 10<|bP 1 78 72<|f 79 3 10<|bP 1 79 77<|z)))))))<|
 (R<|b 80 .add (t 60) (i 1)<|m 60 80<|z)))))))<|
 (S (R<|bM 81 13 10<|bP 13 6 81<|b3 7 0<|z)<|
 .ret))))))),[.cell 6 true 13,.tmp 7],[(.agg jf),.ah]⟩
theorem X4:b5 17 Bo:=b7 Tryz.func17 rfl
def Bp(b:aR)(c:Nat)(e g h:J)(i:U)(j:bb):(bb)->bb:=λc k l=>(ar .lss (aI k 0) g).bind λg=>aB (λ_ g=>aB (λ_ b=>(ar .add (aI k 0) (.int .i64 1)).bind λe=>c [e] (trim i [e] b)) λc=>(b 55 [(.int .i64 64),e] g).bind λb=>(ea b.1 0).bind λe=>(ea b.1 1).bind λ_=>bF (.ptr b.2.length 0) (b.2++[.box [.int .i64 0,.bc] 39 .rw]) λb g=>(a_ 2 b e g).bind λe=>(aq 10 h).bind λg=>(ab false 1 g e).bind λg=>(ab true 2 b e).bind λb=>(cK (hL [.int .i64 0,.bc] 1) [(0,2,b)]).bind λb=>hY (b.all fz) (bF (.bz 2 (hJ 2 1 b)) (e) λb e=>(aq 3 h).bind λi=>(ab false 1 i e).bind λj=>(cK (hL [.int .i64 0] 1) [(0,1,(aI k 0))]).bind λk=>hY (k.all fz) (bF (.bz 1 (hJ 1 1 k)) (e) λe k=>hY (iX g i k&&true) ((ek 39 2 g b k).bind λb=>(ek 3 1 j e b.2).bind λe=>(aq 10 h).bind λg=>(a_ 1 g b.1 e.2).bind λb=>(aq 3 h).bind λg=>(a_ 1 g e.1 b).bind λb=>c [] b)))) λb=>a8 g (b [] l) (j [] l)
def yq(b:aR)(c:Nat)(e g h:J)(i:U)(j:bb):(bb)->bb:=λb c k=>(ar .lss (aI c 0) g).bind λg=>aB (λ_ g=>aB (λ_ e=>(ar .add (aI c 0) (.int .i64 1)).bind λc=>b [c] (trim i [c] e)) λb=>(ar .eql e (.int .i64 1)).bind λe=>aB (λc e=>(aq 9 h).bind λg=>(ab false 1 g e).bind λg=>(cK (hL [.int .i64 0] 1) [(0,1,(aI c 0))]).bind λc=>hY (c.all fz) (bF (.bz 1 (hJ 1 1 c)) (e) λc e=>(ek 3 1 g c e).bind λc=>(aq 9 h).bind λe=>(a_ 1 e c.1 c.2).bind λc=>b [] c)) λb=>a8 e ((cK [.int .i64 0,.int .i64 0,.int .i64 0,.int .i64 0] [(0,1,(.int .i64 0)),(1,1,(.int .i64 256)),(2,1,(.int .i64 256)),(3,1,(.int .i64 0))]).bind λe=>(q_ 4 false 1 (J.agg e) (aI c 0)).bind λc=>b [c] g) (b [(.int .i64 128)] g)) λb=>a8 g (b [] k) (j [] k)
def M6(b:aR)(c:Nat)(e g h:J)(i:U):bh:=bF (.ptr i.length 0) (i++[.box [.str ⟨#[]⟩,.int .i64 0,.int .i64 0,.bc,.int .i64 0,.int .i64 0,.int .i64 0,.int .i64 0,.bool false,.bc,.bc,.bc,.bc] 27 .rw]) λj k=>(b 53 [e] k).bind λk=>(ea k.1 0).bind λl=>(ea k.1 1).bind λm=>bF (.ptr k.2.length 0) (k.2++[.box eR 83 .rw]) λk n=>(a_ 29 k l n).bind λl=>aB (λ_ l=>(aq 8 k).bind λk=>(ab false 1 k l).bind λk=>(cK [.str ⟨#[]⟩,.int .i64 0,.int .i64 0,.bc,.int .i64 0,.int .i64 0,.int .i64 0,.int .i64 0,.bool false,.bc,.bc,.bc,.bc] [(1,1,e),(2,1,g),(5,1,(.int .i64 6)),(6,1,(.int .i64 125)),(7,1,(.int .i64 128)),(8,1,k)]).bind λk=>bF (.ptr l.length 0) (l++[.box [.str ⟨#[]⟩,.int .i64 0,.int .i64 0,.bc,.int .i64 0,.int .i64 0,.int .i64 0,.int .i64 0,.bool false,.bc,.bc,.bc,.bc] 27 .rw]) λl m=>(a_ 13 l (J.agg k) m).bind λk=>aB (λ_ e=>aB (λ_ b=>(ab true 13 l b).bind λc=>(a_ 13 j c b).bind λb=>(ab true 13 j b).bind λc=>aL [(.agg jf),.ah] i b [c,(.int .i64 0)]) λi=>cr (Bp b c g h l e i) c [(.int .i64 0)] e) λh=>cr (yq b c e g l k h) c [(.int .i64 0)] k) λc=>(ar .neq m (.int .i64 0)).bind λe=>aB (λ_ b=>c [] b) λc=>a8 e ((cK [.str ⟨#[]⟩,.int .i64 0,.int .i64 0,.bc,.int .i64 0,.int .i64 0,.int .i64 0,.int .i64 0,.bool false,.bc,.bc,.bc,.bc] []).bind λb=>(a_ 13 j (J.agg b) l).bind λb=>(ab true 13 j b).bind λc=>aL [(.agg jf),.ah] i b [c,m]) ((aq 1 k).bind λe=>(ab false 1 e l).bind λe=>(b 54 [g,(.int .i64 1),e] l).bind λe=>(di .not e.1).bind λg=>a6 (λb e=>aB (λ_ b=>c [] b) λc=>a8 b ((cK [.str ⟨#[]⟩,.int .i64 0,.int .i64 0,.bc,.int .i64 0,.int .i64 0,.int .i64 0,.int .i64 0,.bool false,.bc,.bc,.bc,.bc] []).bind λb=>(a_ 13 j (J.agg b) e).bind λb=>(ab true 13 j b).bind λc=>aL [(.agg jf),.ah] i b [c,(.int .i64 5)]) (c [] e)) λc=>a7 g false ((b 54 [h,(.int .i64 1),(.int .i64 32)] e.2).bind λb=>(di .not b.1).bind λe=>c e b.2) (c (.bool true) e.2))
open Go.aN.G in
def Bq:bU:=⟨1,50,(S (R<|c9 1 27 0<|o 2 (.move (.const (.string ⟨#[]⟩)))<|b3 3 0<|b3 4 0<|z)<|
 (S (R<|f 13 1 1<|l 14 13<|dA 15 53 14<|m 12 15<|eC 16 12 0<|eC 17 12 1<|o 5 (.new 83 iM)<|bP 29 5 16<|m 6 17<|z)<|
 (S (R<|bM 18 13 1<|bM 19 29 5<|o 20 (.build MS [(0,13,(t 18)),(13,29,(t 19))])<|o 7 (.new 104 MS)<|bP 42 7 20<|z)<|
 (S (S (R<|bM 21 42 7<|o 22 (.jW 68 [(t 21)] [])<|bM 23 42 7<|o 24 (.jW 69 [(t 23)] [])<|bM 25 42 7<|o 26 (.jW 70 [(t 25)] [])<|bM 27 42 7<|o 28 (.jW 71 [(t 27)] [])<|bM 29 42 7<|o 30 (.jW 72 [(t 29)] [])<|o 31 (.buildSlice 105 [.nilFunc] 5 [(0,1,(t 22)),(1,1,(t 24)),(2,1,(t 26)),(3,1,(t 28)),(4,1,(t 30))])<|bS 32 31<|b3 33 0<|z)<|
 (.block 0 [] ([2,3,4,9,10,11]++g 33 17)
 (.loop [33] ([2,3,4,9,10,11]++g 34 16)
 (S (R<|b 34 .lss (t 33) (t 32)<|z)<|
 (S (.cond (t 34) [] []
 .skip
 (.exit 0))<|
 (S (.block 1 [] ([2,3,4,9,10,11]++g 35 14)
 (S (R<|cu 35 1 31 33<|l 36 35<|m 9 36<|z)<|
 (S (R<|m 38 9<|o 39 (.hU (t 38) [])<|m 37 39<|eC 40 37 0<|eC 41 37 1<|o 10 (.new 108 eH)<|bP 3 10 40<|m 11 41<|z)<|
 (S (R<|m 42 11<|z)<|
 (.cond (t 42) [] ([2,3,4]++g 43 6)
 (S (D<|f 43 0 10<|l 44 43<|f 45 1 10<|l 46 45<|f 47 2 10<|l 48 47<|m 2 44<|m 3 46<|m 4 48<|z)<|
 .ret)
 .skip)))))<|
 (R<|b 49 .add (t 33) (i 1)<|m 33 49<|z)))))))<|
 (S (R<|o 2 (.move (.const (.string ⟨#[]⟩)))<|o 3 (.move (i (-1)))<|b3 4 0<|z)<|
 .ret))))),[.tmp 2,.tmp 3,.tmp 4],[.ah,.ah,.ah]⟩
theorem X5:b5 24 Bq:=b7 Tryz.func24 rfl
def Br(b:aR)(c:Nat)(e:U)(g:J)(h:U)(i:J)(j:bb):(bb)->bb:=λc k l=>(ar .lss (aI k 0) i).bind λi=>aB (λ_ i=>aB (λ_ b=>(ar .add (aI k 0) (.int .i64 1)).bind λe=>c [e] (trim h [e] b)) λc=>(bW 1 g (aI k 0)).bind λg=>(ab false 1 g i).bind λg=>(gh b g [] i).bind λb=>(ea b.1 0).bind λg=>(ea b.1 1).bind λh=>bF (.ptr b.2.length 0) (b.2++[.box [.str ⟨#[]⟩,.int .i64 0,.int .i64 0] 108 .rw]) λb i=>(a_ 3 b g i).bind λg=>aB (λ_ b=>c [] b) λc=>a8 h ((aq 0 b).bind λc=>(ab false 1 c g).bind λc=>(aq 1 b).bind λh=>(ab false 1 h g).bind λh=>(aq 2 b).bind λb=>(ab false 1 b g).bind λb=>aL [.ah,.ah,.ah] e g [c,h,b]) (c [] g)) λb=>a8 i (b [] l) (j [] l)
def M7(b:aR)(c:Nat)(e:J)(g:U):bh:=bF (.ptr g.length 0) (g++[.box (b' e) 27 .rw]) λe h=>(aq 1 e).bind λi=>(ab false 1 i h).bind λi=>(b 53 [i] h).bind λh=>(ea h.1 0).bind λi=>(ea h.1 1).bind λ_=>bF (.ptr h.2.length 0) (h.2++[.box eR 83 .rw]) λh j=>(a_ 29 h i j).bind λi=>(ab true 13 e i).bind λe=>(ab true 29 h i).bind λh=>(cK A6 [(0,13,e),(13,29,h)]).bind λe=>bF (.ptr i.length 0) (i++[.box A6 104 .rw]) λh i=>(a_ 42 h (J.agg e) i).bind λe=>(ab true 42 h e).bind λi=>(ab true 42 h e).bind λj=>(ab true 42 h e).bind λk=>(ab true 42 h e).bind λl=>(ab true 42 h e).bind λh=>(cK (hL [.mi] 5) [(0,1,(J.func 68 [i] [])),(1,1,(J.func 69 [j] [])),(2,1,(J.func 70 [k] [])),(3,1,(J.func 71 [l] [])),(4,1,(J.func 72 [h] []))]).bind λh=>bF (.ref e.length 0 5 5 1) (e++[.log (hJ 1 5 h) 1 105 .rw]) λe h=>(bw false e).bind λi=>aB (λ_ b=>aL [.ah,.ah,.ah] g b [(.str ⟨#[]⟩:J),(.int .i64 (-1)),(.int .i64 0)]) λj=>cr (Br b c g e h i j) c [(.int .i64 0)] h
open Go.aN.G in
def yr:bU:=⟨1,20,(S (R<|c9 1 27 0<|o 2 (.new 61 MR)<|z)<|
 (S (R<|f 3 0 1<|l 4 3<|f 5 1 1<|l 6 5<|f 7 2 1<|l 8 7<|f 9 4 1<|l 10 9<|f 11 5 1<|l 12 11<|f 13 6 1<|l 14 13<|f 15 7 1<|l 16 15<|f 17 8 1<|l 18 17<|o 19 (.build MR [(0,1,(t 4)),(1,1,(t 6)),(2,1,(t 8)),(3,1,(t 10)),(4,1,(t 12)),(5,1,(t 14)),(6,1,(t 16)),(7,1,(t 18))])<|bP 8 2 19<|z)<|
 .ret)),[.cell 2 true 8],[.ah]⟩
theorem X6:b5 25 yr:=b7 Tryz.func25 rfl
def HW(b:aR)(c:Nat)(e:J)(g:U):bh:=bF (.ptr g.length 0) (g++[.box (b' e) 27 .rw]) λb c=>bF (.ptr c.length 0) (c++[.box [.str ⟨#[]⟩,.int .i64 0,.int .i64 0,.int .i64 0,.int .i64 0,.int .i64 0,.int .i64 0,.bool false] 61 .rw]) λc e=>(aq 0 b).bind λh=>(ab false 1 h e).bind λh=>(aq 1 b).bind λi=>(ab false 1 i e).bind λi=>(aq 2 b).bind λj=>(ab false 1 j e).bind λj=>(aq 4 b).bind λk=>(ab false 1 k e).bind λk=>(aq 5 b).bind λl=>(ab false 1 l e).bind λl=>(aq 6 b).bind λm=>(ab false 1 m e).bind λm=>(aq 7 b).bind λn=>(ab false 1 n e).bind λn=>(aq 8 b).bind λb=>(ab false 1 b e).bind λb=>(cK [.str ⟨#[]⟩,.int .i64 0,.int .i64 0,.int .i64 0,.int .i64 0,.int .i64 0,.int .i64 0,.bool false] [(0,1,h),(1,1,i),(2,1,j),(3,1,k),(4,1,l),(5,1,m),(6,1,n),(7,1,b)]).bind λb=>(a_ 8 c (J.agg b) e).bind λb=>(ab true 8 c b).bind λc=>aL [.ah] g b [c]
theorem X7(Γ:aR)(n:Nat)(al:J)(h:U):bX Γ n yr [al] h=HW Γ n al h:=by
 unfold bX yr HW
 simp only[Go.aN.G.S,Go.aN.G.R,Go.aN.G.o,Go.aN.G.f,Go.aN.G.l,Go.aN.G.n,Go.aN.G.z,Go.aN.G.t,Go.aN.G.bM,Go.aN.G.bP,Go.aN.G.bS,Go.aN.G.b3,Go.aN.G.cn,Go.aN.G.gk,Go.aN.G.cu,Go.aN.G.c9,Go.aN.G.dA,Go.aN.G.dU,Go.aN.G.dB,Go.aN.G.eC,Go.aN.G.f',iY,iy,gC,dT,vl,r9,Xx,Xy,Nat.reduceBEq,qm]
 kernel_rfl
open Go.aN.G in
def Bs:bU:=⟨2,26,(S (R<|cn 4<|z)<|
 (S (S (R<|m 6 0<|bS 7 6<|m 8 1<|bS 9 8<|b 10 .neq (t 7) (t 9)<|z)<|
 (.cond (t 10) [] [4]
 (S (R<|cn 4<|z)<|
 .ret)
 .skip))<|
 (S (S (R<|m 11 0<|bS 12 11<|b3 13 0<|z)<|
 (.block 0 [] ([4,5]++g 13 13)
 (.loop [13] ([4,5]++g 14 12)
 (S (R<|b 14 .lss (t 13) (t 12)<|z)<|
 (S (.cond (t 14) [] []
 .skip
 (.exit 0))<|
 (S (.block 1 [] ([4,5]++g 15 10)
 (S (R<|m 15 13<|m 5 15<|z)<|
 (S (D<|m 16 0<|m 17 5<|cu 18 1 16 17<|l 19 18<|m 20 1<|m 21 5<|cu 22 1 20 21<|l 23 22<|b 24 .neq (t 19) (t 23)<|z)<|
 (.cond (t 24) [] [4]
 (S (R<|cn 4<|z)<|
 .ret)
 .skip))))<|
 (R<|b 25 .add (t 13) (i 1)<|m 13 25<|z)))))))<|
 (S (R<|gk 4<|z)<|
 .ret)))),[.tmp 4],[.ah]⟩
theorem X8:b5 26 Bs:=b7 Tryz.func26 rfl
def Bt(b:aR)(c:Nat)(e g:J)(h i:U)(j:J)(k:bb):(bb)->bb:=λb c l=>(ar .lss (aI c 0) j).bind λj=>aB (λ_ j=>aB (λ_ e=>(ar .add (aI c 0) (.int .i64 1)).bind λc=>b [c] (trim i [c] e)) λb=>(bW 1 e (aI c 0)).bind λe=>(ab false 1 e j).bind λe=>(bW 1 g (aI c 0)).bind λc=>(ab false 1 c j).bind λc=>(ar .neq e c).bind λc=>aB (λ_ c=>b [] c) λb=>a8 c (aL [.ah] h j [(.bool false)]) (b [] j)) λb=>a8 j (b [] l) (k [] l)
def M8(b:aR)(c:Nat)(e g:J)(h:U):bh:=(bw false e).bind λi=>(bw false g).bind λj=>(ar .neq i j).bind λi=>aB (λ_ i=>(bw false e).bind λj=>aB (λ_ b=>aL [.ah] h b [(.bool true)]) λk=>cr (Bt b c e g h i j k) c [(.int .i64 0)] i) λb=>a8 i (aL [.ah] h h [(.bool false)]) (b [] h)
open Go.aN.G in
def Bu:bU:=⟨3,32,(S (R<|cn 6<|z)<|
 (S (S (R<|m 10 0<|bS 11 10<|m 12 1<|bS 13 12<|b 14 .neq (t 11) (t 13)<|z)<|
 (.cond (t 14) [] [6]
 (S (R<|cn 6<|z)<|
 .ret)
 .skip))<|
 (S (S (R<|m 15 0<|bS 16 15<|b3 17 0<|z)<|
 (.block 0 [] (g 6 4++g 17 15)
 (.loop [17] (g 6 4++g 18 14)
 (S (R<|b 18 .lss (t 17) (t 16)<|z)<|
 (S (.cond (t 18) [] []
 .skip
 (.exit 0))<|
 (S (.block 1 [] (g 6 4++g 19 12)
 (S (R<|m 19 17<|cu 20 2 15 17<|bM 21 2 20<|o 8 (.new 39 [(.int .i64 0),(.slice none 0 0)])<|m 7 19<|bP 2 8 21<|z)<|
 (S (R<|m 22 1<|m 23 7<|cu 24 2 22 23<|bM 25 2 24<|o 9 (.new 39 [(.int .i64 0),(.slice none 0 0)])<|bP 2 9 25<|z)<|
 (S (R<|m 26 2<|bM 27 2 8<|bM 28 2 9<|o 29 (.hU (t 26) [(t 27),(t 28)])<|dB 30 29<|z)<|
 (.cond (t 30) [] [6]
 (S (R<|cn 6<|z)<|
 .ret)
 .skip)))))<|
 (R<|b 31 .add (t 17) (i 1)<|m 17 31<|z)))))))<|
 (S (R<|gk 6<|z)<|
 .ret)))),[.tmp 6],[.ah]⟩
theorem X9:b5 27 Bu:=b7 Tryz.func27 rfl
def Bv(b:aR)(c:Nat)(e g h:J)(i j:U)(k:J)(l:bb):(bb)->bb:=λc m n=>(ar .lss (aI m 0) k).bind λk=>aB (λ_ k=>aB (λ_ b=>(ar .add (aI m 0) (.int .i64 1)).bind λe=>c [e] (trim j [e] b)) λc=>(bW 2 e (aI m 0)).bind λe=>(ab true 2 e k).bind λe=>bF (.ptr k.length 0) (k++[.box [.int .i64 0,.bc] 39 .rw]) λj k=>(a_ 2 j e k).bind λe=>(bW 2 g (aI m 0)).bind λg=>(ab true 2 g e).bind λg=>bF (.ptr e.length 0) (e++[.box [.int .i64 0,.bc] 39 .rw]) λe k=>(a_ 2 e g k).bind λg=>(ab true 2 j g).bind λj=>(ab true 2 e g).bind λe=>(gh b h [j,e] g).bind λb=>(di .not b.1).bind λe=>aB (λ_ b=>c [] b) λc=>a8 e (aL [.ah] i b.2 [(.bool false)]) (c [] b.2)) λb=>a8 k (b [] n) (l [] n)
def M9(b:aR)(c:Nat)(e g h:J)(i:U):bh:=(bw false e).bind λj=>(bw false g).bind λk=>(ar .neq j k).bind λj=>aB (λ_ j=>(bw false e).bind λk=>aB (λ_ b=>aL [.ah] i b [(.bool true)]) λl=>cr (Bv b c e g h i j k l) c [(.int .i64 0)] j) λb=>a8 j (aL [.ah] i i [(.bool false)]) (b [] i)
open Go.aN.G in
def Bw:bU:=⟨2,17,(S (R<|c9 2 39 0<|c9 3 39 1<|cn 4<|z)<|
 (S (R<|f 5 0 2<|l 6 5<|f 7 0 3<|l 8 7<|b 9 .eql (t 6) (t 8)<|m 10 9<|q 16 10 true (g 11 5) (f 11 1 2<|l 12 11<|f 13 1 3<|l 14 13<|dU 15 73 12 14<|z) (t 15)<|
 m 4 16<|z)<|
 .ret)),[.tmp 4],[.ah]⟩
theorem X_:b5 28 Bw:=b7 Tryz.func28 rfl
def M_(b:aR)(c:Nat)(e g:J)(h:U):bh:=bF (.ptr h.length 0) (h++[.box (b' e) 39 .rw]) λc e=>bF (.ptr e.length 0) (e++[.box (b' g) 39 .rw]) λe g=>(aq 0 c).bind λi=>(ab false 1 i g).bind λi=>(aq 0 e).bind λj=>(ab false 1 j g).bind λj=>(ar .eql i j).bind λi=>a6 (λb c=>aL [.ah] h c [b]) λh=>a7 i true ((aq 1 c).bind λc=>(ab false 1 c g).bind λc=>(aq 1 e).bind λe=>(ab false 1 e g).bind λe=>(b 73 [c,e] g).bind λb=>h b.1 b.2) (h (.bool false) g)
open Go.aN.G in
def Bx:bU:=⟨3,32,(S (R<|cn 6<|z)<|
 (S (S (R<|m 10 0<|bS 11 10<|m 12 1<|bS 13 12<|b 14 .neq (t 11) (t 13)<|z)<|
 (.cond (t 14) [] [6]
 (S (R<|cn 6<|z)<|
 .ret)
 .skip))<|
 (S (S (R<|m 15 0<|bS 16 15<|b3 17 0<|z)<|
 (.block 0 [] (g 6 4++g 17 15)
 (.loop [17] (g 6 4++g 18 14)
 (S (R<|b 18 .lss (t 17) (t 16)<|z)<|
 (S (.cond (t 18) [] []
 .skip
 (.exit 0))<|
 (S (.block 1 [] (g 6 4++g 19 12)
 (S (R<|m 19 17<|cu 20 13 15 17<|bM 21 13 20<|o 8 (.new 43 ym)<|m 7 19<|bP 13 8 21<|z)<|
 (S (R<|m 22 1<|m 23 7<|cu 24 13 22 23<|bM 25 13 24<|o 9 (.new 43 ym)<|bP 13 9 25<|z)<|
 (S (R<|m 26 2<|bM 27 13 8<|bM 28 13 9<|o 29 (.hU (t 26) [(t 27),(t 28)])<|dB 30 29<|z)<|
 (.cond (t 30) [] [6]
 (S (R<|cn 6<|z)<|
 .ret)
 .skip)))))<|
 (R<|b 31 .add (t 17) (i 1)<|m 17 31<|z)))))))<|
 (S (R<|gk 6<|z)<|
 .ret)))),[.tmp 6],[.ah]⟩
theorem X':b5 29 Bx:=b7 Tryz.func29 rfl
def By(b:aR)(c:Nat)(e g h:J)(i j:U)(k:J)(l:bb):(bb)->bb:=λc m n=>(ar .lss (aI m 0) k).bind λk=>aB (λ_ k=>aB (λ_ b=>(ar .add (aI m 0) (.int .i64 1)).bind λe=>c [e] (trim j [e] b)) λc=>(bW 13 e (aI m 0)).bind λe=>(ab true 13 e k).bind λe=>bF (.ptr k.length 0) (k++[.box [.str ⟨#[]⟩,.bc,.int .i64 0,.int .i64 0,.int .i64 0,.int .i64 0,.int .i64 0,.int .i64 0,.int .i64 0,.int .i64 0,.int .i64 0,.int .i64 0,.int .i64 0] 43 .rw]) λj k=>(a_ 13 j e k).bind λe=>(bW 13 g (aI m 0)).bind λg=>(ab true 13 g e).bind λg=>bF (.ptr e.length 0) (e++[.box [.str ⟨#[]⟩,.bc,.int .i64 0,.int .i64 0,.int .i64 0,.int .i64 0,.int .i64 0,.int .i64 0,.int .i64 0,.int .i64 0,.int .i64 0,.int .i64 0,.int .i64 0] 43 .rw]) λe k=>(a_ 13 e g k).bind λg=>(ab true 13 j g).bind λj=>(ab true 13 e g).bind λe=>(gh b h [j,e] g).bind λb=>(di .not b.1).bind λe=>aB (λ_ b=>c [] b) λc=>a8 e (aL [.ah] i b.2 [(.bool false)]) (c [] b.2)) λb=>a8 k (b [] n) (l [] n)
def M'(b:aR)(c:Nat)(e g h:J)(i:U):bh:=(bw false e).bind λj=>(bw false g).bind λk=>(ar .neq j k).bind λj=>aB (λ_ j=>(bw false e).bind λk=>aB (λ_ b=>aL [.ah] i b [(.bool true)]) λl=>cr (By b c e g h i j k l) c [(.int .i64 0)] j) λb=>a8 j (aL [.ah] i i [(.bool false)]) (b [] i)
open Go.aN.G in
def Bz:bU:=⟨2,96,(S (R<|c9 2 43 0<|c9 3 43 1<|cn 4<|z)<|
 (S (R<|f 6 1 2<|l 7 6<|f 8 1 3<|l 9 8<|dU 10 26 7 9<|m 11 10<|q 17 11 true (g 12 5) (f 12 0 2<|l 13 12<|f 14 0 3<|l 15 14<|b 16 .eql (t 13) (t 15)<|z) (t 16)<|
 m 18 17<|q 24 18 true (g 19 5) (f 19 2 2<|l 20 19<|f 21 2 3<|l 22 21<|b 23 .eql (t 20) (t 22)<|z) (t 23)<|
 m 25 24<|q 31 25 true (g 26 5) (f 26 3 2<|l 27 26<|f 28 3 3<|l 29 28<|b 30 .eql (t 27) (t 29)<|z) (t 30)<|
 m 32 31<|q 38 32 true (g 33 5) (f 33 4 2<|l 34 33<|f 35 4 3<|l 36 35<|b 37 .eql (t 34) (t 36)<|z) (t 37)<|
 m 39 38<|q 45 39 true (g 40 5) (f 40 5 2<|l 41 40<|f 42 5 3<|l 43 42<|b 44 .eql (t 41) (t 43)<|z) (t 44)<|
 m 46 45<|q 52 46 true (g 47 5) (f 47 6 2<|l 48 47<|f 49 6 3<|l 50 49<|b 51 .eql (t 48) (t 50)<|z) (t 51)<|
 m 5 52<|z)<|
 (S (R<|m 53 5<|m 54 53<|q 60 54 true (g 55 5) (f 55 7 2<|l 56 55<|f 57 7 3<|l 58 57<|b 59 .eql (t 56) (t 58)<|z) (t 59)<|
 m 61 60<|q 67 61 true (g 62 5) (f 62 8 2<|l 63 62<|f 64 8 3<|l 65 64<|b 66 .eql (t 63) (t 65)<|z) (t 66)<|
 m 68 67<|q 74 68 true (g 69 5) (f 69 9 2<|l 70 69<|f 71 9 3<|l 72 71<|b 73 .eql (t 70) (t 72)<|z) (t 73)<|
 m 75 74<|q 81 75 true (g 76 5) (f 76 10 2<|l 77 76<|f 78 10 3<|l 79 78<|b 80 .eql (t 77) (t 79)<|z) (t 80)<|
 m 82 81<|q 88 82 true (g 83 5) (f 83 11 2<|l 84 83<|f 85 11 3<|l 86 85<|b 87 .eql (t 84) (t 86)<|z) (t 87)<|
 m 89 88<|q 95 89 true (g 90 5) (f 90 12 2<|l 91 90<|f 92 12 3<|l 93 92<|b 94 .eql (t 91) (t 93)<|z) (t 94)<|
 m 4 95<|z)<|
 .ret))),[.tmp 4],[.ah]⟩
theorem Ya:b5 30 Bz:=b7 Tryz.func30 rfl
def Na(b:aR)(c:Nat)(e g:J)(h:U):bh:=bF (.ptr h.length 0) (h++[.box (b' e) 43 .rw]) λc e=>bF (.ptr e.length 0) (e++[.box (b' g) 43 .rw]) λe g=>(aq 1 c).bind λi=>(ab false 1 i g).bind λi=>(aq 1 e).bind λj=>(ab false 1 j g).bind λj=>(b 26 [i,j] g).bind λb=>a6 (λb g=>a6 (λb g=>a6 (λb g=>a6 (λb g=>a6 (λb g=>a6 (λb g=>a6 (λb g=>a6 (λb g=>a6 (λb g=>a6 (λb g=>a6 (λb g=>a6 (λb c=>aL [.ah] h c [b]) λh=>a7 b true ((aq 12 c).bind λb=>(ab false 1 b g).bind λb=>(aq 12 e).bind λc=>(ab false 1 c g).bind λc=>(ar .eql b c).bind λb=>h b g) (h (.bool false) g)) λh=>a7 b true ((aq 11 c).bind λb=>(ab false 1 b g).bind λb=>(aq 11 e).bind λc=>(ab false 1 c g).bind λc=>(ar .eql b c).bind λb=>h b g) (h (.bool false) g)) λh=>a7 b true ((aq 10 c).bind λb=>(ab false 1 b g).bind λb=>(aq 10 e).bind λc=>(ab false 1 c g).bind λc=>(ar .eql b c).bind λb=>h b g) (h (.bool false) g)) λh=>a7 b true ((aq 9 c).bind λb=>(ab false 1 b g).bind λb=>(aq 9 e).bind λc=>(ab false 1 c g).bind λc=>(ar .eql b c).bind λb=>h b g) (h (.bool false) g)) λh=>a7 b true ((aq 8 c).bind λb=>(ab false 1 b g).bind λb=>(aq 8 e).bind λc=>(ab false 1 c g).bind λc=>(ar .eql b c).bind λb=>h b g) (h (.bool false) g)) λh=>a7 b true ((aq 7 c).bind λb=>(ab false 1 b g).bind λb=>(aq 7 e).bind λc=>(ab false 1 c g).bind λc=>(ar .eql b c).bind λb=>h b g) (h (.bool false) g)) λh=>a7 b true ((aq 6 c).bind λb=>(ab false 1 b g).bind λb=>(aq 6 e).bind λc=>(ab false 1 c g).bind λc=>(ar .eql b c).bind λb=>h b g) (h (.bool false) g)) λh=>a7 b true ((aq 5 c).bind λb=>(ab false 1 b g).bind λb=>(aq 5 e).bind λc=>(ab false 1 c g).bind λc=>(ar .eql b c).bind λb=>h b g) (h (.bool false) g)) λh=>a7 b true ((aq 4 c).bind λb=>(ab false 1 b g).bind λb=>(aq 4 e).bind λc=>(ab false 1 c g).bind λc=>(ar .eql b c).bind λb=>h b g) (h (.bool false) g)) λh=>a7 b true ((aq 3 c).bind λb=>(ab false 1 b g).bind λb=>(aq 3 e).bind λc=>(ab false 1 c g).bind λc=>(ar .eql b c).bind λb=>h b g) (h (.bool false) g)) λh=>a7 b true ((aq 2 c).bind λb=>(ab false 1 b g).bind λb=>(aq 2 e).bind λc=>(ab false 1 c g).bind λc=>(ar .eql b c).bind λb=>h b g) (h (.bool false) g)) λg=>a7 b.1 true ((aq 0 c).bind λc=>(ab false 1 c b.2).bind λc=>(aq 0 e).bind λe=>(ab false 1 e b.2).bind λe=>(ar .eql c e).bind λc=>g c b.2) (g (.bool false) b.2)
open Go.aN.G in
def BA:bU:=⟨3,32,(S (R<|cn 6<|z)<|
 (S (S (R<|m 10 0<|bS 11 10<|m 12 1<|bS 13 12<|b 14 .neq (t 11) (t 13)<|z)<|
 (.cond (t 14) [] [6]
 (S (R<|cn 6<|z)<|
 .ret)
 .skip))<|
 (S (S (R<|m 15 0<|bS 16 15<|b3 17 0<|z)<|
 (.block 0 [] (g 6 4++g 17 15)
 (.loop [17] (g 6 4++g 18 14)
 (S (R<|b 18 .lss (t 17) (t 16)<|z)<|
 (S (.cond (t 18) [] []
 .skip
 (.exit 0))<|
 (S (.block 1 [] (g 6 4++g 19 12)
 (S (R<|m 19 17<|cu 20 33 15 17<|bM 21 33 20<|o 8 (.new 57 rm)<|m 7 19<|bP 33 8 21<|z)<|
 (S (R<|m 22 1<|m 23 7<|cu 24 33 22 23<|bM 25 33 24<|o 9 (.new 57 rm)<|bP 33 9 25<|z)<|
 (S (R<|m 26 2<|bM 27 33 8<|bM 28 33 9<|o 29 (.hU (t 26) [(t 27),(t 28)])<|dB 30 29<|z)<|
 (.cond (t 30) [] [6]
 (S (R<|cn 6<|z)<|
 .ret)
 .skip)))))<|
 (R<|b 31 .add (t 17) (i 1)<|m 17 31<|z)))))))<|
 (S (R<|gk 6<|z)<|
 .ret)))),[.tmp 6],[.ah]⟩
theorem Yb:b5 31 BA:=b7 Tryz.func31 rfl
def BB(b:aR)(c:Nat)(e g h:J)(i j:U)(k:J)(l:bb):(bb)->bb:=λc m n=>(ar .lss (aI m 0) k).bind λk=>aB (λ_ k=>aB (λ_ b=>(ar .add (aI m 0) (.int .i64 1)).bind λe=>c [e] (trim j [e] b)) λc=>(bW 33 e (aI m 0)).bind λe=>(ab true 33 e k).bind λe=>bF (.ptr k.length 0) (k++[.box h0 57 .rw]) λj k=>(a_ 33 j e k).bind λe=>(bW 33 g (aI m 0)).bind λg=>(ab true 33 g e).bind λg=>bF (.ptr e.length 0) (e++[.box h0 57 .rw]) λe k=>(a_ 33 e g k).bind λg=>(ab true 33 j g).bind λj=>(ab true 33 e g).bind λe=>(gh b h [j,e] g).bind λb=>(di .not b.1).bind λe=>aB (λ_ b=>c [] b) λc=>a8 e (aL [.ah] i b.2 [(.bool false)]) (c [] b.2)) λb=>a8 k (b [] n) (l [] n)
def Nb(b:aR)(c:Nat)(e g h:J)(i:U):bh:=(bw false e).bind λj=>(bw false g).bind λk=>(ar .neq j k).bind λj=>aB (λ_ j=>(bw false e).bind λk=>aB (λ_ b=>aL [.ah] i b [(.bool true)]) λl=>cr (BB b c e g h i j k l) c [(.int .i64 0)] j) λb=>a8 j (aL [.ah] i i [(.bool false)]) (b [] i)
open Go.aN.G in
def BC:bU:=⟨2,89,(S (R<|c9 2 57 0<|c9 3 57 1<|cn 4<|z)<|
 (S (R<|f 6 1 2<|l 7 6<|f 8 1 3<|l 9 8<|dU 10 74 7 9<|m 11 10<|q 17 11 true (g 12 5) (f 12 0 2<|l 13 12<|f 14 0 3<|l 15 14<|b 16 .eql (t 13) (t 15)<|z) (t 16)<|
 m 18 17<|q 24 18 true (g 19 5) (f 19 26 2<|l 20 19<|f 21 26 3<|l 22 21<|b 23 .eql (t 20) (t 22)<|z) (t 23)<|
 m 25 24<|q 31 25 true (g 26 5) (f 26 27 2<|l 27 26<|f 28 27 3<|l 29 28<|b 30 .eql (t 27) (t 29)<|z) (t 30)<|
 m 32 31<|q 38 32 true (g 33 5) (f 33 28 2<|l 34 33<|f 35 28 3<|l 36 35<|b 37 .eql (t 34) (t 36)<|z) (t 37)<|
 m 39 38<|q 45 39 true (g 40 5) (f 40 29 2<|l 41 40<|f 42 29 3<|l 43 42<|b 44 .eql (t 41) (t 43)<|z) (t 44)<|
 m 46 45<|q 52 46 true (g 47 5) (f 47 30 2<|l 48 47<|f 49 30 3<|l 50 49<|b 51 .eql (t 48) (t 50)<|z) (t 51)<|
 m 53 52<|q 59 53 true (g 54 5) (f 54 31 2<|l 55 54<|f 56 31 3<|l 57 56<|b 58 .eql (t 55) (t 57)<|z) (t 58)<|
 m 60 59<|q 66 60 true (g 61 5) (f 61 32 2<|l 62 61<|f 63 32 3<|l 64 63<|b 65 .eql (t 62) (t 64)<|z) (t 65)<|
 m 5 66<|z)<|
 (S (R<|m 67 5<|m 68 67<|q 74 68 true (g 69 5) (f 69 2 2<|bM 70 8 69<|f 71 2 3<|bM 72 8 71<|dU 73 75 70 72<|z) (t 73)<|
 m 75 74<|q 81 75 true (g 76 5) (f 76 10 2<|bM 77 8 76<|f 78 10 3<|bM 79 8 78<|dU 80 75 77 79<|z) (t 80)<|
 m 82 81<|q 88 82 true (g 83 5) (f 83 18 2<|bM 84 8 83<|f 85 18 3<|bM 86 8 85<|dU 87 75 84 86<|z) (t 87)<|
 m 4 88<|z)<|
 .ret))),[.tmp 4],[.ah]⟩
theorem Yc:b5 32 BC:=b7 Tryz.func32 rfl
def Nc(b:aR)(c:Nat)(e g:J)(h:U):bh:=bF (.ptr h.length 0) (h++[.box (b' e) 57 .rw]) λc e=>bF (.ptr e.length 0) (e++[.box (b' g) 57 .rw]) λe g=>(aq 1 c).bind λi=>(ab false 1 i g).bind λi=>(aq 1 e).bind λj=>(ab false 1 j g).bind λj=>(b 74 [i,j] g).bind λg=>a6 (λg i=>a6 (λg i=>a6 (λg i=>a6 (λg i=>a6 (λg i=>a6 (λg i=>a6 (λg i=>a6 (λg i=>a6 (λg i=>a6 (λg i=>a6 (λb c=>aL [.ah] h c [b]) λh=>a7 g true ((aq 18 c).bind λc=>(ab true 8 c i).bind λc=>(aq 18 e).bind λe=>(ab true 8 e i).bind λe=>(b 75 [c,e] i).bind λb=>h b.1 b.2) (h (.bool false) i)) λh=>a7 g true ((aq 10 c).bind λc=>(ab true 8 c i).bind λc=>(aq 10 e).bind λe=>(ab true 8 e i).bind λe=>(b 75 [c,e] i).bind λb=>h b.1 b.2) (h (.bool false) i)) λh=>a7 g true ((aq 2 c).bind λc=>(ab true 8 c i).bind λc=>(aq 2 e).bind λe=>(ab true 8 e i).bind λe=>(b 75 [c,e] i).bind λb=>h b.1 b.2) (h (.bool false) i)) λb=>a7 g true ((aq 32 c).bind λc=>(ab false 1 c i).bind λc=>(aq 32 e).bind λe=>(ab false 1 e i).bind λe=>(ar .eql c e).bind λc=>b c i) (b (.bool false) i)) λb=>a7 g true ((aq 31 c).bind λc=>(ab false 1 c i).bind λc=>(aq 31 e).bind λe=>(ab false 1 e i).bind λe=>(ar .eql c e).bind λc=>b c i) (b (.bool false) i)) λb=>a7 g true ((aq 30 c).bind λc=>(ab false 1 c i).bind λc=>(aq 30 e).bind λe=>(ab false 1 e i).bind λe=>(ar .eql c e).bind λc=>b c i) (b (.bool false) i)) λb=>a7 g true ((aq 29 c).bind λc=>(ab false 1 c i).bind λc=>(aq 29 e).bind λe=>(ab false 1 e i).bind λe=>(ar .eql c e).bind λc=>b c i) (b (.bool false) i)) λb=>a7 g true ((aq 28 c).bind λc=>(ab false 1 c i).bind λc=>(aq 28 e).bind λe=>(ab false 1 e i).bind λe=>(ar .eql c e).bind λc=>b c i) (b (.bool false) i)) λb=>a7 g true ((aq 27 c).bind λc=>(ab false 1 c i).bind λc=>(aq 27 e).bind λe=>(ab false 1 e i).bind λe=>(ar .eql c e).bind λc=>b c i) (b (.bool false) i)) λb=>a7 g true ((aq 26 c).bind λc=>(ab false 1 c i).bind λc=>(aq 26 e).bind λe=>(ab false 1 e i).bind λe=>(ar .eql c e).bind λc=>b c i) (b (.bool false) i)) λb=>a7 g.1 true ((aq 0 c).bind λc=>(ab false 1 c g.2).bind λc=>(aq 0 e).bind λe=>(ab false 1 e g.2).bind λe=>(ar .eql c e).bind λc=>b c g.2) (b (.bool false) g.2)
open Go.aN.G in
def BD:bU:=⟨2,26,(S (R<|cn 4<|z)<|
 (S (S (R<|m 6 0<|bS 7 6<|m 8 1<|bS 9 8<|b 10 .neq (t 7) (t 9)<|z)<|
 (.cond (t 10) [] [4]
 (S (R<|cn 4<|z)<|
 .ret)
 .skip))<|
 (S (S (R<|m 11 0<|bS 12 11<|b3 13 0<|z)<|
 (.block 0 [] ([4,5]++g 13 13)
 (.loop [13] ([4,5]++g 14 12)
 (S (R<|b 14 .lss (t 13) (t 12)<|z)<|
 (S (.cond (t 14) [] []
 .skip
 (.exit 0))<|
 (S (.block 1 [] ([4,5]++g 15 10)
 (S (R<|m 15 13<|m 5 15<|z)<|
 (S (D<|m 16 0<|m 17 5<|cu 18 1 16 17<|l 19 18<|m 20 1<|m 21 5<|cu 22 1 20 21<|l 23 22<|b 24 .neq (t 19) (t 23)<|z)<|
 (.cond (t 24) [] [4]
 (S (R<|cn 4<|z)<|
 .ret)
 .skip))))<|
 (R<|b 25 .add (t 13) (i 1)<|m 13 25<|z)))))))<|
 (S (R<|gk 4<|z)<|
 .ret)))),[.tmp 4],[.ah]⟩
theorem Yd:b5 33 BD:=b7 Tryz.func33 rfl
def BE(b:aR)(c:Nat)(e g:J)(h i:U)(j:J)(k:bb):(bb)->bb:=λb c l=>(ar .lss (aI c 0) j).bind λj=>aB (λ_ j=>aB (λ_ e=>(ar .add (aI c 0) (.int .i64 1)).bind λc=>b [c] (trim i [c] e)) λb=>(bW 1 e (aI c 0)).bind λe=>(ab false 1 e j).bind λe=>(bW 1 g (aI c 0)).bind λc=>(ab false 1 c j).bind λc=>(ar .neq e c).bind λc=>aB (λ_ c=>b [] c) λb=>a8 c (aL [.ah] h j [(.bool false)]) (b [] j)) λb=>a8 j (b [] l) (k [] l)
def Nd(b:aR)(c:Nat)(e g:J)(h:U):bh:=(bw false e).bind λi=>(bw false g).bind λj=>(ar .neq i j).bind λi=>aB (λ_ i=>(bw false e).bind λj=>aB (λ_ b=>aL [.ah] h b [(.bool true)]) λk=>cr (BE b c e g h i j k) c [(.int .i64 0)] i) λb=>a8 i (aL [.ah] h h [(.bool false)]) (b [] h)
open Go.aN.G in
def BF:bU:=⟨2,90,(S (R<|c9 2 27 0<|c9 3 27 1<|cn 4<|z)<|
 (S (S (R<|f 8 10 2<|l 9 8<|bS 10 9<|f 11 10 3<|l 12 11<|bS 13 12<|b 14 .neq (t 10) (t 13)<|m 15 14<|q 23 15 false (g 16 7) (f 16 11 2<|l 17 16<|bS 18 17<|f 19 11 3<|l 20 19<|bS 21 20<|b 22 .neq (t 18) (t 21)<|z) (t 22)<|
 m 24 23<|q 32 24 false (g 25 7) (f 25 12 2<|l 26 25<|bS 27 26<|f 28 12 3<|l 29 28<|bS 30 29<|b 31 .neq (t 27) (t 30)<|z) (t 31)<|
 z)<|
 (.cond (t 32) [] [4]
 (S (R<|cn 4<|z)<|
 .ret)
 .skip))<|
 (S (S (R<|f 33 10 2<|l 34 33<|bS 35 34<|b3 36 0<|z)<|
 (.block 0 [] ([4,5]++g 36 16)
 (.loop [36] ([4,5]++g 37 15)
 (S (R<|b 37 .lss (t 36) (t 35)<|z)<|
 (S (.cond (t 37) [] []
 .skip
 (.exit 0))<|
 (S (.block 1 [] ([4,5]++g 38 13)
 (S (R<|m 38 36<|m 5 38<|z)<|
 (S (D<|f 39 10 2<|l 40 39<|m 41 5<|cu 42 2 40 41<|bM 43 2 42<|f 44 10 3<|l 45 44<|m 46 5<|cu 47 2 45 46<|bM 48 2 47<|dU 49 76 43 48<|dB 50 49<|z)<|
 (.cond (t 50) [] [4]
 (S (R<|cn 4<|z)<|
 .ret)
 .skip))))<|
 (R<|b 51 .add (t 36) (i 1)<|m 36 51<|z)))))))<|
 (S (S (R<|f 52 11 2<|l 53 52<|bS 54 53<|b3 55 0<|z)<|
 (.block 2 [] ([4,6]++g 55 16)
 (.loop [55] ([4,6]++g 56 15)
 (S (R<|b 56 .lss (t 55) (t 54)<|z)<|
 (S (.cond (t 56) [] []
 .skip
 (.exit 2))<|
 (S (.block 3 [] ([4,6]++g 57 13)
 (S (R<|m 57 55<|m 6 57<|z)<|
 (S (D<|f 58 11 2<|l 59 58<|m 60 6<|cu 61 13 59 60<|bM 62 13 61<|f 63 11 3<|l 64 63<|m 65 6<|cu 66 13 64 65<|bM 67 13 66<|dU 68 77 62 67<|dB 69 68<|z)<|
 (.cond (t 69) [] [4]
 (S (R<|cn 4<|z)<|
 .ret)
 .skip))))<|
 (R<|b 70 .add (t 55) (i 1)<|m 55 70<|z)))))))<|
 (S (S (R<|f 71 12 2<|l 72 71<|bS 73 72<|b3 74 0<|z)<|
 (.block 4 [] ([4,7]++g 74 16)
 (.loop [74] ([4,7]++g 75 15)
 (S (R<|b 75 .lss (t 74) (t 73)<|z)<|
 (S (.cond (t 75) [] []
 .skip
 (.exit 4))<|
 (S (.block 5 [] ([4,7]++g 76 13)
 (S (R<|m 76 74<|m 7 76<|z)<|
 (S (D<|f 77 12 2<|l 78 77<|m 79 7<|cu 80 33 78 79<|bM 81 33 80<|f 82 12 3<|l 83 82<|m 84 7<|cu 85 33 83 84<|bM 86 33 85<|dU 87 78 81 86<|dB 88 87<|z)<|
 (.cond (t 88) [] [4]
 (S (R<|cn 4<|z)<|
 .ret)
 .skip))))<|
 (R<|b 89 .add (t 74) (i 1)<|m 74 89<|z)))))))<|
 (S (R<|gk 4<|z)<|
 .ret)))))),[.tmp 4],[.ah]⟩
theorem Ye:b5 34 BF:=b7 Tryz.func34 rfl
def BG(b:aR)(c:Nat)(e:U)(g h:J)(i:U)(j:J)(k:bb):(bb)->bb:=λc l m=>(ar .lss (aI l 0) j).bind λj=>aB (λ_ j=>aB (λ_ b=>(ar .add (aI l 0) (.int .i64 1)).bind λe=>c [e] (trim i [e] b)) λc=>(aq 12 g).bind λg=>(ab false 1 g j).bind λg=>(bW 33 g (aI l 0)).bind λg=>(ab true 33 g j).bind λg=>(aq 12 h).bind λh=>(ab false 1 h j).bind λh=>(bW 33 h (aI l 0)).bind λh=>(ab true 33 h j).bind λh=>(b 78 [g,h] j).bind λb=>(di .not b.1).bind λg=>aB (λ_ b=>c [] b) λc=>a8 g (aL [.ah] e b.2 [(.bool false)]) (c [] b.2)) λb=>a8 j (b [] m) (k [] m)
def BH(b:aR)(c:Nat)(e:U)(g h:J)(i:U)(j:J)(k:bb):(bb)->bb:=λc l m=>(ar .lss (aI l 0) j).bind λj=>aB (λ_ j=>aB (λ_ b=>(ar .add (aI l 0) (.int .i64 1)).bind λe=>c [e] (trim i [e] b)) λc=>(aq 11 g).bind λg=>(ab false 1 g j).bind λg=>(bW 13 g (aI l 0)).bind λg=>(ab true 13 g j).bind λg=>(aq 11 h).bind λh=>(ab false 1 h j).bind λh=>(bW 13 h (aI l 0)).bind λh=>(ab true 13 h j).bind λh=>(b 77 [g,h] j).bind λb=>(di .not b.1).bind λg=>aB (λ_ b=>c [] b) λc=>a8 g (aL [.ah] e b.2 [(.bool false)]) (c [] b.2)) λb=>a8 j (b [] m) (k [] m)
def BI(b:aR)(c:Nat)(e:U)(g h:J)(i:U)(j:J)(k:bb):(bb)->bb:=λc l m=>(ar .lss (aI l 0) j).bind λj=>aB (λ_ j=>aB (λ_ b=>(ar .add (aI l 0) (.int .i64 1)).bind λe=>c [e] (trim i [e] b)) λc=>(aq 10 g).bind λg=>(ab false 1 g j).bind λg=>(bW 2 g (aI l 0)).bind λg=>(ab true 2 g j).bind λg=>(aq 10 h).bind λh=>(ab false 1 h j).bind λh=>(bW 2 h (aI l 0)).bind λh=>(ab true 2 h j).bind λh=>(b 76 [g,h] j).bind λb=>(di .not b.1).bind λg=>aB (λ_ b=>c [] b) λc=>a8 g (aL [.ah] e b.2 [(.bool false)]) (c [] b.2)) λb=>a8 j (b [] m) (k [] m)
def Nf(b:aR)(c:Nat)(e g:J)(h:U):bh:=bF (.ptr h.length 0) (h++[.box (b' e) 27 .rw]) λe i=>bF (.ptr i.length 0) (i++[.box (b' g) 27 .rw]) λg i=>(aq 10 e).bind λj=>(ab false 1 j i).bind λj=>(bw false j).bind λj=>(aq 10 g).bind λk=>(ab false 1 k i).bind λk=>(bw false k).bind λk=>(ar .neq j k).bind λj=>a6 (λi j=>a6 (λi j=>aB (λ_ i=>(aq 10 e).bind λj=>(ab false 1 j i).bind λj=>(bw false j).bind λj=>aB (λ_ i=>(aq 11 e).bind λj=>(ab false 1 j i).bind λj=>(bw false j).bind λj=>aB (λ_ i=>(aq 12 e).bind λj=>(ab false 1 j i).bind λj=>(bw false j).bind λj=>aB (λ_ b=>aL [.ah] h b [(.bool true)]) λk=>cr (BG b c h e g i j k) c [(.int .i64 0)] i) λk=>cr (BH b c h e g i j k) c [(.int .i64 0)] i) λk=>cr (BI b c h e g i j k) c [(.int .i64 0)] i) λb=>a8 i (aL [.ah] h j [(.bool false)]) (b [] j)) λb=>a7 i false ((aq 12 e).bind λc=>(ab false 1 c j).bind λc=>(bw false c).bind λc=>(aq 12 g).bind λe=>(ab false 1 e j).bind λe=>(bw false e).bind λe=>(ar .neq c e).bind λc=>b c j) (b (.bool true) j)) λb=>a7 j false ((aq 11 e).bind λc=>(ab false 1 c i).bind λc=>(bw false c).bind λc=>(aq 11 g).bind λe=>(ab false 1 e i).bind λe=>(bw false e).bind λe=>(ar .neq c e).bind λc=>b c i) (b (.bool true) i)
open Go.aN.G in
def BJ:bU:=⟨1,6,(S (R<|o 2 (.move (.const (.slice none 0 0)))<|z)<|
 (S (R<|o 3 (.buildSlice 3 [] 0 [])<|m 4 0<|o 5 (.append 3 1 (t 3) (t 4))<|m 2 5<|z)<|
 .ret)),[.tmp 2],[.raw]⟩
theorem Yf:b5 35 BJ:=b7 Tryz.func35 rfl
def Ng(b:aR)(c:Nat)(e:J)(g:U):bh:=(ek 3 1 J.emp e g).bind λb=>aL [.raw] g b.2 [b.1]
open Go.aN.G in
def BK:bU:=⟨1,9,(S (R<|c9 1 55 0<|o 2 (.new 55 XR)<|z)<|
 (S (R<|o 3 (.buildSlice 120 [] 0 [])<|f 4 1 1<|l 5 4<|o 6 (.append 120 2 (t 3) (t 5))<|f 7 1 1<|bP 1 7 6<|z)<|
 (S (R<|bM 8 8 1<|bP 8 2 8<|z)<|
 .ret))),[.cell 2 true 8],[.ah]⟩
theorem Yg:b5 36 BK:=b7 Tryz.func36 rfl
def Nh(b:aR)(c:Nat)(e:J)(g:U):bh:=bF (.ptr g.length 0) (g++[.box (b' e) 55 .rw]) λb c=>bF (.ptr c.length 0) (c++[.box [.bool false,.bc,.bool false,.int .i64 0,.int .i64 0,.bool false,.int .i64 0,.int .i64 0] 55 .rw]) λc e=>(aq 1 b).bind λh=>(ab false 1 h e).bind λh=>(ek 120 2 J.emp h e).bind λe=>(aq 1 b).bind λh=>(a_ 1 h e.1 e.2).bind λe=>(ab true 8 b e).bind λb=>(a_ 8 c b e).bind λb=>(ab true 8 c b).bind λc=>aL [.ah] g b [c]
open Go.aN.G in
def BL:bU:=⟨1,115,(S (R<|c9 1 27 0<|o 2 (.new 27 ko)<|z)<|
 (S (D<|f 7 3 1<|l 8 7<|O 9 (.call 79 [(t 8)])<|f 10 9 1<|l 11 10<|dA 12 79 11<|f 13 3 1<|bP 1 13 9<|f 14 9 1<|bP 1 14 12<|z)<|
 (S (D<|f 15 10 1<|l 16 15<|O 17 (.call 80 [(t 16)])<|f 18 11 1<|l 19 18<|O 20 (.call 81 [(t 19)])<|f 21 12 1<|l 22 21<|dA 23 82 22<|f 24 10 1<|bP 1 24 17<|f 25 11 1<|bP 1 25 20<|f 26 12 1<|bP 1 26 23<|z)<|
 (S (S (R<|f 27 10 1<|l 28 27<|bS 29 28<|b3 30 0<|z)<|
 (.block 0 [] ([3]++g 30 16)
 (.loop [30] ([3]++g 31 15)
 (S (R<|b 31 .lss (t 30) (t 29)<|z)<|
 (S (.cond (t 31) [] []
 .skip
 (.exit 0))<|
 (S (.block 1 [] ([3]++g 32 13)
 (S (R<|m 32 30<|m 3 32<|z)<|
 (D<|f 33 10 1<|l 34 33<|m 35 3<|f 36 10 1<|l 37 36<|m 38 3<|cu 39 2 37 38<|f 40 1 39<|l 41 40<|O 42 (.call 83 [(t 41)])<|cu 43 2 34 35<|f 44 1 43<|bP 1 44 42<|z)))<|
 (R<|b 45 .add (t 30) (i 1)<|m 30 45<|z)))))))<|
 (S (S (R<|f 46 11 1<|l 47 46<|bS 48 47<|b3 49 0<|z)<|
 (.block 2 [] ([4]++g 49 16)
 (.loop [49] ([4]++g 50 15)
 (S (R<|b 50 .lss (t 49) (t 48)<|z)<|
 (S (.cond (t 50) [] []
 .skip
 (.exit 2))<|
 (S (.block 3 [] ([4]++g 51 13)
 (S (R<|m 51 49<|m 4 51<|z)<|
 (D<|f 52 11 1<|l 53 52<|m 54 4<|f 55 11 1<|l 56 55<|m 57 4<|cu 58 13 56 57<|f 59 1 58<|l 60 59<|O 61 (.call 79 [(t 60)])<|cu 62 13 53 54<|f 63 1 62<|bP 1 63 61<|z)))<|
 (R<|b 64 .add (t 49) (i 1)<|m 49 64<|z)))))))<|
 (S (S (R<|f 65 12 1<|l 66 65<|bS 67 66<|b3 68 0<|z)<|
 (.block 4 [] ([5,6]++g 68 46)
 (.loop [68] ([5,6]++g 69 45)
 (S (R<|b 69 .lss (t 68) (t 67)<|z)<|
 (S (.cond (t 69) [] []
 .skip
 (.exit 4))<|
 (S (.block 5 [] ([5,6]++g 70 43)
 (S (R<|m 70 68<|m 5 70<|z)<|
 (S (R<|f 71 12 1<|l 72 71<|m 73 5<|cu 74 33 72 73<|m 6 74<|z)<|
 (S (R<|m 75 6<|m 76 6<|f' 77 76<|f 78 1 77<|l 79 78<|dA 80 84 79<|f' 81 75<|f 82 1 81<|bP 1 82 80<|z)<|
 (D<|m 83 6<|m 84 6<|m 85 6<|m 86 6<|f' 87 86<|f 88 2 87<|f 89 1 88<|l 90 89<|O 91 (.call 85 [(t 90)])<|m 92 6<|f' 93 92<|f 94 10 93<|f 95 1 94<|l 96 95<|O 97 (.call 85 [(t 96)])<|m 98 6<|f' 99 98<|f 100 18 99<|f 101 1 100<|l 102 101<|dA 103 85 102<|f' 104 83<|f 105 2 104<|f 106 1 105<|bP 1 106 91<|f' 107 84<|f 108 10 107<|f 109 1 108<|bP 1 109 97<|f' 110 85<|f 111 18 110<|f 112 1 111<|bP 1 112 103<|z)))))<|
 (R<|b 113 .add (t 68) (i 1)<|m 68 113<|z)))))))<|
 (S (R<|bM 114 13 1<|bP 13 2 114<|z)<|
 .ret))))))),[.cell 2 true 13],[.ah]⟩
theorem Yh:b5 37 BL:=b7 Tryz.func37 rfl
def BM(b:aR)(c:Nat)(e:J)(g:U)(h:J)(i:bb):(bb)->bb:=λc j k=>(ar .lss (aI j 0) h).bind λh=>aB (λ_ h=>aB (λ_ b=>(ar .add (aI j 0) (.int .i64 1)).bind λe=>c [e] (trim g [e] b)) λc=>(aq 12 e).bind λe=>(ab false 1 e h).bind λe=>(bW 33 e (aI j 0)).bind λe=>(fA e).bind λg=>(aq 1 g).bind λg=>(ab false 1 g h).bind λg=>(b 84 [g] h).bind λg=>(fA e).bind λh=>(aq 1 h).bind λh=>(a_ 1 h g.1 g.2).bind λg=>(fA e).bind λh=>(aq 2 h).bind λh=>(aq 1 h).bind λh=>(ab false 1 h g).bind λh=>(b 85 [h] (lock g)).bind λh=>dQ g h.2 λg=>(fA e).bind λi=>(aq 10 i).bind λi=>(aq 1 i).bind λi=>(ab false 1 i g).bind λi=>(b 85 [i] (lock g)).bind λi=>dQ g i.2 λg=>(fA e).bind λj=>(aq 18 j).bind λj=>(aq 1 j).bind λj=>(ab false 1 j g).bind λj=>(b 85 [j] g).bind λb=>(fA e).bind λg=>(aq 2 g).bind λg=>(aq 1 g).bind λg=>(a_ 1 g h.1 b.2).bind λg=>(fA e).bind λh=>(aq 10 h).bind λh=>(aq 1 h).bind λh=>(a_ 1 h i.1 g).bind λg=>(fA e).bind λe=>(aq 18 e).bind λe=>(aq 1 e).bind λe=>(a_ 1 e b.1 g).bind λb=>c [] b) λb=>a8 h (b [] k) (i [] k)
def BN(b:aR)(c:Nat)(e:J)(g:U)(h:J)(i:bb):(bb)->bb:=λc j k=>(ar .lss (aI j 0) h).bind λh=>aB (λ_ h=>aB (λ_ b=>(ar .add (aI j 0) (.int .i64 1)).bind λe=>c [e] (trim g [e] b)) λc=>(aq 11 e).bind λg=>(ab false 1 g h).bind λg=>(aq 11 e).bind λe=>(ab false 1 e h).bind λe=>(bW 13 e (aI j 0)).bind λe=>(aq 1 e).bind λe=>(ab false 1 e h).bind λe=>(b 79 [e] (lock h)).bind λb=>dQ h b.2 λe=>(bW 13 g (aI j 0)).bind λg=>(aq 1 g).bind λg=>(a_ 1 g b.1 e).bind λb=>c [] b) λb=>a8 h (b [] k) (i [] k)
def BO(b:aR)(c:Nat)(e:J)(g:U)(h:J)(i:bb):(bb)->bb:=λc j k=>(ar .lss (aI j 0) h).bind λh=>aB (λ_ h=>aB (λ_ b=>(ar .add (aI j 0) (.int .i64 1)).bind λe=>c [e] (trim g [e] b)) λc=>(aq 10 e).bind λg=>(ab false 1 g h).bind λg=>(aq 10 e).bind λe=>(ab false 1 e h).bind λe=>(bW 2 e (aI j 0)).bind λe=>(aq 1 e).bind λe=>(ab false 1 e h).bind λe=>(b 83 [e] (lock h)).bind λb=>dQ h b.2 λe=>(bW 2 g (aI j 0)).bind λg=>(aq 1 g).bind λg=>(a_ 1 g b.1 e).bind λb=>c [] b) λb=>a8 h (b [] k) (i [] k)
def Ni(b:aR)(c:Nat)(e:J)(g:U):bh:=bF (.ptr g.length 0) (g++[.box (b' e) 27 .rw]) λe h=>bF (.ptr h.length 0) (h++[.box [.str ⟨#[]⟩,.int .i64 0,.int .i64 0,.bc,.int .i64 0,.int .i64 0,.int .i64 0,.int .i64 0,.bool false,.bc,.bc,.bc,.bc] 27 .rw]) λh i=>(aq 3 e).bind λj=>(ab false 1 j i).bind λj=>(b 79 [j] (lock i)).bind λj=>dQ i j.2 λi=>(aq 9 e).bind λk=>(ab false 1 k i).bind λk=>(b 79 [k] i).bind λi=>(aq 3 e).bind λk=>(a_ 1 k j.1 i.2).bind λj=>(aq 9 e).bind λk=>(a_ 1 k i.1 j).bind λi=>(aq 10 e).bind λj=>(ab false 1 j i).bind λj=>(b 80 [j] (lock i)).bind λj=>dQ i j.2 λi=>(aq 11 e).bind λk=>(ab false 1 k i).bind λk=>(b 81 [k] (lock i)).bind λk=>dQ i k.2 λi=>(aq 12 e).bind λl=>(ab false 1 l i).bind λl=>(b 82 [l] i).bind λi=>(aq 10 e).bind λl=>(a_ 1 l j.1 i.2).bind λj=>(aq 11 e).bind λl=>(a_ 1 l k.1 j).bind λj=>(aq 12 e).bind λk=>(a_ 1 k i.1 j).bind λi=>(aq 10 e).bind λj=>(ab false 1 j i).bind λj=>(bw false j).bind λj=>aB (λ_ i=>(aq 11 e).bind λj=>(ab false 1 j i).bind λj=>(bw false j).bind λj=>aB (λ_ i=>(aq 12 e).bind λj=>(ab false 1 j i).bind λj=>(bw false j).bind λj=>aB (λ_ b=>(ab true 13 e b).bind λc=>(a_ 13 h c b).bind λb=>(ab true 13 h b).bind λc=>aL [.ah] g b [c]) λg=>cr (BM b c e i j g) c [(.int .i64 0)] i) λg=>cr (BN b c e i j g) c [(.int .i64 0)] i) λg=>cr (BO b c e i j g) c [(.int .i64 0)] i
open Go.aN.G in
def BP:bU:=⟨1,57,(S (R<|m 5 0<|f' 6 5<|f 7 12 6<|l 8 7<|bS 9 8<|b3 10 0<|z)<|
 (.block 0 [] ([2,3,4]++g 10 47)
 (.loop [10] ([2,3,4]++g 11 46)
 (S (R<|b 11 .lss (t 10) (t 9)<|z)<|
 (S (.cond (t 11) [] []
 .skip
 (.exit 0))<|
 (S (.block 1 [] ([2,3,4]++g 12 44)
 (S (R<|m 12 10<|m 2 12<|z)<|
 (S (S (R<|m 13 0<|f' 14 13<|f 15 12 14<|l 16 15<|m 17 2<|cu 18 33 16 17<|f 19 1 18<|l 20 19<|bS 21 20<|b 22 .gtr (t 21) (i 0)<|z)<|
 (.cond (t 22) [] []
 (.exit 1)
 .skip))<|
 (S (R<|m 23 2<|b 24 .add (t 23) (i 1)<|m 3 24<|z)<|
 (S (S (R<|m 25 3<|m 26 0<|f' 27 26<|f 28 11 27<|l 29 28<|bS 30 29<|b 31 .gtr (t 25) (t 30)<|z)<|
 (.cond (t 31) [3] []
 (R<|b3 3 0<|z)
 .skip))<|
 (S (R<|b3 32 0<|z)<|
 (.block 2 [] ([4]++g 32 24)
 (.loop [32] ([4]++g 33 23)
 (S (R<|b 33 .lss (t 32) (i 120)<|z)<|
 (S (.cond (t 33) [] []
 .skip
 (.exit 2))<|
 (S (.block 3 [] ([4]++g 34 21)
 (S (R<|m 34 32<|m 4 34<|z)<|
 (D<|m 35 0<|f' 36 35<|f 37 12 36<|l 38 37<|m 39 2<|m 40 0<|f' 41 40<|f 42 12 41<|l 43 42<|m 44 2<|cu 45 33 43 44<|f 46 1 45<|l 47 46<|m 48 4<|m 49 3<|o 50 (.build [(.int .i64 0),(.int .i64 0)] [(0,1,(t 48)),(1,1,(t 49))])<|(.op (I 51) (.lQ 89 [(.int .i64 0),(.int .i64 0)] 1 [(0,2,(t 50))]) .no<|(.op (I 52) (.a (.append 89 2 (t 47) (t 51))) (.hf [(47,37)])<|cu 53 33 38 39<|f 54 1 53<|bP 1 54 52<|z)))))<|
 (R<|b 55 .add (t 32) (i 1)<|m 32 55<|z))))))))))))<|
 (R<|b 56 .add (t 10) (i 1)<|m 10 56<|z))))))),[],[]⟩
theorem Yi:b5 38 BP:=b7 Tryz.func38 rfl
def vD(b:aR)(c:Nat)(e:J)(g h:List J)(i:U)(j:bb):(bb)->bb:=λb c k=>(ar .lss (aI c 0) (.int .i64 120)).bind λl=>aB (λ_ j=>aB (λ_ e=>(ar .add (aI c 0) (.int .i64 1)).bind λc=>b [c] (trim i [c] e)) λb=>(fA e).bind λi=>(aq 12 i).bind λi=>(ab false 1 i j).bind λk=>(fA e).bind λe=>(aq 12 e).bind λe=>(ab false 1 e j).bind λe=>(bW 33 e (aI g 0)).bind λe=>(aq 1 e).bind λe=>(ab false 1 e j).bind λe=>(cK [.int .i64 0,.int .i64 0] [(0,1,(aI c 0)),(1,1,(aI h 0))]).bind λc=>(cK (hL [.int .i64 0,.int .i64 0] 1) [(0,2,(J.agg c))]).bind λc=>hY (c.all fz) (bF (.bz 2 (hJ 2 1 c)) (j) λc h=>hY (iX e i h&&true) ((ek 89 2 e c h).bind λc=>(bW 33 k (aI g 0)).bind λe=>(aq 1 e).bind λe=>(a_ 1 e c.1 c.2).bind λc=>b [] c))) λb=>a8 l (b [] k) (j [] k)
def vE(b:aR)(c:Nat)(e:J)(g:U)(h:J)(i:bb):(bb)->bb:=λj k l=>(ar .lss (aI k 0) h).bind λh=>aB (λ_ h=>aB (λ_ b=>(ar .add (aI k 0) (.int .i64 1)).bind λc=>j [c] (trim g [c] b)) λg=>(fA e).bind λi=>(aq 12 i).bind λi=>(ab false 1 i h).bind λi=>(bW 33 i (aI k 0)).bind λi=>(aq 1 i).bind λi=>(ab false 1 i h).bind λi=>(bw false i).bind λi=>(ar .gtr i (.int .i64 0)).bind λi=>aB (λ_ h=>(ar .add (aI k 0) (.int .i64 1)).bind λi=>(fA e).bind λj=>(aq 11 j).bind λj=>(ab false 1 j h).bind λj=>(bw false j).bind λj=>(ar .gtr i j).bind λj=>aB (λh i=>aB (λ_ b=>g [] b) λg=>cr (vD b c e k h i g) c [(.int .i64 0)] i) λb=>a8 j (b [(.int .i64 0)] h) (b [i] h)) λb=>a8 i (g [] h) (b [] h)) λb=>a8 h (b [] l) (i [] l)
def Nj(b:aR)(c:Nat)(e:J)(g:U):bh:=(fA e).bind λh=>(aq 12 h).bind λh=>(ab false 1 h g).bind λh=>(bw false h).bind λh=>aB (λ_ b=>aL [] g b []) λi=>cr (vE b c e g h i) c [(.int .i64 0)] g
open Go.aN.G in
def vF:bU:=⟨3,111,(S (R<|m 11 1<|z)<|
 (.block 0 [] ([6,7,9,10]++g 12 99)
 (S (R<|b 13 .eql (t 11) (i 0)<|m 12 13<|z)<|
 (.cond (t 12) [] ([6,7,9,10]++g 14 97)
 (S (R<|m 14 0<|m 15 0<|f' 16 15<|f 17 10 16<|l 18 17<|m 19 2<|dU 20 86 18 19<|f' 21 14<|f 22 10 21<|bP 1 22 20<|z)<|
 (S (R<|m 23 0<|f' 24 23<|f 25 3 24<|l 26 25<|bS 27 26<|b3 28 0<|z)<|
 (.block 1 [] ([6,7]++g 28 19)
 (.loop [28] ([6,7]++g 29 18)
 (S (R<|b 29 .lss (t 28) (t 27)<|z)<|
 (S (.cond (t 29) [] []
 .skip
 (.exit 1))<|
 (S (.block 2 [] ([6,7]++g 30 16)
 (S (R<|m 30 28<|cu 31 1 26 28<|l 32 31<|m 6 30<|m 7 32<|z)<|
 (S (R<|m 33 7<|dA 34 87 33<|dB 35 34<|z)<|
 (.cond (t 35) [] (g 36 10)
 (D<|m 36 0<|f' 37 36<|f 38 3 37<|l 39 38<|m 40 6<|m 41 2<|m 42 7<|cu 43 1 41 42<|l 44 43<|cu 45 1 39 40<|bP 1 45 44<|z)
 .skip))))<|
 (R<|b 46 .add (t 28) (i 1)<|m 28 46<|z))))))))
 (S (R<|b 48 .eql (t 11) (i 1)<|m 47 48<|z)<|
 (.cond (t 47) [] ([9,10]++g 49 62)
 (S (R<|m 49 0<|m 50 0<|f' 51 50<|f 52 11 51<|l 53 52<|m 54 2<|dU 55 88 53 54<|f' 56 49<|f 57 11 56<|bP 1 57 55<|z)<|
 (S (S (R<|m 58 0<|f' 59 58<|f 60 12 59<|l 61 60<|bS 62 61<|b3 63 0<|z)<|
 (.block 3 [] ([9,10]++g 63 25)
 (.loop [63] ([9,10]++g 64 24)
 (S (R<|b 64 .lss (t 63) (t 62)<|z)<|
 (S (.cond (t 64) [] []
 .skip
 (.exit 3))<|
 (S (.block 4 [] ([9,10]++g 65 22)
 (S (R<|cu 65 33 61 63<|bM 66 33 65<|o 9 (.new 57 rm)<|bP 33 9 66<|z)<|
 (S (R<|f 67 1 9<|l 68 67<|bS 69 68<|b3 70 0<|z)<|
 (.block 5 [] ([10]++g 70 17)
 (.loop [70] ([10]++g 71 16)
 (S (R<|b 71 .lss (t 70) (t 69)<|z)<|
 (S (.cond (t 71) [] []
 .skip
 (.exit 5))<|
 (S (.block 6 [] ([10]++g 72 14)
 (S (R<|m 72 70<|m 10 72<|z)<|
 (D<|f 73 1 9<|l 74 73<|m 75 10<|f 76 1 9<|l 77 76<|m 78 10<|cu 79 2 77 78<|f 80 1 79<|l 81 80<|m 82 2<|O 83 (.call 89 [(t 81),(t 82)])<|cu 84 2 74 75<|f 85 1 84<|bP 1 85 83<|z)))<|
 (R<|b 86 .add (t 70) (i 1)<|m 70 86<|z)))))))))<|
 (R<|b 87 .add (t 63) (i 1)<|m 63 87<|z)))))))<|
 (S (R<|m 88 0<|f' 89 88<|bM 90 13 89<|dA 91 45 90<|o 92 (.field false 6 1 (t 91))<|dB 93 92<|z)<|
 (.cond (t 93) [] [94,95,96]
 (R<|m 94 0<|m 95 2<|dU 96 90 94 95<|z)
 .skip))))
 (S (R<|b 98 .eql (t 11) (i 2)<|m 97 98<|z)<|
 (.cond (t 97) [] (g 99 12)
 (S (R<|m 99 0<|m 100 0<|f' 101 100<|f 102 12 101<|l 103 102<|m 104 2<|dU 105 91 103 104<|f' 106 99<|f 107 12 106<|bP 1 107 105<|z)<|
 (R<|m 108 0<|m 109 2<|dU 110 90 108 109<|z))
 .skip)))))))),[],[]⟩
theorem Yj:b5 39 vF:=b7 Tryz.func39 rfl
def BQ(b:aR)(c:Nat)(e g:J)(h:U)(i j:J)(k:bb):(bb)->bb:=λc l m=>(ar .lss (aI l 0) j).bind λj=>aB (λ_ j=>aB (λ_ b=>(ar .add (aI l 0) (.int .i64 1)).bind λe=>c [e] (trim h [e] b)) λc=>(bW 1 i (aI l 0)).bind λh=>(ab false 1 h j).bind λh=>(b 87 [h] j).bind λb=>(di .not b.1).bind λi=>aB (λ_ b=>c [] b) λc=>a8 i ((fA e).bind λe=>(aq 3 e).bind λe=>(ab false 1 e b.2).bind λe=>(bW 1 g h).bind λg=>(ab false 1 g b.2).bind λg=>(bW 1 e (aI l 0)).bind λe=>(a_ 1 e g b.2).bind λb=>c [] b) (c [] b.2)) λb=>a8 j (b [] m) (k [] m)
def yt(b:aR)(c:Nat)(e g:J)(h:U)(i:J)(j:bb):(bb)->bb:=λc k l=>(ar .lss (aI k 0) i).bind λi=>aB (λ_ i=>aB (λ_ b=>(ar .add (aI k 0) (.int .i64 1)).bind λe=>c [e] (trim h [e] b)) λc=>(aq 1 g).bind λh=>(ab false 1 h i).bind λh=>(aq 1 g).bind λg=>(ab false 1 g i).bind λg=>(bW 2 g (aI k 0)).bind λg=>(aq 1 g).bind λg=>(ab false 1 g i).bind λg=>(b 89 [g,e] (lock i)).bind λb=>dQ i b.2 λe=>(bW 2 h (aI k 0)).bind λg=>(aq 1 g).bind λg=>(a_ 1 g b.1 e).bind λb=>c [] b) λb=>a8 i (b [] l) (j [] l)
def BR(b:aR)(c:Nat)(e:J)(g:U)(h i:J)(j:bb):(bb)->bb:=λk l m=>(ar .lss (aI l 0) i).bind λi=>aB (λ_ i=>aB (λ_ b=>(ar .add (aI l 0) (.int .i64 1)).bind λc=>k [c] (trim g [c] b)) λg=>(bW 33 h (aI l 0)).bind λh=>(ab true 33 h i).bind λh=>bF (.ptr i.length 0) (i++[.box h0 57 .rw]) λi j=>(a_ 33 i h j).bind λh=>(aq 1 i).bind λj=>(ab false 1 j h).bind λj=>(bw false j).bind λj=>aB (λ_ b=>g [] b) λg=>cr (yt b c e i h j g) c [(.int .i64 0)] h) λb=>a8 i (b [] m) (j [] m)
def BS(b:aR)(c:Nat)(e g h:J)(i:U):bh:=aB (λ_ b=>aL [] i b []) λj=>(ar .eql g (.int .i64 0)).bind λk=>aB (λ_ b=>j [] b) λj=>a8 k ((fA e).bind λg=>(aq 10 g).bind λg=>(ab false 1 g i).bind λg=>(b 86 [g,h] i).bind λg=>(fA e).bind λi=>(aq 10 i).bind λi=>(a_ 1 i g.1 g.2).bind λg=>(fA e).bind λi=>(aq 3 i).bind λi=>(ab false 1 i g).bind λi=>(bw false i).bind λk=>aB (λ_ b=>j [] b) λj=>cr (BQ b c e h g i k j) c [(.int .i64 0)] g) ((ar .eql g (.int .i64 1)).bind λk=>aB (λ_ b=>j [] b) λj=>a8 k ((fA e).bind λg=>(aq 11 g).bind λg=>(ab false 1 g i).bind λg=>(b 88 [g,h] i).bind λg=>(fA e).bind λi=>(aq 11 i).bind λi=>(a_ 1 i g.1 g.2).bind λg=>(fA e).bind λi=>(aq 12 i).bind λi=>(ab false 1 i g).bind λi=>(bw false i).bind λk=>aB (λ_ c=>(fA e).bind λg=>(ab true 13 g c).bind λg=>(b 45 [g] c).bind λc=>(vi false 6 1 c.1).bind λg=>(di .not g).bind λg=>aB (λ_ b=>j [] b) λi=>a8 g ((b 90 [e,h] c.2).bind λb=>i [] b.2) (i [] c.2)) λe=>cr (BR b c h g i k e) c [(.int .i64 0)] g) ((ar .eql g (.int .i64 2)).bind λc=>aB (λ_ b=>j [] b) λg=>a8 c ((fA e).bind λc=>(aq 12 c).bind λc=>(ab false 1 c i).bind λc=>(b 91 [c,h] i).bind λc=>(fA e).bind λi=>(aq 12 i).bind λi=>(a_ 1 i c.1 c.2).bind λc=>(b 90 [e,h] c).bind λb=>g [] b.2) (g [] i)))
open Go.aN.G in
def yu:hB:=(R<|m 8 15<|z)
open Go.aN.G in
def yv:hB:=(.block 1 [] [16,17,18]
 (R<|l 16 7<|m 17 8<|o 18 (.hU (t 16) [(t 17)])<|z))
open Go.aN.G in
def BT:bU:=⟨2,28,(S (R<|o 4 (.move (.const (.slice none 0 0)))<|z)<|
 (S (R<|(.op (I 10) (.lQ 3 [(.int .i64 0)] 1 [(0,1,(i (-1)))]) .no<|m 11 1<|dU 12 92 10 11<|(.op (I 5) (.vg true 22 3 1) .no<|bP 1 5 12<|z)))<|
 (S (R<|o 6 (.new 3 [(.int .i64 0)])<|n (.store 1 (t 6) (i 0))<|z)<|
 (S (R<|o 13 (.jW 93 [] [(t 5),(t 6)])<|o 7 (.new 127 [.nilFunc])<|bP 1 7 13<|z)<|
 (S (S (R<|m 14 0<|z)<|
 (.block 0 [] []
 (.ju (t 14) [7] [15] yu yv)))<|
 (S (S (R<|m 19 1<|b3 20 0<|z)<|
 (.block 2 [] ([9]++g 20 7)
 (.loop [20] ([9]++g 21 6)
 (S (R<|b 21 .lss (t 20) (t 19)<|z)<|
 (S (.cond (t 21) [] []
 .skip
 (.exit 2))<|
 (S (.block 3 [] ([9]++g 22 4)
 (S (R<|m 22 20<|m 9 22<|z)<|
 (R<|l 23 7<|m 24 9<|o 25 (.hU (t 23) [(t 24)])<|z)))<|
 (R<|b 26 .add (t 20) (i 1)<|m 20 26<|z)))))))<|
 (S (R<|l 27 5<|m 4 27<|z)<|
 .ret))))))),[.tmp 4],[(.flat 1)]⟩
theorem Yk:b5 40 BT:=b7 Tryz.func40 rfl
def H2(b:aR)(c:Nat)(e g:J)(h:U)(i:bb):(bb)->bb:=λc j k=>(ar .lss (aI j 0) e).bind λe=>aB (λ_ e=>aB (λ_ b=>(ar .add (aI j 0) (.int .i64 1)).bind λe=>c [e] (trim h [e] b)) λc=>(ab false 1 g e).bind λg=>(gh b g [(aI j 0)] e).bind λb=>c [] b.2) λb=>a8 e (b [] k) (i [] k)
def Nk(Γ:aR)(n:Nat)(al ay:J)(h:U):bh:=(cK (hL [.int .i64 0] 1) [(0,1,(.int .i64 (-1)))]).bind λeY=>hY (eY.all fz) (bF (.bz 1 (hJ 1 1 eY)) (h) λv1 h2=>(Γ 92 [v1,ay] h2).bind λc=>bF (.ptr (c.2.length+1) 0) (c.2++[.log [] 1 3 .rw,.box [.ref c.2.length 0 0 0 1] 22 .rw]) λv4 aM=>(a_ 1 v4 c.1 aM).bind λbp=>bF (.ptr bp.length 0) (bp++[.box [.int .i64 0] 3 .rw]) λg o=>(a_ 1 g (.int .i64 0) o).bind λi=>bF (.ptr i.length 0) (i++[.box [.mi] 127 .rw]) λv10 p=>(a_ 1 v10 (J.func 93 [] [v4,g]) p).bind λb=>aB (λx j=>aB (λy k=>(ab false 1 v4 k).bind λq=>aL [(.flat 1)] h k [q]) λt=>cr (H2 Γ n ay v10 j t) n [(.int .i64 0)] j) λl=>(po Γ al [.yield b.length] (b++[.loop [v10] [7] [15] yu yv .ready none .rw])).bind λm=>(rf b.length m.2).bind λu=>bF iI (trim b [] (m.2.set b.length .dead)) λz e=>
Al u (l [] e) (λw=>bif Nat.beq w 0 then(l [] e)else none) (aL [(.flat 1)] h e [(.bc:J)]))
def Nl(b:aR)(c:Nat)(e g:J)(h:Nat)(i:U):bh:=(qc h i).bind λc=>aB (λ_ b=>(m7 h .normal b).map λb=>(b.1,trim i [] b.2)) λh=>(ab false 1 e c).bind λe=>(gh b e [g] c).bind λb=>h [] b.2
theorem Yl(Γ:aR)(n:Nat)(c e:J)(b:Nat)(h:U)(dY:Option fw)(md:eg)(ae:h[b]?=I (.loop [c] [7] [15] yu yv .ready dY md)):nQ Γ n (.ptr b 0::[e]) h=Nl Γ n c e b h:=(Hs ae rfl).trans (by kernel_rfl)
open Go.aN.G in
def BU:bU:=⟨1,4,(S (R<|c9 1 27 0<|o 2 (.move (.const .nilFunc))<|z)<|
 (S (R<|o 3 (.jW 94 [] [(t 1)])<|m 2 3<|z)<|
 .ret)),[.tmp 2],[.ah]⟩
theorem Ym:b5 41 BU:=b7 Tryz.func41 rfl
def Nn(b:aR)(c:Nat)(e:J)(g:U):bh:=bF (.ptr g.length 0) (g++[.box (b' e) 27 .rw]) λb c=>aL [.ah] g c [(J.func 94 [] [b])]
open Go.aN.G in
def BV:bU:=⟨1,4,(S (R<|c9 1 77 0<|o 2 (.move (.const .nilFunc))<|z)<|
 (S (R<|o 3 (.jW 95 [] [(t 1)])<|m 2 3<|z)<|
 .ret)),[.tmp 2],[.ah]⟩
theorem Yn:b5 42 BV:=b7 Tryz.func42 rfl
def No(b:aR)(c:Nat)(e:J)(g:U):bh:=bF (.ptr g.length 0) (g++[.box (b' e) 77 .rw]) λb c=>aL [.ah] g c [(J.func 95 [] [b])]
open Go.aN.G in
def BW:bU:=⟨2,6,(S (R<|c9 2 27 0<|c9 3 77 1<|o 4 (.move (.const .nilFunc))<|z)<|
 (S (R<|o 5 (.jW 96 [] [(t 3),(t 2)])<|m 4 5<|z)<|
 .ret)),[.tmp 4],[.ah]⟩
theorem Yo:b5 43 BW:=b7 Tryz.func43 rfl
def Np(b:aR)(c:Nat)(e g:J)(h:U):bh:=bF (.ptr h.length 0) (h++[.box (b' e) 27 .rw]) λb c=>bF (.ptr c.length 0) (c++[.box (b' g) 77 .rw]) λc e=>aL [.ah] h e [(J.func 96 [] [c,b])]
open Go.aN.G in
def BX:bU:=⟨1,4,(S (R<|c9 1 3 0<|o 2 (.move (.const .nilFunc))<|z)<|
 (S (R<|o 3 (.jW 97 [] [(t 1)])<|m 2 3<|z)<|
 .ret)),[.tmp 2],[.ah]⟩
theorem Yp:b5 44 BX:=b7 Tryz.func44 rfl
def Nq(b:aR)(c:Nat)(e:J)(g:U):bh:=bF (.ptr g.length 0) (g++[.box (b' e) 3 .rw]) λb c=>aL [.ah] g c [(J.func 97 [] [b])]
open Go.aN.G in
def BY:bU:=⟨1,12,(S (R<|c9 1 27 0<|o 2 (.new 83 iM)<|z)<|
 (S (R<|f 6 1 1<|l 7 6<|dA 8 53 7<|m 5 8<|eC 9 5 0<|eC 10 5 1<|o 3 (.new 83 iM)<|bP 29 3 9<|m 4 10<|z)<|
 (S (R<|bM 11 29 3<|bP 29 2 11<|z)<|
 .ret))),[.cell 2 true 29],[.ah]⟩
theorem Yq:b5 45 BY:=b7 Tryz.func45 rfl
def Nr(b:aR)(c:Nat)(e:J)(g:U):bh:=bF (.ptr g.length 0) (g++[.box (b' e) 27 .rw]) λc e=>bF (.ptr e.length 0) (e++[.box eR 83 .rw]) λe h=>(aq 1 c).bind λc=>(ab false 1 c h).bind λc=>(b 53 [c] h).bind λb=>(ea b.1 0).bind λc=>(ea b.1 1).bind λ_=>bF (.ptr b.2.length 0) (b.2++[.box eR 83 .rw]) λb h=>(a_ 29 b c h).bind λc=>(ab true 29 b c).bind λb=>(a_ 29 e b c).bind λb=>(ab true 29 e b).bind λc=>aL [.ah] g b [c]
open Go.aN.G in
def BZ:bU:=⟨1,4,(S (R<|c9 1 27 0<|o 2 (.move (.const .nilFunc))<|z)<|
 (S (R<|o 3 (.jW 98 [] [(t 1)])<|m 2 3<|z)<|
 .ret)),[.tmp 2],[.ah]⟩
theorem Yr:b5 46 BZ:=b7 Tryz.func46 rfl
def Ns(b:aR)(c:Nat)(e:J)(g:U):bh:=bF (.ptr g.length 0) (g++[.box (b' e) 27 .rw]) λb c=>aL [.ah] g c [(J.func 98 [] [b])]
open Go.aN.G in
def B0:bU:=⟨1,14,(S (R<|c9 1 27 0<|cn 2<|z)<|
 (S (R<|bM 7 13 1<|dA 8 99 7<|m 6 8<|eC 9 6 0<|eC 10 6 1<|eC 11 6 2<|m 3 9<|m 4 10<|m 5 11<|z)<|
 (S (R<|m 12 5<|b 13 .eql (t 12) (i 0)<|m 2 13<|z)<|
 .ret))),[.tmp 2],[.ah]⟩
theorem Ys:b5 47 B0:=b7 Tryz.func47 rfl
def Nt(b:aR)(c:Nat)(e:J)(g:U):bh:=bF (.ptr g.length 0) (g++[.box (b' e) 27 .rw]) λc e=>(ab true 13 c e).bind λc=>(b 99 [c] e).bind λb=>(ea b.1 0).bind λ_=>(ea b.1 1).bind λ_=>(ea b.1 2).bind λc=>(ar .eql c (.int .i64 0)).bind λc=>aL [.ah] g b.2 [c]
open Go.aN.G in
def B1:bU:=⟨1,51,(S (R<|c9 1 27 0<|o 2 (.new 27 ko)<|z)<|
 (S (R<|bM 6 13 1<|dA 7 13 6<|bP 13 1 7<|z)<|
 (S (S (R<|f 8 12 1<|l 9 8<|bS 10 9<|b3 11 0<|z)<|
 (.block 0 [] ([3,4,5]++g 11 39)
 (.loop [11] ([3,4,5]++g 12 38)
 (S (R<|b 12 .lss (t 11) (t 10)<|z)<|
 (S (.cond (t 12) [] []
 .skip
 (.exit 0))<|
 (S (.block 1 [] ([3,4,5]++g 13 36)
 (S (R<|m 13 11<|m 3 13<|z)<|
 (S (S (R<|f 14 12 1<|l 15 14<|m 16 3<|cu 17 33 15 16<|f 18 1 17<|l 19 18<|bS 20 19<|b 21 .gtr (t 20) (i 0)<|z)<|
 (.cond (t 21) [] []
 (.exit 1)
 .skip))<|
 (S (R<|m 22 3<|b 23 .add (t 22) (i 1)<|m 4 23<|z)<|
 (S (S (R<|m 24 4<|f 25 11 1<|l 26 25<|bS 27 26<|b 28 .gtr (t 24) (t 27)<|z)<|
 (.cond (t 28) [4] []
 (R<|b3 4 0<|z)
 .skip))<|
 (S (R<|b3 5 0<|z)<|
 (.block 2 [] ([5]++g 29 20)
 (.loop [5] (g 29 20)
 (S (S (R<|m 29 5<|b 30 .lss (t 29) (i 120)<|z)<|
 (.cond (t 30) [] []
 .skip
 (.exit 2)))<|
 (S (.block 3 [] (g 33 16)
 (D<|f 33 12 1<|l 34 33<|m 35 3<|f 36 12 1<|l 37 36<|m 38 3<|cu 39 33 37 38<|f 40 1 39<|l 41 40<|m 42 5<|m 43 4<|o 44 (.build [(.int .i64 0),(.int .i64 0)] [(0,1,(t 42)),(1,1,(t 43))])<|(.op (I 45) (.lQ 89 [(.int .i64 0),(.int .i64 0)] 1 [(0,2,(t 44))]) .no<|(.op (I 46) (.a (.append 89 2 (t 41) (t 45))) (.hf [(41,33)])<|cu 47 33 34 35<|f 48 1 47<|bP 1 48 46<|z))))<|
 (R<|m 31 5<|b 32 .add (t 31) (i 1)<|m 5 32<|z)))))))))))<|
 (R<|b 49 .add (t 11) (i 1)<|m 11 49<|z)))))))<|
 (S (R<|bM 50 13 1<|bP 13 2 50<|z)<|
 .ret)))),[.cell 2 true 13],[.ah]⟩
theorem Yt:b5 48 B1:=b7 Tryz.func48 rfl
def vG(b:aR)(c:Nat)(e:J)(g h:List J)(i:U)(j:bb):(bb)->bb:=λb c k=>(ar .lss (aI c 0) (.int .i64 120)).bind λl=>aB (λ_ j=>aB (λ_ e=>(ar .add (aI c 0) (.int .i64 1)).bind λc=>b [c] (trim i [c] e)) λb=>(aq 12 e).bind λi=>(ab false 1 i j).bind λk=>(aq 12 e).bind λe=>(ab false 1 e j).bind λe=>(bW 33 e (aI g 0)).bind λe=>(aq 1 e).bind λe=>(ab false 1 e j).bind λe=>(cK [.int .i64 0,.int .i64 0] [(0,1,(aI c 0)),(1,1,(aI h 0))]).bind λc=>(cK (hL [.int .i64 0,.int .i64 0] 1) [(0,2,(J.agg c))]).bind λc=>hY (c.all fz) (bF (.bz 2 (hJ 2 1 c)) (j) λc h=>hY (iX e i h&&true) ((ek 89 2 e c h).bind λc=>(bW 33 k (aI g 0)).bind λe=>(aq 1 e).bind λe=>(a_ 1 e c.1 c.2).bind λc=>b [] c))) λb=>a8 l (b [] k) (j [] k)
def vH(b:aR)(c:Nat)(e:J)(g:U)(h:J)(i:bb):(bb)->bb:=λj k l=>(ar .lss (aI k 0) h).bind λh=>aB (λ_ h=>aB (λ_ b=>(ar .add (aI k 0) (.int .i64 1)).bind λc=>j [c] (trim g [c] b)) λg=>(aq 12 e).bind λi=>(ab false 1 i h).bind λi=>(bW 33 i (aI k 0)).bind λi=>(aq 1 i).bind λi=>(ab false 1 i h).bind λi=>(bw false i).bind λi=>(ar .gtr i (.int .i64 0)).bind λi=>aB (λ_ h=>(ar .add (aI k 0) (.int .i64 1)).bind λi=>(aq 11 e).bind λj=>(ab false 1 j h).bind λj=>(bw false j).bind λj=>(ar .gtr i j).bind λj=>aB (λh i=>aB (λ_ b=>g [] b) λg=>cr (vG b c e k h i g) c [(.int .i64 0)] i) λb=>a8 j (b [(.int .i64 0)] h) (b [i] h)) λb=>a8 i (g [] h) (b [] h)) λb=>a8 h (b [] l) (i [] l)
def Nu(b:aR)(c:Nat)(e:J)(g:U):bh:=bF (.ptr g.length 0) (g++[.box (b' e) 27 .rw]) λe h=>bF (.ptr h.length 0) (h++[.box [.str ⟨#[]⟩,.int .i64 0,.int .i64 0,.bc,.int .i64 0,.int .i64 0,.int .i64 0,.int .i64 0,.bool false,.bc,.bc,.bc,.bc] 27 .rw]) λh i=>(ab true 13 e i).bind λj=>(b 13 [j] i).bind λi=>(a_ 13 e i.1 i.2).bind λi=>(aq 12 e).bind λj=>(ab false 1 j i).bind λj=>(bw false j).bind λj=>aB (λ_ b=>(ab true 13 e b).bind λc=>(a_ 13 h c b).bind λb=>(ab true 13 h b).bind λc=>aL [.ah] g b [c]) λg=>cr (vH b c e i j g) c [(.int .i64 0)] i
open Go.aN.G in
def B2:bU:=⟨1,9,(S (R<|cn 2<|z)<|
 (S (R<|m 3 0<|b 4 .eql (t 3) (i 254)<|m 5 4<|q 8 5 false [6,7] (m 6 0<|b 7 .eql (t 6) (i 255)<|z) (t 7)<|
 m 2 8<|z)<|
 .ret)),[.tmp 2],[.ah]⟩
theorem Yu:b5 49 B2:=b7 Tryz.func49 rfl
def Nv(b:aR)(c:Nat)(e:J)(g:U):bh:=(ar .eql e (.int .i64 254)).bind λb=>a6 (λb c=>aL [.ah] g c [b]) λc=>a7 b false ((ar .eql e (.int .i64 255)).bind λb=>c b g) (c (.bool true) g)
open Go.aN.G in
def vJ:bU:=⟨3,166,(S (R<|c9 3 27 0<|o 6 (.new 27 ko)<|z)<|
 (S (S (R<|m 18 1<|b 19 .eql (t 18) (i 0)<|z)<|
 (.cond (t 19) [] (g 7 4++g 20 44)
 (S (R<|bM 20 13 3<|dA 21 13 20<|bP 13 3 21<|z)<|
 (S (R<|o 22 (.buildSlice 39 [] 0 [])<|f 23 10 3<|l 24 23<|o 25 (.append 39 2 (t 22) (t 24))<|m 7 25<|z)<|
 (S (S (R<|m 26 7<|bS 27 26<|b3 28 0<|z)<|
 (.block 0 [] ([8]++g 28 15)
 (.loop [28] ([8]++g 29 14)
 (S (R<|b 29 .lss (t 28) (t 27)<|z)<|
 (S (.cond (t 29) [] []
 .skip
 (.exit 0))<|
 (S (.block 1 [] ([8]++g 30 12)
 (S (R<|m 30 28<|m 8 30<|z)<|
 (D<|f 31 10 3<|l 32 31<|m 33 2<|m 34 8<|cu 35 1 33 34<|l 36 35<|m 37 7<|m 38 8<|cu 39 2 37 38<|bM 40 2 39<|cu 41 2 32 36<|bP 2 41 40<|z)))<|
 (R<|b 42 .add (t 28) (i 1)<|m 28 42<|z)))))))<|
 (S (S (R<|f 43 3 3<|l 44 43<|bS 45 44<|b3 46 0<|z)<|
 (.block 2 [] ([9,10]++g 46 17)
 (.loop [46] ([9,10]++g 47 16)
 (S (R<|b 47 .lss (t 46) (t 45)<|z)<|
 (S (.cond (t 47) [] []
 .skip
 (.exit 2))<|
 (S (.block 3 [] ([9,10]++g 48 14)
 (S (R<|m 48 46<|cu 49 1 44 46<|l 50 49<|m 9 48<|m 10 50<|z)<|
 (S (R<|m 51 10<|dA 52 49 51<|dB 53 52<|z)<|
 (.cond (t 53) [] (g 54 8)
 (D<|f 54 3 3<|l 55 54<|m 56 9<|m 57 2<|m 58 10<|cu 59 1 57 58<|l 60 59<|cu 61 1 55 56<|bP 1 61 60<|z)
 .skip))))<|
 (R<|b 62 .add (t 46) (i 1)<|m 46 62<|z)))))))<|
 (S (R<|bM 63 13 3<|bP 13 6 63<|z)<|
 .ret)))))
 .skip))<|
 (S (R<|bM 64 13 3<|dA 65 48 64<|bP 13 3 65<|z)<|
 (S (S (R<|m 66 1<|b 67 .eql (t 66) (i 2)<|z)<|
 (.cond (t 67) [] ([11,12]++g 68 27)
 (S (R<|o 68 (.buildSlice 57 [] 0 [])<|f 69 12 3<|l 70 69<|o 71 (.append 57 33 (t 68) (t 70))<|m 11 71<|z)<|
 (S (S (R<|m 72 11<|bS 73 72<|b3 74 0<|z)<|
 (.block 4 [] ([12]++g 74 15)
 (.loop [74] ([12]++g 75 14)
 (S (R<|b 75 .lss (t 74) (t 73)<|z)<|
 (S (.cond (t 75) [] []
 .skip
 (.exit 4))<|
 (S (.block 5 [] ([12]++g 76 12)
 (S (R<|m 76 74<|m 12 76<|z)<|
 (D<|f 77 12 3<|l 78 77<|m 79 2<|m 80 12<|cu 81 1 79 80<|l 82 81<|m 83 11<|m 84 12<|cu 85 33 83 84<|bM 86 33 85<|cu 87 33 78 82<|bP 33 87 86<|z)))<|
 (R<|b 88 .add (t 74) (i 1)<|m 74 88<|z)))))))<|
 (S (S (R<|bM 89 13 3<|dA 90 52 89<|z)<|
 (.cond (t 90) [] [91,92,93]
 (R<|bM 91 13 3<|m 92 2<|dU 93 100 91 92<|z)
 .skip))<|
 (S (R<|bM 94 13 3<|bP 13 6 94<|z)<|
 .ret))))
 .skip))<|
 (S (R<|o 95 (.buildSlice 43 [] 0 [])<|f 96 11 3<|l 97 96<|o 98 (.append 43 13 (t 95) (t 97))<|m 13 98<|z)<|
 (S (S (R<|m 99 13<|bS 100 99<|b3 101 0<|z)<|
 (.block 6 [] ([14]++g 101 15)
 (.loop [101] ([14]++g 102 14)
 (S (R<|b 102 .lss (t 101) (t 100)<|z)<|
 (S (.cond (t 102) [] []
 .skip
 (.exit 6))<|
 (S (.block 7 [] ([14]++g 103 12)
 (S (R<|m 103 101<|m 14 103<|z)<|
 (D<|f 104 11 3<|l 105 104<|m 106 2<|m 107 14<|cu 108 1 106 107<|l 109 108<|m 110 13<|m 111 14<|cu 112 13 110 111<|bM 113 13 112<|cu 114 13 105 109<|bP 13 114 113<|z)))<|
 (R<|b 115 .add (t 101) (i 1)<|m 101 115<|z)))))))<|
 (S (S (R<|bM 116 13 3<|dA 117 52 116<|dB 118 117<|z)<|
 (.cond (t 118) [] [119,120,121]
 (R<|bM 119 13 3<|m 120 2<|dU 121 100 119 120<|z)
 .skip))<|
 (S (S (R<|f 122 12 3<|l 123 122<|bS 124 123<|b3 125 0<|z)<|
 (.block 8 [] ([15,16,17]++g 125 40)
 (.loop [125] ([15,16,17]++g 126 39)
 (S (R<|b 126 .lss (t 125) (t 124)<|z)<|
 (S (.cond (t 126) [] []
 .skip
 (.exit 8))<|
 (S (.block 9 [] ([15,16,17]++g 127 37)
 (S (R<|m 127 125<|m 15 127<|z)<|
 (S (R<|f 128 12 3<|l 129 128<|m 130 15<|cu 131 33 129 130<|f 132 1 131<|l 133 132<|bS 134 133<|b3 135 0<|z)<|
 (.block 10 [] ([16,17]++g 135 29)
 (.loop [135] ([16,17]++g 136 28)
 (S (R<|b 136 .lss (t 135) (t 134)<|z)<|
 (S (.cond (t 136) [] []
 .skip
 (.exit 10))<|
 (S (.block 11 [] ([16,17]++g 137 26)
 (S (R<|m 137 135<|m 16 137<|z)<|
 (S (R<|f 138 12 3<|l 139 138<|m 140 15<|cu 141 33 139 140<|f 142 1 141<|l 143 142<|m 144 16<|cu 145 2 143 144<|m 17 145<|z)<|
 (S (R<|m 146 17<|f' 147 146<|f 148 1 147<|l 149 148<|b 150 .neq (t 149) (i 0)<|z)<|
 (.cond (t 150) [] (g 151 12)
 (R<|m 151 17<|m 152 2<|m 153 17<|f' 154 153<|f 155 1 154<|l 156 155<|b 157 .sub (t 156) (i 1)<|cu 158 1 152 157<|l 159 158<|b 160 .add (i 1) (t 159)<|f' 161 151<|f 162 1 161<|bP 1 162 160<|z)
 .skip)))))<|
 (R<|b 163 .add (t 135) (i 1)<|m 135 163<|z)))))))))<|
 (R<|b 164 .add (t 125) (i 1)<|m 125 164<|z)))))))<|
 (S (R<|bM 165 13 3<|bP 13 6 165<|z)<|
 .ret))))))))),[.cell 6 true 13],[.ah]⟩
theorem Yv:b5 50 vJ:=b7 Tryz.func50 rfl
def yx(b:aR)(c:Nat)(e g:J)(h:List J)(i:U)(j:J)(k:bb):(bb)->bb:=λb c l=>(ar .lss (aI c 0) j).bind λj=>aB (λ_ j=>aB (λ_ e=>(ar .add (aI c 0) (.int .i64 1)).bind λc=>b [c] (trim i [c] e)) λb=>(aq 12 g).bind λg=>(ab false 1 g j).bind λg=>(bW 33 g (aI h 0)).bind λg=>(aq 1 g).bind λg=>(ab false 1 g j).bind λg=>(bW 2 g (aI c 0)).bind λc=>(fA c).bind λg=>(aq 1 g).bind λg=>(ab false 1 g j).bind λg=>(ar .neq g (.int .i64 0)).bind λg=>aB (λ_ c=>b [] c) λb=>a8 g ((fA c).bind λg=>(aq 1 g).bind λg=>(ab false 1 g j).bind λg=>(ar .sub g (.int .i64 1)).bind λg=>(bW 1 e g).bind λe=>(ab false 1 e j).bind λe=>(ar .add (.int .i64 1) e).bind λe=>(fA c).bind λc=>(aq 1 c).bind λc=>(a_ 1 c e j).bind λc=>b [] c) (b [] j)) λb=>a8 j (b [] l) (k [] l)
def yy(b:aR)(c:Nat)(e g:J)(h:U)(i:J)(j:bb):(bb)->bb:=λk l m=>(ar .lss (aI l 0) i).bind λi=>aB (λ_ i=>aB (λ_ b=>(ar .add (aI l 0) (.int .i64 1)).bind λc=>k [c] (trim h [c] b)) λh=>(aq 12 g).bind λj=>(ab false 1 j i).bind λj=>(bW 33 j (aI l 0)).bind λj=>(aq 1 j).bind λj=>(ab false 1 j i).bind λj=>(bw false j).bind λj=>aB (λ_ b=>h [] b) λh=>cr (yx b c e g l i j h) c [(.int .i64 0)] i) λb=>a8 i (b [] m) (j [] m)
def yz(b:aR)(c:Nat)(e g:J)(h:J×U)(i:J)(j:bb):(bb)->bb:=λb c k=>(ar .lss (aI c 0) i).bind λi=>aB (λ_ i=>aB (λ_ e=>(ar .add (aI c 0) (.int .i64 1)).bind λc=>b [c] (trim h.2 [c] e)) λb=>(aq 11 g).bind λg=>(ab false 1 g i).bind λg=>(bW 1 e (aI c 0)).bind λe=>(ab false 1 e i).bind λe=>(bW 13 h.1 (aI c 0)).bind λc=>(ab true 13 c i).bind λc=>(bW 13 g e).bind λe=>(a_ 13 e c i).bind λc=>b [] c) λb=>a8 i (b [] k) (j [] k)
def B4(b:aR)(c:Nat)(e g:J)(h:J×U)(i:J)(j:bb):(bb)->bb:=λb c k=>(ar .lss (aI c 0) i).bind λi=>aB (λ_ i=>aB (λ_ e=>(ar .add (aI c 0) (.int .i64 1)).bind λc=>b [c] (trim h.2 [c] e)) λb=>(aq 12 g).bind λg=>(ab false 1 g i).bind λg=>(bW 1 e (aI c 0)).bind λe=>(ab false 1 e i).bind λe=>(bW 33 h.1 (aI c 0)).bind λc=>(ab true 33 c i).bind λc=>(bW 33 g e).bind λe=>(a_ 33 e c i).bind λc=>b [] c) λb=>a8 i (b [] k) (j [] k)
def B5(b:aR)(c:Nat)(e g:J)(h:U)(i j:J)(k:bb):(bb)->bb:=λc l m=>(ar .lss (aI l 0) j).bind λj=>aB (λ_ j=>aB (λ_ b=>(ar .add (aI l 0) (.int .i64 1)).bind λe=>c [e] (trim h [e] b)) λc=>(bW 1 i (aI l 0)).bind λh=>(ab false 1 h j).bind λh=>(b 49 [h] j).bind λb=>(di .not b.1).bind λi=>aB (λ_ b=>c [] b) λc=>a8 i ((aq 3 g).bind λg=>(ab false 1 g b.2).bind λg=>(bW 1 e h).bind λe=>(ab false 1 e b.2).bind λe=>(bW 1 g (aI l 0)).bind λg=>(a_ 1 g e b.2).bind λb=>c [] b) (c [] b.2)) λb=>a8 j (b [] m) (k [] m)
def B6(b:aR)(c:Nat)(e g:J)(h:J×U)(i:J)(j:bb):(bb)->bb:=λb c k=>(ar .lss (aI c 0) i).bind λi=>aB (λ_ i=>aB (λ_ e=>(ar .add (aI c 0) (.int .i64 1)).bind λc=>b [c] (trim h.2 [c] e)) λb=>(aq 10 g).bind λg=>(ab false 1 g i).bind λg=>(bW 1 e (aI c 0)).bind λe=>(ab false 1 e i).bind λe=>(bW 2 h.1 (aI c 0)).bind λc=>(ab true 2 c i).bind λc=>(bW 2 g e).bind λe=>(a_ 2 e c i).bind λc=>b [] c) λb=>a8 i (b [] k) (j [] k)
def B7(b:aR)(c:Nat)(e g h:J)(i:U):bh:=bF (.ptr i.length 0) (i++[.box (b' e) 27 .rw]) λe j=>bF (.ptr j.length 0) (j++[.box [.str ⟨#[]⟩,.int .i64 0,.int .i64 0,.bc,.int .i64 0,.int .i64 0,.int .i64 0,.int .i64 0,.bool false,.bc,.bc,.bc,.bc] 27 .rw]) λj k=>(ar .eql g (.int .i64 0)).bind λl=>aB (λ_ k=>(ab true 13 e k).bind λl=>(b 48 [l] k).bind λk=>(a_ 13 e k.1 k.2).bind λk=>(ar .eql g (.int .i64 2)).bind λg=>aB (λ_ g=>(aq 11 e).bind λk=>(ab false 1 k g).bind λk=>(ek 43 13 J.emp k g).bind λg=>(bw false g.1).bind λk=>aB (λ_ g=>(ab true 13 e g).bind λk=>(b 52 [k] g).bind λg=>(di .not g.1).bind λk=>aB (λ_ g=>(aq 12 e).bind λk=>(ab false 1 k g).bind λk=>(bw false k).bind λk=>aB (λ_ b=>(ab true 13 e b).bind λc=>(a_ 13 j c b).bind λb=>(ab true 13 j b).bind λc=>aL [.ah] i b [c]) λi=>cr (yy b c h e g k i) c [(.int .i64 0)] g) λc=>a8 k ((ab true 13 e g.2).bind λe=>(b 100 [e,h] g.2).bind λb=>c [] b.2) (c [] g.2)) λi=>cr (yz b c h e g k i) c [(.int .i64 0)] g.2) λl=>a8 g ((aq 12 e).bind λg=>(ab false 1 g k).bind λg=>(ek 57 33 J.emp g k).bind λg=>(bw false g.1).bind λk=>aB (λ_ c=>(ab true 13 e c).bind λg=>(b 52 [g] c).bind λc=>aB (λ_ b=>(ab true 13 e b).bind λc=>(a_ 13 j c b).bind λb=>(ab true 13 j b).bind λc=>aL [.ah] i b [c]) λg=>a8 c.1 ((ab true 13 e c.2).bind λe=>(b 100 [e,h] c.2).bind λb=>g [] b.2) (g [] c.2)) λi=>cr (B4 b c h e g k i) c [(.int .i64 0)] g.2) (l [] k)) λg=>a8 l ((ab true 13 e k).bind λg=>(b 13 [g] k).bind λg=>(a_ 13 e g.1 g.2).bind λg=>(aq 10 e).bind λk=>(ab false 1 k g).bind λk=>(ek 39 2 J.emp k g).bind λg=>(bw false g.1).bind λk=>aB (λ_ g=>(aq 3 e).bind λk=>(ab false 1 k g).bind λk=>(bw false k).bind λl=>aB (λ_ b=>(ab true 13 e b).bind λc=>(a_ 13 j c b).bind λb=>(ab true 13 j b).bind λc=>aL [.ah] i b [c]) λi=>cr (B5 b c h e g k l i) c [(.int .i64 0)] g) λi=>cr (B6 b c h e g k i) c [(.int .i64 0)] g.2) (g [] k)
open Go.aN.G in
def B8:bU:=⟨2,44,(S (R<|o 4 (.move (.const (.slice none 0 0)))<|z)<|
 (S (R<|m 10 0<|o 11 (.mkSlice 3 [(.int .i64 0)] (t 10) (t 10))<|m 5 11<|z)<|
 (S (S (R<|m 12 5<|bS 13 12<|b3 14 0<|z)<|
 (.block 0 [] ([6]++g 14 7)
 (.loop [14] ([6]++g 15 6)
 (S (R<|b 15 .lss (t 14) (t 13)<|z)<|
 (S (.cond (t 15) [] []
 .skip
 (.exit 0))<|
 (S (.block 1 [] ([6]++g 16 4)
 (S (R<|m 16 14<|m 6 16<|z)<|
 (R<|m 17 5<|m 18 6<|cu 19 1 17 18<|n (.store 1 (t 19) (i (-1)))<|z)))<|
 (R<|b 20 .add (t 14) (i 1)<|m 14 20<|z)))))))<|
 (S (R<|b3 7 0<|z)<|
 (S (S (R<|m 21 1<|dA 22 35 21<|m 23 0<|dA 24 58 23<|o 25 (.append 3 1 (t 22) (t 24))<|bS 26 25<|b3 27 0<|z)<|
 (.block 2 [] ([7,9]++g 27 16)
 (.loop [7,27] ([9]++g 28 15)
 (S (R<|b 28 .lss (t 27) (t 26)<|z)<|
 (S (.cond (t 28) [] []
 .skip
 (.exit 2))<|
 (S (.block 3 [7] ([9]++g 29 13)
 (S (R<|cu 29 1 25 27<|l 30 29<|m 9 30<|z)<|
 (S (R<|m 31 5<|m 32 9<|cu 33 1 31 32<|l 34 33<|b 35 .lss (t 34) (i 0)<|z)<|
 (.cond (t 35) [7] (g 36 6)
 (S (R<|m 36 5<|m 37 9<|m 38 7<|cu 39 1 36 37<|bP 1 39 38<|z)<|
 (R<|m 40 7<|b 41 .add (t 40) (i 1)<|m 7 41<|z))
 .skip))))<|
 (R<|b 42 .add (t 27) (i 1)<|m 27 42<|z)))))))<|
 (S (R<|m 43 5<|m 4 43<|z)<|
 .ret)))))),[.tmp 4],[(.flat 1)]⟩
theorem Yw:b5 51 B8:=b7 Tryz.func51 rfl
def B9(b:aR)(c:Nat)(e g:J×U)(h:J)(i:bb):(bb)->bb:=λb c j=>(ar .lss (aI c 1) h).bind λh=>aB (λ_ h=>aB (λe h=>(ar .add (aI c 1) (.int .i64 1)).bind λc=>b [(aI e 0),c] (trim g.2 [(aI e 0),c] h)) λb=>(bW 1 g.1 (aI c 1)).bind λg=>(ab false 1 g h).bind λg=>(bW 1 e.1 g).bind λi=>(ab false 1 i h).bind λi=>(ar .lss i (.int .i64 0)).bind λi=>aB (λc e=>b [(aI c 0)] e) λb=>a8 i ((bW 1 e.1 g).bind λe=>(a_ 1 e (aI c 0) h).bind λe=>(ar .add (aI c 0) (.int .i64 1)).bind λc=>b [c] e) (b [(aI c 0)] h)) λb=>a8 h (b [] j) (i [] j)
def H6(b:aR)(c:Nat)(e:J×U)(g:J)(h:bb):(bb)->bb:=λb c i=>(ar .lss (aI c 0) g).bind λg=>aB (λ_ g=>aB (λ_ g=>(ar .add (aI c 0) (.int .i64 1)).bind λc=>b [c] (trim e.2 [c] g)) λb=>(bW 1 e.1 (aI c 0)).bind λc=>(a_ 1 c (.int .i64 (-1)) g).bind λc=>b [] c) λb=>a8 g (b [] i) (h [] i)
def Nw(b:aR)(c:Nat)(e g:J)(h:U):bh:=(pk 3 [.int .i64 0] e e h).bind λi=>(bw false i.1).bind λj=>aB (λ_ j=>(b 35 [g] j).bind λg=>(b 58 [e] g.2).bind λe=>(ek 3 1 g.1 e.1 e.2).bind λe=>(bw false e.1).bind λg=>aB (λ_ b=>aL [(.flat 1)] h b [i.1]) λh=>cr (B9 b c i e g h) c [(.int .i64 0),(.int .i64 0)] e.2) λe=>cr (H6 b c i j e) c [(.int .i64 0)] i.2
open Go.aN.G in
def yA:bU:=⟨1,13,(S (R<|c9 1 27 0<|cn 2<|z)<|
 (S (R<|f 6 1 1<|l 7 6<|dA 8 56 7<|m 5 8<|eC 9 5 0<|eC 10 5 1<|o 3 (.new 83 iM)<|bP 29 3 9<|m 4 10<|z)<|
 (S (R<|f 11 6 3<|l 12 11<|m 2 12<|z)<|
 .ret))),[.tmp 2],[.ah]⟩
theorem Yx:b5 52 yA:=b7 Tryz.func52 rfl
def H8(b:aR)(c:Nat)(e:J)(g:U):bh:=bF (.ptr g.length 0) (g++[.box (b' e) 27 .rw]) λc e=>(aq 1 c).bind λc=>(ab false 1 c e).bind λc=>(b 56 [c] e).bind λb=>(ea b.1 0).bind λc=>(ea b.1 1).bind λ_=>bF (.ptr b.2.length 0) (b.2++[.box eR 83 .rw]) λb e=>(a_ 29 b c e).bind λc=>(aq 6 b).bind λb=>(ab false 1 b c).bind λb=>aL [.ah] g c [b]
open Go.aN.G in
def B':bU:=⟨1,11,(S (R<|o 2 (.new 83 iM)<|b3 3 0<|z)<|
 (S (S (R<|m 4 0<|dA 5 101 4<|dB 6 5<|z)<|
 (.cond (t 6) [] [3,7]
 (S (R<|o 7 (.build iM [])<|bP 29 2 7<|b3 3 6<|z)<|
 .ret)
 .skip))<|
 (S (R<|o 8 (.call 102 [])<|m 9 0<|o 10 (.q0 7 true 29 (t 8) (t 9))<|bP 29 2 10<|b3 3 0<|z)<|
 .ret))),[.cell 2 true 29,.tmp 3],[.ah,.ah]⟩
theorem Yy:b5 53 B':=b7 Tryz.func53 rfl
def Nx(b:aR)(c:Nat)(e:J)(g:U):bh:=bF (.ptr g.length 0) (g++[.box eR 83 .rw]) λc h=>(b 101 [e] h).bind λh=>(di .not h.1).bind λi=>aB (λ_ h=>(b 102 [] h).bind λb=>(q_ 7 true 29 b.1 e).bind λe=>(a_ 29 c e b.2).bind λb=>(ab true 29 c b).bind λc=>aL [.ah,.ah] g b [c,(.int .i64 0)]) λb=>a8 i ((cK eR []).bind λb=>(a_ 29 c (J.agg b) h.2).bind λb=>(ab true 29 c b).bind λc=>aL [.ah,.ah] g b [c,(.int .i64 6)]) (b [] h.2)
open Go.aN.G in
def Ca:bU:=⟨3,15,(S (R<|cn 6<|z)<|
 (S (R<|m 7 0<|m 8 1<|b 9 .geq (t 7) (t 8)<|m 10 9<|q 14 10 true [11,12,13] (m 11 0<|m 12 2<|b 13 .leq (t 11) (t 12)<|z) (t 13)<|
 m 6 14<|z)<|
 .ret)),[.tmp 6],[.ah]⟩
theorem Yz:b5 54 Ca:=b7 Tryz.func54 rfl
def Ny(b:aR)(c:Nat)(e g h:J)(i:U):bh:=(ar .geq e g).bind λb=>a6 (λb c=>aL [.ah] i c [b]) λc=>a7 b true ((ar .leq e h).bind λb=>c b i) (c (.bool false) i)
open Go.aN.G in
def Cb:bU:=⟨2,22,(S (R<|o 4 (.new 39 [(.int .i64 0),(.slice none 0 0)])<|b3 5 0<|z)<|
 (S (.block 0 [] (g 5 11)
 (S (R<|m 7 1<|dA 8 103 7<|dB 9 8<|m 6 9<|z)<|
 (.cond (t 6) [] ([5]++g 10 6)
 (S (R<|o 10 (.build [(.int .i64 0),(.slice none 0 0)] [])<|bP 2 4 10<|b3 5 1<|z)<|
 .ret)
 (S (R<|m 12 0<|o 13 (.call 104 [(t 12),(i 1),(i 64)])<|dB 14 13<|m 11 14<|z)<|
 (.cond (t 11) [] [5,15]
 (S (R<|o 15 (.build [(.int .i64 0),(.slice none 0 0)] [])<|bP 2 4 15<|b3 5 5<|z)<|
 .ret)
 .skip)))))<|
 (S (R<|m 16 0<|m 17 0<|m 18 1<|b 19 .mul (t 17) (t 18)<|o 20 (.mkSlice 41 MQ (t 19) (t 19))<|o 21 (.build [(.int .i64 0),(.slice none 0 0)] [(0,1,(t 16)),(1,1,(t 20))])<|bP 2 4 21<|b3 5 0<|z)<|
 .ret))),[.cell 4 true 2,.tmp 5],[(.agg [.ah,(.flat 6)]),.ah]⟩
theorem YA:b5 55 Cb:=b7 Tryz.func55 rfl
def Nz(b:aR)(c:Nat)(e g:J)(h:U):bh:=bF (.ptr h.length 0) (h++[.box [.int .i64 0,.bc] 39 .rw]) λc i=>aB (λ_ b=>(ar .mul e g).bind λg=>(pk 41 [.int .i64 0,.int .i64 0,.int .i64 0,.int .i64 0,.int .i64 0,.int .i64 0] g g b).bind λb=>(cK [.int .i64 0,.bc] [(0,1,e),(1,1,b.1)]).bind λe=>(a_ 2 c (J.agg e) b.2).bind λb=>(ab true 2 c b).bind λc=>aL [(.agg [.ah,(.flat 6)]),.ah] h b [c,(.int .i64 0)]) λj=>(b 103 [g] i).bind λg=>(di .not g.1).bind λi=>aB (λ_ b=>j [] b) λj=>a8 i ((cK [.int .i64 0,.bc] []).bind λb=>(a_ 2 c (J.agg b) g.2).bind λb=>(ab true 2 c b).bind λc=>aL [(.agg [.ah,(.flat 6)]),.ah] h b [c,(.int .i64 1)]) ((b 104 [e,(.int .i64 1),(.int .i64 64)] g.2).bind λb=>(di .not b.1).bind λe=>aB (λ_ b=>j [] b) λg=>a8 e ((cK [.int .i64 0,.bc] []).bind λe=>(a_ 2 c (J.agg e) b.2).bind λb=>(ab true 2 c b).bind λc=>aL [(.agg [.ah,(.flat 6)]),.ah] h b [c,(.int .i64 5)]) (g [] b.2))
open Go.aN.G in
def Cc:bU:=⟨1,24,(S (R<|o 2 (.new 83 iM)<|b3 3 0<|z)<|
 (S (S (R<|m 4 0<|z)<|
 (.block 0 [] ([3]++g 5 18)
 (S (R<|b 6 .eql (t 4) (i 1)<|m 5 6<|z)<|
 (.cond (t 5) [] ([3]++g 7 16)
 (S (R<|o 7 (.build iM [(0,1,(.const (.string ⟨#[102,111,117,114]⟩))),(1,1,(i 4)),(2,1,(i 32)),(3,1,(i 64)),(4,1,(i 49)),(5,1,(i 84)),(9,1,(i 1)),(10,1,(i 453)),(11,1,(i 3424)),(16,1,(i 5)),(17,1,(.const (.bool true))),(18,1,(i 1)),(19,1,(.const (.bool true))),(21,1,(i 1)),(22,1,(.const (.bool true))),(25,1,(.const (.bool true)))])<|bP 29 2 7<|b3 3 0<|z)<|
 .ret)
 (S (R<|b 9 .eql (t 4) (i 2)<|m 8 9<|z)<|
 (.cond (t 8) [] ([3]++g 10 13)
 (S (R<|o 10 (.build iM [(0,1,(.const (.string ⟨#[115,99,114,101,97,109]⟩))),(1,1,(i 16)),(2,1,(i 32)),(3,1,(i 64)),(4,1,(i 13)),(5,1,(i 108)),(7,1,(.const (.bool true))),(9,1,(i 1)),(10,1,(i 64)),(11,1,(i 32767)),(16,1,(i 5))])<|bP 29 2 10<|b3 3 0<|z)<|
 .ret)
 (S (R<|b 12 .eql (t 4) (i 3)<|m 11 12<|z)<|
 (.cond (t 11) [] ([3]++g 13 10)
 (S (R<|o 13 (.build iM [(0,1,(.const (.string ⟨#[102,97,115,116]⟩))),(1,1,(i 16)),(2,1,(i 32)),(4,1,(i 1)),(5,1,(i 96)),(6,1,(.const (.bool true))),(7,1,(.const (.bool true))),(8,1,(.const (.bool true))),(10,1,(i 32)),(11,1,(i 65535)),(12,1,(.const (.bool true))),(16,1,(i 6)),(17,1,(.const (.bool true))),(19,1,(.const (.bool true))),(20,1,(.const (.bool true))),(21,1,(i 1)),(23,1,(.const (.bool true))),(24,1,(.const (.bool true))),(25,1,(.const (.bool true))),(26,1,(.const (.bool true))),(27,1,(.const (.bool true)))])<|bP 29 2 13<|b3 3 0<|z)<|
 .ret)
 (S (R<|b 15 .eql (t 4) (i 4)<|m 14 15<|z)<|
 (.cond (t 14) [] ([3]++g 16 7)
 (S (R<|o 16 (.build iM [(0,1,(.const (.string ⟨#[105,109,112,117,108,115,101]⟩))),(1,1,(i 16)),(2,1,(i 32)),(4,1,(i 1)),(5,1,(i 120)),(6,1,(.const (.bool true))),(7,1,(.const (.bool true))),(8,1,(.const (.bool true))),(10,1,(i 16)),(11,1,(i 65535)),(15,1,(.const (.bool true))),(16,1,(i 6)),(19,1,(.const (.bool true))),(21,1,(i 2)),(23,1,(.const (.bool true))),(27,1,(.const (.bool true)))])<|bP 29 2 16<|b3 3 0<|z)<|
 .ret)
 (S (R<|b 18 .eql (t 4) (i 5)<|m 17 18<|z)<|
 (.cond (t 17) [] ([3]++g 19 4)
 (S (R<|o 19 (.build iM [(0,1,(.const (.string ⟨#[99,111,109,112,111,115,101]⟩))),(1,1,(i 8)),(2,1,(i 32)),(3,1,(i 64)),(4,1,(i 13)),(5,1,(i 72)),(9,1,(i 2)),(13,1,(.const (.bool true))),(16,1,(i 5)),(18,1,(i 2)),(28,1,(.const (.bool true)))])<|bP 29 2 19<|b3 3 0<|z)<|
 .ret)
 (S (R<|b 21 .eql (t 4) (i 6)<|m 20 21<|z)<|
 (.cond (t 20) [] [3,22]
 (S (R<|o 22 (.build iM [(0,1,(.const (.string ⟨#[99,104,105,112]⟩))),(1,1,(i 4)),(2,1,(i 32)),(4,1,(i 13)),(5,1,(i 108)),(6,1,(.const (.bool true))),(9,1,(i 1)),(10,1,(i 16)),(11,1,(i 65535)),(14,1,(.const (.bool true))),(16,1,(i 5)),(17,1,(.const (.bool true))),(18,1,(i 2)),(23,1,(.const (.bool true))),(27,1,(.const (.bool true)))])<|bP 29 2 22<|b3 3 0<|z)<|
 .ret)
 .skip))))))))))))))<|
 (S (R<|o 23 (.build iM [])<|bP 29 2 23<|b3 3 6<|z)<|
 .ret))),[.cell 2 true 29,.tmp 3],[.ah,.ah]⟩
theorem YB:b5 56 Cc:=b7 Tryz.func56 rfl
def NA(b:aR)(c:Nat)(e:J)(g:U):bh:=bF (.ptr g.length 0) (g++[.box eR 83 .rw]) λb c=>aB (λ_ c=>(cK eR []).bind λe=>(a_ 29 b (J.agg e) c).bind λc=>(ab true 29 b c).bind λb=>aL [.ah,.ah] g c [b,(.int .i64 6)]) λh=>(ar .eql e (.int .i64 1)).bind λi=>aB (λ_ b=>h [] b) λh=>a8 i ((cK eR [(0,1,(.str ⟨#[102,111,117,114]⟩:J)),(1,1,(.int .i64 4)),(2,1,(.int .i64 32)),(3,1,(.int .i64 64)),(4,1,(.int .i64 49)),(5,1,(.int .i64 84)),(9,1,(.int .i64 1)),(10,1,(.int .i64 453)),(11,1,(.int .i64 3424)),(16,1,(.int .i64 5)),(17,1,(.bool true)),(18,1,(.int .i64 1)),(19,1,(.bool true)),(21,1,(.int .i64 1)),(22,1,(.bool true)),(25,1,(.bool true))]).bind λe=>(a_ 29 b (J.agg e) c).bind λc=>(ab true 29 b c).bind λb=>aL [.ah,.ah] g c [b,(.int .i64 0)]) ((ar .eql e (.int .i64 2)).bind λi=>aB (λ_ b=>h [] b) λh=>a8 i ((cK eR [(0,1,(.str ⟨#[115,99,114,101,97,109]⟩:J)),(1,1,(.int .i64 16)),(2,1,(.int .i64 32)),(3,1,(.int .i64 64)),(4,1,(.int .i64 13)),(5,1,(.int .i64 108)),(7,1,(.bool true)),(9,1,(.int .i64 1)),(10,1,(.int .i64 64)),(11,1,(.int .i64 32767)),(16,1,(.int .i64 5))]).bind λe=>(a_ 29 b (J.agg e) c).bind λc=>(ab true 29 b c).bind λb=>aL [.ah,.ah] g c [b,(.int .i64 0)]) ((ar .eql e (.int .i64 3)).bind λi=>aB (λ_ b=>h [] b) λh=>a8 i ((cK eR [(0,1,(.str ⟨#[102,97,115,116]⟩:J)),(1,1,(.int .i64 16)),(2,1,(.int .i64 32)),(4,1,(.int .i64 1)),(5,1,(.int .i64 96)),(6,1,(.bool true)),(7,1,(.bool true)),(8,1,(.bool true)),(10,1,(.int .i64 32)),(11,1,(.int .i64 65535)),(12,1,(.bool true)),(16,1,(.int .i64 6)),(17,1,(.bool true)),(19,1,(.bool true)),(20,1,(.bool true)),(21,1,(.int .i64 1)),(23,1,(.bool true)),(24,1,(.bool true)),(25,1,(.bool true)),(26,1,(.bool true)),(27,1,(.bool true))]).bind λe=>(a_ 29 b (J.agg e) c).bind λc=>(ab true 29 b c).bind λb=>aL [.ah,.ah] g c [b,(.int .i64 0)]) ((ar .eql e (.int .i64 4)).bind λi=>aB (λ_ b=>h [] b) λh=>a8 i ((cK eR [(0,1,(.str ⟨#[105,109,112,117,108,115,101]⟩:J)),(1,1,(.int .i64 16)),(2,1,(.int .i64 32)),(4,1,(.int .i64 1)),(5,1,(.int .i64 120)),(6,1,(.bool true)),(7,1,(.bool true)),(8,1,(.bool true)),(10,1,(.int .i64 16)),(11,1,(.int .i64 65535)),(15,1,(.bool true)),(16,1,(.int .i64 6)),(19,1,(.bool true)),(21,1,(.int .i64 2)),(23,1,(.bool true)),(27,1,(.bool true))]).bind λe=>(a_ 29 b (J.agg e) c).bind λc=>(ab true 29 b c).bind λb=>aL [.ah,.ah] g c [b,(.int .i64 0)]) ((ar .eql e (.int .i64 5)).bind λi=>aB (λ_ b=>h [] b) λh=>a8 i ((cK eR [(0,1,(.str ⟨#[99,111,109,112,111,115,101]⟩:J)),(1,1,(.int .i64 8)),(2,1,(.int .i64 32)),(3,1,(.int .i64 64)),(4,1,(.int .i64 13)),(5,1,(.int .i64 72)),(9,1,(.int .i64 2)),(13,1,(.bool true)),(16,1,(.int .i64 5)),(18,1,(.int .i64 2)),(28,1,(.bool true))]).bind λe=>(a_ 29 b (J.agg e) c).bind λc=>(ab true 29 b c).bind λb=>aL [.ah,.ah] g c [b,(.int .i64 0)]) ((ar .eql e (.int .i64 6)).bind λe=>aB (λ_ b=>h [] b) λh=>a8 e ((cK eR [(0,1,(.str ⟨#[99,104,105,112]⟩:J)),(1,1,(.int .i64 4)),(2,1,(.int .i64 32)),(4,1,(.int .i64 13)),(5,1,(.int .i64 108)),(6,1,(.bool true)),(9,1,(.int .i64 1)),(10,1,(.int .i64 16)),(11,1,(.int .i64 65535)),(14,1,(.bool true)),(16,1,(.int .i64 5)),(17,1,(.bool true)),(18,1,(.int .i64 2)),(23,1,(.bool true)),(27,1,(.bool true))]).bind λe=>(a_ 29 b (J.agg e) c).bind λc=>(ab true 29 b c).bind λb=>aL [.ah,.ah] g c [b,(.int .i64 0)]) (h [] c))))))
open Go.aN.G in
def Cd:bU:=⟨3,15,(S (R<|cn 6<|z)<|
 (S (R<|m 7 1<|m 8 0<|b 9 .leq (t 7) (t 8)<|m 10 9<|q 14 10 true [11,12,13] (m 11 0<|m 12 2<|b 13 .leq (t 11) (t 12)<|z) (t 13)<|
 m 6 14<|z)<|
 .ret)),[.tmp 6],[.ah]⟩
theorem YC:b5 57 Cd:=b7 Tryz.func57 rfl
def NB(b:aR)(c:Nat)(e g h:J)(i:U):bh:=(ar .leq g e).bind λb=>a6 (λb c=>aL [.ah] i c [b]) λc=>a7 b true ((ar .leq e h).bind λb=>c b i) (c (.bool false) i)
open Go.aN.G in
def Ce:bU:=⟨1,15,(S (R<|o 2 (.move (.const (.slice none 0 0)))<|z)<|
 (S (R<|(.op (I 3) (.r6 3 1) .no<|z))<|
 (S (S (R<|b3 4 0<|z)<|
 (.block 0 [3] (g 4 10)
 (.loop [3,4] (g 5 9)
 (S (S (R<|m 5 4<|m 6 0<|b 7 .lss (t 5) (t 6)<|z)<|
 (.cond (t 7) [] []
 .skip
 (.exit 0)))<|
 (S (.block 1 [3] (g 10 4)
 (R<|m 10 3<|m 11 4<|(.op (I 12) (.lQ 3 [(.int .i64 0)] 1 [(0,1,(t 11))]) .no<|o 13 (.append 3 1 (t 10) (t 12))<|m 3 13<|z)))<|
 (R<|m 8 4<|b 9 .add (t 8) (i 1)<|m 4 9<|z))))))<|
 (S (R<|m 14 3<|m 2 14<|z)<|
 .ret)))),[.tmp 2],[(.flat 1)]⟩
theorem YD:b5 58 Ce:=b7 Tryz.func58 rfl
def H9(b:aR)(c:Nat)(e:J)(g:U)(h:bb):(bb)->bb:=λb c i=>(ar .lss (aI c 1) e).bind λe=>aB (λ_ e=>aB (λe h=>(ar .add (aI c 1) (.int .i64 1)).bind λc=>b [(aI e 0),c] (trim g [(aI e 0),c] h)) λb=>(cK (hL [.int .i64 0] 1) [(0,1,(aI c 1))]).bind λg=>hY (g.all fz) (bF (.bz 1 (hJ 1 1 g)) (e) λe g=>(ek 3 1 (aI c 0) e g).bind λc=>b [c.1] c.2)) λb=>a8 e (b [] i) (h [(aI c 0)] i)
def NC(b:aR)(c:Nat)(e:J)(g:U):bh:=bF (.ref g.length 0 0 0 1) (g++[.log [] 1 3 .rw]) λh i=>aB (λb c=>aL [(.flat 1)] g c [(aI b 0)]) λg=>cr (H9 b c e i g) c [h,(.int .i64 0)] i
open Go.aN.G in
def Cf:bU:=⟨1,28,(S (R<|c9 1 104 0<|o 2 (.new 108 eH)<|cn 3<|z)<|
 (S (.block 0 [] (g 3 24)
 (S (R<|f 5 0 1<|f 6 0 5<|l 7 6<|dA 8 114 7<|dB 9 8<|m 4 9<|z)<|
 (.cond (t 4) [] ([3]++g 10 17)
 (S (R<|o 10 (.build eH [(0,1,(.const (.string ⟨#[110,97,109,101]⟩))),(1,1,(i 0)),(2,1,(i 1))])<|bP 3 2 10<|gk 3<|z)<|
 .ret)
 (S (R<|f 12 13 1<|f 13 1 12<|l 14 13<|b 15 .eql (t 14) (i 0)<|m 11 15<|z)<|
 (.cond (t 11) [] ([3]++g 16 11)
 (S (R<|o 16 (.build eH [(0,1,(.const (.string ⟨#[100,105,97,108,101,99,116]⟩))),(1,1,(i 0)),(2,1,(i 6))])<|bP 3 2 16<|gk 3<|z)<|
 .ret)
 (S (R<|f 18 0 1<|f 19 2 18<|l 20 19<|f 21 13 1<|f 22 1 21<|l 23 22<|o 24 (.call 54 [(t 20),(i 1),(t 23)])<|dB 25 24<|m 17 25<|z)<|
 (.cond (t 17) [] [3,26]
 (S (R<|o 26 (.build eH [(0,1,(.const (.string ⟨#[99,104,97,110,110,101,108,115]⟩))),(1,1,(i 0)),(2,1,(i 5))])<|bP 3 2 26<|gk 3<|z)<|
 .ret)
 .skip)))))))<|
 (S (R<|o 27 (.build eH [])<|bP 3 2 27<|cn 3<|z)<|
 .ret))),[.cell 2 true 3,.tmp 3],[.ah,.ah]⟩
theorem YE:b5 68 Cf:=b7 Tryz.func68 rfl
def ND(b:aR)(c:Nat)(e:J)(g:U):bh:=bF (.ptr g.length 0) (g++[.box (b' e) 104 .rw]) λc e=>bF (.ptr e.length 0) (e++[.box [.str ⟨#[]⟩,.int .i64 0,.int .i64 0] 108 .rw]) λe h=>aB (λ_ b=>(cK [.str ⟨#[]⟩,.int .i64 0,.int .i64 0] []).bind λc=>(a_ 3 e (J.agg c) b).bind λb=>(ab true 3 e b).bind λc=>aL [.ah,.ah] g b [c,(.bool false)]) λi=>(aq 0 c).bind λj=>(aq 0 j).bind λj=>(ab false 1 j h).bind λj=>(b 114 [j] h).bind λh=>(di .not h.1).bind λj=>aB (λ_ b=>i [] b) λi=>a8 j ((cK [.str ⟨#[]⟩,.int .i64 0,.int .i64 0] [(0,1,(.str ⟨#[110,97,109,101]⟩:J)),(1,1,(.int .i64 0)),(2,1,(.int .i64 1))]).bind λb=>(a_ 3 e (J.agg b) h.2).bind λb=>(ab true 3 e b).bind λc=>aL [.ah,.ah] g b [c,(.bool true)]) ((aq 13 c).bind λj=>(aq 1 j).bind λj=>(ab false 1 j h.2).bind λj=>(ar .eql j (.int .i64 0)).bind λj=>aB (λ_ b=>i [] b) λi=>a8 j ((cK [.str ⟨#[]⟩,.int .i64 0,.int .i64 0] [(0,1,(.str ⟨#[100,105,97,108,101,99,116]⟩:J)),(1,1,(.int .i64 0)),(2,1,(.int .i64 6))]).bind λb=>(a_ 3 e (J.agg b) h.2).bind λb=>(ab true 3 e b).bind λc=>aL [.ah,.ah] g b [c,(.bool true)]) ((aq 0 c).bind λj=>(aq 2 j).bind λj=>(ab false 1 j h.2).bind λj=>(aq 13 c).bind λc=>(aq 1 c).bind λc=>(ab false 1 c h.2).bind λc=>(b 54 [j,(.int .i64 1),c] h.2).bind λb=>(di .not b.1).bind λc=>aB (λ_ b=>i [] b) λh=>a8 c ((cK [.str ⟨#[]⟩,.int .i64 0,.int .i64 0] [(0,1,(.str ⟨#[99,104,97,110,110,101,108,115]⟩:J)),(1,1,(.int .i64 0)),(2,1,(.int .i64 5))]).bind λc=>(a_ 3 e (J.agg c) b.2).bind λb=>(ab true 3 e b).bind λc=>aL [.ah,.ah] g b [c,(.bool true)]) (h [] b.2)))
open Go.aN.G in
def Cg:bU:=⟨1,61,(S (R<|c9 1 104 0<|o 2 (.new 108 eH)<|cn 3<|z)<|
 (S (S (R<|f 6 0 1<|f 7 10 6<|l 8 7<|bS 9 8<|f 10 13 1<|f 11 2 10<|l 12 11<|o 13 (.call 54 [(t 9),(i 1),(t 12)])<|dB 14 13<|z)<|
 (.cond (t 14) [] [3,15]
 (S (R<|o 15 (.build eH [(0,1,(.const (.string ⟨#[112,97,116,116,101,114,110,115]⟩))),(1,1,(i 0)),(2,1,(i 4))])<|bP 3 2 15<|gk 3<|z)<|
 .ret)
 .skip))<|
 (S (S (R<|f 16 0 1<|f 17 10 16<|l 18 17<|bS 19 18<|b3 20 0<|z)<|
 (.block 0 [] ([3,4,5]++g 20 40)
 (.loop [20] ([3,4,5]++g 21 39)
 (S (R<|b 21 .lss (t 20) (t 19)<|z)<|
 (S (.cond (t 21) [] []
 .skip
 (.exit 0))<|
 (S (.block 1 [] ([3,4,5]++g 22 37)
 (S (R<|m 22 20<|cu 23 2 18 20<|bM 24 2 23<|o 5 (.new 39 [(.int .i64 0),(.slice none 0 0)])<|m 4 22<|bP 2 5 24<|z)<|
 (S (S (R<|f 25 13 1<|f 26 3 25<|l 27 26<|b 28 .neq (t 27) (i 0)<|m 29 28<|q 36 29 true (g 30 6) (f 30 0 5<|l 31 30<|f 32 13 1<|f 33 3 32<|l 34 33<|b 35 .neq (t 31) (t 34)<|z) (t 35)<|
 m 37 36<|q 44 37 false (g 38 6) (bM 38 2 5<|f 39 0 1<|f 40 2 39<|l 41 40<|F 38 (.agg [.ah,(.flat 6)])<|dU 42 115 38 41<|dB 43 42<|z) (t 43)<|
 m 45 44<|q 50 45 false (g 46 4) (f 46 1 5<|l 47 46<|o 48 (.jW 117 [] [(t 1)])<|F 47 (.flat 6)<|dU 49 116 47 48<|z) (t 49)<|
 z)<|
 (.cond (t 50) [] [3,51,52]
 (S (R<|m 51 4<|o 52 (.build eH [(0,1,(.const (.string ⟨#[112,97,116,116,101,114,110,115]⟩))),(1,1,(t 51)),(2,1,(i 1))])<|bP 3 2 52<|gk 3<|z)<|
 .ret)
 .skip))<|
 (S (R<|f 53 1 5<|l 54 53<|o 55 (.jW 119 [] [(t 1)])<|F 54 (.flat 6)<|dU 56 116 54 55<|z)<|
 (.cond (t 56) [] [3,57,58]
 (S (R<|m 57 4<|o 58 (.build eH [(0,1,(.const (.string ⟨#[112,97,116,116,101,114,110,115]⟩))),(1,1,(t 57)),(2,1,(i 10))])<|bP 3 2 58<|gk 3<|z)<|
 .ret)
 .skip)))))<|
 (R<|b 59 .add (t 20) (i 1)<|m 20 59<|z)))))))<|
 (S (R<|o 60 (.build eH [])<|bP 3 2 60<|cn 3<|z)<|
 .ret)))),[.cell 2 true 3,.tmp 3],[.ah,.ah]⟩
theorem YF:b5 69 Cg:=b7 Tryz.func69 rfl
def Ch(b:aR)(c:Nat)(e:U)(g h:J)(i:U)(j k:J)(l:bb):(bb)->bb:=λc m n=>(ar .lss (aI m 0) k).bind λk=>aB (λ_ k=>aB (λ_ b=>(ar .add (aI m 0) (.int .i64 1)).bind λe=>c [e] (trim i [e] b)) λc=>(bW 2 j (aI m 0)).bind λi=>(ab true 2 i k).bind λi=>bF (.ptr k.length 0) (k++[.box [.int .i64 0,.bc] 39 .rw]) λj k=>(a_ 2 j i k).bind λi=>(aq 13 g).bind λk=>(aq 3 k).bind λk=>(ab false 1 k i).bind λk=>(ar .neq k (.int .i64 0)).bind λk=>a6 (λi k=>a6 (λi k=>a6 (λi k=>aB (λ_ i=>(aq 1 j).bind λj=>(ab false 1 j i).bind λj=>(dh (.flat 6) j i).bind λi=>(b 116 [i.1,(J.func 119 [] [g])] i.2).bind λb=>aB (λ_ b=>c [] b) λc=>a8 b.1 ((cK [.str ⟨#[]⟩,.int .i64 0,.int .i64 0] [(0,1,(.str ⟨#[112,97,116,116,101,114,110,115]⟩:J)),(1,1,(aI m 0)),(2,1,(.int .i64 10))]).bind λc=>(a_ 3 h (J.agg c) b.2).bind λb=>(ab true 3 h b).bind λc=>aL [.ah,.ah] e b [c,(.bool true)]) (c [] b.2)) λb=>a8 i ((cK [.str ⟨#[]⟩,.int .i64 0,.int .i64 0] [(0,1,(.str ⟨#[112,97,116,116,101,114,110,115]⟩:J)),(1,1,(aI m 0)),(2,1,(.int .i64 1))]).bind λb=>(a_ 3 h (J.agg b) k).bind λb=>(ab true 3 h b).bind λc=>aL [.ah,.ah] e b [c,(.bool true)]) (b [] k)) λc=>a7 i false ((aq 1 j).bind λe=>(ab false 1 e k).bind λe=>(dh (.flat 6) e k).bind λe=>(b 116 [e.1,(J.func 117 [] [g])] e.2).bind λb=>c b.1 b.2) (c (.bool true) k)) λc=>a7 i false ((ab true 2 j k).bind λe=>(aq 0 g).bind λg=>(aq 2 g).bind λg=>(ab false 1 g k).bind λg=>(dh (.agg [.ah,(.flat 6)]) e k).bind λe=>(b 115 [e.1,g] e.2).bind λb=>(di .not b.1).bind λe=>c e b.2) (c (.bool true) k)) λb=>a7 k true ((aq 0 j).bind λc=>(ab false 1 c i).bind λc=>(aq 13 g).bind λe=>(aq 3 e).bind λe=>(ab false 1 e i).bind λe=>(ar .neq c e).bind λc=>b c i) (b (.bool false) i)) λb=>a8 k (b [] n) (l [] n)
def NF(b:aR)(c:Nat)(e:J)(g:U):bh:=bF (.ptr g.length 0) (g++[.box (b' e) 104 .rw]) λe h=>bF (.ptr h.length 0) (h++[.box [.str ⟨#[]⟩,.int .i64 0,.int .i64 0] 108 .rw]) λh i=>(aq 0 e).bind λj=>(aq 10 j).bind λj=>(ab false 1 j i).bind λj=>(bw false j).bind λj=>(aq 13 e).bind λk=>(aq 2 k).bind λk=>(ab false 1 k i).bind λk=>(b 54 [j,(.int .i64 1),k] i).bind λi=>(di .not i.1).bind λj=>aB (λ_ i=>(aq 0 e).bind λj=>(aq 10 j).bind λj=>(ab false 1 j i).bind λj=>(bw false j).bind λk=>aB (λ_ b=>(cK [.str ⟨#[]⟩,.int .i64 0,.int .i64 0] []).bind λc=>(a_ 3 h (J.agg c) b).bind λb=>(ab true 3 h b).bind λc=>aL [.ah,.ah] g b [c,(.bool false)]) λl=>cr (Ch b c g e h i j k l) c [(.int .i64 0)] i) λb=>a8 j ((cK [.str ⟨#[]⟩,.int .i64 0,.int .i64 0] [(0,1,(.str ⟨#[112,97,116,116,101,114,110,115]⟩:J)),(1,1,(.int .i64 0)),(2,1,(.int .i64 4))]).bind λb=>(a_ 3 h (J.agg b) i.2).bind λb=>(ab true 3 h b).bind λc=>aL [.ah,.ah] g b [c,(.bool true)]) (b [] i.2)
open Go.aN.G in
def Ci:bU:=⟨1,32,(S (R<|c9 1 104 0<|o 2 (.new 108 eH)<|cn 3<|z)<|
 (S (S (R<|f 5 0 1<|f 6 3 5<|l 7 6<|bS 8 7<|o 9 (.call 54 [(t 8),(i 1),(i 64)])<|dB 10 9<|z)<|
 (.cond (t 10) [] [3,11]
 (S (R<|o 11 (.build eH [(0,1,(.const (.string ⟨#[111,114,100,101,114,115]⟩))),(1,1,(i 0)),(2,1,(i 4))])<|bP 3 2 11<|gk 3<|z)<|
 .ret)
 .skip))<|
 (S (S (R<|f 12 0 1<|f 13 3 12<|l 14 13<|o 15 (.jW 122 [] [(t 1)])<|F 14 (.flat 1)<|dU 16 121 14 15<|m 4 16<|z)<|
 (S (R<|m 17 4<|b 18 .geq (t 17) (i 0)<|z)<|
 (.cond (t 18) [] [3,19,20]
 (S (R<|m 19 4<|o 20 (.build eH [(0,1,(.const (.string ⟨#[111,114,100,101,114,115]⟩))),(1,1,(t 19)),(2,1,(i 10))])<|bP 3 2 20<|gk 3<|z)<|
 .ret)
 .skip)))<|
 (S (R<|o 21 (.build eH [(0,1,(.const (.string ⟨#[114,101,115,116,97,114,116]⟩))),(1,1,(i 0)),(2,1,(i 5))])<|f 22 0 1<|f 23 4 22<|l 24 23<|f 25 0 1<|f 26 3 25<|l 27 26<|bS 28 27<|b 29 .sub (t 28) (i 1)<|o 30 (.call 54 [(t 24),(i 0),(t 29)])<|dB 31 30<|bP 3 2 21<|m 3 31<|z)<|
 .ret)))),[.cell 2 true 3,.tmp 3],[.ah,.ah]⟩
theorem YG:b5 70 Ci:=b7 Tryz.func70 rfl
def NG(b:aR)(c:Nat)(e:J)(g:U):bh:=bF (.ptr g.length 0) (g++[.box (b' e) 104 .rw]) λc e=>bF (.ptr e.length 0) (e++[.box [.str ⟨#[]⟩,.int .i64 0,.int .i64 0] 108 .rw]) λe h=>(aq 0 c).bind λi=>(aq 3 i).bind λi=>(ab false 1 i h).bind λi=>(bw false i).bind λi=>(b 54 [i,(.int .i64 1),(.int .i64 64)] h).bind λh=>(di .not h.1).bind λi=>aB (λ_ h=>(aq 0 c).bind λi=>(aq 3 i).bind λi=>(ab false 1 i h).bind λi=>(dh (.flat 1) i h).bind λh=>(b 121 [h.1,(J.func 122 [] [c])] h.2).bind λh=>(ar .geq h.1 (.int .i64 0)).bind λi=>aB (λ_ h=>(cK [.str ⟨#[]⟩,.int .i64 0,.int .i64 0] [(0,1,(.str ⟨#[114,101,115,116,97,114,116]⟩:J)),(1,1,(.int .i64 0)),(2,1,(.int .i64 5))]).bind λi=>(aq 0 c).bind λj=>(aq 4 j).bind λj=>(ab false 1 j h).bind λj=>(aq 0 c).bind λc=>(aq 3 c).bind λc=>(ab false 1 c h).bind λc=>(bw false c).bind λc=>(ar .sub c (.int .i64 1)).bind λc=>(b 54 [j,(.int .i64 0),c] h).bind λb=>(di .not b.1).bind λc=>(a_ 3 e (J.agg i) b.2).bind λb=>(ab true 3 e b).bind λe=>aL [.ah,.ah] g b [e,c]) λb=>a8 i ((cK [.str ⟨#[]⟩,.int .i64 0,.int .i64 0] [(0,1,(.str ⟨#[111,114,100,101,114,115]⟩:J)),(1,1,h.1),(2,1,(.int .i64 10))]).bind λb=>(a_ 3 e (J.agg b) h.2).bind λb=>(ab true 3 e b).bind λc=>aL [.ah,.ah] g b [c,(.bool true)]) (b [] h.2)) λb=>a8 i ((cK [.str ⟨#[]⟩,.int .i64 0,.int .i64 0] [(0,1,(.str ⟨#[111,114,100,101,114,115]⟩:J)),(1,1,(.int .i64 0)),(2,1,(.int .i64 4))]).bind λb=>(a_ 3 e (J.agg b) h.2).bind λb=>(ab true 3 e b).bind λc=>aL [.ah,.ah] g b [c,(.bool true)]) (b [] h.2)
open Go.aN.G in
def Cj:bU:=⟨1,55,(S (R<|c9 1 104 0<|o 2 (.new 108 eH)<|cn 3<|z)<|
 (S (.block 0 [] ([3]++g 5 42)
 (S (R<|f 6 0 1<|f 7 5 6<|l 8 7<|o 9 (.call 54 [(t 8),(i 1),(i 31)])<|dB 10 9<|m 5 10<|z)<|
 (.cond (t 5) [] ([3]++g 11 36)
 (S (R<|o 11 (.build eH [(0,1,(.const (.string ⟨#[115,112,101,101,100]⟩))),(1,1,(i 0)),(2,1,(i 5))])<|bP 3 2 11<|gk 3<|z)<|
 .ret)
 (S (R<|f 13 0 1<|f 14 6 13<|l 15 14<|o 16 (.call 54 [(t 15),(i 32),(i 255)])<|dB 17 16<|m 12 17<|z)<|
 (.cond (t 12) [] ([3]++g 18 29)
 (S (R<|o 18 (.build eH [(0,1,(.const (.string ⟨#[116,101,109,112,111]⟩))),(1,1,(i 0)),(2,1,(i 5))])<|bP 3 2 18<|gk 3<|z)<|
 .ret)
 (S (R<|f 20 0 1<|f 21 7 20<|l 22 21<|o 23 (.call 54 [(t 22),(i 0),(i 128)])<|dB 24 23<|m 19 24<|z)<|
 (.cond (t 19) [] ([3]++g 25 22)
 (S (R<|o 25 (.build eH [(0,1,(.const (.string ⟨#[103,108,111,98,97,108]⟩))),(1,1,(i 0)),(2,1,(i 5))])<|bP 3 2 25<|gk 3<|z)<|
 .ret)
 (S (R<|f 27 0 1<|f 28 8 27<|l 29 28<|m 30 29<|q 35 30 true (g 31 4) (f 31 13 1<|f 32 8 31<|l 33 32<|dB 34 33<|z) (t 34)<|
 m 26 35<|z)<|
 (.cond (t 26) [] ([3]++g 36 11)
 (S (R<|o 36 (.build eH [(0,1,(.const (.string ⟨#[108,105,110,101,97,114]⟩))),(1,1,(i 0)),(2,1,(i 6))])<|bP 3 2 36<|gk 3<|z)<|
 .ret)
 (S (R<|f 38 0 1<|f 39 9 38<|l 40 39<|bS 41 40<|f 42 0 1<|f 43 2 42<|l 44 43<|b 45 .neq (t 41) (t 44)<|m 37 45<|z)<|
 (.cond (t 37) [] [3,46]
 (S (R<|o 46 (.build eH [(0,1,(.const (.string ⟨#[112,97,110,115]⟩))),(1,1,(i 0)),(2,1,(i 4))])<|bP 3 2 46<|gk 3<|z)<|
 .ret)
 .skip)))))))))))<|
 (S (R<|f 47 0 1<|f 48 9 47<|l 49 48<|o 50 (.call 121 [(t 49),(.func 123)])<|m 4 50<|z)<|
 (S (R<|m 51 4<|o 52 (.build eH [(0,1,(.const (.string ⟨#[112,97,110,115]⟩))),(1,1,(t 51)),(2,1,(i 5))])<|m 53 4<|b 54 .geq (t 53) (i 0)<|bP 3 2 52<|m 3 54<|z)<|
 .ret)))),[.cell 2 true 3,.tmp 3],[.ah,.ah]⟩
theorem YH:b5 71 Cj:=b7 Tryz.func71 rfl
def NH(b:aR)(c:Nat)(e:J)(g:U):bh:=bF (.ptr g.length 0) (g++[.box (b' e) 104 .rw]) λc e=>bF (.ptr e.length 0) (e++[.box [.str ⟨#[]⟩,.int .i64 0,.int .i64 0] 108 .rw]) λe h=>aB (λ_ h=>(aq 0 c).bind λc=>(aq 9 c).bind λc=>(ab false 1 c h).bind λc=>(b 121 [c,(J.func 123 [] [])] h).bind λb=>(cK [.str ⟨#[]⟩,.int .i64 0,.int .i64 0] [(0,1,(.str ⟨#[112,97,110,115]⟩:J)),(1,1,b.1),(2,1,(.int .i64 5))]).bind λc=>(ar .geq b.1 (.int .i64 0)).bind λh=>(a_ 3 e (J.agg c) b.2).bind λb=>(ab true 3 e b).bind λc=>aL [.ah,.ah] g b [c,h]) λi=>(aq 0 c).bind λj=>(aq 5 j).bind λj=>(ab false 1 j h).bind λj=>(b 54 [j,(.int .i64 1),(.int .i64 31)] h).bind λh=>(di .not h.1).bind λj=>aB (λ_ b=>i [] b) λi=>a8 j ((cK [.str ⟨#[]⟩,.int .i64 0,.int .i64 0] [(0,1,(.str ⟨#[115,112,101,101,100]⟩:J)),(1,1,(.int .i64 0)),(2,1,(.int .i64 5))]).bind λb=>(a_ 3 e (J.agg b) h.2).bind λb=>(ab true 3 e b).bind λc=>aL [.ah,.ah] g b [c,(.bool true)]) ((aq 0 c).bind λj=>(aq 6 j).bind λj=>(ab false 1 j h.2).bind λj=>(b 54 [j,(.int .i64 32),(.int .i64 255)] h.2).bind λh=>(di .not h.1).bind λj=>aB (λ_ b=>i [] b) λi=>a8 j ((cK [.str ⟨#[]⟩,.int .i64 0,.int .i64 0] [(0,1,(.str ⟨#[116,101,109,112,111]⟩:J)),(1,1,(.int .i64 0)),(2,1,(.int .i64 5))]).bind λb=>(a_ 3 e (J.agg b) h.2).bind λb=>(ab true 3 e b).bind λc=>aL [.ah,.ah] g b [c,(.bool true)]) ((aq 0 c).bind λj=>(aq 7 j).bind λj=>(ab false 1 j h.2).bind λj=>(b 54 [j,(.int .i64 0),(.int .i64 128)] h.2).bind λb=>(di .not b.1).bind λh=>aB (λ_ b=>i [] b) λi=>a8 h ((cK [.str ⟨#[]⟩,.int .i64 0,.int .i64 0] [(0,1,(.str ⟨#[103,108,111,98,97,108]⟩:J)),(1,1,(.int .i64 0)),(2,1,(.int .i64 5))]).bind λc=>(a_ 3 e (J.agg c) b.2).bind λb=>(ab true 3 e b).bind λc=>aL [.ah,.ah] g b [c,(.bool true)]) ((aq 0 c).bind λh=>(aq 8 h).bind λh=>(ab false 1 h b.2).bind λh=>a6 (λb h=>aB (λ_ b=>i [] b) λi=>a8 b ((cK [.str ⟨#[]⟩,.int .i64 0,.int .i64 0] [(0,1,(.str ⟨#[108,105,110,101,97,114]⟩:J)),(1,1,(.int .i64 0)),(2,1,(.int .i64 6))]).bind λb=>(a_ 3 e (J.agg b) h).bind λb=>(ab true 3 e b).bind λc=>aL [.ah,.ah] g b [c,(.bool true)]) ((aq 0 c).bind λb=>(aq 9 b).bind λb=>(ab false 1 b h).bind λb=>(bw false b).bind λb=>(aq 0 c).bind λc=>(aq 2 c).bind λc=>(ab false 1 c h).bind λc=>(ar .neq b c).bind λb=>aB (λ_ b=>i [] b) λc=>a8 b ((cK [.str ⟨#[]⟩,.int .i64 0,.int .i64 0] [(0,1,(.str ⟨#[112,97,110,115]⟩:J)),(1,1,(.int .i64 0)),(2,1,(.int .i64 4))]).bind λb=>(a_ 3 e (J.agg b) h).bind λb=>(ab true 3 e b).bind λc=>aL [.ah,.ah] g b [c,(.bool true)]) (c [] h))) λe=>a7 h true ((aq 13 c).bind λc=>(aq 8 c).bind λc=>(ab false 1 c b.2).bind λc=>(di .not c).bind λc=>e c b.2) (e (.bool false) b.2))))
open Go.aN.G in
def Ck:bU:=⟨1,75,(S (R<|c9 1 104 0<|o 2 (.new 108 eH)<|cn 3<|z)<|
 (S (S (R<|f 7 0 1<|f 8 11 7<|l 9 8<|bS 10 9<|b 11 .gtr (t 10) (i 31)<|m 12 11<|q 24 12 false (g 13 5++[23]++g 18 5) (f 13 0 1<|f 14 1 13<|l 15 14<|b 16 .eql (t 15) (i 6)<|m 17 16<|q 23 17 true (g 18 5) (f 18 0 1<|f 19 11 18<|l 20 19<|bS 21 20<|b 22 .gtr (t 21) (i 0)<|z) (t 22)<|
 z) (t 23)<|
 z)<|
 (.cond (t 24) [] [3,25]
 (S (R<|o 25 (.build eH [(0,1,(.const (.string ⟨#[115,97,109,112,108,101,115]⟩))),(1,1,(i 0)),(2,1,(i 4))])<|bP 3 2 25<|gk 3<|z)<|
 .ret)
 .skip))<|
 (S (S (R<|f 26 0 1<|f 27 11 26<|l 28 27<|F 28 (.bO 13 MU)<|o 29 (.call 124 [(t 28),(.func 125)])<|m 4 29<|z)<|
 (S (R<|m 30 4<|b 31 .geq (t 30) (i 0)<|z)<|
 (.cond (t 31) [] [3,32,33]
 (S (R<|m 32 4<|o 33 (.build eH [(0,1,(.const (.string ⟨#[115,97,109,112,108,101,115]⟩))),(1,1,(t 32)),(2,1,(i 1))])<|bP 3 2 33<|gk 3<|z)<|
 .ret)
 .skip)))<|
 (S (S (R<|f 34 0 1<|f 35 12 34<|l 36 35<|bS 37 36<|b 38 .gtr (t 37) (i 31)<|m 39 38<|q 51 39 false (g 40 5++[50]++g 45 5) (f 40 13 1<|f 41 6 40<|l 42 41<|dB 43 42<|m 44 43<|q 50 44 true (g 45 5) (f 45 0 1<|f 46 12 45<|l 47 46<|bS 48 47<|b 49 .gtr (t 48) (i 0)<|z) (t 49)<|
 z) (t 50)<|
 z)<|
 (.cond (t 51) [] [3,52]
 (S (R<|o 52 (.build eH [(0,1,(.const (.string ⟨#[105,110,115,116,115]⟩))),(1,1,(i 0)),(2,1,(i 4))])<|bP 3 2 52<|gk 3<|z)<|
 .ret)
 .skip))<|
 (S (S (R<|f 53 0 1<|f 54 12 53<|l 55 54<|bS 56 55<|b3 57 0<|z)<|
 (.block 0 [] ([3,5,6]++g 57 17)
 (.loop [57] ([3,5,6]++g 58 16)
 (S (R<|b 58 .lss (t 57) (t 56)<|z)<|
 (S (.cond (t 58) [] []
 .skip
 (.exit 0))<|
 (S (.block 1 [] ([3,5,6]++g 59 14)
 (S (R<|m 59 57<|cu 60 33 55 57<|bM 61 33 60<|o 6 (.new 57 rm)<|m 5 59<|bP 33 6 61<|z)<|
 (S (S (R<|bM 62 33 6<|F 62 (.agg HP)<|dA 63 127 62<|dB 64 63<|z)<|
 (.cond (t 64) [] [3,65,66]
 (S (R<|m 65 5<|o 66 (.build eH [(0,1,(.const (.string ⟨#[105,110,115,116,115]⟩))),(1,1,(t 65)),(2,1,(i 1))])<|bP 3 2 66<|gk 3<|z)<|
 .ret)
 .skip))<|
 (S (R<|f 67 1 6<|l 68 67<|o 69 (.jW 129 [] [(t 1)])<|F 68 (.flat 2)<|dU 70 128 68 69<|z)<|
 (.cond (t 70) [] [3,71,72]
 (S (R<|m 71 5<|o 72 (.build eH [(0,1,(.const (.string ⟨#[105,110,115,116,115]⟩))),(1,1,(t 71)),(2,1,(i 10))])<|bP 3 2 72<|gk 3<|z)<|
 .ret)
 .skip)))))<|
 (R<|b 73 .add (t 57) (i 1)<|m 57 73<|z)))))))<|
 (S (R<|o 74 (.build eH [])<|bP 3 2 74<|cn 3<|z)<|
 .ret)))))),[.cell 2 true 3,.tmp 3],[.ah,.ah]⟩
theorem YI:b5 72 Ck:=b7 Tryz.func72 rfl
def Cl(b:aR)(c:Nat)(e:U)(g h:J)(i:U)(j k:J)(l:bb):(bb)->bb:=λc m n=>(ar .lss (aI m 0) k).bind λk=>aB (λ_ k=>aB (λ_ b=>(ar .add (aI m 0) (.int .i64 1)).bind λe=>c [e] (trim i [e] b)) λc=>(bW 33 j (aI m 0)).bind λi=>(ab true 33 i k).bind λi=>bF (.ptr k.length 0) (k++[.box h0 57 .rw]) λj k=>(a_ 33 j i k).bind λi=>(ab true 33 j i).bind λk=>(dh (.agg HP) k i).bind λi=>(b 127 [i.1] i.2).bind λi=>(di .not i.1).bind λk=>aB (λ_ i=>(aq 1 j).bind λj=>(ab false 1 j i).bind λj=>(dh (.flat 2) j i).bind λi=>(b 128 [i.1,(J.func 129 [] [g])] i.2).bind λb=>aB (λ_ b=>c [] b) λc=>a8 b.1 ((cK [.str ⟨#[]⟩,.int .i64 0,.int .i64 0] [(0,1,(.str ⟨#[105,110,115,116,115]⟩:J)),(1,1,(aI m 0)),(2,1,(.int .i64 10))]).bind λc=>(a_ 3 h (J.agg c) b.2).bind λb=>(ab true 3 h b).bind λc=>aL [.ah,.ah] e b [c,(.bool true)]) (c [] b.2)) λb=>a8 k ((cK [.str ⟨#[]⟩,.int .i64 0,.int .i64 0] [(0,1,(.str ⟨#[105,110,115,116,115]⟩:J)),(1,1,(aI m 0)),(2,1,(.int .i64 1))]).bind λb=>(a_ 3 h (J.agg b) i.2).bind λb=>(ab true 3 h b).bind λc=>aL [.ah,.ah] e b [c,(.bool true)]) (b [] i.2)) λb=>a8 k (b [] n) (l [] n)
def NI(b:aR)(c:Nat)(e:J)(g:U):bh:=bF (.ptr g.length 0) (g++[.box (b' e) 104 .rw]) λe h=>bF (.ptr h.length 0) (h++[.box [.str ⟨#[]⟩,.int .i64 0,.int .i64 0] 108 .rw]) λh i=>(aq 0 e).bind λj=>(aq 11 j).bind λj=>(ab false 1 j i).bind λj=>(bw false j).bind λj=>(ar .gtr j (.int .i64 31)).bind λj=>a6 (λi j=>aB (λ_ i=>(aq 0 e).bind λj=>(aq 11 j).bind λj=>(ab false 1 j i).bind λj=>(dh (.bO 13 MU) j i).bind λi=>(b 124 [i.1,(J.func 125 [] [])] i.2).bind λi=>(ar .geq i.1 (.int .i64 0)).bind λj=>aB (λ_ i=>(aq 0 e).bind λj=>(aq 12 j).bind λj=>(ab false 1 j i).bind λj=>(bw false j).bind λj=>(ar .gtr j (.int .i64 31)).bind λj=>a6 (λi j=>aB (λ_ i=>(aq 0 e).bind λj=>(aq 12 j).bind λj=>(ab false 1 j i).bind λj=>(bw false j).bind λk=>aB (λ_ b=>(cK [.str ⟨#[]⟩,.int .i64 0,.int .i64 0] []).bind λc=>(a_ 3 h (J.agg c) b).bind λb=>(ab true 3 h b).bind λc=>aL [.ah,.ah] g b [c,(.bool false)]) λl=>cr (Cl b c g e h i j k l) c [(.int .i64 0)] i) λb=>a8 i ((cK [.str ⟨#[]⟩,.int .i64 0,.int .i64 0] [(0,1,(.str ⟨#[105,110,115,116,115]⟩:J)),(1,1,(.int .i64 0)),(2,1,(.int .i64 4))]).bind λb=>(a_ 3 h (J.agg b) j).bind λb=>(ab true 3 h b).bind λc=>aL [.ah,.ah] g b [c,(.bool true)]) (b [] j)) λb=>a7 j false ((aq 13 e).bind λc=>(aq 6 c).bind λc=>(ab false 1 c i).bind λc=>(di .not c).bind λc=>a6 (λc e=>b c e) λb=>a7 c true ((aq 0 e).bind λc=>(aq 12 c).bind λc=>(ab false 1 c i).bind λc=>(bw false c).bind λc=>(ar .gtr c (.int .i64 0)).bind λc=>b c i) (b (.bool false) i)) (b (.bool true) i)) λb=>a8 j ((cK [.str ⟨#[]⟩,.int .i64 0,.int .i64 0] [(0,1,(.str ⟨#[115,97,109,112,108,101,115]⟩:J)),(1,1,i.1),(2,1,(.int .i64 1))]).bind λb=>(a_ 3 h (J.agg b) i.2).bind λb=>(ab true 3 h b).bind λc=>aL [.ah,.ah] g b [c,(.bool true)]) (b [] i.2)) λb=>a8 i ((cK [.str ⟨#[]⟩,.int .i64 0,.int .i64 0] [(0,1,(.str ⟨#[115,97,109,112,108,101,115]⟩:J)),(1,1,(.int .i64 0)),(2,1,(.int .i64 4))]).bind λb=>(a_ 3 h (J.agg b) j).bind λb=>(ab true 3 h b).bind λc=>aL [.ah,.ah] g b [c,(.bool true)]) (b [] j)) λb=>a7 j false ((aq 0 e).bind λc=>(aq 1 c).bind λc=>(ab false 1 c i).bind λc=>(ar .eql c (.int .i64 6)).bind λc=>a6 (λc e=>b c e) λb=>a7 c true ((aq 0 e).bind λc=>(aq 11 c).bind λc=>(ab false 1 c i).bind λc=>(bw false c).bind λc=>(ar .gtr c (.int .i64 0)).bind λc=>b c i) (b (.bool false) i)) (b (.bool true) i)
open Go.aN.G in
def Cm:bU:=⟨2,26,(S (R<|cn 4<|z)<|
 (S (S (R<|m 6 0<|bS 7 6<|m 8 1<|bS 9 8<|b 10 .neq (t 7) (t 9)<|z)<|
 (.cond (t 10) [] [4]
 (S (R<|cn 4<|z)<|
 .ret)
 .skip))<|
 (S (S (R<|m 11 0<|bS 12 11<|b3 13 0<|z)<|
 (.block 0 [] ([4,5]++g 13 13)
 (.loop [13] ([4,5]++g 14 12)
 (S (R<|b 14 .lss (t 13) (t 12)<|z)<|
 (S (.cond (t 14) [] []
 .skip
 (.exit 0))<|
 (S (.block 1 [] ([4,5]++g 15 10)
 (S (R<|m 15 13<|m 5 15<|z)<|
 (S (D<|m 16 0<|m 17 5<|cu 18 6 16 17<|bM 19 6 18<|m 20 1<|m 21 5<|cu 22 6 20 21<|bM 23 6 22<|o 24 (.nC [.int,.int,.int,.int,.int,.int] true (t 19) (t 23))<|z)<|
 (.cond (t 24) [] [4]
 (S (R<|cn 4<|z)<|
 .ret)
 .skip))))<|
 (R<|b 25 .add (t 13) (i 1)<|m 13 25<|z)))))))<|
 (S (R<|gk 4<|z)<|
 .ret)))),[.tmp 4],[.ah]⟩
theorem YJ:b5 73 Cm:=b7 Tryz.func73 rfl
def Cn(b:aR)(c:Nat)(e g:J)(h i:U)(j:J)(k:bb):(bb)->bb:=λb c l=>(ar .lss (aI c 0) j).bind λj=>aB (λ_ j=>aB (λ_ e=>(ar .add (aI c 0) (.int .i64 1)).bind λc=>b [c] (trim i [c] e)) λb=>(bW 6 e (aI c 0)).bind λe=>(ab true 6 e j).bind λe=>(bW 6 g (aI c 0)).bind λc=>(ab true 6 c j).bind λc=>(lu [.int,.int,.int,.int,.int,.int] true e c).bind λc=>aB (λ_ c=>b [] c) λb=>a8 c (aL [.ah] h j [(.bool false)]) (b [] j)) λb=>a8 j (b [] l) (k [] l)
def NJ(b:aR)(c:Nat)(e g:J)(h:U):bh:=(bw false e).bind λi=>(bw false g).bind λj=>(ar .neq i j).bind λi=>aB (λ_ i=>(bw false e).bind λj=>aB (λ_ b=>aL [.ah] h b [(.bool true)]) λk=>cr (Cn b c e g h i j k) c [(.int .i64 0)] i) λb=>a8 i (aL [.ah] h h [(.bool false)]) (b [] h)
open Go.aN.G in
def Co:bU:=⟨2,26,(S (R<|cn 4<|z)<|
 (S (S (R<|m 6 0<|bS 7 6<|m 8 1<|bS 9 8<|b 10 .neq (t 7) (t 9)<|z)<|
 (.cond (t 10) [] [4]
 (S (R<|cn 4<|z)<|
 .ret)
 .skip))<|
 (S (S (R<|m 11 0<|bS 12 11<|b3 13 0<|z)<|
 (.block 0 [] ([4,5]++g 13 13)
 (.loop [13] ([4,5]++g 14 12)
 (S (R<|b 14 .lss (t 13) (t 12)<|z)<|
 (S (.cond (t 14) [] []
 .skip
 (.exit 0))<|
 (S (.block 1 [] ([4,5]++g 15 10)
 (S (R<|m 15 13<|m 5 15<|z)<|
 (S (D<|m 16 0<|m 17 5<|cu 18 2 16 17<|bM 19 2 18<|m 20 1<|m 21 5<|cu 22 2 20 21<|bM 23 2 22<|o 24 (.nC [.int,.int] true (t 19) (t 23))<|z)<|
 (.cond (t 24) [] [4]
 (S (R<|cn 4<|z)<|
 .ret)
 .skip))))<|
 (R<|b 25 .add (t 13) (i 1)<|m 13 25<|z)))))))<|
 (S (R<|gk 4<|z)<|
 .ret)))),[.tmp 4],[.ah]⟩
theorem YK:b5 74 Co:=b7 Tryz.func74 rfl
def Cp(b:aR)(c:Nat)(e g:J)(h i:U)(j:J)(k:bb):(bb)->bb:=λb c l=>(ar .lss (aI c 0) j).bind λj=>aB (λ_ j=>aB (λ_ e=>(ar .add (aI c 0) (.int .i64 1)).bind λc=>b [c] (trim i [c] e)) λb=>(bW 2 e (aI c 0)).bind λe=>(ab true 2 e j).bind λe=>(bW 2 g (aI c 0)).bind λc=>(ab true 2 c j).bind λc=>(lu [.int,.int] true e c).bind λc=>aB (λ_ c=>b [] c) λb=>a8 c (aL [.ah] h j [(.bool false)]) (b [] j)) λb=>a8 j (b [] l) (k [] l)
def NK(b:aR)(c:Nat)(e g:J)(h:U):bh:=(bw false e).bind λi=>(bw false g).bind λj=>(ar .neq i j).bind λi=>aB (λ_ i=>(bw false e).bind λj=>aB (λ_ b=>aL [.ah] h b [(.bool true)]) λk=>cr (Cp b c e g h i j k) c [(.int .i64 0)] i) λb=>a8 i (aL [.ah] h h [(.bool false)]) (b [] h)
open Go.aN.G in
def Cq:bU:=⟨2,59,(S (R<|c9 2 55 0<|c9 3 55 1<|cn 4<|z)<|
 (S (R<|f 5 1 2<|l 6 5<|f 7 1 3<|l 8 7<|dU 9 130 6 8<|m 10 9<|q 16 10 true (g 11 5) (f 11 0 2<|l 12 11<|f 13 0 3<|l 14 13<|o 15 (.mQ false (t 12) (t 14))<|z) (t 15)<|
 m 17 16<|q 23 17 true (g 18 5) (f 18 2 2<|l 19 18<|f 20 2 3<|l 21 20<|o 22 (.mQ false (t 19) (t 21))<|z) (t 22)<|
 m 24 23<|q 30 24 true (g 25 5) (f 25 3 2<|l 26 25<|f 27 3 3<|l 28 27<|b 29 .eql (t 26) (t 28)<|z) (t 29)<|
 m 31 30<|q 37 31 true (g 32 5) (f 32 4 2<|l 33 32<|f 34 4 3<|l 35 34<|b 36 .eql (t 33) (t 35)<|z) (t 36)<|
 m 38 37<|q 44 38 true (g 39 5) (f 39 5 2<|l 40 39<|f 41 5 3<|l 42 41<|o 43 (.mQ false (t 40) (t 42))<|z) (t 43)<|
 m 45 44<|q 51 45 true (g 46 5) (f 46 6 2<|l 47 46<|f 48 6 3<|l 49 48<|b 50 .eql (t 47) (t 49)<|z) (t 50)<|
 m 52 51<|q 58 52 true (g 53 5) (f 53 7 2<|l 54 53<|f 55 7 3<|l 56 55<|b 57 .eql (t 54) (t 56)<|z) (t 57)<|
 m 4 58<|z)<|
 .ret)),[.tmp 4],[.ah]⟩
theorem YL:b5 75 Cq:=b7 Tryz.func75 rfl
def NL(b:aR)(c:Nat)(e g:J)(h:U):bh:=bF (.ptr h.length 0) (h++[.box (b' e) 55 .rw]) λc e=>bF (.ptr e.length 0) (e++[.box (b' g) 55 .rw]) λe g=>(aq 1 c).bind λi=>(ab false 1 i g).bind λi=>(aq 1 e).bind λj=>(ab false 1 j g).bind λj=>(b 130 [i,j] g).bind λb=>a6 (λb g=>a6 (λb g=>a6 (λb g=>a6 (λb g=>a6 (λb g=>a6 (λb g=>a6 (λb c=>aL [.ah] h c [b]) λh=>a7 b true ((aq 7 c).bind λb=>(ab false 1 b g).bind λb=>(aq 7 e).bind λc=>(ab false 1 c g).bind λc=>(ar .eql b c).bind λb=>h b g) (h (.bool false) g)) λh=>a7 b true ((aq 6 c).bind λb=>(ab false 1 b g).bind λb=>(aq 6 e).bind λc=>(ab false 1 c g).bind λc=>(ar .eql b c).bind λb=>h b g) (h (.bool false) g)) λh=>a7 b true ((aq 5 c).bind λb=>(ab false 1 b g).bind λb=>(aq 5 e).bind λc=>(ab false 1 c g).bind λc=>(nO false b c).bind λb=>h b g) (h (.bool false) g)) λh=>a7 b true ((aq 4 c).bind λb=>(ab false 1 b g).bind λb=>(aq 4 e).bind λc=>(ab false 1 c g).bind λc=>(ar .eql b c).bind λb=>h b g) (h (.bool false) g)) λh=>a7 b true ((aq 3 c).bind λb=>(ab false 1 b g).bind λb=>(aq 3 e).bind λc=>(ab false 1 c g).bind λc=>(ar .eql b c).bind λb=>h b g) (h (.bool false) g)) λh=>a7 b true ((aq 2 c).bind λb=>(ab false 1 b g).bind λb=>(aq 2 e).bind λc=>(ab false 1 c g).bind λc=>(nO false b c).bind λb=>h b g) (h (.bool false) g)) λg=>a7 b.1 true ((aq 0 c).bind λc=>(ab false 1 c b.2).bind λc=>(aq 0 e).bind λe=>(ab false 1 e b.2).bind λe=>(nO false c e).bind λc=>g c b.2) (g (.bool false) b.2)
open Go.aN.G in
def Cr:bU:=⟨2,17,(S (R<|c9 2 39 0<|c9 3 39 1<|cn 4<|z)<|
 (S (R<|f 5 0 2<|l 6 5<|f 7 0 3<|l 8 7<|b 9 .eql (t 6) (t 8)<|m 10 9<|q 16 10 true (g 11 5) (f 11 1 2<|l 12 11<|f 13 1 3<|l 14 13<|dU 15 131 12 14<|z) (t 15)<|
 m 4 16<|z)<|
 .ret)),[.tmp 4],[.ah]⟩
theorem YM:b5 76 Cr:=b7 Tryz.func76 rfl
def NM(b:aR)(c:Nat)(e g:J)(h:U):bh:=bF (.ptr h.length 0) (h++[.box (b' e) 39 .rw]) λc e=>bF (.ptr e.length 0) (e++[.box (b' g) 39 .rw]) λe g=>(aq 0 c).bind λi=>(ab false 1 i g).bind λi=>(aq 0 e).bind λj=>(ab false 1 j g).bind λj=>(ar .eql i j).bind λi=>a6 (λb c=>aL [.ah] h c [b]) λh=>a7 i true ((aq 1 c).bind λc=>(ab false 1 c g).bind λc=>(aq 1 e).bind λe=>(ab false 1 e g).bind λe=>(b 131 [c,e] g).bind λb=>h b.1 b.2) (h (.bool false) g)
open Go.aN.G in
def Cs:bU:=⟨2,94,(S (R<|c9 2 43 0<|c9 3 43 1<|cn 4<|z)<|
 (S (R<|f 5 1 2<|l 6 5<|f 7 1 3<|l 8 7<|dU 9 33 6 8<|m 10 9<|q 16 10 true (g 11 5) (f 11 0 2<|l 12 11<|f 13 0 3<|l 14 13<|b 15 .eql (t 12) (t 14)<|z) (t 15)<|
 m 17 16<|q 23 17 true (g 18 5) (f 18 2 2<|l 19 18<|f 20 2 3<|l 21 20<|b 22 .eql (t 19) (t 21)<|z) (t 22)<|
 m 24 23<|q 30 24 true (g 25 5) (f 25 3 2<|l 26 25<|f 27 3 3<|l 28 27<|b 29 .eql (t 26) (t 28)<|z) (t 29)<|
 m 31 30<|q 37 31 true (g 32 5) (f 32 4 2<|l 33 32<|f 34 4 3<|l 35 34<|b 36 .eql (t 33) (t 35)<|z) (t 36)<|
 m 38 37<|q 44 38 true (g 39 5) (f 39 5 2<|l 40 39<|f 41 5 3<|l 42 41<|b 43 .eql (t 40) (t 42)<|z) (t 43)<|
 m 45 44<|q 51 45 true (g 46 5) (f 46 6 2<|l 47 46<|f 48 6 3<|l 49 48<|b 50 .eql (t 47) (t 49)<|z) (t 50)<|
 m 52 51<|q 58 52 true (g 53 5) (f 53 7 2<|l 54 53<|f 55 7 3<|l 56 55<|b 57 .eql (t 54) (t 56)<|z) (t 57)<|
 m 59 58<|q 65 59 true (g 60 5) (f 60 8 2<|l 61 60<|f 62 8 3<|l 63 62<|b 64 .eql (t 61) (t 63)<|z) (t 64)<|
 m 66 65<|q 72 66 true (g 67 5) (f 67 9 2<|l 68 67<|f 69 9 3<|l 70 69<|b 71 .eql (t 68) (t 70)<|z) (t 71)<|
 m 73 72<|q 79 73 true (g 74 5) (f 74 10 2<|l 75 74<|f 76 10 3<|l 77 76<|b 78 .eql (t 75) (t 77)<|z) (t 78)<|
 m 80 79<|q 86 80 true (g 81 5) (f 81 11 2<|l 82 81<|f 83 11 3<|l 84 83<|b 85 .eql (t 82) (t 84)<|z) (t 85)<|
 m 87 86<|q 93 87 true (g 88 5) (f 88 12 2<|l 89 88<|f 90 12 3<|l 91 90<|b 92 .eql (t 89) (t 91)<|z) (t 92)<|
 m 4 93<|z)<|
 .ret)),[.tmp 4],[.ah]⟩
theorem YN:b5 77 Cs:=b7 Tryz.func77 rfl
def NN(b:aR)(c:Nat)(e g:J)(h:U):bh:=bF (.ptr h.length 0) (h++[.box (b' e) 43 .rw]) λc e=>bF (.ptr e.length 0) (e++[.box (b' g) 43 .rw]) λe g=>(aq 1 c).bind λi=>(ab false 1 i g).bind λi=>(aq 1 e).bind λj=>(ab false 1 j g).bind λj=>(b 33 [i,j] g).bind λb=>a6 (λb g=>a6 (λb g=>a6 (λb g=>a6 (λb g=>a6 (λb g=>a6 (λb g=>a6 (λb g=>a6 (λb g=>a6 (λb g=>a6 (λb g=>a6 (λb g=>a6 (λb c=>aL [.ah] h c [b]) λh=>a7 b true ((aq 12 c).bind λb=>(ab false 1 b g).bind λb=>(aq 12 e).bind λc=>(ab false 1 c g).bind λc=>(ar .eql b c).bind λb=>h b g) (h (.bool false) g)) λh=>a7 b true ((aq 11 c).bind λb=>(ab false 1 b g).bind λb=>(aq 11 e).bind λc=>(ab false 1 c g).bind λc=>(ar .eql b c).bind λb=>h b g) (h (.bool false) g)) λh=>a7 b true ((aq 10 c).bind λb=>(ab false 1 b g).bind λb=>(aq 10 e).bind λc=>(ab false 1 c g).bind λc=>(ar .eql b c).bind λb=>h b g) (h (.bool false) g)) λh=>a7 b true ((aq 9 c).bind λb=>(ab false 1 b g).bind λb=>(aq 9 e).bind λc=>(ab false 1 c g).bind λc=>(ar .eql b c).bind λb=>h b g) (h (.bool false) g)) λh=>a7 b true ((aq 8 c).bind λb=>(ab false 1 b g).bind λb=>(aq 8 e).bind λc=>(ab false 1 c g).bind λc=>(ar .eql b c).bind λb=>h b g) (h (.bool false) g)) λh=>a7 b true ((aq 7 c).bind λb=>(ab false 1 b g).bind λb=>(aq 7 e).bind λc=>(ab false 1 c g).bind λc=>(ar .eql b c).bind λb=>h b g) (h (.bool false) g)) λh=>a7 b true ((aq 6 c).bind λb=>(ab false 1 b g).bind λb=>(aq 6 e).bind λc=>(ab false 1 c g).bind λc=>(ar .eql b c).bind λb=>h b g) (h (.bool false) g)) λh=>a7 b true ((aq 5 c).bind λb=>(ab false 1 b g).bind λb=>(aq 5 e).bind λc=>(ab false 1 c g).bind λc=>(ar .eql b c).bind λb=>h b g) (h (.bool false) g)) λh=>a7 b true ((aq 4 c).bind λb=>(ab false 1 b g).bind λb=>(aq 4 e).bind λc=>(ab false 1 c g).bind λc=>(ar .eql b c).bind λb=>h b g) (h (.bool false) g)) λh=>a7 b true ((aq 3 c).bind λb=>(ab false 1 b g).bind λb=>(aq 3 e).bind λc=>(ab false 1 c g).bind λc=>(ar .eql b c).bind λb=>h b g) (h (.bool false) g)) λh=>a7 b true ((aq 2 c).bind λb=>(ab false 1 b g).bind λb=>(aq 2 e).bind λc=>(ab false 1 c g).bind λc=>(ar .eql b c).bind λb=>h b g) (h (.bool false) g)) λg=>a7 b.1 true ((aq 0 c).bind λc=>(ab false 1 c b.2).bind λc=>(aq 0 e).bind λe=>(ab false 1 e b.2).bind λe=>(ar .eql c e).bind λc=>g c b.2) (g (.bool false) b.2)
open Go.aN.G in
def Ct:bU:=⟨2,87,(S (R<|c9 2 57 0<|c9 3 57 1<|cn 4<|z)<|
 (S (R<|f 5 1 2<|l 6 5<|f 7 1 3<|l 8 7<|dU 9 132 6 8<|m 10 9<|q 16 10 true (g 11 5) (f 11 2 2<|bM 12 8 11<|f 13 2 3<|bM 14 8 13<|dU 15 133 12 14<|z) (t 15)<|
 m 17 16<|q 23 17 true (g 18 5) (f 18 10 2<|bM 19 8 18<|f 20 10 3<|bM 21 8 20<|dU 22 133 19 21<|z) (t 22)<|
 m 24 23<|q 30 24 true (g 25 5) (f 25 18 2<|bM 26 8 25<|f 27 18 3<|bM 28 8 27<|dU 29 133 26 28<|z) (t 29)<|
 m 31 30<|q 37 31 true (g 32 5) (f 32 0 2<|l 33 32<|f 34 0 3<|l 35 34<|b 36 .eql (t 33) (t 35)<|z) (t 36)<|
 m 38 37<|q 44 38 true (g 39 5) (f 39 26 2<|l 40 39<|f 41 26 3<|l 42 41<|b 43 .eql (t 40) (t 42)<|z) (t 43)<|
 m 45 44<|q 51 45 true (g 46 5) (f 46 27 2<|l 47 46<|f 48 27 3<|l 49 48<|b 50 .eql (t 47) (t 49)<|z) (t 50)<|
 m 52 51<|q 58 52 true (g 53 5) (f 53 28 2<|l 54 53<|f 55 28 3<|l 56 55<|b 57 .eql (t 54) (t 56)<|z) (t 57)<|
 m 59 58<|q 65 59 true (g 60 5) (f 60 29 2<|l 61 60<|f 62 29 3<|l 63 62<|b 64 .eql (t 61) (t 63)<|z) (t 64)<|
 m 66 65<|q 72 66 true (g 67 5) (f 67 30 2<|l 68 67<|f 69 30 3<|l 70 69<|b 71 .eql (t 68) (t 70)<|z) (t 71)<|
 m 73 72<|q 79 73 true (g 74 5) (f 74 31 2<|l 75 74<|f 76 31 3<|l 77 76<|b 78 .eql (t 75) (t 77)<|z) (t 78)<|
 m 80 79<|q 86 80 true (g 81 5) (f 81 32 2<|l 82 81<|f 83 32 3<|l 84 83<|b 85 .eql (t 82) (t 84)<|z) (t 85)<|
 m 4 86<|z)<|
 .ret)),[.tmp 4],[.ah]⟩
theorem YO:b5 78 Ct:=b7 Tryz.func78 rfl
def NO(b:aR)(c:Nat)(e g:J)(h:U):bh:=bF (.ptr h.length 0) (h++[.box (b' e) 57 .rw]) λc e=>bF (.ptr e.length 0) (e++[.box (b' g) 57 .rw]) λe g=>(aq 1 c).bind λi=>(ab false 1 i g).bind λi=>(aq 1 e).bind λj=>(ab false 1 j g).bind λj=>(b 132 [i,j] g).bind λg=>a6 (λg i=>a6 (λg i=>a6 (λb g=>a6 (λb g=>a6 (λb g=>a6 (λb g=>a6 (λb g=>a6 (λb g=>a6 (λb g=>a6 (λb g=>a6 (λb c=>aL [.ah] h c [b]) λh=>a7 b true ((aq 32 c).bind λb=>(ab false 1 b g).bind λb=>(aq 32 e).bind λc=>(ab false 1 c g).bind λc=>(ar .eql b c).bind λb=>h b g) (h (.bool false) g)) λh=>a7 b true ((aq 31 c).bind λb=>(ab false 1 b g).bind λb=>(aq 31 e).bind λc=>(ab false 1 c g).bind λc=>(ar .eql b c).bind λb=>h b g) (h (.bool false) g)) λh=>a7 b true ((aq 30 c).bind λb=>(ab false 1 b g).bind λb=>(aq 30 e).bind λc=>(ab false 1 c g).bind λc=>(ar .eql b c).bind λb=>h b g) (h (.bool false) g)) λh=>a7 b true ((aq 29 c).bind λb=>(ab false 1 b g).bind λb=>(aq 29 e).bind λc=>(ab false 1 c g).bind λc=>(ar .eql b c).bind λb=>h b g) (h (.bool false) g)) λh=>a7 b true ((aq 28 c).bind λb=>(ab false 1 b g).bind λb=>(aq 28 e).bind λc=>(ab false 1 c g).bind λc=>(ar .eql b c).bind λb=>h b g) (h (.bool false) g)) λh=>a7 b true ((aq 27 c).bind λb=>(ab false 1 b g).bind λb=>(aq 27 e).bind λc=>(ab false 1 c g).bind λc=>(ar .eql b c).bind λb=>h b g) (h (.bool false) g)) λh=>a7 b true ((aq 26 c).bind λb=>(ab false 1 b g).bind λb=>(aq 26 e).bind λc=>(ab false 1 c g).bind λc=>(ar .eql b c).bind λb=>h b g) (h (.bool false) g)) λh=>a7 b true ((aq 0 c).bind λb=>(ab false 1 b g).bind λb=>(aq 0 e).bind λc=>(ab false 1 c g).bind λc=>(ar .eql b c).bind λb=>h b g) (h (.bool false) g)) λh=>a7 g true ((aq 18 c).bind λc=>(ab true 8 c i).bind λc=>(aq 18 e).bind λe=>(ab true 8 e i).bind λe=>(b 133 [c,e] i).bind λb=>h b.1 b.2) (h (.bool false) i)) λh=>a7 g true ((aq 10 c).bind λc=>(ab true 8 c i).bind λc=>(aq 10 e).bind λe=>(ab true 8 e i).bind λe=>(b 133 [c,e] i).bind λb=>h b.1 b.2) (h (.bool false) i)) λh=>a7 g.1 true ((aq 2 c).bind λc=>(ab true 8 c g.2).bind λc=>(aq 2 e).bind λe=>(ab true 8 e g.2).bind λe=>(b 133 [c,e] g.2).bind λb=>h b.1 b.2) (h (.bool false) g.2)
open Go.aN.G in
def Cu:bU:=⟨1,8,(S (R<|o 2 (.move (.const (.slice none 0 0)))<|z)<|
 (S (S (R<|m 3 0<|o 4 (.isNil .slice false (t 3))<|z)<|
 (.cond (t 4) [] [2]
 (S (R<|o 2 (.move (.const (.slice none 0 0)))<|z)<|
 .ret)
 .skip))<|
 (S (R<|o 5 (.buildSlice 3 [] 0 [])<|m 6 0<|o 7 (.append 3 1 (t 5) (t 6))<|m 2 7<|z)<|
 .ret))),[.tmp 2],[.raw]⟩
theorem YP:b5 79 Cu:=b7 Tryz.func79 rfl
def NP(b:aR)(c:Nat)(e:J)(g:U):bh:=m6 .slice false e λb=>aB (λ_ b=>(ek 3 1 J.emp e b).bind λb=>aL [.raw] g b.2 [b.1]) λc=>a8 b (aL [.raw] g g [(.bc:J)]) (c [] g)
open Go.aN.G in
def Cv:bU:=⟨1,8,(S (R<|o 2 (.move (.const (.slice none 0 0)))<|z)<|
 (S (S (R<|m 3 0<|o 4 (.isNil .slice false (t 3))<|z)<|
 (.cond (t 4) [] [2]
 (S (R<|o 2 (.move (.const (.slice none 0 0)))<|z)<|
 .ret)
 .skip))<|
 (S (R<|o 5 (.buildSlice 39 [] 0 [])<|m 6 0<|o 7 (.append 39 2 (t 5) (t 6))<|m 2 7<|z)<|
 .ret))),[.tmp 2],[.raw]⟩
theorem YQ:b5 80 Cv:=b7 Tryz.func80 rfl
def NQ(b:aR)(c:Nat)(e:J)(g:U):bh:=m6 .slice false e λb=>aB (λ_ b=>(ek 39 2 J.emp e b).bind λb=>aL [.raw] g b.2 [b.1]) λc=>a8 b (aL [.raw] g g [(.bc:J)]) (c [] g)
open Go.aN.G in
def Cw:bU:=⟨1,8,(S (R<|o 2 (.move (.const (.slice none 0 0)))<|z)<|
 (S (S (R<|m 3 0<|o 4 (.isNil .slice false (t 3))<|z)<|
 (.cond (t 4) [] [2]
 (S (R<|o 2 (.move (.const (.slice none 0 0)))<|z)<|
 .ret)
 .skip))<|
 (S (R<|o 5 (.buildSlice 43 [] 0 [])<|m 6 0<|o 7 (.append 43 13 (t 5) (t 6))<|m 2 7<|z)<|
 .ret))),[.tmp 2],[.raw]⟩
theorem YR:b5 81 Cw:=b7 Tryz.func81 rfl
def NR(b:aR)(c:Nat)(e:J)(g:U):bh:=m6 .slice false e λb=>aB (λ_ b=>(ek 43 13 J.emp e b).bind λb=>aL [.raw] g b.2 [b.1]) λc=>a8 b (aL [.raw] g g [(.bc:J)]) (c [] g)
open Go.aN.G in
def Cx:bU:=⟨1,8,(S (R<|o 2 (.move (.const (.slice none 0 0)))<|z)<|
 (S (S (R<|m 3 0<|o 4 (.isNil .slice false (t 3))<|z)<|
 (.cond (t 4) [] [2]
 (S (R<|o 2 (.move (.const (.slice none 0 0)))<|z)<|
 .ret)
 .skip))<|
 (S (R<|o 5 (.buildSlice 57 [] 0 [])<|m 6 0<|o 7 (.append 57 33 (t 5) (t 6))<|m 2 7<|z)<|
 .ret))),[.tmp 2],[.raw]⟩
theorem YS:b5 82 Cx:=b7 Tryz.func82 rfl
def NS(b:aR)(c:Nat)(e:J)(g:U):bh:=m6 .slice false e λb=>aB (λ_ b=>(ek 57 33 J.emp e b).bind λb=>aL [.raw] g b.2 [b.1]) λc=>a8 b (aL [.raw] g g [(.bc:J)]) (c [] g)
open Go.aN.G in
def Cy:bU:=⟨1,8,(S (R<|o 2 (.move (.const (.slice none 0 0)))<|z)<|
 (S (S (R<|m 3 0<|o 4 (.isNil .slice false (t 3))<|z)<|
 (.cond (t 4) [] [2]
 (S (R<|o 2 (.move (.const (.slice none 0 0)))<|z)<|
 .ret)
 .skip))<|
 (S (R<|o 5 (.buildSlice 41 [] 0 [])<|m 6 0<|o 7 (.append 41 6 (t 5) (t 6))<|m 2 7<|z)<|
 .ret))),[.tmp 2],[.raw]⟩
theorem YT:b5 83 Cy:=b7 Tryz.func83 rfl
def NT(b:aR)(c:Nat)(e:J)(g:U):bh:=m6 .slice false e λb=>aB (λ_ b=>(ek 41 6 J.emp e b).bind λb=>aL [.raw] g b.2 [b.1]) λc=>a8 b (aL [.raw] g g [(.bc:J)]) (c [] g)
open Go.aN.G in
def Cz:bU:=⟨1,8,(S (R<|o 2 (.move (.const (.slice none 0 0)))<|z)<|
 (S (S (R<|m 3 0<|o 4 (.isNil .slice false (t 3))<|z)<|
 (.cond (t 4) [] [2]
 (S (R<|o 2 (.move (.const (.slice none 0 0)))<|z)<|
 .ret)
 .skip))<|
 (S (R<|o 5 (.buildSlice 89 [] 0 [])<|m 6 0<|o 7 (.append 89 2 (t 5) (t 6))<|m 2 7<|z)<|
 .ret))),[.tmp 2],[.raw]⟩
theorem YU:b5 84 Cz:=b7 Tryz.func84 rfl
def NU(b:aR)(c:Nat)(e:J)(g:U):bh:=m6 .slice false e λb=>aB (λ_ b=>(ek 89 2 J.emp e b).bind λb=>aL [.raw] g b.2 [b.1]) λc=>a8 b (aL [.raw] g g [(.bc:J)]) (c [] g)
open Go.aN.G in
def CA:bU:=⟨1,8,(S (R<|o 2 (.move (.const (.slice none 0 0)))<|z)<|
 (S (S (R<|m 3 0<|o 4 (.isNil .slice false (t 3))<|z)<|
 (.cond (t 4) [] [2]
 (S (R<|o 2 (.move (.const (.slice none 0 0)))<|z)<|
 .ret)
 .skip))<|
 (S (R<|o 5 (.buildSlice 120 [] 0 [])<|m 6 0<|o 7 (.append 120 2 (t 5) (t 6))<|m 2 7<|z)<|
 .ret))),[.tmp 2],[.raw]⟩
theorem YV:b5 85 CA:=b7 Tryz.func85 rfl
def NV(b:aR)(c:Nat)(e:J)(g:U):bh:=m6 .slice false e λb=>aB (λ_ b=>(ek 120 2 J.emp e b).bind λb=>aL [.raw] g b.2 [b.1]) λc=>a8 b (aL [.raw] g g [(.bc:J)]) (c [] g)
open Go.aN.G in
def CB:bU:=⟨2,27,(S (R<|o 4 (.move (.const (.slice none 0 0)))<|z)<|
 (S (R<|m 8 0<|bS 9 8<|o 10 (.mkSlice 39 [(.int .i64 0),(.slice none 0 0)] (t 9) (t 9))<|m 5 10<|z)<|
 (S (S (R<|m 11 0<|bS 12 11<|b3 13 0<|z)<|
 (.block 0 [] ([6,7]++g 13 13)
 (.loop [13] ([6,7]++g 14 12)
 (S (R<|b 14 .lss (t 13) (t 12)<|z)<|
 (S (.cond (t 14) [] []
 .skip
 (.exit 0))<|
 (S (.block 1 [] ([6,7]++g 15 10)
 (S (R<|m 15 13<|cu 16 2 11 13<|bM 17 2 16<|o 7 (.new 39 [(.int .i64 0),(.slice none 0 0)])<|m 6 15<|bP 2 7 17<|z)<|
 (D<|m 18 5<|m 19 1<|m 20 6<|cu 21 1 19 20<|l 22 21<|bM 23 2 7<|cu 24 2 18 22<|bP 2 24 23<|z)))<|
 (R<|b 25 .add (t 13) (i 1)<|m 13 25<|z)))))))<|
 (S (R<|m 26 5<|m 4 26<|z)<|
 .ret)))),[.tmp 4],[.raw]⟩
theorem YW:b5 86 CB:=b7 Tryz.func86 rfl
def CC(b:aR)(c:Nat)(e g:J)(h:J×U)(i:J)(j:bb):(bb)->bb:=λb c k=>(ar .lss (aI c 0) i).bind λi=>aB (λ_ i=>aB (λ_ e=>(ar .add (aI c 0) (.int .i64 1)).bind λc=>b [c] (trim h.2 [c] e)) λb=>(bW 2 e (aI c 0)).bind λe=>(ab true 2 e i).bind λe=>bF (.ptr i.length 0) (i++[.box [.int .i64 0,.bc] 39 .rw]) λi j=>(a_ 2 i e j).bind λe=>(bW 1 g (aI c 0)).bind λc=>(ab false 1 c e).bind λc=>(ab true 2 i e).bind λg=>(bW 2 h.1 c).bind λc=>(a_ 2 c g e).bind λc=>b [] c) λb=>a8 i (b [] k) (j [] k)
def NW(b:aR)(c:Nat)(e g:J)(h:U):bh:=(bw false e).bind λi=>(pk 39 [.int .i64 0,.bc] i i h).bind λi=>(bw false e).bind λj=>aB (λ_ b=>aL [.raw] h b [i.1]) λh=>cr (CC b c e g i j h) c [(.int .i64 0)] i.2
open Go.aN.G in
def CD:bU:=⟨1,9,(S (R<|cn 2<|z)<|
 (S (R<|m 3 0<|b 4 .eql (t 3) (i 254)<|m 5 4<|q 8 5 false [6,7] (m 6 0<|b 7 .eql (t 6) (i 255)<|z) (t 7)<|
 m 2 8<|z)<|
 .ret)),[.tmp 2],[.ah]⟩
theorem YX:b5 87 CD:=b7 Tryz.func87 rfl
def NX(b:aR)(c:Nat)(e:J)(g:U):bh:=(ar .eql e (.int .i64 254)).bind λb=>a6 (λb c=>aL [.ah] g c [b]) λc=>a7 b false ((ar .eql e (.int .i64 255)).bind λb=>c b g) (c (.bool true) g)
end
section
variable (Γ : aR) (n : Nat) (al ay bV : J) (h : U)
theorem YY:bX Γ n ep [al,ay] h=kh Γ n al ay h:=by kernel_rfl
theorem YZ:bX Γ n A8 [al] h=MV Γ n al h:=by kernel_rfl
theorem Y0:bX Γ n A9 [] h=MW Γ n h:=by kernel_rfl
theorem Y1:bX Γ n A_ [al,ay] h=MX Γ n al ay h:=by kernel_rfl
theorem Y2:bX Γ n A' [al,ay] h=MY Γ n al ay h:=by kernel_rfl
theorem Y3:bX Γ n Ba [al,ay] h=MZ Γ n al ay h:=by kernel_rfl
theorem Y4:bX Γ n Bb [al,ay] h=M0 Γ n al ay h:=by kernel_rfl
theorem Y5:bX Γ n Bc [al] h=M1 Γ n al h:=by kernel_rfl
theorem Y6:bX Γ n Bg [al] h=M3 Γ n al h:=by kernel_rfl
theorem Y7:bX Γ n Bh [al] h=M4 Γ n al h:=by kernel_rfl
theorem Y8:bX Γ n Bn [al] h=M5 Γ n al h:=by kernel_rfl
theorem Y9:bX Γ n Bo [al,ay,bV] h=M6 Γ n al ay bV h:=by kernel_rfl
theorem Y_:bX Γ n Bq [al] h=M7 Γ n al h:=by kernel_rfl
theorem Y':bX Γ n Bs [al,ay] h=M8 Γ n al ay h:=by kernel_rfl
theorem Za:bX Γ n Bu [al,ay,bV] h=M9 Γ n al ay bV h:=by kernel_rfl
theorem Zb:bX Γ n Bw [al,ay] h=M_ Γ n al ay h:=by kernel_rfl
theorem Zc:bX Γ n Bx [al,ay,bV] h=M' Γ n al ay bV h:=by kernel_rfl
theorem Zd:bX Γ n Bz [al,ay] h=Na Γ n al ay h:=by kernel_rfl
theorem Ze:bX Γ n BA [al,ay,bV] h=Nb Γ n al ay bV h:=by kernel_rfl
theorem Zf:bX Γ n BC [al,ay] h=Nc Γ n al ay h:=by kernel_rfl
theorem Zg:bX Γ n BD [al,ay] h=Nd Γ n al ay h:=by kernel_rfl
theorem Zh:bX Γ n BF [al,ay] h=Nf Γ n al ay h:=by kernel_rfl
theorem Zi:bX Γ n BJ [al] h=Ng Γ n al h:=by kernel_rfl
theorem Zj:bX Γ n BK [al] h=Nh Γ n al h:=by kernel_rfl
theorem Zk:bX Γ n BL [al] h=Ni Γ n al h:=by kernel_rfl
theorem Zl:bX Γ n BP [al] h=Nj Γ n al h:=by kernel_rfl
theorem H_:bX Γ n vF [al,ay,bV] h=BS Γ n al ay bV h:=by kernel_rfl
theorem Zm:bX Γ n BT [al,ay] h=Nk Γ n al ay h:=by kernel_rfl
theorem Zn:bX Γ n BU [al] h=Nn Γ n al h:=by kernel_rfl
theorem Zo:bX Γ n BV [al] h=No Γ n al h:=by kernel_rfl
theorem Zp:bX Γ n BW [al,ay] h=Np Γ n al ay h:=by kernel_rfl
theorem Zq:bX Γ n BX [al] h=Nq Γ n al h:=by kernel_rfl
theorem Zr:bX Γ n BY [al] h=Nr Γ n al h:=by kernel_rfl
theorem Zs:bX Γ n BZ [al] h=Ns Γ n al h:=by kernel_rfl
theorem Zt:bX Γ n B0 [al] h=Nt Γ n al h:=by kernel_rfl
theorem Zu:bX Γ n B1 [al] h=Nu Γ n al h:=by kernel_rfl
theorem Zv:bX Γ n B2 [al] h=Nv Γ n al h:=by kernel_rfl
theorem H':bX Γ n vJ [al,ay,bV] h=B7 Γ n al ay bV h:=by kernel_rfl
theorem Zw:bX Γ n B8 [al,ay] h=Nw Γ n al ay h:=by kernel_rfl
theorem NY:bX Γ n yA [al] h=H8 Γ n al h:=by kernel_rfl
theorem Zx:bX Γ n B' [al] h=Nx Γ n al h:=by kernel_rfl
theorem Zy:bX Γ n Ca [al,ay,bV] h=Ny Γ n al ay bV h:=by kernel_rfl
theorem Zz:bX Γ n Cb [al,ay] h=Nz Γ n al ay h:=by kernel_rfl
theorem ZA:bX Γ n Cc [al] h=NA Γ n al h:=by kernel_rfl
theorem ZB:bX Γ n Cd [al,ay,bV] h=NB Γ n al ay bV h:=by kernel_rfl
theorem ZC:bX Γ n Ce [al] h=NC Γ n al h:=by kernel_rfl
theorem ZD:bX Γ n Cf [al] h=ND Γ n al h:=by kernel_rfl
theorem ZE:bX Γ n Cg [al] h=NF Γ n al h:=by kernel_rfl
theorem ZF:bX Γ n Ci [al] h=NG Γ n al h:=by kernel_rfl
theorem ZG:bX Γ n Cj [al] h=NH Γ n al h:=by kernel_rfl
theorem ZH:bX Γ n Ck [al] h=NI Γ n al h:=by kernel_rfl
theorem ZI:bX Γ n Cm [al,ay] h=NJ Γ n al ay h:=by kernel_rfl
theorem ZJ:bX Γ n Co [al,ay] h=NK Γ n al ay h:=by kernel_rfl
theorem ZK:bX Γ n Cq [al,ay] h=NL Γ n al ay h:=by kernel_rfl
theorem ZL:bX Γ n Cr [al,ay] h=NM Γ n al ay h:=by kernel_rfl
theorem ZM:bX Γ n Cs [al,ay] h=NN Γ n al ay h:=by kernel_rfl
theorem ZN:bX Γ n Ct [al,ay] h=NO Γ n al ay h:=by kernel_rfl
theorem ZO:bX Γ n Cu [al] h=NP Γ n al h:=by kernel_rfl
theorem ZP:bX Γ n Cv [al] h=NQ Γ n al h:=by kernel_rfl
theorem ZQ:bX Γ n Cw [al] h=NR Γ n al h:=by kernel_rfl
theorem ZR:bX Γ n Cx [al] h=NS Γ n al h:=by kernel_rfl
theorem ZS:bX Γ n Cy [al] h=NT Γ n al h:=by kernel_rfl
theorem ZT:bX Γ n Cz [al] h=NU Γ n al h:=by kernel_rfl
theorem ZU:bX Γ n CA [al] h=NV Γ n al h:=by kernel_rfl
theorem ZV:bX Γ n CB [al,ay] h=NW Γ n al ay h:=by kernel_rfl
theorem ZW:bX Γ n CD [al] h=NX Γ n al h:=by kernel_rfl
end
end Go.aN.X
