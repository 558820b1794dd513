import Derived.Test.YtffennknofmjoaaGreatP5
import Derived.Test.YtffennknofmjoaaGreatChecked
import Derived.TacticsInMore
import Derived.Lib.Walk
import Derived.WalkKit
import Derived.BigCall
import Derived.OwnWalkIn
set_option linter.unusedSimpArgs false
set_option linter.unusedVariables false
set_option maxRecDepth 100000
open Bool renaming and_eq_false_iff → p1,and_eq_true → dx,eq_iff_iff → o5,false_and → iU,false_eq_true → bg,false_or → rN,not_eq_true' → nA,not_false → gp,not_true → e3,or_eq_true → mP,true_and → hn,true_eq_false → w7,true_or → nB
open Eq renaming trans → eK
open Go renaming FuncId → dN,TypeId → aX
open Int renaming toNat_natCast → lI
open Go.Lib renaming indexByte → qY
open List renaming append_assoc → eo,getElem?_cons_zero → jP
open Nat renaming beq → cC,le_refl → ca,zero_le → hQ
open Option renaming bind_some → dy,map_some → dm,some → I
namespace Go.aN.X
open Go.Proofs Go.bB Go.aN
noncomputable section
open Go.aN.G in
def CE:bU:=⟨2,27,(S (R<|o 4 (.move (.const (.slice none 0 0)))<|z)<|
 (S (R<|m 8 0<|bS 9 8<|o 10 (.mkSlice 43 ym (t 9) (t 9))<|m 5 10<|z)<|
 (S (S (R<|m 11 0<|bS 12 11<|b3 13 0<|z)<|
 (.block 0 [] ([6,7]++g 13 13)
 (.loop [13] ([6,7]++g 14 12)
 (S (R<|b 14 .lss (t 13) (t 12)<|z)<|
 (S (.cond (t 14) [] []
 .skip
 (.exit 0))<|
 (S (.block 1 [] ([6,7]++g 15 10)
 (S (R<|m 15 13<|cu 16 13 11 13<|bM 17 13 16<|o 7 (.new 43 ym)<|m 6 15<|bP 13 7 17<|z)<|
 (D<|m 18 5<|m 19 1<|m 20 6<|cu 21 1 19 20<|l 22 21<|bM 23 13 7<|cu 24 13 18 22<|bP 13 24 23<|z)))<|
 (R<|b 25 .add (t 13) (i 1)<|m 13 25<|z)))))))<|
 (S (R<|m 26 5<|m 4 26<|z)<|
 .ret)))),[.tmp 4],[.raw]⟩
theorem ZX:b5 88 CE:=b7 Tryz.func88 rfl
def CF(b:aR)(c:Nat)(e g:J)(h:J×U)(i:J)(j:bb):(bb)->bb:=λb c k=>(ar .lss (aI c 0) i).bind λi=>aB (λ_ i=>aB (λ_ e=>(ar .add (aI c 0) (.int .i64 1)).bind λc=>b [c] (trim h.2 [c] e)) λb=>(bW 13 e (aI c 0)).bind λe=>(ab true 13 e i).bind λe=>bF (.ptr i.length 0) (i++[.box [.str ⟨#[]⟩,.bc,.int .i64 0,.int .i64 0,.int .i64 0,.int .i64 0,.int .i64 0,.int .i64 0,.int .i64 0,.int .i64 0,.int .i64 0,.int .i64 0,.int .i64 0] 43 .rw]) λi j=>(a_ 13 i e j).bind λe=>(bW 1 g (aI c 0)).bind λc=>(ab false 1 c e).bind λc=>(ab true 13 i e).bind λg=>(bW 13 h.1 c).bind λc=>(a_ 13 c g e).bind λc=>b [] c) λb=>a8 i (b [] k) (j [] k)
def NZ(b:aR)(c:Nat)(e g:J)(h:U):bh:=(bw false e).bind λi=>(pk 43 [.str ⟨#[]⟩,.bc,.int .i64 0,.int .i64 0,.int .i64 0,.int .i64 0,.int .i64 0,.int .i64 0,.int .i64 0,.int .i64 0,.int .i64 0,.int .i64 0,.int .i64 0] i i h).bind λi=>(bw false e).bind λj=>aB (λ_ b=>aL [.raw] h b [i.1]) λh=>cr (CF b c e g i j h) c [(.int .i64 0)] i.2
open Go.aN.G in
def CG:bU:=⟨2,13,(S (R<|b3 4 0<|z)<|
 (S (S (R<|m 5 0<|b 6 .eql (t 5) (i 0)<|z)<|
 (.cond (t 6) [] [4]
 (S (R<|b3 4 0<|z)<|
 .ret)
 .skip))<|
 (S (R<|m 7 1<|m 8 0<|b 9 .sub (t 8) (i 1)<|cu 10 1 7 9<|l 11 10<|b 12 .add (t 11) (i 1)<|m 4 12<|z)<|
 .ret))),[.tmp 4],[.ah]⟩
theorem ZY:b5 89 CG:=b7 Tryz.func89 rfl
def N0(b:aR)(c:Nat)(e g:J)(h:U):bh:=(ar .eql e (.int .i64 0)).bind λb=>aB (λ_ b=>(ar .sub e (.int .i64 1)).bind λc=>(bW 1 g c).bind λc=>(ab false 1 c b).bind λc=>(ar .add c (.int .i64 1)).bind λc=>aL [.ah] h b [c]) λc=>a8 b (aL [.ah] h h [(.int .i64 0)]) (c [] h)
open Go.aN.G in
def CH:bU:=⟨2,37,(S (R<|m 7 0<|f' 8 7<|f 9 10 8<|l 10 9<|bS 11 10<|b3 12 0<|z)<|
 (.block 0 [] ([5,6]++g 12 25)
 (.loop [12] ([5,6]++g 13 24)
 (S (R<|b 13 .lss (t 12) (t 11)<|z)<|
 (S (.cond (t 13) [] []
 .skip
 (.exit 0))<|
 (S (.block 1 [] ([5,6]++g 14 22)
 (S (R<|cu 14 2 10 12<|bM 15 2 14<|o 5 (.new 39 [(.int .i64 0),(.slice none 0 0)])<|bP 2 5 15<|z)<|
 (S (R<|f 16 1 5<|l 17 16<|bS 18 17<|b3 19 0<|z)<|
 (.block 2 [] ([6]++g 19 17)
 (.loop [19] ([6]++g 20 16)
 (S (R<|b 20 .lss (t 19) (t 18)<|z)<|
 (S (.cond (t 20) [] []
 .skip
 (.exit 2))<|
 (S (.block 3 [] ([6]++g 21 14)
 (S (R<|m 21 19<|m 6 21<|z)<|
 (D<|f 22 1 5<|l 23 22<|m 24 6<|f 25 1 5<|l 26 25<|m 27 6<|cu 28 6 26 27<|f 29 1 28<|l 30 29<|m 31 1<|O 32 (.call 89 [(t 30),(t 31)])<|cu 33 6 23 24<|f 34 1 33<|bP 1 34 32<|z)))<|
 (R<|b 35 .add (t 19) (i 1)<|m 19 35<|z)))))))))<|
 (R<|b 36 .add (t 12) (i 1)<|m 12 36<|z))))))),[],[]⟩
theorem ZZ:b5 90 CH:=b7 Tryz.func90 rfl
def yB(b:aR)(c:Nat)(e g:J)(h:U)(i:J)(j:bb):(bb)->bb:=λc k l=>(ar .lss (aI k 0) i).bind λi=>aB (λ_ i=>aB (λ_ b=>(ar .add (aI k 0) (.int .i64 1)).bind λe=>c [e] (trim h [e] b)) λc=>(aq 1 g).bind λh=>(ab false 1 h i).bind λh=>(aq 1 g).bind λg=>(ab false 1 g i).bind λg=>(bW 6 g (aI k 0)).bind λg=>(aq 1 g).bind λg=>(ab false 1 g i).bind λg=>(b 89 [g,e] (lock i)).bind λb=>dQ i b.2 λe=>(bW 6 h (aI k 0)).bind λg=>(aq 1 g).bind λg=>(a_ 1 g b.1 e).bind λb=>c [] b) λb=>a8 i (b [] l) (j [] l)
def CI(b:aR)(c:Nat)(e:J)(g:U)(h i:J)(j:bb):(bb)->bb:=λk l m=>(ar .lss (aI l 0) i).bind λi=>aB (λ_ i=>aB (λ_ b=>(ar .add (aI l 0) (.int .i64 1)).bind λc=>k [c] (trim g [c] b)) λg=>(bW 2 h (aI l 0)).bind λh=>(ab true 2 h i).bind λh=>bF (.ptr i.length 0) (i++[.box [.int .i64 0,.bc] 39 .rw]) λi j=>(a_ 2 i h j).bind λh=>(aq 1 i).bind λj=>(ab false 1 j h).bind λj=>(bw false j).bind λj=>aB (λ_ b=>g [] b) λg=>cr (yB b c e i h j g) c [(.int .i64 0)] h) λb=>a8 i (b [] m) (j [] m)
def N1(b:aR)(c:Nat)(e g:J)(h:U):bh:=(fA e).bind λe=>(aq 10 e).bind λe=>(ab false 1 e h).bind λe=>(bw false e).bind λi=>aB (λ_ b=>aL [] h b []) λj=>cr (CI b c g h e i j) c [(.int .i64 0)] h
open Go.aN.G in
def CJ:bU:=⟨2,27,(S (R<|o 4 (.move (.const (.slice none 0 0)))<|z)<|
 (S (R<|m 8 0<|bS 9 8<|o 10 (.mkSlice 57 rm (t 9) (t 9))<|m 5 10<|z)<|
 (S (S (R<|m 11 0<|bS 12 11<|b3 13 0<|z)<|
 (.block 0 [] ([6,7]++g 13 13)
 (.loop [13] ([6,7]++g 14 12)
 (S (R<|b 14 .lss (t 13) (t 12)<|z)<|
 (S (.cond (t 14) [] []
 .skip
 (.exit 0))<|
 (S (.block 1 [] ([6,7]++g 15 10)
 (S (R<|m 15 13<|cu 16 33 11 13<|bM 17 33 16<|o 7 (.new 57 rm)<|m 6 15<|bP 33 7 17<|z)<|
 (D<|m 18 5<|m 19 1<|m 20 6<|cu 21 1 19 20<|l 22 21<|bM 23 33 7<|cu 24 33 18 22<|bP 33 24 23<|z)))<|
 (R<|b 25 .add (t 13) (i 1)<|m 13 25<|z)))))))<|
 (S (R<|m 26 5<|m 4 26<|z)<|
 .ret)))),[.tmp 4],[.raw]⟩
theorem Z0:b5 91 CJ:=b7 Tryz.func91 rfl
def CK(b:aR)(c:Nat)(e g:J)(h:J×U)(i:J)(j:bb):(bb)->bb:=λb c k=>(ar .lss (aI c 0) i).bind λi=>aB (λ_ i=>aB (λ_ e=>(ar .add (aI c 0) (.int .i64 1)).bind λc=>b [c] (trim h.2 [c] e)) λb=>(bW 33 e (aI c 0)).bind λe=>(ab true 33 e i).bind λe=>bF (.ptr i.length 0) (i++[.box h0 57 .rw]) λi j=>(a_ 33 i e j).bind λe=>(bW 1 g (aI c 0)).bind λc=>(ab false 1 c e).bind λc=>(ab true 33 i e).bind λg=>(bW 33 h.1 c).bind λc=>(a_ 33 c g e).bind λc=>b [] c) λb=>a8 i (b [] k) (j [] k)
def N2(b:aR)(c:Nat)(e g:J)(h:U):bh:=(bw false e).bind λi=>(pk 57 h0 i i h).bind λi=>(bw false e).bind λj=>aB (λ_ b=>aL [.raw] h b [i.1]) λh=>cr (CK b c e g i j h) c [(.int .i64 0)] i.2
open Go.aN.G in
def CL:bU:=⟨2,48,(S (R<|o 4 (.move (.const (.slice none 0 0)))<|z)<|
 (S (S (R<|m 9 1<|b 10 .lss (t 9) (i 0)<|z)<|
 (.cond (t 10) [] [11]
 (R<|o 11 (.s8 9 (.const (.string ⟨#[99,97,110,110,111,116,32,98,101,32,110,101,103,97,116,105,118,101]⟩)))<|n .fail<|z)
 .skip))<|
 (S (R<|m 13 0<|bS 14 13<|o 15 (.conv .u64 (t 14))<|m 16 1<|o 17 (.conv .u64 (t 16))<|dU 18 134 15 17<|m 12 18<|eC 19 12 0<|eC 20 12 1<|m 5 19<|m 6 20<|z)<|
 (S (S (R<|m 21 5<|b 22 .gtr (t 21) (.const (.int .u64 0))<|m 23 22<|q 26 23 false [24,25] (m 24 6<|b 25 .gtr (t 24) (.const (.int .u64 9223372036854775807))<|z) (t 25)<|
 z)<|
 (.cond (t 26) [] [27]
 (R<|o 27 (.s8 9 (.const (.string ⟨#[116,104,101,32,114,101,115,117,108,116,32,111,102,32,40,108,101,110,40,120,41,32,42,32,99,111,117,110,116,41,32,111,118,101,114,102,108,111,119,115]⟩)))<|n .fail<|z)
 .skip))<|
 (S (R<|m 28 6<|o 29 (.conv .i64 (t 28))<|o 30 (.mkSlice 3 [(.int .i64 0)] (t 29) (t 29))<|m 7 30<|z)<|
 (S (R<|m 31 7<|m 32 0<|o 33 (.copy 1 (t 31) (t 32))<|m 8 33<|z)<|
 (S (.block 0 [] ([8]++g 34 13)
 (.loop [8] (g 34 13)
 (S (S (R<|m 34 8<|m 35 7<|bS 36 35<|b 37 .lss (t 34) (t 36)<|z)<|
 (.cond (t 37) [] []
 .skip
 (.exit 0)))<|
 (.block 1 [8] (g 38 9)
 (D<|m 38 8<|m 39 7<|m 40 8<|o 41 (.slice 1 (t 39) (I (t 40)) none none)<|m 42 7<|m 43 8<|o 44 (.slice 1 (t 42) none (I (t 43)) none)<|o 45 (.copy 1 (t 41) (t 44))<|b 46 .add (t 38) (t 45)<|m 8 46<|z)))))<|
 (S (R<|m 47 7<|m 4 47<|z)<|
 .ret)))))))),[.tmp 4],[.raw]⟩
theorem Z1:b5 92 CL:=b7 Tryz.func92 rfl
def tA(b:aR)(c:Nat)(e g:J×U)(h:bb):(bb)->bb:=λb c i=>(bw false e.1).bind λj=>(ar .lss (aI c 0) j).bind λj=>aB (λ_ h=>aB (λc e=>b [(aI c 0)] (trim g.2 [(aI c 0)] e)) λb=>(q' 1 e.1 (I (aI c 0)) none none).bind λg=>(q' 1 e.1 none (I (aI c 0)) none).bind λe=>(rb 1 g e h).bind λe=>(ar .add (aI c 0) e.1).bind λc=>b [c] e.2) λb=>a8 j (b [] i) (h [] i)
def N3(b:aR)(c:Nat)(e g:J)(h:U):bh:=(ar .lss g (.int .i64 0)).bind λi=>aB (λ_ i=>(bw false e).bind λj=>(ml .u64 j).bind λj=>(ml .u64 g).bind λg=>(b 134 [j,g] i).bind λg=>(ea g.1 0).bind λi=>(ea g.1 1).bind λj=>(ar .gtr i (.int .u64 0)).bind λi=>a6 (λg i=>aB (λ_ g=>(ml .i64 j).bind λi=>(pk 3 [.int .i64 0] i i g).bind λg=>(rb 1 g.1 e g.2).bind λe=>aB (λ_ b=>aL [.raw] h b [g.1]) λh=>cr (tA b c g e h) c [e.1] e.2) λb=>a8 g (none) (b [] i)) λb=>a7 i false ((ar .gtr j (.int .u64 9223372036854775807)).bind λc=>b c g.2) (b (.bool true) g.2)) λb=>a8 i (none) (b [] h)
open Go.aN.G in
def CM:bU:=⟨3,15,(S (R<|l 4 1<|m 5 0<|cu 6 1 4 5<|l 7 6<|b 8 .lss (t 7) (i 0)<|z)<|
 (.cond (t 8) [] (g 9 6)
 (S (R<|l 9 1<|m 10 0<|l 11 2<|cu 12 1 9 10<|bP 1 12 11<|z)<|
 (R<|l 13 2<|b 14 .add (t 13) (i 1)<|bP 1 2 14<|z))
 .skip)),[],[]⟩
theorem Z2:b5 93 CM:=b7 Tryz.func93 rfl
def N4(b:aR)(c:Nat)(e g h:J)(i:U):bh:=(ab false 1 g i).bind λb=>(bW 1 b e).bind λb=>(ab false 1 b i).bind λb=>(ar .lss b (.int .i64 0)).bind λb=>aB (λ_ b=>aL [] i b []) λc=>a8 b ((ab false 1 g i).bind λb=>(ab false 1 h i).bind λg=>(bW 1 b e).bind λb=>(a_ 1 b g i).bind λb=>(ab false 1 h b).bind λe=>(ar .add e (.int .i64 1)).bind λe=>(a_ 1 h e b).bind λb=>c [] b) (c [] i)
open Go.aN.G in
def CN:bU:=⟨2,28,(S (R<|o 6 .mkMap<|m 3 6<|z)<|
 (S (R<|f 7 3 1<|l 8 7<|bS 9 8<|b3 10 0<|z)<|
 (.block 0 [] ([5]++g 10 18)
 (.loop [10] ([5]++g 11 17)
 (S (R<|b 11 .lss (t 10) (t 9)<|z)<|
 (S (.cond (t 11) [] []
 .skip
 (.exit 0))<|
 (S (.block 1 [] ([5]++g 12 15)
 (S (R<|cu 12 1 8 10<|l 13 12<|m 5 13<|z)<|
 (S (S (R<|m 14 5<|dA 15 87 14<|m 16 15<|q 20 16 false [17,18,19] (m 17 3<|m 18 5<|o 19 (.lookup .int (.bool false) false (t 17) (t 18))<|z) (t 19)<|
 z)<|
 (.cond (t 20) [] []
 (.exit 1)
 .skip))<|
 (S (R<|m 21 3<|m 22 5<|n (.o7 .int (t 21) (t 22) (.const (.bool true)))<|z)<|
 (S (R<|m 23 0<|m 24 5<|o 25 (.hU (t 23) [(t 24)])<|dB 26 25<|z)<|
 (.cond (t 26) [] []
 .ret
 .skip))))))<|
 (R<|b 27 .add (t 10) (i 1)<|m 10 27<|z)))))))),[],[]⟩
theorem Z3:b5 94 CN:=b7 Tryz.func94 rfl
def Ib(b:aR)(c:Nat)(e:J)(g:U)(h:J)(i:U)(j k:J)(l:bb):(bb)->bb:=λc m n=>(ar .lss (aI m 0) k).bind λk=>aB (λ_ k=>aB (λ_ b=>(ar .add (aI m 0) (.int .i64 1)).bind λe=>c [e] (trim i [e] b)) λc=>(bW 1 j (aI m 0)).bind λi=>(ab false 1 i k).bind λi=>(b 87 [i] k).bind λj=>a6 (λj k=>aB (λ_ j=>(pn .int h i (.bool true) j).bind λh=>(gh b e [i] h).bind λb=>(di .not b.1).bind λe=>aB (λ_ b=>c [] b) λc=>a8 e (aL [] g b.2 []) (c [] b.2)) λb=>a8 j (c [] k) (b [] k)) λb=>a7 j.1 false ((re .int (.bool false) false h i j.2).bind λc=>b c j.2) (b (.bool true) j.2)) λb=>a8 k (b [] n) (l [] n)
def N5(b:aR)(c:Nat)(e g:J)(h:U):bh:=bF (.map h.length) (h++[.map [] .rw]) λi j=>(aq 3 g).bind λg=>(ab false 1 g j).bind λg=>(bw false g).bind λk=>aB (λ_ b=>aL [] h b []) λl=>cr (Ib b c e h i j g k l) c [(.int .i64 0)] j
open Go.aN.G in
def vK:hB:=(R<|m 3 5<|z)
open Go.aN.G in
def vL:hB:=(.block 1 [] (g 6 9)
 (S (R<|m 6 3<|b 7 .gtr (t 6) (i 0)<|m 8 7<|q 14 8 true (g 9 5) (l 9 2<|m 10 3<|b 11 .sub (t 10) (i 1)<|o 12 (.hU (t 9) [(t 11)])<|o 13 (.un .not (t 12))<|z) (t 13)<|
 z)<|
 (.cond (t 14) [] []
 .ret
 .skip)))
open Go.aN.G in
def CO:bU:=⟨2,15,(S (R<|c9 2 85 0<|z)<|
 (S (R<|l 4 1<|z)<|
 (.block 0 [] []
 (.ju (t 4) [2] [5] vK vL)))),[],[]⟩
theorem Z4:b5 95 CO:=b7 Tryz.func95 rfl
def N6(Γ:aR)(n:Nat)(al ay:J)(h:U):bh:=bF (.ptr h.length 0) (h++[.box (b' al) 85 .rw]) λv0 h1=>(ab false 1 ay h1).bind λv2=>aB (λi aM=>aL [] h aM []) λj3=>(po Γ v2 [.yield h1.length] (h1++[.loop [v0] [2] [5] vK vL .ready none .rw])).bind λc=>(rf h1.length c.2).bind λe=>bF iI (trim h1 [] (c.2.set h1.length .dead)) λj b=>
Al e (j3 [] b) (λg=>bif cC g 0 then(j3 [] b)else none) (aL [] h b [])
def N7(b:aR)(c:Nat)(e g:J)(h:Nat)(i:U):bh:=(qc h i).bind λc=>aB (λ_ b=>(m7 h .normal b).map λb=>(b.1,trim i [] b.2)) λj=>(ar .gtr g (.int .i64 0)).bind λk=>a6 (λb c=>aB (λ_ b=>j [] b) λe=>a8 b ((m7 h .ret c).map λb=>(b.1,trim i [] b.2)) (e [] c)) λh=>a7 k true ((ab false 1 e c).bind λe=>(ar .sub g (.int .i64 1)).bind λg=>(gh b e [g] c).bind λb=>(di .not b.1).bind λc=>h c b.2) (h (.bool false) c)
theorem Z5(Γ:aR)(n:Nat)(cP a5:J)(b:Nat)(h:U)(dY:Option fw)(md:eg)(ae:h[b]?=I (.loop [cP] [2] [5] vK vL .ready dY md)):nQ Γ n (.ptr b 0::[a5]) h=N7 Γ n cP a5 b h:=(Hs ae rfl).trans (by kernel_rfl)
open Go.aN.G in
def sm:hB:=(R<|m 4 8<|z)
open Go.aN.G in
def sn:hB:=(.block 1 [] ([6]++g 9 22)
 (S (R<|f 9 10 2<|l 10 9<|m 11 4<|o 12 (.indexAddr 2 (t 10) (t 11))<|f 13 1 12<|l 14 13<|o 15 (.len false (t 14))<|o 16 (.move (i 0))<|z)<|
 (.block 2 [] ([6]++g 16 15)
 (.loop [16] ([6]++g 17 14)
 (S (R<|b 17 .lss (t 16) (t 15)<|z)<|
 (S (.cond (t 17) [] []
 .skip
 (.exit 2))<|
 (S (.block 3 [] ([6]++g 18 12)
 (S (R<|o 18 (.indexAddr 6 (t 14) (t 16))<|o 19 (.load true 6 (t 18))<|o 6 (.new 41 [(.int .i64 0),(.int .i64 0),(.int .i64 0),(.int .i64 0),(.int .i64 0),(.int .i64 0)])<|n (.store 6 (t 6) (t 19))<|z)<|
 (S (R<|f 20 1 6<|l 21 20<|b 22 .gtr (t 21) (i 0)<|m 23 22<|q 29 23 true (g 24 5) (l 24 3<|f 25 1 6<|l 26 25<|o 27 (.hU (t 24) [(t 26)])<|o 28 (.un .not (t 27))<|z) (t 28)<|
 z)<|
 (.cond (t 29) [] []
 .ret
 .skip))))<|
 (R<|b 30 .add (t 16) (i 1)<|m 16 30<|z))))))))
open Go.aN.G in
def CP:bU:=⟨3,31,(S (R<|c9 3 85 0<|z)<|
 (S (R<|l 7 1<|z)<|
 (.block 0 [] []
 (.ju (t 7) [2,3] [8] sm sn)))),[],[]⟩
theorem Z6:b5 96 CP:=b7 Tryz.func96 rfl
def N8(Γ:aR)(n:Nat)(al ay bV:J)(h:U):bh:=bF (.ptr h.length 0) (h++[.box (b' al) 85 .rw]) λv0 h1=>(ab false 1 ay h1).bind λv2=>aB (λi aM=>aL [] h aM []) λj3=>(po Γ v2 [.yield h1.length] (h1++[.loop [bV,v0] [2,3] [8] sm sn .ready none .rw])).bind λc=>(rf h1.length c.2).bind λe=>bF iI (trim h1 [] (c.2.set h1.length .dead)) λj b=>
Al e (j3 [] b) (λg=>bif cC g 0 then(j3 [] b)else none) (aL [] h b [])
def Ic(b:aR)(c:Nat)(e:J)(g:Nat)(h i:U)(j k:J)(l:bb):(bb)->bb:=λc m n=>(ar .lss (aI m 0) k).bind λk=>aB (λ_ k=>aB (λ_ b=>(ar .add (aI m 0) (.int .i64 1)).bind λe=>c [e] (trim i [e] b)) λc=>(bW 6 j (aI m 0)).bind λi=>(ab true 6 i k).bind λi=>bF (.ptr k.length 0) (k++[.box [.int .i64 0,.int .i64 0,.int .i64 0,.int .i64 0,.int .i64 0,.int .i64 0] 41 .rw]) λj k=>(a_ 6 j i k).bind λi=>(aq 1 j).bind λk=>(ab false 1 k i).bind λk=>(ar .gtr k (.int .i64 0)).bind λk=>a6 (λb e=>aB (λ_ b=>c [] b) λc=>a8 b ((m7 g .ret e).map λb=>(b.1,trim h [] b.2)) (c [] e)) λc=>a7 k true ((ab false 1 e i).bind λe=>(aq 1 j).bind λg=>(ab false 1 g i).bind λg=>(gh b e [g] i).bind λb=>(di .not b.1).bind λe=>c e b.2) (c (.bool false) i)) λb=>a8 k (b [] n) (l [] n)
def N9(b:aR)(c:Nat)(e g h:J)(i:Nat)(j:U):bh:=(qc i j).bind λk=>aB (λ_ b=>(m7 i .normal b).map λb=>(b.1,trim j [] b.2)) λl=>(aq 10 e).bind λe=>(ab false 1 e k).bind λe=>(bW 2 e h).bind λe=>(aq 1 e).bind λe=>(ab false 1 e k).bind λe=>(bw false e).bind λh=>aB (λ_ b=>l [] b) λl=>cr (Ic b c g i j k e h l) c [(.int .i64 0)] k
theorem Z7(Γ:aR)(n:Nat)(cP c e:J)(b:Nat)(h:U)(dY:Option fw)(md:eg)(ae:h[b]?=I (.loop [cP,c] [2,3] [8] sm sn .ready dY md)):nQ Γ n (.ptr b 0::[e]) h=N9 Γ n cP c e b h:=(Hs ae rfl).trans (by kernel_rfl)
open Go.aN.G in
def CQ:bU:=⟨2,13,(S (R<|l 4 1<|b3 5 0<|z)<|
 (.block 0 [] ([3]++g 5 8)
 (.loop [5] ([3]++g 6 7)
 (S (R<|b 6 .lss (t 5) (t 4)<|z)<|
 (S (.cond (t 6) [] []
 .skip
 (.exit 0))<|
 (S (.block 1 [] ([3]++g 7 5)
 (S (R<|m 7 5<|m 3 7<|z)<|
 (S (R<|m 8 0<|m 9 3<|o 10 (.hU (t 8) [(t 9)])<|dB 11 10<|z)<|
 (.cond (t 11) [] []
 .ret
 .skip))))<|
 (R<|b 12 .add (t 5) (i 1)<|m 5 12<|z))))))),[],[]⟩
theorem Z8:b5 97 CQ:=b7 Tryz.func97 rfl
def Ie(b:aR)(c:Nat)(e:J)(g:U)(h:J)(i:bb):(bb)->bb:=λc j k=>(ar .lss (aI j 0) h).bind λh=>aB (λ_ h=>aB (λ_ b=>(ar .add (aI j 0) (.int .i64 1)).bind λe=>c [e] (trim g [e] b)) λc=>(gh b e [(aI j 0)] h).bind λb=>(di .not b.1).bind λe=>aB (λ_ b=>c [] b) λc=>a8 e (aL [] g b.2 []) (c [] b.2)) λb=>a8 h (b [] k) (i [] k)
def N_(b:aR)(c:Nat)(e g:J)(h:U):bh:=(ab false 1 g h).bind λg=>aB (λ_ b=>aL [] h b []) λi=>cr (Ie b c e h g i) c [(.int .i64 0)] h
open Go.aN.G in
def CR:bU:=⟨2,28,(S (R<|f 7 12 1<|l 8 7<|bS 9 8<|b3 10 0<|z)<|
 (.block 0 [] ([4,6]++g 10 18)
 (.loop [10] ([4,6]++g 11 17)
 (S (R<|b 11 .lss (t 10) (t 9)<|z)<|
 (S (.cond (t 11) [] []
 .skip
 (.exit 0))<|
 (S (.block 1 [] ([4,6]++g 12 15)
 (S (R<|cu 12 33 8 10<|bM 13 33 12<|o 4 (.new 57 rm)<|bP 33 4 13<|z)<|
 (S (R<|f 14 1 4<|l 15 14<|bS 16 15<|b3 17 0<|z)<|
 (.block 2 [] ([6]++g 17 10)
 (.loop [17] ([6]++g 18 9)
 (S (R<|b 18 .lss (t 17) (t 16)<|z)<|
 (S (.cond (t 18) [] []
 .skip
 (.exit 2))<|
 (S (.block 3 [] ([6]++g 19 7)
 (S (R<|cu 19 2 15 17<|bM 20 2 19<|o 6 (.new 89 [(.int .i64 0),(.int .i64 0)])<|bP 2 6 20<|z)<|
 (S (R<|m 21 0<|f 22 1 6<|l 23 22<|o 24 (.hU (t 21) [(t 23)])<|dB 25 24<|z)<|
 (.cond (t 25) [] []
 .ret
 .skip))))<|
 (R<|b 26 .add (t 17) (i 1)<|m 17 26<|z)))))))))<|
 (R<|b 27 .add (t 10) (i 1)<|m 10 27<|z))))))),[],[]⟩
theorem Z9:b5 98 CR:=b7 Tryz.func98 rfl
def CS(b:aR)(c:Nat)(e:J)(g h:U)(i j:J)(k:bb):(bb)->bb:=λc l m=>(ar .lss (aI l 0) j).bind λj=>aB (λ_ j=>aB (λ_ b=>(ar .add (aI l 0) (.int .i64 1)).bind λe=>c [e] (trim h [e] b)) λc=>(bW 2 i (aI l 0)).bind λh=>(ab true 2 h j).bind λh=>bF (.ptr j.length 0) (j++[.box [.int .i64 0,.int .i64 0] 89 .rw]) λi j=>(a_ 2 i h j).bind λh=>(aq 1 i).bind λi=>(ab false 1 i h).bind λi=>(gh b e [i] h).bind λb=>(di .not b.1).bind λe=>aB (λ_ b=>c [] b) λc=>a8 e (aL [] g b.2 []) (c [] b.2)) λb=>a8 j (b [] m) (k [] m)
def Ig(b:aR)(c:Nat)(e:J)(g:U)(h i:J)(j:bb):(bb)->bb:=λk l m=>(ar .lss (aI l 0) i).bind λi=>aB (λ_ i=>aB (λ_ b=>(ar .add (aI l 0) (.int .i64 1)).bind λc=>k [c] (trim g [c] b)) λj=>(bW 33 h (aI l 0)).bind λh=>(ab true 33 h i).bind λh=>bF (.ptr i.length 0) (i++[.box h0 57 .rw]) λi k=>(a_ 33 i h k).bind λh=>(aq 1 i).bind λi=>(ab false 1 i h).bind λi=>(bw false i).bind λk=>aB (λ_ b=>j [] b) λj=>cr (CS b c e g h i k j) c [(.int .i64 0)] h) λb=>a8 i (b [] m) (j [] m)
def N'(b:aR)(c:Nat)(e g:J)(h:U):bh:=(aq 12 g).bind λg=>(ab false 1 g h).bind λg=>(bw false g).bind λi=>aB (λ_ b=>aL [] h b []) λj=>cr (Ig b c e h g i j) c [(.int .i64 0)] h
open Go.aN.G in
def CT:bU:=⟨1,142,(S (R<|c9 1 27 0<|o 2 (.move (.const (.string ⟨#[]⟩)))<|b3 3 0<|b3 4 0<|z)<|
 (S (R<|f 10 1 1<|l 11 10<|dA 12 56 11<|m 9 12<|eC 13 9 0<|eC 14 9 1<|o 5 (.new 83 iM)<|bP 29 5 13<|m 6 14<|z)<|
 (S (D<|f 16 0 1<|l 17 16<|O 18 (.call 137 [(t 17)])<|O 19 (.call 136 [(t 18),(.const (.string ⟨#[110,97,109,101]⟩)),(i 1)])<|m 20 6<|b 21 .eql (t 20) (i 0)<|O 22 (.call 136 [(t 21),(.const (.string ⟨#[100,105,97,108,101,99,116]⟩)),(i 6)])<|f 23 2 1<|l 24 23<|f 25 1 5<|l 26 25<|O 27 (.call 57 [(t 24),(i 1),(t 26)])<|O 28 (.call 136 [(t 27),(.const (.string ⟨#[99,104,97,110,110,101,108,115]⟩)),(i 5)])<|(.op (I 29) (.lQ 154 eH 3 [(0,3,(t 19)),(3,3,(t 22)),(6,3,(t 28))]) .no<|O 30 (.call 135 [(t 29)])<|m 15 30<|eC 31 15 0<|eC 32 15 1<|o 7 (.new 154 eH)<|bP 3 7 31<|m 8 32<|z))<|
 (S (S (R<|m 33 8<|z)<|
 (.cond (t 33) [] ([2,3,4]++g 34 6)
 (S (D<|f 34 0 7<|l 35 34<|f 36 1 7<|l 37 36<|f 38 2 7<|l 39 38<|m 2 35<|m 3 37<|m 4 39<|z)<|
 .ret)
 .skip))<|
 (S (D<|f 41 10 1<|l 42 41<|bS 43 42<|f 44 2 5<|l 45 44<|O 46 (.call 57 [(t 43),(i 1),(t 45)])<|O 47 (.call 136 [(t 46),(.const (.string ⟨#[112,97,116,116,101,114,110,115]⟩)),(i 4)])<|bM 48 13 1<|f 49 3 5<|l 50 49<|O 51 (.call 138 [(t 48),(t 50)])<|f 52 3 1<|l 53 52<|bS 54 53<|O 55 (.call 57 [(t 54),(i 1),(i 64)])<|O 56 (.call 136 [(t 55),(.const (.string ⟨#[111,114,100,101,114,115]⟩)),(i 4)])<|bM 57 13 1<|O 58 (.call 139 [(t 57)])<|f 59 4 1<|l 60 59<|f 61 3 1<|l 62 61<|bS 63 62<|b 64 .sub (t 63) (i 1)<|O 65 (.call 57 [(t 60),(i 0),(t 64)])<|O 66 (.call 136 [(t 65),(.const (.string ⟨#[114,101,115,116,97,114,116]⟩)),(i 5)])<|f 67 5 1<|l 68 67<|O 69 (.call 57 [(t 68),(i 1),(i 31)])<|O 70 (.call 136 [(t 69),(.const (.string ⟨#[115,112,101,101,100]⟩)),(i 5)])<|f 71 6 1<|l 72 71<|O 73 (.call 57 [(t 72),(i 32),(i 255)])<|O 74 (.call 136 [(t 73),(.const (.string ⟨#[116,101,109,112,111]⟩)),(i 5)])<|f 75 7 1<|l 76 75<|O 77 (.call 57 [(t 76),(i 0),(i 128)])<|O 78 (.call 136 [(t 77),(.const (.string ⟨#[103,108,111,98,97,108]⟩)),(i 5)])<|f 79 8 1<|l 80 79<|dB 81 80<|m 82 81<|q 85 82 false [83,84] (f 83 8 5<|l 84 83<|z) (t 84)<|
 O 86 (.call 136 [(t 85),(.const (.string ⟨#[108,105,110,101,97,114]⟩)),(i 6)])<|f 87 9 1<|l 88 87<|bS 89 88<|f 90 2 1<|l 91 90<|b 92 .eql (t 89) (t 91)<|O 93 (.call 136 [(t 92),(.const (.string ⟨#[112,97,110,115]⟩)),(i 4)])<|bM 94 13 1<|O 95 (.call 140 [(t 94)])<|f 96 11 1<|l 97 96<|bS 98 97<|b 99 .leq (t 98) (i 31)<|m 100 99<|q 110 100 true (g 101 4++[109]++g 105 4) (f 101 1 1<|l 102 101<|b 103 .neq (t 102) (i 6)<|m 104 103<|q 109 104 false (g 105 4) (f 105 11 1<|l 106 105<|bS 107 106<|b 108 .eql (t 107) (i 0)<|z) (t 108)<|
 z) (t 109)<|
 O 111 (.call 136 [(t 110),(.const (.string ⟨#[115,97,109,112,108,101,115]⟩)),(i 4)])<|bM 112 13 1<|O 113 (.call 141 [(t 112)])<|f 114 12 1<|l 115 114<|bS 116 115<|b 117 .leq (t 116) (i 31)<|m 118 117<|q 127 118 true ([119,120,121,126]++g 122 4) (f 119 6 5<|l 120 119<|m 121 120<|q 126 121 false (g 122 4) (f 122 12 1<|l 123 122<|bS 124 123<|b 125 .eql (t 124) (i 0)<|z) (t 125)<|
 z) (t 126)<|
 O 128 (.call 136 [(t 127),(.const (.string ⟨#[105,110,115,116,115]⟩)),(i 4)])<|bM 129 13 1<|dA 130 142 129<|(.op (I 131) (.lQ 154 eH 15 [(0,3,(t 47)),(3,3,(t 51)),(6,3,(t 56)),(9,3,(t 58)),(12,3,(t 66)),(15,3,(t 70)),(18,3,(t 74)),(21,3,(t 78)),(24,3,(t 86)),(27,3,(t 93)),(30,3,(t 95)),(33,3,(t 111)),(36,3,(t 113)),(39,3,(t 128)),(42,3,(t 130))]) .no<|dA 132 135 131<|m 40 132<|eC 133 40 0<|eC 134 40 1<|bP 3 7 133<|m 8 134<|z))<|
 (S (S (R<|m 135 8<|z)<|
 (.cond (t 135) [] ([2,3,4]++g 136 6)
 (S (D<|f 136 0 7<|l 137 136<|f 138 1 7<|l 139 138<|f 140 2 7<|l 141 140<|m 2 137<|m 3 139<|m 4 141<|z)<|
 .ret)
 .skip))<|
 (S (R<|o 2 (.move (.const (.string ⟨#[]⟩)))<|o 3 (.move (i (-1)))<|b3 4 0<|z)<|
 .ret))))))),[.tmp 2,.tmp 3,.tmp 4],[.ah,.ah,.ah]⟩
theorem Z_:b5 99 CT:=b7 Tryz.func99 rfl
def Oa(b:aR)(c:Nat)(e:J)(g:U):bh:=bF (.ptr g.length 0) (g++[.box (b' e) 27 .rw]) λc e=>(aq 1 c).bind λh=>(ab false 1 h e).bind λh=>(b 56 [h] e).bind λe=>(ea e.1 0).bind λh=>(ea e.1 1).bind λi=>bF (.ptr e.2.length 0) (e.2++[.box eR 83 .rw]) λe j=>(a_ 29 e h j).bind λh=>(aq 0 c).bind λj=>(ab false 1 j h).bind λj=>(b 137 [j] (lock h)).bind λj=>dQ h j.2 λh=>(b 136 [j.1,(.str ⟨#[110,97,109,101]⟩:J),(.int .i64 1)] (lock h)).bind λj=>dQ h j.2 λh=>(ar .eql i (.int .i64 0)).bind λi=>(b 136 [i,(.str ⟨#[100,105,97,108,101,99,116]⟩:J),(.int .i64 6)] (lock h)).bind λi=>dQ h i.2 λh=>(aq 2 c).bind λk=>(ab false 1 k h).bind λk=>(aq 1 e).bind λl=>(ab false 1 l h).bind λl=>(b 57 [k,(.int .i64 1),l] (lock h)).bind λk=>dQ h k.2 λh=>(b 136 [k.1,(.str ⟨#[99,104,97,110,110,101,108,115]⟩:J),(.int .i64 5)] (lock h)).bind λk=>dQ h k.2 λh=>(cK (hL [.str ⟨#[]⟩,.int .i64 0,.int .i64 0] 3) [(0,3,j.1),(3,3,i.1),(6,3,k.1)]).bind λi=>hY (i.all fz) (bF (.bz 3 (hJ 3 3 i)) (h) λh i=>(b 135 [h] (lock i)).bind λh=>dQ i h.2 λi=>(ea h.1 0).bind λj=>(ea h.1 1).bind λh=>bF (.ptr i.length 0) (i++[.box [.str ⟨#[]⟩,.int .i64 0,.int .i64 0] 154 .rw]) λi k=>(a_ 3 i j k).bind λj=>aB (λ_ h=>(aq 10 c).bind λj=>(ab false 1 j h).bind λj=>(bw false j).bind λj=>(aq 2 e).bind λk=>(ab false 1 k h).bind λk=>(b 57 [j,(.int .i64 1),k] (lock h)).bind λj=>dQ h j.2 λh=>(b 136 [j.1,(.str ⟨#[112,97,116,116,101,114,110,115]⟩:J),(.int .i64 4)] (lock h)).bind λj=>dQ h j.2 λh=>(ab true 13 c h).bind λk=>(aq 3 e).bind λl=>(ab false 1 l h).bind λl=>(b 138 [k,l] (lock h)).bind λk=>dQ h k.2 λh=>(aq 3 c).bind λl=>(ab false 1 l h).bind λl=>(bw false l).bind λl=>(b 57 [l,(.int .i64 1),(.int .i64 64)] (lock h)).bind λl=>dQ h l.2 λh=>(b 136 [l.1,(.str ⟨#[111,114,100,101,114,115]⟩:J),(.int .i64 4)] (lock h)).bind λl=>dQ h l.2 λh=>(ab true 13 c h).bind λm=>(b 139 [m] (lock h)).bind λm=>dQ h m.2 λh=>(aq 4 c).bind λn=>(ab false 1 n h).bind λn=>(aq 3 c).bind λo=>(ab false 1 o h).bind λo=>(bw false o).bind λo=>(ar .sub o (.int .i64 1)).bind λo=>(b 57 [n,(.int .i64 0),o] (lock h)).bind λn=>dQ h n.2 λh=>(b 136 [n.1,(.str ⟨#[114,101,115,116,97,114,116]⟩:J),(.int .i64 5)] (lock h)).bind λn=>dQ h n.2 λh=>(aq 5 c).bind λo=>(ab false 1 o h).bind λo=>(b 57 [o,(.int .i64 1),(.int .i64 31)] (lock h)).bind λo=>dQ h o.2 λh=>(b 136 [o.1,(.str ⟨#[115,112,101,101,100]⟩:J),(.int .i64 5)] (lock h)).bind λo=>dQ h o.2 λh=>(aq 6 c).bind λp=>(ab false 1 p h).bind λp=>(b 57 [p,(.int .i64 32),(.int .i64 255)] (lock h)).bind λp=>dQ h p.2 λh=>(b 136 [p.1,(.str ⟨#[116,101,109,112,111]⟩:J),(.int .i64 5)] (lock h)).bind λp=>dQ h p.2 λh=>(aq 7 c).bind λq=>(ab false 1 q h).bind λq=>(b 57 [q,(.int .i64 0),(.int .i64 128)] (lock h)).bind λq=>dQ h q.2 λh=>(b 136 [q.1,(.str ⟨#[103,108,111,98,97,108]⟩:J),(.int .i64 5)] (lock h)).bind λq=>dQ h q.2 λh=>(aq 8 c).bind λt=>(ab false 1 t h).bind λt=>(di .not t).bind λt=>a6 (λh t=>(b 136 [h,(.str ⟨#[108,105,110,101,97,114]⟩:J),(.int .i64 6)] (lock t)).bind λh=>dQ t h.2 λt=>(aq 9 c).bind λu=>(ab false 1 u t).bind λu=>(bw false u).bind λu=>(aq 2 c).bind λw=>(ab false 1 w t).bind λw=>(ar .eql u w).bind λu=>(b 136 [u,(.str ⟨#[112,97,110,115]⟩:J),(.int .i64 4)] (lock t)).bind λu=>dQ t u.2 λt=>(ab true 13 c t).bind λw=>(b 140 [w] (lock t)).bind λw=>dQ t w.2 λt=>(aq 11 c).bind λx=>(ab false 1 x t).bind λx=>(bw false x).bind λx=>(ar .leq x (.int .i64 31)).bind λx=>a6 (λt x=>(b 136 [t,(.str ⟨#[115,97,109,112,108,101,115]⟩:J),(.int .i64 4)] (lock x)).bind λt=>dQ x t.2 λx=>(ab true 13 c x).bind λy=>(b 141 [y] (lock x)).bind λy=>dQ x y.2 λx=>(aq 12 c).bind λz=>(ab false 1 z x).bind λz=>(bw false z).bind λz=>(ar .leq z (.int .i64 31)).bind λz=>a6 (λe x=>(b 136 [e,(.str ⟨#[105,110,115,116,115]⟩:J),(.int .i64 4)] (lock x)).bind λe=>dQ x e.2 λx=>(ab true 13 c x).bind λc=>(b 142 [c] x).bind λc=>(cK (hL [.str ⟨#[]⟩,.int .i64 0,.int .i64 0] 15) [(0,3,j.1),(3,3,k.1),(6,3,l.1),(9,3,m.1),(12,3,n.1),(15,3,o.1),(18,3,p.1),(21,3,q.1),(24,3,h.1),(27,3,u.1),(30,3,w.1),(33,3,t.1),(36,3,y.1),(39,3,e.1),(42,3,c.1)]).bind λe=>hY (e.all fz) (bF (.bz 3 (hJ 3 15 e)) (c.2) λc e=>(b 135 [c] e).bind λb=>(ea b.1 0).bind λc=>(ea b.1 1).bind λe=>(a_ 3 i c b.2).bind λb=>aB (λ_ b=>aL [.ah,.ah,.ah] g b [(.str ⟨#[]⟩:J),(.int .i64 (-1)),(.int .i64 0)]) λc=>a8 e ((aq 0 i).bind λc=>(ab false 1 c b).bind λc=>(aq 1 i).bind λe=>(ab false 1 e b).bind λe=>(aq 2 i).bind λh=>(ab false 1 h b).bind λh=>aL [.ah,.ah,.ah] g b [c,e,h]) (c [] b))) λb=>a7 z true ((aq 6 e).bind λe=>(ab false 1 e x).bind λe=>a6 (λc e=>b c e) λb=>a7 e false ((aq 12 c).bind λc=>(ab false 1 c x).bind λc=>(bw false c).bind λc=>(ar .eql c (.int .i64 0)).bind λc=>b c x) (b (.bool true) x)) (b (.bool false) x)) λb=>a7 x true ((aq 1 c).bind λe=>(ab false 1 e t).bind λe=>(ar .neq e (.int .i64 6)).bind λe=>a6 (λc e=>b c e) λb=>a7 e false ((aq 11 c).bind λc=>(ab false 1 c t).bind λc=>(bw false c).bind λc=>(ar .eql c (.int .i64 0)).bind λc=>b c t) (b (.bool true) t)) (b (.bool false) t)) λb=>a7 t false ((aq 8 e).bind λc=>(ab false 1 c h).bind λc=>b c h) (b (.bool true) h)) λb=>a8 h ((aq 0 i).bind λb=>(ab false 1 b j).bind λb=>(aq 1 i).bind λc=>(ab false 1 c j).bind λc=>(aq 2 i).bind λe=>(ab false 1 e j).bind λe=>aL [.ah,.ah,.ah] g j [b,c,e]) (b [] j))
open Go.aN.G in
def CU:bU:=⟨2,50,(S (R<|c9 2 27 0<|z)<|
 (S (R<|f 7 10 2<|l 8 7<|bS 9 8<|b3 10 0<|z)<|
 (.block 0 [] ([4,5,6]++g 10 40)
 (.loop [10] ([4,5,6]++g 11 39)
 (S (R<|b 11 .lss (t 10) (t 9)<|z)<|
 (S (.cond (t 11) [] []
 .skip
 (.exit 0))<|
 (S (.block 1 [] ([4,5,6]++g 12 37)
 (S (R<|m 12 10<|m 4 12<|z)<|
 (S (R<|f 13 10 2<|l 14 13<|m 15 4<|cu 16 2 14 15<|f 17 1 16<|l 18 17<|bS 19 18<|b3 20 0<|z)<|
 (.block 2 [] ([5,6]++g 20 29)
 (.loop [20] ([5,6]++g 21 28)
 (S (R<|b 21 .lss (t 20) (t 19)<|z)<|
 (S (.cond (t 21) [] []
 .skip
 (.exit 2))<|
 (S (.block 3 [] ([5,6]++g 22 26)
 (S (R<|m 22 20<|m 5 22<|z)<|
 (S (R<|f 23 10 2<|l 24 23<|m 25 4<|cu 26 2 24 25<|f 27 1 26<|l 28 27<|m 29 5<|cu 30 6 28 29<|m 6 30<|z)<|
 (S (R<|m 31 6<|f' 32 31<|f 33 1 32<|l 34 33<|b 35 .neq (t 34) (i 0)<|z)<|
 (.cond (t 35) [] (g 36 12)
 (R<|m 36 6<|m 37 1<|m 38 6<|f' 39 38<|f 40 1 39<|l 41 40<|b 42 .sub (t 41) (i 1)<|cu 43 1 37 42<|l 44 43<|b 45 .add (i 1) (t 44)<|f' 46 36<|f 47 1 46<|bP 1 47 45<|z)
 .skip)))))<|
 (R<|b 48 .add (t 20) (i 1)<|m 20 48<|z)))))))))<|
 (R<|b 49 .add (t 10) (i 1)<|m 10 49<|z)))))))),[],[]⟩
theorem Z':b5 100 CU:=b7 Tryz.func100 rfl
def yC(b:aR)(c:Nat)(e g:J)(h:List J)(i:U)(j:J)(k:bb):(bb)->bb:=λb c l=>(ar .lss (aI c 0) j).bind λj=>aB (λ_ j=>aB (λ_ e=>(ar .add (aI c 0) (.int .i64 1)).bind λc=>b [c] (trim i [c] e)) λb=>(aq 10 g).bind λg=>(ab false 1 g j).bind λg=>(bW 2 g (aI h 0)).bind λg=>(aq 1 g).bind λg=>(ab false 1 g j).bind λg=>(bW 6 g (aI c 0)).bind λc=>(fA c).bind λg=>(aq 1 g).bind λg=>(ab false 1 g j).bind λg=>(ar .neq g (.int .i64 0)).bind λg=>aB (λ_ c=>b [] c) λb=>a8 g ((fA c).bind λg=>(aq 1 g).bind λg=>(ab false 1 g j).bind λg=>(ar .sub g (.int .i64 1)).bind λg=>(bW 1 e g).bind λe=>(ab false 1 e j).bind λe=>(ar .add (.int .i64 1) e).bind λe=>(fA c).bind λc=>(aq 1 c).bind λc=>(a_ 1 c e j).bind λc=>b [] c) (b [] j)) λb=>a8 j (b [] l) (k [] l)
def Ih(b:aR)(c:Nat)(e g:J)(h:U)(i:J)(j:bb):(bb)->bb:=λk l m=>(ar .lss (aI l 0) i).bind λi=>aB (λ_ i=>aB (λ_ b=>(ar .add (aI l 0) (.int .i64 1)).bind λc=>k [c] (trim h [c] b)) λh=>(aq 10 g).bind λj=>(ab false 1 j i).bind λj=>(bW 2 j (aI l 0)).bind λj=>(aq 1 j).bind λj=>(ab false 1 j i).bind λj=>(bw false j).bind λj=>aB (λ_ b=>h [] b) λh=>cr (yC b c e g l i j h) c [(.int .i64 0)] i) λb=>a8 i (b [] m) (j [] m)
def Ob(b:aR)(c:Nat)(e g:J)(h:U):bh:=bF (.ptr h.length 0) (h++[.box (b' e) 27 .rw]) λe i=>(aq 10 e).bind λj=>(ab false 1 j i).bind λj=>(bw false j).bind λj=>aB (λ_ b=>aL [] h b []) λh=>cr (Ih b c g e i j h) c [(.int .i64 0)] i
open Go.aN.G in
def CV:bU:=⟨1,9,(S (R<|cn 2<|z)<|
 (S (R<|m 3 0<|b 4 .geq (t 3) (i 1)<|m 5 4<|q 8 5 true [6,7] (m 6 0<|b 7 .leq (t 6) (i 6)<|z) (t 7)<|
 m 2 8<|z)<|
 .ret)),[.tmp 2],[.ah]⟩
theorem aaa:b5 101 CV:=b7 Tryz.func101 rfl
def Oc(b:aR)(c:Nat)(e:J)(g:U):bh:=(ar .geq e (.int .i64 1)).bind λb=>a6 (λb c=>aL [.ah] g c [b]) λc=>a7 b true ((ar .leq e (.int .i64 6)).bind λb=>c b g) (c (.bool false) g)
open Go.aN.G in
def CW:bU:=⟨0,8,(S (R<|o 0 (.new 131 MT)<|z)<|
 (S (R<|o 1 (.build iM [(0,1,(.const (.string ⟨#[102,111,117,114]⟩))),(1,1,(i 4)),(2,1,(i 32)),(3,1,(i 64)),(4,1,(i 49)),(5,1,(i 84)),(9,1,(i 1)),(10,1,(i 453)),(11,1,(i 3424)),(16,1,(i 5)),(17,1,(.const (.bool true))),(18,1,(i 1)),(19,1,(.const (.bool true))),(21,1,(i 1)),(22,1,(.const (.bool true))),(25,1,(.const (.bool true)))])<|o 2 (.build iM [(0,1,(.const (.string ⟨#[115,99,114,101,97,109]⟩))),(1,1,(i 16)),(2,1,(i 32)),(3,1,(i 64)),(4,1,(i 13)),(5,1,(i 108)),(7,1,(.const (.bool true))),(9,1,(i 1)),(10,1,(i 64)),(11,1,(i 32767)),(16,1,(i 5))])<|o 3 (.build iM [(0,1,(.const (.string ⟨#[102,97,115,116]⟩))),(1,1,(i 16)),(2,1,(i 32)),(4,1,(i 1)),(5,1,(i 96)),(6,1,(.const (.bool true))),(7,1,(.const (.bool true))),(8,1,(.const (.bool true))),(10,1,(i 32)),(11,1,(i 65535)),(12,1,(.const (.bool true))),(16,1,(i 6)),(17,1,(.const (.bool true))),(19,1,(.const (.bool true))),(20,1,(.const (.bool true))),(21,1,(i 1)),(23,1,(.const (.bool true))),(24,1,(.const (.bool true))),(25,1,(.const (.bool true))),(26,1,(.const (.bool true))),(27,1,(.const (.bool true)))])<|o 4 (.build iM [(0,1,(.const (.string ⟨#[105,109,112,117,108,115,101]⟩))),(1,1,(i 16)),(2,1,(i 32)),(4,1,(i 1)),(5,1,(i 120)),(6,1,(.const (.bool true))),(7,1,(.const (.bool true))),(8,1,(.const (.bool true))),(10,1,(i 16)),(11,1,(i 65535)),(15,1,(.const (.bool true))),(16,1,(i 6)),(19,1,(.const (.bool true))),(21,1,(i 2)),(23,1,(.const (.bool true))),(27,1,(.const (.bool true)))])<|o 5 (.build iM [(0,1,(.const (.string ⟨#[99,111,109,112,111,115,101]⟩))),(1,1,(i 8)),(2,1,(i 32)),(3,1,(i 64)),(4,1,(i 13)),(5,1,(i 72)),(9,1,(i 2)),(13,1,(.const (.bool true))),(16,1,(i 5)),(18,1,(i 2)),(28,1,(.const (.bool true)))])<|o 6 (.build iM [(0,1,(.const (.string ⟨#[99,104,105,112]⟩))),(1,1,(i 4)),(2,1,(i 32)),(4,1,(i 13)),(5,1,(i 108)),(6,1,(.const (.bool true))),(9,1,(i 1)),(10,1,(i 16)),(11,1,(i 65535)),(14,1,(.const (.bool true))),(16,1,(i 5)),(17,1,(.const (.bool true))),(18,1,(i 2)),(23,1,(.const (.bool true))),(27,1,(.const (.bool true)))])<|o 7 (.build MT [(29,29,(t 1)),(58,29,(t 2)),(87,29,(t 3)),(116,29,(t 4)),(145,29,(t 5)),(174,29,(t 6))])<|bP 203 0 7<|z)<|
 .ret)),[.cell 0 true 203],[.ah]⟩
theorem aab:b5 102 CW:=b7 Tryz.func102 rfl
def Od(b:aR)(c:Nat)(e:U):bh:=bF (.ptr e.length 0) (e++[.box A7 131 .rw]) λb c=>(cK eR [(0,1,(.str ⟨#[102,111,117,114]⟩:J)),(1,1,(.int .i64 4)),(2,1,(.int .i64 32)),(3,1,(.int .i64 64)),(4,1,(.int .i64 49)),(5,1,(.int .i64 84)),(9,1,(.int .i64 1)),(10,1,(.int .i64 453)),(11,1,(.int .i64 3424)),(16,1,(.int .i64 5)),(17,1,(.bool true)),(18,1,(.int .i64 1)),(19,1,(.bool true)),(21,1,(.int .i64 1)),(22,1,(.bool true)),(25,1,(.bool true))]).bind λg=>(cK eR [(0,1,(.str ⟨#[115,99,114,101,97,109]⟩:J)),(1,1,(.int .i64 16)),(2,1,(.int .i64 32)),(3,1,(.int .i64 64)),(4,1,(.int .i64 13)),(5,1,(.int .i64 108)),(7,1,(.bool true)),(9,1,(.int .i64 1)),(10,1,(.int .i64 64)),(11,1,(.int .i64 32767)),(16,1,(.int .i64 5))]).bind λh=>(cK eR [(0,1,(.str ⟨#[102,97,115,116]⟩:J)),(1,1,(.int .i64 16)),(2,1,(.int .i64 32)),(4,1,(.int .i64 1)),(5,1,(.int .i64 96)),(6,1,(.bool true)),(7,1,(.bool true)),(8,1,(.bool true)),(10,1,(.int .i64 32)),(11,1,(.int .i64 65535)),(12,1,(.bool true)),(16,1,(.int .i64 6)),(17,1,(.bool true)),(19,1,(.bool true)),(20,1,(.bool true)),(21,1,(.int .i64 1)),(23,1,(.bool true)),(24,1,(.bool true)),(25,1,(.bool true)),(26,1,(.bool true)),(27,1,(.bool true))]).bind λi=>(cK eR [(0,1,(.str ⟨#[105,109,112,117,108,115,101]⟩:J)),(1,1,(.int .i64 16)),(2,1,(.int .i64 32)),(4,1,(.int .i64 1)),(5,1,(.int .i64 120)),(6,1,(.bool true)),(7,1,(.bool true)),(8,1,(.bool true)),(10,1,(.int .i64 16)),(11,1,(.int .i64 65535)),(15,1,(.bool true)),(16,1,(.int .i64 6)),(19,1,(.bool true)),(21,1,(.int .i64 2)),(23,1,(.bool true)),(27,1,(.bool true))]).bind λj=>(cK eR [(0,1,(.str ⟨#[99,111,109,112,111,115,101]⟩:J)),(1,1,(.int .i64 8)),(2,1,(.int .i64 32)),(3,1,(.int .i64 64)),(4,1,(.int .i64 13)),(5,1,(.int .i64 72)),(9,1,(.int .i64 2)),(13,1,(.bool true)),(16,1,(.int .i64 5)),(18,1,(.int .i64 2)),(28,1,(.bool true))]).bind λk=>(cK eR [(0,1,(.str ⟨#[99,104,105,112]⟩:J)),(1,1,(.int .i64 4)),(2,1,(.int .i64 32)),(4,1,(.int .i64 13)),(5,1,(.int .i64 108)),(6,1,(.bool true)),(9,1,(.int .i64 1)),(10,1,(.int .i64 16)),(11,1,(.int .i64 65535)),(14,1,(.bool true)),(16,1,(.int .i64 5)),(17,1,(.bool true)),(18,1,(.int .i64 2)),(23,1,(.bool true)),(27,1,(.bool true))]).bind λl=>(cK A7 [(29,29,(J.agg g)),(58,29,(J.agg h)),(87,29,(J.agg i)),(116,29,(J.agg j)),(145,29,(J.agg k)),(174,29,(J.agg l))]).bind λg=>(a_ 203 b (J.agg g) c).bind λc=>(ab true 203 b c).bind λb=>aL [.ah] e c [b]
open Go.aN.G in
def CX:bU:=⟨1,5,(S (R<|cn 2<|z)<|
 (S (R<|m 3 0<|o 4 (.call 104 [(t 3),(i 1),(i 16)])<|m 2 4<|z)<|
 .ret)),[.tmp 2],[.ah]⟩
theorem aac:b5 103 CX:=b7 Tryz.func103 rfl
def Oe(b:aR)(c:Nat)(e:J)(g:U):bh:=(b 104 [e,(.int .i64 1),(.int .i64 16)] g).bind λb=>aL [.ah] g b.2 [b.1]
open Go.aN.G in
def CY:bU:=⟨3,15,(S (R<|cn 6<|z)<|
 (S (R<|m 7 0<|m 8 1<|b 9 .geq (t 7) (t 8)<|m 10 9<|q 14 10 true [11,12,13] (m 11 0<|m 12 2<|b 13 .leq (t 11) (t 12)<|z) (t 13)<|
 m 6 14<|z)<|
 .ret)),[.tmp 6],[.ah]⟩
theorem aad:b5 104 CY:=b7 Tryz.func104 rfl
def Of(b:aR)(c:Nat)(e g h:J)(i:U):bh:=(ar .geq e g).bind λb=>a6 (λb c=>aL [.ah] i c [b]) λc=>a7 b true ((ar .leq e h).bind λb=>c b i) (c (.bool false) i)
open Go.aN.G in
def CZ:bU:=⟨1,135,(S (R<|c9 1 57 0<|cn 2<|z)<|
 (S (S (R<|b3 3 0<|z)<|
 (.block 0 [] (g 2 33)
 (.loop [3] ([2]++g 4 31)
 (S (S (R<|m 5 3<|f 6 1 1<|l 7 6<|bS 8 7<|b 9 .lss (t 5) (t 8)<|z)<|
 (.cond (t 9) [] []
 .skip
 (.exit 0)))<|
 (S (.block 1 [] ([2,4]++g 12 23)
 (S (R<|f 12 1 1<|l 13 12<|m 14 3<|cu 15 2 13 14<|bM 16 2 15<|o 4 (.new 89 [(.int .i64 0),(.int .i64 0)])<|bP 2 4 16<|z)<|
 (S (R<|f 17 0 4<|l 18 17<|b 19 .lss (t 18) (i 0)<|m 20 19<|q 24 20 false [21,22,23] (f 21 0 4<|l 22 21<|b 23 .gtr (t 22) (i 119)<|z) (t 23)<|
 m 25 24<|q 29 25 false [26,27,28] (f 26 1 4<|l 27 26<|b 28 .lss (t 27) (i 0)<|z) (t 28)<|
 m 30 29<|q 34 30 false [31,32,33] (f 31 1 4<|l 32 31<|b 33 .gtr (t 32) (i 31)<|z) (t 33)<|
 z)<|
 (.cond (t 34) [] [2]
 (S (R<|cn 2<|z)<|
 .ret)
 .skip))))<|
 (R<|m 10 3<|b 11 .add (t 10) (i 1)<|m 3 11<|z))))))<|
 (S (R<|f 35 0 1<|l 36 35<|dA 37 137 36<|m 38 37<|q 49 38 true (g 39 5++[48]++g 44 4) (f 39 1 1<|l 40 39<|bS 41 40<|b 42 .eql (t 41) (i 0)<|m 43 42<|q 48 43 false (g 44 4) (f 44 1 1<|l 45 44<|bS 46 45<|b 47 .eql (t 46) (i 120)<|z) (t 47)<|
 z) (t 48)<|
 m 50 49<|q 54 50 true [51,52,53] (f 51 2 1<|bM 52 8 51<|o 53 (.call 145 [(t 52),(i 0),(i 64)])<|z) (t 53)<|
 m 55 54<|q 59 55 true [56,57,58] (f 56 10 1<|bM 57 8 56<|o 58 (.call 145 [(t 57),(i (-32)),(i 32)])<|z) (t 58)<|
 m 60 59<|q 64 60 true [61,62,63] (f 61 18 1<|bM 62 8 61<|o 63 (.call 145 [(t 62),(i (-32)),(i 32)])<|z) (t 63)<|
 m 65 64<|q 69 65 true [66,67,68] (f 66 26 1<|l 67 66<|b 68 .leq (i 0) (t 67)<|z) (t 68)<|
 m 70 69<|q 74 70 true [71,72,73] (f 71 26 1<|l 72 71<|b 73 .leq (t 72) (i 1024)<|z) (t 73)<|
 m 75 74<|q 79 75 true [76,77,78] (f 76 27 1<|l 77 76<|b 78 .leq (i 0) (t 77)<|z) (t 78)<|
 m 80 79<|q 84 80 true [81,82,83] (f 81 27 1<|l 82 81<|b 83 .leq (t 82) (i 3)<|z) (t 83)<|
 m 85 84<|q 89 85 true [86,87,88] (f 86 28 1<|l 87 86<|b 88 .leq (i 0) (t 87)<|z) (t 88)<|
 m 90 89<|q 94 90 true [91,92,93] (f 91 28 1<|l 92 91<|b 93 .leq (t 92) (i 3)<|z) (t 93)<|
 m 95 94<|q 99 95 true [96,97,98] (f 96 29 1<|l 97 96<|b 98 .leq (i 0) (t 97)<|z) (t 98)<|
 m 100 99<|q 104 100 true [101,102,103] (f 101 29 1<|l 102 101<|b 103 .leq (t 102) (i 2)<|z) (t 103)<|
 m 105 104<|q 109 105 true [106,107,108] (f 106 30 1<|l 107 106<|b 108 .leq (i 0) (t 107)<|z) (t 108)<|
 m 110 109<|q 114 110 true [111,112,113] (f 111 30 1<|l 112 111<|b 113 .leq (t 112) (i 64)<|z) (t 113)<|
 m 115 114<|q 119 115 true [116,117,118] (f 116 31 1<|l 117 116<|b 118 .leq (i (-1)) (t 117)<|z) (t 118)<|
 m 120 119<|q 124 120 true [121,122,123] (f 121 31 1<|l 122 121<|b 123 .leq (t 122) (i 127)<|z) (t 123)<|
 m 125 124<|q 129 125 true [126,127,128] (f 126 32 1<|l 127 126<|b 128 .leq (i (-1)) (t 127)<|z) (t 128)<|
 m 130 129<|q 134 130 true [131,132,133] (f 131 32 1<|l 132 131<|b 133 .leq (t 132) (i 127)<|z) (t 133)<|
 m 2 134<|z)<|
 .ret))),[.tmp 2],[.ah]⟩
theorem aae:b5 110 CZ:=b7 Tryz.func110 rfl
def C0(b:aR)(c:Nat)(e:U)(g:J)(h:U)(i:bb):(bb)->bb:=λb c j=>(aq 1 g).bind λk=>(ab false 1 k j).bind λk=>(bw false k).bind λk=>(ar .lss (aI c 0) k).bind λk=>aB (λ_ i=>aB (λ_ e=>(ar .add (aI c 0) (.int .i64 1)).bind λc=>b [c] (trim h [c] e)) λb=>(aq 1 g).bind λg=>(ab false 1 g i).bind λg=>(bW 2 g (aI c 0)).bind λc=>(ab true 2 c i).bind λc=>bF (.ptr i.length 0) (i++[.box [.int .i64 0,.int .i64 0] 89 .rw]) λg h=>(a_ 2 g c h).bind λc=>(aq 0 g).bind λh=>(ab false 1 h c).bind λh=>(ar .lss h (.int .i64 0)).bind λh=>a6 (λc h=>a6 (λc h=>a6 (λc g=>aB (λ_ c=>b [] c) λb=>a8 c (aL [.ah] e g [(.bool false)]) (b [] g)) λb=>a7 c false ((aq 1 g).bind λc=>(ab false 1 c h).bind λc=>(ar .gtr c (.int .i64 31)).bind λc=>b c h) (b (.bool true) h)) λb=>a7 c false ((aq 1 g).bind λc=>(ab false 1 c h).bind λc=>(ar .lss c (.int .i64 0)).bind λc=>b c h) (b (.bool true) h)) λb=>a7 h false ((aq 0 g).bind λe=>(ab false 1 e c).bind λe=>(ar .gtr e (.int .i64 119)).bind λe=>b e c) (b (.bool true) c)) λb=>a8 k (b [] j) (i [] j)
def Og(b:aR)(c:Nat)(e:J)(g:U):bh:=bF (.ptr g.length 0) (g++[.box (b' e) 57 .rw]) λe h=>aB (λ_ c=>(aq 0 e).bind λh=>(ab false 1 h c).bind λh=>(b 137 [h] c).bind λc=>a6 (λc h=>a6 (λc h=>a6 (λc h=>a6 (λb c=>a6 (λb c=>a6 (λb c=>a6 (λb c=>a6 (λb c=>a6 (λb c=>a6 (λb c=>a6 (λb c=>a6 (λb c=>a6 (λb c=>a6 (λb c=>a6 (λb c=>a6 (λb c=>a6 (λb c=>a6 (λb c=>aL [.ah] g c [b]) λg=>a7 b true ((aq 32 e).bind λb=>(ab false 1 b c).bind λb=>(ar .leq b (.int .i64 127)).bind λb=>g b c) (g (.bool false) c)) λg=>a7 b true ((aq 32 e).bind λb=>(ab false 1 b c).bind λb=>(ar .leq (.int .i64 (-1)) b).bind λb=>g b c) (g (.bool false) c)) λg=>a7 b true ((aq 31 e).bind λb=>(ab false 1 b c).bind λb=>(ar .leq b (.int .i64 127)).bind λb=>g b c) (g (.bool false) c)) λg=>a7 b true ((aq 31 e).bind λb=>(ab false 1 b c).bind λb=>(ar .leq (.int .i64 (-1)) b).bind λb=>g b c) (g (.bool false) c)) λg=>a7 b true ((aq 30 e).bind λb=>(ab false 1 b c).bind λb=>(ar .leq b (.int .i64 64)).bind λb=>g b c) (g (.bool false) c)) λg=>a7 b true ((aq 30 e).bind λb=>(ab false 1 b c).bind λb=>(ar .leq (.int .i64 0) b).bind λb=>g b c) (g (.bool false) c)) λg=>a7 b true ((aq 29 e).bind λb=>(ab false 1 b c).bind λb=>(ar .leq b (.int .i64 2)).bind λb=>g b c) (g (.bool false) c)) λg=>a7 b true ((aq 29 e).bind λb=>(ab false 1 b c).bind λb=>(ar .leq (.int .i64 0) b).bind λb=>g b c) (g (.bool false) c)) λg=>a7 b true ((aq 28 e).bind λb=>(ab false 1 b c).bind λb=>(ar .leq b (.int .i64 3)).bind λb=>g b c) (g (.bool false) c)) λg=>a7 b true ((aq 28 e).bind λb=>(ab false 1 b c).bind λb=>(ar .leq (.int .i64 0) b).bind λb=>g b c) (g (.bool false) c)) λg=>a7 b true ((aq 27 e).bind λb=>(ab false 1 b c).bind λb=>(ar .leq b (.int .i64 3)).bind λb=>g b c) (g (.bool false) c)) λg=>a7 b true ((aq 27 e).bind λb=>(ab false 1 b c).bind λb=>(ar .leq (.int .i64 0) b).bind λb=>g b c) (g (.bool false) c)) λg=>a7 b true ((aq 26 e).bind λb=>(ab false 1 b c).bind λb=>(ar .leq b (.int .i64 1024)).bind λb=>g b c) (g (.bool false) c)) λg=>a7 b true ((aq 26 e).bind λb=>(ab false 1 b c).bind λb=>(ar .leq (.int .i64 0) b).bind λb=>g b c) (g (.bool false) c)) λg=>a7 c true ((aq 18 e).bind λc=>(ab true 8 c h).bind λc=>(b 145 [c,(.int .i64 (-32)),(.int .i64 32)] h).bind λb=>g b.1 b.2) (g (.bool false) h)) λg=>a7 c true ((aq 10 e).bind λc=>(ab true 8 c h).bind λc=>(b 145 [c,(.int .i64 (-32)),(.int .i64 32)] h).bind λb=>g b.1 b.2) (g (.bool false) h)) λg=>a7 c true ((aq 2 e).bind λc=>(ab true 8 c h).bind λc=>(b 145 [c,(.int .i64 0),(.int .i64 64)] h).bind λb=>g b.1 b.2) (g (.bool false) h)) λb=>a7 c.1 true ((aq 1 e).bind λg=>(ab false 1 g c.2).bind λg=>(bw false g).bind λg=>(ar .eql g (.int .i64 0)).bind λg=>a6 (λc e=>b c e) λb=>a7 g false ((aq 1 e).bind λe=>(ab false 1 e c.2).bind λe=>(bw false e).bind λe=>(ar .eql e (.int .i64 120)).bind λe=>b e c.2) (b (.bool true) c.2)) (b (.bool false) c.2)) λi=>cr (C0 b c g e h i) c [(.int .i64 0)] h
open Go.aN.G in
def C1:bU:=⟨1,11,(S (R<|c9 1 27 0<|b3 2 0<|z)<|
 (S (S (R<|bM 3 13 1<|dA 4 52 3<|z)<|
 (.cond (t 4) [] [2,5,6,7]
 (S (R<|f 5 12 1<|l 6 5<|bS 7 6<|m 2 7<|z)<|
 .ret)
 .skip))<|
 (S (R<|f 8 11 1<|l 9 8<|bS 10 9<|m 2 10<|z)<|
 .ret))),[.tmp 2],[.ah]⟩
theorem aaf:b5 112 C1:=b7 Tryz.func112 rfl
def Oh(b:aR)(c:Nat)(e:J)(g:U):bh:=bF (.ptr g.length 0) (g++[.box (b' e) 27 .rw]) λc e=>(ab true 13 c e).bind λh=>(b 52 [h] e).bind λb=>aB (λ_ b=>(aq 11 c).bind λc=>(ab false 1 c b).bind λc=>(bw false c).bind λc=>aL [.ah] g b [c]) λe=>a8 b.1 ((aq 12 c).bind λc=>(ab false 1 c b.2).bind λc=>(bw false c).bind λc=>aL [.ah] g b.2 [c]) (e [] b.2)
open Go.aN.G in
def C2:bU:=⟨1,19,(S (R<|cn 2<|z)<|
 (S (S (R<|m 4 0<|o 5 (.len true (t 4))<|b3 6 0<|z)<|
 (.block 0 [] ([2,3]++g 6 10)
 (.loop [6] ([2,3]++g 7 9)
 (S (R<|b 7 .lss (t 6) (t 5)<|z)<|
 (S (.cond (t 7) [] []
 .skip
 (.exit 0))<|
 (S (.block 1 [] ([2,3]++g 8 7)
 (S (R<|m 8 6<|m 3 8<|z)<|
 (S (R<|m 9 0<|m 10 3<|o 11 (.mR (t 9) (t 10))<|o 12 (.conv .i64 (t 11))<|o 13 (.call 54 [(t 12),(i 32),(i 126)])<|dB 14 13<|z)<|
 (.cond (t 14) [] [2]
 (S (R<|cn 2<|z)<|
 .ret)
 .skip))))<|
 (R<|b 15 .add (t 6) (i 1)<|m 6 15<|z)))))))<|
 (S (R<|m 16 0<|o 17 (.len true (t 16))<|b 18 .leq (t 17) (i 22)<|m 2 18<|z)<|
 .ret))),[.tmp 2],[.ah]⟩
theorem aag:b5 114 C2:=b7 Tryz.func114 rfl
def C3(b:aR)(c:Nat)(e:J)(g:U)(h:J)(i:bb):(bb)->bb:=λc j k=>(ar .lss (aI j 0) h).bind λh=>aB (λ_ h=>aB (λ_ b=>(ar .add (aI j 0) (.int .i64 1)).bind λe=>c [e] (trim g [e] b)) λc=>(mm e (aI j 0)).bind λe=>(ml .i64 e).bind λe=>(b 54 [e,(.int .i64 32),(.int .i64 126)] h).bind λb=>(di .not b.1).bind λe=>aB (λ_ b=>c [] b) λc=>a8 e (aL [.ah] g b.2 [(.bool false)]) (c [] b.2)) λb=>a8 h (b [] k) (i [] k)
def Oi(b:aR)(c:Nat)(e:J)(g:U):bh:=(bw true e).bind λh=>aB (λ_ b=>(bw true e).bind λc=>(ar .leq c (.int .i64 22)).bind λc=>aL [.ah] g b [c]) λi=>cr (C3 b c e g h i) c [(.int .i64 0)] g
open Go.aN.G in
def C4:bU:=⟨2,28,(S (R<|c9 2 39 0<|cn 4<|z)<|
 (S (R<|m 5 1<|dA 6 103 5<|m 7 6<|q 11 7 true [8,9,10] (f 8 0 2<|l 9 8<|o 10 (.call 104 [(t 9),(i 1),(i 64)])<|z) (t 10)<|
 m 12 11<|q 21 12 true (g 13 8) (f 13 1 2<|l 14 13<|bS 15 14<|f 16 0 2<|l 17 16<|m 18 1<|b 19 .mul (t 17) (t 18)<|b 20 .eql (t 15) (t 19)<|z) (t 20)<|
 m 22 21<|q 27 22 true (g 23 4) (f 23 1 2<|l 24 23<|o 25 (.call 116 [(t 24),(.func 147)])<|dB 26 25<|z) (t 26)<|
 m 4 27<|z)<|
 .ret)),[.tmp 4],[.ah]⟩
theorem aah:b5 115 C4:=b7 Tryz.func115 rfl
def Oj(b:aR)(c:Nat)(e g:J)(h:U):bh:=bF (.ptr h.length 0) (h++[.box (b' e) 39 .rw]) λc e=>(b 103 [g] e).bind λe=>a6 (λe i=>a6 (λe g=>a6 (λb c=>aL [.ah] h c [b]) λh=>a7 e true ((aq 1 c).bind λc=>(ab false 1 c g).bind λc=>(b 116 [c,(J.func 147 [] [])] g).bind λb=>(di .not b.1).bind λc=>h c b.2) (h (.bool false) g)) λb=>a7 e true ((aq 1 c).bind λe=>(ab false 1 e i).bind λe=>(bw false e).bind λe=>(aq 0 c).bind λc=>(ab false 1 c i).bind λc=>(ar .mul c g).bind λc=>(ar .eql e c).bind λc=>b c i) (b (.bool false) i)) λg=>a7 e.1 true ((aq 0 c).bind λc=>(ab false 1 c e.2).bind λc=>(b 104 [c,(.int .i64 1),(.int .i64 64)] e.2).bind λb=>g b.1 b.2) (g (.bool false) e.2)
open Go.aN.G in
def C5:bU:=⟨2,9,(S (R<|cn 4<|z)<|
 (S (R<|m 5 0<|m 6 1<|dU 7 149 5 6<|b 8 .geq (t 7) (i 0)<|m 4 8<|z)<|
 .ret)),[.tmp 4],[.ah]⟩
theorem aai:b5 116 C5:=b7 Tryz.func116 rfl
def Ol(b:aR)(c:Nat)(e g:J)(h:U):bh:=(b 149 [e,g] h).bind λb=>(ar .geq b.1 (.int .i64 0)).bind λc=>aL [.ah] h b.2 [c]
open Go.aN.G in
def C6:bU:=⟨2,10,(S (R<|c9 2 41 0<|cn 3<|z)<|
 (S (R<|f 4 0 1<|f 5 1 4<|l 6 5<|bM 7 6 2<|dU 8 118 6 7<|dB 9 8<|m 3 9<|z)<|
 .ret)),[.tmp 3],[.ah]⟩
theorem aaj:b5 117 C6:=b7 Tryz.func117 rfl
def Om(b:aR)(c:Nat)(e g:J)(h:U):bh:=bF (.ptr h.length 0) (h++[.box (b' e) 41 .rw]) λc e=>(aq 0 g).bind λg=>(aq 1 g).bind λg=>(ab false 1 g e).bind λg=>(ab true 6 c e).bind λc=>(b 118 [g,c] e).bind λb=>(di .not b.1).bind λc=>aL [.ah] h b.2 [c]
open Go.aN.G in
def C7:bU:=⟨2,37,(S (R<|c9 3 41 1<|cn 4<|z)<|
 (S (S (D<|m 5 0<|dA 6 101 5<|dB 7 6<|m 8 7<|q 12 8 false [9,10,11] (bM 9 6 3<|dA 10 148 9<|dB 11 10<|z) (t 11)<|
 m 13 12<|q 19 13 false (g 14 5) (m 14 0<|f 15 0 3<|l 16 15<|dU 17 150 14 16<|dB 18 17<|z) (t 18)<|
 m 20 19<|q 26 20 false (g 21 5) (f 21 2 3<|l 22 21<|m 23 0<|O 24 (.call 151 [(t 23)])<|b 25 .gtr (t 22) (t 24)<|z) (t 25)<|
 z)<|
 (.cond (t 26) [] [4]
 (S (R<|cn 4<|z)<|
 .ret)
 .skip))<|
 (S (S (R<|f 27 4 3<|l 28 27<|b 29 .eql (t 28) (i 0)<|z)<|
 (.cond (t 29) [] [4]
 (S (R<|gk 4<|z)<|
 .ret)
 .skip))<|
 (S (D<|m 30 0<|O 31 (.call 153 [(t 30)])<|f 32 4 3<|l 33 32<|dA 34 154 33<|dU 35 152 31 34<|b 36 .geq (t 35) (i 0)<|m 4 36<|z)<|
 .ret)))),[.tmp 4],[.ah]⟩
theorem aak:b5 118 C7:=b7 Tryz.func118 rfl
def On(b:aR)(c:Nat)(e g:J)(h:U):bh:=bF (.ptr h.length 0) (h++[.box (b' g) 41 .rw]) λc g=>(b 101 [e] g).bind λg=>(di .not g.1).bind λi=>a6 (λg i=>a6 (λg i=>a6 (λg i=>aB (λ_ g=>(aq 4 c).bind λi=>(ab false 1 i g).bind λi=>(ar .eql i (.int .i64 0)).bind λi=>aB (λ_ g=>(b 153 [e] (lock g)).bind λe=>dQ g e.2 λg=>(aq 4 c).bind λc=>(ab false 1 c g).bind λc=>(b 154 [c] g).bind λc=>(b 152 [e.1,c.1] c.2).bind λb=>(ar .geq b.1 (.int .i64 0)).bind λc=>aL [.ah] h b.2 [c]) λb=>a8 i (aL [.ah] h g [(.bool true)]) (b [] g)) λb=>a8 g (aL [.ah] h i [(.bool false)]) (b [] i)) λh=>a7 g false ((aq 2 c).bind λc=>(ab false 1 c i).bind λc=>(b 151 [e] (lock i)).bind λb=>dQ i b.2 λe=>(ar .gtr c b.1).bind λb=>h b e) (h (.bool true) i)) λh=>a7 g false ((aq 0 c).bind λc=>(ab false 1 c i).bind λc=>(b 150 [e,c] i).bind λb=>(di .not b.1).bind λc=>h c b.2) (h (.bool true) i)) λe=>a7 i false ((ab true 6 c g.2).bind λc=>(b 148 [c] g.2).bind λb=>(di .not b.1).bind λc=>e c b.2) (e (.bool true) g.2)
open Go.aN.G in
def C8:bU:=⟨2,9,(S (R<|c9 2 41 0<|cn 3<|z)<|
 (S (D<|f 4 1 2<|l 5 4<|bM 6 42 1<|F 6 (.agg HQ)<|O 7 (.call 120 [(t 6)])<|b 8 .gtr (t 5) (t 7)<|m 3 8<|z)<|
 .ret)),[.tmp 3],[.ah]⟩
theorem aal:b5 119 C8:=b7 Tryz.func119 rfl
def Oo(b:aR)(c:Nat)(e g:J)(h:U):bh:=bF (.ptr h.length 0) (h++[.box (b' e) 41 .rw]) λc e=>(aq 1 c).bind λc=>(ab false 1 c e).bind λc=>(ab true 42 g e).bind λg=>(dh (.agg HQ) g e).bind λe=>(b 120 [e.1] (lock e.2)).bind λb=>dQ e.2 b.2 λe=>(ar .gtr c b.1).bind λb=>aL [.ah] h e [b]
open Go.aN.G in
def C9:bU:=⟨1,14,(S (R<|c9 1 104 0<|b3 2 0<|z)<|
 (S (S (R<|f 3 13 1<|f 4 6 3<|l 5 4<|z)<|
 (.cond (t 5) [] ([2]++g 6 4)
 (S (R<|f 6 0 1<|f 7 12 6<|l 8 7<|bS 9 8<|m 2 9<|z)<|
 .ret)
 .skip))<|
 (S (R<|f 10 0 1<|f 11 11 10<|l 12 11<|bS 13 12<|m 2 13<|z)<|
 .ret))),[.tmp 2],[.ah]⟩
theorem aam:b5 120 C9:=b7 Tryz.func120 rfl
def Oq(b:aR)(c:Nat)(e:J)(g:U):bh:=bF (.ptr g.length 0) (g++[.box (b' e) 104 .rw]) λb c=>(aq 13 b).bind λe=>(aq 6 e).bind λe=>(ab false 1 e c).bind λe=>aB (λ_ c=>(aq 0 b).bind λb=>(aq 11 b).bind λb=>(ab false 1 b c).bind λb=>(bw false b).bind λb=>aL [.ah] g c [b]) λh=>a8 e ((aq 0 b).bind λb=>(aq 12 b).bind λb=>(ab false 1 b c).bind λb=>(bw false b).bind λb=>aL [.ah] g c [b]) (h [] c)
open Go.aN.G in
def C_:bU:=⟨2,19,(S (R<|b3 4 0<|z)<|
 (S (S (R<|m 6 0<|bS 7 6<|b3 8 0<|z)<|
 (.block 0 [] ([4,5]++g 8 11)
 (.loop [8] ([4,5]++g 9 10)
 (S (R<|b 9 .lss (t 8) (t 7)<|z)<|
 (S (.cond (t 9) [] []
 .skip
 (.exit 0))<|
 (S (.block 1 [] ([4,5]++g 10 8)
 (S (R<|m 10 8<|m 5 10<|z)<|
 (S (R<|m 11 1<|m 12 0<|m 13 5<|cu 14 1 12 13<|l 15 14<|o 16 (.hU (t 11) [(t 15)])<|z)<|
 (.cond (t 16) [] [4,17]
 (S (R<|m 17 5<|m 4 17<|z)<|
 .ret)
 .skip))))<|
 (R<|b 18 .add (t 8) (i 1)<|m 8 18<|z)))))))<|
 (S (R<|o 4 (.move (i (-1)))<|z)<|
 .ret))),[.tmp 4],[.ah]⟩
theorem aan:b5 121 C_:=b7 Tryz.func121 rfl
def C'(b:aR)(c:Nat)(e g:J)(h:U)(i:J)(j:bb):(bb)->bb:=λc k l=>(ar .lss (aI k 0) i).bind λi=>aB (λ_ i=>aB (λ_ b=>(ar .add (aI k 0) (.int .i64 1)).bind λe=>c [e] (trim h [e] b)) λc=>(bW 1 e (aI k 0)).bind λe=>(ab false 1 e i).bind λe=>(gh b g [e] i).bind λb=>aB (λ_ b=>c [] b) λc=>a8 b.1 (aL [.ah] h b.2 [(aI k 0)]) (c [] b.2)) λb=>a8 i (b [] l) (j [] l)
def Ot(b:aR)(c:Nat)(e g:J)(h:U):bh:=(bw false e).bind λi=>aB (λ_ b=>aL [.ah] h b [(.int .i64 (-1))]) λj=>cr (C' b c e g h i j) c [(.int .i64 0)] h
open Go.aN.G in
def Da:bU:=⟨2,17,(S (R<|cn 3<|z)<|
 (S (R<|m 4 0<|dA 5 87 4<|dB 6 5<|m 7 6<|q 16 7 true (g 8 8) (m 8 0<|f 9 0 1<|f 10 10 9<|l 11 10<|bS 12 11<|b 13 .sub (t 12) (i 1)<|o 14 (.call 54 [(t 8),(i 0),(t 13)])<|dB 15 14<|z) (t 15)<|
 m 3 16<|z)<|
 .ret)),[.tmp 3],[.ah]⟩
theorem aao:b5 122 Da:=b7 Tryz.func122 rfl
def Ou(b:aR)(c:Nat)(e g:J)(h:U):bh:=(b 87 [e] h).bind λc=>(di .not c.1).bind λi=>a6 (λb c=>aL [.ah] h c [b]) λh=>a7 i true ((aq 0 g).bind λg=>(aq 10 g).bind λg=>(ab false 1 g c.2).bind λg=>(bw false g).bind λg=>(ar .sub g (.int .i64 1)).bind λg=>(b 54 [e,(.int .i64 0),g] c.2).bind λb=>(di .not b.1).bind λc=>h c b.2) (h (.bool false) c.2)
open Go.aN.G in
def Db:bU:=⟨1,6,(S (R<|cn 2<|z)<|
 (S (R<|m 3 0<|o 4 (.call 54 [(t 3),(i 0),(i 256)])<|dB 5 4<|m 2 5<|z)<|
 .ret)),[.tmp 2],[.ah]⟩
theorem aap:b5 123 Db:=b7 Tryz.func123 rfl
def Ov(b:aR)(c:Nat)(e:J)(g:U):bh:=(b 54 [e,(.int .i64 0),(.int .i64 256)] g).bind λb=>(di .not b.1).bind λc=>aL [.ah] g b.2 [c]
open Go.aN.G in
def Dc:bU:=⟨2,19,(S (R<|b3 4 0<|z)<|
 (S (S (R<|m 6 0<|bS 7 6<|b3 8 0<|z)<|
 (.block 0 [] ([4,5]++g 8 11)
 (.loop [8] ([4,5]++g 9 10)
 (S (R<|b 9 .lss (t 8) (t 7)<|z)<|
 (S (.cond (t 9) [] []
 .skip
 (.exit 0))<|
 (S (.block 1 [] ([4,5]++g 10 8)
 (S (R<|m 10 8<|m 5 10<|z)<|
 (S (R<|m 11 1<|m 12 0<|m 13 5<|cu 14 13 12 13<|bM 15 13 14<|o 16 (.hU (t 11) [(t 15)])<|z)<|
 (.cond (t 16) [] [4,17]
 (S (R<|m 17 5<|m 4 17<|z)<|
 .ret)
 .skip))))<|
 (R<|b 18 .add (t 8) (i 1)<|m 8 18<|z)))))))<|
 (S (R<|o 4 (.move (i (-1)))<|z)<|
 .ret))),[.tmp 4],[.ah]⟩
theorem aaq:b5 124 Dc:=b7 Tryz.func124 rfl
def Dd(b:aR)(c:Nat)(e g:J)(h:U)(i:J)(j:bb):(bb)->bb:=λc k l=>(ar .lss (aI k 0) i).bind λi=>aB (λ_ i=>aB (λ_ b=>(ar .add (aI k 0) (.int .i64 1)).bind λe=>c [e] (trim h [e] b)) λc=>(bW 13 e (aI k 0)).bind λe=>(ab true 13 e i).bind λe=>(gh b g [e] i).bind λb=>aB (λ_ b=>c [] b) λc=>a8 b.1 (aL [.ah] h b.2 [(aI k 0)]) (c [] b.2)) λb=>a8 i (b [] l) (j [] l)
def Ow(b:aR)(c:Nat)(e g:J)(h:U):bh:=(bw false e).bind λi=>aB (λ_ b=>aL [.ah] h b [(.int .i64 (-1))]) λj=>cr (Dd b c e g h i j) c [(.int .i64 0)] h
open Go.aN.G in
def De:bU:=⟨1,6,(S (R<|c9 1 43 0<|cn 2<|z)<|
 (S (R<|bM 3 13 1<|dA 4 126 3<|dB 5 4<|m 2 5<|z)<|
 .ret)),[.tmp 2],[.ah]⟩
theorem aar:b5 125 De:=b7 Tryz.func125 rfl
def Ox(b:aR)(c:Nat)(e:J)(g:U):bh:=bF (.ptr g.length 0) (g++[.box (b' e) 43 .rw]) λc e=>(ab true 13 c e).bind λc=>(b 126 [c] e).bind λb=>(di .not b.1).bind λc=>aL [.ah] g b.2 [c]
open Go.aN.G in
def Df:bU:=⟨1,129,(S (R<|c9 1 43 0<|cn 2<|z)<|
 (S (S (R<|f 8 0 1<|l 9 8<|o 10 (.len true (t 9))<|b 11 .gtr (t 10) (i 22)<|m 12 11<|q 21 12 false (g 13 4++[20,17,18,19]) (f 13 2 1<|l 14 13<|b 15 .neq (t 14) (i 8)<|m 16 15<|q 20 16 true [17,18,19] (f 17 2 1<|l 18 17<|b 19 .neq (t 18) (i 16)<|z) (t 19)<|
 z) (t 20)<|
 m 22 21<|q 27 22 false (g 23 4) (f 23 1 1<|l 24 23<|bS 25 24<|b 26 .gtr (t 25) (i 4096)<|z) (t 26)<|
 z)<|
 (.cond (t 27) [] [2]
 (S (R<|cn 2<|z)<|
 .ret)
 .skip))<|
 (S (S (R<|f 28 0 1<|l 29 28<|o 30 (.len true (t 29))<|b3 31 0<|z)<|
 (.block 0 [] ([2,3]++g 31 16)
 (.loop [31] ([2,3]++g 32 15)
 (S (R<|b 32 .lss (t 31) (t 30)<|z)<|
 (S (.cond (t 32) [] []
 .skip
 (.exit 0))<|
 (S (.block 1 [] ([2,3]++g 33 13)
 (S (R<|m 33 31<|m 3 33<|z)<|
 (S (R<|f 34 0 1<|l 35 34<|m 36 3<|o 37 (.mR (t 35) (t 36))<|b 38 .lss (t 37) (.const (.int .u8 32))<|m 39 38<|q 45 39 false (g 40 5) (f 40 0 1<|l 41 40<|m 42 3<|o 43 (.mR (t 41) (t 42))<|b 44 .gtr (t 43) (.const (.int .u8 126))<|z) (t 44)<|
 z)<|
 (.cond (t 45) [] [2]
 (S (R<|cn 2<|z)<|
 .ret)
 .skip))))<|
 (R<|b 46 .add (t 31) (i 1)<|m 31 46<|z)))))))<|
 (S (R<|f 48 2 1<|l 49 48<|dA 50 155 49<|m 47 50<|eC 51 47 0<|eC 52 47 1<|m 4 51<|m 5 52<|z)<|
 (S (S (R<|f 53 1 1<|l 54 53<|bS 55 54<|b3 56 0<|z)<|
 (.block 2 [] ([2,7]++g 56 13)
 (.loop [56] ([2,7]++g 57 12)
 (S (R<|b 57 .lss (t 56) (t 55)<|z)<|
 (S (.cond (t 57) [] []
 .skip
 (.exit 2))<|
 (S (.block 3 [] ([2,7]++g 58 10)
 (S (R<|cu 58 1 54 56<|l 59 58<|m 7 59<|z)<|
 (S (R<|m 60 7<|m 61 4<|b 62 .lss (t 60) (t 61)<|m 63 62<|q 67 63 false [64,65,66] (m 64 7<|m 65 5<|b 66 .gtr (t 64) (t 65)<|z) (t 66)<|
 z)<|
 (.cond (t 67) [] [2]
 (S (R<|cn 2<|z)<|
 .ret)
 .skip))))<|
 (R<|b 68 .add (t 56) (i 1)<|m 56 68<|z)))))))<|
 (S (S (R<|f 69 3 1<|l 70 69<|b 71 .lss (t 70) (i 1)<|m 72 71<|q 76 72 false [73,74,75] (f 73 3 1<|l 74 73<|b 75 .gtr (t 74) (i 65535)<|z) (t 75)<|
 m 77 76<|q 81 77 false [78,79,80] (f 78 4 1<|l 79 78<|b 80 .lss (t 79) (i 0)<|z) (t 80)<|
 m 82 81<|q 86 82 false [83,84,85] (f 83 4 1<|l 84 83<|b 85 .gtr (t 84) (i 64)<|z) (t 85)<|
 m 87 86<|q 91 87 false [88,89,90] (f 88 5 1<|l 89 88<|b 90 .lss (t 89) (i (-1))<|z) (t 90)<|
 m 92 91<|q 96 92 false [93,94,95] (f 93 5 1<|l 94 93<|b 95 .gtr (t 94) (i 256)<|z) (t 95)<|
 m 97 96<|q 101 97 false [98,99,100] (f 98 6 1<|l 99 98<|b 100 .lss (t 99) (i (-64))<|z) (t 100)<|
 m 102 101<|q 106 102 false [103,104,105] (f 103 6 1<|l 104 103<|b 105 .gtr (t 104) (i 63)<|z) (t 105)<|
 z)<|
 (.cond (t 106) [] [2]
 (S (R<|cn 2<|z)<|
 .ret)
 .skip))<|
 (S (R<|f 107 7 1<|l 108 107<|f 109 8 1<|l 110 109<|f 111 9 1<|l 112 111<|f 113 1 1<|l 114 113<|bS 115 114<|o 116 (.call 156 [(t 108),(t 110),(t 112),(t 115)])<|m 117 116<|q 128 117 true (g 118 10) (f 118 10 1<|l 119 118<|f 120 11 1<|l 121 120<|f 122 12 1<|l 123 122<|f 124 1 1<|l 125 124<|bS 126 125<|o 127 (.call 156 [(t 119),(t 121),(t 123),(t 126)])<|z) (t 127)<|
 m 2 128<|z)<|
 .ret))))))),[.tmp 2],[.ah]⟩
theorem aas:b5 126 Df:=b7 Tryz.func126 rfl
def Dg(b:aR)(c:Nat)(e:U)(g:J×U)(h i j k:J)(l:bb):(bb)->bb:=λb c m=>(ar .lss (aI c 0) k).bind λk=>aB (λ_ k=>aB (λ_ e=>(ar .add (aI c 0) (.int .i64 1)).bind λc=>b [c] (trim g.2 [c] e)) λb=>(bW 1 j (aI c 0)).bind λc=>(ab false 1 c k).bind λc=>(ar .lss c h).bind λg=>a6 (λc g=>aB (λ_ c=>b [] c) λb=>a8 c (aL [.ah] e g [(.bool false)]) (b [] g)) λb=>a7 g false ((ar .gtr c i).bind λc=>b c k) (b (.bool true) k)) λb=>a8 k (b [] m) (l [] m)
def Dh(b:aR)(c:Nat)(e:U)(g:J)(h:U)(i:J)(j:bb):(bb)->bb:=λb c k=>(ar .lss (aI c 0) i).bind λi=>aB (λ_ i=>aB (λ_ e=>(ar .add (aI c 0) (.int .i64 1)).bind λc=>b [c] (trim h [c] e)) λb=>(aq 0 g).bind λh=>(ab false 1 h i).bind λh=>(mm h (aI c 0)).bind λh=>(ar .lss h (.int .u8 32)).bind λh=>a6 (λc g=>aB (λ_ c=>b [] c) λb=>a8 c (aL [.ah] e g [(.bool false)]) (b [] g)) λb=>a7 h false ((aq 0 g).bind λe=>(ab false 1 e i).bind λe=>(mm e (aI c 0)).bind λc=>(ar .gtr c (.int .u8 126)).bind λc=>b c i) (b (.bool true) i)) λb=>a8 i (b [] k) (j [] k)
def Oy(b:aR)(c:Nat)(e:J)(g:U):bh:=bF (.ptr g.length 0) (g++[.box (b' e) 43 .rw]) λe h=>(aq 0 e).bind λi=>(ab false 1 i h).bind λi=>(bw true i).bind λi=>(ar .gtr i (.int .i64 22)).bind λi=>a6 (λh i=>a6 (λh i=>aB (λ_ h=>(aq 0 e).bind λi=>(ab false 1 i h).bind λi=>(bw true i).bind λi=>aB (λ_ h=>(aq 2 e).bind λi=>(ab false 1 i h).bind λi=>(b 155 [i] h).bind λh=>(ea h.1 0).bind λi=>(ea h.1 1).bind λj=>(aq 1 e).bind λk=>(ab false 1 k h.2).bind λk=>(bw false k).bind λl=>aB (λ_ c=>(aq 3 e).bind λh=>(ab false 1 h c).bind λh=>(ar .lss h (.int .i64 1)).bind λh=>a6 (λc h=>a6 (λc h=>a6 (λc h=>a6 (λc h=>a6 (λc h=>a6 (λc h=>a6 (λc h=>aB (λ_ c=>(aq 7 e).bind λh=>(ab false 1 h c).bind λh=>(aq 8 e).bind λi=>(ab false 1 i c).bind λi=>(aq 9 e).bind λj=>(ab false 1 j c).bind λj=>(aq 1 e).bind λk=>(ab false 1 k c).bind λk=>(bw false k).bind λk=>(b 156 [h,i,j,k] c).bind λc=>a6 (λb c=>aL [.ah] g c [b]) λg=>a7 c.1 true ((aq 10 e).bind λh=>(ab false 1 h c.2).bind λh=>(aq 11 e).bind λi=>(ab false 1 i c.2).bind λi=>(aq 12 e).bind λj=>(ab false 1 j c.2).bind λj=>(aq 1 e).bind λe=>(ab false 1 e c.2).bind λe=>(bw false e).bind λe=>(b 156 [h,i,j,e] c.2).bind λb=>g b.1 b.2) (g (.bool false) c.2)) λb=>a8 c (aL [.ah] g h [(.bool false)]) (b [] h)) λb=>a7 c false ((aq 6 e).bind λc=>(ab false 1 c h).bind λc=>(ar .gtr c (.int .i64 63)).bind λc=>b c h) (b (.bool true) h)) λb=>a7 c false ((aq 6 e).bind λc=>(ab false 1 c h).bind λc=>(ar .lss c (.int .i64 (-64))).bind λc=>b c h) (b (.bool true) h)) λb=>a7 c false ((aq 5 e).bind λc=>(ab false 1 c h).bind λc=>(ar .gtr c (.int .i64 256)).bind λc=>b c h) (b (.bool true) h)) λb=>a7 c false ((aq 5 e).bind λc=>(ab false 1 c h).bind λc=>(ar .lss c (.int .i64 (-1))).bind λc=>b c h) (b (.bool true) h)) λb=>a7 c false ((aq 4 e).bind λc=>(ab false 1 c h).bind λc=>(ar .gtr c (.int .i64 64)).bind λc=>b c h) (b (.bool true) h)) λb=>a7 c false ((aq 4 e).bind λc=>(ab false 1 c h).bind λc=>(ar .lss c (.int .i64 0)).bind λc=>b c h) (b (.bool true) h)) λb=>a7 h false ((aq 3 e).bind λe=>(ab false 1 e c).bind λe=>(ar .gtr e (.int .i64 65535)).bind λe=>b e c) (b (.bool true) c)) λe=>cr (Dg b c g h i j k l e) c [(.int .i64 0)] h.2) λj=>cr (Dh b c g e h i j) c [(.int .i64 0)] h) λb=>a8 h (aL [.ah] g i [(.bool false)]) (b [] i)) λb=>a7 h false ((aq 1 e).bind λc=>(ab false 1 c i).bind λc=>(bw false c).bind λc=>(ar .gtr c (.int .i64 4096)).bind λc=>b c i) (b (.bool true) i)) λb=>a7 i false ((aq 2 e).bind λc=>(ab false 1 c h).bind λc=>(ar .neq c (.int .i64 8)).bind λc=>a6 (λc e=>b c e) λb=>a7 c true ((aq 2 e).bind λc=>(ab false 1 c h).bind λc=>(ar .neq c (.int .i64 16)).bind λc=>b c h) (b (.bool false) h)) (b (.bool true) h)
open Go.aN.G in
def Di:bU:=⟨1,71,(S (R<|c9 1 57 0<|cn 2<|z)<|
 (S (S (R<|f 3 0 1<|l 4 3<|dA 5 157 4<|dB 6 5<|m 7 6<|q 18 7 false (g 8 5++[17]++g 13 4) (f 8 1 1<|l 9 8<|bS 10 9<|b 11 .neq (t 10) (i 0)<|m 12 11<|q 17 12 true (g 13 4) (f 13 1 1<|l 14 13<|bS 15 14<|b 16 .neq (t 15) (i 120)<|z) (t 16)<|
 z) (t 17)<|
 z)<|
 (.cond (t 18) [] [2]
 (S (R<|cn 2<|z)<|
 .ret)
 .skip))<|
 (S (S (R<|f 19 1 1<|l 20 19<|o 21 (.call 128 [(t 20),(.func 158)])<|z)<|
 (.cond (t 21) [] [2]
 (S (R<|cn 2<|z)<|
 .ret)
 .skip))<|
 (S (S (R<|f 22 2 1<|bM 23 8 22<|o 24 (.call 159 [(t 23),(i 0),(i 64)])<|dB 25 24<|m 26 25<|q 31 26 false (g 27 4) (f 27 10 1<|bM 28 8 27<|o 29 (.call 159 [(t 28),(i (-32)),(i 32)])<|dB 30 29<|z) (t 30)<|
 m 32 31<|q 37 32 false (g 33 4) (f 33 18 1<|bM 34 8 33<|o 35 (.call 159 [(t 34),(i (-32)),(i 32)])<|dB 36 35<|z) (t 36)<|
 z)<|
 (.cond (t 37) [] [2]
 (S (R<|cn 2<|z)<|
 .ret)
 .skip))<|
 (S (R<|f 38 26 1<|l 39 38<|o 40 (.call 146 [(t 39),(i 0),(i 1024)])<|m 41 40<|q 45 41 true [42,43,44] (f 42 27 1<|l 43 42<|o 44 (.call 146 [(t 43),(i 0),(i 3)])<|z) (t 44)<|
 m 46 45<|q 50 46 true [47,48,49] (f 47 28 1<|l 48 47<|o 49 (.call 146 [(t 48),(i 0),(i 3)])<|z) (t 49)<|
 m 51 50<|q 55 51 true [52,53,54] (f 52 29 1<|l 53 52<|o 54 (.call 146 [(t 53),(i 0),(i 2)])<|z) (t 54)<|
 m 56 55<|q 60 56 true [57,58,59] (f 57 30 1<|l 58 57<|o 59 (.call 146 [(t 58),(i 0),(i 64)])<|z) (t 59)<|
 m 61 60<|q 65 61 true [62,63,64] (f 62 31 1<|l 63 62<|o 64 (.call 146 [(t 63),(i (-1)),(i 127)])<|z) (t 64)<|
 m 66 65<|q 70 66 true [67,68,69] (f 67 32 1<|l 68 67<|o 69 (.call 146 [(t 68),(i (-1)),(i 127)])<|z) (t 69)<|
 m 2 70<|z)<|
 .ret))))),[.tmp 2],[.ah]⟩
theorem aat:b5 127 Di:=b7 Tryz.func127 rfl
def Oz(b:aR)(c:Nat)(e:J)(g:U):bh:=bF (.ptr g.length 0) (g++[.box (b' e) 57 .rw]) λc e=>(aq 0 c).bind λh=>(ab false 1 h e).bind λh=>(b 157 [h] e).bind λe=>(di .not e.1).bind λh=>a6 (λe h=>aB (λ_ e=>(aq 1 c).bind λh=>(ab false 1 h e).bind λh=>(b 128 [h,(J.func 158 [] [])] e).bind λe=>aB (λ_ e=>(aq 2 c).bind λh=>(ab true 8 h e).bind λh=>(b 159 [h,(.int .i64 0),(.int .i64 64)] e).bind λe=>(di .not e.1).bind λh=>a6 (λe h=>a6 (λe h=>aB (λ_ e=>(aq 26 c).bind λh=>(ab false 1 h e).bind λh=>(b 146 [h,(.int .i64 0),(.int .i64 1024)] e).bind λe=>a6 (λe h=>a6 (λe h=>a6 (λe h=>a6 (λe h=>a6 (λe h=>a6 (λb c=>aL [.ah] g c [b]) λg=>a7 e true ((aq 32 c).bind λc=>(ab false 1 c h).bind λc=>(b 146 [c,(.int .i64 (-1)),(.int .i64 127)] h).bind λb=>g b.1 b.2) (g (.bool false) h)) λg=>a7 e true ((aq 31 c).bind λc=>(ab false 1 c h).bind λc=>(b 146 [c,(.int .i64 (-1)),(.int .i64 127)] h).bind λb=>g b.1 b.2) (g (.bool false) h)) λg=>a7 e true ((aq 30 c).bind λc=>(ab false 1 c h).bind λc=>(b 146 [c,(.int .i64 0),(.int .i64 64)] h).bind λb=>g b.1 b.2) (g (.bool false) h)) λg=>a7 e true ((aq 29 c).bind λc=>(ab false 1 c h).bind λc=>(b 146 [c,(.int .i64 0),(.int .i64 2)] h).bind λb=>g b.1 b.2) (g (.bool false) h)) λg=>a7 e true ((aq 28 c).bind λc=>(ab false 1 c h).bind λc=>(b 146 [c,(.int .i64 0),(.int .i64 3)] h).bind λb=>g b.1 b.2) (g (.bool false) h)) λg=>a7 e.1 true ((aq 27 c).bind λc=>(ab false 1 c e.2).bind λc=>(b 146 [c,(.int .i64 0),(.int .i64 3)] e.2).bind λb=>g b.1 b.2) (g (.bool false) e.2)) λb=>a8 e (aL [.ah] g h [(.bool false)]) (b [] h)) λg=>a7 e false ((aq 18 c).bind λc=>(ab true 8 c h).bind λc=>(b 159 [c,(.int .i64 (-32)),(.int .i64 32)] h).bind λb=>(di .not b.1).bind λc=>g c b.2) (g (.bool true) h)) λg=>a7 h false ((aq 10 c).bind λc=>(ab true 8 c e.2).bind λc=>(b 159 [c,(.int .i64 (-32)),(.int .i64 32)] e.2).bind λb=>(di .not b.1).bind λc=>g c b.2) (g (.bool true) e.2)) λb=>a8 e.1 (aL [.ah] g e.2 [(.bool false)]) (b [] e.2)) λb=>a8 e (aL [.ah] g h [(.bool false)]) (b [] h)) λb=>a7 h false ((aq 1 c).bind λg=>(ab false 1 g e.2).bind λg=>(bw false g).bind λg=>(ar .neq g (.int .i64 0)).bind λg=>a6 (λc e=>b c e) λb=>a7 g true ((aq 1 c).bind λc=>(ab false 1 c e.2).bind λc=>(bw false c).bind λc=>(ar .neq c (.int .i64 120)).bind λc=>b c e.2) (b (.bool false) e.2)) (b (.bool true) e.2)
open Go.aN.G in
def Dj:bU:=⟨2,9,(S (R<|cn 4<|z)<|
 (S (R<|m 5 0<|m 6 1<|dU 7 160 5 6<|b 8 .geq (t 7) (i 0)<|m 4 8<|z)<|
 .ret)),[.tmp 4],[.ah]⟩
theorem aau:b5 128 Dj:=b7 Tryz.func128 rfl
def OA(b:aR)(c:Nat)(e g:J)(h:U):bh:=(b 160 [e,g] h).bind λb=>(ar .geq b.1 (.int .i64 0)).bind λc=>aL [.ah] h b.2 [c]
open Go.aN.G in
def Dk:bU:=⟨2,11,(S (R<|c9 2 89 0<|cn 3<|z)<|
 (S (R<|f 4 1 2<|l 5 4<|f 6 0 1<|f 7 11 6<|l 8 7<|bS 9 8<|b 10 .gtr (t 5) (t 9)<|m 3 10<|z)<|
 .ret)),[.tmp 3],[.ah]⟩
theorem aav:b5 129 Dk:=b7 Tryz.func129 rfl
def OB(b:aR)(c:Nat)(e g:J)(h:U):bh:=bF (.ptr h.length 0) (h++[.box (b' e) 89 .rw]) λb c=>(aq 1 b).bind λb=>(ab false 1 b c).bind λb=>(aq 0 g).bind λe=>(aq 11 e).bind λe=>(ab false 1 e c).bind λe=>(bw false e).bind λe=>(ar .gtr b e).bind λb=>aL [.ah] h c [b]
open Go.aN.G in
def Dl:bU:=⟨2,26,(S (R<|cn 4<|z)<|
 (S (S (R<|m 6 0<|bS 7 6<|m 8 1<|bS 9 8<|b 10 .neq (t 7) (t 9)<|z)<|
 (.cond (t 10) [] [4]
 (S (R<|cn 4<|z)<|
 .ret)
 .skip))<|
 (S (S (R<|m 11 0<|bS 12 11<|b3 13 0<|z)<|
 (.block 0 [] ([4,5]++g 13 13)
 (.loop [13] ([4,5]++g 14 12)
 (S (R<|b 14 .lss (t 13) (t 12)<|z)<|
 (S (.cond (t 14) [] []
 .skip
 (.exit 0))<|
 (S (.block 1 [] ([4,5]++g 15 10)
 (S (R<|m 15 13<|m 5 15<|z)<|
 (S (D<|m 16 0<|m 17 5<|cu 18 2 16 17<|bM 19 2 18<|m 20 1<|m 21 5<|cu 22 2 20 21<|bM 23 2 22<|o 24 (.nC [.int,.int] true (t 19) (t 23))<|z)<|
 (.cond (t 24) [] [4]
 (S (R<|cn 4<|z)<|
 .ret)
 .skip))))<|
 (R<|b 25 .add (t 13) (i 1)<|m 13 25<|z)))))))<|
 (S (R<|gk 4<|z)<|
 .ret)))),[.tmp 4],[.ah]⟩
theorem aaw:b5 130 Dl:=b7 Tryz.func130 rfl
def Dm(b:aR)(c:Nat)(e g:J)(h i:U)(j:J)(k:bb):(bb)->bb:=λb c l=>(ar .lss (aI c 0) j).bind λj=>aB (λ_ j=>aB (λ_ e=>(ar .add (aI c 0) (.int .i64 1)).bind λc=>b [c] (trim i [c] e)) λb=>(bW 2 e (aI c 0)).bind λe=>(ab true 2 e j).bind λe=>(bW 2 g (aI c 0)).bind λc=>(ab true 2 c j).bind λc=>(lu [.int,.int] true e c).bind λc=>aB (λ_ c=>b [] c) λb=>a8 c (aL [.ah] h j [(.bool false)]) (b [] j)) λb=>a8 j (b [] l) (k [] l)
def OC(b:aR)(c:Nat)(e g:J)(h:U):bh:=(bw false e).bind λi=>(bw false g).bind λj=>(ar .neq i j).bind λi=>aB (λ_ i=>(bw false e).bind λj=>aB (λ_ b=>aL [.ah] h b [(.bool true)]) λk=>cr (Dm b c e g h i j k) c [(.int .i64 0)] i) λb=>a8 i (aL [.ah] h h [(.bool false)]) (b [] h)
open Go.aN.G in
def Dn:bU:=⟨2,26,(S (R<|cn 4<|z)<|
 (S (S (R<|m 6 0<|bS 7 6<|m 8 1<|bS 9 8<|b 10 .neq (t 7) (t 9)<|z)<|
 (.cond (t 10) [] [4]
 (S (R<|cn 4<|z)<|
 .ret)
 .skip))<|
 (S (S (R<|m 11 0<|bS 12 11<|b3 13 0<|z)<|
 (.block 0 [] ([4,5]++g 13 13)
 (.loop [13] ([4,5]++g 14 12)
 (S (R<|b 14 .lss (t 13) (t 12)<|z)<|
 (S (.cond (t 14) [] []
 .skip
 (.exit 0))<|
 (S (.block 1 [] ([4,5]++g 15 10)
 (S (R<|m 15 13<|m 5 15<|z)<|
 (S (D<|m 16 0<|m 17 5<|cu 18 6 16 17<|bM 19 6 18<|m 20 1<|m 21 5<|cu 22 6 20 21<|bM 23 6 22<|o 24 (.nC [.int,.int,.int,.int,.int,.int] true (t 19) (t 23))<|z)<|
 (.cond (t 24) [] [4]
 (S (R<|cn 4<|z)<|
 .ret)
 .skip))))<|
 (R<|b 25 .add (t 13) (i 1)<|m 13 25<|z)))))))<|
 (S (R<|gk 4<|z)<|
 .ret)))),[.tmp 4],[.ah]⟩
theorem aax:b5 131 Dn:=b7 Tryz.func131 rfl
def Dp(b:aR)(c:Nat)(e g:J)(h i:U)(j:J)(k:bb):(bb)->bb:=λb c l=>(ar .lss (aI c 0) j).bind λj=>aB (λ_ j=>aB (λ_ e=>(ar .add (aI c 0) (.int .i64 1)).bind λc=>b [c] (trim i [c] e)) λb=>(bW 6 e (aI c 0)).bind λe=>(ab true 6 e j).bind λe=>(bW 6 g (aI c 0)).bind λc=>(ab true 6 c j).bind λc=>(lu [.int,.int,.int,.int,.int,.int] true e c).bind λc=>aB (λ_ c=>b [] c) λb=>a8 c (aL [.ah] h j [(.bool false)]) (b [] j)) λb=>a8 j (b [] l) (k [] l)
def OD(b:aR)(c:Nat)(e g:J)(h:U):bh:=(bw false e).bind λi=>(bw false g).bind λj=>(ar .neq i j).bind λi=>aB (λ_ i=>(bw false e).bind λj=>aB (λ_ b=>aL [.ah] h b [(.bool true)]) λk=>cr (Dp b c e g h i j k) c [(.int .i64 0)] i) λb=>a8 i (aL [.ah] h h [(.bool false)]) (b [] h)
open Go.aN.G in
def Dq:bU:=⟨2,26,(S (R<|cn 4<|z)<|
 (S (S (R<|m 6 0<|bS 7 6<|m 8 1<|bS 9 8<|b 10 .neq (t 7) (t 9)<|z)<|
 (.cond (t 10) [] [4]
 (S (R<|cn 4<|z)<|
 .ret)
 .skip))<|
 (S (S (R<|m 11 0<|bS 12 11<|b3 13 0<|z)<|
 (.block 0 [] ([4,5]++g 13 13)
 (.loop [13] ([4,5]++g 14 12)
 (S (R<|b 14 .lss (t 13) (t 12)<|z)<|
 (S (.cond (t 14) [] []
 .skip
 (.exit 0))<|
 (S (.block 1 [] ([4,5]++g 15 10)
 (S (R<|m 15 13<|m 5 15<|z)<|
 (S (D<|m 16 0<|m 17 5<|cu 18 2 16 17<|bM 19 2 18<|m 20 1<|m 21 5<|cu 22 2 20 21<|bM 23 2 22<|o 24 (.nC [.int,.int] true (t 19) (t 23))<|z)<|
 (.cond (t 24) [] [4]
 (S (R<|cn 4<|z)<|
 .ret)
 .skip))))<|
 (R<|b 25 .add (t 13) (i 1)<|m 13 25<|z)))))))<|
 (S (R<|gk 4<|z)<|
 .ret)))),[.tmp 4],[.ah]⟩
theorem aay:b5 132 Dq:=b7 Tryz.func132 rfl
def Dr(b:aR)(c:Nat)(e g:J)(h i:U)(j:J)(k:bb):(bb)->bb:=λb c l=>(ar .lss (aI c 0) j).bind λj=>aB (λ_ j=>aB (λ_ e=>(ar .add (aI c 0) (.int .i64 1)).bind λc=>b [c] (trim i [c] e)) λb=>(bW 2 e (aI c 0)).bind λe=>(ab true 2 e j).bind λe=>(bW 2 g (aI c 0)).bind λc=>(ab true 2 c j).bind λc=>(lu [.int,.int] true e c).bind λc=>aB (λ_ c=>b [] c) λb=>a8 c (aL [.ah] h j [(.bool false)]) (b [] j)) λb=>a8 j (b [] l) (k [] l)
def OE(b:aR)(c:Nat)(e g:J)(h:U):bh:=(bw false e).bind λi=>(bw false g).bind λj=>(ar .neq i j).bind λi=>aB (λ_ i=>(bw false e).bind λj=>aB (λ_ b=>aL [.ah] h b [(.bool true)]) λk=>cr (Dr b c e g h i j k) c [(.int .i64 0)] i) λb=>a8 i (aL [.ah] h h [(.bool false)]) (b [] h)
open Go.aN.G in
def Ds:bU:=⟨2,59,(S (R<|c9 2 55 0<|c9 3 55 1<|cn 4<|z)<|
 (S (R<|f 5 1 2<|l 6 5<|f 7 1 3<|l 8 7<|dU 9 161 6 8<|m 10 9<|q 16 10 true (g 11 5) (f 11 0 2<|l 12 11<|f 13 0 3<|l 14 13<|o 15 (.mQ false (t 12) (t 14))<|z) (t 15)<|
 m 17 16<|q 23 17 true (g 18 5) (f 18 2 2<|l 19 18<|f 20 2 3<|l 21 20<|o 22 (.mQ false (t 19) (t 21))<|z) (t 22)<|
 m 24 23<|q 30 24 true (g 25 5) (f 25 3 2<|l 26 25<|f 27 3 3<|l 28 27<|b 29 .eql (t 26) (t 28)<|z) (t 29)<|
 m 31 30<|q 37 31 true (g 32 5) (f 32 4 2<|l 33 32<|f 34 4 3<|l 35 34<|b 36 .eql (t 33) (t 35)<|z) (t 36)<|
 m 38 37<|q 44 38 true (g 39 5) (f 39 5 2<|l 40 39<|f 41 5 3<|l 42 41<|o 43 (.mQ false (t 40) (t 42))<|z) (t 43)<|
 m 45 44<|q 51 45 true (g 46 5) (f 46 6 2<|l 47 46<|f 48 6 3<|l 49 48<|b 50 .eql (t 47) (t 49)<|z) (t 50)<|
 m 52 51<|q 58 52 true (g 53 5) (f 53 7 2<|l 54 53<|f 55 7 3<|l 56 55<|b 57 .eql (t 54) (t 56)<|z) (t 57)<|
 m 4 58<|z)<|
 .ret)),[.tmp 4],[.ah]⟩
theorem aaz:b5 133 Ds:=b7 Tryz.func133 rfl
def OF(b:aR)(c:Nat)(e g:J)(h:U):bh:=bF (.ptr h.length 0) (h++[.box (b' e) 55 .rw]) λc e=>bF (.ptr e.length 0) (e++[.box (b' g) 55 .rw]) λe g=>(aq 1 c).bind λi=>(ab false 1 i g).bind λi=>(aq 1 e).bind λj=>(ab false 1 j g).bind λj=>(b 161 [i,j] g).bind λb=>a6 (λb g=>a6 (λb g=>a6 (λb g=>a6 (λb g=>a6 (λb g=>a6 (λb g=>a6 (λb c=>aL [.ah] h c [b]) λh=>a7 b true ((aq 7 c).bind λb=>(ab false 1 b g).bind λb=>(aq 7 e).bind λc=>(ab false 1 c g).bind λc=>(ar .eql b c).bind λb=>h b g) (h (.bool false) g)) λh=>a7 b true ((aq 6 c).bind λb=>(ab false 1 b g).bind λb=>(aq 6 e).bind λc=>(ab false 1 c g).bind λc=>(ar .eql b c).bind λb=>h b g) (h (.bool false) g)) λh=>a7 b true ((aq 5 c).bind λb=>(ab false 1 b g).bind λb=>(aq 5 e).bind λc=>(ab false 1 c g).bind λc=>(nO false b c).bind λb=>h b g) (h (.bool false) g)) λh=>a7 b true ((aq 4 c).bind λb=>(ab false 1 b g).bind λb=>(aq 4 e).bind λc=>(ab false 1 c g).bind λc=>(ar .eql b c).bind λb=>h b g) (h (.bool false) g)) λh=>a7 b true ((aq 3 c).bind λb=>(ab false 1 b g).bind λb=>(aq 3 e).bind λc=>(ab false 1 c g).bind λc=>(ar .eql b c).bind λb=>h b g) (h (.bool false) g)) λh=>a7 b true ((aq 2 c).bind λb=>(ab false 1 b g).bind λb=>(aq 2 e).bind λc=>(ab false 1 c g).bind λc=>(nO false b c).bind λb=>h b g) (h (.bool false) g)) λg=>a7 b.1 true ((aq 0 c).bind λc=>(ab false 1 c b.2).bind λc=>(aq 0 e).bind λe=>(ab false 1 e b.2).bind λe=>(nO false c e).bind λc=>g c b.2) (g (.bool false) b.2)
open Go.aN.G in
def Dt:bU:=⟨2,30,(S (R<|o 4 (.move (.const (.int .u64 0)))<|o 5 (.move (.const (.int .u64 0)))<|z)<|
 (S (.cond (.const (.bool false)) [] (g 4 4++g 10 12)
 (S (R<|m 11 0<|o 12 (.conv .u32 (t 11))<|m 13 1<|o 14 (.conv .u32 (t 13))<|dU 15 162 12 14<|m 10 15<|eC 16 10 0<|eC 17 10 1<|m 6 16<|m 7 17<|z)<|
 (S (R<|m 18 6<|o 19 (.conv .u64 (t 18))<|m 20 7<|o 21 (.conv .u64 (t 20))<|m 4 19<|m 5 21<|z)<|
 .ret))
 .skip)<|
 (S (R<|m 23 0<|m 24 1<|dU 25 163 23 24<|m 22 25<|eC 26 22 0<|eC 27 22 1<|m 8 26<|m 9 27<|z)<|
 (S (R<|m 28 8<|m 29 9<|m 4 28<|m 5 29<|z)<|
 .ret)))),[.tmp 4,.tmp 5],[.ah,.ah]⟩
theorem aaA:b5 134 Dt:=b7 Tryz.func134 rfl
def OG(b:aR)(c:Nat)(e g:J)(h:U):bh:=aB (λ_ c=>(b 163 [e,g] c).bind λb=>(ea b.1 0).bind λc=>(ea b.1 1).bind λe=>aL [.ah,.ah] h b.2 [c,e]) λc=>a8 (.bool false) ((ml .u32 e).bind λc=>(ml .u32 g).bind λe=>(b 162 [c,e] h).bind λb=>(ea b.1 0).bind λc=>(ea b.1 1).bind λe=>(ml .u64 c).bind λc=>(ml .u64 e).bind λe=>aL [.ah,.ah] h b.2 [c,e]) (c [] h)
open Go.aN.G in
def Du:bU:=⟨1,18,(S (R<|o 2 (.new 154 eH)<|cn 3<|z)<|
 (S (S (R<|m 6 0<|bS 7 6<|b3 8 0<|z)<|
 (.block 0 [] ([3,5]++g 8 9)
 (.loop [8] ([3,5]++g 9 8)
 (S (R<|b 9 .lss (t 8) (t 7)<|z)<|
 (S (.cond (t 9) [] []
 .skip
 (.exit 0))<|
 (S (.block 1 [] ([3,5]++g 10 6)
 (S (R<|cu 10 3 6 8<|bM 11 3 10<|o 5 (.new 154 eH)<|bP 3 5 11<|z)<|
 (S (R<|f 12 2 5<|l 13 12<|b 14 .neq (t 13) (i 0)<|z)<|
 (.cond (t 14) [] [3,15]
 (S (R<|bM 15 3 5<|bP 3 2 15<|gk 3<|z)<|
 .ret)
 .skip))))<|
 (R<|b 16 .add (t 8) (i 1)<|m 8 16<|z)))))))<|
 (S (R<|o 17 (.build eH [])<|bP 3 2 17<|cn 3<|z)<|
 .ret))),[.cell 2 true 3,.tmp 3],[.ah,.ah]⟩
theorem aaB:b5 135 Du:=b7 Tryz.func135 rfl
def Dv(b:aR)(c:Nat)(e:J)(g:U)(h:J)(i:U)(j:J)(k:bb):(bb)->bb:=λb c l=>(ar .lss (aI c 0) j).bind λj=>aB (λ_ j=>aB (λ_ e=>(ar .add (aI c 0) (.int .i64 1)).bind λc=>b [c] (trim i [c] e)) λb=>(bW 3 e (aI c 0)).bind λc=>(ab true 3 c j).bind λc=>bF (.ptr j.length 0) (j++[.box [.str ⟨#[]⟩,.int .i64 0,.int .i64 0] 154 .rw]) λe i=>(a_ 3 e c i).bind λc=>(aq 2 e).bind λi=>(ab false 1 i c).bind λi=>(ar .neq i (.int .i64 0)).bind λi=>aB (λ_ c=>b [] c) λb=>a8 i ((ab true 3 e c).bind λb=>(a_ 3 h b c).bind λb=>(ab true 3 h b).bind λc=>aL [.ah,.ah] g b [c,(.bool true)]) (b [] c)) λb=>a8 j (b [] l) (k [] l)
def OH(b:aR)(c:Nat)(e:J)(g:U):bh:=bF (.ptr g.length 0) (g++[.box [.str ⟨#[]⟩,.int .i64 0,.int .i64 0] 154 .rw]) λh i=>(bw false e).bind λj=>aB (λ_ b=>(cK [.str ⟨#[]⟩,.int .i64 0,.int .i64 0] []).bind λc=>(a_ 3 h (J.agg c) b).bind λb=>(ab true 3 h b).bind λc=>aL [.ah,.ah] g b [c,(.bool false)]) λk=>cr (Dv b c e g h i j k) c [(.int .i64 0)] i
open Go.aN.G in
def Dw:bU:=⟨3,12,(S (R<|o 6 (.new 154 eH)<|z)<|
 (S (S (R<|m 7 0<|z)<|
 (.cond (t 7) [] [8]
 (S (R<|o 8 (.build eH [])<|bP 3 6 8<|z)<|
 .ret)
 .skip))<|
 (S (R<|m 9 1<|m 10 2<|o 11 (.build eH [(0,1,(t 9)),(1,1,(i 0)),(2,1,(t 10))])<|bP 3 6 11<|z)<|
 .ret))),[.cell 6 true 3],[.ah]⟩
theorem aaC:b5 136 Dw:=b7 Tryz.func136 rfl
def OI(b:aR)(c:Nat)(e g h:J)(i:U):bh:=bF (.ptr i.length 0) (i++[.box [.str ⟨#[]⟩,.int .i64 0,.int .i64 0] 154 .rw]) λb c=>aB (λ_ c=>(cK [.str ⟨#[]⟩,.int .i64 0,.int .i64 0] [(0,1,g),(1,1,(.int .i64 0)),(2,1,h)]).bind λe=>(a_ 3 b (J.agg e) c).bind λc=>(ab true 3 b c).bind λb=>aL [.ah] i c [b]) λg=>a8 e ((cK [.str ⟨#[]⟩,.int .i64 0,.int .i64 0] []).bind λe=>(a_ 3 b (J.agg e) c).bind λc=>(ab true 3 b c).bind λb=>aL [.ah] i c [b]) (g [] c)
open Go.aN.G in
def Dx:bU:=⟨1,23,(S (R<|cn 2<|z)<|
 (S (S (R<|m 4 0<|o 5 (.len true (t 4))<|b 6 .gtr (t 5) (i 22)<|z)<|
 (.cond (t 6) [] [2]
 (S (R<|cn 2<|z)<|
 .ret)
 .skip))<|
 (S (S (R<|b3 3 0<|z)<|
 (.block 0 [] ([2,3]++g 7 16)
 (.loop [3] ([2]++g 7 16)
 (S (S (R<|m 7 3<|m 8 0<|o 9 (.len true (t 8))<|b 10 .lss (t 7) (t 9)<|z)<|
 (.cond (t 10) [] []
 .skip
 (.exit 0)))<|
 (S (.block 1 [] ([2]++g 13 10)
 (S (R<|m 13 0<|m 14 3<|o 15 (.mR (t 13) (t 14))<|b 16 .lss (t 15) (.const (.int .u8 32))<|m 17 16<|q 22 17 false (g 18 4) (m 18 0<|m 19 3<|o 20 (.mR (t 18) (t 19))<|b 21 .gtr (t 20) (.const (.int .u8 126))<|z) (t 21)<|
 z)<|
 (.cond (t 22) [] [2]
 (S (R<|cn 2<|z)<|
 .ret)
 .skip)))<|
 (R<|m 11 3<|b 12 .add (t 11) (i 1)<|m 3 12<|z))))))<|
 (S (R<|gk 2<|z)<|
 .ret)))),[.tmp 2],[.ah]⟩
theorem aaD:b5 137 Dx:=b7 Tryz.func137 rfl
def Dy(b:aR)(c:Nat)(e:J)(g h:U)(i:bb):(bb)->bb:=λb c j=>(bw true e).bind λk=>(ar .lss (aI c 0) k).bind λk=>aB (λ_ i=>aB (λ_ e=>(ar .add (aI c 0) (.int .i64 1)).bind λc=>b [c] (trim h [c] e)) λb=>(mm e (aI c 0)).bind λh=>(ar .lss h (.int .u8 32)).bind λh=>a6 (λc e=>aB (λ_ c=>b [] c) λb=>a8 c (aL [.ah] g e [(.bool false)]) (b [] e)) λb=>a7 h false ((mm e (aI c 0)).bind λc=>(ar .gtr c (.int .u8 126)).bind λc=>b c i) (b (.bool true) i)) λb=>a8 k (b [] j) (i [] j)
def OJ(b:aR)(c:Nat)(e:J)(g:U):bh:=(bw true e).bind λh=>(ar .gtr h (.int .i64 22)).bind λh=>aB (λ_ h=>aB (λ_ b=>aL [.ah] g b [(.bool true)]) λi=>cr (Dy b c e g h i) c [(.int .i64 0)] h) λb=>a8 h (aL [.ah] g g [(.bool false)]) (b [] g)
open Go.aN.G in
def Dz:bU:=⟨2,28,(S (R<|c9 2 27 0<|o 4 (.new 154 eH)<|z)<|
 (S (S (R<|f 7 10 2<|l 8 7<|bS 9 8<|b3 10 0<|z)<|
 (.block 0 [] ([5,6]++g 10 17)
 (.loop [10] ([5,6]++g 11 16)
 (S (R<|b 11 .lss (t 10) (t 9)<|z)<|
 (S (.cond (t 11) [] []
 .skip
 (.exit 0))<|
 (S (.block 1 [] ([5,6]++g 12 14)
 (S (R<|m 12 10<|m 5 12<|z)<|
 (S (D<|bM 13 13 2<|f 14 10 2<|l 15 14<|m 16 5<|cu 17 2 15 16<|bM 18 2 17<|m 19 1<|o 20 (.call 164 [(t 13),(t 18),(t 19)])<|m 6 20<|z)<|
 (S (R<|m 21 6<|b 22 .neq (t 21) (i 0)<|z)<|
 (.cond (t 22) [] [23,24,25]
 (S (R<|m 23 5<|m 24 6<|o 25 (.build eH [(0,1,(.const (.string ⟨#[112,97,116,116,101,114,110,115]⟩))),(1,1,(t 23)),(2,1,(t 24))])<|bP 3 4 25<|z)<|
 .ret)
 .skip)))))<|
 (R<|b 26 .add (t 10) (i 1)<|m 10 26<|z)))))))<|
 (S (R<|o 27 (.build eH [])<|bP 3 4 27<|z)<|
 .ret))),[.cell 4 true 3],[.ah]⟩
theorem aaE:b5 138 Dz:=b7 Tryz.func138 rfl
def DA(b:aR)(c:Nat)(e:J)(g:U)(h i:J)(j:U)(k:J)(l:bb):(bb)->bb:=λc m n=>(ar .lss (aI m 0) k).bind λk=>aB (λ_ k=>aB (λ_ b=>(ar .add (aI m 0) (.int .i64 1)).bind λe=>c [e] (trim j [e] b)) λc=>(ab true 13 h k).bind λj=>(aq 10 h).bind λh=>(ab false 1 h k).bind λh=>(bW 2 h (aI m 0)).bind λh=>(ab true 2 h k).bind λh=>(b 164 [j,h,e] k).bind λb=>(ar .neq b.1 (.int .i64 0)).bind λe=>aB (λ_ b=>c [] b) λc=>a8 e ((cK [.str ⟨#[]⟩,.int .i64 0,.int .i64 0] [(0,1,(.str ⟨#[112,97,116,116,101,114,110,115]⟩:J)),(1,1,(aI m 0)),(2,1,b.1)]).bind λc=>(a_ 3 i (J.agg c) b.2).bind λb=>(ab true 3 i b).bind λc=>aL [.ah] g b [c]) (c [] b.2)) λb=>a8 k (b [] n) (l [] n)
def OK(b:aR)(c:Nat)(e g:J)(h:U):bh:=bF (.ptr h.length 0) (h++[.box (b' e) 27 .rw]) λe i=>bF (.ptr i.length 0) (i++[.box [.str ⟨#[]⟩,.int .i64 0,.int .i64 0] 154 .rw]) λi j=>(aq 10 e).bind λk=>(ab false 1 k j).bind λk=>(bw false k).bind λk=>aB (λ_ b=>(cK [.str ⟨#[]⟩,.int .i64 0,.int .i64 0] []).bind λc=>(a_ 3 i (J.agg c) b).bind λb=>(ab true 3 i b).bind λc=>aL [.ah] h b [c]) λl=>cr (DA b c g h e i j k l) c [(.int .i64 0)] j
open Go.aN.G in
def DB:bU:=⟨1,29,(S (R<|c9 1 27 0<|o 2 (.new 154 eH)<|z)<|
 (S (S (R<|f 5 3 1<|l 6 5<|bS 7 6<|b3 8 0<|z)<|
 (.block 0 [] ([3,4]++g 8 20)
 (.loop [8] ([3,4]++g 9 19)
 (S (R<|b 9 .lss (t 8) (t 7)<|z)<|
 (S (.cond (t 9) [] []
 .skip
 (.exit 0))<|
 (S (.block 1 [] ([3,4]++g 10 17)
 (S (R<|m 10 8<|cu 11 1 6 8<|l 12 11<|m 3 10<|m 4 12<|z)<|
 (S (R<|m 13 4<|dA 14 49 13<|dB 15 14<|m 16 15<|q 24 16 true (g 17 7) (m 17 4<|f 18 10 1<|l 19 18<|bS 20 19<|b 21 .sub (t 20) (i 1)<|o 22 (.call 57 [(t 17),(i 0),(t 21)])<|dB 23 22<|z) (t 23)<|
 z)<|
 (.cond (t 24) [] [25,26]
 (S (R<|m 25 3<|o 26 (.build eH [(0,1,(.const (.string ⟨#[111,114,100,101,114,115]⟩))),(1,1,(t 25)),(2,1,(i 10))])<|bP 3 2 26<|z)<|
 .ret)
 .skip))))<|
 (R<|b 27 .add (t 8) (i 1)<|m 8 27<|z)))))))<|
 (S (R<|o 28 (.build eH [])<|bP 3 2 28<|z)<|
 .ret))),[.cell 2 true 3],[.ah]⟩
theorem aaF:b5 139 DB:=b7 Tryz.func139 rfl
def DC(b:aR)(c:Nat)(e:U)(g h:J)(i:U)(j k:J)(l:bb):(bb)->bb:=λc m n=>(ar .lss (aI m 0) k).bind λk=>aB (λ_ k=>aB (λ_ b=>(ar .add (aI m 0) (.int .i64 1)).bind λe=>c [e] (trim i [e] b)) λc=>(bW 1 j (aI m 0)).bind λi=>(ab false 1 i k).bind λi=>(b 49 [i] k).bind λj=>(di .not j.1).bind λk=>a6 (λb g=>aB (λ_ b=>c [] b) λc=>a8 b ((cK [.str ⟨#[]⟩,.int .i64 0,.int .i64 0] [(0,1,(.str ⟨#[111,114,100,101,114,115]⟩:J)),(1,1,(aI m 0)),(2,1,(.int .i64 10))]).bind λb=>(a_ 3 h (J.agg b) g).bind λb=>(ab true 3 h b).bind λc=>aL [.ah] e b [c]) (c [] g)) λc=>a7 k true ((aq 10 g).bind λe=>(ab false 1 e j.2).bind λe=>(bw false e).bind λe=>(ar .sub e (.int .i64 1)).bind λe=>(b 57 [i,(.int .i64 0),e] j.2).bind λb=>(di .not b.1).bind λe=>c e b.2) (c (.bool false) j.2)) λb=>a8 k (b [] n) (l [] n)
def OL(b:aR)(c:Nat)(e:J)(g:U):bh:=bF (.ptr g.length 0) (g++[.box (b' e) 27 .rw]) λe h=>bF (.ptr h.length 0) (h++[.box [.str ⟨#[]⟩,.int .i64 0,.int .i64 0] 154 .rw]) λh i=>(aq 3 e).bind λj=>(ab false 1 j i).bind λj=>(bw false j).bind λk=>aB (λ_ b=>(cK [.str ⟨#[]⟩,.int .i64 0,.int .i64 0] []).bind λc=>(a_ 3 h (J.agg c) b).bind λb=>(ab true 3 h b).bind λc=>aL [.ah] g b [c]) λl=>cr (DC b c g e h i j k l) c [(.int .i64 0)] i
open Go.aN.G in
def DD:bU:=⟨1,20,(S (R<|c9 1 27 0<|o 2 (.new 154 eH)<|z)<|
 (S (S (R<|f 5 9 1<|l 6 5<|bS 7 6<|b3 8 0<|z)<|
 (.block 0 [] ([3,4]++g 8 11)
 (.loop [8] ([3,4]++g 9 10)
 (S (R<|b 9 .lss (t 8) (t 7)<|z)<|
 (S (.cond (t 9) [] []
 .skip
 (.exit 0))<|
 (S (.block 1 [] ([3,4]++g 10 8)
 (S (R<|m 10 8<|cu 11 1 6 8<|l 12 11<|m 3 10<|m 4 12<|z)<|
 (S (R<|m 13 4<|o 14 (.call 57 [(t 13),(i 0),(i 256)])<|dB 15 14<|z)<|
 (.cond (t 15) [] [16,17]
 (S (R<|m 16 3<|o 17 (.build eH [(0,1,(.const (.string ⟨#[112,97,110,115]⟩))),(1,1,(t 16)),(2,1,(i 5))])<|bP 3 2 17<|z)<|
 .ret)
 .skip))))<|
 (R<|b 18 .add (t 8) (i 1)<|m 8 18<|z)))))))<|
 (S (R<|o 19 (.build eH [])<|bP 3 2 19<|z)<|
 .ret))),[.cell 2 true 3],[.ah]⟩
theorem aaG:b5 140 DD:=b7 Tryz.func140 rfl
def DE(b:aR)(c:Nat)(e:U)(g:J)(h:U)(i j:J)(k:bb):(bb)->bb:=λc l m=>(ar .lss (aI l 0) j).bind λj=>aB (λ_ j=>aB (λ_ b=>(ar .add (aI l 0) (.int .i64 1)).bind λe=>c [e] (trim h [e] b)) λc=>(bW 1 i (aI l 0)).bind λh=>(ab false 1 h j).bind λh=>(b 57 [h,(.int .i64 0),(.int .i64 256)] j).bind λb=>(di .not b.1).bind λh=>aB (λ_ b=>c [] b) λc=>a8 h ((cK [.str ⟨#[]⟩,.int .i64 0,.int .i64 0] [(0,1,(.str ⟨#[112,97,110,115]⟩:J)),(1,1,(aI l 0)),(2,1,(.int .i64 5))]).bind λc=>(a_ 3 g (J.agg c) b.2).bind λb=>(ab true 3 g b).bind λc=>aL [.ah] e b [c]) (c [] b.2)) λb=>a8 j (b [] m) (k [] m)
def OM(b:aR)(c:Nat)(e:J)(g:U):bh:=bF (.ptr g.length 0) (g++[.box (b' e) 27 .rw]) λe h=>bF (.ptr h.length 0) (h++[.box [.str ⟨#[]⟩,.int .i64 0,.int .i64 0] 154 .rw]) λh i=>(aq 9 e).bind λe=>(ab false 1 e i).bind λe=>(bw false e).bind λj=>aB (λ_ b=>(cK [.str ⟨#[]⟩,.int .i64 0,.int .i64 0] []).bind λc=>(a_ 3 h (J.agg c) b).bind λb=>(ab true 3 h b).bind λc=>aL [.ah] g b [c]) λk=>cr (DE b c g h i e j k) c [(.int .i64 0)] i
open Go.aN.G in
def DF:bU:=⟨1,21,(S (R<|c9 1 27 0<|o 2 (.new 154 eH)<|z)<|
 (S (S (R<|f 4 11 1<|l 5 4<|bS 6 5<|b3 7 0<|z)<|
 (.block 0 [] ([3]++g 7 13)
 (.loop [7] ([3]++g 8 12)
 (S (R<|b 8 .lss (t 7) (t 6)<|z)<|
 (S (.cond (t 8) [] []
 .skip
 (.exit 0))<|
 (S (.block 1 [] ([3]++g 9 10)
 (S (R<|m 9 7<|m 3 9<|z)<|
 (S (R<|f 10 11 1<|l 11 10<|m 12 3<|cu 13 13 11 12<|bM 14 13 13<|dA 15 165 14<|dB 16 15<|z)<|
 (.cond (t 16) [] [17,18]
 (S (R<|m 17 3<|o 18 (.build eH [(0,1,(.const (.string ⟨#[115,97,109,112,108,101,115]⟩))),(1,1,(t 17)),(2,1,(i 1))])<|bP 3 2 18<|z)<|
 .ret)
 .skip))))<|
 (R<|b 19 .add (t 7) (i 1)<|m 7 19<|z)))))))<|
 (S (R<|o 20 (.build eH [])<|bP 3 2 20<|z)<|
 .ret))),[.cell 2 true 3],[.ah]⟩
theorem aaH:b5 141 DF:=b7 Tryz.func141 rfl
def DG(b:aR)(c:Nat)(e:U)(g h:J)(i:U)(j:J)(k:bb):(bb)->bb:=λc l m=>(ar .lss (aI l 0) j).bind λj=>aB (λ_ j=>aB (λ_ b=>(ar .add (aI l 0) (.int .i64 1)).bind λe=>c [e] (trim i [e] b)) λc=>(aq 11 g).bind λg=>(ab false 1 g j).bind λg=>(bW 13 g (aI l 0)).bind λg=>(ab true 13 g j).bind λg=>(b 165 [g] j).bind λb=>(di .not b.1).bind λg=>aB (λ_ b=>c [] b) λc=>a8 g ((cK [.str ⟨#[]⟩,.int .i64 0,.int .i64 0] [(0,1,(.str ⟨#[115,97,109,112,108,101,115]⟩:J)),(1,1,(aI l 0)),(2,1,(.int .i64 1))]).bind λc=>(a_ 3 h (J.agg c) b.2).bind λb=>(ab true 3 h b).bind λc=>aL [.ah] e b [c]) (c [] b.2)) λb=>a8 j (b [] m) (k [] m)
def ON(b:aR)(c:Nat)(e:J)(g:U):bh:=bF (.ptr g.length 0) (g++[.box (b' e) 27 .rw]) λe h=>bF (.ptr h.length 0) (h++[.box [.str ⟨#[]⟩,.int .i64 0,.int .i64 0] 154 .rw]) λh i=>(aq 11 e).bind λj=>(ab false 1 j i).bind λj=>(bw false j).bind λj=>aB (λ_ b=>(cK [.str ⟨#[]⟩,.int .i64 0,.int .i64 0] []).bind λc=>(a_ 3 h (J.agg c) b).bind λb=>(ab true 3 h b).bind λc=>aL [.ah] g b [c]) λk=>cr (DG b c g e h i j k) c [(.int .i64 0)] i
open Go.aN.G in
def DH:bU:=⟨1,25,(S (R<|c9 1 27 0<|o 2 (.new 154 eH)<|z)<|
 (S (S (R<|f 5 12 1<|l 6 5<|bS 7 6<|b3 8 0<|z)<|
 (.block 0 [] ([3,4]++g 8 16)
 (.loop [8] ([3,4]++g 9 15)
 (S (R<|b 9 .lss (t 8) (t 7)<|z)<|
 (S (.cond (t 9) [] []
 .skip
 (.exit 0))<|
 (S (.block 1 [] ([3,4]++g 10 13)
 (S (R<|m 10 8<|m 3 10<|z)<|
 (S (D<|bM 11 13 1<|f 12 12 1<|l 13 12<|m 14 3<|cu 15 33 13 14<|bM 16 33 15<|dU 17 166 11 16<|m 4 17<|z)<|
 (S (R<|m 18 4<|b 19 .neq (t 18) (i 0)<|z)<|
 (.cond (t 19) [] [20,21,22]
 (S (R<|m 20 3<|m 21 4<|o 22 (.build eH [(0,1,(.const (.string ⟨#[105,110,115,116,115]⟩))),(1,1,(t 20)),(2,1,(t 21))])<|bP 3 2 22<|z)<|
 .ret)
 .skip)))))<|
 (R<|b 23 .add (t 8) (i 1)<|m 8 23<|z)))))))<|
 (S (R<|o 24 (.build eH [])<|bP 3 2 24<|z)<|
 .ret))),[.cell 2 true 3],[.ah]⟩
theorem aaI:b5 142 DH:=b7 Tryz.func142 rfl
def DI(b:aR)(c:Nat)(e:U)(g h:J)(i:U)(j:J)(k:bb):(bb)->bb:=λc l m=>(ar .lss (aI l 0) j).bind λj=>aB (λ_ j=>aB (λ_ b=>(ar .add (aI l 0) (.int .i64 1)).bind λe=>c [e] (trim i [e] b)) λc=>(ab true 13 g j).bind λi=>(aq 12 g).bind λg=>(ab false 1 g j).bind λg=>(bW 33 g (aI l 0)).bind λg=>(ab true 33 g j).bind λg=>(b 166 [i,g] j).bind λb=>(ar .neq b.1 (.int .i64 0)).bind λg=>aB (λ_ b=>c [] b) λc=>a8 g ((cK [.str ⟨#[]⟩,.int .i64 0,.int .i64 0] [(0,1,(.str ⟨#[105,110,115,116,115]⟩:J)),(1,1,(aI l 0)),(2,1,b.1)]).bind λc=>(a_ 3 h (J.agg c) b.2).bind λb=>(ab true 3 h b).bind λc=>aL [.ah] e b [c]) (c [] b.2)) λb=>a8 j (b [] m) (k [] m)
def OO(b:aR)(c:Nat)(e:J)(g:U):bh:=bF (.ptr g.length 0) (g++[.box (b' e) 27 .rw]) λe h=>bF (.ptr h.length 0) (h++[.box [.str ⟨#[]⟩,.int .i64 0,.int .i64 0] 154 .rw]) λh i=>(aq 12 e).bind λj=>(ab false 1 j i).bind λj=>(bw false j).bind λj=>aB (λ_ b=>(cK [.str ⟨#[]⟩,.int .i64 0,.int .i64 0] []).bind λc=>(a_ 3 h (J.agg c) b).bind λb=>(ab true 3 h b).bind λc=>aL [.ah] g b [c]) λk=>cr (DI b c g e h i j k) c [(.int .i64 0)] i
open Go.aN.G in
def DJ:bU:=⟨3,91,(S (R<|c9 3 55 0<|cn 6<|z)<|
 (S (R<|f 10 1 3<|l 11 10<|bS 12 11<|m 7 12<|z)<|
 (S (S (R<|m 13 7<|b 14 .gtr (t 13) (i 16)<|m 15 14<|q 22 15 false [16,17,18,21,19,20] (f 16 0 3<|l 17 16<|m 18 17<|q 21 18 true [19,20] (m 19 7<|b 20 .eql (t 19) (i 0)<|z) (t 20)<|
 z) (t 21)<|
 z)<|
 (.cond (t 22) [] [6]
 (S (R<|cn 6<|z)<|
 .ret)
 .skip))<|
 (S (S (R<|b3 8 0<|z)<|
 (.block 0 [] ([6,8,9]++g 23 50)
 (.loop [8] ([6,9]++g 23 50)
 (S (S (R<|m 23 8<|m 24 7<|b 25 .lss (t 23) (t 24)<|z)<|
 (.cond (t 25) [] []
 .skip
 (.exit 0)))<|
 (S (.block 1 [] ([6,9]++g 28 45)
 (S (R<|f 28 1 3<|l 29 28<|m 30 8<|cu 31 2 29 30<|bM 32 2 31<|o 9 (.new 120 [(.int .i64 0),(.int .i64 0)])<|bP 2 9 32<|z)<|
 (S (D<|m 33 8<|b 34 .eql (t 33) (i 0)<|m 35 34<|q 39 35 true [36,37,38] (f 36 0 9<|l 37 36<|b 38 .neq (t 37) (i 0)<|z) (t 38)<|
 m 40 39<|q 55 40 false ([41,42,43,54]++g 44 10) (m 41 8<|b 42 .gtr (t 41) (i 0)<|m 43 42<|q 54 43 true (g 44 10) (f 44 0 9<|l 45 44<|f 46 1 3<|l 47 46<|m 48 8<|b 49 .sub (t 48) (i 1)<|cu 50 2 47 49<|f 51 0 50<|l 52 51<|b 53 .leq (t 45) (t 52)<|z) (t 53)<|
 z) (t 54)<|
 m 56 55<|q 60 56 false [57,58,59] (f 57 0 9<|l 58 57<|b 59 .gtr (t 58) (i 9999)<|z) (t 59)<|
 m 61 60<|q 66 61 false (g 62 4) (f 62 1 9<|l 63 62<|m 64 1<|b 65 .lss (t 63) (t 64)<|z) (t 65)<|
 m 67 66<|q 72 67 false (g 68 4) (f 68 1 9<|l 69 68<|m 70 2<|b 71 .gtr (t 69) (t 70)<|z) (t 71)<|
 z)<|
 (.cond (t 72) [] [6]
 (S (R<|cn 6<|z)<|
 .ret)
 .skip))))<|
 (R<|m 26 8<|b 27 .add (t 26) (i 1)<|m 8 27<|z))))))<|
 (S (R<|f 73 2 3<|l 74 73<|f 75 3 3<|l 76 75<|f 77 4 3<|l 78 77<|m 79 7<|o 80 (.call 170 [(t 74),(t 76),(t 78),(t 79)])<|m 81 80<|q 90 81 true (g 82 8) (f 82 5 3<|l 83 82<|f 84 6 3<|l 85 84<|f 86 7 3<|l 87 86<|m 88 7<|o 89 (.call 170 [(t 83),(t 85),(t 87),(t 88)])<|z) (t 89)<|
 m 6 90<|z)<|
 .ret))))),[.tmp 6],[.ah]⟩
theorem aaJ:b5 145 DJ:=b7 Tryz.func145 rfl
def DK(b:aR)(c:Nat)(e g:J)(h:U)(i j:J)(k:U)(l:bb):(bb)->bb:=λb c m=>(ar .lss (aI c 0) j).bind λj=>aB (λ_ j=>aB (λ_ e=>(ar .add (aI c 0) (.int .i64 1)).bind λc=>b [c] (trim k [c] e)) λb=>(aq 1 i).bind λk=>(ab false 1 k j).bind λk=>(bW 2 k (aI c 0)).bind λk=>(ab true 2 k j).bind λk=>bF (.ptr j.length 0) (j++[.box [.int .i64 0,.int .i64 0] 120 .rw]) λj l=>(a_ 2 j k l).bind λk=>(ar .eql (aI c 0) (.int .i64 0)).bind λl=>a6 (λk l=>a6 (λc i=>a6 (λc i=>a6 (λc e=>a6 (λc e=>aB (λ_ c=>b [] c) λb=>a8 c (aL [.ah] h e [(.bool false)]) (b [] e)) λb=>a7 c false ((aq 1 j).bind λc=>(ab false 1 c e).bind λc=>(ar .gtr c g).bind λc=>b c e) (b (.bool true) e)) λb=>a7 c false ((aq 1 j).bind λc=>(ab false 1 c i).bind λc=>(ar .lss c e).bind λc=>b c i) (b (.bool true) i)) λb=>a7 c false ((aq 0 j).bind λc=>(ab false 1 c i).bind λc=>(ar .gtr c (.int .i64 9999)).bind λc=>b c i) (b (.bool true) i)) λb=>a7 k false ((ar .gtr (aI c 0) (.int .i64 0)).bind λe=>a6 (λc e=>b c e) λb=>a7 e true ((aq 0 j).bind λe=>(ab false 1 e l).bind λe=>(aq 1 i).bind λg=>(ab false 1 g l).bind λg=>(ar .sub (aI c 0) (.int .i64 1)).bind λc=>(bW 2 g c).bind λc=>(aq 0 c).bind λc=>(ab false 1 c l).bind λc=>(ar .leq e c).bind λc=>b c l) (b (.bool false) l)) (b (.bool true) l)) λb=>a7 l true ((aq 0 j).bind λc=>(ab false 1 c k).bind λc=>(ar .neq c (.int .i64 0)).bind λc=>b c k) (b (.bool false) k)) λb=>a8 j (b [] m) (l [] m)
def OP(b:aR)(c:Nat)(e g h:J)(i:U):bh:=bF (.ptr i.length 0) (i++[.box (b' e) 55 .rw]) λe j=>(aq 1 e).bind λk=>(ab false 1 k j).bind λk=>(bw false k).bind λk=>(ar .gtr k (.int .i64 16)).bind λl=>a6 (λj l=>aB (λ_ j=>aB (λ_ c=>(aq 2 e).bind λg=>(ab false 1 g c).bind λg=>(aq 3 e).bind λh=>(ab false 1 h c).bind λh=>(aq 4 e).bind λj=>(ab false 1 j c).bind λj=>(b 170 [g,h,j,k] c).bind λc=>a6 (λb c=>aL [.ah] i c [b]) λg=>a7 c.1 true ((aq 5 e).bind λh=>(ab false 1 h c.2).bind λh=>(aq 6 e).bind λi=>(ab false 1 i c.2).bind λi=>(aq 7 e).bind λe=>(ab false 1 e c.2).bind λe=>(b 170 [h,i,e,k] c.2).bind λb=>g b.1 b.2) (g (.bool false) c.2)) λl=>cr (DK b c g h i e k j l) c [(.int .i64 0)] j) λb=>a8 j (aL [.ah] i l [(.bool false)]) (b [] l)) λb=>a7 l false ((aq 0 e).bind λc=>(ab false 1 c j).bind λc=>a6 (λc e=>b c e) λb=>a7 c true ((ar .eql k (.int .i64 0)).bind λc=>b c j) (b (.bool false) j)) (b (.bool true) j)
open Go.aN.G in
def DL:bU:=⟨3,15,(S (R<|cn 6<|z)<|
 (S (R<|m 7 0<|m 8 1<|b 9 .geq (t 7) (t 8)<|m 10 9<|q 14 10 true [11,12,13] (m 11 0<|m 12 2<|b 13 .leq (t 11) (t 12)<|z) (t 13)<|
 m 6 14<|z)<|
 .ret)),[.tmp 6],[.ah]⟩
theorem aaK:b5 146 DL:=b7 Tryz.func146 rfl
def OQ(b:aR)(c:Nat)(e g h:J)(i:U):bh:=(ar .geq e g).bind λb=>a6 (λb c=>aL [.ah] i c [b]) λc=>a7 b true ((ar .leq e h).bind λb=>c b i) (c (.bool false) i)
open Go.aN.G in
def DM:bU:=⟨1,6,(S (R<|c9 1 41 0<|cn 2<|z)<|
 (S (R<|bM 3 6 1<|dA 4 148 3<|dB 5 4<|m 2 5<|z)<|
 .ret)),[.tmp 2],[.ah]⟩
theorem aaL:b5 147 DM:=b7 Tryz.func147 rfl
def OR(b:aR)(c:Nat)(e:J)(g:U):bh:=bF (.ptr g.length 0) (g++[.box (b' e) 41 .rw]) λc e=>(ab true 6 c e).bind λc=>(b 148 [c] e).bind λb=>(di .not b.1).bind λc=>aL [.ah] g b.2 [c]
open Go.aN.G in
def DN:bU:=⟨1,72,(S (R<|c9 1 41 0<|cn 2<|z)<|
 (S (R<|f 6 0 1<|l 7 6<|o 8 (.call 104 [(t 7),(i 0),(i 120)])<|m 9 8<|q 13 9 false [10,11,12] (f 10 0 1<|l 11 10<|b 12 .eql (t 11) (i 253)<|z) (t 12)<|
 m 14 13<|q 18 14 false [15,16,17] (f 15 0 1<|l 16 15<|b 17 .eql (t 16) (i 254)<|z) (t 17)<|
 m 19 18<|q 23 19 false [20,21,22] (f 20 0 1<|l 21 20<|b 22 .eql (t 21) (i 255)<|z) (t 22)<|
 m 3 23<|z)<|
 (S (R<|f 24 2 1<|l 25 24<|o 26 (.call 104 [(t 25),(i 0),(i 12)])<|m 27 26<|q 31 27 true [28,29,30] (f 28 3 1<|l 29 28<|o 30 (.call 104 [(t 29),(i 0),(i 99)])<|z) (t 30)<|
 m 32 31<|q 41 32 true (g 33 4++[40,37,38,39]) (f 33 2 1<|l 34 33<|b 35 .gtr (t 34) (i 0)<|m 36 35<|q 40 36 false [37,38,39] (f 37 3 1<|l 38 37<|b 39 .eql (t 38) (i 0)<|z) (t 39)<|
 z) (t 40)<|
 m 4 41<|z)<|
 (S (R<|f 42 4 1<|l 43 42<|o 44 (.call 104 [(t 43),(i 0),(i 36)])<|m 45 44<|q 49 45 true [46,47,48] (f 46 5 1<|l 47 46<|o 48 (.call 104 [(t 47),(i 0),(i 255)])<|z) (t 48)<|
 m 50 49<|q 59 50 true (g 51 4++[58,55,56,57]) (f 51 4 1<|l 52 51<|b 53 .gtr (t 52) (i 0)<|m 54 53<|q 58 54 false [55,56,57] (f 55 5 1<|l 56 55<|b 57 .eql (t 56) (i 0)<|z) (t 57)<|
 z) (t 58)<|
 m 5 59<|z)<|
 (S (R<|m 60 3<|m 61 60<|q 65 61 true [62,63,64] (f 62 1 1<|l 63 62<|o 64 (.call 104 [(t 63),(i 0),(i 31)])<|z) (t 64)<|
 m 66 65<|q 68 66 true [67] (m 67 4<|z) (t 67)<|
 m 69 68<|q 71 69 true [70] (m 70 5<|z) (t 70)<|
 m 2 71<|z)<|
 .ret))))),[.tmp 2],[.ah]⟩
theorem aaM:b5 148 DN:=b7 Tryz.func148 rfl
def OS(b:aR)(c:Nat)(e:J)(g:U):bh:=bF (.ptr g.length 0) (g++[.box (b' e) 41 .rw]) λc e=>(aq 0 c).bind λh=>(ab false 1 h e).bind λh=>(b 104 [h,(.int .i64 0),(.int .i64 120)] e).bind λe=>a6 (λe h=>a6 (λe h=>a6 (λe h=>(aq 2 c).bind λi=>(ab false 1 i h).bind λi=>(b 104 [i,(.int .i64 0),(.int .i64 12)] h).bind λh=>a6 (λh i=>a6 (λh i=>(aq 4 c).bind λj=>(ab false 1 j i).bind λj=>(b 104 [j,(.int .i64 0),(.int .i64 36)] i).bind λi=>a6 (λi j=>a6 (λi j=>a6 (λb c=>a6 (λb c=>a6 (λb c=>aL [.ah] g c [b]) λe=>a7 b true (e i c) (e (.bool false) c)) λe=>a7 b true (e h c) (e (.bool false) c)) λg=>a7 e true ((aq 1 c).bind λc=>(ab false 1 c j).bind λc=>(b 104 [c,(.int .i64 0),(.int .i64 31)] j).bind λb=>g b.1 b.2) (g (.bool false) j)) λb=>a7 i true ((aq 4 c).bind λe=>(ab false 1 e j).bind λe=>(ar .gtr e (.int .i64 0)).bind λe=>a6 (λc e=>b c e) λb=>a7 e false ((aq 5 c).bind λc=>(ab false 1 c j).bind λc=>(ar .eql c (.int .i64 0)).bind λc=>b c j) (b (.bool true) j)) (b (.bool false) j)) λe=>a7 i.1 true ((aq 5 c).bind λc=>(ab false 1 c i.2).bind λc=>(b 104 [c,(.int .i64 0),(.int .i64 255)] i.2).bind λb=>e b.1 b.2) (e (.bool false) i.2)) λb=>a7 h true ((aq 2 c).bind λe=>(ab false 1 e i).bind λe=>(ar .gtr e (.int .i64 0)).bind λe=>a6 (λc e=>b c e) λb=>a7 e false ((aq 3 c).bind λc=>(ab false 1 c i).bind λc=>(ar .eql c (.int .i64 0)).bind λc=>b c i) (b (.bool true) i)) (b (.bool false) i)) λe=>a7 h.1 true ((aq 3 c).bind λc=>(ab false 1 c h.2).bind λc=>(b 104 [c,(.int .i64 0),(.int .i64 99)] h.2).bind λb=>e b.1 b.2) (e (.bool false) h.2)) λb=>a7 e false ((aq 0 c).bind λc=>(ab false 1 c h).bind λc=>(ar .eql c (.int .i64 255)).bind λc=>b c h) (b (.bool true) h)) λb=>a7 e false ((aq 0 c).bind λc=>(ab false 1 c h).bind λc=>(ar .eql c (.int .i64 254)).bind λc=>b c h) (b (.bool true) h)) λb=>a7 e.1 false ((aq 0 c).bind λc=>(ab false 1 c e.2).bind λc=>(ar .eql c (.int .i64 253)).bind λc=>b c e.2) (b (.bool true) e.2)
open Go.aN.G in
def DO:bU:=⟨2,19,(S (R<|b3 4 0<|z)<|
 (S (S (R<|m 6 0<|bS 7 6<|b3 8 0<|z)<|
 (.block 0 [] ([4,5]++g 8 11)
 (.loop [8] ([4,5]++g 9 10)
 (S (R<|b 9 .lss (t 8) (t 7)<|z)<|
 (S (.cond (t 9) [] []
 .skip
 (.exit 0))<|
 (S (.block 1 [] ([4,5]++g 10 8)
 (S (R<|m 10 8<|m 5 10<|z)<|
 (S (R<|m 11 1<|m 12 0<|m 13 5<|cu 14 6 12 13<|bM 15 6 14<|o 16 (.hU (t 11) [(t 15)])<|z)<|
 (.cond (t 16) [] [4,17]
 (S (R<|m 17 5<|m 4 17<|z)<|
 .ret)
 .skip))))<|
 (R<|b 18 .add (t 8) (i 1)<|m 8 18<|z)))))))<|
 (S (R<|o 4 (.move (i (-1)))<|z)<|
 .ret))),[.tmp 4],[.ah]⟩
theorem aaN:b5 149 DO:=b7 Tryz.func149 rfl
def DP(b:aR)(c:Nat)(e g:J)(h:U)(i:J)(j:bb):(bb)->bb:=λc k l=>(ar .lss (aI k 0) i).bind λi=>aB (λ_ i=>aB (λ_ b=>(ar .add (aI k 0) (.int .i64 1)).bind λe=>c [e] (trim h [e] b)) λc=>(bW 6 e (aI k 0)).bind λe=>(ab true 6 e i).bind λe=>(gh b g [e] i).bind λb=>aB (λ_ b=>c [] b) λc=>a8 b.1 (aL [.ah] h b.2 [(aI k 0)]) (c [] b.2)) λb=>a8 i (b [] l) (j [] l)
def OT(b:aR)(c:Nat)(e g:J)(h:U):bh:=(bw false e).bind λi=>aB (λ_ b=>aL [.ah] h b [(.int .i64 (-1))]) λj=>cr (DP b c e g h i j) c [(.int .i64 0)] h
open Go.aN.G in
def DQ:bU:=⟨2,46,(S (R<|cn 4<|z)<|
 (S (R<|o 6 (.call 102 [])<|m 7 0<|o 8 (.q0 7 true 29 (t 6) (t 7))<|o 5 (.new 83 iM)<|bP 29 5 8<|z)<|
 (S (S (R<|m 9 1<|z)<|
 (.block 0 [] ([4]++g 10 26)
 (S (R<|b 11 .eql (t 9) (i 0)<|m 10 11<|z)<|
 (.cond (t 10) [] ([4]++g 12 24)
 (S (R<|gk 4<|z)<|
 .ret)
 (S (R<|b 13 .eql (t 9) (i 255)<|m 12 13<|z)<|
 (.cond (t 12) [] ([4]++g 14 22)
 (S (R<|m 14 0<|b 15 .eql (t 14) (i 3)<|m 16 15<|q 19 16 false [17,18] (m 17 0<|b 18 .eql (t 17) (i 4)<|z) (t 18)<|
 m 20 19<|q 23 20 false [21,22] (m 21 0<|b 22 .eql (t 21) (i 6)<|z) (t 22)<|
 m 4 23<|z)<|
 .ret)
 (S (R<|b 25 .eql (t 9) (i 254)<|m 24 25<|z)<|
 (.cond (t 24) [] ([4]++g 26 10)
 (S (R<|m 26 0<|b 27 .eql (t 26) (i 2)<|m 28 27<|q 31 28 false [29,30] (m 29 0<|b 30 .eql (t 29) (i 4)<|z) (t 30)<|
 m 4 31<|z)<|
 .ret)
 (S (R<|b 33 .eql (t 9) (i 253)<|m 32 33<|z)<|
 (.cond (t 32) [] [4,34,35]
 (S (R<|m 34 0<|b 35 .eql (t 34) (i 4)<|m 4 35<|z)<|
 .ret)
 .skip))))))))))<|
 (S (R<|m 36 1<|f 37 4 5<|l 38 37<|b 39 .geq (t 36) (t 38)<|m 40 39<|q 45 40 true (g 41 4) (m 41 1<|f 42 5 5<|l 43 42<|b 44 .leq (t 41) (t 43)<|z) (t 44)<|
 m 4 45<|z)<|
 .ret)))),[.tmp 4],[.ah]⟩
theorem aaO:b5 150 DQ:=b7 Tryz.func150 rfl
def OU(b:aR)(c:Nat)(e g:J)(h:U):bh:=(b 102 [] h).bind λb=>(q_ 7 true 29 b.1 e).bind λc=>bF (.ptr b.2.length 0) (b.2++[.box eR 83 .rw]) λb i=>(a_ 29 b c i).bind λc=>aB (λ_ c=>(aq 4 b).bind λe=>(ab false 1 e c).bind λe=>(ar .geq g e).bind λe=>a6 (λb c=>aL [.ah] h c [b]) λh=>a7 e true ((aq 5 b).bind λb=>(ab false 1 b c).bind λb=>(ar .leq g b).bind λb=>h b c) (h (.bool false) c)) λb=>(ar .eql g (.int .i64 0)).bind λi=>aB (λ_ c=>b [] c) λb=>a8 i (aL [.ah] h c [(.bool true)]) ((ar .eql g (.int .i64 255)).bind λi=>aB (λ_ c=>b [] c) λb=>a8 i ((ar .eql e (.int .i64 3)).bind λb=>a6 (λb c=>a6 (λb c=>aL [.ah] h c [b]) λg=>a7 b false ((ar .eql e (.int .i64 6)).bind λb=>g b c) (g (.bool true) c)) λg=>a7 b false ((ar .eql e (.int .i64 4)).bind λb=>g b c) (g (.bool true) c)) ((ar .eql g (.int .i64 254)).bind λi=>aB (λ_ c=>b [] c) λb=>a8 i ((ar .eql e (.int .i64 2)).bind λb=>a6 (λb c=>aL [.ah] h c [b]) λg=>a7 b false ((ar .eql e (.int .i64 4)).bind λb=>g b c) (g (.bool true) c)) ((ar .eql g (.int .i64 253)).bind λg=>aB (λ_ c=>b [] c) λb=>a8 g ((ar .eql e (.int .i64 4)).bind λb=>aL [.ah] h c [b]) (b [] c))))
open Go.aN.G in
def DR:bU:=⟨1,7,(S (R<|b3 2 0<|z)<|
 (S (R<|o 3 .mkMap<|n (.o7 .int (t 3) (i 2) (i 1))<|n (.o7 .int (t 3) (i 3) (i 8))<|n (.o7 .int (t 3) (i 4) (i 10))<|m 4 3<|m 5 0<|o 6 (.lookup .int (.int .i64 0) false (t 4) (t 5))<|m 2 6<|z)<|
 .ret)),[.tmp 2],[.ah]⟩
theorem aaP:b5 151 DR:=b7 Tryz.func151 rfl
def OV(b:aR)(c:Nat)(e:J)(g:U):bh:=bF (.map g.length) (g++[.map [] .rw]) λb c=>(pn .int b (.int .i64 2) (.int .i64 1) c).bind λc=>(pn .int b (.int .i64 3) (.int .i64 8) c).bind λc=>(pn .int b (.int .i64 4) (.int .i64 10) c).bind λc=>(re .int (.int .i64 0) false b e c).bind λb=>aL [.ah] g c [b]
open Go.aN.G in
def DS:bU:=⟨2,8,(S (R<|b3 4 0<|z)<|
 (S (R<|m 5 0<|m 6 1<|dU 7 171 5 6<|m 4 7<|z)<|
 .ret)),[.tmp 4],[.ah]⟩
theorem aaQ:b5 152 DS:=b7 Tryz.func152 rfl
def OW(b:aR)(c:Nat)(e g:J)(h:U):bh:=(b 171 [e,g] h).bind λb=>aL [.ah] h b.2 [b.1]
open Go.aN.G in
def DT:bU:=⟨1,9,(S (R<|o 2 (.move (.const (.string ⟨#[]⟩)))<|z)<|
 (S (S (R<|m 3 0<|dA 4 101 3<|dB 5 4<|z)<|
 (.cond (t 5) [] [2]
 (S (R<|o 2 (.move (.const (.string ⟨#[]⟩)))<|z)<|
 .ret)
 .skip))<|
 (S (R<|o 6 (.build XS [(1,1,(.const (.string ⟨#[48,49,50,51,52,53,54,55,56,57,65,66,67,68,69,70]⟩))),(2,1,(.const (.string ⟨#[65,66,67,68,69,70,71,72,73,74,75,76,79,81,82,83,84,85,86,88]⟩))),(3,1,(.const (.string ⟨#[48,49,50,51,52,53,54,55,56,57,65,66,67,68,69,70,71,72,75,76,80,82,84,88]⟩))),(4,1,(.const (.string ⟨#[65,66,67,68,69,70,71,72,73,74,75,76,77,78,79,80,81,82,83,84,85,86,87,88,89,90]⟩))),(5,1,(.const (.string ⟨#[48,49,50,51,52,53]⟩))),(6,1,(.const (.string ⟨#[48,49,50,51,52,65,66,67,68,69,70,78,83]⟩)))])<|m 7 0<|o 8 (.q0 7 false 1 (t 6) (t 7))<|m 2 8<|z)<|
 .ret))),[.tmp 2],[.ah]⟩
theorem aaR:b5 153 DT:=b7 Tryz.func153 rfl
def OX(b:aR)(c:Nat)(e:J)(g:U):bh:=(b 101 [e] g).bind λb=>(di .not b.1).bind λc=>aB (λ_ b=>(cK [.str ⟨#[]⟩,.str ⟨#[]⟩,.str ⟨#[]⟩,.str ⟨#[]⟩,.str ⟨#[]⟩,.str ⟨#[]⟩,.str ⟨#[]⟩] [(1,1,(.str ⟨#[48,49,50,51,52,53,54,55,56,57,65,66,67,68,69,70]⟩:J)),(2,1,(.str ⟨#[65,66,67,68,69,70,71,72,73,74,75,76,79,81,82,83,84,85,86,88]⟩:J)),(3,1,(.str ⟨#[48,49,50,51,52,53,54,55,56,57,65,66,67,68,69,70,71,72,75,76,80,82,84,88]⟩:J)),(4,1,(.str ⟨#[65,66,67,68,69,70,71,72,73,74,75,76,77,78,79,80,81,82,83,84,85,86,87,88,89,90]⟩:J)),(5,1,(.str ⟨#[48,49,50,51,52,53]⟩:J)),(6,1,(.str ⟨#[48,49,50,51,52,65,66,67,68,69,70,78,83]⟩:J))]).bind λc=>(q_ 7 false 1 (J.agg c) e).bind λc=>aL [.ah] g b [c]) λe=>a8 c (aL [.ah] g b.2 [(.str ⟨#[]⟩:J)]) (e [] b.2)
open Go.aN.G in
def DU:bU:=⟨1,6,(S (R<|o 2 (.move (.const (.int .u8 0)))<|z)<|
 (S (R<|m 3 0<|b 4 .sub (t 3) (i 1)<|o 5 (.mR (.const (.string ⟨#[48,49,50,51,52,53,54,55,56,57,65,66,67,68,69,70,71,72,73,74,75,76,77,78,79,80,81,82,83,84,85,86,87,88,89,90]⟩)) (t 4))<|m 2 5<|z)<|
 .ret)),[.tmp 2],[.ah]⟩
theorem aaS:b5 154 DU:=b7 Tryz.func154 rfl
def OY(b:aR)(c:Nat)(e:J)(g:U):bh:=(ar .sub e (.int .i64 1)).bind λb=>(mm (.str ⟨#[48,49,50,51,52,53,54,55,56,57,65,66,67,68,69,70,71,72,73,74,75,76,77,78,79,80,81,82,83,84,85,86,87,88,89,90]⟩:J) b).bind λb=>aL [.ah] g g [b]
open Go.aN.G in
def DV:bU:=⟨1,11,(S (R<|b3 2 0<|b3 3 0<|z)<|
 (S (D<|m 4 0<|b 5 .sub (t 4) (i 1)<|b 6 .shl (i (-1)) (t 5)<|m 7 0<|b 8 .sub (t 7) (i 1)<|b 9 .shl (i 1) (t 8)<|b 10 .sub (t 9) (i 1)<|m 2 6<|m 3 10<|z)<|
 .ret)),[.tmp 2,.tmp 3],[.ah,.ah]⟩
theorem aaT:b5 155 DV:=b7 Tryz.func155 rfl
def aaU(b:aR)(c:Nat)(e:J)(g:U):bh:=(ar .sub e (.int .i64 1)).bind λb=>(ar .shl (.int .i64 (-1)) b).bind λb=>(ar .sub e (.int .i64 1)).bind λc=>(ar .shl (.int .i64 1) c).bind λc=>(ar .sub c (.int .i64 1)).bind λc=>aL [.ah,.ah] g g [b,c]
open Go.aN.G in
def DW:bU:=⟨4,33,(S (R<|cn 8<|z)<|
 (S (S (R<|m 9 0<|z)<|
 (.block 0 [] ([8]++g 10 23)
 (S (R<|b 11 .eql (t 9) (i 0)<|m 10 11<|z)<|
 (.cond (t 10) [] ([8]++g 12 21)
 (S (R<|m 12 1<|b 13 .eql (t 12) (i 0)<|m 14 13<|q 17 14 true [15,16] (m 15 2<|b 16 .eql (t 15) (i 0)<|z) (t 16)<|
 m 8 17<|z)<|
 .ret)
 (S (S (R<|b 19 .eql (t 9) (i 1)<|m 18 19<|z)<|
 (.cond (t 18) [18] [20]
 .skip
 (R<|b 20 .eql (t 9) (i 2)<|m 18 20<|z)))<|
 (.cond (t 18) [] ([8]++g 21 12)
 (S (R<|m 21 1<|b 22 .leq (i 0) (t 21)<|m 23 22<|q 27 23 true [24,25,26] (m 24 1<|m 25 2<|b 26 .lss (t 24) (t 25)<|z) (t 26)<|
 m 28 27<|q 32 28 true [29,30,31] (m 29 2<|m 30 3<|b 31 .leq (t 29) (t 30)<|z) (t 31)<|
 m 8 32<|z)<|
 .ret)
 .skip))))))<|
 (S (R<|cn 8<|z)<|
 .ret))),[.tmp 8],[.ah]⟩
theorem aaV:b5 156 DW:=b7 Tryz.func156 rfl
def OZ(b:aR)(c:Nat)(e g h i:J)(j:U):bh:=aB (λ_ b=>aL [.ah] j b [(.bool false)]) λb=>(ar .eql e (.int .i64 0)).bind λc=>aB (λ_ c=>b [] c) λb=>a8 c ((ar .eql g (.int .i64 0)).bind λb=>a6 (λb c=>aL [.ah] j c [b]) λc=>a7 b true ((ar .eql h (.int .i64 0)).bind λb=>c b j) (c (.bool false) j)) ((ar .eql e (.int .i64 1)).bind λc=>aB (λc e=>aB (λ_ c=>b [] c) λb=>a8 (aI c 0) ((ar .leq (.int .i64 0) g).bind λb=>a6 (λb c=>a6 (λb c=>aL [.ah] j c [b]) λe=>a7 b true ((ar .leq h i).bind λb=>e b c) (e (.bool false) c)) λc=>a7 b true ((ar .lss g h).bind λb=>c b e) (c (.bool false) e)) (b [] e)) λb=>a8 c (b [c] j) ((ar .eql e (.int .i64 2)).bind λc=>b [c] j))
open Go.aN.G in
def DX:bU:=⟨1,23,(S (R<|cn 2<|z)<|
 (S (S (R<|m 4 0<|o 5 (.len true (t 4))<|b3 6 0<|z)<|
 (.block 0 [] ([2,3]++g 6 14)
 (.loop [6] ([2,3]++g 7 13)
 (S (R<|b 7 .lss (t 6) (t 5)<|z)<|
 (S (.cond (t 7) [] []
 .skip
 (.exit 0))<|
 (S (.block 1 [] ([2,3]++g 8 11)
 (S (R<|m 8 6<|m 3 8<|z)<|
 (S (R<|m 9 0<|m 10 3<|o 11 (.mR (t 9) (t 10))<|b 12 .lss (t 11) (.const (.int .u8 32))<|m 13 12<|q 18 13 false (g 14 4) (m 14 0<|m 15 3<|o 16 (.mR (t 14) (t 15))<|b 17 .gtr (t 16) (.const (.int .u8 126))<|z) (t 17)<|
 z)<|
 (.cond (t 18) [] [2]
 (S (R<|cn 2<|z)<|
 .ret)
 .skip))))<|
 (R<|b 19 .add (t 6) (i 1)<|m 6 19<|z)))))))<|
 (S (R<|m 20 0<|o 21 (.len true (t 20))<|b 22 .leq (t 21) (i 22)<|m 2 22<|z)<|
 .ret))),[.tmp 2],[.ah]⟩
theorem aaW:b5 157 DX:=b7 Tryz.func157 rfl
def DY(b:aR)(c:Nat)(e:J)(g:U)(h:J)(i:bb):(bb)->bb:=λb c j=>(ar .lss (aI c 0) h).bind λh=>aB (λ_ h=>aB (λ_ e=>(ar .add (aI c 0) (.int .i64 1)).bind λc=>b [c] (trim g [c] e)) λb=>(mm e (aI c 0)).bind λi=>(ar .lss i (.int .u8 32)).bind λi=>a6 (λc e=>aB (λ_ c=>b [] c) λb=>a8 c (aL [.ah] g e [(.bool false)]) (b [] e)) λb=>a7 i false ((mm e (aI c 0)).bind λc=>(ar .gtr c (.int .u8 126)).bind λc=>b c h) (b (.bool true) h)) λb=>a8 h (b [] j) (i [] j)
def O0(b:aR)(c:Nat)(e:J)(g:U):bh:=(bw true e).bind λh=>aB (λ_ b=>(bw true e).bind λc=>(ar .leq c (.int .i64 22)).bind λc=>aL [.ah] g b [c]) λi=>cr (DY b c e g h i) c [(.int .i64 0)] g
open Go.aN.G in
def DZ:bU:=⟨1,13,(S (R<|c9 1 89 0<|cn 2<|z)<|
 (S (R<|f 3 0 1<|l 4 3<|o 5 (.call 146 [(t 4),(i 0),(i 119)])<|dB 6 5<|m 7 6<|q 12 7 false (g 8 4) (f 8 1 1<|l 9 8<|o 10 (.call 146 [(t 9),(i 0),(i 31)])<|dB 11 10<|z) (t 11)<|
 m 2 12<|z)<|
 .ret)),[.tmp 2],[.ah]⟩
theorem aaX:b5 158 DZ:=b7 Tryz.func158 rfl
def O1(b:aR)(c:Nat)(e:J)(g:U):bh:=bF (.ptr g.length 0) (g++[.box (b' e) 89 .rw]) λc e=>(aq 0 c).bind λh=>(ab false 1 h e).bind λh=>(b 146 [h,(.int .i64 0),(.int .i64 119)] e).bind λe=>(di .not e.1).bind λh=>a6 (λb c=>aL [.ah] g c [b]) λg=>a7 h false ((aq 1 c).bind λc=>(ab false 1 c e.2).bind λc=>(b 146 [c,(.int .i64 0),(.int .i64 31)] e.2).bind λb=>(di .not b.1).bind λc=>g c b.2) (g (.bool true) e.2)
open Go.aN.G in
def D0:bU:=⟨3,92,(S (R<|c9 3 55 0<|cn 6<|z)<|
 (S (S (R<|f 10 1 3<|l 11 10<|bS 12 11<|b 13 .gtr (t 12) (i 16)<|m 14 13<|q 23 14 false ([15,16,17,22]++g 18 4) (f 15 0 3<|l 16 15<|m 17 16<|q 22 17 true (g 18 4) (f 18 1 3<|l 19 18<|bS 20 19<|b 21 .eql (t 20) (i 0)<|z) (t 21)<|
 z) (t 22)<|
 z)<|
 (.cond (t 23) [] [6]
 (S (R<|cn 6<|z)<|
 .ret)
 .skip))<|
 (S (S (R<|f 24 1 3<|l 25 24<|bS 26 25<|b3 27 0<|z)<|
 (.block 0 [] ([6,7,8]++g 27 46)
 (.loop [27] ([6,7,8]++g 28 45)
 (S (R<|b 28 .lss (t 27) (t 26)<|z)<|
 (S (.cond (t 28) [] []
 .skip
 (.exit 0))<|
 (S (.block 1 [] ([6,7,8]++g 29 43)
 (S (R<|m 29 27<|cu 30 2 25 27<|bM 31 2 30<|o 8 (.new 120 [(.int .i64 0),(.int .i64 0)])<|m 7 29<|bP 2 8 31<|z)<|
 (S (D<|m 32 7<|b 33 .eql (t 32) (i 0)<|m 34 33<|q 38 34 true [35,36,37] (f 35 0 8<|l 36 35<|b 37 .neq (t 36) (i 0)<|z) (t 37)<|
 m 39 38<|q 54 39 false ([40,41,42,53]++g 43 10) (m 40 7<|b 41 .gtr (t 40) (i 0)<|m 42 41<|q 53 42 true (g 43 10) (f 43 0 8<|l 44 43<|f 45 1 3<|l 46 45<|m 47 7<|b 48 .sub (t 47) (i 1)<|cu 49 2 46 48<|f 50 0 49<|l 51 50<|b 52 .leq (t 44) (t 51)<|z) (t 52)<|
 z) (t 53)<|
 m 55 54<|q 59 55 false [56,57,58] (f 56 0 8<|l 57 56<|b 58 .gtr (t 57) (i 9999)<|z) (t 58)<|
 m 60 59<|q 65 60 false (g 61 4) (f 61 1 8<|l 62 61<|m 63 1<|b 64 .lss (t 62) (t 63)<|z) (t 64)<|
 m 66 65<|q 71 66 false (g 67 4) (f 67 1 8<|l 68 67<|m 69 2<|b 70 .gtr (t 68) (t 69)<|z) (t 70)<|
 z)<|
 (.cond (t 71) [] [6]
 (S (R<|cn 6<|z)<|
 .ret)
 .skip))))<|
 (R<|b 72 .add (t 27) (i 1)<|m 27 72<|z)))))))<|
 (S (R<|o 73 (.jW 172 [] [(t 3)])<|m 9 73<|z)<|
 (S (R<|m 74 9<|f 75 2 3<|l 76 75<|f 77 3 3<|l 78 77<|f 79 4 3<|l 80 79<|o 81 (.hU (t 74) [(t 76),(t 78),(t 80)])<|m 82 81<|q 91 82 true (g 83 8) (m 83 9<|f 84 5 3<|l 85 84<|f 86 6 3<|l 87 86<|f 88 7 3<|l 89 88<|o 90 (.hU (t 83) [(t 85),(t 87),(t 89)])<|z) (t 90)<|
 m 6 91<|z)<|
 .ret))))),[.tmp 6],[.ah]⟩
theorem aaY:b5 159 D0:=b7 Tryz.func159 rfl
def D1(b:aR)(c:Nat)(e g:J)(h:U)(i:J)(j:U)(k l:J)(m:bb):(bb)->bb:=λb c n=>(ar .lss (aI c 0) l).bind λl=>aB (λ_ l=>aB (λ_ e=>(ar .add (aI c 0) (.int .i64 1)).bind λc=>b [c] (trim j [c] e)) λb=>(bW 2 k (aI c 0)).bind λj=>(ab true 2 j l).bind λj=>bF (.ptr l.length 0) (l++[.box [.int .i64 0,.int .i64 0] 120 .rw]) λk l=>(a_ 2 k j l).bind λj=>(ar .eql (aI c 0) (.int .i64 0)).bind λl=>a6 (λj l=>a6 (λc i=>a6 (λc i=>a6 (λc e=>a6 (λc e=>aB (λ_ c=>b [] c) λb=>a8 c (aL [.ah] h e [(.bool false)]) (b [] e)) λb=>a7 c false ((aq 1 k).bind λc=>(ab false 1 c e).bind λc=>(ar .gtr c g).bind λc=>b c e) (b (.bool true) e)) λb=>a7 c false ((aq 1 k).bind λc=>(ab false 1 c i).bind λc=>(ar .lss c e).bind λc=>b c i) (b (.bool true) i)) λb=>a7 c false ((aq 0 k).bind λc=>(ab false 1 c i).bind λc=>(ar .gtr c (.int .i64 9999)).bind λc=>b c i) (b (.bool true) i)) λb=>a7 j false ((ar .gtr (aI c 0) (.int .i64 0)).bind λe=>a6 (λc e=>b c e) λb=>a7 e true ((aq 0 k).bind λe=>(ab false 1 e l).bind λe=>(aq 1 i).bind λg=>(ab false 1 g l).bind λg=>(ar .sub (aI c 0) (.int .i64 1)).bind λc=>(bW 2 g c).bind λc=>(aq 0 c).bind λc=>(ab false 1 c l).bind λc=>(ar .leq e c).bind λc=>b c l) (b (.bool false) l)) (b (.bool true) l)) λb=>a7 l true ((aq 0 k).bind λc=>(ab false 1 c j).bind λc=>(ar .neq c (.int .i64 0)).bind λc=>b c j) (b (.bool false) j)) λb=>a8 l (b [] n) (m [] n)
def O2(b:aR)(c:Nat)(e g h:J)(i:U):bh:=bF (.ptr i.length 0) (i++[.box (b' e) 55 .rw]) λe j=>(aq 1 e).bind λk=>(ab false 1 k j).bind λk=>(bw false k).bind λk=>(ar .gtr k (.int .i64 16)).bind λk=>a6 (λj k=>aB (λ_ j=>(aq 1 e).bind λk=>(ab false 1 k j).bind λk=>(bw false k).bind λl=>aB (λ_ c=>(aq 2 e).bind λg=>(ab false 1 g c).bind λg=>(aq 3 e).bind λh=>(ab false 1 h c).bind λh=>(aq 4 e).bind λj=>(ab false 1 j c).bind λj=>(gh b (J.func 172 [] [e]) [g,h,j] c).bind λc=>a6 (λb c=>aL [.ah] i c [b]) λg=>a7 c.1 true ((aq 5 e).bind λh=>(ab false 1 h c.2).bind λh=>(aq 6 e).bind λi=>(ab false 1 i c.2).bind λi=>(aq 7 e).bind λj=>(ab false 1 j c.2).bind λj=>(gh b (J.func 172 [] [e]) [h,i,j] c.2).bind λb=>g b.1 b.2) (g (.bool false) c.2)) λm=>cr (D1 b c g h i e j k l m) c [(.int .i64 0)] j) λb=>a8 j (aL [.ah] i k [(.bool false)]) (b [] k)) λb=>a7 k false ((aq 0 e).bind λc=>(ab false 1 c j).bind λc=>a6 (λc e=>b c e) λb=>a7 c true ((aq 1 e).bind λc=>(ab false 1 c j).bind λc=>(bw false c).bind λc=>(ar .eql c (.int .i64 0)).bind λc=>b c j) (b (.bool false) j)) (b (.bool true) j)
open Go.aN.G in
def D2:bU:=⟨2,19,(S (R<|b3 4 0<|z)<|
 (S (S (R<|m 6 0<|bS 7 6<|b3 8 0<|z)<|
 (.block 0 [] ([4,5]++g 8 11)
 (.loop [8] ([4,5]++g 9 10)
 (S (R<|b 9 .lss (t 8) (t 7)<|z)<|
 (S (.cond (t 9) [] []
 .skip
 (.exit 0))<|
 (S (.block 1 [] ([4,5]++g 10 8)
 (S (R<|m 10 8<|m 5 10<|z)<|
 (S (R<|m 11 1<|m 12 0<|m 13 5<|cu 14 2 12 13<|bM 15 2 14<|o 16 (.hU (t 11) [(t 15)])<|z)<|
 (.cond (t 16) [] [4,17]
 (S (R<|m 17 5<|m 4 17<|z)<|
 .ret)
 .skip))))<|
 (R<|b 18 .add (t 8) (i 1)<|m 8 18<|z)))))))<|
 (S (R<|o 4 (.move (i (-1)))<|z)<|
 .ret))),[.tmp 4],[.ah]⟩
theorem aaZ:b5 160 D2:=b7 Tryz.func160 rfl
def D3(b:aR)(c:Nat)(e g:J)(h:U)(i:J)(j:bb):(bb)->bb:=λc k l=>(ar .lss (aI k 0) i).bind λi=>aB (λ_ i=>aB (λ_ b=>(ar .add (aI k 0) (.int .i64 1)).bind λe=>c [e] (trim h [e] b)) λc=>(bW 2 e (aI k 0)).bind λe=>(ab true 2 e i).bind λe=>(gh b g [e] i).bind λb=>aB (λ_ b=>c [] b) λc=>a8 b.1 (aL [.ah] h b.2 [(aI k 0)]) (c [] b.2)) λb=>a8 i (b [] l) (j [] l)
def O3(b:aR)(c:Nat)(e g:J)(h:U):bh:=(bw false e).bind λi=>aB (λ_ b=>aL [.ah] h b [(.int .i64 (-1))]) λj=>cr (D3 b c e g h i j) c [(.int .i64 0)] h
open Go.aN.G in
def D4:bU:=⟨2,26,(S (R<|cn 4<|z)<|
 (S (S (R<|m 6 0<|bS 7 6<|m 8 1<|bS 9 8<|b 10 .neq (t 7) (t 9)<|z)<|
 (.cond (t 10) [] [4]
 (S (R<|cn 4<|z)<|
 .ret)
 .skip))<|
 (S (S (R<|m 11 0<|bS 12 11<|b3 13 0<|z)<|
 (.block 0 [] ([4,5]++g 13 13)
 (.loop [13] ([4,5]++g 14 12)
 (S (R<|b 14 .lss (t 13) (t 12)<|z)<|
 (S (.cond (t 14) [] []
 .skip
 (.exit 0))<|
 (S (.block 1 [] ([4,5]++g 15 10)
 (S (R<|m 15 13<|m 5 15<|z)<|
 (S (D<|m 16 0<|m 17 5<|cu 18 2 16 17<|bM 19 2 18<|m 20 1<|m 21 5<|cu 22 2 20 21<|bM 23 2 22<|o 24 (.nC [.int,.int] true (t 19) (t 23))<|z)<|
 (.cond (t 24) [] [4]
 (S (R<|cn 4<|z)<|
 .ret)
 .skip))))<|
 (R<|b 25 .add (t 13) (i 1)<|m 13 25<|z)))))))<|
 (S (R<|gk 4<|z)<|
 .ret)))),[.tmp 4],[.ah]⟩
theorem aa0:b5 161 D4:=b7 Tryz.func161 rfl
def D5(b:aR)(c:Nat)(e g:J)(h i:U)(j:J)(k:bb):(bb)->bb:=λb c l=>(ar .lss (aI c 0) j).bind λj=>aB (λ_ j=>aB (λ_ e=>(ar .add (aI c 0) (.int .i64 1)).bind λc=>b [c] (trim i [c] e)) λb=>(bW 2 e (aI c 0)).bind λe=>(ab true 2 e j).bind λe=>(bW 2 g (aI c 0)).bind λc=>(ab true 2 c j).bind λc=>(lu [.int,.int] true e c).bind λc=>aB (λ_ c=>b [] c) λb=>a8 c (aL [.ah] h j [(.bool false)]) (b [] j)) λb=>a8 j (b [] l) (k [] l)
def O4(b:aR)(c:Nat)(e g:J)(h:U):bh:=(bw false e).bind λi=>(bw false g).bind λj=>(ar .neq i j).bind λi=>aB (λ_ i=>(bw false e).bind λj=>aB (λ_ b=>aL [.ah] h b [(.bool true)]) λk=>cr (D5 b c e g h i j k) c [(.int .i64 0)] i) λb=>a8 i (aL [.ah] h h [(.bool false)]) (b [] h)
open Go.aN.G in
def O5:bU:=⟨2,17,(S (R<|o 4 (.move (.const (.int .u32 0)))<|o 5 (.move (.const (.int .u32 0)))<|z)<|
 (S (R<|m 7 0<|o 8 (.conv .u64 (t 7))<|m 9 1<|o 10 (.conv .u64 (t 9))<|b 11 .mul (t 8) (t 10)<|m 6 11<|z)<|
 (S (R<|m 12 6<|b 13 .shr (t 12) (.const (.int .u64 32))<|o 14 (.conv .u32 (t 13))<|m 15 6<|o 16 (.conv .u32 (t 15))<|m 4 14<|m 5 16<|z)<|
 .ret))),[.tmp 4,.tmp 5],[.ah,.ah]⟩
theorem aa1:b5 162 O5:=b7 Tryz.func162 rfl
open Go.aN.G in
def D6:bU:=⟨2,51,(S (R<|o 4 (.move (.const (.int .u64 0)))<|o 5 (.move (.const (.int .u64 0)))<|z)<|
 (S (R<|m 14 0<|b 15 .and (t 14) (.const (.int .u64 4294967295))<|m 6 15<|z)<|
 (S (R<|m 16 0<|b 17 .shr (t 16) (.const (.int .u64 32))<|m 7 17<|z)<|
 (S (R<|m 18 1<|b 19 .and (t 18) (.const (.int .u64 4294967295))<|m 8 19<|z)<|
 (S (R<|m 20 1<|b 21 .shr (t 20) (.const (.int .u64 32))<|m 9 21<|z)<|
 (S (R<|m 22 6<|m 23 8<|b 24 .mul (t 22) (t 23)<|m 10 24<|z)<|
 (S (R<|m 25 7<|m 26 8<|b 27 .mul (t 25) (t 26)<|m 28 10<|b 29 .shr (t 28) (.const (.int .u64 32))<|b 30 .add (t 27) (t 29)<|m 11 30<|z)<|
 (S (R<|m 31 11<|b 32 .and (t 31) (.const (.int .u64 4294967295))<|m 12 32<|z)<|
 (S (R<|m 33 11<|b 34 .shr (t 33) (.const (.int .u64 32))<|m 13 34<|z)<|
 (S (R<|m 35 12<|m 36 6<|m 37 9<|b 38 .mul (t 36) (t 37)<|b 39 .add (t 35) (t 38)<|m 12 39<|z)<|
 (S (R<|m 40 7<|m 41 9<|b 42 .mul (t 40) (t 41)<|m 43 13<|b 44 .add (t 42) (t 43)<|m 45 12<|b 46 .shr (t 45) (.const (.int .u64 32))<|b 47 .add (t 44) (t 46)<|m 4 47<|z)<|
 (S (R<|m 48 0<|m 49 1<|b 50 .mul (t 48) (t 49)<|m 5 50<|z)<|
 .ret)))))))))))),[.tmp 4,.tmp 5],[.ah,.ah]⟩
theorem aa2:b5 163 D6:=b7 Tryz.func163 rfl
def O6(b:aR)(c:Nat)(e g:J)(h:U):bh:=(ar .and e (.int .u64 4294967295)).bind λb=>(ar .shr e (.int .u64 32)).bind λc=>(ar .and g (.int .u64 4294967295)).bind λi=>(ar .shr g (.int .u64 32)).bind λj=>(ar .mul b i).bind λk=>(ar .mul c i).bind λi=>(ar .shr k (.int .u64 32)).bind λk=>(ar .add i k).bind λi=>(ar .and i (.int .u64 4294967295)).bind λk=>(ar .shr i (.int .u64 32)).bind λi=>(ar .mul b j).bind λb=>(ar .add k b).bind λb=>(ar .mul c j).bind λc=>(ar .add c i).bind λc=>(ar .shr b (.int .u64 32)).bind λb=>(ar .add c b).bind λb=>(ar .mul e g).bind λc=>aL [.ah,.ah] h h [b,c]
open Go.aN.G in
def D7:bU:=⟨3,56,(S (R<|c9 3 27 0<|c9 4 39 1<|b3 6 0<|z)<|
 (S (S (R<|m 9 2<|b 10 .neq (t 9) (i 0)<|m 11 10<|q 16 11 true (g 12 4) (f 12 0 4<|l 13 12<|m 14 2<|b 15 .neq (t 13) (t 14)<|z) (t 15)<|
 m 17 16<|q 23 17 false (g 18 5) (bM 18 2 4<|f 19 2 3<|l 20 19<|dU 21 173 18 20<|dB 22 21<|z) (t 22)<|
 z)<|
 (.cond (t 23) [] [6]
 (S (R<|b3 6 1<|z)<|
 .ret)
 .skip))<|
 (S (S (R<|b3 7 0<|z)<|
 (.block 0 [] ([6,7]++g 24 16)
 (.loop [7] ([6]++g 24 16)
 (S (S (R<|m 24 7<|f 25 1 4<|l 26 25<|bS 27 26<|b 28 .lss (t 24) (t 27)<|z)<|
 (.cond (t 28) [] []
 .skip
 (.exit 0)))<|
 (S (.block 1 [] ([6]++g 31 9)
 (S (D<|f 31 1 3<|l 32 31<|f 33 1 4<|l 34 33<|m 35 7<|cu 36 6 34 35<|bM 37 6 36<|dU 38 174 32 37<|dB 39 38<|z)<|
 (.cond (t 39) [] [6]
 (S (R<|b3 6 1<|z)<|
 .ret)
 .skip)))<|
 (R<|m 29 7<|b 30 .add (t 29) (i 1)<|m 7 30<|z))))))<|
 (S (S (R<|b3 8 0<|z)<|
 (.block 2 [] ([6,8]++g 40 16)
 (.loop [8] ([6]++g 40 16)
 (S (S (R<|m 40 8<|f 41 1 4<|l 42 41<|bS 43 42<|b 44 .lss (t 40) (t 43)<|z)<|
 (.cond (t 44) [] []
 .skip
 (.exit 2)))<|
 (S (.block 3 [] ([6]++g 47 9)
 (S (D<|f 47 1 4<|l 48 47<|m 49 8<|cu 50 6 48 49<|f 51 1 50<|l 52 51<|bM 53 13 3<|O 54 (.call 112 [(t 53)])<|b 55 .gtr (t 52) (t 54)<|z)<|
 (.cond (t 55) [] [6]
 (S (R<|b3 6 10<|z)<|
 .ret)
 .skip)))<|
 (R<|m 45 8<|b 46 .add (t 45) (i 1)<|m 8 46<|z))))))<|
 (S (R<|b3 6 0<|z)<|
 .ret))))),[.tmp 6],[.ah]⟩
theorem aa3:b5 164 D7:=b7 Tryz.func164 rfl
def D8(b:aR)(c:Nat)(e:U)(g h:J)(i:U)(j:bb):(bb)->bb:=λc k l=>(aq 1 h).bind λm=>(ab false 1 m l).bind λm=>(bw false m).bind λm=>(ar .lss (aI k 0) m).bind λm=>aB (λ_ j=>aB (λ_ b=>(ar .add (aI k 0) (.int .i64 1)).bind λe=>c [e] (trim i [e] b)) λc=>(aq 1 h).bind λh=>(ab false 1 h j).bind λh=>(bW 6 h (aI k 0)).bind λh=>(aq 1 h).bind λh=>(ab false 1 h j).bind λh=>(ab true 13 g j).bind λg=>(b 112 [g] (lock j)).bind λb=>dQ j b.2 λg=>(ar .gtr h b.1).bind λb=>aB (λ_ b=>c [] b) λc=>a8 b (aL [.ah] e g [(.int .i64 10)]) (c [] g)) λb=>a8 m (b [] l) (j [] l)
def D9(b:aR)(c:Nat)(e:U)(g h:J)(i:U)(j:bb):(bb)->bb:=λc k l=>(aq 1 h).bind λm=>(ab false 1 m l).bind λm=>(bw false m).bind λm=>(ar .lss (aI k 0) m).bind λm=>aB (λ_ j=>aB (λ_ b=>(ar .add (aI k 0) (.int .i64 1)).bind λe=>c [e] (trim i [e] b)) λc=>(aq 1 g).bind λg=>(ab false 1 g j).bind λg=>(aq 1 h).bind λh=>(ab false 1 h j).bind λh=>(bW 6 h (aI k 0)).bind λh=>(ab true 6 h j).bind λh=>(b 174 [g,h] j).bind λb=>(di .not b.1).bind λg=>aB (λ_ b=>c [] b) λc=>a8 g (aL [.ah] e b.2 [(.int .i64 1)]) (c [] b.2)) λb=>a8 m (b [] l) (j [] l)
def O7(b:aR)(c:Nat)(e g h:J)(i:U):bh:=bF (.ptr i.length 0) (i++[.box (b' e) 27 .rw]) λe j=>bF (.ptr j.length 0) (j++[.box (b' g) 39 .rw]) λg j=>(ar .neq h (.int .i64 0)).bind λk=>a6 (λh j=>a6 (λh j=>aB (λ_ h=>aB (λ_ h=>aB (λ_ b=>aL [.ah] i b [(.int .i64 0)]) λj=>cr (D8 b c i e g h j) c [(.int .i64 0)] h) λj=>cr (D9 b c i e g h j) c [(.int .i64 0)] h) λb=>a8 h (aL [.ah] i j [(.int .i64 1)]) (b [] j)) λc=>a7 h false ((ab true 2 g j).bind λg=>(aq 2 e).bind λe=>(ab false 1 e j).bind λe=>(b 173 [g,e] j).bind λb=>(di .not b.1).bind λe=>c e b.2) (c (.bool true) j)) λb=>a7 k true ((aq 0 g).bind λc=>(ab false 1 c j).bind λc=>(ar .neq c h).bind λc=>b c j) (b (.bool false) j)
open Go.aN.G in
def D_:bU:=⟨1,98,(S (R<|c9 1 43 0<|cn 2<|z)<|
 (S (R<|f 5 1 1<|l 6 5<|bS 7 6<|m 3 7<|z)<|
 (S (S (R<|f 8 0 1<|l 9 8<|dA 10 137 9<|dB 11 10<|m 12 11<|q 21 12 false (g 13 4++[20,17,18,19]) (f 13 2 1<|l 14 13<|b 15 .neq (t 14) (i 8)<|m 16 15<|q 20 16 true [17,18,19] (f 17 2 1<|l 18 17<|b 19 .neq (t 18) (i 16)<|z) (t 19)<|
 z) (t 20)<|
 m 22 21<|q 25 22 false [23,24] (m 23 3<|b 24 .gtr (t 23) (i 4096)<|z) (t 24)<|
 m 26 25<|q 30 26 false [27,28,29] (f 27 3 1<|l 28 27<|b 29 .lss (t 28) (i 1)<|z) (t 29)<|
 m 31 30<|q 35 31 false [32,33,34] (f 32 3 1<|l 33 32<|b 34 .gtr (t 33) (i 65535)<|z) (t 34)<|
 m 36 35<|q 40 36 false [37,38,39] (f 37 4 1<|l 38 37<|b 39 .lss (t 38) (i 0)<|z) (t 39)<|
 m 41 40<|q 45 41 false [42,43,44] (f 42 4 1<|l 43 42<|b 44 .gtr (t 43) (i 64)<|z) (t 44)<|
 m 46 45<|q 50 46 false [47,48,49] (f 47 5 1<|l 48 47<|b 49 .lss (t 48) (i (-1))<|z) (t 49)<|
 m 51 50<|q 55 51 false [52,53,54] (f 52 5 1<|l 53 52<|b 54 .gtr (t 53) (i 256)<|z) (t 54)<|
 m 56 55<|q 60 56 false [57,58,59] (f 57 6 1<|l 58 57<|b 59 .lss (t 58) (i (-64))<|z) (t 59)<|
 m 61 60<|q 65 61 false [62,63,64] (f 62 6 1<|l 63 62<|b 64 .gtr (t 63) (i 63)<|z) (t 64)<|
 z)<|
 (.cond (t 65) [] [2]
 (S (R<|cn 2<|z)<|
 .ret)
 .skip))<|
 (S (S (R<|b3 4 0<|z)<|
 (.block 0 [] ([2,4]++g 66 14)
 (.loop [4] ([2]++g 66 14)
 (S (S (R<|m 66 4<|m 67 3<|b 68 .lss (t 66) (t 67)<|z)<|
 (.cond (t 68) [] []
 .skip
 (.exit 0)))<|
 (S (.block 1 [] ([2]++g 71 9)
 (S (D<|f 71 1 1<|l 72 71<|m 73 4<|cu 74 1 72 73<|l 75 74<|f 76 2 1<|l 77 76<|dU 78 175 75 77<|dB 79 78<|z)<|
 (.cond (t 79) [] [2]
 (S (R<|cn 2<|z)<|
 .ret)
 .skip)))<|
 (R<|m 69 4<|b 70 .add (t 69) (i 1)<|m 4 70<|z))))))<|
 (S (R<|f 80 7 1<|l 81 80<|f 82 8 1<|l 83 82<|f 84 9 1<|l 85 84<|m 86 3<|o 87 (.call 176 [(t 81),(t 83),(t 85),(t 86)])<|m 88 87<|q 97 88 true (g 89 8) (f 89 10 1<|l 90 89<|f 91 11 1<|l 92 91<|f 93 12 1<|l 94 93<|m 95 3<|o 96 (.call 176 [(t 90),(t 92),(t 94),(t 95)])<|z) (t 96)<|
 m 2 97<|z)<|
 .ret))))),[.tmp 2],[.ah]⟩
theorem aa4:b5 165 D_:=b7 Tryz.func165 rfl
def D'(b:aR)(c:Nat)(e:U)(g h:J)(i:U)(j:bb):(bb)->bb:=λc k l=>(ar .lss (aI k 0) h).bind λh=>aB (λ_ h=>aB (λ_ b=>(ar .add (aI k 0) (.int .i64 1)).bind λe=>c [e] (trim i [e] b)) λc=>(aq 1 g).bind λi=>(ab false 1 i h).bind λi=>(bW 1 i (aI k 0)).bind λi=>(ab false 1 i h).bind λi=>(aq 2 g).bind λg=>(ab false 1 g h).bind λg=>(b 175 [i,g] h).bind λb=>(di .not b.1).bind λg=>aB (λ_ b=>c [] b) λc=>a8 g (aL [.ah] e b.2 [(.bool false)]) (c [] b.2)) λb=>a8 h (b [] l) (j [] l)
def O8(b:aR)(c:Nat)(e:J)(g:U):bh:=bF (.ptr g.length 0) (g++[.box (b' e) 43 .rw]) λe h=>(aq 1 e).bind λi=>(ab false 1 i h).bind λi=>(bw false i).bind λi=>(aq 0 e).bind λj=>(ab false 1 j h).bind λj=>(b 137 [j] h).bind λh=>(di .not h.1).bind λj=>a6 (λh j=>a6 (λh j=>a6 (λh j=>a6 (λh j=>a6 (λh j=>a6 (λh j=>a6 (λh j=>a6 (λh j=>a6 (λh j=>a6 (λh j=>aB (λ_ h=>aB (λ_ c=>(aq 7 e).bind λh=>(ab false 1 h c).bind λh=>(aq 8 e).bind λj=>(ab false 1 j c).bind λj=>(aq 9 e).bind λk=>(ab false 1 k c).bind λk=>(b 176 [h,j,k,i] c).bind λc=>a6 (λb c=>aL [.ah] g c [b]) λg=>a7 c.1 true ((aq 10 e).bind λh=>(ab false 1 h c.2).bind λh=>(aq 11 e).bind λj=>(ab false 1 j c.2).bind λj=>(aq 12 e).bind λe=>(ab false 1 e c.2).bind λe=>(b 176 [h,j,e,i] c.2).bind λb=>g b.1 b.2) (g (.bool false) c.2)) λj=>cr (D' b c g e i h j) c [(.int .i64 0)] h) λb=>a8 h (aL [.ah] g j [(.bool false)]) (b [] j)) λb=>a7 h false ((aq 6 e).bind λc=>(ab false 1 c j).bind λc=>(ar .gtr c (.int .i64 63)).bind λc=>b c j) (b (.bool true) j)) λb=>a7 h false ((aq 6 e).bind λc=>(ab false 1 c j).bind λc=>(ar .lss c (.int .i64 (-64))).bind λc=>b c j) (b (.bool true) j)) λb=>a7 h false ((aq 5 e).bind λc=>(ab false 1 c j).bind λc=>(ar .gtr c (.int .i64 256)).bind λc=>b c j) (b (.bool true) j)) λb=>a7 h false ((aq 5 e).bind λc=>(ab false 1 c j).bind λc=>(ar .lss c (.int .i64 (-1))).bind λc=>b c j) (b (.bool true) j)) λb=>a7 h false ((aq 4 e).bind λc=>(ab false 1 c j).bind λc=>(ar .gtr c (.int .i64 64)).bind λc=>b c j) (b (.bool true) j)) λb=>a7 h false ((aq 4 e).bind λc=>(ab false 1 c j).bind λc=>(ar .lss c (.int .i64 0)).bind λc=>b c j) (b (.bool true) j)) λb=>a7 h false ((aq 3 e).bind λc=>(ab false 1 c j).bind λc=>(ar .gtr c (.int .i64 65535)).bind λc=>b c j) (b (.bool true) j)) λb=>a7 h false ((aq 3 e).bind λc=>(ab false 1 c j).bind λc=>(ar .lss c (.int .i64 1)).bind λc=>b c j) (b (.bool true) j)) λb=>a7 h false ((ar .gtr i (.int .i64 4096)).bind λc=>b c j) (b (.bool true) j)) λb=>a7 j false ((aq 2 e).bind λc=>(ab false 1 c h.2).bind λc=>(ar .neq c (.int .i64 8)).bind λc=>a6 (λc e=>b c e) λb=>a7 c true ((aq 2 e).bind λc=>(ab false 1 c h.2).bind λc=>(ar .neq c (.int .i64 16)).bind λc=>b c h.2) (b (.bool false) h.2)) (b (.bool true) h.2)
open Go.aN.G in
def Ea:bU:=⟨2,26,(S (R<|c9 2 27 0<|c9 3 57 1<|b3 4 0<|z)<|
 (S (S (R<|bM 6 33 3<|dA 7 110 6<|dB 8 7<|z)<|
 (.cond (t 8) [] [4]
 (S (R<|b3 4 1<|z)<|
 .ret)
 .skip))<|
 (S (S (R<|b3 5 0<|z)<|
 (.block 0 [] ([4,5]++g 9 17)
 (.loop [5] ([4]++g 9 17)
 (S (S (R<|m 9 5<|f 10 1 3<|l 11 10<|bS 12 11<|b 13 .lss (t 9) (t 12)<|z)<|
 (.cond (t 13) [] []
 .skip
 (.exit 0)))<|
 (S (.block 1 [] ([4]++g 16 10)
 (S (D<|f 16 1 3<|l 17 16<|m 18 5<|cu 19 2 17 18<|f 20 1 19<|l 21 20<|f 22 11 2<|l 23 22<|bS 24 23<|b 25 .gtr (t 21) (t 24)<|z)<|
 (.cond (t 25) [] [4]
 (S (R<|b3 4 10<|z)<|
 .ret)
 .skip)))<|
 (R<|m 14 5<|b 15 .add (t 14) (i 1)<|m 5 15<|z))))))<|
 (S (R<|b3 4 0<|z)<|
 .ret)))),[.tmp 4],[.ah]⟩
theorem aa5:b5 166 Ea:=b7 Tryz.func166 rfl
def Eb(b:aR)(c:Nat)(e:U)(g h:J)(i:U)(j:bb):(bb)->bb:=λb c k=>(aq 1 h).bind λl=>(ab false 1 l k).bind λl=>(bw false l).bind λl=>(ar .lss (aI c 0) l).bind λl=>aB (λ_ j=>aB (λ_ e=>(ar .add (aI c 0) (.int .i64 1)).bind λc=>b [c] (trim i [c] e)) λb=>(aq 1 h).bind λh=>(ab false 1 h j).bind λh=>(bW 2 h (aI c 0)).bind λc=>(aq 1 c).bind λc=>(ab false 1 c j).bind λc=>(aq 11 g).bind λg=>(ab false 1 g j).bind λg=>(bw false g).bind λg=>(ar .gtr c g).bind λc=>aB (λ_ c=>b [] c) λb=>a8 c (aL [.ah] e j [(.int .i64 10)]) (b [] j)) λb=>a8 l (b [] k) (j [] k)
def O9(b:aR)(c:Nat)(e g:J)(h:U):bh:=bF (.ptr h.length 0) (h++[.box (b' e) 27 .rw]) λe i=>bF (.ptr i.length 0) (i++[.box (b' g) 57 .rw]) λg i=>(ab true 33 g i).bind λj=>(b 110 [j] i).bind λi=>(di .not i.1).bind λj=>aB (λ_ i=>aB (λ_ b=>aL [.ah] h b [(.int .i64 0)]) λj=>cr (Eb b c h e g i j) c [(.int .i64 0)] i) λb=>a8 j (aL [.ah] h i.2 [(.int .i64 1)]) (b [] i.2)
open Go.aN.G in
def Ec:bU:=⟨4,29,(S (R<|cn 8<|z)<|
 (S (S (R<|m 9 0<|dB 10 9<|z)<|
 (.cond (t 10) [] ([8]++g 11 6)
 (S (R<|m 11 1<|b 12 .eql (t 11) (i 0)<|m 13 12<|q 16 13 true [14,15] (m 14 2<|b 15 .eql (t 14) (i 0)<|z) (t 15)<|
 m 8 16<|z)<|
 .ret)
 .skip))<|
 (S (R<|m 17 1<|b 18 .leq (i 0) (t 17)<|m 19 18<|q 23 19 true [20,21,22] (m 20 1<|m 21 2<|b 22 .leq (t 20) (t 21)<|z) (t 22)<|
 m 24 23<|q 28 24 true [25,26,27] (m 25 2<|m 26 3<|b 27 .lss (t 25) (t 26)<|z) (t 27)<|
 m 8 28<|z)<|
 .ret))),[.tmp 8],[.ah]⟩
theorem aa6:b5 170 Ec:=b7 Tryz.func170 rfl
def O_(b:aR)(c:Nat)(e g h i:J)(j:U):bh:=(di .not e).bind λb=>aB (λ_ b=>(ar .leq (.int .i64 0) g).bind λc=>a6 (λb c=>a6 (λb c=>aL [.ah] j c [b]) λe=>a7 b true ((ar .lss h i).bind λb=>e b c) (e (.bool false) c)) λe=>a7 c true ((ar .leq g h).bind λc=>e c b) (e (.bool false) b)) λc=>a8 b ((ar .eql g (.int .i64 0)).bind λb=>a6 (λb c=>aL [.ah] j c [b]) λc=>a7 b true ((ar .eql h (.int .i64 0)).bind λb=>c b j) (c (.bool false) j)) (c [] j)
open Go.aN.G in
def Ed:bU:=⟨4,30,(S (R<|cn 7<|z)<|
 (S (S (R<|m 8 0<|dB 9 8<|z)<|
 (.cond (t 9) [] ([7]++g 10 6)
 (S (R<|m 10 1<|b 11 .eql (t 10) (i 0)<|m 12 11<|q 15 12 true [13,14] (m 13 2<|b 14 .eql (t 13) (i 0)<|z) (t 14)<|
 m 7 15<|z)<|
 .ret)
 .skip))<|
 (S (R<|m 16 1<|b 17 .geq (t 16) (i 0)<|m 18 17<|q 22 18 true [19,20,21] (m 19 1<|m 20 2<|b 21 .leq (t 19) (t 20)<|z) (t 21)<|
 m 23 22<|q 29 23 true (g 24 5) (m 24 2<|f 25 1 3<|l 26 25<|bS 27 26<|b 28 .lss (t 24) (t 27)<|z) (t 28)<|
 m 7 29<|z)<|
 .ret))),[.tmp 7],[.ah]⟩
theorem aa7:b5 172 Ed:=b7 Tryz.func172 rfl
def O'(b:aR)(c:Nat)(e g h i:J)(j:U):bh:=(di .not e).bind λb=>aB (λ_ b=>(ar .geq g (.int .i64 0)).bind λc=>a6 (λb c=>a6 (λb c=>aL [.ah] j c [b]) λe=>a7 b true ((aq 1 i).bind λb=>(ab false 1 b c).bind λb=>(bw false b).bind λb=>(ar .lss h b).bind λb=>e b c) (e (.bool false) c)) λe=>a7 c true ((ar .leq g h).bind λc=>e c b) (e (.bool false) b)) λc=>a8 b ((ar .eql g (.int .i64 0)).bind λb=>a6 (λb c=>aL [.ah] j c [b]) λc=>a7 b true ((ar .eql h (.int .i64 0)).bind λb=>c b j) (c (.bool false) j)) (c [] j)
open Go.aN.G in
def Ee:bU:=⟨2,43,(S (R<|c9 2 39 0<|cn 4<|z)<|
 (S (S (R<|m 6 1<|dA 7 189 6<|dB 8 7<|m 9 8<|q 13 9 false [10,11,12] (f 10 0 2<|l 11 10<|b 12 .lss (t 11) (i 1)<|z) (t 12)<|
 m 14 13<|q 18 14 false [15,16,17] (f 15 0 2<|l 16 15<|b 17 .gtr (t 16) (i 64)<|z) (t 17)<|
 m 19 18<|q 28 19 false (g 20 8) (f 20 1 2<|l 21 20<|bS 22 21<|f 23 0 2<|l 24 23<|m 25 1<|b 26 .mul (t 24) (t 25)<|b 27 .neq (t 22) (t 26)<|z) (t 27)<|
 z)<|
 (.cond (t 28) [] [4]
 (S (R<|cn 4<|z)<|
 .ret)
 .skip))<|
 (S (S (R<|b3 5 0<|z)<|
 (.block 0 [] ([4,5]++g 29 14)
 (.loop [5] ([4]++g 29 14)
 (S (S (R<|m 29 5<|f 30 1 2<|l 31 30<|bS 32 31<|b 33 .lss (t 29) (t 32)<|z)<|
 (.cond (t 33) [] []
 .skip
 (.exit 0)))<|
 (S (.block 1 [] ([4]++g 36 7)
 (S (R<|f 36 1 2<|l 37 36<|m 38 5<|cu 39 6 37 38<|bM 40 6 39<|dA 41 190 40<|dB 42 41<|z)<|
 (.cond (t 42) [] [4]
 (S (R<|cn 4<|z)<|
 .ret)
 .skip)))<|
 (R<|m 34 5<|b 35 .add (t 34) (i 1)<|m 5 35<|z))))))<|
 (S (R<|gk 4<|z)<|
 .ret)))),[.tmp 4],[.ah]⟩
theorem aa8:b5 173 Ee:=b7 Tryz.func173 rfl
def Ef(b:aR)(c:Nat)(e:U)(g:J)(h:U)(i:bb):(bb)->bb:=λc j k=>(aq 1 g).bind λl=>(ab false 1 l k).bind λl=>(bw false l).bind λl=>(ar .lss (aI j 0) l).bind λl=>aB (λ_ i=>aB (λ_ b=>(ar .add (aI j 0) (.int .i64 1)).bind λe=>c [e] (trim h [e] b)) λc=>(aq 1 g).bind λg=>(ab false 1 g i).bind λg=>(bW 6 g (aI j 0)).bind λg=>(ab true 6 g i).bind λg=>(b 190 [g] i).bind λb=>(di .not b.1).bind λg=>aB (λ_ b=>c [] b) λc=>a8 g (aL [.ah] e b.2 [(.bool false)]) (c [] b.2)) λb=>a8 l (b [] k) (i [] k)
def Pa(b:aR)(c:Nat)(e g:J)(h:U):bh:=bF (.ptr h.length 0) (h++[.box (b' e) 39 .rw]) λe i=>(b 189 [g] i).bind λi=>(di .not i.1).bind λj=>a6 (λi j=>a6 (λi j=>a6 (λg i=>aB (λ_ g=>aB (λ_ b=>aL [.ah] h b [(.bool true)]) λi=>cr (Ef b c h e g i) c [(.int .i64 0)] g) λb=>a8 g (aL [.ah] h i [(.bool false)]) (b [] i)) λb=>a7 i false ((aq 1 e).bind λc=>(ab false 1 c j).bind λc=>(bw false c).bind λc=>(aq 0 e).bind λe=>(ab false 1 e j).bind λe=>(ar .mul e g).bind λe=>(ar .neq c e).bind λc=>b c j) (b (.bool true) j)) λb=>a7 i false ((aq 0 e).bind λc=>(ab false 1 c j).bind λc=>(ar .gtr c (.int .i64 64)).bind λc=>b c j) (b (.bool true) j)) λb=>a7 j false ((aq 0 e).bind λc=>(ab false 1 c i.2).bind λc=>(ar .lss c (.int .i64 1)).bind λc=>b c i.2) (b (.bool true) i.2)
open Go.aN.G in
def Eg:bU:=⟨2,43,(S (R<|c9 3 41 1<|cn 4<|z)<|
 (S (S (R<|m 8 0<|dA 9 56 8<|m 7 9<|eC 10 7 0<|eC 11 7 1<|o 5 (.new 83 iM)<|bP 29 5 10<|m 6 11<|z)<|
 (S (R<|m 12 6<|b 13 .neq (t 12) (i 0)<|m 14 13<|q 18 14 false [15,16,17] (bM 15 6 3<|dA 16 190 15<|dB 17 16<|z) (t 17)<|
 z)<|
 (.cond (t 18) [] [4]
 (S (R<|cn 4<|z)<|
 .ret)
 .skip)))<|
 (S (D<|m 19 0<|f 20 0 3<|l 21 20<|dU 22 191 19 21<|m 23 22<|q 29 23 true (g 24 5) (f 24 2 3<|l 25 24<|m 26 0<|O 27 (.call 192 [(t 26)])<|b 28 .leq (t 25) (t 27)<|z) (t 28)<|
 m 30 29<|q 42 30 true (g 31 4++[41]++g 35 6) (f 31 4 3<|l 32 31<|b 33 .eql (t 32) (i 0)<|m 34 33<|q 41 34 false (g 35 6) (m 35 0<|O 36 (.call 194 [(t 35)])<|f 37 4 3<|l 38 37<|dA 39 195 38<|dU 40 193 36 39<|z) (t 40)<|
 z) (t 41)<|
 m 4 42<|z)<|
 .ret))),[.tmp 4],[.ah]⟩
theorem aa9:b5 174 Eg:=b7 Tryz.func174 rfl
def Pb(b:aR)(c:Nat)(e g:J)(h:U):bh:=bF (.ptr h.length 0) (h++[.box (b' g) 41 .rw]) λc g=>(b 56 [e] g).bind λg=>(ea g.1 0).bind λi=>(ea g.1 1).bind λj=>bF (.ptr g.2.length 0) (g.2++[.box eR 83 .rw]) λg k=>(a_ 29 g i k).bind λg=>(ar .neq j (.int .i64 0)).bind λi=>a6 (λg i=>aB (λ_ g=>(aq 0 c).bind λi=>(ab false 1 i g).bind λi=>(b 191 [e,i] g).bind λg=>a6 (λg i=>a6 (λb c=>aL [.ah] h c [b]) λh=>a7 g true ((aq 4 c).bind λg=>(ab false 1 g i).bind λg=>(ar .eql g (.int .i64 0)).bind λg=>a6 (λb c=>h b c) λh=>a7 g false ((b 194 [e] (lock i)).bind λe=>dQ i e.2 λg=>(aq 4 c).bind λc=>(ab false 1 c g).bind λc=>(b 195 [c] g).bind λc=>(b 193 [e.1,c.1] c.2).bind λb=>h b.1 b.2) (h (.bool true) i)) (h (.bool false) i)) λh=>a7 g.1 true ((aq 2 c).bind λc=>(ab false 1 c g.2).bind λc=>(b 192 [e] (lock g.2)).bind λb=>dQ g.2 b.2 λe=>(ar .leq c b.1).bind λb=>h b e) (h (.bool false) g.2)) λb=>a8 g (aL [.ah] h i [(.bool false)]) (b [] i)) λe=>a7 i false ((ab true 6 c g).bind λc=>(b 190 [c] g).bind λb=>(di .not b.1).bind λc=>e c b.2) (e (.bool true) g)
open Go.aN.G in
def Eh:bU:=⟨2,18,(S (R<|cn 4<|z)<|
 (S (R<|m 6 1<|b 7 .sub (t 6) (i 1)<|b 8 .shl (i 1) (t 7)<|m 5 8<|z)<|
 (S (R<|m 9 5<|o 10 (.un .neg (t 9))<|m 11 0<|b 12 .leq (t 10) (t 11)<|m 13 12<|q 17 13 true [14,15,16] (m 14 0<|m 15 5<|b 16 .lss (t 14) (t 15)<|z) (t 16)<|
 m 4 17<|z)<|
 .ret))),[.tmp 4],[.ah]⟩
theorem aa_:b5 175 Eh:=b7 Tryz.func175 rfl
def Pc(b:aR)(c:Nat)(e g:J)(h:U):bh:=(ar .sub g (.int .i64 1)).bind λb=>(ar .shl (.int .i64 1) b).bind λb=>(di .neg b).bind λc=>(ar .leq c e).bind λc=>a6 (λb c=>aL [.ah] h c [b]) λg=>a7 c true ((ar .lss e b).bind λb=>g b h) (g (.bool false) h)
open Go.aN.G in
def Ei:bU:=⟨4,33,(S (R<|cn 8<|z)<|
 (S (S (R<|m 9 0<|z)<|
 (.block 0 [] ([8]++g 10 23)
 (S (R<|b 11 .eql (t 9) (i 0)<|m 10 11<|z)<|
 (.cond (t 10) [] ([8]++g 12 21)
 (S (R<|m 12 1<|b 13 .eql (t 12) (i 0)<|m 14 13<|q 17 14 true [15,16] (m 15 2<|b 16 .eql (t 15) (i 0)<|z) (t 16)<|
 m 8 17<|z)<|
 .ret)
 (S (S (R<|b 19 .eql (t 9) (i 1)<|m 18 19<|z)<|
 (.cond (t 18) [18] [20]
 .skip
 (R<|b 20 .eql (t 9) (i 2)<|m 18 20<|z)))<|
 (.cond (t 18) [] ([8]++g 21 12)
 (S (R<|m 21 1<|b 22 .leq (i 0) (t 21)<|m 23 22<|q 27 23 true [24,25,26] (m 24 1<|m 25 2<|b 26 .lss (t 24) (t 25)<|z) (t 26)<|
 m 28 27<|q 32 28 true [29,30,31] (m 29 2<|m 30 3<|b 31 .leq (t 29) (t 30)<|z) (t 31)<|
 m 8 32<|z)<|
 .ret)
 .skip))))))<|
 (S (R<|cn 8<|z)<|
 .ret))),[.tmp 8],[.ah]⟩
theorem aa':b5 176 Ei:=b7 Tryz.func176 rfl
def Pd(b:aR)(c:Nat)(e g h i:J)(j:U):bh:=aB (λ_ b=>aL [.ah] j b [(.bool false)]) λb=>(ar .eql e (.int .i64 0)).bind λc=>aB (λ_ c=>b [] c) λb=>a8 c ((ar .eql g (.int .i64 0)).bind λb=>a6 (λb c=>aL [.ah] j c [b]) λc=>a7 b true ((ar .eql h (.int .i64 0)).bind λb=>c b j) (c (.bool false) j)) ((ar .eql e (.int .i64 1)).bind λc=>aB (λc e=>aB (λ_ c=>b [] c) λb=>a8 (aI c 0) ((ar .leq (.int .i64 0) g).bind λb=>a6 (λb c=>a6 (λb c=>aL [.ah] j c [b]) λe=>a7 b true ((ar .leq h i).bind λb=>e b c) (e (.bool false) c)) λc=>a7 b true ((ar .lss g h).bind λb=>c b e) (c (.bool false) e)) (b [] e)) λb=>a8 c (b [c] j) ((ar .eql e (.int .i64 2)).bind λc=>b [c] j))
open Go.aN.G in
def Ej:bU:=⟨1,9,(S (R<|cn 2<|z)<|
 (S (R<|m 3 0<|b 4 .leq (i 1) (t 3)<|m 5 4<|q 8 5 true [6,7] (m 6 0<|b 7 .leq (t 6) (i 16)<|z) (t 7)<|
 m 2 8<|z)<|
 .ret)),[.tmp 2],[.ah]⟩
theorem aba:b5 189 Ej:=b7 Tryz.func189 rfl
def Pe(b:aR)(c:Nat)(e:J)(g:U):bh:=(ar .leq (.int .i64 1) e).bind λb=>a6 (λb c=>aL [.ah] g c [b]) λc=>a7 b true ((ar .leq e (.int .i64 16)).bind λb=>c b g) (c (.bool false) g)
open Go.aN.G in
def Ek:bU:=⟨1,102,(S (R<|c9 1 41 0<|cn 2<|z)<|
 (S (R<|f 6 0 1<|l 7 6<|b 8 .leq (i 0) (t 7)<|m 9 8<|q 13 9 true [10,11,12] (f 10 0 1<|l 11 10<|b 12 .leq (t 11) (i 120)<|z) (t 12)<|
 m 14 13<|q 18 14 false [15,16,17] (f 15 0 1<|l 16 15<|b 17 .eql (t 16) (i 253)<|z) (t 17)<|
 m 19 18<|q 23 19 false [20,21,22] (f 20 0 1<|l 21 20<|b 22 .eql (t 21) (i 254)<|z) (t 22)<|
 m 24 23<|q 28 24 false [25,26,27] (f 25 0 1<|l 26 25<|b 27 .eql (t 26) (i 255)<|z) (t 27)<|
 m 3 28<|z)<|
 (S (R<|f 29 2 1<|l 30 29<|b 31 .eql (t 30) (i 0)<|m 32 31<|q 36 32 true [33,34,35] (f 33 3 1<|l 34 33<|b 35 .eql (t 34) (i 0)<|z) (t 35)<|
 m 37 36<|q 56 37 false (g 38 4++[45,42,43,44,46,50,47,48,49,51,55,52,53,54]) (f 38 2 1<|l 39 38<|b 40 .leq (i 1) (t 39)<|m 41 40<|q 45 41 true [42,43,44] (f 42 2 1<|l 43 42<|b 44 .leq (t 43) (i 12)<|z) (t 44)<|
 m 46 45<|q 50 46 true [47,48,49] (f 47 3 1<|l 48 47<|b 49 .leq (i 0) (t 48)<|z) (t 49)<|
 m 51 50<|q 55 51 true [52,53,54] (f 52 3 1<|l 53 52<|b 54 .leq (t 53) (i 99)<|z) (t 54)<|
 z) (t 55)<|
 m 4 56<|z)<|
 (S (R<|f 57 4 1<|l 58 57<|b 59 .eql (t 58) (i 0)<|m 60 59<|q 64 60 true [61,62,63] (f 61 5 1<|l 62 61<|b 63 .eql (t 62) (i 0)<|z) (t 63)<|
 m 65 64<|q 84 65 false (g 66 4++[73,70,71,72,74,78,75,76,77,79,83,80,81,82]) (f 66 4 1<|l 67 66<|b 68 .leq (i 1) (t 67)<|m 69 68<|q 73 69 true [70,71,72] (f 70 4 1<|l 71 70<|b 72 .leq (t 71) (i 36)<|z) (t 72)<|
 m 74 73<|q 78 74 true [75,76,77] (f 75 5 1<|l 76 75<|b 77 .leq (i 0) (t 76)<|z) (t 77)<|
 m 79 78<|q 83 79 true [80,81,82] (f 80 5 1<|l 81 80<|b 82 .leq (t 81) (i 255)<|z) (t 82)<|
 z) (t 83)<|
 m 5 84<|z)<|
 (S (R<|m 85 3<|m 86 85<|q 88 86 true [87] (m 87 4<|z) (t 87)<|
 m 89 88<|q 91 89 true [90] (m 90 5<|z) (t 90)<|
 m 92 91<|q 96 92 true [93,94,95] (f 93 1 1<|l 94 93<|b 95 .leq (i 0) (t 94)<|z) (t 95)<|
 m 97 96<|q 101 97 true [98,99,100] (f 98 1 1<|l 99 98<|b 100 .leq (t 99) (i 31)<|z) (t 100)<|
 m 2 101<|z)<|
 .ret))))),[.tmp 2],[.ah]⟩
theorem abb:b5 190 Ek:=b7 Tryz.func190 rfl
def Pf(b:aR)(c:Nat)(e:J)(g:U):bh:=bF (.ptr g.length 0) (g++[.box (b' e) 41 .rw]) λb c=>(aq 0 b).bind λe=>(ab false 1 e c).bind λe=>(ar .leq (.int .i64 0) e).bind λe=>a6 (λc e=>a6 (λc e=>a6 (λc e=>a6 (λc e=>(aq 2 b).bind λh=>(ab false 1 h e).bind λh=>(ar .eql h (.int .i64 0)).bind λh=>a6 (λe h=>a6 (λe h=>(aq 4 b).bind λi=>(ab false 1 i h).bind λi=>(ar .eql i (.int .i64 0)).bind λi=>a6 (λh i=>a6 (λh i=>a6 (λc e=>a6 (λc e=>a6 (λc e=>a6 (λb c=>aL [.ah] g c [b]) λg=>a7 c true ((aq 1 b).bind λb=>(ab false 1 b e).bind λb=>(ar .leq b (.int .i64 31)).bind λb=>g b e) (g (.bool false) e)) λg=>a7 c true ((aq 1 b).bind λb=>(ab false 1 b e).bind λb=>(ar .leq (.int .i64 0) b).bind λb=>g b e) (g (.bool false) e)) λb=>a7 c true (b h e) (b (.bool false) e)) λb=>a7 c true (b e i) (b (.bool false) i)) λc=>a7 h false ((aq 4 b).bind λe=>(ab false 1 e i).bind λe=>(ar .leq (.int .i64 1) e).bind λe=>a6 (λe g=>a6 (λe g=>a6 (λb e=>c b e) λc=>a7 e true ((aq 5 b).bind λb=>(ab false 1 b g).bind λb=>(ar .leq b (.int .i64 255)).bind λb=>c b g) (c (.bool false) g)) λc=>a7 e true ((aq 5 b).bind λb=>(ab false 1 b g).bind λb=>(ar .leq (.int .i64 0) b).bind λb=>c b g) (c (.bool false) g)) λc=>a7 e true ((aq 4 b).bind λb=>(ab false 1 b i).bind λb=>(ar .leq b (.int .i64 36)).bind λb=>c b i) (c (.bool false) i)) (c (.bool true) i)) λc=>a7 i true ((aq 5 b).bind λb=>(ab false 1 b h).bind λb=>(ar .eql b (.int .i64 0)).bind λb=>c b h) (c (.bool false) h)) λc=>a7 e false ((aq 2 b).bind λe=>(ab false 1 e h).bind λe=>(ar .leq (.int .i64 1) e).bind λe=>a6 (λe g=>a6 (λe g=>a6 (λb e=>c b e) λc=>a7 e true ((aq 3 b).bind λb=>(ab false 1 b g).bind λb=>(ar .leq b (.int .i64 99)).bind λb=>c b g) (c (.bool false) g)) λc=>a7 e true ((aq 3 b).bind λb=>(ab false 1 b g).bind λb=>(ar .leq (.int .i64 0) b).bind λb=>c b g) (c (.bool false) g)) λc=>a7 e true ((aq 2 b).bind λb=>(ab false 1 b h).bind λb=>(ar .leq b (.int .i64 12)).bind λb=>c b h) (c (.bool false) h)) (c (.bool true) h)) λc=>a7 h true ((aq 3 b).bind λb=>(ab false 1 b e).bind λb=>(ar .eql b (.int .i64 0)).bind λb=>c b e) (c (.bool false) e)) λg=>a7 c false ((aq 0 b).bind λb=>(ab false 1 b e).bind λb=>(ar .eql b (.int .i64 255)).bind λb=>g b e) (g (.bool true) e)) λg=>a7 c false ((aq 0 b).bind λb=>(ab false 1 b e).bind λb=>(ar .eql b (.int .i64 254)).bind λb=>g b e) (g (.bool true) e)) λg=>a7 c false ((aq 0 b).bind λb=>(ab false 1 b e).bind λb=>(ar .eql b (.int .i64 253)).bind λb=>g b e) (g (.bool true) e)) λg=>a7 e true ((aq 0 b).bind λb=>(ab false 1 b c).bind λb=>(ar .leq b (.int .i64 120)).bind λb=>g b c) (g (.bool false) c)
open Go.aN.G in
def El:bU:=⟨2,49,(S (R<|cn 4<|z)<|
 (S (R<|m 8 0<|dA 9 56 8<|m 7 9<|eC 10 7 0<|eC 11 7 1<|o 5 (.new 83 iM)<|bP 29 5 10<|m 6 11<|z)<|
 (S (S (R<|m 12 1<|z)<|
 (.block 0 [] ([4]++g 13 26)
 (S (R<|b 14 .eql (t 12) (i 0)<|m 13 14<|z)<|
 (.cond (t 13) [] ([4]++g 15 24)
 (S (R<|gk 4<|z)<|
 .ret)
 (S (R<|b 16 .eql (t 12) (i 255)<|m 15 16<|z)<|
 (.cond (t 15) [] ([4]++g 17 22)
 (S (R<|m 17 0<|b 18 .eql (t 17) (i 3)<|m 19 18<|q 22 19 false [20,21] (m 20 0<|b 21 .eql (t 20) (i 4)<|z) (t 21)<|
 m 23 22<|q 26 23 false [24,25] (m 24 0<|b 25 .eql (t 24) (i 6)<|z) (t 25)<|
 m 4 26<|z)<|
 .ret)
 (S (R<|b 28 .eql (t 12) (i 254)<|m 27 28<|z)<|
 (.cond (t 27) [] ([4]++g 29 10)
 (S (R<|m 29 0<|b 30 .eql (t 29) (i 2)<|m 31 30<|q 34 31 false [32,33] (m 32 0<|b 33 .eql (t 32) (i 4)<|z) (t 33)<|
 m 4 34<|z)<|
 .ret)
 (S (R<|b 36 .eql (t 12) (i 253)<|m 35 36<|z)<|
 (.cond (t 35) [] [4,37,38]
 (S (R<|m 37 0<|b 38 .eql (t 37) (i 4)<|m 4 38<|z)<|
 .ret)
 .skip))))))))))<|
 (S (R<|f 39 4 5<|l 40 39<|m 41 1<|b 42 .leq (t 40) (t 41)<|m 43 42<|q 48 43 true (g 44 4) (m 44 1<|f 45 5 5<|l 46 45<|b 47 .leq (t 44) (t 46)<|z) (t 47)<|
 m 4 48<|z)<|
 .ret)))),[.tmp 4],[.ah]⟩
theorem abc:b5 191 El:=b7 Tryz.func191 rfl
def Pg(b:aR)(c:Nat)(e g:J)(h:U):bh:=(b 56 [e] h).bind λb=>(ea b.1 0).bind λc=>(ea b.1 1).bind λ_=>bF (.ptr b.2.length 0) (b.2++[.box eR 83 .rw]) λb i=>(a_ 29 b c i).bind λc=>aB (λ_ c=>(aq 4 b).bind λe=>(ab false 1 e c).bind λe=>(ar .leq e g).bind λe=>a6 (λb c=>aL [.ah] h c [b]) λh=>a7 e true ((aq 5 b).bind λb=>(ab false 1 b c).bind λb=>(ar .leq g b).bind λb=>h b c) (h (.bool false) c)) λb=>(ar .eql g (.int .i64 0)).bind λi=>aB (λ_ c=>b [] c) λb=>a8 i (aL [.ah] h c [(.bool true)]) ((ar .eql g (.int .i64 255)).bind λi=>aB (λ_ c=>b [] c) λb=>a8 i ((ar .eql e (.int .i64 3)).bind λb=>a6 (λb c=>a6 (λb c=>aL [.ah] h c [b]) λg=>a7 b false ((ar .eql e (.int .i64 6)).bind λb=>g b c) (g (.bool true) c)) λg=>a7 b false ((ar .eql e (.int .i64 4)).bind λb=>g b c) (g (.bool true) c)) ((ar .eql g (.int .i64 254)).bind λi=>aB (λ_ c=>b [] c) λb=>a8 i ((ar .eql e (.int .i64 2)).bind λb=>a6 (λb c=>aL [.ah] h c [b]) λg=>a7 b false ((ar .eql e (.int .i64 4)).bind λb=>g b c) (g (.bool true) c)) ((ar .eql g (.int .i64 253)).bind λg=>aB (λ_ c=>b [] c) λb=>a8 g ((ar .eql e (.int .i64 4)).bind λb=>aL [.ah] h c [b]) (b [] c))))
open Go.aN.G in
def Em:bU:=⟨1,10,(S (R<|b3 2 0<|z)<|
 (S (S (R<|m 3 0<|z)<|
 (.block 0 [] ([2]++g 4 6)
 (S (R<|b 5 .eql (t 3) (i 2)<|m 4 5<|z)<|
 (.cond (t 4) [] ([2]++g 6 4)
 (S (R<|b3 2 1<|z)<|
 .ret)
 (S (R<|b 7 .eql (t 3) (i 3)<|m 6 7<|z)<|
 (.cond (t 6) [] [2,8,9]
 (S (R<|b3 2 8<|z)<|
 .ret)
 (S (R<|b 9 .eql (t 3) (i 4)<|m 8 9<|z)<|
 (.cond (t 8) [] [2]
 (S (R<|b3 2 10<|z)<|
 .ret)
 .skip))))))))<|
 (S (R<|b3 2 0<|z)<|
 .ret))),[.tmp 2],[.ah]⟩
theorem abd:b5 192 Em:=b7 Tryz.func192 rfl
def Ph(b:aR)(c:Nat)(e:J)(g:U):bh:=aB (λ_ b=>aL [.ah] g b [(.int .i64 0)]) λb=>(ar .eql e (.int .i64 2)).bind λc=>aB (λ_ c=>b [] c) λb=>a8 c (aL [.ah] g g [(.int .i64 1)]) ((ar .eql e (.int .i64 3)).bind λc=>aB (λ_ c=>b [] c) λb=>a8 c (aL [.ah] g g [(.int .i64 8)]) ((ar .eql e (.int .i64 4)).bind λc=>aB (λ_ c=>b [] c) λb=>a8 c (aL [.ah] g g [(.int .i64 10)]) (b [] g)))
open Go.aN.G in
def En:bU:=⟨2,17,(S (R<|cn 4<|z)<|
 (S (S (R<|b3 5 0<|z)<|
 (.block 0 [] (g 4 13)
 (.loop [5] ([4]++g 6 11)
 (S (S (R<|m 6 5<|m 7 0<|o 8 (.len true (t 7))<|b 9 .lss (t 6) (t 8)<|z)<|
 (.cond (t 9) [] []
 .skip
 (.exit 0)))<|
 (S (.block 1 [] ([4]++g 12 5)
 (S (R<|m 12 0<|m 13 5<|o 14 (.mR (t 12) (t 13))<|m 15 1<|b 16 .eql (t 14) (t 15)<|z)<|
 (.cond (t 16) [] [4]
 (S (R<|gk 4<|z)<|
 .ret)
 .skip)))<|
 (R<|m 10 5<|b 11 .add (t 10) (i 1)<|m 5 11<|z))))))<|
 (S (R<|cn 4<|z)<|
 .ret))),[.tmp 4],[.ah]⟩
theorem abe:b5 193 En:=b7 Tryz.func193 rfl
def Eo(b:aR)(c:Nat)(e g:J)(h:U)(i:bb):(bb)->bb:=λb c j=>(bw true e).bind λk=>(ar .lss (aI c 0) k).bind λk=>aB (λ_ i=>aB (λ_ e=>(ar .add (aI c 0) (.int .i64 1)).bind λc=>b [c] (trim h [c] e)) λb=>(mm e (aI c 0)).bind λc=>(ar .eql c g).bind λc=>aB (λ_ c=>b [] c) λb=>a8 c (aL [.ah] h i [(.bool true)]) (b [] i)) λb=>a8 k (b [] j) (i [] j)
def Pj(b:aR)(c:Nat)(e g:J)(h:U):bh:=aB (λ_ b=>aL [.ah] h b [(.bool false)]) λi=>cr (Eo b c e g h i) c [(.int .i64 0)] h
open Go.aN.G in
def Ep:bU:=⟨1,16,(S (R<|o 2 (.move (.const (.string ⟨#[]⟩)))<|z)<|
 (S (S (R<|m 3 0<|z)<|
 (.block 0 [] ([2]++g 4 12)
 (S (R<|b 5 .eql (t 3) (i 1)<|m 4 5<|z)<|
 (.cond (t 4) [] ([2]++g 6 10)
 (S (R<|o 2 (.move (.const (.string ⟨#[48,49,50,51,52,53,54,55,56,57,65,66,67,68,69,70]⟩)))<|z)<|
 .ret)
 (S (R<|b 7 .eql (t 3) (i 2)<|m 6 7<|z)<|
 (.cond (t 6) [] ([2]++g 8 8)
 (S (R<|o 2 (.move (.const (.string ⟨#[65,66,67,68,69,70,71,72,73,74,75,76,79,81,82,83,84,85,86,88]⟩)))<|z)<|
 .ret)
 (S (R<|b 9 .eql (t 3) (i 3)<|m 8 9<|z)<|
 (.cond (t 8) [] ([2]++g 10 6)
 (S (R<|o 2 (.move (.const (.string ⟨#[48,49,50,51,52,53,54,55,56,57,65,66,67,68,69,70,71,72,75,76,80,82,84,88]⟩)))<|z)<|
 .ret)
 (S (R<|b 11 .eql (t 3) (i 4)<|m 10 11<|z)<|
 (.cond (t 10) [] ([2]++g 12 4)
 (S (R<|o 2 (.move (.const (.string ⟨#[65,66,67,68,69,70,71,72,73,74,75,76,77,78,79,80,81,82,83,84,85,86,87,88,89,90]⟩)))<|z)<|
 .ret)
 (S (R<|b 13 .eql (t 3) (i 5)<|m 12 13<|z)<|
 (.cond (t 12) [] [2,14,15]
 (S (R<|o 2 (.move (.const (.string ⟨#[48,49,50,51,52,53]⟩)))<|z)<|
 .ret)
 (S (R<|b 15 .eql (t 3) (i 6)<|m 14 15<|z)<|
 (.cond (t 14) [] [2]
 (S (R<|o 2 (.move (.const (.string ⟨#[48,49,50,51,52,65,66,67,68,69,70,78,83]⟩)))<|z)<|
 .ret)
 .skip))))))))))))))<|
 (S (R<|o 2 (.move (.const (.string ⟨#[]⟩)))<|z)<|
 .ret))),[.tmp 2],[.ah]⟩
theorem abf:b5 194 Ep:=b7 Tryz.func194 rfl
def Pk(b:aR)(c:Nat)(e:J)(g:U):bh:=aB (λ_ b=>aL [.ah] g b [(.str ⟨#[]⟩:J)]) λb=>(ar .eql e (.int .i64 1)).bind λc=>aB (λ_ c=>b [] c) λb=>a8 c (aL [.ah] g g [(.str ⟨#[48,49,50,51,52,53,54,55,56,57,65,66,67,68,69,70]⟩:J)]) ((ar .eql e (.int .i64 2)).bind λc=>aB (λ_ c=>b [] c) λb=>a8 c (aL [.ah] g g [(.str ⟨#[65,66,67,68,69,70,71,72,73,74,75,76,79,81,82,83,84,85,86,88]⟩:J)]) ((ar .eql e (.int .i64 3)).bind λc=>aB (λ_ c=>b [] c) λb=>a8 c (aL [.ah] g g [(.str ⟨#[48,49,50,51,52,53,54,55,56,57,65,66,67,68,69,70,71,72,75,76,80,82,84,88]⟩:J)]) ((ar .eql e (.int .i64 4)).bind λc=>aB (λ_ c=>b [] c) λb=>a8 c (aL [.ah] g g [(.str ⟨#[65,66,67,68,69,70,71,72,73,74,75,76,77,78,79,80,81,82,83,84,85,86,87,88,89,90]⟩:J)]) ((ar .eql e (.int .i64 5)).bind λc=>aB (λ_ c=>b [] c) λb=>a8 c (aL [.ah] g g [(.str ⟨#[48,49,50,51,52,53]⟩:J)]) ((ar .eql e (.int .i64 6)).bind λc=>aB (λ_ c=>b [] c) λb=>a8 c (aL [.ah] g g [(.str ⟨#[48,49,50,51,52,65,66,67,68,69,70,78,83]⟩:J)]) (b [] g))))))
open Go.aN.G in
def Er:bU:=⟨1,13,(S (R<|o 2 (.move (.const (.int .u8 0)))<|z)<|
 (S (S (R<|m 3 0<|b 4 .leq (t 3) (i 10)<|z)<|
 (.cond (t 4) [] ([2]++g 5 4)
 (S (R<|m 5 0<|b 6 .sub (t 5) (i 1)<|o 7 (.conv .u8 (t 6))<|b 8 .add (.const (.int .u8 48)) (t 7)<|m 2 8<|z)<|
 .ret)
 .skip))<|
 (S (R<|m 9 0<|b 10 .sub (t 9) (i 11)<|o 11 (.conv .u8 (t 10))<|b 12 .add (.const (.int .u8 65)) (t 11)<|m 2 12<|z)<|
 .ret))),[.tmp 2],[.ah]⟩
theorem abg:b5 195 Er:=b7 Tryz.func195 rfl
def Pl(b:aR)(c:Nat)(e:J)(g:U):bh:=(ar .leq e (.int .i64 10)).bind λb=>aB (λ_ b=>(ar .sub e (.int .i64 11)).bind λc=>(ml .u8 c).bind λc=>(ar .add (.int .u8 65) c).bind λc=>aL [.ah] g b [c]) λc=>a8 b ((ar .sub e (.int .i64 1)).bind λb=>(ml .u8 b).bind λb=>(ar .add (.int .u8 48) b).bind λb=>aL [.ah] g g [b]) (c [] g)
def T:iz:=[(3,ep),(7,A8),(8,A9),(9,A_),(10,A'),(11,Ba),(12,Bb),(13,Bc),(14,Bg),(15,Bh),(16,Bn),(17,Bo),(24,Bq),(25,yr),(26,Bs),(27,Bu),(28,Bw),(29,Bx),(30,Bz),(31,BA),(32,BC),(33,BD),(34,BF),(35,BJ),(36,BK),(37,BL),(38,BP),(39,vF),(40,BT),(41,BU),(42,BV),(43,BW),(44,BX),(45,BY),(46,BZ),(47,B0),(48,B1),(49,B2),(50,vJ),(51,B8),(52,yA),(53,B'),(54,Ca),(55,Cb),(56,Cc),(57,Cd),(58,Ce),(68,Cf),(69,Cg),(70,Ci),(71,Cj),(72,Ck),(73,Cm),(74,Co),(75,Cq),(76,Cr),(77,Cs),(78,Ct),(79,Cu),(80,Cv),(81,Cw),(82,Cx),(83,Cy),(84,Cz),(85,CA),(86,CB),(87,CD),(88,CE),(89,CG),(90,CH),(91,CJ),(92,CL),(93,CM),(94,CN),(95,CO),(96,CP),(97,CQ),(98,CR),(99,CT),(100,CU),(101,CV),(102,CW),(103,CX),(104,CY),(110,CZ),(112,C1),(114,C2),(115,C4),(116,C5),(117,C6),(118,C7),(119,C8),(120,C9),(121,C_),(122,Da),(123,Db),(124,Dc),(125,De),(126,Df),(127,Di),(128,Dj),(129,Dk),(130,Dl),(131,Dn),(132,Dq),(133,Ds),(134,Dt),(135,Du),(136,Dw),(137,Dx),(138,Dz),(139,DB),(140,DD),(141,DF),(142,DH),(145,DJ),(146,DL),(147,DM),(148,DN),(149,DO),(150,DQ),(151,DR),(152,DS),(153,DT),(154,DU),(155,DV),(156,DW),(157,DX),(158,DZ),(159,D0),(160,D2),(161,D4),(162,O5),(163,D6),(164,D7),(165,D_),(166,Ea),(170,Ec),(172,Ed),(173,Ee),(174,Eg),(175,Eh),(176,Ei),(189,Ej),(190,Ek),(191,El),(192,Em),(193,En),(194,Ep),(195,Er)]
def aJ:aR:=m8 (vA (tt 171) (vz 144)) T
theorem cg{f:dN}{F:bU}(b:T.get f=I F)(fuel:Nat){args:List J}{h:U}{r:J×U}(ad:bX aJ fuel F args h=I r)(aC:cC f dP=false:=by rfl):aJ f args h=I r:=WN b fuel ad aC
theorem Ij(fuel:Nat){args:List J}{h:U}{r:J×U}(ad:nQ aJ fuel args h=I r):aJ dP args h=I r:=WO fuel ad
end
section
variable (Γ : aR) (n : Nat) (al ay bV fZ : J) (h : U)
theorem abh:bX Γ n CE [al,ay] h=NZ Γ n al ay h:=by kernel_rfl
theorem abi:bX Γ n CG [al,ay] h=N0 Γ n al ay h:=by kernel_rfl
theorem abj:bX Γ n CH [al,ay] h=N1 Γ n al ay h:=by kernel_rfl
theorem abk:bX Γ n CJ [al,ay] h=N2 Γ n al ay h:=by kernel_rfl
theorem abl:bX Γ n CL [al,ay] h=N3 Γ n al ay h:=by kernel_rfl
theorem abm:bX Γ n CM [al,ay,bV] h=N4 Γ n al ay bV h:=by kernel_rfl
theorem abn:bX Γ n CN [al,ay] h=N5 Γ n al ay h:=by kernel_rfl
theorem abo:bX Γ n CO [al,ay] h=N6 Γ n al ay h:=by kernel_rfl
theorem abp:bX Γ n CP [al,ay,bV] h=N8 Γ n al ay bV h:=by kernel_rfl
theorem abq:bX Γ n CQ [al,ay] h=N_ Γ n al ay h:=by kernel_rfl
theorem abr:bX Γ n CR [al,ay] h=N' Γ n al ay h:=by kernel_rfl
theorem abt:bX Γ n CT [al] h=Oa Γ n al h:=by kernel_rfl
theorem abu:bX Γ n CU [al,ay] h=Ob Γ n al ay h:=by kernel_rfl
theorem abv:bX Γ n CV [al] h=Oc Γ n al h:=by kernel_rfl
theorem abw:bX Γ n CW [] h=Od Γ n h:=by kernel_rfl
theorem abx:bX Γ n CX [al] h=Oe Γ n al h:=by kernel_rfl
theorem aby:bX Γ n CY [al,ay,bV] h=Of Γ n al ay bV h:=by kernel_rfl
theorem abz:bX Γ n CZ [al] h=Og Γ n al h:=by kernel_rfl
theorem abA:bX Γ n C1 [al] h=Oh Γ n al h:=by kernel_rfl
theorem abB:bX Γ n C2 [al] h=Oi Γ n al h:=by kernel_rfl
theorem abC:bX Γ n C4 [al,ay] h=Oj Γ n al ay h:=by kernel_rfl
theorem abD:bX Γ n C5 [al,ay] h=Ol Γ n al ay h:=by kernel_rfl
theorem abE:bX Γ n C6 [al,ay] h=Om Γ n al ay h:=by kernel_rfl
theorem abF:bX Γ n C7 [al,ay] h=On Γ n al ay h:=by kernel_rfl
theorem abG:bX Γ n C8 [al,ay] h=Oo Γ n al ay h:=by kernel_rfl
theorem abH:bX Γ n C9 [al] h=Oq Γ n al h:=by kernel_rfl
theorem abI:bX Γ n C_ [al,ay] h=Ot Γ n al ay h:=by kernel_rfl
theorem abJ:bX Γ n Da [al,ay] h=Ou Γ n al ay h:=by kernel_rfl
theorem abK:bX Γ n Db [al] h=Ov Γ n al h:=by kernel_rfl
theorem abL:bX Γ n Dc [al,ay] h=Ow Γ n al ay h:=by kernel_rfl
theorem abM:bX Γ n De [al] h=Ox Γ n al h:=by kernel_rfl
theorem abN:bX Γ n Df [al] h=Oy Γ n al h:=by kernel_rfl
theorem abO:bX Γ n Di [al] h=Oz Γ n al h:=by kernel_rfl
theorem abP:bX Γ n Dj [al,ay] h=OA Γ n al ay h:=by kernel_rfl
theorem abQ:bX Γ n Dk [al,ay] h=OB Γ n al ay h:=by kernel_rfl
theorem abR:bX Γ n Dl [al,ay] h=OC Γ n al ay h:=by kernel_rfl
theorem abS:bX Γ n Dn [al,ay] h=OD Γ n al ay h:=by kernel_rfl
theorem abT:bX Γ n Dq [al,ay] h=OE Γ n al ay h:=by kernel_rfl
theorem abU:bX Γ n Ds [al,ay] h=OF Γ n al ay h:=by kernel_rfl
theorem abV:bX Γ n Dt [al,ay] h=OG Γ n al ay h:=by kernel_rfl
theorem abW:bX Γ n Du [al] h=OH Γ n al h:=by kernel_rfl
theorem abX:bX Γ n Dw [al,ay,bV] h=OI Γ n al ay bV h:=by kernel_rfl
theorem abY:bX Γ n Dx [al] h=OJ Γ n al h:=by kernel_rfl
theorem abZ:bX Γ n Dz [al,ay] h=OK Γ n al ay h:=by kernel_rfl
theorem ab0:bX Γ n DB [al] h=OL Γ n al h:=by kernel_rfl
theorem ab1:bX Γ n DD [al] h=OM Γ n al h:=by kernel_rfl
theorem ab2:bX Γ n DF [al] h=ON Γ n al h:=by kernel_rfl
theorem ab3:bX Γ n DH [al] h=OO Γ n al h:=by kernel_rfl
theorem ab4:bX Γ n DJ [al,ay,bV] h=OP Γ n al ay bV h:=by kernel_rfl
theorem ab5:bX Γ n DL [al,ay,bV] h=OQ Γ n al ay bV h:=by kernel_rfl
theorem ab6:bX Γ n DM [al] h=OR Γ n al h:=by kernel_rfl
theorem ab7:bX Γ n DN [al] h=OS Γ n al h:=by kernel_rfl
theorem ab8:bX Γ n DO [al,ay] h=OT Γ n al ay h:=by kernel_rfl
theorem ab9:bX Γ n DQ [al,ay] h=OU Γ n al ay h:=by kernel_rfl
theorem ab_:bX Γ n DR [al] h=OV Γ n al h:=by kernel_rfl
theorem ab':bX Γ n DS [al,ay] h=OW Γ n al ay h:=by kernel_rfl
theorem aca:bX Γ n DT [al] h=OX Γ n al h:=by kernel_rfl
theorem acb:bX Γ n DU [al] h=OY Γ n al h:=by kernel_rfl
theorem acd:bX Γ n DV [al] h=aaU Γ n al h:=by kernel_rfl
theorem ace:bX Γ n DW [al,ay,bV,fZ] h=OZ Γ n al ay bV fZ h:=by kernel_rfl
theorem acf:bX Γ n DX [al] h=O0 Γ n al h:=by kernel_rfl
theorem acg:bX Γ n DZ [al] h=O1 Γ n al h:=by kernel_rfl
theorem ach:bX Γ n D0 [al,ay,bV] h=O2 Γ n al ay bV h:=by kernel_rfl
theorem aci:bX Γ n D2 [al,ay] h=O3 Γ n al ay h:=by kernel_rfl
theorem acj:bX Γ n D4 [al,ay] h=O4 Γ n al ay h:=by kernel_rfl
theorem ack:bX Γ n D6 [al,ay] h=O6 Γ n al ay h:=by kernel_rfl
theorem acm:bX Γ n D7 [al,ay,bV] h=O7 Γ n al ay bV h:=by kernel_rfl
theorem acn:bX Γ n D_ [al] h=O8 Γ n al h:=by kernel_rfl
theorem aco:bX Γ n Ea [al,ay] h=O9 Γ n al ay h:=by kernel_rfl
theorem acp:bX Γ n Ec [al,ay,bV,fZ] h=O_ Γ n al ay bV fZ h:=by kernel_rfl
theorem acq:bX Γ n Ed [al,ay,bV,fZ] h=O' Γ n al ay bV fZ h:=by kernel_rfl
theorem acr:bX Γ n Ee [al,ay] h=Pa Γ n al ay h:=by kernel_rfl
theorem acs:bX Γ n Eg [al,ay] h=Pb Γ n al ay h:=by kernel_rfl
theorem acu:bX Γ n Eh [al,ay] h=Pc Γ n al ay h:=by kernel_rfl
theorem acv:bX Γ n Ei [al,ay,bV,fZ] h=Pd Γ n al ay bV fZ h:=by kernel_rfl
theorem acw:bX Γ n Ej [al] h=Pe Γ n al h:=by kernel_rfl
theorem acx:bX Γ n Ek [al] h=Pf Γ n al h:=by kernel_rfl
theorem acy:bX Γ n El [al,ay] h=Pg Γ n al ay h:=by kernel_rfl
theorem acz:bX Γ n Em [al] h=Ph Γ n al h:=by kernel_rfl
theorem acA:bX Γ n En [al,ay] h=Pj Γ n al ay h:=by kernel_rfl
theorem acB:bX Γ n Ep [al] h=Pk Γ n al h:=by kernel_rfl
theorem acC:bX Γ n Er [al] h=Pl Γ n al h:=by kernel_rfl
end
open Go.RowKit
theorem acD:∀(xs:Array Value) (w:World),(callFunc 171 xs).run Tryz.prog w=.ok (.enter 171 xs) w:=λxs w=>GO Tryz.func171 rfl (by kernel_rfl)
set_option maxHeartbeats 1000000 in
set_option maxRecDepth 100000 in
theorem acE(F:Fence)(n:Nat)(b:kg F)(s:ByteArray)(c:Int)(w:World):CallsIn F.plain n Tryz.prog 171 #[.string s,.int .u8 c] w λe b2=>e=.returned (.int .i64 (qY s.data.toList c.toNat.toUInt8))/\b2=w:=by
 have mixed:Tryz.prog.follows .mixedOrders=true:=by kernel_rfl
 have g:=Tryz.underlying3
 have h:=Tryz.underlying5
 have i:=Tryz.underlying9
 refine callsIn_of_wp Tryz.func171 rfl (b.1 171) ?_ rfl
 simp only[show Tryz.f171.ntmps=8 from rfl,List.size_toArray,List.length_cons,List.length_nil,Nat.reduceAdd,Nat.reduceSub,Array.replicate_succ,Array.replicate_zero,List.push_toArray,List.append_toArray,List.nil_append,List.cons_append]
 gi_wp2
 refine⟨b.1 188,?_⟩
 rw[run_callFunc_extern Tryz.func188 (by kernel_rfl) (by kernel_rfl) (by kernel_rfl) (e:=Extern.BytealgIndexByte.indexByte) (by kernel_rfl),Lib.run_indexByteString]
 simp only[Result.andThen]
 rw[Oper.uponIn_value]
 gi_wp2
 go_ret
 exact⟨rfl,rfl⟩
theorem acF:iH Tryz.prog (ql 171):=Xn acD acE rfl
end Go.aN.X
namespace Go.aN.X
open Go.bB Go.aN
attribute [local congr] nf ng nh ni
def b8(x lo ag:Int):Bool:=decide (lo<=x)&&decide (x<=ag)
theorem qs(x lo ag:Int)(h:U):aJ 54 [.int .i64 x,.int .i64 lo,.int .i64 ag] h=I (.bool (b8 x lo ag),h):=by
 refine cg (F:=Ca) (by kernel_rfl) 1 ?_
 rw[Zy]
 unfold Ny b8
 simp only[nU,iK,bY,fh,dR,ge_iff_le]
theorem Es(x lo ag:Int)(h:U):aJ 104 [.int .i64 x,.int .i64 lo,.int .i64 ag] h=I (.bool (b8 x lo ag),h):=by
 refine cg (F:=CY) (by kernel_rfl) 1 ?_
 rw[aby]
 unfold Of b8
 simp only[nU,iK,bY,fh,dR,ge_iff_le]
theorem Pm(x lo ag:Int)(h:U):aJ 146 [.int .i64 x,.int .i64 lo,.int .i64 ag] h=I (.bool (b8 x lo ag),h):=by
 refine cg (F:=DL) (by kernel_rfl) 1 ?_
 rw[ab5]
 unfold OQ b8
 simp only[nU,iK,bY,fh,dR,ge_iff_le]
theorem sl(x lo ag:Int)(h:U):aJ 57 [.int .i64 x,.int .i64 lo,.int .i64 ag] h=I (.bool (b8 x lo ag),h):=by
 refine cg (F:=Cd) (by kernel_rfl) 1 ?_
 rw[ZB]
 unfold NB b8
 simp only[nU,iK,bY,fh,dR]
theorem Ik(d:Int)(h:U):aJ 101 [.int .i64 d] h=I (.bool (b8 d 1 6),h):=by
 refine cg (F:=CV) (by kernel_rfl) 1 ?_
 rw[abv]
 unfold Oc b8
 simp only[nU,iK,bY,fh,dR,ge_iff_le]
theorem vC(x:Int)(h:U):aJ 103 [.int .i64 x] h=I (.bool (b8 x 1 16),h):=by
 refine cg (F:=CX) (by kernel_rfl) 1 ?_
 rw[abx]
 unfold Oe
 simp only[Es,bY,dR]
structure Cell where
 (note inst oJ lz kp vN:Int)
def Cell.cs(c:Cell):List J:=[.int .i64 c.note,.int .i64 c.inst,.int .i64 c.oJ,.int .i64 c.lz,.int .i64 c.kp,.int .i64 c.vN]
def l2(c:Cell):Bool:=
 (b8 c.note 0 120||c.note==253||c.note==254||c.note==255)&&b8 c.inst 0 31&&(b8 c.oJ 0 12&&b8 c.lz 0 99&&(decide (c.oJ>0)||c.lz==0))&&(b8 c.kp 0 36&&b8 c.vN 0 255&&(decide (c.kp>0)||c.vN==0))
section
variable {h : U} {c : Cell} {t : aX}
theorem Et:ab false 1 (.ptr h.length 0) (h++[.box c.cs t .rw])=I (.int .i64 c.note):=eU rfl
theorem Pn:ab false 1 (.ptr h.length 1) (h++[.box c.cs t .rw])=I (.int .i64 c.inst):=eU rfl
theorem Eu:ab false 1 (.ptr h.length 2) (h++[.box c.cs t .rw])=I (.int .i64 c.oJ):=eU rfl
theorem Po:ab false 1 (.ptr h.length 3) (h++[.box c.cs t .rw])=I (.int .i64 c.lz):=eU rfl
theorem vO:ab false 1 (.ptr h.length 4) (h++[.box c.cs t .rw])=I (.int .i64 c.kp):=eU rfl
theorem Pp:ab false 1 (.ptr h.length 5) (h++[.box c.cs t .rw])=I (.int .i64 c.vN):=eU rfl
theorem qk(l:List J):b' (.agg l)=l:=rfl
end
theorem Pq(c:Cell)(h:U):aJ 148 [.agg c.cs] h=I (.bool (l2 c),h):=by
 refine cg (F:=DN) (by kernel_rfl) 1 ?_
 rw[ab7]
 unfold OS l2
 simp only[na,qk,fC,Et,Pn,Eu,Po,vO,Pp,Es,fM,ia,bY,fB,fh,oI,dw]
theorem Il(c:Cell)(h:U):aJ 190 [.agg c.cs] h=I (.bool (l2 c),h):=by
 refine cg (F:=Ek) (by kernel_rfl) 1 ?_
 rw[acx]
 unfold Pf
 simp only[na,qk,fC,Et,Pn,Eu,Po,vO,Pp,fM,iK,bY,fB,fh,oI,dw]
 congr 3
 unfold l2 b8
 rw[o5]
 simp only[dx,mP,fi,iE]
 omega
theorem so{α:Type}(p:α->Bool)(l:List α):∃k,k<=l.length/\(∀i a,i<k->l[i]?=I a->p a=true)/\(k=l.length/\l.all p=true\/∃a,l[k]?=I a/\p a=false/\l.all p=false):=by
 induction l with
 |nil=>exact⟨0,ca _,λi a h=>by omega,.inl ⟨rfl,rfl⟩⟩
 |cons x l b=>
  cases af:p x with
  |false=>exact⟨0,hQ _,λi a h=>by omega,.inr ⟨x,rfl,af,by simp [af]⟩⟩
  |true=>
   obtain⟨k,h1,h2,ak⟩:=b
   refine⟨k+1,by simp;omega,λi a ag ha=>?_,?_⟩
   ·cases i with
    |zero=>cases ha;exact af
    |succ i=>exact h2 i a (by omega) ha
   ·rcases ak with⟨ak,aH⟩|⟨a,ak,aH,aM⟩
    ·exact .inl ⟨by simp [ak],by simp [af,aH]⟩
    ·exact .inr ⟨a,ak,aH,by simp [aM]⟩
def gN(s:ByteArray):List UInt8:=s.data.toList
theorem yE(s:ByteArray):(gN s).length=s.size:=by unfold gN;rw[Array.length_toList];rfl
theorem qt{s:ByteArray}{i:Nat}{b:UInt8}(h:(gN s)[i]?=I b):mm (.str s) (.int .i64 (i:Int))=I (.int .u8 (b.toNat:Int)):=by
 have e:s.data[i]?=I b:=by unfold gN at h;rwa [Array.getElem?_toList]at h
 simp only[mm,lI,e]
 rw[aQ (by omega)]
 rfl
theorem cQ{α:Type}{l:List α}{i:Nat}(h:i<l.length):∃a,l[i]?=I a:=⟨_,List.getElem?_eq_getElem h⟩
def oK(b:UInt8):Bool:=b8 (b.toNat:Int) 32 126
def kN(s:ByteArray):Bool:=(gN s).all oK&&decide (s.size<=22)
theorem Pr(b:UInt8):ml .i64 (.int .u8 (b.toNat:Int))=I (.int .i64 (b.toNat:Int)):=by
 have:=b.toNat_lt
 rw[Hu,wrap64 (by unfold dr;omega)]
theorem acG{s:ByteArray}(az:s.size<9223372036854775808)(h:U):aJ 114 [.str s] h=I (.bool (kN s),h):=by
 have j:=yE s
 refine cg (F:=C2) (by kernel_rfl) (s.size+1) ?_
 rw[abB]
 unfold Oi kN
 simp only[nW,bY,↓aF]
 obtain⟨k,h1,h2,ak⟩:=so oK (gN s)
 refine nV (λi=>[.int .i64 (i:Int)]) k (by omega) rfl (λi ag K=>?_) λK=>?_
 ·obtain⟨b,ae⟩:=cQ (show i<(gN s).length by omega)
  have c:((i:Int)<(s.size:Int))=True:=jU (by omega)
  have e:b8 (b.toNat:Int) 32 126=true:=h2 i b ag ae
  unfold C3
  simp only[eA,ec,c,cm,bY,↓aF,eB,aZ,qt ae,Pr,qs,e,lX,e3,bg,bd,km,cI (show i<9223372036854775807 by omega),jd]
 ·rcases ak with⟨rfl,aH⟩|⟨b,ak,aH,aM⟩
  ·have c:(((gN s).length:Int)<(s.size:Int))=False:=dK (by omega)
   have e_:decide ((s.size:Int)<=22)=decide (s.size<=22):=by rw[decide_eq_decide];omega
   unfold C3
   simp only[eA,ec,c,cW,bY,↓aF,eB,bg,bd,iK,aH,hn,e_,dR]
  ·have ad:k<(gN s).length:=by
    obtain⟨g,_⟩:=List.getElem?_eq_some_iff.1 ak
    exact g
   have c:((k:Int)<(s.size:Int))=True:=jU (by omega)
   have e:b8 (b.toNat:Int) 32 126=false:=aH
   unfold C3
   simp only[eA,ec,c,cm,bY,↓aF,eB,aZ,qt ak,Pr,qs,e,lX,gp,aM,iU,dR]
def qu(d:Int):Int:=if d=2 then 1 else if d=3 then 8 else if d=4 then 10 else 0
theorem acH(d:Int)(h:U):aJ 192 [.int .i64 d] h=I (.int .i64 (qu d),h):=by
 refine cg (F:=Em) (by kernel_rfl) 1 ?_
 rw[acz]
 unfold Ph qu
 simp only[fM,bY,↓aF,eB,iE,oF]
 split<;>first|rfl|(split<;>first|rfl|(split<;>rfl))
def k6:Int->List UInt8:=λd=>
 if d=1 then [48,49,50,51,52,53,54,55,56,57,65,66,67,68,69,70]
 else if d=2 then [65,66,67,68,69,70,71,72,73,74,75,76,79,81,82,83,84,85,86,88]
 else if d=3 then [48,49,50,51,52,53,54,55,56,57,65,66,67,68,69,70,71,72,75,76,80,82,84,88]
 else if d=4 then [65,66,67,68,69,70,71,72,73,74,75,76,77,78,79,80,81,82,83,84,85,86,87,88,89,90]
 else if d=5 then [48,49,50,51,52,53]
 else if d=6 then [48,49,50,51,52,65,66,67,68,69,70,78,83]
 else []
def strOf(l:List UInt8):J:=.str ⟨l.toArray⟩
theorem sq{h:U}{s:ByteArray}:aL [.ah] h h [.str s]=I (.str s,h):=by
 have:=ye (h:=h) (l:=[]) (v:=.str s) λ_=>by simp [bI]
 rwa [List.append_nil]at this
theorem acI(d:Int)(h:U):aJ 194 [.int .i64 d] h=I (strOf (k6 d),h):=by
 refine cg (F:=Ep) (by kernel_rfl) 1 ?_
 rw[acB]
 unfold Pk k6 strOf
 simp only[fM,bY,↓aF,eB,iE,sq]
 repeat' split
 all_goals rfl
theorem Ps{Γ:aR}{T:iz}{f:dN}(aC:cC f dP=false)(b:T.get f=none)(args:List J)(h:U):∀n,iA Γ T n f args h=Γ f args h
 |0=>by unfold iA;rw[aC,b];rfl
 |n+1=>by unfold iA;rw[aC,b];rfl
theorem acJ{Γ:aR}{T:iz}{f:dN}(aC:cC f dP=false)(b:T.get f=none){args:List J}{h:U}{r:J×U}(an:Γ f args h=I r):m8 Γ T f args h=I r:=by
 unfold m8
 have H:∃n,(iA Γ T n f args h).isSome=true:=⟨0,by rw[Ps aC b,an];rfl⟩
 rw[dif_pos H,Ps aC b,an]
theorem acK(s:ByteArray)(c:Int)(h:U):aJ 171 [.str s,.int .u8 c] h=I (.int .i64 (qY (gN s) c.toNat.toUInt8),h):=acJ rfl (by kernel_rfl) rfl
theorem acL(s:ByteArray)(c:Int)(h:U):aJ 152 [.str s,.int .u8 c] h=I (.int .i64 (qY (gN s) c.toNat.toUInt8),h):=by
 refine cg (F:=DS) (by kernel_rfl) 1 ?_
 rw[ab']
 unfold OW
 simp only[acK,bY,oF]
theorem Pt:∀(l:List UInt8) (c:UInt8),decide (qY l c>=0)=l.contains c/\(qY l c=-1\/0<=qY l c)
 |[],c=>⟨rfl,.inl rfl⟩
 |b::l,c=>by
  obtain⟨h1,h2⟩:=Pt l c
  unfold qY
  by_cases ae:(b==c)=true
  ·rw[aQ ae]
   refine⟨?_,.inr (by decide)⟩
   have:c=b:=by rw[iE]at ae;exact ae.symm
   simp [this]
  ·rw[a1 ae]
   have g:(c==b)=false:=by
    rw[kc]
    intro e
    exact ae (by rw[e];simp)
   rw[List.contains_cons,g,rN,←h1]
   rcases h2 with h2|h2
   ·rw[h2];exact⟨rfl,.inl rfl⟩
   ·have:¬((qY l c==-1)=true):=by rw[iE];omega
    rw[a1 this]
    refine⟨?_,.inr (by omega)⟩
    rw[decide_eq_decide];omega
def tB(e:Int):Nat:=if e<=10 then(47+e).toNat else(54+e).toNat
theorem acM{e:Int}(he:1<=e/\e<=36)(h:U):aJ 195 [.int .i64 e] h=I (.int .u8 (tB e:Int),h):=by
 refine cg (F:=Er) (by kernel_rfl) 1 ?_
 rw[acC]
 unfold Pl tB
 have bu:IntKind.i64.wrap (e-1)=e-1:=wrap64 (by unfold dr;omega)
 have cP:IntKind.i64.wrap (e-11)=e-11:=wrap64 (by unfold dr;omega)
 simp only[iK,ts,km,bu,cP,Hu,Xg,bY,↓aF,eB,fi,oF]
 split
 ·congr 3
  omega
 ·congr 3
  omega
theorem acN{e:Int}(he:1<=e/\e<=36)(h:U):aJ 154 [.int .i64 e] h=I (.int .u8 (tB e:Int),h):=by
 refine cg (F:=DU) (by kernel_rfl) 1 ?_
 rw[acb]
 unfold OY
 obtain⟨k,rfl,ad⟩:∃k:Nat,e=((k+1:Nat):Int)/\k<36:=⟨(e-1).toNat,by omega,by omega⟩
 have bu:IntKind.i64.wrap (((k+1:Nat):Int)-1)=(k:Int):=by rw[wrap64 (by unfold dr;omega)];omega
 have b:∀k:Nat,k<36->mm (.str ⟨#[48,49,50,51,52,53,54,55,56,57,65,66,67,68,69,70,71,72,73,74,75,76,77,78,79,80,81,82,83,84,85,86,87,88,89,90]⟩) (.int .i64 (k:Int))=I (.int .u8 (tB ((k+1:Nat):Int):Int)):=by
  intro k ad
  have:k=0\/k=1\/k=2\/k=3\/k=4\/k=5\/k=6\/k=7\/k=8\/k=9\/k=10\/k=11\/k=12\/k=13\/k=14\/k=15\/k=16\/k=17\/k=18\/k=19\/k=20\/k=21\/k=22\/k=23\/k=24\/k=25\/k=26\/k=27\/k=28\/k=29\/k=30\/k=31\/k=32\/k=33\/k=34\/k=35:=by omega
  rcases this with rfl|rfl|rfl|rfl|rfl|rfl|rfl|rfl|rfl|rfl|rfl|rfl|rfl|rfl|rfl|rfl|rfl|rfl|rfl|rfl|rfl|rfl|rfl|rfl|rfl|rfl|rfl|rfl|rfl|rfl|rfl|rfl|rfl|rfl|rfl|rfl<;>rfl
 simp only[ts,bu,bY,b k ad,oF]
theorem acO{s:ByteArray}(az:s.size<9223372036854775808)(c:Nat)(aa:c<256)(h:U):aJ 193 [.str s,.int .u8 (c:Int)] h=I (.bool ((gN s).contains c.toUInt8),h):=by
 have n:=yE s
 refine cg (F:=En) (by kernel_rfl) (s.size+1) ?_
 rw[acA]
 unfold Pj
 simp only[↓aF]
 have heq:∀b:UInt8,(((b.toNat:Nat):Int)==(c:Int))=(b==c.toUInt8):=λb=>by
  rw[o5,iE,iE]
  constructor
  ·intro e
   have aE:b.toNat=c:=by omega
   rw[←aE]
   simp
  ·intro e
   rw[e]
   have:c.toUInt8.toNat=c:=by simp [Nat.mod_eq_of_lt aa]
   omega
 obtain⟨k,h1,h2,ak⟩:=so (λb=>!(b==c.toUInt8)) (gN s)
 have l:(gN s).contains c.toUInt8=!(gN s).all (λb=>!(b==c.toUInt8)):=by
  rw[List.not_all_eq_any_not]
  simp only[Bool.not_not]
  rw[List.contains_eq_any_beq]
  congr 1
  funext b
  rw[o5,iE,iE]
  exact⟨λe=>e.symm,λe=>e.symm⟩
 refine nV (λi=>[.int .i64 (i:Int)]) k (by omega) rfl (λi ag K=>?_) λK=>?_
 ·obtain⟨b,ae⟩:=cQ (show i<(gN s).length by omega)
  have g:((i:Int)<(s.size:Int))=True:=jU (by omega)
  have j:(b==c.toUInt8)=false:=by have:=h2 i b ag ae;simpa using this
  unfold Eo
  simp only[eA,nW,ec,g,cm,bY,↓aF,eB,aZ,qt ae,fM,heq,j,bg,bd,km,cI (show i<9223372036854775807 by omega),jd]
 ·rcases ak with⟨rfl,aH⟩|⟨b,ak,aH,aM⟩
  ·have g:(((gN s).length:Int)<(s.size:Int))=False:=dK (by omega)
   unfold Eo
   simp only[eA,nW,ec,g,cW,bY,↓aF,eB,bg,bd,l,aH,e3,dR]
  ·have ad:k<(gN s).length:=by
    obtain⟨m,_⟩:=List.getElem?_eq_some_iff.1 ak
    exact m
   have g:((k:Int)<(s.size:Int))=True:=jU (by omega)
   have j:(b==c.toUInt8)=true:=by simpa using aH
   unfold Eo
   simp only[eA,nW,ec,g,cm,bY,↓aF,eB,aZ,qt ak,fM,heq,j,l,aM,gp,dR]
theorem Im{d:Int}(h:b8 d 1 6=true):d=1\/d=2\/d=3\/d=4\/d=5\/d=6:=by
 unfold b8 at h
 simp only[dx,fi]at h
 omega
theorem acP(d:Int)(h:U):aJ 153 [.int .i64 d] h=I (strOf (k6 d),h):=by
 refine cg (F:=DT) (by kernel_rfl) 1 ?_
 rw[aca]
 unfold OX
 simp only[Ik,bY,lX,↓aF,eB]
 cases hd:b8 d 1 6 with
 |false=>
  have e:k6 d=[]:=by
   unfold b8 at hd
   simp only[p1,h7]at hd
   unfold k6
   rw[a1 (by omega),a1 (by omega),a1 (by omega),a1 (by omega),a1 (by omega),a1 (by omega)]
  rw[e]
  simp only[gp,aZ]
  exact eK (show _=aL [.ah] h h [strOf []]from rfl) sq
 |true=>
  simp only[e3,bg,bd]
  rcases Im hd with rfl|rfl|rfl|rfl|rfl|rfl
  ·exact eK (show _=aL [.ah] h h [strOf (k6 1)]from rfl) sq
  ·exact eK (show _=aL [.ah] h h [strOf (k6 2)]from rfl) sq
  ·exact eK (show _=aL [.ah] h h [strOf (k6 3)]from rfl) sq
  ·exact eK (show _=aL [.ah] h h [strOf (k6 4)]from rfl) sq
  ·exact eK (show _=aL [.ah] h h [strOf (k6 5)]from rfl) sq
  ·exact eK (show _=aL [.ah] h h [strOf (k6 6)]from rfl) sq
theorem acQ(d:Int)(h:U):aJ 151 [.int .i64 d] h=I (.int .i64 (qu d),h):=by
 refine cg (F:=DR) (by kernel_rfl) 1 ?_
 rw[ab_]
 unfold OV
 have bt:qa .int (.int .i64 2) (.int .i64 1) []=I [(.int .i64 2,.int .i64 1)]:=rfl
 have bG:qa .int (.int .i64 3) (.int .i64 8) [(.int .i64 2,.int .i64 1)]=I [(.int .i64 2,.int .i64 1),(.int .i64 3,.int .i64 8)]:=rfl
 have cZ:qa .int (.int .i64 4) (.int .i64 10) [(.int .i64 2,.int .i64 1),(.int .i64 3,.int .i64 8)]=I [(.int .i64 2,.int .i64 1),(.int .i64 3,.int .i64 8),(.int .i64 4,.int .i64 10)]:=rfl
 have fS:∀(c5 b:List (J×J)) (i v:J),qa .int i v c5=I b->pn .int (.map h.length) i v (h++[.map c5 .rw])=I (h++[.map b .rw]):=λc5 b i v e=>by
  simp only[pn,eQ,jP,e,dm,pt,List.set_cons_zero]
 have pj:re .int (.int .i64 0) false (.map h.length) (.int .i64 d) (h++[.map [(.int .i64 2,.int .i64 1),(.int .i64 3,.int .i64 8),(.int .i64 4,.int .i64 10)] .rw])=I (.int .i64 (qu d)):=by
  unfold re vj qu
  simp only[eQ,jP,dy,tp,tn,aZ]
  by_cases h2:d=2
  ·subst h2;rfl
  ·have aE:(d==2)=false:=by simp [h2]
   by_cases ak:d=3
   ·subst ak;rfl
   ·have c:(d==3)=false:=by simp [ak]
    by_cases aH:d=4
    ·subst aH;rfl
    ·have g:(d==4)=false:=by simp [aH]
     simp [aE,c,g,h2,ak,aH]
 simp only[na,fS _ _ _ _ bt,fS _ _ _ _ bG,fS _ _ _ _ cZ,bY,pj,px]
end Go.aN.X
namespace Go.aN.X
open Go.bB Go.aN
def sr:List J:=[.str ⟨#[]⟩,.int .i64 0,.int .i64 0,.int .i64 0,.int .i64 0,.int .i64 0,.bool false,.bool false,.bool false,.int .i64 0,.int .i64 0,.int .i64 0,.bool false,.bool false,.bool false,.bool false,.int .i64 0,.bool false,.int .i64 0,.bool false,.bool false,.int .i64 0,.bool false,.bool false,.bool false,.bool false,.bool false,.bool false,.bool false]
def Io:List J:=[.str ⟨#[102,111,117,114]⟩,.int .i64 4,.int .i64 32,.int .i64 64,.int .i64 49,.int .i64 84,.bool false,.bool false,.bool false,.int .i64 1,.int .i64 453,.int .i64 3424,.bool false,.bool false,.bool false,.bool false,.int .i64 5,.bool true,.int .i64 1,.bool true,.bool false,.int .i64 1,.bool true,.bool false,.bool false,.bool true,.bool false,.bool false,.bool false]
def Ip:List J:=[.str ⟨#[115,99,114,101,97,109]⟩,.int .i64 16,.int .i64 32,.int .i64 64,.int .i64 13,.int .i64 108,.bool false,.bool true,.bool false,.int .i64 1,.int .i64 64,.int .i64 32767,.bool false,.bool false,.bool false,.bool false,.int .i64 5,.bool false,.int .i64 0,.bool false,.bool false,.int .i64 0,.bool false,.bool false,.bool false,.bool false,.bool false,.bool false,.bool false]
def Iq:List J:=[.str ⟨#[102,97,115,116]⟩,.int .i64 16,.int .i64 32,.int .i64 0,.int .i64 1,.int .i64 96,.bool true,.bool true,.bool true,.int .i64 0,.int .i64 32,.int .i64 65535,.bool true,.bool false,.bool false,.bool false,.int .i64 6,.bool true,.int .i64 0,.bool true,.bool true,.int .i64 1,.bool false,.bool true,.bool true,.bool true,.bool true,.bool true,.bool false]
def Ir:List J:=[.str ⟨#[105,109,112,117,108,115,101]⟩,.int .i64 16,.int .i64 32,.int .i64 0,.int .i64 1,.int .i64 120,.bool true,.bool true,.bool true,.int .i64 0,.int .i64 16,.int .i64 65535,.bool false,.bool false,.bool false,.bool true,.int .i64 6,.bool false,.int .i64 0,.bool true,.bool false,.int .i64 2,.bool false,.bool true,.bool false,.bool false,.bool false,.bool true,.bool false]
def Is:List J:=[.str ⟨#[99,111,109,112,111,115,101]⟩,.int .i64 8,.int .i64 32,.int .i64 64,.int .i64 13,.int .i64 72,.bool false,.bool false,.bool false,.int .i64 2,.int .i64 0,.int .i64 0,.bool false,.bool true,.bool false,.bool false,.int .i64 5,.bool false,.int .i64 2,.bool false,.bool false,.int .i64 0,.bool false,.bool false,.bool false,.bool false,.bool false,.bool false,.bool true]
def It:List J:=[.str ⟨#[99,104,105,112]⟩,.int .i64 4,.int .i64 32,.int .i64 0,.int .i64 13,.int .i64 108,.bool true,.bool false,.bool false,.int .i64 1,.int .i64 16,.int .i64 65535,.bool false,.bool false,.bool true,.bool false,.int .i64 5,.bool true,.int .i64 2,.bool false,.bool false,.int .i64 0,.bool false,.bool true,.bool false,.bool false,.bool false,.bool true,.bool false]
end Go.aN.X
namespace Go.aN.X
open Go.bB Go.aN
attribute [local congr] nf ng nh ni
def Ev:J->Bool
 |.int _ _=>true
 |.bool _=>true
 |.str _=>true
 |_=>false
theorem acR{n:Nat}:∀{v:J},Ev v=true->bI n v
 |.int _ _,_=>yg _ _ _
 |.bool _,_=>Xe _ _
 |.str _,_=>Xf _ _
theorem Pu{l:List J}(h:l.all Ev=true)(n:Nat):bI n (.agg l):=by
 simp only[bI]
 exact λx af=>acR (List.all_eq_true.1 h x af)
def vP:List J:=sr++Io++Ip++Iq++Ir++Is++It
def c_(d:Int):List J:=if d=1 then Io else if d=2 then Ip else if d=3 then Iq else if d=4 then Ir else if d=5 then Is else if d=6 then It else sr
theorem Pv{d:Int}(h:b8 d 1 6=false):c_ d=sr:=by
 unfold b8 at h
 simp only[p1,h7]at h
 unfold c_
 rw[a1 (by omega),a1 (by omega),a1 (by omega),a1 (by omega),a1 (by omega),a1 (by omega)]
theorem mo(d:Int):(c_ d).length=29:=by unfold c_;repeat' split
                                       all_goals rfl
theorem ss(d:Int):(c_ d).all dd=true:=by unfold c_;repeat' split
                                         all_goals rfl
theorem acS(d:Int):(c_ d).all Ev=true:=by unfold c_;repeat' split
                                          all_goals rfl
theorem rp{h:U}{n:Nat}{cs vs:List J}{t:aX}(h1:vs.length=n)(h2:cs.length=n)(au:0<n)(aw:cs.all dd=true):a_ n (.ptr h.length 0) (.agg cs) (h++[.box vs t .rw])=I (h++[.box cs t .rw]):=by
 rw[W0 (t:=t) (by rw[eQ];rfl) h1 h2 au aw,pt]
 rfl
theorem vQ{h:U}{n:Nat}{vs:List J}{t:aX}(h1:vs.length=n):ab true n (.ptr h.length 0) (h++[.box vs t .rw])=I (.agg vs):=by
 rw[lv,pv (vs:=vs) (t:=t) (md:=.rw) (by rw[eQ];rfl),dy,fQ h1]
theorem Pw(h:U):aJ 102 [] h=I (.agg vP,h):=by
 refine cg (F:=CW) (by kernel_rfl) 1 ?_
 rw[abw]
 have key:Od aJ 1 h=(a_ 203 (.ptr h.length 0) (.agg vP) (h++[.box A7 131 .rw])).bind λb=>(ab true 203 (.ptr h.length 0) b).bind λv10=>aL [.ah] h b [v10]:=by kernel_rfl
 have av:vP.length=203:=by kernel_rfl
 have bq:A7.length=203:=by kernel_rfl
 have aj:vP.all Ev=true:=by kernel_rfl
 have h1:vP.all dd=true:=by kernel_rfl
 rw[key,rp bq av (by decide) h1,bY,vQ av,bY,ye (Pu aj)]
theorem Iu{h l:U}{d e:Int}:aL [.ah,.ah] h (h++l) [.agg (c_ d),.int .i64 e]=I (.tuple [.agg (c_ d),.int .i64 e],h):=by
 simp only[nb,i_,j1,k3,dy,dm,Hw]
 rw[pw _ (λx af=>by simp only[List.mem_cons,List.not_mem_nil,hR]at af;rcases af with rfl|rfl<;>first|exact yg _ _ _|exact Pu (acS d) _)]
def h3(d:Int):Int:=if b8 d 1 6 then 0 else 6
theorem Px{d:Int}(h:b8 d 1 6=true):q_ 7 true 29 (.agg vP) (.int .i64 d)=I (.agg (c_ d)):=by
 rcases Im h with rfl|rfl|rfl|rfl|rfl|rfl<;>kernel_rfl
theorem tz(d:Int)(h:U):aJ 53 [.int .i64 d] h=I (.tuple [.agg (c_ d),.int .i64 (h3 d)],h):=by
 refine cg (F:=B') (by kernel_rfl) 1 ?_
 rw[Zx]
 unfold Nx h3
 have bq:eR.length=29:=rfl
 simp only[na,Ik,bY,lX,↓aF,eB]
 cases hd:b8 d 1 6 with
 |false=>
  simp only[gp,aZ,bg,bd]
  have e:=Pv hd
  have g:=Iu (h:=h) (l:=[.box (c_ d) 83 .rw]) (d:=d) (e:=6)
  rw[e]at g|-
  have f0:=rp (h:=h) (n:=29) (cs:=sr) (vs:=eR) (t:=83) bq bq (by decide) rfl
  have f1:=vQ (h:=h) (n:=29) (vs:=sr) (t:=83) rfl
  refine eK (show _=(a_ 29 (.ptr h.length 0) (.agg sr) (h++[.box eR 83 .rw])).bind λb=>(ab true 29 (.ptr h.length 0) b).bind λc=>aL [.ah,.ah] h b [c,.int .i64 6]from rfl) ?_
  rw[f0,bY,f1,bY,g]
 |true=>
  simp only[e3,bg,bd,aZ,Pw,bY,Px hd]
  have f0:=rp (h:=h) (n:=29) (cs:=c_ d) (vs:=eR) (t:=83) bq (mo d) (by decide) (ss d)
  have f1:=vQ (h:=h) (n:=29) (vs:=c_ d) (t:=83) (mo d)
  refine eK (show _=(a_ 29 (.ptr h.length 0) (.agg (c_ d)) (h++[.box eR 83 .rw])).bind λb=>(ab true 29 (.ptr h.length 0) b).bind λc=>aL [.ah,.ah] h b [c,.int .i64 0]from rfl) ?_
  rw[f0,bY,f1,bY,Iu]
end Go.aN.X
namespace Go.aN.X
open Go.bB Go.aN
attribute [local congr] nf ng nh ni oH
theorem tC(d e:Int)(h:U)(t:aX):((a_ 29 (.ptr h.length 0) (.agg (c_ d)) (h++[.box eR t .rw])).bind λb=>(ab true 29 (.ptr h.length 0) b).bind λc=>aL [.ah,.ah] h b [c,.int .i64 e])=I (.tuple [.agg (c_ d),.int .i64 e],h):=by
 have bq:eR.length=29:=rfl
 rw[rp bq (mo d) (by decide) (ss d),bY,vQ (mo d),bY,Iu]
theorem yF(d:Int)(h:U):aJ 56 [.int .i64 d] h=I (.tuple [.agg (c_ d),.int .i64 (h3 d)],h):=by
 refine cg (F:=Cc) (by kernel_rfl) 1 ?_
 rw[ZA]
 cases hd:b8 d 1 6 with
 |true=>
  rcases Im hd with rfl|rfl|rfl|rfl|rfl|rfl
  ·exact eK (show _=(a_ 29 (.ptr h.length 0) (.agg (c_ 1)) (h++[.box eR 83 .rw])).bind λb=>(ab true 29 (.ptr h.length 0) b).bind λc=>aL [.ah,.ah] h b [c,.int .i64 (h3 1)]by kernel_rfl) (tC 1 (h3 1) h 83)
  ·exact eK (show _=(a_ 29 (.ptr h.length 0) (.agg (c_ 2)) (h++[.box eR 83 .rw])).bind λb=>(ab true 29 (.ptr h.length 0) b).bind λc=>aL [.ah,.ah] h b [c,.int .i64 (h3 2)]by kernel_rfl) (tC 2 (h3 2) h 83)
  ·exact eK (show _=(a_ 29 (.ptr h.length 0) (.agg (c_ 3)) (h++[.box eR 83 .rw])).bind λb=>(ab true 29 (.ptr h.length 0) b).bind λc=>aL [.ah,.ah] h b [c,.int .i64 (h3 3)]by kernel_rfl) (tC 3 (h3 3) h 83)
  ·exact eK (show _=(a_ 29 (.ptr h.length 0) (.agg (c_ 4)) (h++[.box eR 83 .rw])).bind λb=>(ab true 29 (.ptr h.length 0) b).bind λc=>aL [.ah,.ah] h b [c,.int .i64 (h3 4)]by kernel_rfl) (tC 4 (h3 4) h 83)
  ·exact eK (show _=(a_ 29 (.ptr h.length 0) (.agg (c_ 5)) (h++[.box eR 83 .rw])).bind λb=>(ab true 29 (.ptr h.length 0) b).bind λc=>aL [.ah,.ah] h b [c,.int .i64 (h3 5)]by kernel_rfl) (tC 5 (h3 5) h 83)
  ·exact eK (show _=(a_ 29 (.ptr h.length 0) (.agg (c_ 6)) (h++[.box eR 83 .rw])).bind λb=>(ab true 29 (.ptr h.length 0) b).bind λc=>aL [.ah,.ah] h b [c,.int .i64 (h3 6)]by kernel_rfl) (tC 6 (h3 6) h 83)
 |false=>
  have e:=hd
  unfold b8 at e
  simp only[p1,h7]at e
  have aD:(d==1)=false:=by rw[kc];omega
  have aE:(d==2)=false:=by rw[kc];omega
  have g:(d==3)=false:=by rw[kc];omega
  have i:(d==4)=false:=by rw[kc];omega
  have j:(d==5)=false:=by rw[kc];omega
  have k:(d==6)=false:=by rw[kc];omega
  have ad:h3 d=6:=by unfold h3;rw[hd];rfl
  have bs:=tC d 6 h 83
  rw[Pv hd]at bs|-
  rw[ad]
  unfold NA
  simp only[na,fM,bY,↓aF,eB,aD,aE,g,i,j,k,bg,bd]
  exact eK (show _=(a_ 29 (.ptr h.length 0) (.agg sr) (h++[.box eR 83 .rw])).bind λb=>(ab true 29 (.ptr h.length 0) b).bind λc=>aL [.ah,.ah] h b [c,.int .i64 6]from rfl) bs
def yG(d:Int):Int:=if d=1 then 49 else if d=2 then 13 else if d=3 then 1 else if d=4 then 1 else if d=5 then 13 else if d=6 then 13 else 0
def yH(d:Int):Int:=if d=1 then 84 else if d=2 then 108 else if d=3 then 96 else if d=4 then 120 else if d=5 then 72 else if d=6 then 108 else 0
theorem Py(d:Int):(c_ d)[4]?=I (.int .i64 (yG d)):=by
 unfold c_ yG
 repeat' split
 all_goals rfl
theorem Pz(d:Int):(c_ d)[5]?=I (.int .i64 (yH d)):=by
 unfold c_ yH
 repeat' split
 all_goals rfl
def tD(d x:Int):Bool:=if x=0 then true else if x=255 then d==3||d==4||d==6 else if x=254 then d==2||d==4 else if x=253 then d==4 else b8 x (yG d) (yH d)
theorem acT{d:Int}(hd:b8 d 1 6=true)(x:Int)(h:U):aJ 150 [.int .i64 d,.int .i64 x] h=I (.bool (tD d x),h):=by
 refine cg (F:=DQ) (by kernel_rfl) 1 ?_
 rw[ab9]
 unfold OU tD b8
 have bq:eR.length=29:=rfl
 have f0:=rp (h:=h) (n:=29) (cs:=c_ d) (vs:=eR) (t:=83) bq (mo d) (by decide) (ss d)
 have b:ab false 1 (.ptr h.length 4) (h++[.box (c_ d) 83 .rw])=I (.int .i64 (yG d)):=eU (Py d)
 have c:ab false 1 (.ptr h.length 5) (h++[.box (c_ d) 83 .rw])=I (.int .i64 (yH d)):=eU (Pz d)
 simp only[Pw,Px hd,na,f0,bY,↓aF,fM,eB,iE,dw]
 by_cases au:x=0
 ·simp only[au,aZ]
 ·by_cases h1:x=255
  ·simp only[au,h1,aZ,bd,fB,oI,bY,fM,dw,show((255:Int)=0)=False from dK (by decide)]
  ·by_cases h2:x=254
   ·simp only[au,h1,h2,aZ,bd,fB,oI,bY,fM,dw,↓aF,eB,iE,show((254:Int)=0)=False from dK (by decide),show((254:Int)=255)=False from dK (by decide)]
   ·by_cases ak:x=253
    ·simp only[au,h1,h2,ak,aZ,bd,fB,oI,bY,fM,dw,↓aF,eB,iE,show((253:Int)=0)=False from dK (by decide),show((253:Int)=255)=False from dK (by decide),show((253:Int)=254)=False from dK (by decide)]
    ·simp only[au,h1,h2,ak,aZ,bd,fh,oI,bY,fM,nU,iK,dw,↓aF,eB,iE,fC,b,c,ge_iff_le]
theorem H5(d x:Int)(h:U):aJ 191 [.int .i64 d,.int .i64 x] h=I (.bool (tD d x),h):=by
 refine cg (F:=El) (by kernel_rfl) 1 ?_
 rw[acy]
 unfold Pg tD b8
 have bq:eR.length=29:=rfl
 have f0:=rp (h:=h) (n:=29) (cs:=c_ d) (vs:=eR) (t:=83) bq (mo d) (by decide) (ss d)
 have b:ab false 1 (.ptr h.length 4) (h++[.box (c_ d) 83 .rw])=I (.int .i64 (yG d)):=eU (Py d)
 have c:ab false 1 (.ptr h.length 5) (h++[.box (c_ d) 83 .rw])=I (.int .i64 (yH d)):=eU (Pz d)
 simp only[yF,lZ,l0,na,f0,bY,↓aF,fM,eB,iE,dw]
 by_cases au:x=0
 ·simp only[au,aZ]
 ·by_cases h1:x=255
  ·simp only[au,h1,aZ,bd,fB,oI,bY,fM,dw,show((255:Int)=0)=False from dK (by decide)]
  ·by_cases h2:x=254
   ·simp only[au,h1,h2,aZ,bd,fB,oI,bY,fM,dw,↓aF,eB,iE,show((254:Int)=0)=False from dK (by decide),show((254:Int)=255)=False from dK (by decide)]
   ·by_cases ak:x=253
    ·simp only[au,h1,h2,ak,aZ,bd,fB,oI,bY,fM,dw,↓aF,eB,iE,show((253:Int)=0)=False from dK (by decide),show((253:Int)=255)=False from dK (by decide),show((253:Int)=254)=False from dK (by decide)]
    ·simp only[au,h1,h2,ak,aZ,bd,fh,oI,bY,fM,nU,iK,dw,↓aF,eB,iE,fC,b,c,ge_iff_le]
end Go.aN.X
namespace Go.aN.X
open Go.bB Go.aN
attribute [local congr] nf ng nh ni oH Xp
def rq(d:Int)(c:Cell):Bool:=b8 d 1 6&&(l2 c&&(tD d c.note&&(decide (c.oJ<=qu d)&&(c.kp==0||(k6 d).contains (tB c.kp).toUInt8))))
theorem PA(l:List UInt8):gN ⟨l.toArray⟩=l:=by simp [gN]
theorem acU(l:List UInt8)(c:Int)(h:U):aJ 152 [strOf l,.int .u8 c] h=I (.int .i64 (qY l c.toNat.toUInt8),h):=by
 have:=acL ⟨l.toArray⟩ c h
 rwa [PA]at this
theorem PB{c:Cell}(h:l2 c=true):0<=c.kp/\c.kp<=36:=by
 unfold l2 b8 at h
 simp only[dx,fi]at h
 exact h.2.1.1
theorem HU(d:Int)(c:Cell)(h:U):aJ 118 [.int .i64 d,.agg c.cs] h=I (.bool (rq d c),h):=by
 refine cg (F:=C7) (by kernel_rfl) 1 ?_
 rw[abF]
 unfold On rq
 have ae:ab true 6 (.ptr h.length 0) (h++[.box c.cs 41 .rw])=I (.agg c.cs):=vQ rfl
 simp only[na,qk,Ik,bY,lX,↓lY,↓aF,pr]
 cases hd:b8 d 1 6 with
 |false=>simp only[gp,w7,bd,eB,aZ,iU,dw]
 |true=>
  simp only[e3,aZ,ae,Pq,bY,lX,hn]
  cases aa:l2 c with
  |false=>simp only[gp,w7,bd,eB,aZ,iU,dw,pr,↓lY,↓aF]
  |true=>
   have b:=PB aa
   simp only[e3,aZ,fC,Et,Eu,vO,acT hd,bY,lX,pr,↓lY,↓aF,hn]
   cases aA:tD d c.note with
   |false=>simp only[gp,w7,bd,eB,aZ,iU,dw,pr,↓lY,↓aF]
   |true=>
    simp only[e3,aZ,fC,Et,Eu,vO,acQ,bY,lX,pr,↓lY,↓aF,qj,ia,hn,eB,fi]
    by_cases aw:c.oJ>qu d
    ·have:decide (c.oJ<=qu d)=false:=decide_eq_false (by omega)
     simp only[aw,aZ,this,iU,dw]
    ·have g:decide (c.oJ<=qu d)=true:=uz (by omega)
     simp only[aw,bd,g,hn,fC,vO,bY,fM,↓lY,↓aF,eB]
     by_cases he:c.kp=0
     ·have:(c.kp==0)=true:=by rw[iE];exact he
      simp only[this,aZ,nB,dw]
     ·have i:(c.kp==0)=false:=by rw[kc];exact he
      have j:=λH=>acN (e:=c.kp) ⟨by omega,b.2⟩ H
      simp only[i,bg,bd,rN,acP,bY,qj,fC,vO,j,acU,nU,lI,(Pt _ _).1,dw]
theorem acV(d:Int):(⟨(k6 d).toArray⟩:ByteArray).size<=26:=by
 show(k6 d).toArray.size<=26
 rw[List.size_toArray]
 unfold k6
 repeat' split
 all_goals decide
theorem Ew{h l:U}{vs:List J}{t:aX}{k:Nat}{v:J}(aw:vs[k]?=I v):ab false 1 (.ptr h.length k) ((h++[.box vs t .rw])++l)=I v:=by
 rw[eo,lv,pv (vs:=vs) (t:=t) (md:=.rw) (by rw[eQ];rfl),dy,Hv,aw]
theorem acW{h l:U}{n:Nat}{vs:List J}{t:aX}(h1:vs.length=n):ab true n (.ptr h.length 0) ((h++[.box vs t .rw])++l)=I (.agg vs):=by
 rw[eo,lv,pv (vs:=vs) (t:=t) (md:=.rw) (by rw[eQ];rfl),dy,fQ h1]
theorem pD{h l m:U}{b:Bool}:aL [.ah] h ((h++l)++m) [.bool b]=I (.bool b,h):=by rw[eo];exact dw
theorem acX(d:Int)(c:Nat)(aa:c<256)(h:U):aJ 193 [strOf (k6 d),.int .u8 (c:Int)] h=I (.bool ((k6 d).contains c.toUInt8),h):=by
 have:=acO (s:=⟨(k6 d).toArray⟩) (by have:=acV d;omega) c aa h
 rwa [PA]at this
theorem acY{e:Int}(h:1<=e/\e<=36):tB e<256:=by unfold tB;split<;>omega
theorem PC(d:Int)(c:Cell)(h:U):aJ 174 [.int .i64 d,.agg c.cs] h=I (.bool (rq d c),h):=by
 refine cg (F:=Eg) (by kernel_rfl) 1 ?_
 rw[acs]
 unfold Pb rq
 have bq:eR.length=29:=rfl
 have f0:=rp (h:=h++[.box c.cs 41 .rw]) (n:=29) (cs:=c_ d) (vs:=eR) (t:=83) bq (mo d) (by decide) (ss d)
 have g:ab false 1 (.ptr h.length 0) ((h++[.box c.cs 41 .rw])++[.box (c_ d) 83 .rw])=I (.int .i64 c.note):=Ew rfl
 have cD:ab false 1 (.ptr h.length 2) ((h++[.box c.cs 41 .rw])++[.box (c_ d) 83 .rw])=I (.int .i64 c.oJ):=Ew rfl
 have fe:ab false 1 (.ptr h.length 4) ((h++[.box c.cs 41 .rw])++[.box (c_ d) 83 .rw])=I (.int .i64 c.kp):=Ew rfl
 have i:ab true 6 (.ptr h.length 0) ((h++[.box c.cs 41 .rw])++[.box (c_ d) 83 .rw])=I (.agg c.cs):=acW rfl
 simp only[na,qk,yF,lZ,l0,f0,bY,gG,↓lY,↓aF,pr]
 unfold h3
 cases hd:b8 d 1 6 with
 |false=>
  have:((if false=true then(0:Int)else 6) !=0)=true:=rfl
  simp only[this,w7,bd,eB,aZ,iU,pD]
 |true=>
  have z0:((0:Int) !=0)=false:=rfl
  simp only[aZ,z0,i,Il,bY,lX,hn]
  cases aa:l2 c with
  |false=>simp only[gp,eB,aZ,iU,pD]
  |true=>
   have b:=PB aa
   simp only[e3,bg,bd,eB,fC,g,H5,bY,↓lY,↓aF,sb,hn]
   cases aA:tD d c.note with
   |false=>simp only[bg,bd,iU,pD]
   |true=>
    simp only[aZ,fC,cD,acH,bY,qj,iK,sb,hn]
    cases aw:decide (c.oJ<=qu d)with
    |false=>simp only[bg,bd,iU,pD]
    |true=>
     simp only[aZ,fC,fe,bY,fM,↓lY,pr,hn]
     by_cases he:c.kp=0
     ·have:(c.kp==0)=true:=by rw[iE];exact he
      simp only[this,w7,bd,nB,pD]
     ·have j:(c.kp==0)=false:=by rw[kc];exact he
      have k:=λH=>acM (e:=c.kp) ⟨by omega,b.2⟩ H
      have l:=acY (e:=c.kp) ⟨by omega,b.2⟩
      simp only[j,aZ,rN,acI,bY,qj,fC,fe,k,acX d _ l,pD]
end Go.aN.X
namespace Go.aN.X
open Go.bB Go.aN
attribute [local congr] nf ng nh ni oH
theorem vR(b:UInt8):(decide ((b.toNat:Int)<32)||decide ((b.toNat:Int)>126))=!oK b:=by
 unfold oK b8
 rw[o5]
 simp only[mP,fi,nA,p1,h7]
 omega
theorem acZ{s:ByteArray}(az:s.size<9223372036854775808)(h:U):aJ 157 [.str s] h=I (.bool (kN s),h):=by
 have j:=yE s
 refine cg (F:=DX) (by kernel_rfl) (s.size+1) ?_
 rw[acf]
 unfold O0 kN
 simp only[nW,bY,↓aF]
 obtain⟨k,h1,h2,ak⟩:=so oK (gN s)
 refine nV (λi=>[.int .i64 (i:Int)]) k (by omega) rfl (λi ag K=>?_) λK=>?_
 ·obtain⟨b,ae⟩:=cQ (show i<(gN s).length by omega)
  have c:((i:Int)<(s.size:Int))=True:=jU (by omega)
  have e:oK b=true:=h2 i b ag ae
  unfold DY
  simp only[eA,xY,xZ,An,ec,ia,c,cm,bY,↓aF,eB,aZ,qt ae,fB,vR,e,e3,bg,bd,km,cI (show i<9223372036854775807 by omega),jd]
 ·rcases ak with⟨rfl,aH⟩|⟨b,ak,aH,aM⟩
  ·have c:(((gN s).length:Int)<(s.size:Int))=False:=dK (by omega)
   have e_:decide ((s.size:Int)<=22)=decide (s.size<=22):=by rw[decide_eq_decide];omega
   unfold DY
   simp only[eA,ec,c,cW,bY,↓aF,eB,bg,bd,iK,aH,hn,e_,dR]
  ·have ad:k<(gN s).length:=by
    obtain⟨g,_⟩:=List.getElem?_eq_some_iff.1 ak
    exact g
   have c:((k:Int)<(s.size:Int))=True:=jU (by omega)
   unfold DY
   simp only[eA,ec,ia,c,cm,bY,↓aF,eB,aZ,qt ak,fB,vR,aH,gp,aM,iU,dR]
theorem Iv{s:ByteArray}(az:s.size<9223372036854775808)(h:U):aJ 137 [.str s] h=I (.bool (kN s),h):=by
 have l:=yE s
 refine cg (F:=Dx) (by kernel_rfl) (s.size+1) ?_
 rw[abY]
 unfold OJ kN
 simp only[nW,bY,↓aF,ia,eB,fi,dR]
 by_cases e:(s.size:Int)>22
 ·have:decide (s.size<=22)=false:=decide_eq_false (by omega)
  rw[aQ e,this,Bool.and_false]
 ·have hd:decide (s.size<=22)=true:=uz (by omega)
  rw[a1 e,hd,Bool.and_true]
  obtain⟨k,h1,h2,ak⟩:=so oK (gN s)
  refine nV (λi=>[.int .i64 (i:Int)]) k (by omega) rfl (λi ag K=>?_) λK=>?_
  ·obtain⟨b,ae⟩:=cQ (show i<(gN s).length by omega)
   have c:((i:Int)<(s.size:Int))=True:=jU (by omega)
   have g:oK b=true:=h2 i b ag ae
   unfold Dy
   simp only[eA,xY,xZ,An,nW,ec,ia,c,cm,bY,↓aF,eB,aZ,qt ae,fB,vR,g,e3,bg,bd,km,cI (show i<9223372036854775807 by omega),jd]
  ·rcases ak with⟨rfl,aH⟩|⟨b,ak,aH,aM⟩
   ·have c:(((gN s).length:Int)<(s.size:Int))=False:=dK (by omega)
    unfold Dy
    simp only[eA,nW,ec,c,cW,bY,↓aF,eB,bg,bd,aH,dR]
   ·have ad:k<(gN s).length:=by
     obtain⟨j,_⟩:=List.getElem?_eq_some_iff.1 ak
     exact j
    have c:((k:Int)<(s.size:Int))=True:=jU (by omega)
    unfold Dy
    simp only[eA,nW,ec,ia,c,cm,bY,↓aF,eB,aZ,qt ak,fB,vR,aH,gp,aM,dR]
def k7{α:Type}(p:α->Bool):List α->Int
 |[]=>-1
 |a::l=>if p a then 0 else if k7 p l=-1 then -1 else k7 p l+1
theorem yI{α:Type}(p:α->Bool)(l:List α):∃k,k<=l.length/\(∀i a,i<k->l[i]?=I a->p a=false)/\(k=l.length/\k7 p l=-1/\l.any p=false\/∃a,l[k]?=I a/\p a=true/\k7 p l=(k:Int)/\l.any p=true):=by
 induction l with
 |nil=>exact⟨0,ca _,λi a h=>by omega,.inl ⟨rfl,rfl,rfl⟩⟩
 |cons x l b=>
  cases af:p x with
  |true=>exact⟨0,hQ _,λi a h=>by omega,.inr ⟨x,rfl,af,by simp [k7,af],by simp [af]⟩⟩
  |false=>
   obtain⟨k,h1,h2,ak⟩:=b
   refine⟨k+1,by simp;omega,λi a ag ha=>?_,?_⟩
   ·cases i with
    |zero=>cases ha;exact af
    |succ i=>exact h2 i a (by omega) ha
   ·rcases ak with⟨ak,aH,aM⟩|⟨a,ak,aH,aM,bp⟩
    ·exact .inl ⟨by simp [ak],by simp [k7,af,aH],by simp [af,aM]⟩
    ·refine .inr ⟨a,ak,aH,?_,by simp [bp]⟩
     have:¬(k7 p l=-1):=by omega
     simp only[k7,af,this,bg,bd]
     omega
theorem PD{α:Type}(p:α->Bool)(l:List α):decide (k7 p l>=0)=l.any p:=by
 obtain⟨k,_,_,ak⟩:=yI p l
 rcases ak with⟨_,aH,aM⟩|⟨_,_,_,aM,bp⟩
 ·rw[aH,aM];rfl
 ·rw[aM,bp];exact uz (by omega)
def hO(l:List Cell):J:=.bz 6 (l.map Cell.cs)
theorem lA(l:List Cell):bw false (hO l)=I (.int .i64 l.length):=sc
theorem oL{l:List Cell}{i:Nat}{c:Cell}(k:IntKind)(h:l[i]?=I c):bW 6 (hO l) (.int k i)=I (.e6 c.cs 0):=rj k h
theorem x0(c:Cell)(h:U):ab true 6 (.e6 c.cs 0) h=I (.agg c.cs):=by rw[yc];exact fQ rfl
theorem ac0{f:J}{p:Cell->Bool}{l:List Cell}{h:U}(hm:l.length<9223372036854775808)(aC:∀c,gh aJ f [.agg c.cs] h=I (.bool (p c),h)):aJ 149 [hO l,f] h=I (.int .i64 (k7 p l),h):=by
 refine cg (F:=DO) (by kernel_rfl) (l.length+1) ?_
 rw[ab8]
 unfold OT
 simp only[lA,bY,↓aF]
 obtain⟨k,h1,h2,ak⟩:=yI p l
 refine nV (λi=>[.int .i64 (i:Int)]) k (by omega) rfl (λi ag K=>?_) λK=>?_
 ·obtain⟨c,aa⟩:=cQ (show i<l.length by omega)
  have aj:=h2 i c ag aa
  unfold DP
  simp only[eA,ec,cL (show i<l.length by omega),cm,bY,↓aF,eB,aZ,oL _ aa,x0,aC,aj,bg,bd,km,cI (show i<9223372036854775807 by omega),jd]
 ·rcases ak with⟨rfl,aH,aM⟩|⟨c,ak,aH,aM,bp⟩
  ·unfold DP
   simp only[eA,ec,fR,cW,bY,↓aF,eB,bg,bd,aH,oF]
  ·have ad:k<l.length:=by
    obtain⟨b,_⟩:=List.getElem?_eq_some_iff.1 ak
    exact b
   unfold DP
   simp only[eA,ec,cL ad,cm,bY,↓aF,eB,aZ,oL _ ak,x0,aC,aH,aM,oF]
theorem Iw{f:J}{p:Cell->Bool}{l:List Cell}{h:U}(hm:l.length<9223372036854775808)(aC:∀c,gh aJ f [.agg c.cs] h=I (.bool (p c),h)):aJ 116 [hO l,f] h=I (.bool (l.any p),h):=by
 refine cg (F:=C5) (by kernel_rfl) 1 ?_
 rw[abD]
 unfold Ol
 simp only[ac0 hm aC,bY,nU,PD,dR]
theorem ac1(c:Cell)(h:U):aJ 147 [.agg c.cs] h=I (.bool (!l2 c),h):=by
 refine cg (F:=DM) (by kernel_rfl) 1 ?_
 rw[ab6]
 unfold OR
 have ae:ab true 6 (.ptr h.length 0) (h++[.box c.cs 41 .rw])=I (.agg c.cs):=vQ rfl
 simp only[na,qk,ae,Pq,bY,lX,dw]
theorem ac2(x:Int)(h:U):aJ 189 [.int .i64 x] h=I (.bool (b8 x 1 16),h):=by
 refine cg (F:=Ej) (by kernel_rfl) 1 ?_
 rw[acw]
 unfold Pe b8
 simp only[iK,bY,fh,dR]
def Ex(r:Int)(l:List Cell):J:=.agg [.int .i64 r,hO l]
def pE(r:Int)(l:List Cell)(ch:Int):Bool:=b8 ch 1 16&&b8 r 1 64&&((l.length:Int)==IntKind.i64.wrap (r*ch))&&l.all l2
theorem ac3(l:List Cell):(!l.any λc=>!l2 c)=l.all l2:=by rw[List.not_any_eq_all_not];simp
theorem ac4(r:Int){l:List Cell}(hm:l.length<9223372036854775808)(ch:Int)(h:U):aJ 115 [Ex r l,.int .i64 ch] h=I (.bool (pE r l ch),h):=by
 refine cg (F:=C4) (by kernel_rfl) 1 ?_
 rw[abC]
 unfold Oj pE Ex
 have eY:ab false 1 (.ptr h.length 0) (h++[.box [.int .i64 r,hO l] 39 .rw])=I (.int .i64 r):=eU rfl
 have b:ab false 1 (.ptr h.length 1) (h++[.box [.int .i64 r,hO l] 39 .rw])=I (hO l):=eU rfl
 have e:=Iw (f:=.func 147 [] []) (p:=λc=>!l2 c) (h:=h++[.box [.int .i64 r,hO l] 39 .rw]) hm λc=>by rw[kM aJ 147];exact ac1 c _
 simp only[na,qk,vC,Es,fC,eY,b,lA,Ht,fM,e,lX,ac3,bY,fh,dw]
theorem ac5(r:Int){l:List Cell}(hm:l.length<9223372036854775808)(ch:Int)(h:U):aJ 173 [Ex r l,.int .i64 ch] h=I (.bool (pE r l ch),h):=by
 refine cg (F:=Ee) (by kernel_rfl) (l.length+1) ?_
 rw[acr]
 unfold Pa pE Ex
 have eY:ab false 1 (.ptr h.length 0) (h++[.box [.int .i64 r,hO l] 39 .rw])=I (.int .i64 r):=eU rfl
 have b:ab false 1 (.ptr h.length 1) (h++[.box [.int .i64 r,hO l] 39 .rw])=I (hO l):=eU rfl
 simp only[na,qk,ac2,fC,eY,b,lA,Ht,gG,ec,ia,lX,bY,fB,eB,↓aF]
 have e:((((!b8 ch 1 16)||decide (r<1))||decide (r>64))||((l.length:Int) !=IntKind.i64.wrap (r*ch)))=!(b8 ch 1 16&&b8 r 1 64&&((l.length:Int)==IntKind.i64.wrap (r*ch))):=by
  unfold b8
  rw[o5]
  simp only[mP,nA,p1,fi,h7,kX,kc,ne_eq]
  omega
 rw[e]
 cases aa:(b8 ch 1 16&&b8 r 1 64&&((l.length:Int)==IntKind.i64.wrap (r*ch)))with
 |false=>simp only[gp,aZ,iU,dw]
 |true=>
  simp only[e3,bg,bd,hn]
  obtain⟨k,h1,h2,ak⟩:=so l2 l
  refine nV (λi=>[.int .i64 (i:Int)]) k (by omega) rfl (λi ag K=>?_) λK=>?_
  ·obtain⟨c,aa⟩:=cQ (show i<l.length by omega)
   have aj:=h2 i c ag aa
   unfold Ef
   simp only[eA,fC,b,lA,ec,cL (show i<l.length by omega),cm,bY,↓aF,eB,aZ,oL _ aa,x0,Il,aj,lX,e3,bg,bd,km,cI (show i<9223372036854775807 by omega),jd]
  ·rcases ak with⟨rfl,aH⟩|⟨c,ak,aH,aM⟩
   ·unfold Ef
    simp only[eA,fC,b,lA,ec,fR,cW,bY,↓aF,eB,bg,bd,aH,dw]
   ·have ad:k<l.length:=by
     obtain⟨g,_⟩:=List.getElem?_eq_some_iff.1 ak
     exact g
    unfold Ef
    simp only[eA,fC,b,lA,ec,cL ad,cm,bY,↓aF,eB,aZ,oL _ ak,x0,Il,aH,lX,gp,aM,dw]
def vS(k a b n:Int):Bool:=if k=0 then a==0&&b==0 else if k=1\/k=2 then decide (0<=a)&&decide (a<b)&&decide (b<=n)else false
theorem ac6(k a b n:Int)(h:U):aJ 156 [.int .i64 k,.int .i64 a,.int .i64 b,.int .i64 n] h=I (.bool (vS k a b n),h):=by
 refine cg (F:=DW) (by kernel_rfl) 1 ?_
 rw[ace]
 unfold OZ vS
 by_cases au:k=0
 ·subst au
  simp only[fM,bY,↓aF,eB,o1,aZ,fh,dR]
 ·have c:(k==0)=false:=by rw[kc];exact au
  by_cases h1:k=1
  ·subst h1
   simp only[fM,iK,ec,bY,↓aF,eB,c,au,o1,bg,bd,aZ,true_or,eA,fh,dR]
  ·have aD:(k==1)=false:=by rw[kc];exact h1
   by_cases h2:k=2
   ·subst h2
    simp only[fM,iK,ec,bY,↓aF,eB,c,aD,au,h1,o1,bg,bd,aZ,or_true,eA,fh,dR]
   ·have aE:(k==2)=false:=by rw[kc];exact h2
    simp only[fM,bY,↓aF,eB,c,aD,aE,au,h1,h2,bg,bd,or_self,eA,dR]
theorem ac7(k a b n:Int)(h:U):aJ 176 [.int .i64 k,.int .i64 a,.int .i64 b,.int .i64 n] h=I (.bool (vS k a b n),h):=by
 refine cg (F:=Ei) (by kernel_rfl) 1 ?_
 rw[acv]
 unfold Pd vS
 by_cases au:k=0
 ·subst au
  simp only[fM,bY,↓aF,eB,o1,aZ,fh,dR]
 ·have c:(k==0)=false:=by rw[kc];exact au
  by_cases h1:k=1
  ·subst h1
   simp only[fM,iK,ec,bY,↓aF,eB,c,au,o1,bg,bd,aZ,true_or,eA,fh,dR]
  ·have aD:(k==1)=false:=by rw[kc];exact h1
   by_cases h2:k=2
   ·subst h2
    simp only[fM,iK,ec,bY,↓aF,eB,c,aD,au,h1,o1,bg,bd,aZ,or_true,eA,fh,dR]
   ·have aE:(k==2)=false:=by rw[kc];exact h2
    simp only[fM,bY,↓aF,eB,c,aD,aE,au,h1,h2,bg,bd,or_self,eA,dR]
theorem PE{h:U}{a b:Int}:aL [.ah,.ah] h h [.int .i64 a,.int .i64 b]=I (.tuple [.int .i64 a,.int .i64 b],h):=by
 simp only[nb,i_,j1,k3,dy,dm,Hw,jd]
def nZ(bits:Int):Int:=if bits=8 then 128 else 32768
theorem HV{bits:Int}(ae:bits=8\/bits=16)(h:U):aJ 155 [.int .i64 bits] h=I (.tuple [.int .i64 (-nZ bits),.int .i64 (nZ bits-1)],h):=by
 refine cg (F:=DV) (by kernel_rfl) 1 ?_
 rw[acd]
 rcases ae with rfl|rfl
 ·exact eK (show _=aL [.ah,.ah] h h [.int .i64 (-nZ 8),.int .i64 (nZ 8-1)]by kernel_rfl) PE
 ·exact eK (show _=aL [.ah,.ah] h h [.int .i64 (-nZ 16),.int .i64 (nZ 16-1)]by kernel_rfl) PE
def qv(x bits:Int):Bool:=decide (-nZ bits<=x)&&decide (x<nZ bits)
theorem PF{bits:Int}(ae:bits=8\/bits=16)(x:Int)(h:U):aJ 175 [.int .i64 x,.int .i64 bits] h=I (.bool (qv x bits),h):=by
 refine cg (F:=Eh) (by kernel_rfl) 1 ?_
 rw[acu]
 unfold Pc qv
 have aD:ar .sub (.int .i64 bits) (.int .i64 1)=I (.int .i64 (bits-1)):=by rcases ae with rfl|rfl<;>rfl
 have aE:ar .shl (.int .i64 1) (.int .i64 (bits-1))=I (.int .i64 (nZ bits)):=by rcases ae with rfl|rfl<;>rfl
 have b:di .neg (.int .i64 (nZ bits))=I (.int .i64 (-nZ bits)):=by rcases ae with rfl|rfl<;>rfl
 simp only[aD,aE,b,iK,ec,bY,fh,dR]
end Go.aN.X
