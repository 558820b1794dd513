import Derived.Test.YtffennknofmjoaaGreatP3
import Derived.Test.YtffennknofmjoaaGreatChecked
import Derived.TacticsInMore
import Derived.Lib.Walk
import Derived.WalkKit
import Derived.BigCall
import Derived.OwnWalkIn
set_option linter.unusedSimpArgs false
set_option linter.unusedVariables false
set_option maxRecDepth 100000
open Bool renaming and_assoc->xQ,and_eq_false_iff->qG,and_eq_true->dn,and_true->jT,eq_iff_iff->pP,false_and->jv,false_eq_true->bn,false_or->sy,not_eq_true'->mf,not_false->gN,not_true->fg,or_eq_false_iff->rE,or_eq_true->mM,true_and->hq,true_eq_false->x8,true_or->vl,false->M,true->V
open Eq renaming refl->iK,trans->e0
open Go renaming FuncId->dU,TypeId->a1
open Go.IntKind renaming i64->E
open Int renaming mul_le_mul->xW,toNat_natCast->mc
open Go.Lib renaming indexByte->rI
open List renaming append_assoc->eb,append_nil->fD,find?_cons->tQ,getElem?_cons_zero->ki,getElem?_eq_getElem->fJ,getElem?_map->iM,map_append->jt,mem_cons->hF,mem_of_getElem?->dN,not_mem_nil->ik,range->fj,range_succ->x3,replicate->dF,set_cons_zero->rH
open Nat renaming beq->cM,le_of_ble_eq_true->sA,le_refl->cj,lt_succ_self->fC,reduceAdd->aV,zero_add->hh,zero_le->hO
open Option renaming bind->u,bind_some->dy,getD_some->ob,map->vo,map_some->dw,some->y
open Go.aM.U renaming int->J
namespace Go.aM.X
open Go.Proofs Go.bF Go.aM
noncomputable section
open Go.aM.G in
def DN:b2:=⟨1,8,(S (R<|o 2 (.move (.const (.slice none 0 0)))<|z)<|
 (S (S (R<|m 3 0<|o 4 (.isNil .slice M (t 3))<|z)<|
 (.cond (t 4) [] [2]
 (S (R<|o 2 (.move (.const (.slice none 0 0)))<|z)<|
 .ret)
 .skip))<|
 (S (R<|o 5 (.buildSlice 41 [] 0 [])<|m 6 0<|o 7 (.append 41 6 (t 5) (t 6))<|m 2 7<|z)<|
 .ret))),[.tmp 2],[.raw]⟩
theorem abJ:cc 83 DN:=cf Tryz.func83 rfl
def Pz(b:aT)(c:Nat)(e:U)(g:Z):bl:=nH .slice M e λb=>aD (λ_ b=>u (eC 41 6 U.emp e b) λb=>aN [.raw] g b.2 [b.1]) λc=>bb b (aN [.raw] g g [(.a7:U)]) (c [] g)
open Go.aM.G in
def DO:b2:=⟨1,8,(S (R<|o 2 (.move (.const (.slice none 0 0)))<|z)<|
 (S (S (R<|m 3 0<|o 4 (.isNil .slice M (t 3))<|z)<|
 (.cond (t 4) [] [2]
 (S (R<|o 2 (.move (.const (.slice none 0 0)))<|z)<|
 .ret)
 .skip))<|
 (S (R<|o 5 (.buildSlice 89 [] 0 [])<|m 6 0<|o 7 (.append 89 2 (t 5) (t 6))<|m 2 7<|z)<|
 .ret))),[.tmp 2],[.raw]⟩
theorem abK:cc 84 DO:=cf Tryz.func84 rfl
def PA(b:aT)(c:Nat)(e:U)(g:Z):bl:=nH .slice M e λb=>aD (λ_ b=>u (eC 89 2 U.emp e b) λb=>aN [.raw] g b.2 [b.1]) λc=>bb b (aN [.raw] g g [(.a7:U)]) (c [] g)
open Go.aM.G in
def DP:b2:=⟨1,8,(S (R<|o 2 (.move (.const (.slice none 0 0)))<|z)<|
 (S (S (R<|m 3 0<|o 4 (.isNil .slice M (t 3))<|z)<|
 (.cond (t 4) [] [2]
 (S (R<|o 2 (.move (.const (.slice none 0 0)))<|z)<|
 .ret)
 .skip))<|
 (S (R<|o 5 (.buildSlice 120 [] 0 [])<|m 6 0<|o 7 (.append 120 2 (t 5) (t 6))<|m 2 7<|z)<|
 .ret))),[.tmp 2],[.raw]⟩
theorem abL:cc 85 DP:=cf Tryz.func85 rfl
def PB(b:aT)(c:Nat)(e:U)(g:Z):bl:=nH .slice M e λb=>aD (λ_ b=>u (eC 120 2 U.emp e b) λb=>aN [.raw] g b.2 [b.1]) λc=>bb b (aN [.raw] g g [(.a7:U)]) (c [] g)
open Go.aM.G in
def DQ:b2:=⟨2,27,(S (R<|o 4 (.move (.const (.slice none 0 0)))<|z)<|
 (S (R<|m 8 0<|bW 9 8<|o 10 (.mkSlice 39 [(.int .i64 0),(.slice none 0 0)] (t 9) (t 9))<|m 5 10<|z)<|
 (S (S (R<|m 11 0<|bW 12 11<|b_ 13 0<|z)<|
 (.block 0 [] ([6,7]++g 13 13)
 (.loop [13] ([6,7]++g 14 12)
 (S (R<|b 14 .lss (t 13) (t 12)<|z)<|
 (S (.cond (t 14) [] []
 .skip
 (.exit 0))<|
 (S (.block 1 [] ([6,7]++g 15 10)
 (S (R<|m 15 13<|cz 16 2 11 13<|bR 17 2 16<|o 7 (.new 39 [(.int .i64 0),(.slice none 0 0)])<|m 6 15<|bS 2 7 17<|z)<|
 (D<|m 18 5<|m 19 1<|m 20 6<|cz 21 1 19 20<|l 22 21<|bR 23 2 7<|cz 24 2 18 22<|bS 2 24 23<|z)))<|
 (R<|b 25 .add (t 13) (i 1)<|m 13 25<|z)))))))<|
 (S (R<|m 26 5<|m 4 26<|z)<|
 .ret)))),[.tmp 4],[.raw]⟩
theorem abM:cc 86 DQ:=cf Tryz.func86 rfl
def DR(b:aT)(c:Nat)(e g:U)(h:U×Z)(i:U)(j:bg):(bg)->bg:=λb c k=>u (ar .lss (aK c 0) i) λi=>aD (λ_ i=>aD (λ_ e=>u (ar .add (aK c 0) (J E 1)) λc=>b [c] (trim h.2 [c] e)) λb=>u (bY 2 e (aK c 0)) λe=>u (ab V 2 e i) λe=>bK (.ptr i.length 0) (i++[.box [J E 0,.a7] 39 .rw]) λi j=>u (bf 2 i e j) λe=>u (bY 1 g (aK c 0)) λc=>u (ab M 1 c e) λc=>u (ab V 2 i e) λg=>u (bY 2 h.1 c) λc=>u (bf 2 c g e) λc=>b [] c) λb=>bb i (b [] k) (j [] k)
def PC(b:aT)(c:Nat)(e g:U)(h:Z):bl:=u (bB M e) λi=>u (p5 39 [J E 0,.a7] i i h) λi=>u (bB M e) λj=>aD (λ_ b=>aN [.raw] h b [i.1]) λh=>cv (DR b c e g i j h) c [(J E 0)] i.2
open Go.aM.G in
def DS:b2:=⟨1,9,(S (R<|cw 2<|z)<|
 (S (R<|m 3 0<|b 4 .eql (t 3) (i 254)<|m 5 4<|q 8 5 M [6,7] (m 6 0<|b 7 .eql (t 6) (i 255)<|z) (t 7)<|
 m 2 8<|z)<|
 .ret)),[.tmp 2],[.aj]⟩
theorem abN:cc 87 DS:=cf Tryz.func87 rfl
def PD(b:aT)(c:Nat)(e:U)(g:Z):bl:=u (ar .eql e (J E 254)) λb=>bc (λb c=>aN [.aj] g c [b]) λc=>bd b M (u (ar .eql e (J E 255)) λb=>c b g) (c (.bool V) g)
open Go.aM.G in
def DT:b2:=⟨2,27,(S (R<|o 4 (.move (.const (.slice none 0 0)))<|z)<|
 (S (R<|m 8 0<|bW 9 8<|o 10 (.mkSlice 43 zk (t 9) (t 9))<|m 5 10<|z)<|
 (S (S (R<|m 11 0<|bW 12 11<|b_ 13 0<|z)<|
 (.block 0 [] ([6,7]++g 13 13)
 (.loop [13] ([6,7]++g 14 12)
 (S (R<|b 14 .lss (t 13) (t 12)<|z)<|
 (S (.cond (t 14) [] []
 .skip
 (.exit 0))<|
 (S (.block 1 [] ([6,7]++g 15 10)
 (S (R<|m 15 13<|cz 16 13 11 13<|bR 17 13 16<|o 7 (.new 43 zk)<|m 6 15<|bS 13 7 17<|z)<|
 (D<|m 18 5<|m 19 1<|m 20 6<|cz 21 1 19 20<|l 22 21<|bR 23 13 7<|cz 24 13 18 22<|bS 13 24 23<|z)))<|
 (R<|b 25 .add (t 13) (i 1)<|m 13 25<|z)))))))<|
 (S (R<|m 26 5<|m 4 26<|z)<|
 .ret)))),[.tmp 4],[.raw]⟩
theorem abO:cc 88 DT:=cf Tryz.func88 rfl
def DU(b:aT)(c:Nat)(e g:U)(h:U×Z)(i:U)(j:bg):(bg)->bg:=λb c k=>u (ar .lss (aK c 0) i) λi=>aD (λ_ i=>aD (λ_ e=>u (ar .add (aK c 0) (J E 1)) λc=>b [c] (trim h.2 [c] e)) λb=>u (bY 13 e (aK c 0)) λe=>u (ab V 13 e i) λe=>bK (.ptr i.length 0) (i++[.box [.str ⟨#[]⟩,.a7,J E 0,J E 0,J E 0,J E 0,J E 0,J E 0,J E 0,J E 0,J E 0,J E 0,J E 0] 43 .rw]) λi j=>u (bf 13 i e j) λe=>u (bY 1 g (aK c 0)) λc=>u (ab M 1 c e) λc=>u (ab V 13 i e) λg=>u (bY 13 h.1 c) λc=>u (bf 13 c g e) λc=>b [] c) λb=>bb i (b [] k) (j [] k)
def PE(b:aT)(c:Nat)(e g:U)(h:Z):bl:=u (bB M e) λi=>u (p5 43 [.str ⟨#[]⟩,.a7,J E 0,J E 0,J E 0,J E 0,J E 0,J E 0,J E 0,J E 0,J E 0,J E 0,J E 0] i i h) λi=>u (bB M e) λj=>aD (λ_ b=>aN [.raw] h b [i.1]) λh=>cv (DU b c e g i j h) c [(J E 0)] i.2
open Go.aM.G in
def DV:b2:=⟨2,13,(S (R<|b_ 4 0<|z)<|
 (S (S (R<|m 5 0<|b 6 .eql (t 5) (i 0)<|z)<|
 (.cond (t 6) [] [4]
 (S (R<|b_ 4 0<|z)<|
 .ret)
 .skip))<|
 (S (R<|m 7 1<|m 8 0<|b 9 .sub (t 8) (i 1)<|cz 10 1 7 9<|l 11 10<|b 12 .add (t 11) (i 1)<|m 4 12<|z)<|
 .ret))),[.tmp 4],[.aj]⟩
theorem abP:cc 89 DV:=cf Tryz.func89 rfl
def PF(b:aT)(c:Nat)(e g:U)(h:Z):bl:=u (ar .eql e (J E 0)) λb=>aD (λ_ b=>u (ar .sub e (J E 1)) λc=>u (bY 1 g c) λc=>u (ab M 1 c b) λc=>u (ar .add c (J E 1)) λc=>aN [.aj] h b [c]) λc=>bb b (aN [.aj] h h [(J E 0)]) (c [] h)
open Go.aM.G in
def DW:b2:=⟨2,37,(S (R<|m 7 0<|gp 8 7<|f 9 10 8<|l 10 9<|bW 11 10<|b_ 12 0<|z)<|
 (.block 0 [] ([5,6]++g 12 25)
 (.loop [12] ([5,6]++g 13 24)
 (S (R<|b 13 .lss (t 12) (t 11)<|z)<|
 (S (.cond (t 13) [] []
 .skip
 (.exit 0))<|
 (S (.block 1 [] ([5,6]++g 14 22)
 (S (R<|cz 14 2 10 12<|bR 15 2 14<|o 5 (.new 39 [(.int .i64 0),(.slice none 0 0)])<|bS 2 5 15<|z)<|
 (S (R<|f 16 1 5<|l 17 16<|bW 18 17<|b_ 19 0<|z)<|
 (.block 2 [] ([6]++g 19 17)
 (.loop [19] ([6]++g 20 16)
 (S (R<|b 20 .lss (t 19) (t 18)<|z)<|
 (S (.cond (t 20) [] []
 .skip
 (.exit 2))<|
 (S (.block 3 [] ([6]++g 21 14)
 (S (R<|m 21 19<|m 6 21<|z)<|
 (D<|f 22 1 5<|l 23 22<|m 24 6<|f 25 1 5<|l 26 25<|m 27 6<|cz 28 6 26 27<|f 29 1 28<|l 30 29<|m 31 1<|O 32 (.call 89 [(t 30),(t 31)])<|cz 33 6 23 24<|f 34 1 33<|bS 1 34 32<|z)))<|
 (R<|b 35 .add (t 19) (i 1)<|m 19 35<|z)))))))))<|
 (R<|b 36 .add (t 12) (i 1)<|m 12 36<|z))))))),[],[]⟩
theorem abQ:cc 90 DW:=cf Tryz.func90 rfl
def zA(b:aT)(c:Nat)(e g:U)(h:Z)(i:U)(j:bg):(bg)->bg:=λc k l=>u (ar .lss (aK k 0) i) λi=>aD (λ_ i=>aD (λ_ b=>u (ar .add (aK k 0) (J E 1)) λe=>c [e] (trim h [e] b)) λc=>u (aq 1 g) λh=>u (ab M 1 h i) λh=>u (aq 1 g) λg=>u (ab M 1 g i) λg=>u (bY 6 g (aK k 0)) λg=>u (aq 1 g) λg=>u (ab M 1 g i) λg=>u (b 89 [g,e] (lock i)) λb=>d' i b.2 λe=>u (bY 6 h (aK k 0)) λg=>u (aq 1 g) λg=>u (bf 1 g b.1 e) λb=>c [] b) λb=>bb i (b [] l) (j [] l)
def DX(b:aT)(c:Nat)(e:U)(g:Z)(h i:U)(j:bg):(bg)->bg:=λk l m=>u (ar .lss (aK l 0) i) λi=>aD (λ_ i=>aD (λ_ b=>u (ar .add (aK l 0) (J E 1)) λc=>k [c] (trim g [c] b)) λg=>u (bY 2 h (aK l 0)) λh=>u (ab V 2 h i) λh=>bK (.ptr i.length 0) (i++[.box [J E 0,.a7] 39 .rw]) λi j=>u (bf 2 i h j) λh=>u (aq 1 i) λj=>u (ab M 1 j h) λj=>u (bB M j) λj=>aD (λ_ b=>g [] b) λg=>cv (zA b c e i h j g) c [(J E 0)] h) λb=>bb i (b [] m) (j [] m)
def PG(b:aT)(c:Nat)(e g:U)(h:Z):bl:=u (fS e) λe=>u (aq 10 e) λe=>u (ab M 1 e h) λe=>u (bB M e) λi=>aD (λ_ b=>aN [] h b []) λj=>cv (DX b c g h e i j) c [(J E 0)] h
open Go.aM.G in
def DY:b2:=⟨2,27,(S (R<|o 4 (.move (.const (.slice none 0 0)))<|z)<|
 (S (R<|m 8 0<|bW 9 8<|o 10 (.mkSlice 57 r5 (t 9) (t 9))<|m 5 10<|z)<|
 (S (S (R<|m 11 0<|bW 12 11<|b_ 13 0<|z)<|
 (.block 0 [] ([6,7]++g 13 13)
 (.loop [13] ([6,7]++g 14 12)
 (S (R<|b 14 .lss (t 13) (t 12)<|z)<|
 (S (.cond (t 14) [] []
 .skip
 (.exit 0))<|
 (S (.block 1 [] ([6,7]++g 15 10)
 (S (R<|m 15 13<|cz 16 33 11 13<|bR 17 33 16<|o 7 (.new 57 r5)<|m 6 15<|bS 33 7 17<|z)<|
 (D<|m 18 5<|m 19 1<|m 20 6<|cz 21 1 19 20<|l 22 21<|bR 23 33 7<|cz 24 33 18 22<|bS 33 24 23<|z)))<|
 (R<|b 25 .add (t 13) (i 1)<|m 13 25<|z)))))))<|
 (S (R<|m 26 5<|m 4 26<|z)<|
 .ret)))),[.tmp 4],[.raw]⟩
theorem abR:cc 91 DY:=cf Tryz.func91 rfl
def DZ(b:aT)(c:Nat)(e g:U)(h:U×Z)(i:U)(j:bg):(bg)->bg:=λb c k=>u (ar .lss (aK c 0) i) λi=>aD (λ_ i=>aD (λ_ e=>u (ar .add (aK c 0) (J E 1)) λc=>b [c] (trim h.2 [c] e)) λb=>u (bY 33 e (aK c 0)) λe=>u (ab V 33 e i) λe=>bK (.ptr i.length 0) (i++[.box iu 57 .rw]) λi j=>u (bf 33 i e j) λe=>u (bY 1 g (aK c 0)) λc=>u (ab M 1 c e) λc=>u (ab V 33 i e) λg=>u (bY 33 h.1 c) λc=>u (bf 33 c g e) λc=>b [] c) λb=>bb i (b [] k) (j [] k)
def PH(b:aT)(c:Nat)(e g:U)(h:Z):bl:=u (bB M e) λi=>u (p5 57 iu i i h) λi=>u (bB M e) λj=>aD (λ_ b=>aN [.raw] h b [i.1]) λh=>cv (DZ b c e g i j h) c [(J E 0)] i.2
open Go.aM.G in
def D0:b2:=⟨2,48,(S (R<|o 4 (.move (.const (.slice none 0 0)))<|z)<|
 (S (S (R<|m 9 1<|b 10 .lss (t 9) (i 0)<|z)<|
 (.cond (t 10) [] [11]
 (R<|o 11 (.tT 9 (.const (.string ⟨#[99,97,110,110,111,116,32,98,101,32,110,101,103,97,116,105,118,101]⟩)))<|n .fail<|z)
 .skip))<|
 (S (R<|m 13 0<|bW 14 13<|o 15 (.conv .u64 (t 14))<|m 16 1<|o 17 (.conv .u64 (t 16))<|eF 18 134 15 17<|m 12 18<|eV 19 12 0<|eV 20 12 1<|m 5 19<|m 6 20<|z)<|
 (S (S (R<|m 21 5<|b 22 .gtr (t 21) (.const (.int .u64 0))<|m 23 22<|q 26 23 M [24,25] (m 24 6<|b 25 .gtr (t 24) (.const (.int .u64 9223372036854775807))<|z) (t 25)<|
 z)<|
 (.cond (t 26) [] [27]
 (R<|o 27 (.tT 9 (.const (.string ⟨#[116,104,101,32,114,101,115,117,108,116,32,111,102,32,40,108,101,110,40,120,41,32,42,32,99,111,117,110,116,41,32,111,118,101,114,102,108,111,119,115]⟩)))<|n .fail<|z)
 .skip))<|
 (S (R<|m 28 6<|o 29 (.conv .i64 (t 28))<|o 30 (.mkSlice 3 [(.int .i64 0)] (t 29) (t 29))<|m 7 30<|z)<|
 (S (R<|m 31 7<|m 32 0<|o 33 (.copy 1 (t 31) (t 32))<|m 8 33<|z)<|
 (S (.block 0 [] ([8]++g 34 13)
 (.loop [8] (g 34 13)
 (S (S (R<|m 34 8<|m 35 7<|bW 36 35<|b 37 .lss (t 34) (t 36)<|z)<|
 (.cond (t 37) [] []
 .skip
 (.exit 0)))<|
 (.block 1 [8] (g 38 9)
 (D<|m 38 8<|m 39 7<|m 40 8<|o 41 (.slice 1 (t 39) (y (t 40)) none none)<|m 42 7<|m 43 8<|o 44 (.slice 1 (t 42) none (y (t 43)) none)<|o 45 (.copy 1 (t 41) (t 44))<|b 46 .add (t 38) (t 45)<|m 8 46<|z)))))<|
 (S (R<|m 47 7<|m 4 47<|z)<|
 .ret)))))))),[.tmp 4],[.raw]⟩
theorem abS:cc 92 D0:=cf Tryz.func92 rfl
def uE(b:aT)(c:Nat)(e g:U×Z)(h:bg):(bg)->bg:=λb c i=>u (bB M e.1) λj=>u (ar .lss (aK c 0) j) λj=>aD (λ_ h=>aD (λc e=>b [(aK c 0)] (trim g.2 [(aK c 0)] e)) λb=>u (rU 1 e.1 (y (aK c 0)) none none) λg=>u (rU 1 e.1 none (y (aK c 0)) none) λe=>u (rW 1 g e h) λe=>u (ar .add (aK c 0) e.1) λc=>b [c] e.2) λb=>bb j (b [] i) (h [] i)
def PI(b:aT)(c:Nat)(e g:U)(h:Z):bl:=u (ar .lss g (J E 0)) λi=>aD (λ_ i=>u (bB M e) λj=>u (mV .u64 j) λj=>u (mV .u64 g) λg=>u (b 134 [j,g] i) λg=>u (ek g.1 0) λi=>u (ek g.1 1) λj=>u (ar .gtr i (.int .u64 0)) λi=>bc (λg i=>aD (λ_ g=>u (mV .i64 j) λi=>u (p5 3 [J E 0] i i g) λg=>u (rW 1 g.1 e g.2) λe=>aD (λ_ b=>aN [.raw] h b [g.1]) λh=>cv (uE b c g e h) c [e.1] e.2) λb=>bb g (none) (b [] i)) λb=>bd i M (u (ar .gtr j (.int .u64 9223372036854775807)) λc=>b c g.2) (b (.bool V) g.2)) λb=>bb i (none) (b [] h)
open Go.aM.G in
def D1:b2:=⟨3,15,(S (R<|l 4 1<|m 5 0<|cz 6 1 4 5<|l 7 6<|b 8 .lss (t 7) (i 0)<|z)<|
 (.cond (t 8) [] (g 9 6)
 (S (R<|l 9 1<|m 10 0<|l 11 2<|cz 12 1 9 10<|bS 1 12 11<|z)<|
 (R<|l 13 2<|b 14 .add (t 13) (i 1)<|bS 1 2 14<|z))
 .skip)),[],[]⟩
theorem abT:cc 93 D1:=cf Tryz.func93 rfl
def PJ(b:aT)(c:Nat)(e g h:U)(i:Z):bl:=u (ab M 1 g i) λb=>u (bY 1 b e) λb=>u (ab M 1 b i) λb=>u (ar .lss b (J E 0)) λb=>aD (λ_ b=>aN [] i b []) λc=>bb b (u (ab M 1 g i) λb=>u (ab M 1 h i) λg=>u (bY 1 b e) λb=>u (bf 1 b g i) λb=>u (ab M 1 h b) λe=>u (ar .add e (J E 1)) λe=>u (bf 1 h e b) λb=>c [] b) (c [] i)
open Go.aM.G in
def D2:b2:=⟨2,28,(S (R<|o 6 .mkMap<|m 3 6<|z)<|
 (S (R<|f 7 3 1<|l 8 7<|bW 9 8<|b_ 10 0<|z)<|
 (.block 0 [] ([5]++g 10 18)
 (.loop [10] ([5]++g 11 17)
 (S (R<|b 11 .lss (t 10) (t 9)<|z)<|
 (S (.cond (t 11) [] []
 .skip
 (.exit 0))<|
 (S (.block 1 [] ([5]++g 12 15)
 (S (R<|cz 12 1 8 10<|l 13 12<|m 5 13<|z)<|
 (S (S (R<|m 14 5<|dK 15 87 14<|m 16 15<|q 20 16 M [17,18,19] (m 17 3<|m 18 5<|o 19 (.lookup .int (.bool M) M (t 17) (t 18))<|z) (t 19)<|
 z)<|
 (.cond (t 20) [] []
 (.exit 1)
 .skip))<|
 (S (R<|m 21 3<|m 22 5<|n (.pR .int (t 21) (t 22) (.const (.bool V)))<|z)<|
 (S (R<|m 23 0<|m 24 5<|o 25 (.im (t 23) [(t 24)])<|dE 26 25<|z)<|
 (.cond (t 26) [] []
 .ret
 .skip))))))<|
 (R<|b 27 .add (t 10) (i 1)<|m 10 27<|z)))))))),[],[]⟩
theorem abU:cc 94 D2:=cf Tryz.func94 rfl
def JG(b:aT)(c:Nat)(e:U)(g:Z)(h:U)(i:Z)(j k:U)(l:bg):(bg)->bg:=λc m n=>u (ar .lss (aK m 0) k) λk=>aD (λ_ k=>aD (λ_ b=>u (ar .add (aK m 0) (J E 1)) λe=>c [e] (trim i [e] b)) λc=>u (bY 1 j (aK m 0)) λi=>u (ab M 1 i k) λi=>u (b 87 [i] k) λj=>bc (λj k=>aD (λ_ j=>u (p6 .int h i (.bool V) j) λh=>u (gz b e [i] h) λb=>u (dq .not b.1) λe=>aD (λ_ b=>c [] b) λc=>bb e (aN [] g b.2 []) (c [] b.2)) λb=>bb j (c [] k) (b [] k)) λb=>bd j.1 M (u (rX .int (.bool M) M h i j.2) λc=>b c j.2) (b (.bool V) j.2)) λb=>bb k (b [] n) (l [] n)
def PK(b:aT)(c:Nat)(e g:U)(h:Z):bl:=bK (.map h.length) (h++[.map [] .rw]) λi j=>u (aq 3 g) λg=>u (ab M 1 g j) λg=>u (bB M g) λk=>aD (λ_ b=>aN [] h b []) λl=>cv (JG b c e h i j g k l) c [(J E 0)] j
open Go.aM.G in
def wS:hZ:=(R<|m 3 5<|z)
open Go.aM.G in
def wT:hZ:=(.block 1 [] (g 6 9)
 (S (R<|m 6 3<|b 7 .gtr (t 6) (i 0)<|m 8 7<|q 14 8 V (g 9 5) (l 9 2<|m 10 3<|b 11 .sub (t 10) (i 1)<|o 12 (.im (t 9) [(t 11)])<|o 13 (.un .not (t 12))<|z) (t 13)<|
 z)<|
 (.cond (t 14) [] []
 .ret
 .skip)))
open Go.aM.G in
def D3:b2:=⟨2,15,(S (R<|dr 2 85 0<|z)<|
 (S (R<|l 4 1<|z)<|
 (.block 0 [] []
 (.jW (t 4) [2] [5] wS wT)))),[],[]⟩
theorem abV:cc 95 D3:=cf Tryz.func95 rfl
def PL(Γ:aT)(n:Nat)(al aC:U)(h:Z):bl:=bK (.ptr h.length 0) (h++[.box (cn al) 85 .rw]) λv0 h1=>(ab M 1 aC h1).bind λv2=>aD (λi aO=>aN [] h aO []) λj3=>(p7 Γ v2 [.yield h1.length] (h1++[.loop [v0] [2] [5] wS wT .ready none .rw])).bind λc=>(rY h1.length c.2).bind λe=>bK je (trim h1 [] (c.2.set h1.length .dead)) λj b=>
BB e (j3 [] b) (λg=>bif cM g 0 then(j3 [] b)else none) (aN [] h b [])
def PM(b:aT)(c:Nat)(e g:U)(h:Nat)(i:Z):bl:=u (qV h i) λc=>aD (λ_ b=>(nI h .normal b).map λb=>(b.1,trim i [] b.2)) λj=>u (ar .gtr g (J E 0)) λk=>bc (λb c=>aD (λ_ b=>j [] b) λe=>bb b ((nI h .ret c).map λb=>(b.1,trim i [] b.2)) (e [] c)) λh=>bd k V (u (ab M 1 e c) λe=>u (ar .sub g (J E 1)) λg=>u (gz b e [g] c) λb=>u (dq .not b.1) λc=>h c b.2) (h (.bool M) c)
theorem abW(Γ:aT)(n:Nat)(cU a5:U)(b:Nat)(h:Z)(eg:Option fN)(md:ep)(af:h[b]?=y (.loop [cU] [2] [5] wS wT .ready eg md)):ox Γ n (.ptr b 0::[a5]) h=PM Γ n cU a5 b h:=(IV af rfl).trans (by kernel_rfl)
open Go.aM.G in
def s5:hZ:=(R<|m 4 8<|z)
open Go.aM.G in
def s6:hZ:=(.block 1 [] ([6]++g 9 22)
 (S (R<|f 9 10 2<|l 10 9<|m 11 4<|o 12 (.indexAddr 2 (t 10) (t 11))<|f 13 1 12<|l 14 13<|o 15 (.len M (t 14))<|o 16 (.move (i 0))<|z)<|
 (.block 2 [] ([6]++g 16 15)
 (.loop [16] ([6]++g 17 14)
 (S (R<|b 17 .lss (t 16) (t 15)<|z)<|
 (S (.cond (t 17) [] []
 .skip
 (.exit 2))<|
 (S (.block 3 [] ([6]++g 18 12)
 (S (R<|o 18 (.indexAddr 6 (t 14) (t 16))<|o 19 (.load V 6 (t 18))<|o 6 (.new 41 [(.int .i64 0),(.int .i64 0),(.int .i64 0),(.int .i64 0),(.int .i64 0),(.int .i64 0)])<|n (.store 6 (t 6) (t 19))<|z)<|
 (S (R<|f 20 1 6<|l 21 20<|b 22 .gtr (t 21) (i 0)<|m 23 22<|q 29 23 V (g 24 5) (l 24 3<|f 25 1 6<|l 26 25<|o 27 (.im (t 24) [(t 26)])<|o 28 (.un .not (t 27))<|z) (t 28)<|
 z)<|
 (.cond (t 29) [] []
 .ret
 .skip))))<|
 (R<|b 30 .add (t 16) (i 1)<|m 16 30<|z))))))))
open Go.aM.G in
def D4:b2:=⟨3,31,(S (R<|dr 3 85 0<|z)<|
 (S (R<|l 7 1<|z)<|
 (.block 0 [] []
 (.jW (t 7) [2,3] [8] s5 s6)))),[],[]⟩
theorem abX:cc 96 D4:=cf Tryz.func96 rfl
def PN(Γ:aT)(n:Nat)(al aC b6:U)(h:Z):bl:=bK (.ptr h.length 0) (h++[.box (cn al) 85 .rw]) λv0 h1=>(ab M 1 aC h1).bind λv2=>aD (λi aO=>aN [] h aO []) λj3=>(p7 Γ v2 [.yield h1.length] (h1++[.loop [b6,v0] [2,3] [8] s5 s6 .ready none .rw])).bind λc=>(rY h1.length c.2).bind λe=>bK je (trim h1 [] (c.2.set h1.length .dead)) λj b=>
BB e (j3 [] b) (λg=>bif cM g 0 then(j3 [] b)else none) (aN [] h b [])
def JH(b:aT)(c:Nat)(e:U)(g:Nat)(h i:Z)(j k:U)(l:bg):(bg)->bg:=λc m n=>u (ar .lss (aK m 0) k) λk=>aD (λ_ k=>aD (λ_ b=>u (ar .add (aK m 0) (J E 1)) λe=>c [e] (trim i [e] b)) λc=>u (bY 6 j (aK m 0)) λi=>u (ab V 6 i k) λi=>bK (.ptr k.length 0) (k++[.box [J E 0,J E 0,J E 0,J E 0,J E 0,J E 0] 41 .rw]) λj k=>u (bf 6 j i k) λi=>u (aq 1 j) λk=>u (ab M 1 k i) λk=>u (ar .gtr k (J E 0)) λk=>bc (λb e=>aD (λ_ b=>c [] b) λc=>bb b ((nI g .ret e).map λb=>(b.1,trim h [] b.2)) (c [] e)) λc=>bd k V (u (ab M 1 e i) λe=>u (aq 1 j) λg=>u (ab M 1 g i) λg=>u (gz b e [g] i) λb=>u (dq .not b.1) λe=>c e b.2) (c (.bool M) i)) λb=>bb k (b [] n) (l [] n)
def PO(b:aT)(c:Nat)(e g h:U)(i:Nat)(j:Z):bl:=u (qV i j) λk=>aD (λ_ b=>(nI i .normal b).map λb=>(b.1,trim j [] b.2)) λl=>u (aq 10 e) λe=>u (ab M 1 e k) λe=>u (bY 2 e h) λe=>u (aq 1 e) λe=>u (ab M 1 e k) λe=>u (bB M e) λh=>aD (λ_ b=>l [] b) λl=>cv (JH b c g i j k e h l) c [(J E 0)] k
theorem abY(Γ:aT)(n:Nat)(cU c e:U)(b:Nat)(h:Z)(eg:Option fN)(md:ep)(af:h[b]?=y (.loop [cU,c] [2,3] [8] s5 s6 .ready eg md)):ox Γ n (.ptr b 0::[e]) h=PO Γ n cU c e b h:=(IV af rfl).trans (by kernel_rfl)
open Go.aM.G in
def D5:b2:=⟨2,13,(S (R<|l 4 1<|b_ 5 0<|z)<|
 (.block 0 [] ([3]++g 5 8)
 (.loop [5] ([3]++g 6 7)
 (S (R<|b 6 .lss (t 5) (t 4)<|z)<|
 (S (.cond (t 6) [] []
 .skip
 (.exit 0))<|
 (S (.block 1 [] ([3]++g 7 5)
 (S (R<|m 7 5<|m 3 7<|z)<|
 (S (R<|m 8 0<|m 9 3<|o 10 (.im (t 8) [(t 9)])<|dE 11 10<|z)<|
 (.cond (t 11) [] []
 .ret
 .skip))))<|
 (R<|b 12 .add (t 5) (i 1)<|m 5 12<|z))))))),[],[]⟩
theorem abZ:cc 97 D5:=cf Tryz.func97 rfl
def JI(b:aT)(c:Nat)(e:U)(g:Z)(h:U)(i:bg):(bg)->bg:=λc j k=>u (ar .lss (aK j 0) h) λh=>aD (λ_ h=>aD (λ_ b=>u (ar .add (aK j 0) (J E 1)) λe=>c [e] (trim g [e] b)) λc=>u (gz b e [(aK j 0)] h) λb=>u (dq .not b.1) λe=>aD (λ_ b=>c [] b) λc=>bb e (aN [] g b.2 []) (c [] b.2)) λb=>bb h (b [] k) (i [] k)
def PQ(b:aT)(c:Nat)(e g:U)(h:Z):bl:=u (ab M 1 g h) λg=>aD (λ_ b=>aN [] h b []) λi=>cv (JI b c e h g i) c [(J E 0)] h
open Go.aM.G in
def D6:b2:=⟨2,28,(S (R<|f 7 12 1<|l 8 7<|bW 9 8<|b_ 10 0<|z)<|
 (.block 0 [] ([4,6]++g 10 18)
 (.loop [10] ([4,6]++g 11 17)
 (S (R<|b 11 .lss (t 10) (t 9)<|z)<|
 (S (.cond (t 11) [] []
 .skip
 (.exit 0))<|
 (S (.block 1 [] ([4,6]++g 12 15)
 (S (R<|cz 12 33 8 10<|bR 13 33 12<|o 4 (.new 57 r5)<|bS 33 4 13<|z)<|
 (S (R<|f 14 1 4<|l 15 14<|bW 16 15<|b_ 17 0<|z)<|
 (.block 2 [] ([6]++g 17 10)
 (.loop [17] ([6]++g 18 9)
 (S (R<|b 18 .lss (t 17) (t 16)<|z)<|
 (S (.cond (t 18) [] []
 .skip
 (.exit 2))<|
 (S (.block 3 [] ([6]++g 19 7)
 (S (R<|cz 19 2 15 17<|bR 20 2 19<|o 6 (.new 89 [(.int .i64 0),(.int .i64 0)])<|bS 2 6 20<|z)<|
 (S (R<|m 21 0<|f 22 1 6<|l 23 22<|o 24 (.im (t 21) [(t 23)])<|dE 25 24<|z)<|
 (.cond (t 25) [] []
 .ret
 .skip))))<|
 (R<|b 26 .add (t 17) (i 1)<|m 17 26<|z)))))))))<|
 (R<|b 27 .add (t 10) (i 1)<|m 10 27<|z))))))),[],[]⟩
theorem ab0:cc 98 D6:=cf Tryz.func98 rfl
def D7(b:aT)(c:Nat)(e:U)(g h:Z)(i j:U)(k:bg):(bg)->bg:=λc l m=>u (ar .lss (aK l 0) j) λj=>aD (λ_ j=>aD (λ_ b=>u (ar .add (aK l 0) (J E 1)) λe=>c [e] (trim h [e] b)) λc=>u (bY 2 i (aK l 0)) λh=>u (ab V 2 h j) λh=>bK (.ptr j.length 0) (j++[.box [J E 0,J E 0] 89 .rw]) λi j=>u (bf 2 i h j) λh=>u (aq 1 i) λi=>u (ab M 1 i h) λi=>u (gz b e [i] h) λb=>u (dq .not b.1) λe=>aD (λ_ b=>c [] b) λc=>bb e (aN [] g b.2 []) (c [] b.2)) λb=>bb j (b [] m) (k [] m)
def JJ(b:aT)(c:Nat)(e:U)(g:Z)(h i:U)(j:bg):(bg)->bg:=λk l m=>u (ar .lss (aK l 0) i) λi=>aD (λ_ i=>aD (λ_ b=>u (ar .add (aK l 0) (J E 1)) λc=>k [c] (trim g [c] b)) λj=>u (bY 33 h (aK l 0)) λh=>u (ab V 33 h i) λh=>bK (.ptr i.length 0) (i++[.box iu 57 .rw]) λi k=>u (bf 33 i h k) λh=>u (aq 1 i) λi=>u (ab M 1 i h) λi=>u (bB M i) λk=>aD (λ_ b=>j [] b) λj=>cv (D7 b c e g h i k j) c [(J E 0)] h) λb=>bb i (b [] m) (j [] m)
def PR(b:aT)(c:Nat)(e g:U)(h:Z):bl:=u (aq 12 g) λg=>u (ab M 1 g h) λg=>u (bB M g) λi=>aD (λ_ b=>aN [] h b []) λj=>cv (JJ b c e h g i j) c [(J E 0)] h
open Go.aM.G in
def D8:b2:=⟨1,142,(S (R<|dr 1 27 0<|o 2 (.move (.const (.string ⟨#[]⟩)))<|b_ 3 0<|b_ 4 0<|z)<|
 (S (R<|f 10 1 1<|l 11 10<|dK 12 56 11<|m 9 12<|eV 13 9 0<|eV 14 9 1<|o 5 (.new 83 ji)<|bS 29 5 13<|m 6 14<|z)<|
 (S (D<|f 16 0 1<|l 17 16<|O 18 (.call 137 [(t 17)])<|O 19 (.call 136 [(t 18),(.const (.string ⟨#[110,97,109,101]⟩)),(i 1)])<|m 20 6<|b 21 .eql (t 20) (i 0)<|O 22 (.call 136 [(t 21),(.const (.string ⟨#[100,105,97,108,101,99,116]⟩)),(i 6)])<|f 23 2 1<|l 24 23<|f 25 1 5<|l 26 25<|O 27 (.call 57 [(t 24),(i 1),(t 26)])<|O 28 (.call 136 [(t 27),(.const (.string ⟨#[99,104,97,110,110,101,108,115]⟩)),(i 5)])<|(.op (y 29) (.mq 154 eY 3 [(0,3,(t 19)),(3,3,(t 22)),(6,3,(t 28))]) .no<|O 30 (.call 135 [(t 29)])<|m 15 30<|eV 31 15 0<|eV 32 15 1<|o 7 (.new 154 eY)<|bS 3 7 31<|m 8 32<|z))<|
 (S (S (R<|m 33 8<|z)<|
 (.cond (t 33) [] ([2,3,4]++g 34 6)
 (S (D<|f 34 0 7<|l 35 34<|f 36 1 7<|l 37 36<|f 38 2 7<|l 39 38<|m 2 35<|m 3 37<|m 4 39<|z)<|
 .ret)
 .skip))<|
 (S (D<|f 41 10 1<|l 42 41<|bW 43 42<|f 44 2 5<|l 45 44<|O 46 (.call 57 [(t 43),(i 1),(t 45)])<|O 47 (.call 136 [(t 46),(.const (.string ⟨#[112,97,116,116,101,114,110,115]⟩)),(i 4)])<|bR 48 13 1<|f 49 3 5<|l 50 49<|O 51 (.call 138 [(t 48),(t 50)])<|f 52 3 1<|l 53 52<|bW 54 53<|O 55 (.call 57 [(t 54),(i 1),(i 64)])<|O 56 (.call 136 [(t 55),(.const (.string ⟨#[111,114,100,101,114,115]⟩)),(i 4)])<|bR 57 13 1<|O 58 (.call 139 [(t 57)])<|f 59 4 1<|l 60 59<|f 61 3 1<|l 62 61<|bW 63 62<|b 64 .sub (t 63) (i 1)<|O 65 (.call 57 [(t 60),(i 0),(t 64)])<|O 66 (.call 136 [(t 65),(.const (.string ⟨#[114,101,115,116,97,114,116]⟩)),(i 5)])<|f 67 5 1<|l 68 67<|O 69 (.call 57 [(t 68),(i 1),(i 31)])<|O 70 (.call 136 [(t 69),(.const (.string ⟨#[115,112,101,101,100]⟩)),(i 5)])<|f 71 6 1<|l 72 71<|O 73 (.call 57 [(t 72),(i 32),(i 255)])<|O 74 (.call 136 [(t 73),(.const (.string ⟨#[116,101,109,112,111]⟩)),(i 5)])<|f 75 7 1<|l 76 75<|O 77 (.call 57 [(t 76),(i 0),(i 128)])<|O 78 (.call 136 [(t 77),(.const (.string ⟨#[103,108,111,98,97,108]⟩)),(i 5)])<|f 79 8 1<|l 80 79<|dE 81 80<|m 82 81<|q 85 82 M [83,84] (f 83 8 5<|l 84 83<|z) (t 84)<|
 O 86 (.call 136 [(t 85),(.const (.string ⟨#[108,105,110,101,97,114]⟩)),(i 6)])<|f 87 9 1<|l 88 87<|bW 89 88<|f 90 2 1<|l 91 90<|b 92 .eql (t 89) (t 91)<|O 93 (.call 136 [(t 92),(.const (.string ⟨#[112,97,110,115]⟩)),(i 4)])<|bR 94 13 1<|O 95 (.call 140 [(t 94)])<|f 96 11 1<|l 97 96<|bW 98 97<|b 99 .leq (t 98) (i 31)<|m 100 99<|q 110 100 V (g 101 4++[109]++g 105 4) (f 101 1 1<|l 102 101<|b 103 .neq (t 102) (i 6)<|m 104 103<|q 109 104 M (g 105 4) (f 105 11 1<|l 106 105<|bW 107 106<|b 108 .eql (t 107) (i 0)<|z) (t 108)<|
 z) (t 109)<|
 O 111 (.call 136 [(t 110),(.const (.string ⟨#[115,97,109,112,108,101,115]⟩)),(i 4)])<|bR 112 13 1<|O 113 (.call 141 [(t 112)])<|f 114 12 1<|l 115 114<|bW 116 115<|b 117 .leq (t 116) (i 31)<|m 118 117<|q 127 118 V ([119,120,121,126]++g 122 4) (f 119 6 5<|l 120 119<|m 121 120<|q 126 121 M (g 122 4) (f 122 12 1<|l 123 122<|bW 124 123<|b 125 .eql (t 124) (i 0)<|z) (t 125)<|
 z) (t 126)<|
 O 128 (.call 136 [(t 127),(.const (.string ⟨#[105,110,115,116,115]⟩)),(i 4)])<|bR 129 13 1<|dK 130 142 129<|(.op (y 131) (.mq 154 eY 15 [(0,3,(t 47)),(3,3,(t 51)),(6,3,(t 56)),(9,3,(t 58)),(12,3,(t 66)),(15,3,(t 70)),(18,3,(t 74)),(21,3,(t 78)),(24,3,(t 86)),(27,3,(t 93)),(30,3,(t 95)),(33,3,(t 111)),(36,3,(t 113)),(39,3,(t 128)),(42,3,(t 130))]) .no<|dK 132 135 131<|m 40 132<|eV 133 40 0<|eV 134 40 1<|bS 3 7 133<|m 8 134<|z))<|
 (S (S (R<|m 135 8<|z)<|
 (.cond (t 135) [] ([2,3,4]++g 136 6)
 (S (D<|f 136 0 7<|l 137 136<|f 138 1 7<|l 139 138<|f 140 2 7<|l 141 140<|m 2 137<|m 3 139<|m 4 141<|z)<|
 .ret)
 .skip))<|
 (S (R<|o 2 (.move (.const (.string ⟨#[]⟩)))<|o 3 (.move (i (-1)))<|b_ 4 0<|z)<|
 .ret))))))),[.tmp 2,.tmp 3,.tmp 4],[.aj,.aj,.aj]⟩
theorem ab1:cc 99 D8:=cf Tryz.func99 rfl
def PS(b:aT)(c:Nat)(e:U)(g:Z):bl:=bK (.ptr g.length 0) (g++[.box (cn e) 27 .rw]) λc e=>u (aq 1 c) λh=>u (ab M 1 h e) λh=>u (b 56 [h] e) λe=>u (ek e.1 0) λh=>u (ek e.1 1) λi=>bK (.ptr e.2.length 0) (e.2++[.box e8 83 .rw]) λe j=>u (bf 29 e h j) λh=>u (aq 0 c) λj=>u (ab M 1 j h) λj=>u (b 137 [j] (lock h)) λj=>d' h j.2 λh=>u (b 136 [j.1,(.str ⟨#[110,97,109,101]⟩:U),(J E 1)] (lock h)) λj=>d' h j.2 λh=>u (ar .eql i (J E 0)) λi=>u (b 136 [i,(.str ⟨#[100,105,97,108,101,99,116]⟩:U),(J E 6)] (lock h)) λi=>d' h i.2 λh=>u (aq 2 c) λk=>u (ab M 1 k h) λk=>u (aq 1 e) λl=>u (ab M 1 l h) λl=>u (b 57 [k,(J E 1),l] (lock h)) λk=>d' h k.2 λh=>u (b 136 [k.1,(.str ⟨#[99,104,97,110,110,101,108,115]⟩:U),(J E 5)] (lock h)) λk=>d' h k.2 λh=>u (cV (h_ [.str ⟨#[]⟩,J E 0,J E 0] 3) [(0,3,j.1),(3,3,i.1),(6,3,k.1)]) λi=>hb (i.all fR) (bK (.bE 3 (h9 3 3 i)) (h) λh i=>u (b 135 [h] (lock i)) λh=>d' i h.2 λi=>u (ek h.1 0) λj=>u (ek h.1 1) λh=>bK (.ptr i.length 0) (i++[.box [.str ⟨#[]⟩,J E 0,J E 0] 154 .rw]) λi k=>u (bf 3 i j k) λj=>aD (λ_ h=>u (aq 10 c) λj=>u (ab M 1 j h) λj=>u (bB M j) λj=>u (aq 2 e) λk=>u (ab M 1 k h) λk=>u (b 57 [j,(J E 1),k] (lock h)) λj=>d' h j.2 λh=>u (b 136 [j.1,(.str ⟨#[112,97,116,116,101,114,110,115]⟩:U),(J E 4)] (lock h)) λj=>d' h j.2 λh=>u (ab V 13 c h) λk=>u (aq 3 e) λl=>u (ab M 1 l h) λl=>u (b 138 [k,l] (lock h)) λk=>d' h k.2 λh=>u (aq 3 c) λl=>u (ab M 1 l h) λl=>u (bB M l) λl=>u (b 57 [l,(J E 1),(J E 64)] (lock h)) λl=>d' h l.2 λh=>u (b 136 [l.1,(.str ⟨#[111,114,100,101,114,115]⟩:U),(J E 4)] (lock h)) λl=>d' h l.2 λh=>u (ab V 13 c h) λm=>u (b 139 [m] (lock h)) λm=>d' h m.2 λh=>u (aq 4 c) λn=>u (ab M 1 n h) λn=>u (aq 3 c) λo=>u (ab M 1 o h) λo=>u (bB M o) λo=>u (ar .sub o (J E 1)) λo=>u (b 57 [n,(J E 0),o] (lock h)) λn=>d' h n.2 λh=>u (b 136 [n.1,(.str ⟨#[114,101,115,116,97,114,116]⟩:U),(J E 5)] (lock h)) λn=>d' h n.2 λh=>u (aq 5 c) λo=>u (ab M 1 o h) λo=>u (b 57 [o,(J E 1),(J E 31)] (lock h)) λo=>d' h o.2 λh=>u (b 136 [o.1,(.str ⟨#[115,112,101,101,100]⟩:U),(J E 5)] (lock h)) λo=>d' h o.2 λh=>u (aq 6 c) λp=>u (ab M 1 p h) λp=>u (b 57 [p,(J E 32),(J E 255)] (lock h)) λp=>d' h p.2 λh=>u (b 136 [p.1,(.str ⟨#[116,101,109,112,111]⟩:U),(J E 5)] (lock h)) λp=>d' h p.2 λh=>u (aq 7 c) λq=>u (ab M 1 q h) λq=>u (b 57 [q,(J E 0),(J E 128)] (lock h)) λq=>d' h q.2 λh=>u (b 136 [q.1,(.str ⟨#[103,108,111,98,97,108]⟩:U),(J E 5)] (lock h)) λq=>d' h q.2 λh=>u (aq 8 c) λt=>u (ab M 1 t h) λt=>u (dq .not t) λt=>bc (λh t=>u (b 136 [h,(.str ⟨#[108,105,110,101,97,114]⟩:U),(J E 6)] (lock t)) λh=>d' t h.2 λt=>u (aq 9 c) λw=>u (ab M 1 w t) λw=>u (bB M w) λw=>u (aq 2 c) λx=>u (ab M 1 x t) λx=>u (ar .eql w x) λw=>u (b 136 [w,(.str ⟨#[112,97,110,115]⟩:U),(J E 4)] (lock t)) λw=>d' t w.2 λt=>u (ab V 13 c t) λx=>u (b 140 [x] (lock t)) λx=>d' t x.2 λt=>u (aq 11 c) λy=>u (ab M 1 y t) λy=>u (bB M y) λy=>u (ar .leq y (J E 31)) λy=>bc (λt y=>u (b 136 [t,(.str ⟨#[115,97,109,112,108,101,115]⟩:U),(J E 4)] (lock y)) λt=>d' y t.2 λy=>u (ab V 13 c y) λz=>u (b 141 [z] (lock y)) λz=>d' y z.2 λy=>u (aq 12 c) λA=>u (ab M 1 A y) λA=>u (bB M A) λA=>u (ar .leq A (J E 31)) λA=>bc (λe y=>u (b 136 [e,(.str ⟨#[105,110,115,116,115]⟩:U),(J E 4)] (lock y)) λe=>d' y e.2 λy=>u (ab V 13 c y) λc=>u (b 142 [c] y) λc=>u (cV (h_ [.str ⟨#[]⟩,J E 0,J E 0] 15) [(0,3,j.1),(3,3,k.1),(6,3,l.1),(9,3,m.1),(12,3,n.1),(15,3,o.1),(18,3,p.1),(21,3,q.1),(24,3,h.1),(27,3,w.1),(30,3,x.1),(33,3,t.1),(36,3,z.1),(39,3,e.1),(42,3,c.1)]) λe=>hb (e.all fR) (bK (.bE 3 (h9 3 15 e)) (c.2) λc e=>u (b 135 [c] e) λb=>u (ek b.1 0) λc=>u (ek b.1 1) λe=>u (bf 3 i c b.2) λb=>aD (λ_ b=>aN [.aj,.aj,.aj] g b [(.str ⟨#[]⟩:U),(J E (-1)),(J E 0)]) λc=>bb e (u (aq 0 i) λc=>u (ab M 1 c b) λc=>u (aq 1 i) λe=>u (ab M 1 e b) λe=>u (aq 2 i) λh=>u (ab M 1 h b) λh=>aN [.aj,.aj,.aj] g b [c,e,h]) (c [] b))) λb=>bd A V (u (aq 6 e) λe=>u (ab M 1 e y) λe=>bc (λc e=>b c e) λb=>bd e M (u (aq 12 c) λc=>u (ab M 1 c y) λc=>u (bB M c) λc=>u (ar .eql c (J E 0)) λc=>b c y) (b (.bool V) y)) (b (.bool M) y)) λb=>bd y V (u (aq 1 c) λe=>u (ab M 1 e t) λe=>u (ar .neq e (J E 6)) λe=>bc (λc e=>b c e) λb=>bd e M (u (aq 11 c) λc=>u (ab M 1 c t) λc=>u (bB M c) λc=>u (ar .eql c (J E 0)) λc=>b c t) (b (.bool V) t)) (b (.bool M) t)) λb=>bd t M (u (aq 8 e) λc=>u (ab M 1 c h) λc=>b c h) (b (.bool V) h)) λb=>bb h (u (aq 0 i) λb=>u (ab M 1 b j) λb=>u (aq 1 i) λc=>u (ab M 1 c j) λc=>u (aq 2 i) λe=>u (ab M 1 e j) λe=>aN [.aj,.aj,.aj] g j [b,c,e]) (b [] j))
open Go.aM.G in
def D9:b2:=⟨2,50,(S (R<|dr 2 27 0<|z)<|
 (S (R<|f 7 10 2<|l 8 7<|bW 9 8<|b_ 10 0<|z)<|
 (.block 0 [] ([4,5,6]++g 10 40)
 (.loop [10] ([4,5,6]++g 11 39)
 (S (R<|b 11 .lss (t 10) (t 9)<|z)<|
 (S (.cond (t 11) [] []
 .skip
 (.exit 0))<|
 (S (.block 1 [] ([4,5,6]++g 12 37)
 (S (R<|m 12 10<|m 4 12<|z)<|
 (S (R<|f 13 10 2<|l 14 13<|m 15 4<|cz 16 2 14 15<|f 17 1 16<|l 18 17<|bW 19 18<|b_ 20 0<|z)<|
 (.block 2 [] ([5,6]++g 20 29)
 (.loop [20] ([5,6]++g 21 28)
 (S (R<|b 21 .lss (t 20) (t 19)<|z)<|
 (S (.cond (t 21) [] []
 .skip
 (.exit 2))<|
 (S (.block 3 [] ([5,6]++g 22 26)
 (S (R<|m 22 20<|m 5 22<|z)<|
 (S (R<|f 23 10 2<|l 24 23<|m 25 4<|cz 26 2 24 25<|f 27 1 26<|l 28 27<|m 29 5<|cz 30 6 28 29<|m 6 30<|z)<|
 (S (R<|m 31 6<|gp 32 31<|f 33 1 32<|l 34 33<|b 35 .neq (t 34) (i 0)<|z)<|
 (.cond (t 35) [] (g 36 12)
 (R<|m 36 6<|m 37 1<|m 38 6<|gp 39 38<|f 40 1 39<|l 41 40<|b 42 .sub (t 41) (i 1)<|cz 43 1 37 42<|l 44 43<|b 45 .add (i 1) (t 44)<|gp 46 36<|f 47 1 46<|bS 1 47 45<|z)
 .skip)))))<|
 (R<|b 48 .add (t 20) (i 1)<|m 20 48<|z)))))))))<|
 (R<|b 49 .add (t 10) (i 1)<|m 10 49<|z)))))))),[],[]⟩
theorem ab2:cc 100 D9:=cf Tryz.func100 rfl
def zB(b:aT)(c:Nat)(e g:U)(h:List U)(i:Z)(j:U)(k:bg):(bg)->bg:=λb c l=>u (ar .lss (aK c 0) j) λj=>aD (λ_ j=>aD (λ_ e=>u (ar .add (aK c 0) (J E 1)) λc=>b [c] (trim i [c] e)) λb=>u (aq 10 g) λg=>u (ab M 1 g j) λg=>u (bY 2 g (aK h 0)) λg=>u (aq 1 g) λg=>u (ab M 1 g j) λg=>u (bY 6 g (aK c 0)) λc=>u (fS c) λg=>u (aq 1 g) λg=>u (ab M 1 g j) λg=>u (ar .neq g (J E 0)) λg=>aD (λ_ c=>b [] c) λb=>bb g (u (fS c) λg=>u (aq 1 g) λg=>u (ab M 1 g j) λg=>u (ar .sub g (J E 1)) λg=>u (bY 1 e g) λe=>u (ab M 1 e j) λe=>u (ar .add (J E 1) e) λe=>u (fS c) λc=>u (aq 1 c) λc=>u (bf 1 c e j) λc=>b [] c) (b [] j)) λb=>bb j (b [] l) (k [] l)
def JK(b:aT)(c:Nat)(e g:U)(h:Z)(i:U)(j:bg):(bg)->bg:=λk l m=>u (ar .lss (aK l 0) i) λi=>aD (λ_ i=>aD (λ_ b=>u (ar .add (aK l 0) (J E 1)) λc=>k [c] (trim h [c] b)) λh=>u (aq 10 g) λj=>u (ab M 1 j i) λj=>u (bY 2 j (aK l 0)) λj=>u (aq 1 j) λj=>u (ab M 1 j i) λj=>u (bB M j) λj=>aD (λ_ b=>h [] b) λh=>cv (zB b c e g l i j h) c [(J E 0)] i) λb=>bb i (b [] m) (j [] m)
def PT(b:aT)(c:Nat)(e g:U)(h:Z):bl:=bK (.ptr h.length 0) (h++[.box (cn e) 27 .rw]) λe i=>u (aq 10 e) λj=>u (ab M 1 j i) λj=>u (bB M j) λj=>aD (λ_ b=>aN [] h b []) λh=>cv (JK b c g e i j h) c [(J E 0)] i
open Go.aM.G in
def D_:b2:=⟨1,9,(S (R<|cw 2<|z)<|
 (S (R<|m 3 0<|b 4 .geq (t 3) (i 1)<|m 5 4<|q 8 5 V [6,7] (m 6 0<|b 7 .leq (t 6) (i 6)<|z) (t 7)<|
 m 2 8<|z)<|
 .ret)),[.tmp 2],[.aj]⟩
theorem ab3:cc 101 D_:=cf Tryz.func101 rfl
def PU(b:aT)(c:Nat)(e:U)(g:Z):bl:=u (ar .geq e (J E 1)) λb=>bc (λb c=>aN [.aj] g c [b]) λc=>bd b V (u (ar .leq e (J E 6)) λb=>c b g) (c (.bool M) g)
open Go.aM.G in
def D':b2:=⟨0,8,(S (R<|o 0 (.new 131 OC)<|z)<|
 (S (R<|o 1 (.build ji [(0,1,(.const (.string ⟨#[102,111,117,114]⟩))),(1,1,(i 4)),(2,1,(i 32)),(3,1,(i 64)),(4,1,(i 49)),(5,1,(i 84)),(9,1,(i 1)),(10,1,(i 453)),(11,1,(i 3424)),(16,1,(i 5)),(17,1,(.const (.bool V))),(18,1,(i 1)),(19,1,(.const (.bool V))),(21,1,(i 1)),(22,1,(.const (.bool V))),(25,1,(.const (.bool V)))])<|o 2 (.build ji [(0,1,(.const (.string ⟨#[115,99,114,101,97,109]⟩))),(1,1,(i 16)),(2,1,(i 32)),(3,1,(i 64)),(4,1,(i 13)),(5,1,(i 108)),(7,1,(.const (.bool V))),(9,1,(i 1)),(10,1,(i 64)),(11,1,(i 32767)),(16,1,(i 5))])<|o 3 (.build ji [(0,1,(.const (.string ⟨#[102,97,115,116]⟩))),(1,1,(i 16)),(2,1,(i 32)),(4,1,(i 1)),(5,1,(i 96)),(6,1,(.const (.bool V))),(7,1,(.const (.bool V))),(8,1,(.const (.bool V))),(10,1,(i 32)),(11,1,(i 65535)),(12,1,(.const (.bool V))),(16,1,(i 6)),(17,1,(.const (.bool V))),(19,1,(.const (.bool V))),(20,1,(.const (.bool V))),(21,1,(i 1)),(23,1,(.const (.bool V))),(24,1,(.const (.bool V))),(25,1,(.const (.bool V))),(26,1,(.const (.bool V))),(27,1,(.const (.bool V)))])<|o 4 (.build ji [(0,1,(.const (.string ⟨#[105,109,112,117,108,115,101]⟩))),(1,1,(i 16)),(2,1,(i 32)),(4,1,(i 1)),(5,1,(i 120)),(6,1,(.const (.bool V))),(7,1,(.const (.bool V))),(8,1,(.const (.bool V))),(10,1,(i 16)),(11,1,(i 65535)),(15,1,(.const (.bool V))),(16,1,(i 6)),(19,1,(.const (.bool V))),(21,1,(i 2)),(23,1,(.const (.bool V))),(27,1,(.const (.bool V)))])<|o 5 (.build ji [(0,1,(.const (.string ⟨#[99,111,109,112,111,115,101]⟩))),(1,1,(i 8)),(2,1,(i 32)),(3,1,(i 64)),(4,1,(i 13)),(5,1,(i 72)),(9,1,(i 2)),(13,1,(.const (.bool V))),(16,1,(i 5)),(18,1,(i 2)),(28,1,(.const (.bool V)))])<|o 6 (.build ji [(0,1,(.const (.string ⟨#[99,104,105,112]⟩))),(1,1,(i 4)),(2,1,(i 32)),(4,1,(i 13)),(5,1,(i 108)),(6,1,(.const (.bool V))),(9,1,(i 1)),(10,1,(i 16)),(11,1,(i 65535)),(14,1,(.const (.bool V))),(16,1,(i 5)),(17,1,(.const (.bool V))),(18,1,(i 2)),(23,1,(.const (.bool V))),(27,1,(.const (.bool V)))])<|o 7 (.build OC [(29,29,(t 1)),(58,29,(t 2)),(87,29,(t 3)),(116,29,(t 4)),(145,29,(t 5)),(174,29,(t 6))])<|bS 203 0 7<|z)<|
 .ret)),[.cell 0 V 203],[.aj]⟩
theorem ab4:cc 102 D':=cf Tryz.func102 rfl
def PV(b:aT)(c:Nat)(e:Z):bl:=bK (.ptr e.length 0) (e++[.box Cg 131 .rw]) λb c=>u (cV e8 [(0,1,(.str ⟨#[102,111,117,114]⟩:U)),(1,1,(J E 4)),(2,1,(J E 32)),(3,1,(J E 64)),(4,1,(J E 49)),(5,1,(J E 84)),(9,1,(J E 1)),(10,1,(J E 453)),(11,1,(J E 3424)),(16,1,(J E 5)),(17,1,(.bool V)),(18,1,(J E 1)),(19,1,(.bool V)),(21,1,(J E 1)),(22,1,(.bool V)),(25,1,(.bool V))]) λg=>u (cV e8 [(0,1,(.str ⟨#[115,99,114,101,97,109]⟩:U)),(1,1,(J E 16)),(2,1,(J E 32)),(3,1,(J E 64)),(4,1,(J E 13)),(5,1,(J E 108)),(7,1,(.bool V)),(9,1,(J E 1)),(10,1,(J E 64)),(11,1,(J E 32767)),(16,1,(J E 5))]) λh=>u (cV e8 [(0,1,(.str ⟨#[102,97,115,116]⟩:U)),(1,1,(J E 16)),(2,1,(J E 32)),(4,1,(J E 1)),(5,1,(J E 96)),(6,1,(.bool V)),(7,1,(.bool V)),(8,1,(.bool V)),(10,1,(J E 32)),(11,1,(J E 65535)),(12,1,(.bool V)),(16,1,(J E 6)),(17,1,(.bool V)),(19,1,(.bool V)),(20,1,(.bool V)),(21,1,(J E 1)),(23,1,(.bool V)),(24,1,(.bool V)),(25,1,(.bool V)),(26,1,(.bool V)),(27,1,(.bool V))]) λi=>u (cV e8 [(0,1,(.str ⟨#[105,109,112,117,108,115,101]⟩:U)),(1,1,(J E 16)),(2,1,(J E 32)),(4,1,(J E 1)),(5,1,(J E 120)),(6,1,(.bool V)),(7,1,(.bool V)),(8,1,(.bool V)),(10,1,(J E 16)),(11,1,(J E 65535)),(15,1,(.bool V)),(16,1,(J E 6)),(19,1,(.bool V)),(21,1,(J E 2)),(23,1,(.bool V)),(27,1,(.bool V))]) λj=>u (cV e8 [(0,1,(.str ⟨#[99,111,109,112,111,115,101]⟩:U)),(1,1,(J E 8)),(2,1,(J E 32)),(3,1,(J E 64)),(4,1,(J E 13)),(5,1,(J E 72)),(9,1,(J E 2)),(13,1,(.bool V)),(16,1,(J E 5)),(18,1,(J E 2)),(28,1,(.bool V))]) λk=>u (cV e8 [(0,1,(.str ⟨#[99,104,105,112]⟩:U)),(1,1,(J E 4)),(2,1,(J E 32)),(4,1,(J E 13)),(5,1,(J E 108)),(6,1,(.bool V)),(9,1,(J E 1)),(10,1,(J E 16)),(11,1,(J E 65535)),(14,1,(.bool V)),(16,1,(J E 5)),(17,1,(.bool V)),(18,1,(J E 2)),(23,1,(.bool V)),(27,1,(.bool V))]) λl=>u (cV Cg [(29,29,(U.agg g)),(58,29,(U.agg h)),(87,29,(U.agg i)),(116,29,(U.agg j)),(145,29,(U.agg k)),(174,29,(U.agg l))]) λg=>u (bf 203 b (U.agg g) c) λc=>u (ab V 203 b c) λb=>aN [.aj] e c [b]
open Go.aM.G in
def Ea:b2:=⟨1,5,(S (R<|cw 2<|z)<|
 (S (R<|m 3 0<|o 4 (.call 104 [(t 3),(i 1),(i 16)])<|m 2 4<|z)<|
 .ret)),[.tmp 2],[.aj]⟩
theorem ab5:cc 103 Ea:=cf Tryz.func103 rfl
def PW(b:aT)(c:Nat)(e:U)(g:Z):bl:=u (b 104 [e,(J E 1),(J E 16)] g) λb=>aN [.aj] g b.2 [b.1]
open Go.aM.G in
def Eb:b2:=⟨3,15,(S (R<|cw 6<|z)<|
 (S (R<|m 7 0<|m 8 1<|b 9 .geq (t 7) (t 8)<|m 10 9<|q 14 10 V [11,12,13] (m 11 0<|m 12 2<|b 13 .leq (t 11) (t 12)<|z) (t 13)<|
 m 6 14<|z)<|
 .ret)),[.tmp 6],[.aj]⟩
theorem ab6:cc 104 Eb:=cf Tryz.func104 rfl
def PX(b:aT)(c:Nat)(e g h:U)(i:Z):bl:=u (ar .geq e g) λb=>bc (λb c=>aN [.aj] i c [b]) λc=>bd b V (u (ar .leq e h) λb=>c b i) (c (.bool M) i)
open Go.aM.G in
def Ec:b2:=⟨1,135,(S (R<|dr 1 57 0<|cw 2<|z)<|
 (S (S (R<|b_ 3 0<|z)<|
 (.block 0 [] (g 2 33)
 (.loop [3] ([2]++g 4 31)
 (S (S (R<|m 5 3<|f 6 1 1<|l 7 6<|bW 8 7<|b 9 .lss (t 5) (t 8)<|z)<|
 (.cond (t 9) [] []
 .skip
 (.exit 0)))<|
 (S (.block 1 [] ([2,4]++g 12 23)
 (S (R<|f 12 1 1<|l 13 12<|m 14 3<|cz 15 2 13 14<|bR 16 2 15<|o 4 (.new 89 [(.int .i64 0),(.int .i64 0)])<|bS 2 4 16<|z)<|
 (S (R<|f 17 0 4<|l 18 17<|b 19 .lss (t 18) (i 0)<|m 20 19<|q 24 20 M [21,22,23] (f 21 0 4<|l 22 21<|b 23 .gtr (t 22) (i 119)<|z) (t 23)<|
 m 25 24<|q 29 25 M [26,27,28] (f 26 1 4<|l 27 26<|b 28 .lss (t 27) (i 0)<|z) (t 28)<|
 m 30 29<|q 34 30 M [31,32,33] (f 31 1 4<|l 32 31<|b 33 .gtr (t 32) (i 31)<|z) (t 33)<|
 z)<|
 (.cond (t 34) [] [2]
 (S (R<|cw 2<|z)<|
 .ret)
 .skip))))<|
 (R<|m 10 3<|b 11 .add (t 10) (i 1)<|m 3 11<|z))))))<|
 (S (R<|f 35 0 1<|l 36 35<|dK 37 137 36<|m 38 37<|q 49 38 V (g 39 5++[48]++g 44 4) (f 39 1 1<|l 40 39<|bW 41 40<|b 42 .eql (t 41) (i 0)<|m 43 42<|q 48 43 M (g 44 4) (f 44 1 1<|l 45 44<|bW 46 45<|b 47 .eql (t 46) (i 120)<|z) (t 47)<|
 z) (t 48)<|
 m 50 49<|q 54 50 V [51,52,53] (f 51 2 1<|bR 52 8 51<|o 53 (.call 145 [(t 52),(i 0),(i 64)])<|z) (t 53)<|
 m 55 54<|q 59 55 V [56,57,58] (f 56 10 1<|bR 57 8 56<|o 58 (.call 145 [(t 57),(i (-32)),(i 32)])<|z) (t 58)<|
 m 60 59<|q 64 60 V [61,62,63] (f 61 18 1<|bR 62 8 61<|o 63 (.call 145 [(t 62),(i (-32)),(i 32)])<|z) (t 63)<|
 m 65 64<|q 69 65 V [66,67,68] (f 66 26 1<|l 67 66<|b 68 .leq (i 0) (t 67)<|z) (t 68)<|
 m 70 69<|q 74 70 V [71,72,73] (f 71 26 1<|l 72 71<|b 73 .leq (t 72) (i 1024)<|z) (t 73)<|
 m 75 74<|q 79 75 V [76,77,78] (f 76 27 1<|l 77 76<|b 78 .leq (i 0) (t 77)<|z) (t 78)<|
 m 80 79<|q 84 80 V [81,82,83] (f 81 27 1<|l 82 81<|b 83 .leq (t 82) (i 3)<|z) (t 83)<|
 m 85 84<|q 89 85 V [86,87,88] (f 86 28 1<|l 87 86<|b 88 .leq (i 0) (t 87)<|z) (t 88)<|
 m 90 89<|q 94 90 V [91,92,93] (f 91 28 1<|l 92 91<|b 93 .leq (t 92) (i 3)<|z) (t 93)<|
 m 95 94<|q 99 95 V [96,97,98] (f 96 29 1<|l 97 96<|b 98 .leq (i 0) (t 97)<|z) (t 98)<|
 m 100 99<|q 104 100 V [101,102,103] (f 101 29 1<|l 102 101<|b 103 .leq (t 102) (i 2)<|z) (t 103)<|
 m 105 104<|q 109 105 V [106,107,108] (f 106 30 1<|l 107 106<|b 108 .leq (i 0) (t 107)<|z) (t 108)<|
 m 110 109<|q 114 110 V [111,112,113] (f 111 30 1<|l 112 111<|b 113 .leq (t 112) (i 64)<|z) (t 113)<|
 m 115 114<|q 119 115 V [116,117,118] (f 116 31 1<|l 117 116<|b 118 .leq (i (-1)) (t 117)<|z) (t 118)<|
 m 120 119<|q 124 120 V [121,122,123] (f 121 31 1<|l 122 121<|b 123 .leq (t 122) (i 127)<|z) (t 123)<|
 m 125 124<|q 129 125 V [126,127,128] (f 126 32 1<|l 127 126<|b 128 .leq (i (-1)) (t 127)<|z) (t 128)<|
 m 130 129<|q 134 130 V [131,132,133] (f 131 32 1<|l 132 131<|b 133 .leq (t 132) (i 127)<|z) (t 133)<|
 m 2 134<|z)<|
 .ret))),[.tmp 2],[.aj]⟩
theorem ab7:cc 110 Ec:=cf Tryz.func110 rfl
def Ed(b:aT)(c:Nat)(e:Z)(g:U)(h:Z)(i:bg):(bg)->bg:=λb c j=>u (aq 1 g) λk=>u (ab M 1 k j) λk=>u (bB M k) λk=>u (ar .lss (aK c 0) k) λk=>aD (λ_ i=>aD (λ_ e=>u (ar .add (aK c 0) (J E 1)) λc=>b [c] (trim h [c] e)) λb=>u (aq 1 g) λg=>u (ab M 1 g i) λg=>u (bY 2 g (aK c 0)) λc=>u (ab V 2 c i) λc=>bK (.ptr i.length 0) (i++[.box [J E 0,J E 0] 89 .rw]) λg h=>u (bf 2 g c h) λc=>u (aq 0 g) λh=>u (ab M 1 h c) λh=>u (ar .lss h (J E 0)) λh=>bc (λc h=>bc (λc h=>bc (λc g=>aD (λ_ c=>b [] c) λb=>bb c (aN [.aj] e g [(.bool M)]) (b [] g)) λb=>bd c M (u (aq 1 g) λc=>u (ab M 1 c h) λc=>u (ar .gtr c (J E 31)) λc=>b c h) (b (.bool V) h)) λb=>bd c M (u (aq 1 g) λc=>u (ab M 1 c h) λc=>u (ar .lss c (J E 0)) λc=>b c h) (b (.bool V) h)) λb=>bd h M (u (aq 0 g) λe=>u (ab M 1 e c) λe=>u (ar .gtr e (J E 119)) λe=>b e c) (b (.bool V) c)) λb=>bb k (b [] j) (i [] j)
def PY(b:aT)(c:Nat)(e:U)(g:Z):bl:=bK (.ptr g.length 0) (g++[.box (cn e) 57 .rw]) λe h=>aD (λ_ c=>u (aq 0 e) λh=>u (ab M 1 h c) λh=>u (b 137 [h] c) λc=>bc (λc h=>bc (λc h=>bc (λc h=>bc (λb c=>bc (λb c=>bc (λb c=>bc (λb c=>bc (λb c=>bc (λb c=>bc (λb c=>bc (λb c=>bc (λb c=>bc (λb c=>bc (λb c=>bc (λb c=>bc (λb c=>bc (λb c=>bc (λb c=>aN [.aj] g c [b]) λg=>bd b V (u (aq 32 e) λb=>u (ab M 1 b c) λb=>u (ar .leq b (J E 127)) λb=>g b c) (g (.bool M) c)) λg=>bd b V (u (aq 32 e) λb=>u (ab M 1 b c) λb=>u (ar .leq (J E (-1)) b) λb=>g b c) (g (.bool M) c)) λg=>bd b V (u (aq 31 e) λb=>u (ab M 1 b c) λb=>u (ar .leq b (J E 127)) λb=>g b c) (g (.bool M) c)) λg=>bd b V (u (aq 31 e) λb=>u (ab M 1 b c) λb=>u (ar .leq (J E (-1)) b) λb=>g b c) (g (.bool M) c)) λg=>bd b V (u (aq 30 e) λb=>u (ab M 1 b c) λb=>u (ar .leq b (J E 64)) λb=>g b c) (g (.bool M) c)) λg=>bd b V (u (aq 30 e) λb=>u (ab M 1 b c) λb=>u (ar .leq (J E 0) b) λb=>g b c) (g (.bool M) c)) λg=>bd b V (u (aq 29 e) λb=>u (ab M 1 b c) λb=>u (ar .leq b (J E 2)) λb=>g b c) (g (.bool M) c)) λg=>bd b V (u (aq 29 e) λb=>u (ab M 1 b c) λb=>u (ar .leq (J E 0) b) λb=>g b c) (g (.bool M) c)) λg=>bd b V (u (aq 28 e) λb=>u (ab M 1 b c) λb=>u (ar .leq b (J E 3)) λb=>g b c) (g (.bool M) c)) λg=>bd b V (u (aq 28 e) λb=>u (ab M 1 b c) λb=>u (ar .leq (J E 0) b) λb=>g b c) (g (.bool M) c)) λg=>bd b V (u (aq 27 e) λb=>u (ab M 1 b c) λb=>u (ar .leq b (J E 3)) λb=>g b c) (g (.bool M) c)) λg=>bd b V (u (aq 27 e) λb=>u (ab M 1 b c) λb=>u (ar .leq (J E 0) b) λb=>g b c) (g (.bool M) c)) λg=>bd b V (u (aq 26 e) λb=>u (ab M 1 b c) λb=>u (ar .leq b (J E 1024)) λb=>g b c) (g (.bool M) c)) λg=>bd b V (u (aq 26 e) λb=>u (ab M 1 b c) λb=>u (ar .leq (J E 0) b) λb=>g b c) (g (.bool M) c)) λg=>bd c V (u (aq 18 e) λc=>u (ab V 8 c h) λc=>u (b 145 [c,(J E (-32)),(J E 32)] h) λb=>g b.1 b.2) (g (.bool M) h)) λg=>bd c V (u (aq 10 e) λc=>u (ab V 8 c h) λc=>u (b 145 [c,(J E (-32)),(J E 32)] h) λb=>g b.1 b.2) (g (.bool M) h)) λg=>bd c V (u (aq 2 e) λc=>u (ab V 8 c h) λc=>u (b 145 [c,(J E 0),(J E 64)] h) λb=>g b.1 b.2) (g (.bool M) h)) λb=>bd c.1 V (u (aq 1 e) λg=>u (ab M 1 g c.2) λg=>u (bB M g) λg=>u (ar .eql g (J E 0)) λg=>bc (λc e=>b c e) λb=>bd g M (u (aq 1 e) λe=>u (ab M 1 e c.2) λe=>u (bB M e) λe=>u (ar .eql e (J E 120)) λe=>b e c.2) (b (.bool V) c.2)) (b (.bool M) c.2)) λi=>cv (Ed b c g e h i) c [(J E 0)] h
open Go.aM.G in
def Ee:b2:=⟨1,11,(S (R<|dr 1 27 0<|b_ 2 0<|z)<|
 (S (S (R<|bR 3 13 1<|dK 4 52 3<|z)<|
 (.cond (t 4) [] [2,5,6,7]
 (S (R<|f 5 12 1<|l 6 5<|bW 7 6<|m 2 7<|z)<|
 .ret)
 .skip))<|
 (S (R<|f 8 11 1<|l 9 8<|bW 10 9<|m 2 10<|z)<|
 .ret))),[.tmp 2],[.aj]⟩
theorem ab8:cc 112 Ee:=cf Tryz.func112 rfl
def PZ(b:aT)(c:Nat)(e:U)(g:Z):bl:=bK (.ptr g.length 0) (g++[.box (cn e) 27 .rw]) λc e=>u (ab V 13 c e) λh=>u (b 52 [h] e) λb=>aD (λ_ b=>u (aq 11 c) λc=>u (ab M 1 c b) λc=>u (bB M c) λc=>aN [.aj] g b [c]) λe=>bb b.1 (u (aq 12 c) λc=>u (ab M 1 c b.2) λc=>u (bB M c) λc=>aN [.aj] g b.2 [c]) (e [] b.2)
open Go.aM.G in
def Ef:b2:=⟨1,19,(S (R<|cw 2<|z)<|
 (S (S (R<|m 4 0<|o 5 (.len V (t 4))<|b_ 6 0<|z)<|
 (.block 0 [] ([2,3]++g 6 10)
 (.loop [6] ([2,3]++g 7 9)
 (S (R<|b 7 .lss (t 6) (t 5)<|z)<|
 (S (.cond (t 7) [] []
 .skip
 (.exit 0))<|
 (S (.block 1 [] ([2,3]++g 8 7)
 (S (R<|m 8 6<|m 3 8<|z)<|
 (S (R<|m 9 0<|m 10 3<|o 11 (.nw (t 9) (t 10))<|o 12 (.conv .i64 (t 11))<|o 13 (.call 54 [(t 12),(i 32),(i 126)])<|dE 14 13<|z)<|
 (.cond (t 14) [] [2]
 (S (R<|cw 2<|z)<|
 .ret)
 .skip))))<|
 (R<|b 15 .add (t 6) (i 1)<|m 6 15<|z)))))))<|
 (S (R<|m 16 0<|o 17 (.len V (t 16))<|b 18 .leq (t 17) (i 22)<|m 2 18<|z)<|
 .ret))),[.tmp 2],[.aj]⟩
theorem ab9:cc 114 Ef:=cf Tryz.func114 rfl
def Eg(b:aT)(c:Nat)(e:U)(g:Z)(h:U)(i:bg):(bg)->bg:=λc j k=>u (ar .lss (aK j 0) h) λh=>aD (λ_ h=>aD (λ_ b=>u (ar .add (aK j 0) (J E 1)) λe=>c [e] (trim g [e] b)) λc=>u (mW e (aK j 0)) λe=>u (mV .i64 e) λe=>u (b 54 [e,(J E 32),(J E 126)] h) λb=>u (dq .not b.1) λe=>aD (λ_ b=>c [] b) λc=>bb e (aN [.aj] g b.2 [(.bool M)]) (c [] b.2)) λb=>bb h (b [] k) (i [] k)
def P0(b:aT)(c:Nat)(e:U)(g:Z):bl:=u (bB V e) λh=>aD (λ_ b=>u (bB V e) λc=>u (ar .leq c (J E 22)) λc=>aN [.aj] g b [c]) λi=>cv (Eg b c e g h i) c [(J E 0)] g
open Go.aM.G in
def Eh:b2:=⟨2,28,(S (R<|dr 2 39 0<|cw 4<|z)<|
 (S (R<|m 5 1<|dK 6 103 5<|m 7 6<|q 11 7 V [8,9,10] (f 8 0 2<|l 9 8<|o 10 (.call 104 [(t 9),(i 1),(i 64)])<|z) (t 10)<|
 m 12 11<|q 21 12 V (g 13 8) (f 13 1 2<|l 14 13<|bW 15 14<|f 16 0 2<|l 17 16<|m 18 1<|b 19 .mul (t 17) (t 18)<|b 20 .eql (t 15) (t 19)<|z) (t 20)<|
 m 22 21<|q 27 22 V (g 23 4) (f 23 1 2<|l 24 23<|o 25 (.call 116 [(t 24),(.func 147)])<|dE 26 25<|z) (t 26)<|
 m 4 27<|z)<|
 .ret)),[.tmp 4],[.aj]⟩
theorem ab_:cc 115 Eh:=cf Tryz.func115 rfl
def P1(b:aT)(c:Nat)(e g:U)(h:Z):bl:=bK (.ptr h.length 0) (h++[.box (cn e) 39 .rw]) λc e=>u (b 103 [g] e) λe=>bc (λe i=>bc (λe g=>bc (λb c=>aN [.aj] h c [b]) λh=>bd e V (u (aq 1 c) λc=>u (ab M 1 c g) λc=>u (b 116 [c,(U.func 147 [] [])] g) λb=>u (dq .not b.1) λc=>h c b.2) (h (.bool M) g)) λb=>bd e V (u (aq 1 c) λe=>u (ab M 1 e i) λe=>u (bB M e) λe=>u (aq 0 c) λc=>u (ab M 1 c i) λc=>u (ar .mul c g) λc=>u (ar .eql e c) λc=>b c i) (b (.bool M) i)) λg=>bd e.1 V (u (aq 0 c) λc=>u (ab M 1 c e.2) λc=>u (b 104 [c,(J E 1),(J E 64)] e.2) λb=>g b.1 b.2) (g (.bool M) e.2)
open Go.aM.G in
def Ei:b2:=⟨2,9,(S (R<|cw 4<|z)<|
 (S (R<|m 5 0<|m 6 1<|eF 7 149 5 6<|b 8 .geq (t 7) (i 0)<|m 4 8<|z)<|
 .ret)),[.tmp 4],[.aj]⟩
theorem ab':cc 116 Ei:=cf Tryz.func116 rfl
def P2(b:aT)(c:Nat)(e g:U)(h:Z):bl:=u (b 149 [e,g] h) λb=>u (ar .geq b.1 (J E 0)) λc=>aN [.aj] h b.2 [c]
open Go.aM.G in
def Ej:b2:=⟨2,10,(S (R<|dr 2 41 0<|cw 3<|z)<|
 (S (R<|f 4 0 1<|f 5 1 4<|l 6 5<|bR 7 6 2<|eF 8 118 6 7<|dE 9 8<|m 3 9<|z)<|
 .ret)),[.tmp 3],[.aj]⟩
theorem aca:cc 117 Ej:=cf Tryz.func117 rfl
def P3(b:aT)(c:Nat)(e g:U)(h:Z):bl:=bK (.ptr h.length 0) (h++[.box (cn e) 41 .rw]) λc e=>u (aq 0 g) λg=>u (aq 1 g) λg=>u (ab M 1 g e) λg=>u (ab V 6 c e) λc=>u (b 118 [g,c] e) λb=>u (dq .not b.1) λc=>aN [.aj] h b.2 [c]
open Go.aM.G in
def Ek:b2:=⟨2,37,(S (R<|dr 3 41 1<|cw 4<|z)<|
 (S (S (D<|m 5 0<|dK 6 101 5<|dE 7 6<|m 8 7<|q 12 8 M [9,10,11] (bR 9 6 3<|dK 10 148 9<|dE 11 10<|z) (t 11)<|
 m 13 12<|q 19 13 M (g 14 5) (m 14 0<|f 15 0 3<|l 16 15<|eF 17 150 14 16<|dE 18 17<|z) (t 18)<|
 m 20 19<|q 26 20 M (g 21 5) (f 21 2 3<|l 22 21<|m 23 0<|O 24 (.call 151 [(t 23)])<|b 25 .gtr (t 22) (t 24)<|z) (t 25)<|
 z)<|
 (.cond (t 26) [] [4]
 (S (R<|cw 4<|z)<|
 .ret)
 .skip))<|
 (S (S (R<|f 27 4 3<|l 28 27<|b 29 .eql (t 28) (i 0)<|z)<|
 (.cond (t 29) [] [4]
 (S (R<|gC 4<|z)<|
 .ret)
 .skip))<|
 (S (D<|m 30 0<|O 31 (.call 153 [(t 30)])<|f 32 4 3<|l 33 32<|dK 34 154 33<|eF 35 152 31 34<|b 36 .geq (t 35) (i 0)<|m 4 36<|z)<|
 .ret)))),[.tmp 4],[.aj]⟩
theorem acb:cc 118 Ek:=cf Tryz.func118 rfl
def P4(b:aT)(c:Nat)(e g:U)(h:Z):bl:=bK (.ptr h.length 0) (h++[.box (cn g) 41 .rw]) λc g=>u (b 101 [e] g) λg=>u (dq .not g.1) λi=>bc (λg i=>bc (λg i=>bc (λg i=>aD (λ_ g=>u (aq 4 c) λi=>u (ab M 1 i g) λi=>u (ar .eql i (J E 0)) λi=>aD (λ_ g=>u (b 153 [e] (lock g)) λe=>d' g e.2 λg=>u (aq 4 c) λc=>u (ab M 1 c g) λc=>u (b 154 [c] g) λc=>u (b 152 [e.1,c.1] c.2) λb=>u (ar .geq b.1 (J E 0)) λc=>aN [.aj] h b.2 [c]) λb=>bb i (aN [.aj] h g [(.bool V)]) (b [] g)) λb=>bb g (aN [.aj] h i [(.bool M)]) (b [] i)) λh=>bd g M (u (aq 2 c) λc=>u (ab M 1 c i) λc=>u (b 151 [e] (lock i)) λb=>d' i b.2 λe=>u (ar .gtr c b.1) λb=>h b e) (h (.bool V) i)) λh=>bd g M (u (aq 0 c) λc=>u (ab M 1 c i) λc=>u (b 150 [e,c] i) λb=>u (dq .not b.1) λc=>h c b.2) (h (.bool V) i)) λe=>bd i M (u (ab V 6 c g.2) λc=>u (b 148 [c] g.2) λb=>u (dq .not b.1) λc=>e c b.2) (e (.bool V) g.2)
open Go.aM.G in
def El:b2:=⟨2,9,(S (R<|dr 2 41 0<|cw 3<|z)<|
 (S (D<|f 4 1 2<|l 5 4<|bR 6 42 1<|F 6 (.agg Jj)<|O 7 (.call 120 [(t 6)])<|b 8 .gtr (t 5) (t 7)<|m 3 8<|z)<|
 .ret)),[.tmp 3],[.aj]⟩
theorem acd:cc 119 El:=cf Tryz.func119 rfl
def P5(b:aT)(c:Nat)(e g:U)(h:Z):bl:=bK (.ptr h.length 0) (h++[.box (cn e) 41 .rw]) λc e=>u (aq 1 c) λc=>u (ab M 1 c e) λc=>u (ab V 42 g e) λg=>u (cC (.agg Jj) g e) λe=>u (b 120 [e.1] (lock e.2)) λb=>d' e.2 b.2 λe=>u (ar .gtr c b.1) λb=>aN [.aj] h e [b]
open Go.aM.G in
def Em:b2:=⟨1,14,(S (R<|dr 1 104 0<|b_ 2 0<|z)<|
 (S (S (R<|f 3 13 1<|f 4 6 3<|l 5 4<|z)<|
 (.cond (t 5) [] ([2]++g 6 4)
 (S (R<|f 6 0 1<|f 7 12 6<|l 8 7<|bW 9 8<|m 2 9<|z)<|
 .ret)
 .skip))<|
 (S (R<|f 10 0 1<|f 11 11 10<|l 12 11<|bW 13 12<|m 2 13<|z)<|
 .ret))),[.tmp 2],[.aj]⟩
theorem ace:cc 120 Em:=cf Tryz.func120 rfl
def P6(b:aT)(c:Nat)(e:U)(g:Z):bl:=bK (.ptr g.length 0) (g++[.box (cn e) 104 .rw]) λb c=>u (aq 13 b) λe=>u (aq 6 e) λe=>u (ab M 1 e c) λe=>aD (λ_ c=>u (aq 0 b) λb=>u (aq 11 b) λb=>u (ab M 1 b c) λb=>u (bB M b) λb=>aN [.aj] g c [b]) λh=>bb e (u (aq 0 b) λb=>u (aq 12 b) λb=>u (ab M 1 b c) λb=>u (bB M b) λb=>aN [.aj] g c [b]) (h [] c)
open Go.aM.G in
def En:b2:=⟨2,19,(S (R<|b_ 4 0<|z)<|
 (S (S (R<|m 6 0<|bW 7 6<|b_ 8 0<|z)<|
 (.block 0 [] ([4,5]++g 8 11)
 (.loop [8] ([4,5]++g 9 10)
 (S (R<|b 9 .lss (t 8) (t 7)<|z)<|
 (S (.cond (t 9) [] []
 .skip
 (.exit 0))<|
 (S (.block 1 [] ([4,5]++g 10 8)
 (S (R<|m 10 8<|m 5 10<|z)<|
 (S (R<|m 11 1<|m 12 0<|m 13 5<|cz 14 1 12 13<|l 15 14<|o 16 (.im (t 11) [(t 15)])<|z)<|
 (.cond (t 16) [] [4,17]
 (S (R<|m 17 5<|m 4 17<|z)<|
 .ret)
 .skip))))<|
 (R<|b 18 .add (t 8) (i 1)<|m 8 18<|z)))))))<|
 (S (R<|o 4 (.move (i (-1)))<|z)<|
 .ret))),[.tmp 4],[.aj]⟩
theorem acf:cc 121 En:=cf Tryz.func121 rfl
def Eo(b:aT)(c:Nat)(e g:U)(h:Z)(i:U)(j:bg):(bg)->bg:=λc k l=>u (ar .lss (aK k 0) i) λi=>aD (λ_ i=>aD (λ_ b=>u (ar .add (aK k 0) (J E 1)) λe=>c [e] (trim h [e] b)) λc=>u (bY 1 e (aK k 0)) λe=>u (ab M 1 e i) λe=>u (gz b g [e] i) λb=>aD (λ_ b=>c [] b) λc=>bb b.1 (aN [.aj] h b.2 [(aK k 0)]) (c [] b.2)) λb=>bb i (b [] l) (j [] l)
def P7(b:aT)(c:Nat)(e g:U)(h:Z):bl:=u (bB M e) λi=>aD (λ_ b=>aN [.aj] h b [(J E (-1))]) λj=>cv (Eo b c e g h i j) c [(J E 0)] h
open Go.aM.G in
def Ep:b2:=⟨2,17,(S (R<|cw 3<|z)<|
 (S (R<|m 4 0<|dK 5 87 4<|dE 6 5<|m 7 6<|q 16 7 V (g 8 8) (m 8 0<|f 9 0 1<|f 10 10 9<|l 11 10<|bW 12 11<|b 13 .sub (t 12) (i 1)<|o 14 (.call 54 [(t 8),(i 0),(t 13)])<|dE 15 14<|z) (t 15)<|
 m 3 16<|z)<|
 .ret)),[.tmp 3],[.aj]⟩
theorem acg:cc 122 Ep:=cf Tryz.func122 rfl
def P8(b:aT)(c:Nat)(e g:U)(h:Z):bl:=u (b 87 [e] h) λc=>u (dq .not c.1) λi=>bc (λb c=>aN [.aj] h c [b]) λh=>bd i V (u (aq 0 g) λg=>u (aq 10 g) λg=>u (ab M 1 g c.2) λg=>u (bB M g) λg=>u (ar .sub g (J E 1)) λg=>u (b 54 [e,(J E 0),g] c.2) λb=>u (dq .not b.1) λc=>h c b.2) (h (.bool M) c.2)
open Go.aM.G in
def Er:b2:=⟨1,6,(S (R<|cw 2<|z)<|
 (S (R<|m 3 0<|o 4 (.call 54 [(t 3),(i 0),(i 256)])<|dE 5 4<|m 2 5<|z)<|
 .ret)),[.tmp 2],[.aj]⟩
theorem ach:cc 123 Er:=cf Tryz.func123 rfl
def P9(b:aT)(c:Nat)(e:U)(g:Z):bl:=u (b 54 [e,(J E 0),(J E 256)] g) λb=>u (dq .not b.1) λc=>aN [.aj] g b.2 [c]
open Go.aM.G in
def Es:b2:=⟨2,19,(S (R<|b_ 4 0<|z)<|
 (S (S (R<|m 6 0<|bW 7 6<|b_ 8 0<|z)<|
 (.block 0 [] ([4,5]++g 8 11)
 (.loop [8] ([4,5]++g 9 10)
 (S (R<|b 9 .lss (t 8) (t 7)<|z)<|
 (S (.cond (t 9) [] []
 .skip
 (.exit 0))<|
 (S (.block 1 [] ([4,5]++g 10 8)
 (S (R<|m 10 8<|m 5 10<|z)<|
 (S (R<|m 11 1<|m 12 0<|m 13 5<|cz 14 13 12 13<|bR 15 13 14<|o 16 (.im (t 11) [(t 15)])<|z)<|
 (.cond (t 16) [] [4,17]
 (S (R<|m 17 5<|m 4 17<|z)<|
 .ret)
 .skip))))<|
 (R<|b 18 .add (t 8) (i 1)<|m 8 18<|z)))))))<|
 (S (R<|o 4 (.move (i (-1)))<|z)<|
 .ret))),[.tmp 4],[.aj]⟩
theorem aci:cc 124 Es:=cf Tryz.func124 rfl
def Et(b:aT)(c:Nat)(e g:U)(h:Z)(i:U)(j:bg):(bg)->bg:=λc k l=>u (ar .lss (aK k 0) i) λi=>aD (λ_ i=>aD (λ_ b=>u (ar .add (aK k 0) (J E 1)) λe=>c [e] (trim h [e] b)) λc=>u (bY 13 e (aK k 0)) λe=>u (ab V 13 e i) λe=>u (gz b g [e] i) λb=>aD (λ_ b=>c [] b) λc=>bb b.1 (aN [.aj] h b.2 [(aK k 0)]) (c [] b.2)) λb=>bb i (b [] l) (j [] l)
def P_(b:aT)(c:Nat)(e g:U)(h:Z):bl:=u (bB M e) λi=>aD (λ_ b=>aN [.aj] h b [(J E (-1))]) λj=>cv (Et b c e g h i j) c [(J E 0)] h
open Go.aM.G in
def Eu:b2:=⟨1,6,(S (R<|dr 1 43 0<|cw 2<|z)<|
 (S (R<|bR 3 13 1<|dK 4 126 3<|dE 5 4<|m 2 5<|z)<|
 .ret)),[.tmp 2],[.aj]⟩
theorem acj:cc 125 Eu:=cf Tryz.func125 rfl
def P'(b:aT)(c:Nat)(e:U)(g:Z):bl:=bK (.ptr g.length 0) (g++[.box (cn e) 43 .rw]) λc e=>u (ab V 13 c e) λc=>u (b 126 [c] e) λb=>u (dq .not b.1) λc=>aN [.aj] g b.2 [c]
open Go.aM.G in
def Ev:b2:=⟨1,129,(S (R<|dr 1 43 0<|cw 2<|z)<|
 (S (S (R<|f 8 0 1<|l 9 8<|o 10 (.len V (t 9))<|b 11 .gtr (t 10) (i 22)<|m 12 11<|q 21 12 M (g 13 4++[20,17,18,19]) (f 13 2 1<|l 14 13<|b 15 .neq (t 14) (i 8)<|m 16 15<|q 20 16 V [17,18,19] (f 17 2 1<|l 18 17<|b 19 .neq (t 18) (i 16)<|z) (t 19)<|
 z) (t 20)<|
 m 22 21<|q 27 22 M (g 23 4) (f 23 1 1<|l 24 23<|bW 25 24<|b 26 .gtr (t 25) (i 4096)<|z) (t 26)<|
 z)<|
 (.cond (t 27) [] [2]
 (S (R<|cw 2<|z)<|
 .ret)
 .skip))<|
 (S (S (R<|f 28 0 1<|l 29 28<|o 30 (.len V (t 29))<|b_ 31 0<|z)<|
 (.block 0 [] ([2,3]++g 31 16)
 (.loop [31] ([2,3]++g 32 15)
 (S (R<|b 32 .lss (t 31) (t 30)<|z)<|
 (S (.cond (t 32) [] []
 .skip
 (.exit 0))<|
 (S (.block 1 [] ([2,3]++g 33 13)
 (S (R<|m 33 31<|m 3 33<|z)<|
 (S (R<|f 34 0 1<|l 35 34<|m 36 3<|o 37 (.nw (t 35) (t 36))<|b 38 .lss (t 37) (.const (.int .u8 32))<|m 39 38<|q 45 39 M (g 40 5) (f 40 0 1<|l 41 40<|m 42 3<|o 43 (.nw (t 41) (t 42))<|b 44 .gtr (t 43) (.const (.int .u8 126))<|z) (t 44)<|
 z)<|
 (.cond (t 45) [] [2]
 (S (R<|cw 2<|z)<|
 .ret)
 .skip))))<|
 (R<|b 46 .add (t 31) (i 1)<|m 31 46<|z)))))))<|
 (S (R<|f 48 2 1<|l 49 48<|dK 50 155 49<|m 47 50<|eV 51 47 0<|eV 52 47 1<|m 4 51<|m 5 52<|z)<|
 (S (S (R<|f 53 1 1<|l 54 53<|bW 55 54<|b_ 56 0<|z)<|
 (.block 2 [] ([2,7]++g 56 13)
 (.loop [56] ([2,7]++g 57 12)
 (S (R<|b 57 .lss (t 56) (t 55)<|z)<|
 (S (.cond (t 57) [] []
 .skip
 (.exit 2))<|
 (S (.block 3 [] ([2,7]++g 58 10)
 (S (R<|cz 58 1 54 56<|l 59 58<|m 7 59<|z)<|
 (S (R<|m 60 7<|m 61 4<|b 62 .lss (t 60) (t 61)<|m 63 62<|q 67 63 M [64,65,66] (m 64 7<|m 65 5<|b 66 .gtr (t 64) (t 65)<|z) (t 66)<|
 z)<|
 (.cond (t 67) [] [2]
 (S (R<|cw 2<|z)<|
 .ret)
 .skip))))<|
 (R<|b 68 .add (t 56) (i 1)<|m 56 68<|z)))))))<|
 (S (S (R<|f 69 3 1<|l 70 69<|b 71 .lss (t 70) (i 1)<|m 72 71<|q 76 72 M [73,74,75] (f 73 3 1<|l 74 73<|b 75 .gtr (t 74) (i 65535)<|z) (t 75)<|
 m 77 76<|q 81 77 M [78,79,80] (f 78 4 1<|l 79 78<|b 80 .lss (t 79) (i 0)<|z) (t 80)<|
 m 82 81<|q 86 82 M [83,84,85] (f 83 4 1<|l 84 83<|b 85 .gtr (t 84) (i 64)<|z) (t 85)<|
 m 87 86<|q 91 87 M [88,89,90] (f 88 5 1<|l 89 88<|b 90 .lss (t 89) (i (-1))<|z) (t 90)<|
 m 92 91<|q 96 92 M [93,94,95] (f 93 5 1<|l 94 93<|b 95 .gtr (t 94) (i 256)<|z) (t 95)<|
 m 97 96<|q 101 97 M [98,99,100] (f 98 6 1<|l 99 98<|b 100 .lss (t 99) (i (-64))<|z) (t 100)<|
 m 102 101<|q 106 102 M [103,104,105] (f 103 6 1<|l 104 103<|b 105 .gtr (t 104) (i 63)<|z) (t 105)<|
 z)<|
 (.cond (t 106) [] [2]
 (S (R<|cw 2<|z)<|
 .ret)
 .skip))<|
 (S (R<|f 107 7 1<|l 108 107<|f 109 8 1<|l 110 109<|f 111 9 1<|l 112 111<|f 113 1 1<|l 114 113<|bW 115 114<|o 116 (.call 156 [(t 108),(t 110),(t 112),(t 115)])<|m 117 116<|q 128 117 V (g 118 10) (f 118 10 1<|l 119 118<|f 120 11 1<|l 121 120<|f 122 12 1<|l 123 122<|f 124 1 1<|l 125 124<|bW 126 125<|o 127 (.call 156 [(t 119),(t 121),(t 123),(t 126)])<|z) (t 127)<|
 m 2 128<|z)<|
 .ret))))))),[.tmp 2],[.aj]⟩
theorem ack:cc 126 Ev:=cf Tryz.func126 rfl
def Ew(b:aT)(c:Nat)(e:Z)(g:U×Z)(h i j k:U)(l:bg):(bg)->bg:=λb c m=>u (ar .lss (aK c 0) k) λk=>aD (λ_ k=>aD (λ_ e=>u (ar .add (aK c 0) (J E 1)) λc=>b [c] (trim g.2 [c] e)) λb=>u (bY 1 j (aK c 0)) λc=>u (ab M 1 c k) λc=>u (ar .lss c h) λg=>bc (λc g=>aD (λ_ c=>b [] c) λb=>bb c (aN [.aj] e g [(.bool M)]) (b [] g)) λb=>bd g M (u (ar .gtr c i) λc=>b c k) (b (.bool V) k)) λb=>bb k (b [] m) (l [] m)
def Ex(b:aT)(c:Nat)(e:Z)(g:U)(h:Z)(i:U)(j:bg):(bg)->bg:=λb c k=>u (ar .lss (aK c 0) i) λi=>aD (λ_ i=>aD (λ_ e=>u (ar .add (aK c 0) (J E 1)) λc=>b [c] (trim h [c] e)) λb=>u (aq 0 g) λh=>u (ab M 1 h i) λh=>u (mW h (aK c 0)) λh=>u (ar .lss h (.int .u8 32)) λh=>bc (λc g=>aD (λ_ c=>b [] c) λb=>bb c (aN [.aj] e g [(.bool M)]) (b [] g)) λb=>bd h M (u (aq 0 g) λe=>u (ab M 1 e i) λe=>u (mW e (aK c 0)) λc=>u (ar .gtr c (.int .u8 126)) λc=>b c i) (b (.bool V) i)) λb=>bb i (b [] k) (j [] k)
def Qa(b:aT)(c:Nat)(e:U)(g:Z):bl:=bK (.ptr g.length 0) (g++[.box (cn e) 43 .rw]) λe h=>u (aq 0 e) λi=>u (ab M 1 i h) λi=>u (bB V i) λi=>u (ar .gtr i (J E 22)) λi=>bc (λh i=>bc (λh i=>aD (λ_ h=>u (aq 0 e) λi=>u (ab M 1 i h) λi=>u (bB V i) λi=>aD (λ_ h=>u (aq 2 e) λi=>u (ab M 1 i h) λi=>u (b 155 [i] h) λh=>u (ek h.1 0) λi=>u (ek h.1 1) λj=>u (aq 1 e) λk=>u (ab M 1 k h.2) λk=>u (bB M k) λl=>aD (λ_ c=>u (aq 3 e) λh=>u (ab M 1 h c) λh=>u (ar .lss h (J E 1)) λh=>bc (λc h=>bc (λc h=>bc (λc h=>bc (λc h=>bc (λc h=>bc (λc h=>bc (λc h=>aD (λ_ c=>u (aq 7 e) λh=>u (ab M 1 h c) λh=>u (aq 8 e) λi=>u (ab M 1 i c) λi=>u (aq 9 e) λj=>u (ab M 1 j c) λj=>u (aq 1 e) λk=>u (ab M 1 k c) λk=>u (bB M k) λk=>u (b 156 [h,i,j,k] c) λc=>bc (λb c=>aN [.aj] g c [b]) λg=>bd c.1 V (u (aq 10 e) λh=>u (ab M 1 h c.2) λh=>u (aq 11 e) λi=>u (ab M 1 i c.2) λi=>u (aq 12 e) λj=>u (ab M 1 j c.2) λj=>u (aq 1 e) λe=>u (ab M 1 e c.2) λe=>u (bB M e) λe=>u (b 156 [h,i,j,e] c.2) λb=>g b.1 b.2) (g (.bool M) c.2)) λb=>bb c (aN [.aj] g h [(.bool M)]) (b [] h)) λb=>bd c M (u (aq 6 e) λc=>u (ab M 1 c h) λc=>u (ar .gtr c (J E 63)) λc=>b c h) (b (.bool V) h)) λb=>bd c M (u (aq 6 e) λc=>u (ab M 1 c h) λc=>u (ar .lss c (J E (-64))) λc=>b c h) (b (.bool V) h)) λb=>bd c M (u (aq 5 e) λc=>u (ab M 1 c h) λc=>u (ar .gtr c (J E 256)) λc=>b c h) (b (.bool V) h)) λb=>bd c M (u (aq 5 e) λc=>u (ab M 1 c h) λc=>u (ar .lss c (J E (-1))) λc=>b c h) (b (.bool V) h)) λb=>bd c M (u (aq 4 e) λc=>u (ab M 1 c h) λc=>u (ar .gtr c (J E 64)) λc=>b c h) (b (.bool V) h)) λb=>bd c M (u (aq 4 e) λc=>u (ab M 1 c h) λc=>u (ar .lss c (J E 0)) λc=>b c h) (b (.bool V) h)) λb=>bd h M (u (aq 3 e) λe=>u (ab M 1 e c) λe=>u (ar .gtr e (J E 65535)) λe=>b e c) (b (.bool V) c)) λe=>cv (Ew b c g h i j k l e) c [(J E 0)] h.2) λj=>cv (Ex b c g e h i j) c [(J E 0)] h) λb=>bb h (aN [.aj] g i [(.bool M)]) (b [] i)) λb=>bd h M (u (aq 1 e) λc=>u (ab M 1 c i) λc=>u (bB M c) λc=>u (ar .gtr c (J E 4096)) λc=>b c i) (b (.bool V) i)) λb=>bd i M (u (aq 2 e) λc=>u (ab M 1 c h) λc=>u (ar .neq c (J E 8)) λc=>bc (λc e=>b c e) λb=>bd c V (u (aq 2 e) λc=>u (ab M 1 c h) λc=>u (ar .neq c (J E 16)) λc=>b c h) (b (.bool M) h)) (b (.bool V) h)
open Go.aM.G in
def Ey:b2:=⟨1,71,(S (R<|dr 1 57 0<|cw 2<|z)<|
 (S (S (R<|f 3 0 1<|l 4 3<|dK 5 157 4<|dE 6 5<|m 7 6<|q 18 7 M (g 8 5++[17]++g 13 4) (f 8 1 1<|l 9 8<|bW 10 9<|b 11 .neq (t 10) (i 0)<|m 12 11<|q 17 12 V (g 13 4) (f 13 1 1<|l 14 13<|bW 15 14<|b 16 .neq (t 15) (i 120)<|z) (t 16)<|
 z) (t 17)<|
 z)<|
 (.cond (t 18) [] [2]
 (S (R<|cw 2<|z)<|
 .ret)
 .skip))<|
 (S (S (R<|f 19 1 1<|l 20 19<|o 21 (.call 128 [(t 20),(.func 158)])<|z)<|
 (.cond (t 21) [] [2]
 (S (R<|cw 2<|z)<|
 .ret)
 .skip))<|
 (S (S (R<|f 22 2 1<|bR 23 8 22<|o 24 (.call 159 [(t 23),(i 0),(i 64)])<|dE 25 24<|m 26 25<|q 31 26 M (g 27 4) (f 27 10 1<|bR 28 8 27<|o 29 (.call 159 [(t 28),(i (-32)),(i 32)])<|dE 30 29<|z) (t 30)<|
 m 32 31<|q 37 32 M (g 33 4) (f 33 18 1<|bR 34 8 33<|o 35 (.call 159 [(t 34),(i (-32)),(i 32)])<|dE 36 35<|z) (t 36)<|
 z)<|
 (.cond (t 37) [] [2]
 (S (R<|cw 2<|z)<|
 .ret)
 .skip))<|
 (S (R<|f 38 26 1<|l 39 38<|o 40 (.call 146 [(t 39),(i 0),(i 1024)])<|m 41 40<|q 45 41 V [42,43,44] (f 42 27 1<|l 43 42<|o 44 (.call 146 [(t 43),(i 0),(i 3)])<|z) (t 44)<|
 m 46 45<|q 50 46 V [47,48,49] (f 47 28 1<|l 48 47<|o 49 (.call 146 [(t 48),(i 0),(i 3)])<|z) (t 49)<|
 m 51 50<|q 55 51 V [52,53,54] (f 52 29 1<|l 53 52<|o 54 (.call 146 [(t 53),(i 0),(i 2)])<|z) (t 54)<|
 m 56 55<|q 60 56 V [57,58,59] (f 57 30 1<|l 58 57<|o 59 (.call 146 [(t 58),(i 0),(i 64)])<|z) (t 59)<|
 m 61 60<|q 65 61 V [62,63,64] (f 62 31 1<|l 63 62<|o 64 (.call 146 [(t 63),(i (-1)),(i 127)])<|z) (t 64)<|
 m 66 65<|q 70 66 V [67,68,69] (f 67 32 1<|l 68 67<|o 69 (.call 146 [(t 68),(i (-1)),(i 127)])<|z) (t 69)<|
 m 2 70<|z)<|
 .ret))))),[.tmp 2],[.aj]⟩
theorem acm:cc 127 Ey:=cf Tryz.func127 rfl
def Qb(b:aT)(c:Nat)(e:U)(g:Z):bl:=bK (.ptr g.length 0) (g++[.box (cn e) 57 .rw]) λc e=>u (aq 0 c) λh=>u (ab M 1 h e) λh=>u (b 157 [h] e) λe=>u (dq .not e.1) λh=>bc (λe h=>aD (λ_ e=>u (aq 1 c) λh=>u (ab M 1 h e) λh=>u (b 128 [h,(U.func 158 [] [])] e) λe=>aD (λ_ e=>u (aq 2 c) λh=>u (ab V 8 h e) λh=>u (b 159 [h,(J E 0),(J E 64)] e) λe=>u (dq .not e.1) λh=>bc (λe h=>bc (λe h=>aD (λ_ e=>u (aq 26 c) λh=>u (ab M 1 h e) λh=>u (b 146 [h,(J E 0),(J E 1024)] e) λe=>bc (λe h=>bc (λe h=>bc (λe h=>bc (λe h=>bc (λe h=>bc (λb c=>aN [.aj] g c [b]) λg=>bd e V (u (aq 32 c) λc=>u (ab M 1 c h) λc=>u (b 146 [c,(J E (-1)),(J E 127)] h) λb=>g b.1 b.2) (g (.bool M) h)) λg=>bd e V (u (aq 31 c) λc=>u (ab M 1 c h) λc=>u (b 146 [c,(J E (-1)),(J E 127)] h) λb=>g b.1 b.2) (g (.bool M) h)) λg=>bd e V (u (aq 30 c) λc=>u (ab M 1 c h) λc=>u (b 146 [c,(J E 0),(J E 64)] h) λb=>g b.1 b.2) (g (.bool M) h)) λg=>bd e V (u (aq 29 c) λc=>u (ab M 1 c h) λc=>u (b 146 [c,(J E 0),(J E 2)] h) λb=>g b.1 b.2) (g (.bool M) h)) λg=>bd e V (u (aq 28 c) λc=>u (ab M 1 c h) λc=>u (b 146 [c,(J E 0),(J E 3)] h) λb=>g b.1 b.2) (g (.bool M) h)) λg=>bd e.1 V (u (aq 27 c) λc=>u (ab M 1 c e.2) λc=>u (b 146 [c,(J E 0),(J E 3)] e.2) λb=>g b.1 b.2) (g (.bool M) e.2)) λb=>bb e (aN [.aj] g h [(.bool M)]) (b [] h)) λg=>bd e M (u (aq 18 c) λc=>u (ab V 8 c h) λc=>u (b 159 [c,(J E (-32)),(J E 32)] h) λb=>u (dq .not b.1) λc=>g c b.2) (g (.bool V) h)) λg=>bd h M (u (aq 10 c) λc=>u (ab V 8 c e.2) λc=>u (b 159 [c,(J E (-32)),(J E 32)] e.2) λb=>u (dq .not b.1) λc=>g c b.2) (g (.bool V) e.2)) λb=>bb e.1 (aN [.aj] g e.2 [(.bool M)]) (b [] e.2)) λb=>bb e (aN [.aj] g h [(.bool M)]) (b [] h)) λb=>bd h M (u (aq 1 c) λg=>u (ab M 1 g e.2) λg=>u (bB M g) λg=>u (ar .neq g (J E 0)) λg=>bc (λc e=>b c e) λb=>bd g V (u (aq 1 c) λc=>u (ab M 1 c e.2) λc=>u (bB M c) λc=>u (ar .neq c (J E 120)) λc=>b c e.2) (b (.bool M) e.2)) (b (.bool V) e.2)
open Go.aM.G in
def Ez:b2:=⟨2,9,(S (R<|cw 4<|z)<|
 (S (R<|m 5 0<|m 6 1<|eF 7 160 5 6<|b 8 .geq (t 7) (i 0)<|m 4 8<|z)<|
 .ret)),[.tmp 4],[.aj]⟩
theorem acn:cc 128 Ez:=cf Tryz.func128 rfl
def Qc(b:aT)(c:Nat)(e g:U)(h:Z):bl:=u (b 160 [e,g] h) λb=>u (ar .geq b.1 (J E 0)) λc=>aN [.aj] h b.2 [c]
open Go.aM.G in
def EA:b2:=⟨2,11,(S (R<|dr 2 89 0<|cw 3<|z)<|
 (S (R<|f 4 1 2<|l 5 4<|f 6 0 1<|f 7 11 6<|l 8 7<|bW 9 8<|b 10 .gtr (t 5) (t 9)<|m 3 10<|z)<|
 .ret)),[.tmp 3],[.aj]⟩
theorem aco:cc 129 EA:=cf Tryz.func129 rfl
def Qd(b:aT)(c:Nat)(e g:U)(h:Z):bl:=bK (.ptr h.length 0) (h++[.box (cn e) 89 .rw]) λb c=>u (aq 1 b) λb=>u (ab M 1 b c) λb=>u (aq 0 g) λe=>u (aq 11 e) λe=>u (ab M 1 e c) λe=>u (bB M e) λe=>u (ar .gtr b e) λb=>aN [.aj] h c [b]
open Go.aM.G in
def EB:b2:=⟨2,26,(S (R<|cw 4<|z)<|
 (S (S (R<|m 6 0<|bW 7 6<|m 8 1<|bW 9 8<|b 10 .neq (t 7) (t 9)<|z)<|
 (.cond (t 10) [] [4]
 (S (R<|cw 4<|z)<|
 .ret)
 .skip))<|
 (S (S (R<|m 11 0<|bW 12 11<|b_ 13 0<|z)<|
 (.block 0 [] ([4,5]++g 13 13)
 (.loop [13] ([4,5]++g 14 12)
 (S (R<|b 14 .lss (t 13) (t 12)<|z)<|
 (S (.cond (t 14) [] []
 .skip
 (.exit 0))<|
 (S (.block 1 [] ([4,5]++g 15 10)
 (S (R<|m 15 13<|m 5 15<|z)<|
 (S (D<|m 16 0<|m 17 5<|cz 18 2 16 17<|bR 19 2 18<|m 20 1<|m 21 5<|cz 22 2 20 21<|bR 23 2 22<|o 24 (.od [.int,.int] V (t 19) (t 23))<|z)<|
 (.cond (t 24) [] [4]
 (S (R<|cw 4<|z)<|
 .ret)
 .skip))))<|
 (R<|b 25 .add (t 13) (i 1)<|m 13 25<|z)))))))<|
 (S (R<|gC 4<|z)<|
 .ret)))),[.tmp 4],[.aj]⟩
theorem acp:cc 130 EB:=cf Tryz.func130 rfl
def EC(b:aT)(c:Nat)(e g:U)(h i:Z)(j:U)(k:bg):(bg)->bg:=λb c l=>u (ar .lss (aK c 0) j) λj=>aD (λ_ j=>aD (λ_ e=>u (ar .add (aK c 0) (J E 1)) λc=>b [c] (trim i [c] e)) λb=>u (bY 2 e (aK c 0)) λe=>u (ab V 2 e j) λe=>u (bY 2 g (aK c 0)) λc=>u (ab V 2 c j) λc=>u (lT [.int,.int] V e c) λc=>aD (λ_ c=>b [] c) λb=>bb c (aN [.aj] h j [(.bool M)]) (b [] j)) λb=>bb j (b [] l) (k [] l)
def Qe(b:aT)(c:Nat)(e g:U)(h:Z):bl:=u (bB M e) λi=>u (bB M g) λj=>u (ar .neq i j) λi=>aD (λ_ i=>u (bB M e) λj=>aD (λ_ b=>aN [.aj] h b [(.bool V)]) λk=>cv (EC b c e g h i j k) c [(J E 0)] i) λb=>bb i (aN [.aj] h h [(.bool M)]) (b [] h)
open Go.aM.G in
def ED:b2:=⟨2,26,(S (R<|cw 4<|z)<|
 (S (S (R<|m 6 0<|bW 7 6<|m 8 1<|bW 9 8<|b 10 .neq (t 7) (t 9)<|z)<|
 (.cond (t 10) [] [4]
 (S (R<|cw 4<|z)<|
 .ret)
 .skip))<|
 (S (S (R<|m 11 0<|bW 12 11<|b_ 13 0<|z)<|
 (.block 0 [] ([4,5]++g 13 13)
 (.loop [13] ([4,5]++g 14 12)
 (S (R<|b 14 .lss (t 13) (t 12)<|z)<|
 (S (.cond (t 14) [] []
 .skip
 (.exit 0))<|
 (S (.block 1 [] ([4,5]++g 15 10)
 (S (R<|m 15 13<|m 5 15<|z)<|
 (S (D<|m 16 0<|m 17 5<|cz 18 6 16 17<|bR 19 6 18<|m 20 1<|m 21 5<|cz 22 6 20 21<|bR 23 6 22<|o 24 (.od [.int,.int,.int,.int,.int,.int] V (t 19) (t 23))<|z)<|
 (.cond (t 24) [] [4]
 (S (R<|cw 4<|z)<|
 .ret)
 .skip))))<|
 (R<|b 25 .add (t 13) (i 1)<|m 13 25<|z)))))))<|
 (S (R<|gC 4<|z)<|
 .ret)))),[.tmp 4],[.aj]⟩
theorem acq:cc 131 ED:=cf Tryz.func131 rfl
def EE(b:aT)(c:Nat)(e g:U)(h i:Z)(j:U)(k:bg):(bg)->bg:=λb c l=>u (ar .lss (aK c 0) j) λj=>aD (λ_ j=>aD (λ_ e=>u (ar .add (aK c 0) (J E 1)) λc=>b [c] (trim i [c] e)) λb=>u (bY 6 e (aK c 0)) λe=>u (ab V 6 e j) λe=>u (bY 6 g (aK c 0)) λc=>u (ab V 6 c j) λc=>u (lT [.int,.int,.int,.int,.int,.int] V e c) λc=>aD (λ_ c=>b [] c) λb=>bb c (aN [.aj] h j [(.bool M)]) (b [] j)) λb=>bb j (b [] l) (k [] l)
def Qf(b:aT)(c:Nat)(e g:U)(h:Z):bl:=u (bB M e) λi=>u (bB M g) λj=>u (ar .neq i j) λi=>aD (λ_ i=>u (bB M e) λj=>aD (λ_ b=>aN [.aj] h b [(.bool V)]) λk=>cv (EE b c e g h i j k) c [(J E 0)] i) λb=>bb i (aN [.aj] h h [(.bool M)]) (b [] h)
open Go.aM.G in
def EF:b2:=⟨2,26,(S (R<|cw 4<|z)<|
 (S (S (R<|m 6 0<|bW 7 6<|m 8 1<|bW 9 8<|b 10 .neq (t 7) (t 9)<|z)<|
 (.cond (t 10) [] [4]
 (S (R<|cw 4<|z)<|
 .ret)
 .skip))<|
 (S (S (R<|m 11 0<|bW 12 11<|b_ 13 0<|z)<|
 (.block 0 [] ([4,5]++g 13 13)
 (.loop [13] ([4,5]++g 14 12)
 (S (R<|b 14 .lss (t 13) (t 12)<|z)<|
 (S (.cond (t 14) [] []
 .skip
 (.exit 0))<|
 (S (.block 1 [] ([4,5]++g 15 10)
 (S (R<|m 15 13<|m 5 15<|z)<|
 (S (D<|m 16 0<|m 17 5<|cz 18 2 16 17<|bR 19 2 18<|m 20 1<|m 21 5<|cz 22 2 20 21<|bR 23 2 22<|o 24 (.od [.int,.int] V (t 19) (t 23))<|z)<|
 (.cond (t 24) [] [4]
 (S (R<|cw 4<|z)<|
 .ret)
 .skip))))<|
 (R<|b 25 .add (t 13) (i 1)<|m 13 25<|z)))))))<|
 (S (R<|gC 4<|z)<|
 .ret)))),[.tmp 4],[.aj]⟩
theorem acr:cc 132 EF:=cf Tryz.func132 rfl
def EG(b:aT)(c:Nat)(e g:U)(h i:Z)(j:U)(k:bg):(bg)->bg:=λb c l=>u (ar .lss (aK c 0) j) λj=>aD (λ_ j=>aD (λ_ e=>u (ar .add (aK c 0) (J E 1)) λc=>b [c] (trim i [c] e)) λb=>u (bY 2 e (aK c 0)) λe=>u (ab V 2 e j) λe=>u (bY 2 g (aK c 0)) λc=>u (ab V 2 c j) λc=>u (lT [.int,.int] V e c) λc=>aD (λ_ c=>b [] c) λb=>bb c (aN [.aj] h j [(.bool M)]) (b [] j)) λb=>bb j (b [] l) (k [] l)
def Qg(b:aT)(c:Nat)(e g:U)(h:Z):bl:=u (bB M e) λi=>u (bB M g) λj=>u (ar .neq i j) λi=>aD (λ_ i=>u (bB M e) λj=>aD (λ_ b=>aN [.aj] h b [(.bool V)]) λk=>cv (EG b c e g h i j k) c [(J E 0)] i) λb=>bb i (aN [.aj] h h [(.bool M)]) (b [] h)
open Go.aM.G in
def EH:b2:=⟨2,59,(S (R<|dr 2 55 0<|dr 3 55 1<|cw 4<|z)<|
 (S (R<|f 5 1 2<|l 6 5<|f 7 1 3<|l 8 7<|eF 9 161 6 8<|m 10 9<|q 16 10 V (g 11 5) (f 11 0 2<|l 12 11<|f 13 0 3<|l 14 13<|o 15 (.o2 M (t 12) (t 14))<|z) (t 15)<|
 m 17 16<|q 23 17 V (g 18 5) (f 18 2 2<|l 19 18<|f 20 2 3<|l 21 20<|o 22 (.o2 M (t 19) (t 21))<|z) (t 22)<|
 m 24 23<|q 30 24 V (g 25 5) (f 25 3 2<|l 26 25<|f 27 3 3<|l 28 27<|b 29 .eql (t 26) (t 28)<|z) (t 29)<|
 m 31 30<|q 37 31 V (g 32 5) (f 32 4 2<|l 33 32<|f 34 4 3<|l 35 34<|b 36 .eql (t 33) (t 35)<|z) (t 36)<|
 m 38 37<|q 44 38 V (g 39 5) (f 39 5 2<|l 40 39<|f 41 5 3<|l 42 41<|o 43 (.o2 M (t 40) (t 42))<|z) (t 43)<|
 m 45 44<|q 51 45 V (g 46 5) (f 46 6 2<|l 47 46<|f 48 6 3<|l 49 48<|b 50 .eql (t 47) (t 49)<|z) (t 50)<|
 m 52 51<|q 58 52 V (g 53 5) (f 53 7 2<|l 54 53<|f 55 7 3<|l 56 55<|b 57 .eql (t 54) (t 56)<|z) (t 57)<|
 m 4 58<|z)<|
 .ret)),[.tmp 4],[.aj]⟩
theorem acs:cc 133 EH:=cf Tryz.func133 rfl
def Qh(b:aT)(c:Nat)(e g:U)(h:Z):bl:=bK (.ptr h.length 0) (h++[.box (cn e) 55 .rw]) λc e=>bK (.ptr e.length 0) (e++[.box (cn g) 55 .rw]) λe g=>u (aq 1 c) λi=>u (ab M 1 i g) λi=>u (aq 1 e) λj=>u (ab M 1 j g) λj=>u (b 161 [i,j] g) λb=>bc (λb g=>bc (λb g=>bc (λb g=>bc (λb g=>bc (λb g=>bc (λb g=>bc (λb c=>aN [.aj] h c [b]) λh=>bd b V (u (aq 7 c) λb=>u (ab M 1 b g) λb=>u (aq 7 e) λc=>u (ab M 1 c g) λc=>u (ar .eql b c) λb=>h b g) (h (.bool M) g)) λh=>bd b V (u (aq 6 c) λb=>u (ab M 1 b g) λb=>u (aq 6 e) λc=>u (ab M 1 c g) λc=>u (ar .eql b c) λb=>h b g) (h (.bool M) g)) λh=>bd b V (u (aq 5 c) λb=>u (ab M 1 b g) λb=>u (aq 5 e) λc=>u (ab M 1 c g) λc=>u (p4 M b c) λb=>h b g) (h (.bool M) g)) λh=>bd b V (u (aq 4 c) λb=>u (ab M 1 b g) λb=>u (aq 4 e) λc=>u (ab M 1 c g) λc=>u (ar .eql b c) λb=>h b g) (h (.bool M) g)) λh=>bd b V (u (aq 3 c) λb=>u (ab M 1 b g) λb=>u (aq 3 e) λc=>u (ab M 1 c g) λc=>u (ar .eql b c) λb=>h b g) (h (.bool M) g)) λh=>bd b V (u (aq 2 c) λb=>u (ab M 1 b g) λb=>u (aq 2 e) λc=>u (ab M 1 c g) λc=>u (p4 M b c) λb=>h b g) (h (.bool M) g)) λg=>bd b.1 V (u (aq 0 c) λc=>u (ab M 1 c b.2) λc=>u (aq 0 e) λe=>u (ab M 1 e b.2) λe=>u (p4 M c e) λc=>g c b.2) (g (.bool M) b.2)
open Go.aM.G in
def EI:b2:=⟨2,30,(S (R<|o 4 (.move (.const (.int .u64 0)))<|o 5 (.move (.const (.int .u64 0)))<|z)<|
 (S (.cond (.const (.bool M)) [] (g 4 4++g 10 12)
 (S (R<|m 11 0<|o 12 (.conv .u32 (t 11))<|m 13 1<|o 14 (.conv .u32 (t 13))<|eF 15 162 12 14<|m 10 15<|eV 16 10 0<|eV 17 10 1<|m 6 16<|m 7 17<|z)<|
 (S (R<|m 18 6<|o 19 (.conv .u64 (t 18))<|m 20 7<|o 21 (.conv .u64 (t 20))<|m 4 19<|m 5 21<|z)<|
 .ret))
 .skip)<|
 (S (R<|m 23 0<|m 24 1<|eF 25 163 23 24<|m 22 25<|eV 26 22 0<|eV 27 22 1<|m 8 26<|m 9 27<|z)<|
 (S (R<|m 28 8<|m 29 9<|m 4 28<|m 5 29<|z)<|
 .ret)))),[.tmp 4,.tmp 5],[.aj,.aj]⟩
theorem acu:cc 134 EI:=cf Tryz.func134 rfl
def Qi(b:aT)(c:Nat)(e g:U)(h:Z):bl:=aD (λ_ c=>u (b 163 [e,g] c) λb=>u (ek b.1 0) λc=>u (ek b.1 1) λe=>aN [.aj,.aj] h b.2 [c,e]) λc=>bb (.bool M) (u (mV .u32 e) λc=>u (mV .u32 g) λe=>u (b 162 [c,e] h) λb=>u (ek b.1 0) λc=>u (ek b.1 1) λe=>u (mV .u64 c) λc=>u (mV .u64 e) λe=>aN [.aj,.aj] h b.2 [c,e]) (c [] h)
open Go.aM.G in
def EJ:b2:=⟨1,18,(S (R<|o 2 (.new 154 eY)<|cw 3<|z)<|
 (S (S (R<|m 6 0<|bW 7 6<|b_ 8 0<|z)<|
 (.block 0 [] ([3,5]++g 8 9)
 (.loop [8] ([3,5]++g 9 8)
 (S (R<|b 9 .lss (t 8) (t 7)<|z)<|
 (S (.cond (t 9) [] []
 .skip
 (.exit 0))<|
 (S (.block 1 [] ([3,5]++g 10 6)
 (S (R<|cz 10 3 6 8<|bR 11 3 10<|o 5 (.new 154 eY)<|bS 3 5 11<|z)<|
 (S (R<|f 12 2 5<|l 13 12<|b 14 .neq (t 13) (i 0)<|z)<|
 (.cond (t 14) [] [3,15]
 (S (R<|bR 15 3 5<|bS 3 2 15<|gC 3<|z)<|
 .ret)
 .skip))))<|
 (R<|b 16 .add (t 8) (i 1)<|m 8 16<|z)))))))<|
 (S (R<|o 17 (.build eY [])<|bS 3 2 17<|cw 3<|z)<|
 .ret))),[.cell 2 V 3,.tmp 3],[.aj,.aj]⟩
theorem acv:cc 135 EJ:=cf Tryz.func135 rfl
def EK(b:aT)(c:Nat)(e:U)(g:Z)(h:U)(i:Z)(j:U)(k:bg):(bg)->bg:=λb c l=>u (ar .lss (aK c 0) j) λj=>aD (λ_ j=>aD (λ_ e=>u (ar .add (aK c 0) (J E 1)) λc=>b [c] (trim i [c] e)) λb=>u (bY 3 e (aK c 0)) λc=>u (ab V 3 c j) λc=>bK (.ptr j.length 0) (j++[.box [.str ⟨#[]⟩,J E 0,J E 0] 154 .rw]) λe i=>u (bf 3 e c i) λc=>u (aq 2 e) λi=>u (ab M 1 i c) λi=>u (ar .neq i (J E 0)) λi=>aD (λ_ c=>b [] c) λb=>bb i (u (ab V 3 e c) λb=>u (bf 3 h b c) λb=>u (ab V 3 h b) λc=>aN [.aj,.aj] g b [c,(.bool V)]) (b [] c)) λb=>bb j (b [] l) (k [] l)
def Qj(b:aT)(c:Nat)(e:U)(g:Z):bl:=bK (.ptr g.length 0) (g++[.box [.str ⟨#[]⟩,J E 0,J E 0] 154 .rw]) λh i=>u (bB M e) λj=>aD (λ_ b=>u (cV [.str ⟨#[]⟩,J E 0,J E 0] []) λc=>u (bf 3 h (U.agg c) b) λb=>u (ab V 3 h b) λc=>aN [.aj,.aj] g b [c,(.bool M)]) λk=>cv (EK b c e g h i j k) c [(J E 0)] i
open Go.aM.G in
def EL:b2:=⟨3,12,(S (R<|o 6 (.new 154 eY)<|z)<|
 (S (S (R<|m 7 0<|z)<|
 (.cond (t 7) [] [8]
 (S (R<|o 8 (.build eY [])<|bS 3 6 8<|z)<|
 .ret)
 .skip))<|
 (S (R<|m 9 1<|m 10 2<|o 11 (.build eY [(0,1,(t 9)),(1,1,(i 0)),(2,1,(t 10))])<|bS 3 6 11<|z)<|
 .ret))),[.cell 6 V 3],[.aj]⟩
theorem acw:cc 136 EL:=cf Tryz.func136 rfl
def Qk(b:aT)(c:Nat)(e g h:U)(i:Z):bl:=bK (.ptr i.length 0) (i++[.box [.str ⟨#[]⟩,J E 0,J E 0] 154 .rw]) λb c=>aD (λ_ c=>u (cV [.str ⟨#[]⟩,J E 0,J E 0] [(0,1,g),(1,1,(J E 0)),(2,1,h)]) λe=>u (bf 3 b (U.agg e) c) λc=>u (ab V 3 b c) λb=>aN [.aj] i c [b]) λg=>bb e (u (cV [.str ⟨#[]⟩,J E 0,J E 0] []) λe=>u (bf 3 b (U.agg e) c) λc=>u (ab V 3 b c) λb=>aN [.aj] i c [b]) (g [] c)
open Go.aM.G in
def EM:b2:=⟨1,23,(S (R<|cw 2<|z)<|
 (S (S (R<|m 4 0<|o 5 (.len V (t 4))<|b 6 .gtr (t 5) (i 22)<|z)<|
 (.cond (t 6) [] [2]
 (S (R<|cw 2<|z)<|
 .ret)
 .skip))<|
 (S (S (R<|b_ 3 0<|z)<|
 (.block 0 [] ([2,3]++g 7 16)
 (.loop [3] ([2]++g 7 16)
 (S (S (R<|m 7 3<|m 8 0<|o 9 (.len V (t 8))<|b 10 .lss (t 7) (t 9)<|z)<|
 (.cond (t 10) [] []
 .skip
 (.exit 0)))<|
 (S (.block 1 [] ([2]++g 13 10)
 (S (R<|m 13 0<|m 14 3<|o 15 (.nw (t 13) (t 14))<|b 16 .lss (t 15) (.const (.int .u8 32))<|m 17 16<|q 22 17 M (g 18 4) (m 18 0<|m 19 3<|o 20 (.nw (t 18) (t 19))<|b 21 .gtr (t 20) (.const (.int .u8 126))<|z) (t 21)<|
 z)<|
 (.cond (t 22) [] [2]
 (S (R<|cw 2<|z)<|
 .ret)
 .skip)))<|
 (R<|m 11 3<|b 12 .add (t 11) (i 1)<|m 3 12<|z))))))<|
 (S (R<|gC 2<|z)<|
 .ret)))),[.tmp 2],[.aj]⟩
theorem acx:cc 137 EM:=cf Tryz.func137 rfl
def EN(b:aT)(c:Nat)(e:U)(g h:Z)(i:bg):(bg)->bg:=λb c j=>u (bB V e) λk=>u (ar .lss (aK c 0) k) λk=>aD (λ_ i=>aD (λ_ e=>u (ar .add (aK c 0) (J E 1)) λc=>b [c] (trim h [c] e)) λb=>u (mW e (aK c 0)) λh=>u (ar .lss h (.int .u8 32)) λh=>bc (λc e=>aD (λ_ c=>b [] c) λb=>bb c (aN [.aj] g e [(.bool M)]) (b [] e)) λb=>bd h M (u (mW e (aK c 0)) λc=>u (ar .gtr c (.int .u8 126)) λc=>b c i) (b (.bool V) i)) λb=>bb k (b [] j) (i [] j)
def Ql(b:aT)(c:Nat)(e:U)(g:Z):bl:=u (bB V e) λh=>u (ar .gtr h (J E 22)) λh=>aD (λ_ h=>aD (λ_ b=>aN [.aj] g b [(.bool V)]) λi=>cv (EN b c e g h i) c [(J E 0)] h) λb=>bb h (aN [.aj] g g [(.bool M)]) (b [] g)
open Go.aM.G in
def EO:b2:=⟨2,28,(S (R<|dr 2 27 0<|o 4 (.new 154 eY)<|z)<|
 (S (S (R<|f 7 10 2<|l 8 7<|bW 9 8<|b_ 10 0<|z)<|
 (.block 0 [] ([5,6]++g 10 17)
 (.loop [10] ([5,6]++g 11 16)
 (S (R<|b 11 .lss (t 10) (t 9)<|z)<|
 (S (.cond (t 11) [] []
 .skip
 (.exit 0))<|
 (S (.block 1 [] ([5,6]++g 12 14)
 (S (R<|m 12 10<|m 5 12<|z)<|
 (S (D<|bR 13 13 2<|f 14 10 2<|l 15 14<|m 16 5<|cz 17 2 15 16<|bR 18 2 17<|m 19 1<|o 20 (.call 164 [(t 13),(t 18),(t 19)])<|m 6 20<|z)<|
 (S (R<|m 21 6<|b 22 .neq (t 21) (i 0)<|z)<|
 (.cond (t 22) [] [23,24,25]
 (S (R<|m 23 5<|m 24 6<|o 25 (.build eY [(0,1,(.const (.string ⟨#[112,97,116,116,101,114,110,115]⟩))),(1,1,(t 23)),(2,1,(t 24))])<|bS 3 4 25<|z)<|
 .ret)
 .skip)))))<|
 (R<|b 26 .add (t 10) (i 1)<|m 10 26<|z)))))))<|
 (S (R<|o 27 (.build eY [])<|bS 3 4 27<|z)<|
 .ret))),[.cell 4 V 3],[.aj]⟩
theorem acy:cc 138 EO:=cf Tryz.func138 rfl
def EP(b:aT)(c:Nat)(e:U)(g:Z)(h i:U)(j:Z)(k:U)(l:bg):(bg)->bg:=λc m n=>u (ar .lss (aK m 0) k) λk=>aD (λ_ k=>aD (λ_ b=>u (ar .add (aK m 0) (J E 1)) λe=>c [e] (trim j [e] b)) λc=>u (ab V 13 h k) λj=>u (aq 10 h) λh=>u (ab M 1 h k) λh=>u (bY 2 h (aK m 0)) λh=>u (ab V 2 h k) λh=>u (b 164 [j,h,e] k) λb=>u (ar .neq b.1 (J E 0)) λe=>aD (λ_ b=>c [] b) λc=>bb e (u (cV [.str ⟨#[]⟩,J E 0,J E 0] [(0,1,(.str ⟨#[112,97,116,116,101,114,110,115]⟩:U)),(1,1,(aK m 0)),(2,1,b.1)]) λc=>u (bf 3 i (U.agg c) b.2) λb=>u (ab V 3 i b) λc=>aN [.aj] g b [c]) (c [] b.2)) λb=>bb k (b [] n) (l [] n)
def Qm(b:aT)(c:Nat)(e g:U)(h:Z):bl:=bK (.ptr h.length 0) (h++[.box (cn e) 27 .rw]) λe i=>bK (.ptr i.length 0) (i++[.box [.str ⟨#[]⟩,J E 0,J E 0] 154 .rw]) λi j=>u (aq 10 e) λk=>u (ab M 1 k j) λk=>u (bB M k) λk=>aD (λ_ b=>u (cV [.str ⟨#[]⟩,J E 0,J E 0] []) λc=>u (bf 3 i (U.agg c) b) λb=>u (ab V 3 i b) λc=>aN [.aj] h b [c]) λl=>cv (EP b c g h e i j k l) c [(J E 0)] j
open Go.aM.G in
def ER:b2:=⟨1,29,(S (R<|dr 1 27 0<|o 2 (.new 154 eY)<|z)<|
 (S (S (R<|f 5 3 1<|l 6 5<|bW 7 6<|b_ 8 0<|z)<|
 (.block 0 [] ([3,4]++g 8 20)
 (.loop [8] ([3,4]++g 9 19)
 (S (R<|b 9 .lss (t 8) (t 7)<|z)<|
 (S (.cond (t 9) [] []
 .skip
 (.exit 0))<|
 (S (.block 1 [] ([3,4]++g 10 17)
 (S (R<|m 10 8<|cz 11 1 6 8<|l 12 11<|m 3 10<|m 4 12<|z)<|
 (S (R<|m 13 4<|dK 14 49 13<|dE 15 14<|m 16 15<|q 24 16 V (g 17 7) (m 17 4<|f 18 10 1<|l 19 18<|bW 20 19<|b 21 .sub (t 20) (i 1)<|o 22 (.call 57 [(t 17),(i 0),(t 21)])<|dE 23 22<|z) (t 23)<|
 z)<|
 (.cond (t 24) [] [25,26]
 (S (R<|m 25 3<|o 26 (.build eY [(0,1,(.const (.string ⟨#[111,114,100,101,114,115]⟩))),(1,1,(t 25)),(2,1,(i 10))])<|bS 3 2 26<|z)<|
 .ret)
 .skip))))<|
 (R<|b 27 .add (t 8) (i 1)<|m 8 27<|z)))))))<|
 (S (R<|o 28 (.build eY [])<|bS 3 2 28<|z)<|
 .ret))),[.cell 2 V 3],[.aj]⟩
theorem acz:cc 139 ER:=cf Tryz.func139 rfl
def ES(b:aT)(c:Nat)(e:Z)(g h:U)(i:Z)(j k:U)(l:bg):(bg)->bg:=λc m n=>u (ar .lss (aK m 0) k) λk=>aD (λ_ k=>aD (λ_ b=>u (ar .add (aK m 0) (J E 1)) λe=>c [e] (trim i [e] b)) λc=>u (bY 1 j (aK m 0)) λi=>u (ab M 1 i k) λi=>u (b 49 [i] k) λj=>u (dq .not j.1) λk=>bc (λb g=>aD (λ_ b=>c [] b) λc=>bb b (u (cV [.str ⟨#[]⟩,J E 0,J E 0] [(0,1,(.str ⟨#[111,114,100,101,114,115]⟩:U)),(1,1,(aK m 0)),(2,1,(J E 10))]) λb=>u (bf 3 h (U.agg b) g) λb=>u (ab V 3 h b) λc=>aN [.aj] e b [c]) (c [] g)) λc=>bd k V (u (aq 10 g) λe=>u (ab M 1 e j.2) λe=>u (bB M e) λe=>u (ar .sub e (J E 1)) λe=>u (b 57 [i,(J E 0),e] j.2) λb=>u (dq .not b.1) λe=>c e b.2) (c (.bool M) j.2)) λb=>bb k (b [] n) (l [] n)
def Qn(b:aT)(c:Nat)(e:U)(g:Z):bl:=bK (.ptr g.length 0) (g++[.box (cn e) 27 .rw]) λe h=>bK (.ptr h.length 0) (h++[.box [.str ⟨#[]⟩,J E 0,J E 0] 154 .rw]) λh i=>u (aq 3 e) λj=>u (ab M 1 j i) λj=>u (bB M j) λk=>aD (λ_ b=>u (cV [.str ⟨#[]⟩,J E 0,J E 0] []) λc=>u (bf 3 h (U.agg c) b) λb=>u (ab V 3 h b) λc=>aN [.aj] g b [c]) λl=>cv (ES b c g e h i j k l) c [(J E 0)] i
open Go.aM.G in
def ET:b2:=⟨1,20,(S (R<|dr 1 27 0<|o 2 (.new 154 eY)<|z)<|
 (S (S (R<|f 5 9 1<|l 6 5<|bW 7 6<|b_ 8 0<|z)<|
 (.block 0 [] ([3,4]++g 8 11)
 (.loop [8] ([3,4]++g 9 10)
 (S (R<|b 9 .lss (t 8) (t 7)<|z)<|
 (S (.cond (t 9) [] []
 .skip
 (.exit 0))<|
 (S (.block 1 [] ([3,4]++g 10 8)
 (S (R<|m 10 8<|cz 11 1 6 8<|l 12 11<|m 3 10<|m 4 12<|z)<|
 (S (R<|m 13 4<|o 14 (.call 57 [(t 13),(i 0),(i 256)])<|dE 15 14<|z)<|
 (.cond (t 15) [] [16,17]
 (S (R<|m 16 3<|o 17 (.build eY [(0,1,(.const (.string ⟨#[112,97,110,115]⟩))),(1,1,(t 16)),(2,1,(i 5))])<|bS 3 2 17<|z)<|
 .ret)
 .skip))))<|
 (R<|b 18 .add (t 8) (i 1)<|m 8 18<|z)))))))<|
 (S (R<|o 19 (.build eY [])<|bS 3 2 19<|z)<|
 .ret))),[.cell 2 V 3],[.aj]⟩
theorem acA:cc 140 ET:=cf Tryz.func140 rfl
def EU(b:aT)(c:Nat)(e:Z)(g:U)(h:Z)(i j:U)(k:bg):(bg)->bg:=λc l m=>u (ar .lss (aK l 0) j) λj=>aD (λ_ j=>aD (λ_ b=>u (ar .add (aK l 0) (J E 1)) λe=>c [e] (trim h [e] b)) λc=>u (bY 1 i (aK l 0)) λh=>u (ab M 1 h j) λh=>u (b 57 [h,(J E 0),(J E 256)] j) λb=>u (dq .not b.1) λh=>aD (λ_ b=>c [] b) λc=>bb h (u (cV [.str ⟨#[]⟩,J E 0,J E 0] [(0,1,(.str ⟨#[112,97,110,115]⟩:U)),(1,1,(aK l 0)),(2,1,(J E 5))]) λc=>u (bf 3 g (U.agg c) b.2) λb=>u (ab V 3 g b) λc=>aN [.aj] e b [c]) (c [] b.2)) λb=>bb j (b [] m) (k [] m)
def Qo(b:aT)(c:Nat)(e:U)(g:Z):bl:=bK (.ptr g.length 0) (g++[.box (cn e) 27 .rw]) λe h=>bK (.ptr h.length 0) (h++[.box [.str ⟨#[]⟩,J E 0,J E 0] 154 .rw]) λh i=>u (aq 9 e) λe=>u (ab M 1 e i) λe=>u (bB M e) λj=>aD (λ_ b=>u (cV [.str ⟨#[]⟩,J E 0,J E 0] []) λc=>u (bf 3 h (U.agg c) b) λb=>u (ab V 3 h b) λc=>aN [.aj] g b [c]) λk=>cv (EU b c g h i e j k) c [(J E 0)] i
open Go.aM.G in
def EV:b2:=⟨1,21,(S (R<|dr 1 27 0<|o 2 (.new 154 eY)<|z)<|
 (S (S (R<|f 4 11 1<|l 5 4<|bW 6 5<|b_ 7 0<|z)<|
 (.block 0 [] ([3]++g 7 13)
 (.loop [7] ([3]++g 8 12)
 (S (R<|b 8 .lss (t 7) (t 6)<|z)<|
 (S (.cond (t 8) [] []
 .skip
 (.exit 0))<|
 (S (.block 1 [] ([3]++g 9 10)
 (S (R<|m 9 7<|m 3 9<|z)<|
 (S (R<|f 10 11 1<|l 11 10<|m 12 3<|cz 13 13 11 12<|bR 14 13 13<|dK 15 165 14<|dE 16 15<|z)<|
 (.cond (t 16) [] [17,18]
 (S (R<|m 17 3<|o 18 (.build eY [(0,1,(.const (.string ⟨#[115,97,109,112,108,101,115]⟩))),(1,1,(t 17)),(2,1,(i 1))])<|bS 3 2 18<|z)<|
 .ret)
 .skip))))<|
 (R<|b 19 .add (t 7) (i 1)<|m 7 19<|z)))))))<|
 (S (R<|o 20 (.build eY [])<|bS 3 2 20<|z)<|
 .ret))),[.cell 2 V 3],[.aj]⟩
theorem acB:cc 141 EV:=cf Tryz.func141 rfl
def EW(b:aT)(c:Nat)(e:Z)(g h:U)(i:Z)(j:U)(k:bg):(bg)->bg:=λc l m=>u (ar .lss (aK l 0) j) λj=>aD (λ_ j=>aD (λ_ b=>u (ar .add (aK l 0) (J E 1)) λe=>c [e] (trim i [e] b)) λc=>u (aq 11 g) λg=>u (ab M 1 g j) λg=>u (bY 13 g (aK l 0)) λg=>u (ab V 13 g j) λg=>u (b 165 [g] j) λb=>u (dq .not b.1) λg=>aD (λ_ b=>c [] b) λc=>bb g (u (cV [.str ⟨#[]⟩,J E 0,J E 0] [(0,1,(.str ⟨#[115,97,109,112,108,101,115]⟩:U)),(1,1,(aK l 0)),(2,1,(J E 1))]) λc=>u (bf 3 h (U.agg c) b.2) λb=>u (ab V 3 h b) λc=>aN [.aj] e b [c]) (c [] b.2)) λb=>bb j (b [] m) (k [] m)
def Qp(b:aT)(c:Nat)(e:U)(g:Z):bl:=bK (.ptr g.length 0) (g++[.box (cn e) 27 .rw]) λe h=>bK (.ptr h.length 0) (h++[.box [.str ⟨#[]⟩,J E 0,J E 0] 154 .rw]) λh i=>u (aq 11 e) λj=>u (ab M 1 j i) λj=>u (bB M j) λj=>aD (λ_ b=>u (cV [.str ⟨#[]⟩,J E 0,J E 0] []) λc=>u (bf 3 h (U.agg c) b) λb=>u (ab V 3 h b) λc=>aN [.aj] g b [c]) λk=>cv (EW b c g e h i j k) c [(J E 0)] i
open Go.aM.G in
def EX:b2:=⟨1,25,(S (R<|dr 1 27 0<|o 2 (.new 154 eY)<|z)<|
 (S (S (R<|f 5 12 1<|l 6 5<|bW 7 6<|b_ 8 0<|z)<|
 (.block 0 [] ([3,4]++g 8 16)
 (.loop [8] ([3,4]++g 9 15)
 (S (R<|b 9 .lss (t 8) (t 7)<|z)<|
 (S (.cond (t 9) [] []
 .skip
 (.exit 0))<|
 (S (.block 1 [] ([3,4]++g 10 13)
 (S (R<|m 10 8<|m 3 10<|z)<|
 (S (D<|bR 11 13 1<|f 12 12 1<|l 13 12<|m 14 3<|cz 15 33 13 14<|bR 16 33 15<|eF 17 166 11 16<|m 4 17<|z)<|
 (S (R<|m 18 4<|b 19 .neq (t 18) (i 0)<|z)<|
 (.cond (t 19) [] [20,21,22]
 (S (R<|m 20 3<|m 21 4<|o 22 (.build eY [(0,1,(.const (.string ⟨#[105,110,115,116,115]⟩))),(1,1,(t 20)),(2,1,(t 21))])<|bS 3 2 22<|z)<|
 .ret)
 .skip)))))<|
 (R<|b 23 .add (t 8) (i 1)<|m 8 23<|z)))))))<|
 (S (R<|o 24 (.build eY [])<|bS 3 2 24<|z)<|
 .ret))),[.cell 2 V 3],[.aj]⟩
theorem acC:cc 142 EX:=cf Tryz.func142 rfl
def EY(b:aT)(c:Nat)(e:Z)(g h:U)(i:Z)(j:U)(k:bg):(bg)->bg:=λc l m=>u (ar .lss (aK l 0) j) λj=>aD (λ_ j=>aD (λ_ b=>u (ar .add (aK l 0) (J E 1)) λe=>c [e] (trim i [e] b)) λc=>u (ab V 13 g j) λi=>u (aq 12 g) λg=>u (ab M 1 g j) λg=>u (bY 33 g (aK l 0)) λg=>u (ab V 33 g j) λg=>u (b 166 [i,g] j) λb=>u (ar .neq b.1 (J E 0)) λg=>aD (λ_ b=>c [] b) λc=>bb g (u (cV [.str ⟨#[]⟩,J E 0,J E 0] [(0,1,(.str ⟨#[105,110,115,116,115]⟩:U)),(1,1,(aK l 0)),(2,1,b.1)]) λc=>u (bf 3 h (U.agg c) b.2) λb=>u (ab V 3 h b) λc=>aN [.aj] e b [c]) (c [] b.2)) λb=>bb j (b [] m) (k [] m)
def Qq(b:aT)(c:Nat)(e:U)(g:Z):bl:=bK (.ptr g.length 0) (g++[.box (cn e) 27 .rw]) λe h=>bK (.ptr h.length 0) (h++[.box [.str ⟨#[]⟩,J E 0,J E 0] 154 .rw]) λh i=>u (aq 12 e) λj=>u (ab M 1 j i) λj=>u (bB M j) λj=>aD (λ_ b=>u (cV [.str ⟨#[]⟩,J E 0,J E 0] []) λc=>u (bf 3 h (U.agg c) b) λb=>u (ab V 3 h b) λc=>aN [.aj] g b [c]) λk=>cv (EY b c g e h i j k) c [(J E 0)] i
open Go.aM.G in
def EZ:b2:=⟨3,91,(S (R<|dr 3 55 0<|cw 6<|z)<|
 (S (R<|f 10 1 3<|l 11 10<|bW 12 11<|m 7 12<|z)<|
 (S (S (R<|m 13 7<|b 14 .gtr (t 13) (i 16)<|m 15 14<|q 22 15 M [16,17,18,21,19,20] (f 16 0 3<|l 17 16<|m 18 17<|q 21 18 V [19,20] (m 19 7<|b 20 .eql (t 19) (i 0)<|z) (t 20)<|
 z) (t 21)<|
 z)<|
 (.cond (t 22) [] [6]
 (S (R<|cw 6<|z)<|
 .ret)
 .skip))<|
 (S (S (R<|b_ 8 0<|z)<|
 (.block 0 [] ([6,8,9]++g 23 50)
 (.loop [8] ([6,9]++g 23 50)
 (S (S (R<|m 23 8<|m 24 7<|b 25 .lss (t 23) (t 24)<|z)<|
 (.cond (t 25) [] []
 .skip
 (.exit 0)))<|
 (S (.block 1 [] ([6,9]++g 28 45)
 (S (R<|f 28 1 3<|l 29 28<|m 30 8<|cz 31 2 29 30<|bR 32 2 31<|o 9 (.new 120 [(.int .i64 0),(.int .i64 0)])<|bS 2 9 32<|z)<|
 (S (D<|m 33 8<|b 34 .eql (t 33) (i 0)<|m 35 34<|q 39 35 V [36,37,38] (f 36 0 9<|l 37 36<|b 38 .neq (t 37) (i 0)<|z) (t 38)<|
 m 40 39<|q 55 40 M ([41,42,43,54]++g 44 10) (m 41 8<|b 42 .gtr (t 41) (i 0)<|m 43 42<|q 54 43 V (g 44 10) (f 44 0 9<|l 45 44<|f 46 1 3<|l 47 46<|m 48 8<|b 49 .sub (t 48) (i 1)<|cz 50 2 47 49<|f 51 0 50<|l 52 51<|b 53 .leq (t 45) (t 52)<|z) (t 53)<|
 z) (t 54)<|
 m 56 55<|q 60 56 M [57,58,59] (f 57 0 9<|l 58 57<|b 59 .gtr (t 58) (i 9999)<|z) (t 59)<|
 m 61 60<|q 66 61 M (g 62 4) (f 62 1 9<|l 63 62<|m 64 1<|b 65 .lss (t 63) (t 64)<|z) (t 65)<|
 m 67 66<|q 72 67 M (g 68 4) (f 68 1 9<|l 69 68<|m 70 2<|b 71 .gtr (t 69) (t 70)<|z) (t 71)<|
 z)<|
 (.cond (t 72) [] [6]
 (S (R<|cw 6<|z)<|
 .ret)
 .skip))))<|
 (R<|m 26 8<|b 27 .add (t 26) (i 1)<|m 8 27<|z))))))<|
 (S (R<|f 73 2 3<|l 74 73<|f 75 3 3<|l 76 75<|f 77 4 3<|l 78 77<|m 79 7<|o 80 (.call 170 [(t 74),(t 76),(t 78),(t 79)])<|m 81 80<|q 90 81 V (g 82 8) (f 82 5 3<|l 83 82<|f 84 6 3<|l 85 84<|f 86 7 3<|l 87 86<|m 88 7<|o 89 (.call 170 [(t 83),(t 85),(t 87),(t 88)])<|z) (t 89)<|
 m 6 90<|z)<|
 .ret))))),[.tmp 6],[.aj]⟩
theorem acD:cc 145 EZ:=cf Tryz.func145 rfl
def E0(b:aT)(c:Nat)(e g:U)(h:Z)(i j:U)(k:Z)(l:bg):(bg)->bg:=λb c m=>u (ar .lss (aK c 0) j) λj=>aD (λ_ j=>aD (λ_ e=>u (ar .add (aK c 0) (J E 1)) λc=>b [c] (trim k [c] e)) λb=>u (aq 1 i) λk=>u (ab M 1 k j) λk=>u (bY 2 k (aK c 0)) λk=>u (ab V 2 k j) λk=>bK (.ptr j.length 0) (j++[.box [J E 0,J E 0] 120 .rw]) λj l=>u (bf 2 j k l) λk=>u (ar .eql (aK c 0) (J E 0)) λl=>bc (λk l=>bc (λc i=>bc (λc i=>bc (λc e=>bc (λc e=>aD (λ_ c=>b [] c) λb=>bb c (aN [.aj] h e [(.bool M)]) (b [] e)) λb=>bd c M (u (aq 1 j) λc=>u (ab M 1 c e) λc=>u (ar .gtr c g) λc=>b c e) (b (.bool V) e)) λb=>bd c M (u (aq 1 j) λc=>u (ab M 1 c i) λc=>u (ar .lss c e) λc=>b c i) (b (.bool V) i)) λb=>bd c M (u (aq 0 j) λc=>u (ab M 1 c i) λc=>u (ar .gtr c (J E 9999)) λc=>b c i) (b (.bool V) i)) λb=>bd k M (u (ar .gtr (aK c 0) (J E 0)) λe=>bc (λc e=>b c e) λb=>bd e V (u (aq 0 j) λe=>u (ab M 1 e l) λe=>u (aq 1 i) λg=>u (ab M 1 g l) λg=>u (ar .sub (aK c 0) (J E 1)) λc=>u (bY 2 g c) λc=>u (aq 0 c) λc=>u (ab M 1 c l) λc=>u (ar .leq e c) λc=>b c l) (b (.bool M) l)) (b (.bool V) l)) λb=>bd l V (u (aq 0 j) λc=>u (ab M 1 c k) λc=>u (ar .neq c (J E 0)) λc=>b c k) (b (.bool M) k)) λb=>bb j (b [] m) (l [] m)
def Qr(b:aT)(c:Nat)(e g h:U)(i:Z):bl:=bK (.ptr i.length 0) (i++[.box (cn e) 55 .rw]) λe j=>u (aq 1 e) λk=>u (ab M 1 k j) λk=>u (bB M k) λk=>u (ar .gtr k (J E 16)) λl=>bc (λj l=>aD (λ_ j=>aD (λ_ c=>u (aq 2 e) λg=>u (ab M 1 g c) λg=>u (aq 3 e) λh=>u (ab M 1 h c) λh=>u (aq 4 e) λj=>u (ab M 1 j c) λj=>u (b 170 [g,h,j,k] c) λc=>bc (λb c=>aN [.aj] i c [b]) λg=>bd c.1 V (u (aq 5 e) λh=>u (ab M 1 h c.2) λh=>u (aq 6 e) λi=>u (ab M 1 i c.2) λi=>u (aq 7 e) λe=>u (ab M 1 e c.2) λe=>u (b 170 [h,i,e,k] c.2) λb=>g b.1 b.2) (g (.bool M) c.2)) λl=>cv (E0 b c g h i e k j l) c [(J E 0)] j) λb=>bb j (aN [.aj] i l [(.bool M)]) (b [] l)) λb=>bd l M (u (aq 0 e) λc=>u (ab M 1 c j) λc=>bc (λc e=>b c e) λb=>bd c V (u (ar .eql k (J E 0)) λc=>b c j) (b (.bool M) j)) (b (.bool V) j)
open Go.aM.G in
def E1:b2:=⟨3,15,(S (R<|cw 6<|z)<|
 (S (R<|m 7 0<|m 8 1<|b 9 .geq (t 7) (t 8)<|m 10 9<|q 14 10 V [11,12,13] (m 11 0<|m 12 2<|b 13 .leq (t 11) (t 12)<|z) (t 13)<|
 m 6 14<|z)<|
 .ret)),[.tmp 6],[.aj]⟩
theorem acE:cc 146 E1:=cf Tryz.func146 rfl
def Qs(b:aT)(c:Nat)(e g h:U)(i:Z):bl:=u (ar .geq e g) λb=>bc (λb c=>aN [.aj] i c [b]) λc=>bd b V (u (ar .leq e h) λb=>c b i) (c (.bool M) i)
open Go.aM.G in
def E2:b2:=⟨1,6,(S (R<|dr 1 41 0<|cw 2<|z)<|
 (S (R<|bR 3 6 1<|dK 4 148 3<|dE 5 4<|m 2 5<|z)<|
 .ret)),[.tmp 2],[.aj]⟩
theorem acF:cc 147 E2:=cf Tryz.func147 rfl
def Qt(b:aT)(c:Nat)(e:U)(g:Z):bl:=bK (.ptr g.length 0) (g++[.box (cn e) 41 .rw]) λc e=>u (ab V 6 c e) λc=>u (b 148 [c] e) λb=>u (dq .not b.1) λc=>aN [.aj] g b.2 [c]
open Go.aM.G in
def E3:b2:=⟨1,72,(S (R<|dr 1 41 0<|cw 2<|z)<|
 (S (R<|f 6 0 1<|l 7 6<|o 8 (.call 104 [(t 7),(i 0),(i 120)])<|m 9 8<|q 13 9 M [10,11,12] (f 10 0 1<|l 11 10<|b 12 .eql (t 11) (i 253)<|z) (t 12)<|
 m 14 13<|q 18 14 M [15,16,17] (f 15 0 1<|l 16 15<|b 17 .eql (t 16) (i 254)<|z) (t 17)<|
 m 19 18<|q 23 19 M [20,21,22] (f 20 0 1<|l 21 20<|b 22 .eql (t 21) (i 255)<|z) (t 22)<|
 m 3 23<|z)<|
 (S (R<|f 24 2 1<|l 25 24<|o 26 (.call 104 [(t 25),(i 0),(i 12)])<|m 27 26<|q 31 27 V [28,29,30] (f 28 3 1<|l 29 28<|o 30 (.call 104 [(t 29),(i 0),(i 99)])<|z) (t 30)<|
 m 32 31<|q 41 32 V (g 33 4++[40,37,38,39]) (f 33 2 1<|l 34 33<|b 35 .gtr (t 34) (i 0)<|m 36 35<|q 40 36 M [37,38,39] (f 37 3 1<|l 38 37<|b 39 .eql (t 38) (i 0)<|z) (t 39)<|
 z) (t 40)<|
 m 4 41<|z)<|
 (S (R<|f 42 4 1<|l 43 42<|o 44 (.call 104 [(t 43),(i 0),(i 36)])<|m 45 44<|q 49 45 V [46,47,48] (f 46 5 1<|l 47 46<|o 48 (.call 104 [(t 47),(i 0),(i 255)])<|z) (t 48)<|
 m 50 49<|q 59 50 V (g 51 4++[58,55,56,57]) (f 51 4 1<|l 52 51<|b 53 .gtr (t 52) (i 0)<|m 54 53<|q 58 54 M [55,56,57] (f 55 5 1<|l 56 55<|b 57 .eql (t 56) (i 0)<|z) (t 57)<|
 z) (t 58)<|
 m 5 59<|z)<|
 (S (R<|m 60 3<|m 61 60<|q 65 61 V [62,63,64] (f 62 1 1<|l 63 62<|o 64 (.call 104 [(t 63),(i 0),(i 31)])<|z) (t 64)<|
 m 66 65<|q 68 66 V [67] (m 67 4<|z) (t 67)<|
 m 69 68<|q 71 69 V [70] (m 70 5<|z) (t 70)<|
 m 2 71<|z)<|
 .ret))))),[.tmp 2],[.aj]⟩
theorem acG:cc 148 E3:=cf Tryz.func148 rfl
def Qu(b:aT)(c:Nat)(e:U)(g:Z):bl:=bK (.ptr g.length 0) (g++[.box (cn e) 41 .rw]) λc e=>u (aq 0 c) λh=>u (ab M 1 h e) λh=>u (b 104 [h,(J E 0),(J E 120)] e) λe=>bc (λe h=>bc (λe h=>bc (λe h=>u (aq 2 c) λi=>u (ab M 1 i h) λi=>u (b 104 [i,(J E 0),(J E 12)] h) λh=>bc (λh i=>bc (λh i=>u (aq 4 c) λj=>u (ab M 1 j i) λj=>u (b 104 [j,(J E 0),(J E 36)] i) λi=>bc (λi j=>bc (λi j=>bc (λb c=>bc (λb c=>bc (λb c=>aN [.aj] g c [b]) λe=>bd b V (e i c) (e (.bool M) c)) λe=>bd b V (e h c) (e (.bool M) c)) λg=>bd e V (u (aq 1 c) λc=>u (ab M 1 c j) λc=>u (b 104 [c,(J E 0),(J E 31)] j) λb=>g b.1 b.2) (g (.bool M) j)) λb=>bd i V (u (aq 4 c) λe=>u (ab M 1 e j) λe=>u (ar .gtr e (J E 0)) λe=>bc (λc e=>b c e) λb=>bd e M (u (aq 5 c) λc=>u (ab M 1 c j) λc=>u (ar .eql c (J E 0)) λc=>b c j) (b (.bool V) j)) (b (.bool M) j)) λe=>bd i.1 V (u (aq 5 c) λc=>u (ab M 1 c i.2) λc=>u (b 104 [c,(J E 0),(J E 255)] i.2) λb=>e b.1 b.2) (e (.bool M) i.2)) λb=>bd h V (u (aq 2 c) λe=>u (ab M 1 e i) λe=>u (ar .gtr e (J E 0)) λe=>bc (λc e=>b c e) λb=>bd e M (u (aq 3 c) λc=>u (ab M 1 c i) λc=>u (ar .eql c (J E 0)) λc=>b c i) (b (.bool V) i)) (b (.bool M) i)) λe=>bd h.1 V (u (aq 3 c) λc=>u (ab M 1 c h.2) λc=>u (b 104 [c,(J E 0),(J E 99)] h.2) λb=>e b.1 b.2) (e (.bool M) h.2)) λb=>bd e M (u (aq 0 c) λc=>u (ab M 1 c h) λc=>u (ar .eql c (J E 255)) λc=>b c h) (b (.bool V) h)) λb=>bd e M (u (aq 0 c) λc=>u (ab M 1 c h) λc=>u (ar .eql c (J E 254)) λc=>b c h) (b (.bool V) h)) λb=>bd e.1 M (u (aq 0 c) λc=>u (ab M 1 c e.2) λc=>u (ar .eql c (J E 253)) λc=>b c e.2) (b (.bool V) e.2)
open Go.aM.G in
def E4:b2:=⟨2,19,(S (R<|b_ 4 0<|z)<|
 (S (S (R<|m 6 0<|bW 7 6<|b_ 8 0<|z)<|
 (.block 0 [] ([4,5]++g 8 11)
 (.loop [8] ([4,5]++g 9 10)
 (S (R<|b 9 .lss (t 8) (t 7)<|z)<|
 (S (.cond (t 9) [] []
 .skip
 (.exit 0))<|
 (S (.block 1 [] ([4,5]++g 10 8)
 (S (R<|m 10 8<|m 5 10<|z)<|
 (S (R<|m 11 1<|m 12 0<|m 13 5<|cz 14 6 12 13<|bR 15 6 14<|o 16 (.im (t 11) [(t 15)])<|z)<|
 (.cond (t 16) [] [4,17]
 (S (R<|m 17 5<|m 4 17<|z)<|
 .ret)
 .skip))))<|
 (R<|b 18 .add (t 8) (i 1)<|m 8 18<|z)))))))<|
 (S (R<|o 4 (.move (i (-1)))<|z)<|
 .ret))),[.tmp 4],[.aj]⟩
theorem acH:cc 149 E4:=cf Tryz.func149 rfl
def E5(b:aT)(c:Nat)(e g:U)(h:Z)(i:U)(j:bg):(bg)->bg:=λc k l=>u (ar .lss (aK k 0) i) λi=>aD (λ_ i=>aD (λ_ b=>u (ar .add (aK k 0) (J E 1)) λe=>c [e] (trim h [e] b)) λc=>u (bY 6 e (aK k 0)) λe=>u (ab V 6 e i) λe=>u (gz b g [e] i) λb=>aD (λ_ b=>c [] b) λc=>bb b.1 (aN [.aj] h b.2 [(aK k 0)]) (c [] b.2)) λb=>bb i (b [] l) (j [] l)
def Qv(b:aT)(c:Nat)(e g:U)(h:Z):bl:=u (bB M e) λi=>aD (λ_ b=>aN [.aj] h b [(J E (-1))]) λj=>cv (E5 b c e g h i j) c [(J E 0)] h
open Go.aM.G in
def E6:b2:=⟨2,46,(S (R<|cw 4<|z)<|
 (S (R<|o 6 (.call 102 [])<|m 7 0<|o 8 (.rJ 7 V 29 (t 6) (t 7))<|o 5 (.new 83 ji)<|bS 29 5 8<|z)<|
 (S (S (R<|m 9 1<|z)<|
 (.block 0 [] ([4]++g 10 26)
 (S (R<|b 11 .eql (t 9) (i 0)<|m 10 11<|z)<|
 (.cond (t 10) [] ([4]++g 12 24)
 (S (R<|gC 4<|z)<|
 .ret)
 (S (R<|b 13 .eql (t 9) (i 255)<|m 12 13<|z)<|
 (.cond (t 12) [] ([4]++g 14 22)
 (S (R<|m 14 0<|b 15 .eql (t 14) (i 3)<|m 16 15<|q 19 16 M [17,18] (m 17 0<|b 18 .eql (t 17) (i 4)<|z) (t 18)<|
 m 20 19<|q 23 20 M [21,22] (m 21 0<|b 22 .eql (t 21) (i 6)<|z) (t 22)<|
 m 4 23<|z)<|
 .ret)
 (S (R<|b 25 .eql (t 9) (i 254)<|m 24 25<|z)<|
 (.cond (t 24) [] ([4]++g 26 10)
 (S (R<|m 26 0<|b 27 .eql (t 26) (i 2)<|m 28 27<|q 31 28 M [29,30] (m 29 0<|b 30 .eql (t 29) (i 4)<|z) (t 30)<|
 m 4 31<|z)<|
 .ret)
 (S (R<|b 33 .eql (t 9) (i 253)<|m 32 33<|z)<|
 (.cond (t 32) [] [4,34,35]
 (S (R<|m 34 0<|b 35 .eql (t 34) (i 4)<|m 4 35<|z)<|
 .ret)
 .skip))))))))))<|
 (S (R<|m 36 1<|f 37 4 5<|l 38 37<|b 39 .geq (t 36) (t 38)<|m 40 39<|q 45 40 V (g 41 4) (m 41 1<|f 42 5 5<|l 43 42<|b 44 .leq (t 41) (t 43)<|z) (t 44)<|
 m 4 45<|z)<|
 .ret)))),[.tmp 4],[.aj]⟩
theorem acI:cc 150 E6:=cf Tryz.func150 rfl
def Qw(b:aT)(c:Nat)(e g:U)(h:Z):bl:=u (b 102 [] h) λb=>u (rT 7 V 29 b.1 e) λc=>bK (.ptr b.2.length 0) (b.2++[.box e8 83 .rw]) λb i=>u (bf 29 b c i) λc=>aD (λ_ c=>u (aq 4 b) λe=>u (ab M 1 e c) λe=>u (ar .geq g e) λe=>bc (λb c=>aN [.aj] h c [b]) λh=>bd e V (u (aq 5 b) λb=>u (ab M 1 b c) λb=>u (ar .leq g b) λb=>h b c) (h (.bool M) c)) λb=>u (ar .eql g (J E 0)) λi=>aD (λ_ c=>b [] c) λb=>bb i (aN [.aj] h c [(.bool V)]) (u (ar .eql g (J E 255)) λi=>aD (λ_ c=>b [] c) λb=>bb i (u (ar .eql e (J E 3)) λb=>bc (λb c=>bc (λb c=>aN [.aj] h c [b]) λg=>bd b M (u (ar .eql e (J E 6)) λb=>g b c) (g (.bool V) c)) λg=>bd b M (u (ar .eql e (J E 4)) λb=>g b c) (g (.bool V) c)) (u (ar .eql g (J E 254)) λi=>aD (λ_ c=>b [] c) λb=>bb i (u (ar .eql e (J E 2)) λb=>bc (λb c=>aN [.aj] h c [b]) λg=>bd b M (u (ar .eql e (J E 4)) λb=>g b c) (g (.bool V) c)) (u (ar .eql g (J E 253)) λg=>aD (λ_ c=>b [] c) λb=>bb g (u (ar .eql e (J E 4)) λb=>aN [.aj] h c [b]) (b [] c))))
open Go.aM.G in
def E7:b2:=⟨1,7,(S (R<|b_ 2 0<|z)<|
 (S (R<|o 3 .mkMap<|n (.pR .int (t 3) (i 2) (i 1))<|n (.pR .int (t 3) (i 3) (i 8))<|n (.pR .int (t 3) (i 4) (i 10))<|m 4 3<|m 5 0<|o 6 (.lookup .int (.int .i64 0) M (t 4) (t 5))<|m 2 6<|z)<|
 .ret)),[.tmp 2],[.aj]⟩
theorem acJ:cc 151 E7:=cf Tryz.func151 rfl
def Qx(b:aT)(c:Nat)(e:U)(g:Z):bl:=bK (.map g.length) (g++[.map [] .rw]) λb c=>u (p6 .int b (J E 2) (J E 1) c) λc=>u (p6 .int b (J E 3) (J E 8) c) λc=>u (p6 .int b (J E 4) (J E 10) c) λc=>u (rX .int (J E 0) M b e c) λb=>aN [.aj] g c [b]
open Go.aM.G in
def E8:b2:=⟨2,8,(S (R<|b_ 4 0<|z)<|
 (S (R<|m 5 0<|m 6 1<|eF 7 171 5 6<|m 4 7<|z)<|
 .ret)),[.tmp 4],[.aj]⟩
theorem acK:cc 152 E8:=cf Tryz.func152 rfl
def Qy(b:aT)(c:Nat)(e g:U)(h:Z):bl:=u (b 171 [e,g] h) λb=>aN [.aj] h b.2 [b.1]
open Go.aM.G in
def E9:b2:=⟨1,9,(S (R<|o 2 (.move (.const (.string ⟨#[]⟩)))<|z)<|
 (S (S (R<|m 3 0<|dK 4 101 3<|dE 5 4<|z)<|
 (.cond (t 5) [] [2]
 (S (R<|o 2 (.move (.const (.string ⟨#[]⟩)))<|z)<|
 .ret)
 .skip))<|
 (S (R<|o 6 (.build ZP [(1,1,(.const (.string ⟨#[48,49,50,51,52,53,54,55,56,57,65,66,67,68,69,70]⟩))),(2,1,(.const (.string ⟨#[65,66,67,68,69,70,71,72,73,74,75,76,79,81,82,83,84,85,86,88]⟩))),(3,1,(.const (.string ⟨#[48,49,50,51,52,53,54,55,56,57,65,66,67,68,69,70,71,72,75,76,80,82,84,88]⟩))),(4,1,(.const (.string ⟨#[65,66,67,68,69,70,71,72,73,74,75,76,77,78,79,80,81,82,83,84,85,86,87,88,89,90]⟩))),(5,1,(.const (.string ⟨#[48,49,50,51,52,53]⟩))),(6,1,(.const (.string ⟨#[48,49,50,51,52,65,66,67,68,69,70,78,83]⟩)))])<|m 7 0<|o 8 (.rJ 7 M 1 (t 6) (t 7))<|m 2 8<|z)<|
 .ret))),[.tmp 2],[.aj]⟩
theorem acL:cc 153 E9:=cf Tryz.func153 rfl
def Qz(b:aT)(c:Nat)(e:U)(g:Z):bl:=u (b 101 [e] g) λb=>u (dq .not b.1) λc=>aD (λ_ b=>u (cV [.str ⟨#[]⟩,.str ⟨#[]⟩,.str ⟨#[]⟩,.str ⟨#[]⟩,.str ⟨#[]⟩,.str ⟨#[]⟩,.str ⟨#[]⟩] [(1,1,(.str ⟨#[48,49,50,51,52,53,54,55,56,57,65,66,67,68,69,70]⟩:U)),(2,1,(.str ⟨#[65,66,67,68,69,70,71,72,73,74,75,76,79,81,82,83,84,85,86,88]⟩:U)),(3,1,(.str ⟨#[48,49,50,51,52,53,54,55,56,57,65,66,67,68,69,70,71,72,75,76,80,82,84,88]⟩:U)),(4,1,(.str ⟨#[65,66,67,68,69,70,71,72,73,74,75,76,77,78,79,80,81,82,83,84,85,86,87,88,89,90]⟩:U)),(5,1,(.str ⟨#[48,49,50,51,52,53]⟩:U)),(6,1,(.str ⟨#[48,49,50,51,52,65,66,67,68,69,70,78,83]⟩:U))]) λc=>u (rT 7 M 1 (U.agg c) e) λc=>aN [.aj] g b [c]) λe=>bb c (aN [.aj] g b.2 [(.str ⟨#[]⟩:U)]) (e [] b.2)
open Go.aM.G in
def E_:b2:=⟨1,6,(S (R<|o 2 (.move (.const (.int .u8 0)))<|z)<|
 (S (R<|m 3 0<|b 4 .sub (t 3) (i 1)<|o 5 (.nw (.const (.string ⟨#[48,49,50,51,52,53,54,55,56,57,65,66,67,68,69,70,71,72,73,74,75,76,77,78,79,80,81,82,83,84,85,86,87,88,89,90]⟩)) (t 4))<|m 2 5<|z)<|
 .ret)),[.tmp 2],[.aj]⟩
theorem acM:cc 154 E_:=cf Tryz.func154 rfl
def QA(b:aT)(c:Nat)(e:U)(g:Z):bl:=u (ar .sub e (J E 1)) λb=>u (mW (.str ⟨#[48,49,50,51,52,53,54,55,56,57,65,66,67,68,69,70,71,72,73,74,75,76,77,78,79,80,81,82,83,84,85,86,87,88,89,90]⟩:U) b) λb=>aN [.aj] g g [b]
open Go.aM.G in
def E':b2:=⟨1,11,(S (R<|b_ 2 0<|b_ 3 0<|z)<|
 (S (D<|m 4 0<|b 5 .sub (t 4) (i 1)<|b 6 .shl (i (-1)) (t 5)<|m 7 0<|b 8 .sub (t 7) (i 1)<|b 9 .shl (i 1) (t 8)<|b 10 .sub (t 9) (i 1)<|m 2 6<|m 3 10<|z)<|
 .ret)),[.tmp 2,.tmp 3],[.aj,.aj]⟩
theorem acN:cc 155 E':=cf Tryz.func155 rfl
def acO(b:aT)(c:Nat)(e:U)(g:Z):bl:=u (ar .sub e (J E 1)) λb=>u (ar .shl (J E (-1)) b) λb=>u (ar .sub e (J E 1)) λc=>u (ar .shl (J E 1) c) λc=>u (ar .sub c (J E 1)) λc=>aN [.aj,.aj] g g [b,c]
open Go.aM.G in
def Fa:b2:=⟨4,33,(S (R<|cw 8<|z)<|
 (S (S (R<|m 9 0<|z)<|
 (.block 0 [] ([8]++g 10 23)
 (S (R<|b 11 .eql (t 9) (i 0)<|m 10 11<|z)<|
 (.cond (t 10) [] ([8]++g 12 21)
 (S (R<|m 12 1<|b 13 .eql (t 12) (i 0)<|m 14 13<|q 17 14 V [15,16] (m 15 2<|b 16 .eql (t 15) (i 0)<|z) (t 16)<|
 m 8 17<|z)<|
 .ret)
 (S (S (R<|b 19 .eql (t 9) (i 1)<|m 18 19<|z)<|
 (.cond (t 18) [18] [20]
 .skip
 (R<|b 20 .eql (t 9) (i 2)<|m 18 20<|z)))<|
 (.cond (t 18) [] ([8]++g 21 12)
 (S (R<|m 21 1<|b 22 .leq (i 0) (t 21)<|m 23 22<|q 27 23 V [24,25,26] (m 24 1<|m 25 2<|b 26 .lss (t 24) (t 25)<|z) (t 26)<|
 m 28 27<|q 32 28 V [29,30,31] (m 29 2<|m 30 3<|b 31 .leq (t 29) (t 30)<|z) (t 31)<|
 m 8 32<|z)<|
 .ret)
 .skip))))))<|
 (S (R<|cw 8<|z)<|
 .ret))),[.tmp 8],[.aj]⟩
theorem acP:cc 156 Fa:=cf Tryz.func156 rfl
def QB(b:aT)(c:Nat)(e g h i:U)(j:Z):bl:=aD (λ_ b=>aN [.aj] j b [(.bool M)]) λb=>u (ar .eql e (J E 0)) λc=>aD (λ_ c=>b [] c) λb=>bb c (u (ar .eql g (J E 0)) λb=>bc (λb c=>aN [.aj] j c [b]) λc=>bd b V (u (ar .eql h (J E 0)) λb=>c b j) (c (.bool M) j)) (u (ar .eql e (J E 1)) λc=>aD (λc e=>aD (λ_ c=>b [] c) λb=>bb (aK c 0) (u (ar .leq (J E 0) g) λb=>bc (λb c=>bc (λb c=>aN [.aj] j c [b]) λe=>bd b V (u (ar .leq h i) λb=>e b c) (e (.bool M) c)) λc=>bd b V (u (ar .lss g h) λb=>c b e) (c (.bool M) e)) (b [] e)) λb=>bb c (b [c] j) (u (ar .eql e (J E 2)) λc=>b [c] j))
open Go.aM.G in
def Fb:b2:=⟨1,23,(S (R<|cw 2<|z)<|
 (S (S (R<|m 4 0<|o 5 (.len V (t 4))<|b_ 6 0<|z)<|
 (.block 0 [] ([2,3]++g 6 14)
 (.loop [6] ([2,3]++g 7 13)
 (S (R<|b 7 .lss (t 6) (t 5)<|z)<|
 (S (.cond (t 7) [] []
 .skip
 (.exit 0))<|
 (S (.block 1 [] ([2,3]++g 8 11)
 (S (R<|m 8 6<|m 3 8<|z)<|
 (S (R<|m 9 0<|m 10 3<|o 11 (.nw (t 9) (t 10))<|b 12 .lss (t 11) (.const (.int .u8 32))<|m 13 12<|q 18 13 M (g 14 4) (m 14 0<|m 15 3<|o 16 (.nw (t 14) (t 15))<|b 17 .gtr (t 16) (.const (.int .u8 126))<|z) (t 17)<|
 z)<|
 (.cond (t 18) [] [2]
 (S (R<|cw 2<|z)<|
 .ret)
 .skip))))<|
 (R<|b 19 .add (t 6) (i 1)<|m 6 19<|z)))))))<|
 (S (R<|m 20 0<|o 21 (.len V (t 20))<|b 22 .leq (t 21) (i 22)<|m 2 22<|z)<|
 .ret))),[.tmp 2],[.aj]⟩
theorem acQ:cc 157 Fb:=cf Tryz.func157 rfl
def Fc(b:aT)(c:Nat)(e:U)(g:Z)(h:U)(i:bg):(bg)->bg:=λb c j=>u (ar .lss (aK c 0) h) λh=>aD (λ_ h=>aD (λ_ e=>u (ar .add (aK c 0) (J E 1)) λc=>b [c] (trim g [c] e)) λb=>u (mW e (aK c 0)) λi=>u (ar .lss i (.int .u8 32)) λi=>bc (λc e=>aD (λ_ c=>b [] c) λb=>bb c (aN [.aj] g e [(.bool M)]) (b [] e)) λb=>bd i M (u (mW e (aK c 0)) λc=>u (ar .gtr c (.int .u8 126)) λc=>b c h) (b (.bool V) h)) λb=>bb h (b [] j) (i [] j)
def QC(b:aT)(c:Nat)(e:U)(g:Z):bl:=u (bB V e) λh=>aD (λ_ b=>u (bB V e) λc=>u (ar .leq c (J E 22)) λc=>aN [.aj] g b [c]) λi=>cv (Fc b c e g h i) c [(J E 0)] g
open Go.aM.G in
def Fe:b2:=⟨1,13,(S (R<|dr 1 89 0<|cw 2<|z)<|
 (S (R<|f 3 0 1<|l 4 3<|o 5 (.call 146 [(t 4),(i 0),(i 119)])<|dE 6 5<|m 7 6<|q 12 7 M (g 8 4) (f 8 1 1<|l 9 8<|o 10 (.call 146 [(t 9),(i 0),(i 31)])<|dE 11 10<|z) (t 11)<|
 m 2 12<|z)<|
 .ret)),[.tmp 2],[.aj]⟩
theorem acR:cc 158 Fe:=cf Tryz.func158 rfl
def QD(b:aT)(c:Nat)(e:U)(g:Z):bl:=bK (.ptr g.length 0) (g++[.box (cn e) 89 .rw]) λc e=>u (aq 0 c) λh=>u (ab M 1 h e) λh=>u (b 146 [h,(J E 0),(J E 119)] e) λe=>u (dq .not e.1) λh=>bc (λb c=>aN [.aj] g c [b]) λg=>bd h M (u (aq 1 c) λc=>u (ab M 1 c e.2) λc=>u (b 146 [c,(J E 0),(J E 31)] e.2) λb=>u (dq .not b.1) λc=>g c b.2) (g (.bool V) e.2)
open Go.aM.G in
def Ff:b2:=⟨3,92,(S (R<|dr 3 55 0<|cw 6<|z)<|
 (S (S (R<|f 10 1 3<|l 11 10<|bW 12 11<|b 13 .gtr (t 12) (i 16)<|m 14 13<|q 23 14 M ([15,16,17,22]++g 18 4) (f 15 0 3<|l 16 15<|m 17 16<|q 22 17 V (g 18 4) (f 18 1 3<|l 19 18<|bW 20 19<|b 21 .eql (t 20) (i 0)<|z) (t 21)<|
 z) (t 22)<|
 z)<|
 (.cond (t 23) [] [6]
 (S (R<|cw 6<|z)<|
 .ret)
 .skip))<|
 (S (S (R<|f 24 1 3<|l 25 24<|bW 26 25<|b_ 27 0<|z)<|
 (.block 0 [] ([6,7,8]++g 27 46)
 (.loop [27] ([6,7,8]++g 28 45)
 (S (R<|b 28 .lss (t 27) (t 26)<|z)<|
 (S (.cond (t 28) [] []
 .skip
 (.exit 0))<|
 (S (.block 1 [] ([6,7,8]++g 29 43)
 (S (R<|m 29 27<|cz 30 2 25 27<|bR 31 2 30<|o 8 (.new 120 [(.int .i64 0),(.int .i64 0)])<|m 7 29<|bS 2 8 31<|z)<|
 (S (D<|m 32 7<|b 33 .eql (t 32) (i 0)<|m 34 33<|q 38 34 V [35,36,37] (f 35 0 8<|l 36 35<|b 37 .neq (t 36) (i 0)<|z) (t 37)<|
 m 39 38<|q 54 39 M ([40,41,42,53]++g 43 10) (m 40 7<|b 41 .gtr (t 40) (i 0)<|m 42 41<|q 53 42 V (g 43 10) (f 43 0 8<|l 44 43<|f 45 1 3<|l 46 45<|m 47 7<|b 48 .sub (t 47) (i 1)<|cz 49 2 46 48<|f 50 0 49<|l 51 50<|b 52 .leq (t 44) (t 51)<|z) (t 52)<|
 z) (t 53)<|
 m 55 54<|q 59 55 M [56,57,58] (f 56 0 8<|l 57 56<|b 58 .gtr (t 57) (i 9999)<|z) (t 58)<|
 m 60 59<|q 65 60 M (g 61 4) (f 61 1 8<|l 62 61<|m 63 1<|b 64 .lss (t 62) (t 63)<|z) (t 64)<|
 m 66 65<|q 71 66 M (g 67 4) (f 67 1 8<|l 68 67<|m 69 2<|b 70 .gtr (t 68) (t 69)<|z) (t 70)<|
 z)<|
 (.cond (t 71) [] [6]
 (S (R<|cw 6<|z)<|
 .ret)
 .skip))))<|
 (R<|b 72 .add (t 27) (i 1)<|m 27 72<|z)))))))<|
 (S (R<|o 73 (.ko 172 [] [(t 3)])<|m 9 73<|z)<|
 (S (R<|m 74 9<|f 75 2 3<|l 76 75<|f 77 3 3<|l 78 77<|f 79 4 3<|l 80 79<|o 81 (.im (t 74) [(t 76),(t 78),(t 80)])<|m 82 81<|q 91 82 V (g 83 8) (m 83 9<|f 84 5 3<|l 85 84<|f 86 6 3<|l 87 86<|f 88 7 3<|l 89 88<|o 90 (.im (t 83) [(t 85),(t 87),(t 89)])<|z) (t 90)<|
 m 6 91<|z)<|
 .ret))))),[.tmp 6],[.aj]⟩
theorem acS:cc 159 Ff:=cf Tryz.func159 rfl
def Fg(b:aT)(c:Nat)(e g:U)(h:Z)(i:U)(j:Z)(k l:U)(m:bg):(bg)->bg:=λb c n=>u (ar .lss (aK c 0) l) λl=>aD (λ_ l=>aD (λ_ e=>u (ar .add (aK c 0) (J E 1)) λc=>b [c] (trim j [c] e)) λb=>u (bY 2 k (aK c 0)) λj=>u (ab V 2 j l) λj=>bK (.ptr l.length 0) (l++[.box [J E 0,J E 0] 120 .rw]) λk l=>u (bf 2 k j l) λj=>u (ar .eql (aK c 0) (J E 0)) λl=>bc (λj l=>bc (λc i=>bc (λc i=>bc (λc e=>bc (λc e=>aD (λ_ c=>b [] c) λb=>bb c (aN [.aj] h e [(.bool M)]) (b [] e)) λb=>bd c M (u (aq 1 k) λc=>u (ab M 1 c e) λc=>u (ar .gtr c g) λc=>b c e) (b (.bool V) e)) λb=>bd c M (u (aq 1 k) λc=>u (ab M 1 c i) λc=>u (ar .lss c e) λc=>b c i) (b (.bool V) i)) λb=>bd c M (u (aq 0 k) λc=>u (ab M 1 c i) λc=>u (ar .gtr c (J E 9999)) λc=>b c i) (b (.bool V) i)) λb=>bd j M (u (ar .gtr (aK c 0) (J E 0)) λe=>bc (λc e=>b c e) λb=>bd e V (u (aq 0 k) λe=>u (ab M 1 e l) λe=>u (aq 1 i) λg=>u (ab M 1 g l) λg=>u (ar .sub (aK c 0) (J E 1)) λc=>u (bY 2 g c) λc=>u (aq 0 c) λc=>u (ab M 1 c l) λc=>u (ar .leq e c) λc=>b c l) (b (.bool M) l)) (b (.bool V) l)) λb=>bd l V (u (aq 0 k) λc=>u (ab M 1 c j) λc=>u (ar .neq c (J E 0)) λc=>b c j) (b (.bool M) j)) λb=>bb l (b [] n) (m [] n)
def QE(b:aT)(c:Nat)(e g h:U)(i:Z):bl:=bK (.ptr i.length 0) (i++[.box (cn e) 55 .rw]) λe j=>u (aq 1 e) λk=>u (ab M 1 k j) λk=>u (bB M k) λk=>u (ar .gtr k (J E 16)) λk=>bc (λj k=>aD (λ_ j=>u (aq 1 e) λk=>u (ab M 1 k j) λk=>u (bB M k) λl=>aD (λ_ c=>u (aq 2 e) λg=>u (ab M 1 g c) λg=>u (aq 3 e) λh=>u (ab M 1 h c) λh=>u (aq 4 e) λj=>u (ab M 1 j c) λj=>u (gz b (U.func 172 [] [e]) [g,h,j] c) λc=>bc (λb c=>aN [.aj] i c [b]) λg=>bd c.1 V (u (aq 5 e) λh=>u (ab M 1 h c.2) λh=>u (aq 6 e) λi=>u (ab M 1 i c.2) λi=>u (aq 7 e) λj=>u (ab M 1 j c.2) λj=>u (gz b (U.func 172 [] [e]) [h,i,j] c.2) λb=>g b.1 b.2) (g (.bool M) c.2)) λm=>cv (Fg b c g h i e j k l m) c [(J E 0)] j) λb=>bb j (aN [.aj] i k [(.bool M)]) (b [] k)) λb=>bd k M (u (aq 0 e) λc=>u (ab M 1 c j) λc=>bc (λc e=>b c e) λb=>bd c V (u (aq 1 e) λc=>u (ab M 1 c j) λc=>u (bB M c) λc=>u (ar .eql c (J E 0)) λc=>b c j) (b (.bool M) j)) (b (.bool V) j)
open Go.aM.G in
def Fh:b2:=⟨2,19,(S (R<|b_ 4 0<|z)<|
 (S (S (R<|m 6 0<|bW 7 6<|b_ 8 0<|z)<|
 (.block 0 [] ([4,5]++g 8 11)
 (.loop [8] ([4,5]++g 9 10)
 (S (R<|b 9 .lss (t 8) (t 7)<|z)<|
 (S (.cond (t 9) [] []
 .skip
 (.exit 0))<|
 (S (.block 1 [] ([4,5]++g 10 8)
 (S (R<|m 10 8<|m 5 10<|z)<|
 (S (R<|m 11 1<|m 12 0<|m 13 5<|cz 14 2 12 13<|bR 15 2 14<|o 16 (.im (t 11) [(t 15)])<|z)<|
 (.cond (t 16) [] [4,17]
 (S (R<|m 17 5<|m 4 17<|z)<|
 .ret)
 .skip))))<|
 (R<|b 18 .add (t 8) (i 1)<|m 8 18<|z)))))))<|
 (S (R<|o 4 (.move (i (-1)))<|z)<|
 .ret))),[.tmp 4],[.aj]⟩
theorem acT:cc 160 Fh:=cf Tryz.func160 rfl
def Fi(b:aT)(c:Nat)(e g:U)(h:Z)(i:U)(j:bg):(bg)->bg:=λc k l=>u (ar .lss (aK k 0) i) λi=>aD (λ_ i=>aD (λ_ b=>u (ar .add (aK k 0) (J E 1)) λe=>c [e] (trim h [e] b)) λc=>u (bY 2 e (aK k 0)) λe=>u (ab V 2 e i) λe=>u (gz b g [e] i) λb=>aD (λ_ b=>c [] b) λc=>bb b.1 (aN [.aj] h b.2 [(aK k 0)]) (c [] b.2)) λb=>bb i (b [] l) (j [] l)
def QF(b:aT)(c:Nat)(e g:U)(h:Z):bl:=u (bB M e) λi=>aD (λ_ b=>aN [.aj] h b [(J E (-1))]) λj=>cv (Fi b c e g h i j) c [(J E 0)] h
open Go.aM.G in
def Fj:b2:=⟨2,26,(S (R<|cw 4<|z)<|
 (S (S (R<|m 6 0<|bW 7 6<|m 8 1<|bW 9 8<|b 10 .neq (t 7) (t 9)<|z)<|
 (.cond (t 10) [] [4]
 (S (R<|cw 4<|z)<|
 .ret)
 .skip))<|
 (S (S (R<|m 11 0<|bW 12 11<|b_ 13 0<|z)<|
 (.block 0 [] ([4,5]++g 13 13)
 (.loop [13] ([4,5]++g 14 12)
 (S (R<|b 14 .lss (t 13) (t 12)<|z)<|
 (S (.cond (t 14) [] []
 .skip
 (.exit 0))<|
 (S (.block 1 [] ([4,5]++g 15 10)
 (S (R<|m 15 13<|m 5 15<|z)<|
 (S (D<|m 16 0<|m 17 5<|cz 18 2 16 17<|bR 19 2 18<|m 20 1<|m 21 5<|cz 22 2 20 21<|bR 23 2 22<|o 24 (.od [.int,.int] V (t 19) (t 23))<|z)<|
 (.cond (t 24) [] [4]
 (S (R<|cw 4<|z)<|
 .ret)
 .skip))))<|
 (R<|b 25 .add (t 13) (i 1)<|m 13 25<|z)))))))<|
 (S (R<|gC 4<|z)<|
 .ret)))),[.tmp 4],[.aj]⟩
theorem acU:cc 161 Fj:=cf Tryz.func161 rfl
def Fk(b:aT)(c:Nat)(e g:U)(h i:Z)(j:U)(k:bg):(bg)->bg:=λb c l=>u (ar .lss (aK c 0) j) λj=>aD (λ_ j=>aD (λ_ e=>u (ar .add (aK c 0) (J E 1)) λc=>b [c] (trim i [c] e)) λb=>u (bY 2 e (aK c 0)) λe=>u (ab V 2 e j) λe=>u (bY 2 g (aK c 0)) λc=>u (ab V 2 c j) λc=>u (lT [.int,.int] V e c) λc=>aD (λ_ c=>b [] c) λb=>bb c (aN [.aj] h j [(.bool M)]) (b [] j)) λb=>bb j (b [] l) (k [] l)
def QG(b:aT)(c:Nat)(e g:U)(h:Z):bl:=u (bB M e) λi=>u (bB M g) λj=>u (ar .neq i j) λi=>aD (λ_ i=>u (bB M e) λj=>aD (λ_ b=>aN [.aj] h b [(.bool V)]) λk=>cv (Fk b c e g h i j k) c [(J E 0)] i) λb=>bb i (aN [.aj] h h [(.bool M)]) (b [] h)
open Go.aM.G in
def QH:b2:=⟨2,17,(S (R<|o 4 (.move (.const (.int .u32 0)))<|o 5 (.move (.const (.int .u32 0)))<|z)<|
 (S (R<|m 7 0<|o 8 (.conv .u64 (t 7))<|m 9 1<|o 10 (.conv .u64 (t 9))<|b 11 .mul (t 8) (t 10)<|m 6 11<|z)<|
 (S (R<|m 12 6<|b 13 .shr (t 12) (.const (.int .u64 32))<|o 14 (.conv .u32 (t 13))<|m 15 6<|o 16 (.conv .u32 (t 15))<|m 4 14<|m 5 16<|z)<|
 .ret))),[.tmp 4,.tmp 5],[.aj,.aj]⟩
theorem acV:cc 162 QH:=cf Tryz.func162 rfl
open Go.aM.G in
def Fl:b2:=⟨2,51,(S (R<|o 4 (.move (.const (.int .u64 0)))<|o 5 (.move (.const (.int .u64 0)))<|z)<|
 (S (R<|m 14 0<|b 15 .and (t 14) (.const (.int .u64 4294967295))<|m 6 15<|z)<|
 (S (R<|m 16 0<|b 17 .shr (t 16) (.const (.int .u64 32))<|m 7 17<|z)<|
 (S (R<|m 18 1<|b 19 .and (t 18) (.const (.int .u64 4294967295))<|m 8 19<|z)<|
 (S (R<|m 20 1<|b 21 .shr (t 20) (.const (.int .u64 32))<|m 9 21<|z)<|
 (S (R<|m 22 6<|m 23 8<|b 24 .mul (t 22) (t 23)<|m 10 24<|z)<|
 (S (R<|m 25 7<|m 26 8<|b 27 .mul (t 25) (t 26)<|m 28 10<|b 29 .shr (t 28) (.const (.int .u64 32))<|b 30 .add (t 27) (t 29)<|m 11 30<|z)<|
 (S (R<|m 31 11<|b 32 .and (t 31) (.const (.int .u64 4294967295))<|m 12 32<|z)<|
 (S (R<|m 33 11<|b 34 .shr (t 33) (.const (.int .u64 32))<|m 13 34<|z)<|
 (S (R<|m 35 12<|m 36 6<|m 37 9<|b 38 .mul (t 36) (t 37)<|b 39 .add (t 35) (t 38)<|m 12 39<|z)<|
 (S (R<|m 40 7<|m 41 9<|b 42 .mul (t 40) (t 41)<|m 43 13<|b 44 .add (t 42) (t 43)<|m 45 12<|b 46 .shr (t 45) (.const (.int .u64 32))<|b 47 .add (t 44) (t 46)<|m 4 47<|z)<|
 (S (R<|m 48 0<|m 49 1<|b 50 .mul (t 48) (t 49)<|m 5 50<|z)<|
 .ret)))))))))))),[.tmp 4,.tmp 5],[.aj,.aj]⟩
theorem acW:cc 163 Fl:=cf Tryz.func163 rfl
def QI(b:aT)(c:Nat)(e g:U)(h:Z):bl:=u (ar .and e (.int .u64 4294967295)) λb=>u (ar .shr e (.int .u64 32)) λc=>u (ar .and g (.int .u64 4294967295)) λi=>u (ar .shr g (.int .u64 32)) λj=>u (ar .mul b i) λk=>u (ar .mul c i) λi=>u (ar .shr k (.int .u64 32)) λk=>u (ar .add i k) λi=>u (ar .and i (.int .u64 4294967295)) λk=>u (ar .shr i (.int .u64 32)) λi=>u (ar .mul b j) λb=>u (ar .add k b) λb=>u (ar .mul c j) λc=>u (ar .add c i) λc=>u (ar .shr b (.int .u64 32)) λb=>u (ar .add c b) λb=>u (ar .mul e g) λc=>aN [.aj,.aj] h h [b,c]
open Go.aM.G in
def Fm:b2:=⟨3,56,(S (R<|dr 3 27 0<|dr 4 39 1<|b_ 6 0<|z)<|
 (S (S (R<|m 9 2<|b 10 .neq (t 9) (i 0)<|m 11 10<|q 16 11 V (g 12 4) (f 12 0 4<|l 13 12<|m 14 2<|b 15 .neq (t 13) (t 14)<|z) (t 15)<|
 m 17 16<|q 23 17 M (g 18 5) (bR 18 2 4<|f 19 2 3<|l 20 19<|eF 21 173 18 20<|dE 22 21<|z) (t 22)<|
 z)<|
 (.cond (t 23) [] [6]
 (S (R<|b_ 6 1<|z)<|
 .ret)
 .skip))<|
 (S (S (R<|b_ 7 0<|z)<|
 (.block 0 [] ([6,7]++g 24 16)
 (.loop [7] ([6]++g 24 16)
 (S (S (R<|m 24 7<|f 25 1 4<|l 26 25<|bW 27 26<|b 28 .lss (t 24) (t 27)<|z)<|
 (.cond (t 28) [] []
 .skip
 (.exit 0)))<|
 (S (.block 1 [] ([6]++g 31 9)
 (S (D<|f 31 1 3<|l 32 31<|f 33 1 4<|l 34 33<|m 35 7<|cz 36 6 34 35<|bR 37 6 36<|eF 38 174 32 37<|dE 39 38<|z)<|
 (.cond (t 39) [] [6]
 (S (R<|b_ 6 1<|z)<|
 .ret)
 .skip)))<|
 (R<|m 29 7<|b 30 .add (t 29) (i 1)<|m 7 30<|z))))))<|
 (S (S (R<|b_ 8 0<|z)<|
 (.block 2 [] ([6,8]++g 40 16)
 (.loop [8] ([6]++g 40 16)
 (S (S (R<|m 40 8<|f 41 1 4<|l 42 41<|bW 43 42<|b 44 .lss (t 40) (t 43)<|z)<|
 (.cond (t 44) [] []
 .skip
 (.exit 2)))<|
 (S (.block 3 [] ([6]++g 47 9)
 (S (D<|f 47 1 4<|l 48 47<|m 49 8<|cz 50 6 48 49<|f 51 1 50<|l 52 51<|bR 53 13 3<|O 54 (.call 112 [(t 53)])<|b 55 .gtr (t 52) (t 54)<|z)<|
 (.cond (t 55) [] [6]
 (S (R<|b_ 6 10<|z)<|
 .ret)
 .skip)))<|
 (R<|m 45 8<|b 46 .add (t 45) (i 1)<|m 8 46<|z))))))<|
 (S (R<|b_ 6 0<|z)<|
 .ret))))),[.tmp 6],[.aj]⟩
theorem acX:cc 164 Fm:=cf Tryz.func164 rfl
def Fo(b:aT)(c:Nat)(e:Z)(g h:U)(i:Z)(j:bg):(bg)->bg:=λc k l=>u (aq 1 h) λm=>u (ab M 1 m l) λm=>u (bB M m) λm=>u (ar .lss (aK k 0) m) λm=>aD (λ_ j=>aD (λ_ b=>u (ar .add (aK k 0) (J E 1)) λe=>c [e] (trim i [e] b)) λc=>u (aq 1 h) λh=>u (ab M 1 h j) λh=>u (bY 6 h (aK k 0)) λh=>u (aq 1 h) λh=>u (ab M 1 h j) λh=>u (ab V 13 g j) λg=>u (b 112 [g] (lock j)) λb=>d' j b.2 λg=>u (ar .gtr h b.1) λb=>aD (λ_ b=>c [] b) λc=>bb b (aN [.aj] e g [(J E 10)]) (c [] g)) λb=>bb m (b [] l) (j [] l)
def Fp(b:aT)(c:Nat)(e:Z)(g h:U)(i:Z)(j:bg):(bg)->bg:=λc k l=>u (aq 1 h) λm=>u (ab M 1 m l) λm=>u (bB M m) λm=>u (ar .lss (aK k 0) m) λm=>aD (λ_ j=>aD (λ_ b=>u (ar .add (aK k 0) (J E 1)) λe=>c [e] (trim i [e] b)) λc=>u (aq 1 g) λg=>u (ab M 1 g j) λg=>u (aq 1 h) λh=>u (ab M 1 h j) λh=>u (bY 6 h (aK k 0)) λh=>u (ab V 6 h j) λh=>u (b 174 [g,h] j) λb=>u (dq .not b.1) λg=>aD (λ_ b=>c [] b) λc=>bb g (aN [.aj] e b.2 [(J E 1)]) (c [] b.2)) λb=>bb m (b [] l) (j [] l)
def QJ(b:aT)(c:Nat)(e g h:U)(i:Z):bl:=bK (.ptr i.length 0) (i++[.box (cn e) 27 .rw]) λe j=>bK (.ptr j.length 0) (j++[.box (cn g) 39 .rw]) λg j=>u (ar .neq h (J E 0)) λk=>bc (λh j=>bc (λh j=>aD (λ_ h=>aD (λ_ h=>aD (λ_ b=>aN [.aj] i b [(J E 0)]) λj=>cv (Fo b c i e g h j) c [(J E 0)] h) λj=>cv (Fp b c i e g h j) c [(J E 0)] h) λb=>bb h (aN [.aj] i j [(J E 1)]) (b [] j)) λc=>bd h M (u (ab V 2 g j) λg=>u (aq 2 e) λe=>u (ab M 1 e j) λe=>u (b 173 [g,e] j) λb=>u (dq .not b.1) λe=>c e b.2) (c (.bool V) j)) λb=>bd k V (u (aq 0 g) λc=>u (ab M 1 c j) λc=>u (ar .neq c h) λc=>b c j) (b (.bool M) j)
open Go.aM.G in
def Fq:b2:=⟨1,98,(S (R<|dr 1 43 0<|cw 2<|z)<|
 (S (R<|f 5 1 1<|l 6 5<|bW 7 6<|m 3 7<|z)<|
 (S (S (R<|f 8 0 1<|l 9 8<|dK 10 137 9<|dE 11 10<|m 12 11<|q 21 12 M (g 13 4++[20,17,18,19]) (f 13 2 1<|l 14 13<|b 15 .neq (t 14) (i 8)<|m 16 15<|q 20 16 V [17,18,19] (f 17 2 1<|l 18 17<|b 19 .neq (t 18) (i 16)<|z) (t 19)<|
 z) (t 20)<|
 m 22 21<|q 25 22 M [23,24] (m 23 3<|b 24 .gtr (t 23) (i 4096)<|z) (t 24)<|
 m 26 25<|q 30 26 M [27,28,29] (f 27 3 1<|l 28 27<|b 29 .lss (t 28) (i 1)<|z) (t 29)<|
 m 31 30<|q 35 31 M [32,33,34] (f 32 3 1<|l 33 32<|b 34 .gtr (t 33) (i 65535)<|z) (t 34)<|
 m 36 35<|q 40 36 M [37,38,39] (f 37 4 1<|l 38 37<|b 39 .lss (t 38) (i 0)<|z) (t 39)<|
 m 41 40<|q 45 41 M [42,43,44] (f 42 4 1<|l 43 42<|b 44 .gtr (t 43) (i 64)<|z) (t 44)<|
 m 46 45<|q 50 46 M [47,48,49] (f 47 5 1<|l 48 47<|b 49 .lss (t 48) (i (-1))<|z) (t 49)<|
 m 51 50<|q 55 51 M [52,53,54] (f 52 5 1<|l 53 52<|b 54 .gtr (t 53) (i 256)<|z) (t 54)<|
 m 56 55<|q 60 56 M [57,58,59] (f 57 6 1<|l 58 57<|b 59 .lss (t 58) (i (-64))<|z) (t 59)<|
 m 61 60<|q 65 61 M [62,63,64] (f 62 6 1<|l 63 62<|b 64 .gtr (t 63) (i 63)<|z) (t 64)<|
 z)<|
 (.cond (t 65) [] [2]
 (S (R<|cw 2<|z)<|
 .ret)
 .skip))<|
 (S (S (R<|b_ 4 0<|z)<|
 (.block 0 [] ([2,4]++g 66 14)
 (.loop [4] ([2]++g 66 14)
 (S (S (R<|m 66 4<|m 67 3<|b 68 .lss (t 66) (t 67)<|z)<|
 (.cond (t 68) [] []
 .skip
 (.exit 0)))<|
 (S (.block 1 [] ([2]++g 71 9)
 (S (D<|f 71 1 1<|l 72 71<|m 73 4<|cz 74 1 72 73<|l 75 74<|f 76 2 1<|l 77 76<|eF 78 175 75 77<|dE 79 78<|z)<|
 (.cond (t 79) [] [2]
 (S (R<|cw 2<|z)<|
 .ret)
 .skip)))<|
 (R<|m 69 4<|b 70 .add (t 69) (i 1)<|m 4 70<|z))))))<|
 (S (R<|f 80 7 1<|l 81 80<|f 82 8 1<|l 83 82<|f 84 9 1<|l 85 84<|m 86 3<|o 87 (.call 176 [(t 81),(t 83),(t 85),(t 86)])<|m 88 87<|q 97 88 V (g 89 8) (f 89 10 1<|l 90 89<|f 91 11 1<|l 92 91<|f 93 12 1<|l 94 93<|m 95 3<|o 96 (.call 176 [(t 90),(t 92),(t 94),(t 95)])<|z) (t 96)<|
 m 2 97<|z)<|
 .ret))))),[.tmp 2],[.aj]⟩
theorem acY:cc 165 Fq:=cf Tryz.func165 rfl
def Fs(b:aT)(c:Nat)(e:Z)(g h:U)(i:Z)(j:bg):(bg)->bg:=λc k l=>u (ar .lss (aK k 0) h) λh=>aD (λ_ h=>aD (λ_ b=>u (ar .add (aK k 0) (J E 1)) λe=>c [e] (trim i [e] b)) λc=>u (aq 1 g) λi=>u (ab M 1 i h) λi=>u (bY 1 i (aK k 0)) λi=>u (ab M 1 i h) λi=>u (aq 2 g) λg=>u (ab M 1 g h) λg=>u (b 175 [i,g] h) λb=>u (dq .not b.1) λg=>aD (λ_ b=>c [] b) λc=>bb g (aN [.aj] e b.2 [(.bool M)]) (c [] b.2)) λb=>bb h (b [] l) (j [] l)
def QK(b:aT)(c:Nat)(e:U)(g:Z):bl:=bK (.ptr g.length 0) (g++[.box (cn e) 43 .rw]) λe h=>u (aq 1 e) λi=>u (ab M 1 i h) λi=>u (bB M i) λi=>u (aq 0 e) λj=>u (ab M 1 j h) λj=>u (b 137 [j] h) λh=>u (dq .not h.1) λj=>bc (λh j=>bc (λh j=>bc (λh j=>bc (λh j=>bc (λh j=>bc (λh j=>bc (λh j=>bc (λh j=>bc (λh j=>bc (λh j=>aD (λ_ h=>aD (λ_ c=>u (aq 7 e) λh=>u (ab M 1 h c) λh=>u (aq 8 e) λj=>u (ab M 1 j c) λj=>u (aq 9 e) λk=>u (ab M 1 k c) λk=>u (b 176 [h,j,k,i] c) λc=>bc (λb c=>aN [.aj] g c [b]) λg=>bd c.1 V (u (aq 10 e) λh=>u (ab M 1 h c.2) λh=>u (aq 11 e) λj=>u (ab M 1 j c.2) λj=>u (aq 12 e) λe=>u (ab M 1 e c.2) λe=>u (b 176 [h,j,e,i] c.2) λb=>g b.1 b.2) (g (.bool M) c.2)) λj=>cv (Fs b c g e i h j) c [(J E 0)] h) λb=>bb h (aN [.aj] g j [(.bool M)]) (b [] j)) λb=>bd h M (u (aq 6 e) λc=>u (ab M 1 c j) λc=>u (ar .gtr c (J E 63)) λc=>b c j) (b (.bool V) j)) λb=>bd h M (u (aq 6 e) λc=>u (ab M 1 c j) λc=>u (ar .lss c (J E (-64))) λc=>b c j) (b (.bool V) j)) λb=>bd h M (u (aq 5 e) λc=>u (ab M 1 c j) λc=>u (ar .gtr c (J E 256)) λc=>b c j) (b (.bool V) j)) λb=>bd h M (u (aq 5 e) λc=>u (ab M 1 c j) λc=>u (ar .lss c (J E (-1))) λc=>b c j) (b (.bool V) j)) λb=>bd h M (u (aq 4 e) λc=>u (ab M 1 c j) λc=>u (ar .gtr c (J E 64)) λc=>b c j) (b (.bool V) j)) λb=>bd h M (u (aq 4 e) λc=>u (ab M 1 c j) λc=>u (ar .lss c (J E 0)) λc=>b c j) (b (.bool V) j)) λb=>bd h M (u (aq 3 e) λc=>u (ab M 1 c j) λc=>u (ar .gtr c (J E 65535)) λc=>b c j) (b (.bool V) j)) λb=>bd h M (u (aq 3 e) λc=>u (ab M 1 c j) λc=>u (ar .lss c (J E 1)) λc=>b c j) (b (.bool V) j)) λb=>bd h M (u (ar .gtr i (J E 4096)) λc=>b c j) (b (.bool V) j)) λb=>bd j M (u (aq 2 e) λc=>u (ab M 1 c h.2) λc=>u (ar .neq c (J E 8)) λc=>bc (λc e=>b c e) λb=>bd c V (u (aq 2 e) λc=>u (ab M 1 c h.2) λc=>u (ar .neq c (J E 16)) λc=>b c h.2) (b (.bool M) h.2)) (b (.bool V) h.2)
open Go.aM.G in
def Ft:b2:=⟨2,26,(S (R<|dr 2 27 0<|dr 3 57 1<|b_ 4 0<|z)<|
 (S (S (R<|bR 6 33 3<|dK 7 110 6<|dE 8 7<|z)<|
 (.cond (t 8) [] [4]
 (S (R<|b_ 4 1<|z)<|
 .ret)
 .skip))<|
 (S (S (R<|b_ 5 0<|z)<|
 (.block 0 [] ([4,5]++g 9 17)
 (.loop [5] ([4]++g 9 17)
 (S (S (R<|m 9 5<|f 10 1 3<|l 11 10<|bW 12 11<|b 13 .lss (t 9) (t 12)<|z)<|
 (.cond (t 13) [] []
 .skip
 (.exit 0)))<|
 (S (.block 1 [] ([4]++g 16 10)
 (S (D<|f 16 1 3<|l 17 16<|m 18 5<|cz 19 2 17 18<|f 20 1 19<|l 21 20<|f 22 11 2<|l 23 22<|bW 24 23<|b 25 .gtr (t 21) (t 24)<|z)<|
 (.cond (t 25) [] [4]
 (S (R<|b_ 4 10<|z)<|
 .ret)
 .skip)))<|
 (R<|m 14 5<|b 15 .add (t 14) (i 1)<|m 5 15<|z))))))<|
 (S (R<|b_ 4 0<|z)<|
 .ret)))),[.tmp 4],[.aj]⟩
theorem acZ:cc 166 Ft:=cf Tryz.func166 rfl
def Fu(b:aT)(c:Nat)(e:Z)(g h:U)(i:Z)(j:bg):(bg)->bg:=λb c k=>u (aq 1 h) λl=>u (ab M 1 l k) λl=>u (bB M l) λl=>u (ar .lss (aK c 0) l) λl=>aD (λ_ j=>aD (λ_ e=>u (ar .add (aK c 0) (J E 1)) λc=>b [c] (trim i [c] e)) λb=>u (aq 1 h) λh=>u (ab M 1 h j) λh=>u (bY 2 h (aK c 0)) λc=>u (aq 1 c) λc=>u (ab M 1 c j) λc=>u (aq 11 g) λg=>u (ab M 1 g j) λg=>u (bB M g) λg=>u (ar .gtr c g) λc=>aD (λ_ c=>b [] c) λb=>bb c (aN [.aj] e j [(J E 10)]) (b [] j)) λb=>bb l (b [] k) (j [] k)
def QL(b:aT)(c:Nat)(e g:U)(h:Z):bl:=bK (.ptr h.length 0) (h++[.box (cn e) 27 .rw]) λe i=>bK (.ptr i.length 0) (i++[.box (cn g) 57 .rw]) λg i=>u (ab V 33 g i) λj=>u (b 110 [j] i) λi=>u (dq .not i.1) λj=>aD (λ_ i=>aD (λ_ b=>aN [.aj] h b [(J E 0)]) λj=>cv (Fu b c h e g i j) c [(J E 0)] i) λb=>bb j (aN [.aj] h i.2 [(J E 1)]) (b [] i.2)
open Go.aM.G in
def Fv:b2:=⟨4,29,(S (R<|cw 8<|z)<|
 (S (S (R<|m 9 0<|dE 10 9<|z)<|
 (.cond (t 10) [] ([8]++g 11 6)
 (S (R<|m 11 1<|b 12 .eql (t 11) (i 0)<|m 13 12<|q 16 13 V [14,15] (m 14 2<|b 15 .eql (t 14) (i 0)<|z) (t 15)<|
 m 8 16<|z)<|
 .ret)
 .skip))<|
 (S (R<|m 17 1<|b 18 .leq (i 0) (t 17)<|m 19 18<|q 23 19 V [20,21,22] (m 20 1<|m 21 2<|b 22 .leq (t 20) (t 21)<|z) (t 22)<|
 m 24 23<|q 28 24 V [25,26,27] (m 25 2<|m 26 3<|b 27 .lss (t 25) (t 26)<|z) (t 27)<|
 m 8 28<|z)<|
 .ret))),[.tmp 8],[.aj]⟩
theorem ac0:cc 170 Fv:=cf Tryz.func170 rfl
def QM(b:aT)(c:Nat)(e g h i:U)(j:Z):bl:=u (dq .not e) λb=>aD (λ_ b=>u (ar .leq (J E 0) g) λc=>bc (λb c=>bc (λb c=>aN [.aj] j c [b]) λe=>bd b V (u (ar .lss h i) λb=>e b c) (e (.bool M) c)) λe=>bd c V (u (ar .leq g h) λc=>e c b) (e (.bool M) b)) λc=>bb b (u (ar .eql g (J E 0)) λb=>bc (λb c=>aN [.aj] j c [b]) λc=>bd b V (u (ar .eql h (J E 0)) λb=>c b j) (c (.bool M) j)) (c [] j)
open Go.aM.G in
def Fw:b2:=⟨4,30,(S (R<|cw 7<|z)<|
 (S (S (R<|m 8 0<|dE 9 8<|z)<|
 (.cond (t 9) [] ([7]++g 10 6)
 (S (R<|m 10 1<|b 11 .eql (t 10) (i 0)<|m 12 11<|q 15 12 V [13,14] (m 13 2<|b 14 .eql (t 13) (i 0)<|z) (t 14)<|
 m 7 15<|z)<|
 .ret)
 .skip))<|
 (S (R<|m 16 1<|b 17 .geq (t 16) (i 0)<|m 18 17<|q 22 18 V [19,20,21] (m 19 1<|m 20 2<|b 21 .leq (t 19) (t 20)<|z) (t 21)<|
 m 23 22<|q 29 23 V (g 24 5) (m 24 2<|f 25 1 3<|l 26 25<|bW 27 26<|b 28 .lss (t 24) (t 27)<|z) (t 28)<|
 m 7 29<|z)<|
 .ret))),[.tmp 7],[.aj]⟩
theorem ac1:cc 172 Fw:=cf Tryz.func172 rfl
def QN(b:aT)(c:Nat)(e g h i:U)(j:Z):bl:=u (dq .not e) λb=>aD (λ_ b=>u (ar .geq g (J E 0)) λc=>bc (λb c=>bc (λb c=>aN [.aj] j c [b]) λe=>bd b V (u (aq 1 i) λb=>u (ab M 1 b c) λb=>u (bB M b) λb=>u (ar .lss h b) λb=>e b c) (e (.bool M) c)) λe=>bd c V (u (ar .leq g h) λc=>e c b) (e (.bool M) b)) λc=>bb b (u (ar .eql g (J E 0)) λb=>bc (λb c=>aN [.aj] j c [b]) λc=>bd b V (u (ar .eql h (J E 0)) λb=>c b j) (c (.bool M) j)) (c [] j)
open Go.aM.G in
def Fx:b2:=⟨2,43,(S (R<|dr 2 39 0<|cw 4<|z)<|
 (S (S (R<|m 6 1<|dK 7 189 6<|dE 8 7<|m 9 8<|q 13 9 M [10,11,12] (f 10 0 2<|l 11 10<|b 12 .lss (t 11) (i 1)<|z) (t 12)<|
 m 14 13<|q 18 14 M [15,16,17] (f 15 0 2<|l 16 15<|b 17 .gtr (t 16) (i 64)<|z) (t 17)<|
 m 19 18<|q 28 19 M (g 20 8) (f 20 1 2<|l 21 20<|bW 22 21<|f 23 0 2<|l 24 23<|m 25 1<|b 26 .mul (t 24) (t 25)<|b 27 .neq (t 22) (t 26)<|z) (t 27)<|
 z)<|
 (.cond (t 28) [] [4]
 (S (R<|cw 4<|z)<|
 .ret)
 .skip))<|
 (S (S (R<|b_ 5 0<|z)<|
 (.block 0 [] ([4,5]++g 29 14)
 (.loop [5] ([4]++g 29 14)
 (S (S (R<|m 29 5<|f 30 1 2<|l 31 30<|bW 32 31<|b 33 .lss (t 29) (t 32)<|z)<|
 (.cond (t 33) [] []
 .skip
 (.exit 0)))<|
 (S (.block 1 [] ([4]++g 36 7)
 (S (R<|f 36 1 2<|l 37 36<|m 38 5<|cz 39 6 37 38<|bR 40 6 39<|dK 41 190 40<|dE 42 41<|z)<|
 (.cond (t 42) [] [4]
 (S (R<|cw 4<|z)<|
 .ret)
 .skip)))<|
 (R<|m 34 5<|b 35 .add (t 34) (i 1)<|m 5 35<|z))))))<|
 (S (R<|gC 4<|z)<|
 .ret)))),[.tmp 4],[.aj]⟩
theorem ac2:cc 173 Fx:=cf Tryz.func173 rfl
def Fy(b:aT)(c:Nat)(e:Z)(g:U)(h:Z)(i:bg):(bg)->bg:=λc j k=>u (aq 1 g) λl=>u (ab M 1 l k) λl=>u (bB M l) λl=>u (ar .lss (aK j 0) l) λl=>aD (λ_ i=>aD (λ_ b=>u (ar .add (aK j 0) (J E 1)) λe=>c [e] (trim h [e] b)) λc=>u (aq 1 g) λg=>u (ab M 1 g i) λg=>u (bY 6 g (aK j 0)) λg=>u (ab V 6 g i) λg=>u (b 190 [g] i) λb=>u (dq .not b.1) λg=>aD (λ_ b=>c [] b) λc=>bb g (aN [.aj] e b.2 [(.bool M)]) (c [] b.2)) λb=>bb l (b [] k) (i [] k)
def QO(b:aT)(c:Nat)(e g:U)(h:Z):bl:=bK (.ptr h.length 0) (h++[.box (cn e) 39 .rw]) λe i=>u (b 189 [g] i) λi=>u (dq .not i.1) λj=>bc (λi j=>bc (λi j=>bc (λg i=>aD (λ_ g=>aD (λ_ b=>aN [.aj] h b [(.bool V)]) λi=>cv (Fy b c h e g i) c [(J E 0)] g) λb=>bb g (aN [.aj] h i [(.bool M)]) (b [] i)) λb=>bd i M (u (aq 1 e) λc=>u (ab M 1 c j) λc=>u (bB M c) λc=>u (aq 0 e) λe=>u (ab M 1 e j) λe=>u (ar .mul e g) λe=>u (ar .neq c e) λc=>b c j) (b (.bool V) j)) λb=>bd i M (u (aq 0 e) λc=>u (ab M 1 c j) λc=>u (ar .gtr c (J E 64)) λc=>b c j) (b (.bool V) j)) λb=>bd j M (u (aq 0 e) λc=>u (ab M 1 c i.2) λc=>u (ar .lss c (J E 1)) λc=>b c i.2) (b (.bool V) i.2)
open Go.aM.G in
def Fz:b2:=⟨2,43,(S (R<|dr 3 41 1<|cw 4<|z)<|
 (S (S (R<|m 8 0<|dK 9 56 8<|m 7 9<|eV 10 7 0<|eV 11 7 1<|o 5 (.new 83 ji)<|bS 29 5 10<|m 6 11<|z)<|
 (S (R<|m 12 6<|b 13 .neq (t 12) (i 0)<|m 14 13<|q 18 14 M [15,16,17] (bR 15 6 3<|dK 16 190 15<|dE 17 16<|z) (t 17)<|
 z)<|
 (.cond (t 18) [] [4]
 (S (R<|cw 4<|z)<|
 .ret)
 .skip)))<|
 (S (D<|m 19 0<|f 20 0 3<|l 21 20<|eF 22 191 19 21<|m 23 22<|q 29 23 V (g 24 5) (f 24 2 3<|l 25 24<|m 26 0<|O 27 (.call 192 [(t 26)])<|b 28 .leq (t 25) (t 27)<|z) (t 28)<|
 m 30 29<|q 42 30 V (g 31 4++[41]++g 35 6) (f 31 4 3<|l 32 31<|b 33 .eql (t 32) (i 0)<|m 34 33<|q 41 34 M (g 35 6) (m 35 0<|O 36 (.call 194 [(t 35)])<|f 37 4 3<|l 38 37<|dK 39 195 38<|eF 40 193 36 39<|z) (t 40)<|
 z) (t 41)<|
 m 4 42<|z)<|
 .ret))),[.tmp 4],[.aj]⟩
theorem ac3:cc 174 Fz:=cf Tryz.func174 rfl
def QP(b:aT)(c:Nat)(e g:U)(h:Z):bl:=bK (.ptr h.length 0) (h++[.box (cn g) 41 .rw]) λc g=>u (b 56 [e] g) λg=>u (ek g.1 0) λi=>u (ek g.1 1) λj=>bK (.ptr g.2.length 0) (g.2++[.box e8 83 .rw]) λg k=>u (bf 29 g i k) λg=>u (ar .neq j (J E 0)) λi=>bc (λg i=>aD (λ_ g=>u (aq 0 c) λi=>u (ab M 1 i g) λi=>u (b 191 [e,i] g) λg=>bc (λg i=>bc (λb c=>aN [.aj] h c [b]) λh=>bd g V (u (aq 4 c) λg=>u (ab M 1 g i) λg=>u (ar .eql g (J E 0)) λg=>bc (λb c=>h b c) λh=>bd g M (u (b 194 [e] (lock i)) λe=>d' i e.2 λg=>u (aq 4 c) λc=>u (ab M 1 c g) λc=>u (b 195 [c] g) λc=>u (b 193 [e.1,c.1] c.2) λb=>h b.1 b.2) (h (.bool V) i)) (h (.bool M) i)) λh=>bd g.1 V (u (aq 2 c) λc=>u (ab M 1 c g.2) λc=>u (b 192 [e] (lock g.2)) λb=>d' g.2 b.2 λe=>u (ar .leq c b.1) λb=>h b e) (h (.bool M) g.2)) λb=>bb g (aN [.aj] h i [(.bool M)]) (b [] i)) λe=>bd i M (u (ab V 6 c g) λc=>u (b 190 [c] g) λb=>u (dq .not b.1) λc=>e c b.2) (e (.bool V) g)
open Go.aM.G in
def FA:b2:=⟨2,18,(S (R<|cw 4<|z)<|
 (S (R<|m 6 1<|b 7 .sub (t 6) (i 1)<|b 8 .shl (i 1) (t 7)<|m 5 8<|z)<|
 (S (R<|m 9 5<|o 10 (.un .neg (t 9))<|m 11 0<|b 12 .leq (t 10) (t 11)<|m 13 12<|q 17 13 V [14,15,16] (m 14 0<|m 15 5<|b 16 .lss (t 14) (t 15)<|z) (t 16)<|
 m 4 17<|z)<|
 .ret))),[.tmp 4],[.aj]⟩
theorem ac4:cc 175 FA:=cf Tryz.func175 rfl
def QQ(b:aT)(c:Nat)(e g:U)(h:Z):bl:=u (ar .sub g (J E 1)) λb=>u (ar .shl (J E 1) b) λb=>u (dq .neg b) λc=>u (ar .leq c e) λc=>bc (λb c=>aN [.aj] h c [b]) λg=>bd c V (u (ar .lss e b) λb=>g b h) (g (.bool M) h)
open Go.aM.G in
def FB:b2:=⟨4,33,(S (R<|cw 8<|z)<|
 (S (S (R<|m 9 0<|z)<|
 (.block 0 [] ([8]++g 10 23)
 (S (R<|b 11 .eql (t 9) (i 0)<|m 10 11<|z)<|
 (.cond (t 10) [] ([8]++g 12 21)
 (S (R<|m 12 1<|b 13 .eql (t 12) (i 0)<|m 14 13<|q 17 14 V [15,16] (m 15 2<|b 16 .eql (t 15) (i 0)<|z) (t 16)<|
 m 8 17<|z)<|
 .ret)
 (S (S (R<|b 19 .eql (t 9) (i 1)<|m 18 19<|z)<|
 (.cond (t 18) [18] [20]
 .skip
 (R<|b 20 .eql (t 9) (i 2)<|m 18 20<|z)))<|
 (.cond (t 18) [] ([8]++g 21 12)
 (S (R<|m 21 1<|b 22 .leq (i 0) (t 21)<|m 23 22<|q 27 23 V [24,25,26] (m 24 1<|m 25 2<|b 26 .lss (t 24) (t 25)<|z) (t 26)<|
 m 28 27<|q 32 28 V [29,30,31] (m 29 2<|m 30 3<|b 31 .leq (t 29) (t 30)<|z) (t 31)<|
 m 8 32<|z)<|
 .ret)
 .skip))))))<|
 (S (R<|cw 8<|z)<|
 .ret))),[.tmp 8],[.aj]⟩
theorem ac5:cc 176 FB:=cf Tryz.func176 rfl
def QR(b:aT)(c:Nat)(e g h i:U)(j:Z):bl:=aD (λ_ b=>aN [.aj] j b [(.bool M)]) λb=>u (ar .eql e (J E 0)) λc=>aD (λ_ c=>b [] c) λb=>bb c (u (ar .eql g (J E 0)) λb=>bc (λb c=>aN [.aj] j c [b]) λc=>bd b V (u (ar .eql h (J E 0)) λb=>c b j) (c (.bool M) j)) (u (ar .eql e (J E 1)) λc=>aD (λc e=>aD (λ_ c=>b [] c) λb=>bb (aK c 0) (u (ar .leq (J E 0) g) λb=>bc (λb c=>bc (λb c=>aN [.aj] j c [b]) λe=>bd b V (u (ar .leq h i) λb=>e b c) (e (.bool M) c)) λc=>bd b V (u (ar .lss g h) λb=>c b e) (c (.bool M) e)) (b [] e)) λb=>bb c (b [c] j) (u (ar .eql e (J E 2)) λc=>b [c] j))
open Go.aM.G in
def FC:b2:=⟨1,9,(S (R<|cw 2<|z)<|
 (S (R<|m 3 0<|b 4 .leq (i 1) (t 3)<|m 5 4<|q 8 5 V [6,7] (m 6 0<|b 7 .leq (t 6) (i 16)<|z) (t 7)<|
 m 2 8<|z)<|
 .ret)),[.tmp 2],[.aj]⟩
theorem ac6:cc 189 FC:=cf Tryz.func189 rfl
def QS(b:aT)(c:Nat)(e:U)(g:Z):bl:=u (ar .leq (J E 1) e) λb=>bc (λb c=>aN [.aj] g c [b]) λc=>bd b V (u (ar .leq e (J E 16)) λb=>c b g) (c (.bool M) g)
open Go.aM.G in
def FD:b2:=⟨1,102,(S (R<|dr 1 41 0<|cw 2<|z)<|
 (S (R<|f 6 0 1<|l 7 6<|b 8 .leq (i 0) (t 7)<|m 9 8<|q 13 9 V [10,11,12] (f 10 0 1<|l 11 10<|b 12 .leq (t 11) (i 120)<|z) (t 12)<|
 m 14 13<|q 18 14 M [15,16,17] (f 15 0 1<|l 16 15<|b 17 .eql (t 16) (i 253)<|z) (t 17)<|
 m 19 18<|q 23 19 M [20,21,22] (f 20 0 1<|l 21 20<|b 22 .eql (t 21) (i 254)<|z) (t 22)<|
 m 24 23<|q 28 24 M [25,26,27] (f 25 0 1<|l 26 25<|b 27 .eql (t 26) (i 255)<|z) (t 27)<|
 m 3 28<|z)<|
 (S (R<|f 29 2 1<|l 30 29<|b 31 .eql (t 30) (i 0)<|m 32 31<|q 36 32 V [33,34,35] (f 33 3 1<|l 34 33<|b 35 .eql (t 34) (i 0)<|z) (t 35)<|
 m 37 36<|q 56 37 M (g 38 4++[45,42,43,44,46,50,47,48,49,51,55,52,53,54]) (f 38 2 1<|l 39 38<|b 40 .leq (i 1) (t 39)<|m 41 40<|q 45 41 V [42,43,44] (f 42 2 1<|l 43 42<|b 44 .leq (t 43) (i 12)<|z) (t 44)<|
 m 46 45<|q 50 46 V [47,48,49] (f 47 3 1<|l 48 47<|b 49 .leq (i 0) (t 48)<|z) (t 49)<|
 m 51 50<|q 55 51 V [52,53,54] (f 52 3 1<|l 53 52<|b 54 .leq (t 53) (i 99)<|z) (t 54)<|
 z) (t 55)<|
 m 4 56<|z)<|
 (S (R<|f 57 4 1<|l 58 57<|b 59 .eql (t 58) (i 0)<|m 60 59<|q 64 60 V [61,62,63] (f 61 5 1<|l 62 61<|b 63 .eql (t 62) (i 0)<|z) (t 63)<|
 m 65 64<|q 84 65 M (g 66 4++[73,70,71,72,74,78,75,76,77,79,83,80,81,82]) (f 66 4 1<|l 67 66<|b 68 .leq (i 1) (t 67)<|m 69 68<|q 73 69 V [70,71,72] (f 70 4 1<|l 71 70<|b 72 .leq (t 71) (i 36)<|z) (t 72)<|
 m 74 73<|q 78 74 V [75,76,77] (f 75 5 1<|l 76 75<|b 77 .leq (i 0) (t 76)<|z) (t 77)<|
 m 79 78<|q 83 79 V [80,81,82] (f 80 5 1<|l 81 80<|b 82 .leq (t 81) (i 255)<|z) (t 82)<|
 z) (t 83)<|
 m 5 84<|z)<|
 (S (R<|m 85 3<|m 86 85<|q 88 86 V [87] (m 87 4<|z) (t 87)<|
 m 89 88<|q 91 89 V [90] (m 90 5<|z) (t 90)<|
 m 92 91<|q 96 92 V [93,94,95] (f 93 1 1<|l 94 93<|b 95 .leq (i 0) (t 94)<|z) (t 95)<|
 m 97 96<|q 101 97 V [98,99,100] (f 98 1 1<|l 99 98<|b 100 .leq (t 99) (i 31)<|z) (t 100)<|
 m 2 101<|z)<|
 .ret))))),[.tmp 2],[.aj]⟩
theorem ac7:cc 190 FD:=cf Tryz.func190 rfl
def QT(b:aT)(c:Nat)(e:U)(g:Z):bl:=bK (.ptr g.length 0) (g++[.box (cn e) 41 .rw]) λb c=>u (aq 0 b) λe=>u (ab M 1 e c) λe=>u (ar .leq (J E 0) e) λe=>bc (λc e=>bc (λc e=>bc (λc e=>bc (λc e=>u (aq 2 b) λh=>u (ab M 1 h e) λh=>u (ar .eql h (J E 0)) λh=>bc (λe h=>bc (λe h=>u (aq 4 b) λi=>u (ab M 1 i h) λi=>u (ar .eql i (J E 0)) λi=>bc (λh i=>bc (λh i=>bc (λc e=>bc (λc e=>bc (λc e=>bc (λb c=>aN [.aj] g c [b]) λg=>bd c V (u (aq 1 b) λb=>u (ab M 1 b e) λb=>u (ar .leq b (J E 31)) λb=>g b e) (g (.bool M) e)) λg=>bd c V (u (aq 1 b) λb=>u (ab M 1 b e) λb=>u (ar .leq (J E 0) b) λb=>g b e) (g (.bool M) e)) λb=>bd c V (b h e) (b (.bool M) e)) λb=>bd c V (b e i) (b (.bool M) i)) λc=>bd h M (u (aq 4 b) λe=>u (ab M 1 e i) λe=>u (ar .leq (J E 1) e) λe=>bc (λe g=>bc (λe g=>bc (λb e=>c b e) λc=>bd e V (u (aq 5 b) λb=>u (ab M 1 b g) λb=>u (ar .leq b (J E 255)) λb=>c b g) (c (.bool M) g)) λc=>bd e V (u (aq 5 b) λb=>u (ab M 1 b g) λb=>u (ar .leq (J E 0) b) λb=>c b g) (c (.bool M) g)) λc=>bd e V (u (aq 4 b) λb=>u (ab M 1 b i) λb=>u (ar .leq b (J E 36)) λb=>c b i) (c (.bool M) i)) (c (.bool V) i)) λc=>bd i V (u (aq 5 b) λb=>u (ab M 1 b h) λb=>u (ar .eql b (J E 0)) λb=>c b h) (c (.bool M) h)) λc=>bd e M (u (aq 2 b) λe=>u (ab M 1 e h) λe=>u (ar .leq (J E 1) e) λe=>bc (λe g=>bc (λe g=>bc (λb e=>c b e) λc=>bd e V (u (aq 3 b) λb=>u (ab M 1 b g) λb=>u (ar .leq b (J E 99)) λb=>c b g) (c (.bool M) g)) λc=>bd e V (u (aq 3 b) λb=>u (ab M 1 b g) λb=>u (ar .leq (J E 0) b) λb=>c b g) (c (.bool M) g)) λc=>bd e V (u (aq 2 b) λb=>u (ab M 1 b h) λb=>u (ar .leq b (J E 12)) λb=>c b h) (c (.bool M) h)) (c (.bool V) h)) λc=>bd h V (u (aq 3 b) λb=>u (ab M 1 b e) λb=>u (ar .eql b (J E 0)) λb=>c b e) (c (.bool M) e)) λg=>bd c M (u (aq 0 b) λb=>u (ab M 1 b e) λb=>u (ar .eql b (J E 255)) λb=>g b e) (g (.bool V) e)) λg=>bd c M (u (aq 0 b) λb=>u (ab M 1 b e) λb=>u (ar .eql b (J E 254)) λb=>g b e) (g (.bool V) e)) λg=>bd c M (u (aq 0 b) λb=>u (ab M 1 b e) λb=>u (ar .eql b (J E 253)) λb=>g b e) (g (.bool V) e)) λg=>bd e V (u (aq 0 b) λb=>u (ab M 1 b c) λb=>u (ar .leq b (J E 120)) λb=>g b c) (g (.bool M) c)
open Go.aM.G in
def FE:b2:=⟨2,49,(S (R<|cw 4<|z)<|
 (S (R<|m 8 0<|dK 9 56 8<|m 7 9<|eV 10 7 0<|eV 11 7 1<|o 5 (.new 83 ji)<|bS 29 5 10<|m 6 11<|z)<|
 (S (S (R<|m 12 1<|z)<|
 (.block 0 [] ([4]++g 13 26)
 (S (R<|b 14 .eql (t 12) (i 0)<|m 13 14<|z)<|
 (.cond (t 13) [] ([4]++g 15 24)
 (S (R<|gC 4<|z)<|
 .ret)
 (S (R<|b 16 .eql (t 12) (i 255)<|m 15 16<|z)<|
 (.cond (t 15) [] ([4]++g 17 22)
 (S (R<|m 17 0<|b 18 .eql (t 17) (i 3)<|m 19 18<|q 22 19 M [20,21] (m 20 0<|b 21 .eql (t 20) (i 4)<|z) (t 21)<|
 m 23 22<|q 26 23 M [24,25] (m 24 0<|b 25 .eql (t 24) (i 6)<|z) (t 25)<|
 m 4 26<|z)<|
 .ret)
 (S (R<|b 28 .eql (t 12) (i 254)<|m 27 28<|z)<|
 (.cond (t 27) [] ([4]++g 29 10)
 (S (R<|m 29 0<|b 30 .eql (t 29) (i 2)<|m 31 30<|q 34 31 M [32,33] (m 32 0<|b 33 .eql (t 32) (i 4)<|z) (t 33)<|
 m 4 34<|z)<|
 .ret)
 (S (R<|b 36 .eql (t 12) (i 253)<|m 35 36<|z)<|
 (.cond (t 35) [] [4,37,38]
 (S (R<|m 37 0<|b 38 .eql (t 37) (i 4)<|m 4 38<|z)<|
 .ret)
 .skip))))))))))<|
 (S (R<|f 39 4 5<|l 40 39<|m 41 1<|b 42 .leq (t 40) (t 41)<|m 43 42<|q 48 43 V (g 44 4) (m 44 1<|f 45 5 5<|l 46 45<|b 47 .leq (t 44) (t 46)<|z) (t 47)<|
 m 4 48<|z)<|
 .ret)))),[.tmp 4],[.aj]⟩
theorem ac8:cc 191 FE:=cf Tryz.func191 rfl
def QU(b:aT)(c:Nat)(e g:U)(h:Z):bl:=u (b 56 [e] h) λb=>u (ek b.1 0) λc=>u (ek b.1 1) λ_=>bK (.ptr b.2.length 0) (b.2++[.box e8 83 .rw]) λb i=>u (bf 29 b c i) λc=>aD (λ_ c=>u (aq 4 b) λe=>u (ab M 1 e c) λe=>u (ar .leq e g) λe=>bc (λb c=>aN [.aj] h c [b]) λh=>bd e V (u (aq 5 b) λb=>u (ab M 1 b c) λb=>u (ar .leq g b) λb=>h b c) (h (.bool M) c)) λb=>u (ar .eql g (J E 0)) λi=>aD (λ_ c=>b [] c) λb=>bb i (aN [.aj] h c [(.bool V)]) (u (ar .eql g (J E 255)) λi=>aD (λ_ c=>b [] c) λb=>bb i (u (ar .eql e (J E 3)) λb=>bc (λb c=>bc (λb c=>aN [.aj] h c [b]) λg=>bd b M (u (ar .eql e (J E 6)) λb=>g b c) (g (.bool V) c)) λg=>bd b M (u (ar .eql e (J E 4)) λb=>g b c) (g (.bool V) c)) (u (ar .eql g (J E 254)) λi=>aD (λ_ c=>b [] c) λb=>bb i (u (ar .eql e (J E 2)) λb=>bc (λb c=>aN [.aj] h c [b]) λg=>bd b M (u (ar .eql e (J E 4)) λb=>g b c) (g (.bool V) c)) (u (ar .eql g (J E 253)) λg=>aD (λ_ c=>b [] c) λb=>bb g (u (ar .eql e (J E 4)) λb=>aN [.aj] h c [b]) (b [] c))))
open Go.aM.G in
def FF:b2:=⟨1,10,(S (R<|b_ 2 0<|z)<|
 (S (S (R<|m 3 0<|z)<|
 (.block 0 [] ([2]++g 4 6)
 (S (R<|b 5 .eql (t 3) (i 2)<|m 4 5<|z)<|
 (.cond (t 4) [] ([2]++g 6 4)
 (S (R<|b_ 2 1<|z)<|
 .ret)
 (S (R<|b 7 .eql (t 3) (i 3)<|m 6 7<|z)<|
 (.cond (t 6) [] [2,8,9]
 (S (R<|b_ 2 8<|z)<|
 .ret)
 (S (R<|b 9 .eql (t 3) (i 4)<|m 8 9<|z)<|
 (.cond (t 8) [] [2]
 (S (R<|b_ 2 10<|z)<|
 .ret)
 .skip))))))))<|
 (S (R<|b_ 2 0<|z)<|
 .ret))),[.tmp 2],[.aj]⟩
theorem ac9:cc 192 FF:=cf Tryz.func192 rfl
def QV(b:aT)(c:Nat)(e:U)(g:Z):bl:=aD (λ_ b=>aN [.aj] g b [(J E 0)]) λb=>u (ar .eql e (J E 2)) λc=>aD (λ_ c=>b [] c) λb=>bb c (aN [.aj] g g [(J E 1)]) (u (ar .eql e (J E 3)) λc=>aD (λ_ c=>b [] c) λb=>bb c (aN [.aj] g g [(J E 8)]) (u (ar .eql e (J E 4)) λc=>aD (λ_ c=>b [] c) λb=>bb c (aN [.aj] g g [(J E 10)]) (b [] g)))
open Go.aM.G in
def FG:b2:=⟨2,17,(S (R<|cw 4<|z)<|
 (S (S (R<|b_ 5 0<|z)<|
 (.block 0 [] (g 4 13)
 (.loop [5] ([4]++g 6 11)
 (S (S (R<|m 6 5<|m 7 0<|o 8 (.len V (t 7))<|b 9 .lss (t 6) (t 8)<|z)<|
 (.cond (t 9) [] []
 .skip
 (.exit 0)))<|
 (S (.block 1 [] ([4]++g 12 5)
 (S (R<|m 12 0<|m 13 5<|o 14 (.nw (t 12) (t 13))<|m 15 1<|b 16 .eql (t 14) (t 15)<|z)<|
 (.cond (t 16) [] [4]
 (S (R<|gC 4<|z)<|
 .ret)
 .skip)))<|
 (R<|m 10 5<|b 11 .add (t 10) (i 1)<|m 5 11<|z))))))<|
 (S (R<|cw 4<|z)<|
 .ret))),[.tmp 4],[.aj]⟩
theorem ac_:cc 193 FG:=cf Tryz.func193 rfl
def FH(b:aT)(c:Nat)(e g:U)(h:Z)(i:bg):(bg)->bg:=λb c j=>u (bB V e) λk=>u (ar .lss (aK c 0) k) λk=>aD (λ_ i=>aD (λ_ e=>u (ar .add (aK c 0) (J E 1)) λc=>b [c] (trim h [c] e)) λb=>u (mW e (aK c 0)) λc=>u (ar .eql c g) λc=>aD (λ_ c=>b [] c) λb=>bb c (aN [.aj] h i [(.bool V)]) (b [] i)) λb=>bb k (b [] j) (i [] j)
def QW(b:aT)(c:Nat)(e g:U)(h:Z):bl:=aD (λ_ b=>aN [.aj] h b [(.bool M)]) λi=>cv (FH b c e g h i) c [(J E 0)] h
open Go.aM.G in
def FI:b2:=⟨1,16,(S (R<|o 2 (.move (.const (.string ⟨#[]⟩)))<|z)<|
 (S (S (R<|m 3 0<|z)<|
 (.block 0 [] ([2]++g 4 12)
 (S (R<|b 5 .eql (t 3) (i 1)<|m 4 5<|z)<|
 (.cond (t 4) [] ([2]++g 6 10)
 (S (R<|o 2 (.move (.const (.string ⟨#[48,49,50,51,52,53,54,55,56,57,65,66,67,68,69,70]⟩)))<|z)<|
 .ret)
 (S (R<|b 7 .eql (t 3) (i 2)<|m 6 7<|z)<|
 (.cond (t 6) [] ([2]++g 8 8)
 (S (R<|o 2 (.move (.const (.string ⟨#[65,66,67,68,69,70,71,72,73,74,75,76,79,81,82,83,84,85,86,88]⟩)))<|z)<|
 .ret)
 (S (R<|b 9 .eql (t 3) (i 3)<|m 8 9<|z)<|
 (.cond (t 8) [] ([2]++g 10 6)
 (S (R<|o 2 (.move (.const (.string ⟨#[48,49,50,51,52,53,54,55,56,57,65,66,67,68,69,70,71,72,75,76,80,82,84,88]⟩)))<|z)<|
 .ret)
 (S (R<|b 11 .eql (t 3) (i 4)<|m 10 11<|z)<|
 (.cond (t 10) [] ([2]++g 12 4)
 (S (R<|o 2 (.move (.const (.string ⟨#[65,66,67,68,69,70,71,72,73,74,75,76,77,78,79,80,81,82,83,84,85,86,87,88,89,90]⟩)))<|z)<|
 .ret)
 (S (R<|b 13 .eql (t 3) (i 5)<|m 12 13<|z)<|
 (.cond (t 12) [] [2,14,15]
 (S (R<|o 2 (.move (.const (.string ⟨#[48,49,50,51,52,53]⟩)))<|z)<|
 .ret)
 (S (R<|b 15 .eql (t 3) (i 6)<|m 14 15<|z)<|
 (.cond (t 14) [] [2]
 (S (R<|o 2 (.move (.const (.string ⟨#[48,49,50,51,52,65,66,67,68,69,70,78,83]⟩)))<|z)<|
 .ret)
 .skip))))))))))))))<|
 (S (R<|o 2 (.move (.const (.string ⟨#[]⟩)))<|z)<|
 .ret))),[.tmp 2],[.aj]⟩
theorem ac':cc 194 FI:=cf Tryz.func194 rfl
def QX(b:aT)(c:Nat)(e:U)(g:Z):bl:=aD (λ_ b=>aN [.aj] g b [(.str ⟨#[]⟩:U)]) λb=>u (ar .eql e (J E 1)) λc=>aD (λ_ c=>b [] c) λb=>bb c (aN [.aj] g g [(.str ⟨#[48,49,50,51,52,53,54,55,56,57,65,66,67,68,69,70]⟩:U)]) (u (ar .eql e (J E 2)) λc=>aD (λ_ c=>b [] c) λb=>bb c (aN [.aj] g g [(.str ⟨#[65,66,67,68,69,70,71,72,73,74,75,76,79,81,82,83,84,85,86,88]⟩:U)]) (u (ar .eql e (J E 3)) λc=>aD (λ_ c=>b [] c) λb=>bb c (aN [.aj] g g [(.str ⟨#[48,49,50,51,52,53,54,55,56,57,65,66,67,68,69,70,71,72,75,76,80,82,84,88]⟩:U)]) (u (ar .eql e (J E 4)) λc=>aD (λ_ c=>b [] c) λb=>bb c (aN [.aj] g g [(.str ⟨#[65,66,67,68,69,70,71,72,73,74,75,76,77,78,79,80,81,82,83,84,85,86,87,88,89,90]⟩:U)]) (u (ar .eql e (J E 5)) λc=>aD (λ_ c=>b [] c) λb=>bb c (aN [.aj] g g [(.str ⟨#[48,49,50,51,52,53]⟩:U)]) (u (ar .eql e (J E 6)) λc=>aD (λ_ c=>b [] c) λb=>bb c (aN [.aj] g g [(.str ⟨#[48,49,50,51,52,65,66,67,68,69,70,78,83]⟩:U)]) (b [] g))))))
open Go.aM.G in
def FJ:b2:=⟨1,13,(S (R<|o 2 (.move (.const (.int .u8 0)))<|z)<|
 (S (S (R<|m 3 0<|b 4 .leq (t 3) (i 10)<|z)<|
 (.cond (t 4) [] ([2]++g 5 4)
 (S (R<|m 5 0<|b 6 .sub (t 5) (i 1)<|o 7 (.conv .u8 (t 6))<|b 8 .add (.const (.int .u8 48)) (t 7)<|m 2 8<|z)<|
 .ret)
 .skip))<|
 (S (R<|m 9 0<|b 10 .sub (t 9) (i 11)<|o 11 (.conv .u8 (t 10))<|b 12 .add (.const (.int .u8 65)) (t 11)<|m 2 12<|z)<|
 .ret))),[.tmp 2],[.aj]⟩
theorem ada:cc 195 FJ:=cf Tryz.func195 rfl
def QY(b:aT)(c:Nat)(e:U)(g:Z):bl:=u (ar .leq e (J E 10)) λb=>aD (λ_ b=>u (ar .sub e (J E 11)) λc=>u (mV .u8 c) λc=>u (ar .add (.int .u8 65) c) λc=>aN [.aj] g b [c]) λc=>bb b (u (ar .sub e (J E 1)) λb=>u (mV .u8 b) λb=>u (ar .add (.int .u8 48) b) λb=>aN [.aj] g g [b]) (c [] g)
def T:iT:=[(4,k6),(7,Cm),(8,Cn),(9,Co),(11,Cp),(12,Cq),(13,Cr),(14,Cv),(15,Cw),(16,CC),(17,CD),(24,CF),(25,zr),(26,CH),(27,CJ),(28,CL),(29,CM),(30,CO),(31,CP),(32,CR),(33,CS),(34,CU),(35,CY),(36,CZ),(37,C0),(38,C4),(39,wO),(40,C8),(41,C9),(42,C_),(43,C'),(44,Da),(45,Db),(46,Dc),(47,Dd),(48,De),(49,Df),(50,wR),(51,Dl),(52,zz),(53,Dn),(54,Dp),(55,Dq),(56,Dr),(57,Ds),(58,Dt),(68,Du),(69,Dv),(70,Dx),(71,Dy),(72,Dz),(73,DB),(74,DD),(75,DF),(76,DG),(77,DH),(78,DI),(79,DJ),(80,DK),(81,DL),(82,DM),(83,DN),(84,DO),(85,DP),(86,DQ),(87,DS),(88,DT),(89,DV),(90,DW),(91,DY),(92,D0),(93,D1),(94,D2),(95,D3),(96,D4),(97,D5),(98,D6),(99,D8),(100,D9),(101,D_),(102,D'),(103,Ea),(104,Eb),(110,Ec),(112,Ee),(114,Ef),(115,Eh),(116,Ei),(117,Ej),(118,Ek),(119,El),(120,Em),(121,En),(122,Ep),(123,Er),(124,Es),(125,Eu),(126,Ev),(127,Ey),(128,Ez),(129,EA),(130,EB),(131,ED),(132,EF),(133,EH),(134,EI),(135,EJ),(136,EL),(137,EM),(138,EO),(139,ER),(140,ET),(141,EV),(142,EX),(145,EZ),(146,E1),(147,E2),(148,E3),(149,E4),(150,E6),(151,E7),(152,E8),(153,E9),(154,E_),(155,E'),(156,Fa),(157,Fb),(158,Fe),(159,Ff),(160,Fh),(161,Fj),(162,QH),(163,Fl),(164,Fm),(165,Fq),(166,Ft),(170,Fv),(172,Fw),(173,Fx),(174,Fz),(175,FA),(176,FB),(189,FC),(190,FD),(191,FE),(192,FF),(193,FG),(194,FI),(195,FJ)]
def aL:aT:=nJ (wJ (uo 171) (wI 144)) T
theorem cu{f:dU}{F:b2}(b:T.get f=y F)(fuel:Nat){args:List U}{h:Z}{r:U×Z}(ad:b7 aL fuel F args h=y r)(aE:cM f dX=M:=by rfl):aL f args h=y r:=YP b fuel ad aE
theorem JM(fuel:Nat){args:List U}{h:Z}{r:U×Z}(ad:ox aL fuel args h=y r):aL dX args h=y r:=YQ fuel ad
end
section
variable (Γ : aT) (n : Nat) (al aC b6 gH : U) (h : Z)
theorem adb:b7 Γ n DN [al] h=Pz Γ n al h:=by kernel_rfl
theorem ade:b7 Γ n DO [al] h=PA Γ n al h:=by kernel_rfl
theorem adf:b7 Γ n DP [al] h=PB Γ n al h:=by kernel_rfl
theorem adg:b7 Γ n DQ [al,aC] h=PC Γ n al aC h:=by kernel_rfl
theorem adh:b7 Γ n DS [al] h=PD Γ n al h:=by kernel_rfl
theorem adi:b7 Γ n DT [al,aC] h=PE Γ n al aC h:=by kernel_rfl
theorem adj:b7 Γ n DV [al,aC] h=PF Γ n al aC h:=by kernel_rfl
theorem adk:b7 Γ n DW [al,aC] h=PG Γ n al aC h:=by kernel_rfl
theorem adl:b7 Γ n DY [al,aC] h=PH Γ n al aC h:=by kernel_rfl
theorem adm:b7 Γ n D0 [al,aC] h=PI Γ n al aC h:=by kernel_rfl
theorem adn:b7 Γ n D1 [al,aC,b6] h=PJ Γ n al aC b6 h:=by kernel_rfl
theorem ado:b7 Γ n D2 [al,aC] h=PK Γ n al aC h:=by kernel_rfl
theorem adp:b7 Γ n D3 [al,aC] h=PL Γ n al aC h:=by kernel_rfl
theorem adq:b7 Γ n D4 [al,aC,b6] h=PN Γ n al aC b6 h:=by kernel_rfl
theorem adr:b7 Γ n D5 [al,aC] h=PQ Γ n al aC h:=by kernel_rfl
theorem ads:b7 Γ n D6 [al,aC] h=PR Γ n al aC h:=by kernel_rfl
theorem adt:b7 Γ n D8 [al] h=PS Γ n al h:=by kernel_rfl
theorem adu:b7 Γ n D9 [al,aC] h=PT Γ n al aC h:=by kernel_rfl
theorem adv:b7 Γ n D_ [al] h=PU Γ n al h:=by kernel_rfl
theorem adw:b7 Γ n D' [] h=PV Γ n h:=by kernel_rfl
theorem adx:b7 Γ n Ea [al] h=PW Γ n al h:=by kernel_rfl
theorem ady:b7 Γ n Eb [al,aC,b6] h=PX Γ n al aC b6 h:=by kernel_rfl
theorem adz:b7 Γ n Ec [al] h=PY Γ n al h:=by kernel_rfl
theorem adA:b7 Γ n Ee [al] h=PZ Γ n al h:=by kernel_rfl
theorem adB:b7 Γ n Ef [al] h=P0 Γ n al h:=by kernel_rfl
theorem adC:b7 Γ n Eh [al,aC] h=P1 Γ n al aC h:=by kernel_rfl
theorem adD:b7 Γ n Ei [al,aC] h=P2 Γ n al aC h:=by kernel_rfl
theorem adE:b7 Γ n Ej [al,aC] h=P3 Γ n al aC h:=by kernel_rfl
theorem adF:b7 Γ n Ek [al,aC] h=P4 Γ n al aC h:=by kernel_rfl
theorem adG:b7 Γ n El [al,aC] h=P5 Γ n al aC h:=by kernel_rfl
theorem adH:b7 Γ n Em [al] h=P6 Γ n al h:=by kernel_rfl
theorem adI:b7 Γ n En [al,aC] h=P7 Γ n al aC h:=by kernel_rfl
theorem adJ:b7 Γ n Ep [al,aC] h=P8 Γ n al aC h:=by kernel_rfl
theorem adK:b7 Γ n Er [al] h=P9 Γ n al h:=by kernel_rfl
theorem adL:b7 Γ n Es [al,aC] h=P_ Γ n al aC h:=by kernel_rfl
theorem adM:b7 Γ n Eu [al] h=P' Γ n al h:=by kernel_rfl
theorem adN:b7 Γ n Ev [al] h=Qa Γ n al h:=by kernel_rfl
theorem adO:b7 Γ n Ey [al] h=Qb Γ n al h:=by kernel_rfl
theorem adP:b7 Γ n Ez [al,aC] h=Qc Γ n al aC h:=by kernel_rfl
theorem adQ:b7 Γ n EA [al,aC] h=Qd Γ n al aC h:=by kernel_rfl
theorem adR:b7 Γ n EB [al,aC] h=Qe Γ n al aC h:=by kernel_rfl
theorem adS:b7 Γ n ED [al,aC] h=Qf Γ n al aC h:=by kernel_rfl
theorem adT:b7 Γ n EF [al,aC] h=Qg Γ n al aC h:=by kernel_rfl
theorem adU:b7 Γ n EH [al,aC] h=Qh Γ n al aC h:=by kernel_rfl
theorem adV:b7 Γ n EI [al,aC] h=Qi Γ n al aC h:=by kernel_rfl
theorem adW:b7 Γ n EJ [al] h=Qj Γ n al h:=by kernel_rfl
theorem adX:b7 Γ n EL [al,aC,b6] h=Qk Γ n al aC b6 h:=by kernel_rfl
theorem adY:b7 Γ n EM [al] h=Ql Γ n al h:=by kernel_rfl
theorem adZ:b7 Γ n EO [al,aC] h=Qm Γ n al aC h:=by kernel_rfl
theorem ad0:b7 Γ n ER [al] h=Qn Γ n al h:=by kernel_rfl
theorem ad1:b7 Γ n ET [al] h=Qo Γ n al h:=by kernel_rfl
theorem ad2:b7 Γ n EV [al] h=Qp Γ n al h:=by kernel_rfl
theorem ad3:b7 Γ n EX [al] h=Qq Γ n al h:=by kernel_rfl
theorem ad4:b7 Γ n EZ [al,aC,b6] h=Qr Γ n al aC b6 h:=by kernel_rfl
theorem ad5:b7 Γ n E1 [al,aC,b6] h=Qs Γ n al aC b6 h:=by kernel_rfl
theorem ad6:b7 Γ n E2 [al] h=Qt Γ n al h:=by kernel_rfl
theorem ad7:b7 Γ n E3 [al] h=Qu Γ n al h:=by kernel_rfl
theorem ad8:b7 Γ n E4 [al,aC] h=Qv Γ n al aC h:=by kernel_rfl
theorem ad9:b7 Γ n E6 [al,aC] h=Qw Γ n al aC h:=by kernel_rfl
theorem ad_:b7 Γ n E7 [al] h=Qx Γ n al h:=by kernel_rfl
theorem ad':b7 Γ n E8 [al,aC] h=Qy Γ n al aC h:=by kernel_rfl
theorem aea:b7 Γ n E9 [al] h=Qz Γ n al h:=by kernel_rfl
theorem aeb:b7 Γ n E_ [al] h=QA Γ n al h:=by kernel_rfl
theorem aec:b7 Γ n E' [al] h=acO Γ n al h:=by kernel_rfl
theorem aed:b7 Γ n Fa [al,aC,b6,gH] h=QB Γ n al aC b6 gH h:=by kernel_rfl
theorem aee:b7 Γ n Fb [al] h=QC Γ n al h:=by kernel_rfl
theorem aef:b7 Γ n Fe [al] h=QD Γ n al h:=by kernel_rfl
theorem aeg:b7 Γ n Ff [al,aC,b6] h=QE Γ n al aC b6 h:=by kernel_rfl
theorem aeh:b7 Γ n Fh [al,aC] h=QF Γ n al aC h:=by kernel_rfl
theorem aei:b7 Γ n Fj [al,aC] h=QG Γ n al aC h:=by kernel_rfl
theorem aej:b7 Γ n Fl [al,aC] h=QI Γ n al aC h:=by kernel_rfl
theorem aek:b7 Γ n Fm [al,aC,b6] h=QJ Γ n al aC b6 h:=by kernel_rfl
theorem ael:b7 Γ n Fq [al] h=QK Γ n al h:=by kernel_rfl
theorem aem:b7 Γ n Ft [al,aC] h=QL Γ n al aC h:=by kernel_rfl
theorem aen:b7 Γ n Fv [al,aC,b6,gH] h=QM Γ n al aC b6 gH h:=by kernel_rfl
theorem aeo:b7 Γ n Fw [al,aC,b6,gH] h=QN Γ n al aC b6 gH h:=by kernel_rfl
theorem aep:b7 Γ n Fx [al,aC] h=QO Γ n al aC h:=by kernel_rfl
theorem aeq:b7 Γ n Fz [al,aC] h=QP Γ n al aC h:=by kernel_rfl
theorem aer:b7 Γ n FA [al,aC] h=QQ Γ n al aC h:=by kernel_rfl
theorem aes:b7 Γ n FB [al,aC,b6,gH] h=QR Γ n al aC b6 gH h:=by kernel_rfl
theorem aet:b7 Γ n FC [al] h=QS Γ n al h:=by kernel_rfl
theorem aeu:b7 Γ n FD [al] h=QT Γ n al h:=by kernel_rfl
theorem aev:b7 Γ n FE [al,aC] h=QU Γ n al aC h:=by kernel_rfl
theorem aew:b7 Γ n FF [al] h=QV Γ n al h:=by kernel_rfl
theorem aex:b7 Γ n FG [al,aC] h=QW Γ n al aC h:=by kernel_rfl
theorem aey:b7 Γ n FI [al] h=QX Γ n al h:=by kernel_rfl
theorem aez:b7 Γ n FJ [al] h=QY Γ n al h:=by kernel_rfl
end
open Go.RowKit
theorem aeA:∀(xs:Array Value) (w:World),(callFunc 171 xs).run Tryz.prog w=.ok (.enter 171 xs) w:=λxs w=>Ie Tryz.func171 rfl (by kernel_rfl)
set_option maxHeartbeats 1000000 in
set_option maxRecDepth 100000 in
theorem aeB(F:Fence)(n:Nat)(b:kH F)(s:ByteArray)(c:Int)(w:World):CallsIn F.plain n Tryz.prog 171 #[.string s,.int .u8 c] w λe b'=>e=.returned (.int .i64 (rI s.data.toList c.toNat.toUInt8))/\b'=w:=by
 have mixed:Tryz.prog.follows .mixedOrders=V:=by kernel_rfl
 have g:=Tryz.underlying3
 have h:=Tryz.underlying5
 have i:=Tryz.underlying9
 refine callsIn_of_wp Tryz.func171 rfl (b.1 171) ?_ rfl
 simp only[show Tryz.f171.ntmps=8 from rfl,List.size_toArray,List.length_cons,List.length_nil,aV,Nat.reduceSub,Array.replicate_succ,Array.replicate_zero,List.push_toArray,List.append_toArray,List.nil_append,List.cons_append]
 gi_wp2
 refine⟨b.1 188,?_⟩
 rw[run_callFunc_extern Tryz.func188 (by kernel_rfl) (by kernel_rfl) (by kernel_rfl) (e:=Extern.BytealgIndexByte.indexByte) (by kernel_rfl),Lib.run_indexByteString]
 simp only[Result.andThen]
 rw[Oper.uponIn_value]
 gi_wp2
 go_ret
 exact⟨rfl,rfl⟩
theorem aeC:jd Tryz.prog (q2 171):=Zk aeA aeB rfl
end Go.aM.X
namespace Go.aM.X
open Go.bF Go.aM
attribute [local congr] mZ m0 m5 m6
def b9(x lo ai:Int):Bool:=decide (lo<=x)&&decide (x<=ai)
theorem q9(x lo ai:Int)(h:Z):aL 54 [J E x,J E lo,J E ai] h=y (.bool (b9 x lo ai),h):=by
 refine cu (F:=Dp) (by kernel_rfl) 1 ?_
 rw[abo]
 unfold Pd b9
 simp only[oB,jg,b8,fF,dZ,ge_iff_le]
theorem FK(x lo ai:Int)(h:Z):aL 104 [J E x,J E lo,J E ai] h=y (.bool (b9 x lo ai),h):=by
 refine cu (F:=Eb) (by kernel_rfl) 1 ?_
 rw[ady]
 unfold PX b9
 simp only[oB,jg,b8,fF,dZ,ge_iff_le]
theorem QZ(x lo ai:Int)(h:Z):aL 146 [J E x,J E lo,J E ai] h=y (.bool (b9 x lo ai),h):=by
 refine cu (F:=E1) (by kernel_rfl) 1 ?_
 rw[ad5]
 unfold Qs b9
 simp only[oB,jg,b8,fF,dZ,ge_iff_le]
theorem s4(x lo ai:Int)(h:Z):aL 57 [J E x,J E lo,J E ai] h=y (.bool (b9 x lo ai),h):=by
 refine cu (F:=Ds) (by kernel_rfl) 1 ?_
 rw[abr]
 unfold Pg b9
 simp only[oB,jg,b8,fF,dZ]
theorem JN(d:Int)(h:Z):aL 101 [J E d] h=y (.bool (b9 d 1 6),h):=by
 refine cu (F:=D_) (by kernel_rfl) 1 ?_
 rw[adv]
 unfold PU b9
 simp only[oB,jg,b8,fF,dZ,ge_iff_le]
theorem wL(x:Int)(h:Z):aL 103 [J E x] h=y (.bool (b9 x 1 16),h):=by
 refine cu (F:=Ea) (by kernel_rfl) 1 ?_
 rw[adx]
 unfold PW
 simp only[FK,b8,dZ]
structure Cell where
 (note inst po oJ kO wV:Int)
def Cell.cs(c:Cell):List U:=[J E c.note,J E c.inst,J E c.po,J E c.oJ,J E c.kO,J E c.wV]
def k7(c:Cell):Bool:=
 (b9 c.note 0 120||c.note==253||c.note==254||c.note==255)&&b9 c.inst 0 31&&(b9 c.po 0 12&&b9 c.oJ 0 99&&(decide (c.po>0)||c.oJ==0))&&(b9 c.kO 0 36&&b9 c.wV 0 255&&(decide (c.kO>0)||c.wV==0))
section
variable {h : Z} {c : Cell} {t : a1}
theorem FL:ab M 1 (.ptr h.length 0) (h++[.box c.cs t .rw])=y (J E c.note):=fb rfl
theorem Q0:ab M 1 (.ptr h.length 1) (h++[.box c.cs t .rw])=y (J E c.inst):=fb rfl
theorem FM:ab M 1 (.ptr h.length 2) (h++[.box c.cs t .rw])=y (J E c.po):=fb rfl
theorem Q1:ab M 1 (.ptr h.length 3) (h++[.box c.cs t .rw])=y (J E c.oJ):=fb rfl
theorem wW:ab M 1 (.ptr h.length 4) (h++[.box c.cs t .rw])=y (J E c.kO):=fb rfl
theorem Q2:ab M 1 (.ptr h.length 5) (h++[.box c.cs t .rw])=y (J E c.wV):=fb rfl
theorem q1(l:List U):cn (.agg l)=l:=rfl
end
theorem Cj(c:Cell)(h:Z):aL 148 [.agg c.cs] h=y (.bool (k7 c),h):=by
 refine cu (F:=E3) (by kernel_rfl) 1 ?_
 rw[ad7]
 unfold Qu k7
 simp only[nO,q1,fT,FL,Q0,FM,Q1,wW,Q2,FK,gf,iD,b8,gU,fF,pn,dJ]
theorem JO(c:Cell)(h:Z):aL 190 [.agg c.cs] h=y (.bool (k7 c),h):=by
 refine cu (F:=FD) (by kernel_rfl) 1 ?_
 rw[aeu]
 unfold QT
 simp only[nO,q1,fT,FL,Q0,FM,Q1,wW,Q2,gf,jg,b8,gU,fF,pn,dJ]
 congr 3
 unfold k7 b9
 rw[pP]
 simp only[dn,mM,eJ,i']
 omega
theorem s7{α:Type}(p:α->Bool)(l:List α):∃k,k<=l.length/\(∀i a,i<k->l[i]?=y a->p a=V)/\(k=l.length/\l.all p=V\/∃a,l[k]?=y a/\p a=M/\l.all p=M):=by
 induction l with
 |nil=>exact⟨0,cj _,λi a h=>by omega,.inl ⟨rfl,rfl⟩⟩
 |cons x l a6=>
  cases ae:p x with
  |false=>exact⟨0,hO _,λi a h=>by omega,.inr ⟨x,rfl,ae,by simp [ae]⟩⟩
  |true=>
   obtain⟨k,h1,h2,ak⟩:=a6
   refine⟨k+1,by simp;omega,λi a ai ha=>?_,?_⟩
   ·cases i with
    |zero=>cases ha;exact ae
    |succ i=>exact h2 i a (by omega) ha
   ·rcases ak with⟨ak,aJ⟩|⟨a,ak,aJ,aO⟩
    ·exact .inl ⟨by simp [ak],by simp [ae,aJ]⟩
    ·exact .inr ⟨a,ak,aJ,by simp [aO]⟩
def hl(s:ByteArray):List UInt8:=s.data.toList
theorem zD(s:ByteArray):(hl s).length=s.size:=by unfold hl;rw[Array.length_toList];rfl
theorem q_{s:ByteArray}{i:Nat}{b:UInt8}(h:(hl s)[i]?=y b):mW (.str s) (J E (i:Int))=y (.int .u8 (b.toNat:Int)):=by
 have e:s.data[i]?=y b:=by unfold hl at h;rwa [Array.getElem?_toList]at h
 simp only[mW,mc,e]
 rw[aP (by omega)]
 rfl
theorem cR{α:Type}{l:List α}{i:Nat}(h:i<l.length):∃a,l[i]?=y a:=⟨_,fJ h⟩
def pq(b:UInt8):Bool:=b9 (b.toNat:Int) 32 126
def k8(s:ByteArray):Bool:=(hl s).all pq&&decide (s.size<=22)
theorem Q3(b:UInt8):mV .i64 (.int .u8 (b.toNat:Int))=y (J E (b.toNat:Int)):=by
 have:=b.toNat_lt
 rw[IY,wrap64 (by unfold dB;omega)]
theorem aeD{s:ByteArray}(aB:s.size<9223372036854775808)(h:Z):aL 114 [.str s] h=y (.bool (k8 s),h):=by
 have j:=zD s
 refine cu (F:=Ef) (by kernel_rfl) (s.size+1) ?_
 rw[adB]
 unfold P0 k8
 simp only[oD,b8,↓aI]
 obtain⟨k,h1,h2,ak⟩:=s7 pq (hl s)
 refine oC (λi=>[J E (i:Int)]) k (by omega) rfl (λi ai K=>?_) λK=>?_
 ·obtain⟨b,af⟩:=cR (show i<(hl s).length by omega)
  have c:((i:Int)<(s.size:Int))=True:=kk (by omega)
  have e:b9 (b.toNat:Int) 32 126=V:=h2 i b ai af
  unfold Eg
  simp only[eT,er,c,cr,b8,↓aI,eU,a_,q_ af,Q3,q9,e,mB,fg,bn,bh,kM,cO (show i<9223372036854775807 by omega),jJ]
 ·rcases ak with⟨rfl,aJ⟩|⟨b,ak,aJ,aO⟩
  ·have c:(((hl s).length:Int)<(s.size:Int))=False:=dI (by omega)
   have fm:decide ((s.size:Int)<=22)=decide (s.size<=22):=by rw[decide_eq_decide];omega
   unfold Eg
   simp only[eT,er,c,c4,b8,↓aI,eU,bn,bh,jg,aJ,hq,fm,dZ]
  ·have ad:k<(hl s).length:=by
    obtain⟨g,_⟩:=List.getElem?_eq_some_iff.1 ak
    exact g
   have c:((k:Int)<(s.size:Int))=True:=kk (by omega)
   have e:b9 (b.toNat:Int) 32 126=M:=aJ
   unfold Eg
   simp only[eT,er,c,cr,b8,↓aI,eU,a_,q_ ak,Q3,q9,e,mB,gN,aO,jv,dZ]
def q'(d:Int):Int:=if d=2 then 1 else if d=3 then 8 else if d=4 then 10 else 0
theorem aeE(d:Int)(h:Z):aL 192 [J E d] h=y (J E (q' d),h):=by
 refine cu (F:=FF) (by kernel_rfl) 1 ?_
 rw[aew]
 unfold QV q'
 simp only[gf,b8,↓aI,eU,i',pk]
 split<;>first|rfl|(split<;>first|rfl|(split<;>rfl))
def lu:Int->List UInt8:=λd=>
 if d=1 then [48,49,50,51,52,53,54,55,56,57,65,66,67,68,69,70]
 else if d=2 then [65,66,67,68,69,70,71,72,73,74,75,76,79,81,82,83,84,85,86,88]
 else if d=3 then [48,49,50,51,52,53,54,55,56,57,65,66,67,68,69,70,71,72,75,76,80,82,84,88]
 else if d=4 then [65,66,67,68,69,70,71,72,73,74,75,76,77,78,79,80,81,82,83,84,85,86,87,88,89,90]
 else if d=5 then [48,49,50,51,52,53]
 else if d=6 then [48,49,50,51,52,65,66,67,68,69,70,78,83]
 else []
def strOf(l:List UInt8):U:=.str ⟨l.toArray⟩
theorem s8{h:Z}{s:ByteArray}:aN [.aj] h h [.str s]=y (.str s,h):=by
 have:=zb (h:=h) (l:=[]) (v:=.str s) λ_=>by simp [bM]
 rwa [fD]at this
theorem aeF(d:Int)(h:Z):aL 194 [J E d] h=y (strOf (lu d),h):=by
 refine cu (F:=FI) (by kernel_rfl) 1 ?_
 rw[aey]
 unfold QX lu strOf
 simp only[gf,b8,↓aI,eU,i',s8]
 repeat' split
 all_goals rfl
theorem Q4{Γ:aT}{T:iT}{f:dU}(aE:cM f dX=M)(b:T.get f=none)(args:List U)(h:Z):∀n,iU Γ T n f args h=Γ f args h
 |0=>by unfold iU;rw[aE,b];rfl
 |n+1=>by unfold iU;rw[aE,b];rfl
theorem aeG{Γ:aT}{T:iT}{f:dU}(aE:cM f dX=M)(b:T.get f=none){args:List U}{h:Z}{r:U×Z}(an:Γ f args h=y r):nJ Γ T f args h=y r:=by
 unfold nJ
 have H:∃n,(iU Γ T n f args h).isSome=V:=⟨0,by rw[Q4 aE b,an];rfl⟩
 rw[dif_pos H,Q4 aE b,an]
theorem aeH(s:ByteArray)(c:Int)(h:Z):aL 171 [.str s,.int .u8 c] h=y (.int .i64 (rI (hl s) c.toNat.toUInt8),h):=aeG rfl (by kernel_rfl) rfl
theorem aeI(s:ByteArray)(c:Int)(h:Z):aL 152 [.str s,.int .u8 c] h=y (.int .i64 (rI (hl s) c.toNat.toUInt8),h):=by
 refine cu (F:=E8) (by kernel_rfl) 1 ?_
 rw[ad']
 unfold Qy
 simp only[aeH,b8,pk]
theorem Q5:∀(l:List UInt8) (c:UInt8),decide (rI l c>=0)=l.contains c/\(rI l c=-1\/0<=rI l c)
 |[],c=>⟨rfl,.inl rfl⟩
 |b::l,c=>by
  obtain⟨h1,h2⟩:=Q5 l c
  unfold rI
  by_cases af:(b==c)=V
  ·rw[aP af]
   refine⟨?_,.inr (by decide)⟩
   have:c=b:=by rw[i']at af;exact af.symm
   simp [this]
  ·rw[aW af]
   have g:(c==b)=M:=by
    rw[jV]
    intro e
    exact af (by rw[e];simp)
   rw[List.contains_cons,g,sy,<-h1]
   rcases h2 with h2|h2
   ·rw[h2];exact⟨rfl,.inl rfl⟩
   ·have:¬((rI l c==-1)=V):=by rw[i'];omega
    rw[aW this]
    refine⟨?_,.inr (by omega)⟩
    rw[decide_eq_decide];omega
def uF(e:Int):Nat:=if e<=10 then(47+e).toNat else(54+e).toNat
theorem aeJ{e:Int}(he:1<=e/\e<=36)(h:Z):aL 195 [J E e] h=y (.int .u8 (uF e:Int),h):=by
 refine cu (F:=FJ) (by kernel_rfl) 1 ?_
 rw[aez]
 unfold QY uF
 have bC:IntKind.i64.wrap (e-1)=e-1:=wrap64 (by unfold dB;omega)
 have cU:IntKind.i64.wrap (e-11)=e-11:=wrap64 (by unfold dB;omega)
 simp only[jg,uk,kM,bC,cU,IY,Zd,b8,↓aI,eU,eJ,pk]
 split
 ·congr 3
  omega
 ·congr 3
  omega
theorem aeK{e:Int}(he:1<=e/\e<=36)(h:Z):aL 154 [J E e] h=y (.int .u8 (uF e:Int),h):=by
 refine cu (F:=E_) (by kernel_rfl) 1 ?_
 rw[aeb]
 unfold QA
 obtain⟨k,rfl,ad⟩:∃k:Nat,e=((k+1:Nat):Int)/\k<36:=⟨(e-1).toNat,by omega,by omega⟩
 have bC:IntKind.i64.wrap (((k+1:Nat):Int)-1)=(k:Int):=by rw[wrap64 (by unfold dB;omega)];omega
 have b:∀k:Nat,k<36->mW (.str ⟨#[48,49,50,51,52,53,54,55,56,57,65,66,67,68,69,70,71,72,73,74,75,76,77,78,79,80,81,82,83,84,85,86,87,88,89,90]⟩) (J E (k:Int))=y (.int .u8 (uF ((k+1:Nat):Int):Int)):=by
  intro k ad
  have:k=0\/k=1\/k=2\/k=3\/k=4\/k=5\/k=6\/k=7\/k=8\/k=9\/k=10\/k=11\/k=12\/k=13\/k=14\/k=15\/k=16\/k=17\/k=18\/k=19\/k=20\/k=21\/k=22\/k=23\/k=24\/k=25\/k=26\/k=27\/k=28\/k=29\/k=30\/k=31\/k=32\/k=33\/k=34\/k=35:=by omega
  rcases this with rfl|rfl|rfl|rfl|rfl|rfl|rfl|rfl|rfl|rfl|rfl|rfl|rfl|rfl|rfl|rfl|rfl|rfl|rfl|rfl|rfl|rfl|rfl|rfl|rfl|rfl|rfl|rfl|rfl|rfl|rfl|rfl|rfl|rfl|rfl|rfl<;>rfl
 simp only[uk,bC,b8,b k ad,pk]
theorem aeL{s:ByteArray}(aB:s.size<9223372036854775808)(c:Nat)(aa:c<256)(h:Z):aL 193 [.str s,.int .u8 (c:Int)] h=y (.bool ((hl s).contains c.toUInt8),h):=by
 have n:=zD s
 refine cu (F:=FG) (by kernel_rfl) (s.size+1) ?_
 rw[aex]
 unfold QW
 simp only[↓aI]
 have heq:∀b:UInt8,(((b.toNat:Nat):Int)==(c:Int))=(b==c.toUInt8):=λb=>by
  rw[pP,i',i']
  constructor
  ·intro e
   have aF:b.toNat=c:=by omega
   rw[<-aF]
   simp
  ·intro e
   rw[e]
   have:c.toUInt8.toNat=c:=by simp [Nat.mod_eq_of_lt aa]
   omega
 obtain⟨k,h1,h2,ak⟩:=s7 (λb=>!(b==c.toUInt8)) (hl s)
 have l:(hl s).contains c.toUInt8=!(hl s).all (λb=>!(b==c.toUInt8)):=by
  rw[List.not_all_eq_any_not]
  simp only[Bool.not_not]
  rw[List.contains_eq_any_beq]
  congr 1
  funext b
  rw[pP,i',i']
  exact⟨λe=>e.symm,λe=>e.symm⟩
 refine oC (λi=>[J E (i:Int)]) k (by omega) rfl (λi ai K=>?_) λK=>?_
 ·obtain⟨b,af⟩:=cR (show i<(hl s).length by omega)
  have g:((i:Int)<(s.size:Int))=True:=kk (by omega)
  have j:(b==c.toUInt8)=M:=by have:=h2 i b ai af;simpa using this
  unfold FH
  simp only[eT,oD,er,g,cr,b8,↓aI,eU,a_,q_ af,gf,heq,j,bn,bh,kM,cO (show i<9223372036854775807 by omega),jJ]
 ·rcases ak with⟨rfl,aJ⟩|⟨b,ak,aJ,aO⟩
  ·have g:(((hl s).length:Int)<(s.size:Int))=False:=dI (by omega)
   unfold FH
   simp only[eT,oD,er,g,c4,b8,↓aI,eU,bn,bh,l,aJ,fg,dZ]
  ·have ad:k<(hl s).length:=by
    obtain⟨m,_⟩:=List.getElem?_eq_some_iff.1 ak
    exact m
   have g:((k:Int)<(s.size:Int))=True:=kk (by omega)
   have j:(b==c.toUInt8)=V:=by simpa using aJ
   unfold FH
   simp only[eT,oD,er,g,cr,b8,↓aI,eU,a_,q_ ak,gf,heq,j,l,aO,gN,dZ]
theorem JP{d:Int}(h:b9 d 1 6=V):d=1\/d=2\/d=3\/d=4\/d=5\/d=6:=by
 unfold b9 at h
 simp only[dn,eJ]at h
 omega
theorem aeM(d:Int)(h:Z):aL 153 [J E d] h=y (strOf (lu d),h):=by
 refine cu (F:=E9) (by kernel_rfl) 1 ?_
 rw[aea]
 unfold Qz
 simp only[JN,b8,mB,↓aI,eU]
 cases hd:b9 d 1 6 with
 |false=>
  have e:lu d=[]:=by
   unfold b9 at hd
   simp only[qG,iA]at hd
   unfold lu
   rw[aW (by omega),aW (by omega),aW (by omega),aW (by omega),aW (by omega),aW (by omega)]
  rw[e]
  simp only[gN,a_]
  exact e0 (show _=aN [.aj] h h [strOf []]from rfl) s8
 |true=>
  simp only[fg,bn,bh]
  rcases JP hd with rfl|rfl|rfl|rfl|rfl|rfl
  ·exact e0 (show _=aN [.aj] h h [strOf (lu 1)]from rfl) s8
  ·exact e0 (show _=aN [.aj] h h [strOf (lu 2)]from rfl) s8
  ·exact e0 (show _=aN [.aj] h h [strOf (lu 3)]from rfl) s8
  ·exact e0 (show _=aN [.aj] h h [strOf (lu 4)]from rfl) s8
  ·exact e0 (show _=aN [.aj] h h [strOf (lu 5)]from rfl) s8
  ·exact e0 (show _=aN [.aj] h h [strOf (lu 6)]from rfl) s8
theorem aeN(d:Int)(h:Z):aL 151 [J E d] h=y (J E (q' d),h):=by
 refine cu (F:=E7) (by kernel_rfl) 1 ?_
 rw[ad_]
 unfold Qx
 have bw:qT .int (J E 2) (J E 1) []=y [(J E 2,J E 1)]:=rfl
 have bD:qT .int (J E 3) (J E 8) [(J E 2,J E 1)]=y [(J E 2,J E 1),(J E 3,J E 8)]:=rfl
 have da:qT .int (J E 4) (J E 10) [(J E 2,J E 1),(J E 3,J E 8)]=y [(J E 2,J E 1),(J E 3,J E 8),(J E 4,J E 10)]:=rfl
 have fU:∀(df b:List (U×U)) (i v:U),qT .int i v df=y b->p6 .int (.map h.length) i v (h++[.map df .rw])=y (h++[.map b .rw]):=λdf b i v e=>by
  simp only[p6,en,ki,e,dw,p',rH]
 have ou:rX .int (J E 0) M (.map h.length) (J E d) (h++[.map [(J E 2,J E 1),(J E 3,J E 8),(J E 4,J E 10)] .rw])=y (J E (q' d)):=by
  unfold rX wo q'
  simp only[en,ki,dy,uh,ug,a_]
  by_cases h2:d=2
  ·subst h2;rfl
  ·have aF:(d==2)=M:=by simp [h2]
   by_cases ak:d=3
   ·subst ak;rfl
   ·have c:(d==3)=M:=by simp [ak]
    by_cases aJ:d=4
    ·subst aJ;rfl
    ·have g:(d==4)=M:=by simp [aJ]
     simp [aF,c,g,h2,ak,aJ]
 simp only[nO,fU _ _ _ _ bw,fU _ _ _ _ bD,fU _ _ _ _ da,b8,ou,qc]
end Go.aM.X
namespace Go.aM.X
open Go.bF Go.aM
def s9:List U:=[.str ⟨#[]⟩,J E 0,J E 0,J E 0,J E 0,J E 0,.bool M,.bool M,.bool M,J E 0,J E 0,J E 0,.bool M,.bool M,.bool M,.bool M,J E 0,.bool M,J E 0,.bool M,.bool M,J E 0,.bool M,.bool M,.bool M,.bool M,.bool M,.bool M,.bool M]
def JQ:List U:=[.str ⟨#[102,111,117,114]⟩,J E 4,J E 32,J E 64,J E 49,J E 84,.bool M,.bool M,.bool M,J E 1,J E 453,J E 3424,.bool M,.bool M,.bool M,.bool M,J E 5,.bool V,J E 1,.bool V,.bool M,J E 1,.bool V,.bool M,.bool M,.bool V,.bool M,.bool M,.bool M]
def JR:List U:=[.str ⟨#[115,99,114,101,97,109]⟩,J E 16,J E 32,J E 64,J E 13,J E 108,.bool M,.bool V,.bool M,J E 1,J E 64,J E 32767,.bool M,.bool M,.bool M,.bool M,J E 5,.bool M,J E 0,.bool M,.bool M,J E 0,.bool M,.bool M,.bool M,.bool M,.bool M,.bool M,.bool M]
def JS:List U:=[.str ⟨#[102,97,115,116]⟩,J E 16,J E 32,J E 0,J E 1,J E 96,.bool V,.bool V,.bool V,J E 0,J E 32,J E 65535,.bool V,.bool M,.bool M,.bool M,J E 6,.bool V,J E 0,.bool V,.bool V,J E 1,.bool M,.bool V,.bool V,.bool V,.bool V,.bool V,.bool M]
def JT:List U:=[.str ⟨#[105,109,112,117,108,115,101]⟩,J E 16,J E 32,J E 0,J E 1,J E 120,.bool V,.bool V,.bool V,J E 0,J E 16,J E 65535,.bool M,.bool M,.bool M,.bool V,J E 6,.bool M,J E 0,.bool V,.bool M,J E 2,.bool M,.bool V,.bool M,.bool M,.bool M,.bool V,.bool M]
def JU:List U:=[.str ⟨#[99,111,109,112,111,115,101]⟩,J E 8,J E 32,J E 64,J E 13,J E 72,.bool M,.bool M,.bool M,J E 2,J E 0,J E 0,.bool M,.bool V,.bool M,.bool M,J E 5,.bool M,J E 2,.bool M,.bool M,J E 0,.bool M,.bool M,.bool M,.bool M,.bool M,.bool M,.bool V]
def JV:List U:=[.str ⟨#[99,104,105,112]⟩,J E 4,J E 32,J E 0,J E 13,J E 108,.bool V,.bool M,.bool M,J E 1,J E 16,J E 65535,.bool M,.bool M,.bool V,.bool M,J E 5,.bool V,J E 2,.bool M,.bool M,J E 0,.bool M,.bool V,.bool M,.bool M,.bool M,.bool V,.bool M]
end Go.aM.X
namespace Go.aM.X
open Go.bF Go.aM
attribute [local congr] mZ m0 m5 m6
def FN:U->Bool
 |.int _ _=>V
 |.bool _=>V
 |.str _=>V
 |_=>M
theorem aeO{n:Nat}:∀{v:U},FN v=V->bM n v
 |.int _ _,_=>zd _ _ _
 |.bool _,_=>Zb _ _
 |.str _,_=>Zc _ _
theorem Q6{l:List U}(h:l.all FN=V)(n:Nat):bM n (.agg l):=by
 simp only[bM]
 exact λx ae=>aeO (List.all_eq_true.1 h x ae)
def wX:List U:=s9++JQ++JR++JS++JT++JU++JV
def dm(d:Int):List U:=if d=1 then JQ else if d=2 then JR else if d=3 then JS else if d=4 then JT else if d=5 then JU else if d=6 then JV else s9
theorem Q7{d:Int}(h:b9 d 1 6=M):dm d=s9:=by
 unfold b9 at h
 simp only[qG,iA]at h
 unfold dm
 rw[aW (by omega),aW (by omega),aW (by omega),aW (by omega),aW (by omega),aW (by omega)]
theorem m7(d:Int):(dm d).length=29:=by unfold dm;repeat' split
                                       all_goals rfl
theorem s_(d:Int):(dm d).all dt=V:=by unfold dm;repeat' split
                                      all_goals rfl
theorem aeP(d:Int):(dm d).all FN=V:=by unfold dm;repeat' split
                                       all_goals rfl
theorem r7{h:Z}{n:Nat}{cs vs:List U}{t:a1}(h1:vs.length=n)(h2:cs.length=n)(av:0<n)(ay:cs.all dt=V):bf n (.ptr h.length 0) (.agg cs) (h++[.box vs t .rw])=y (h++[.box cs t .rw]):=by
 rw[Y0 (t:=t) (by rw[en];rfl) h1 h2 av ay,p']
 rfl
theorem wY{h:Z}{n:Nat}{vs:List U}{t:a1}(h1:vs.length=n):ab V n (.ptr h.length 0) (h++[.box vs t .rw])=y (.agg vs):=by
 rw[lU,qa (vs:=vs) (t:=t) (md:=.rw) (by rw[en];rfl),dy,gh h1]
theorem Q8(h:Z):aL 102 [] h=y (.agg wX,h):=by
 refine cu (F:=D') (by kernel_rfl) 1 ?_
 rw[adw]
 have key:PV aL 1 h=(bf 203 (.ptr h.length 0) (.agg wX) (h++[.box Cg 131 .rw])).bind λb=>(ab V 203 (.ptr h.length 0) b).bind λv10=>aN [.aj] h b [v10]:=by kernel_rfl
 have ax:wX.length=203:=by kernel_rfl
 have bu:Cg.length=203:=by kernel_rfl
 have ah:wX.all FN=V:=by kernel_rfl
 have h1:wX.all dt=V:=by kernel_rfl
 rw[key,r7 bu ax (by decide) h1,b8,wY ax,b8,zb (Q6 ah)]
theorem JW{h l:Z}{d e:Int}:aN [.aj,.aj] h (h++l) [.agg (dm d),J E e]=y (.tuple [.agg (dm d),J E e],h):=by
 simp only[mC,iV,jK,kN,dy,dw,akm]
 rw[qb _ (λx ae=>by simp only[hF,ik,h6]at ae;rcases ae with rfl|rfl<;>first|exact zd _ _ _|exact Q6 (aeP d) _)]
def ic(d:Int):Int:=if b9 d 1 6 then 0 else 6
theorem Q9{d:Int}(h:b9 d 1 6=V):rT 7 V 29 (.agg wX) (J E d)=y (.agg (dm d)):=by
 rcases JP h with rfl|rfl|rfl|rfl|rfl|rfl<;>kernel_rfl
theorem uA(d:Int)(h:Z):aL 53 [J E d] h=y (.tuple [.agg (dm d),J E (ic d)],h):=by
 refine cu (F:=Dn) (by kernel_rfl) 1 ?_
 rw[abn]
 unfold Pc ic
 have bu:e8.length=29:=rfl
 simp only[nO,JN,b8,mB,↓aI,eU]
 cases hd:b9 d 1 6 with
 |false=>
  simp only[gN,a_,bn,bh]
  have e:=Q7 hd
  have g:=JW (h:=h) (l:=[.box (dm d) 83 .rw]) (d:=d) (e:=6)
  rw[e]at g|-
  have f0:=r7 (h:=h) (n:=29) (cs:=s9) (vs:=e8) (t:=83) bu bu (by decide) rfl
  have f1:=wY (h:=h) (n:=29) (vs:=s9) (t:=83) rfl
  refine e0 (show _=(bf 29 (.ptr h.length 0) (.agg s9) (h++[.box e8 83 .rw])).bind λb=>(ab V 29 (.ptr h.length 0) b).bind λc=>aN [.aj,.aj] h b [c,J E 6]from rfl) ?_
  rw[f0,b8,f1,b8,g]
 |true=>
  simp only[fg,bn,bh,a_,Q8,b8,Q9 hd]
  have f0:=r7 (h:=h) (n:=29) (cs:=dm d) (vs:=e8) (t:=83) bu (m7 d) (by decide) (s_ d)
  have f1:=wY (h:=h) (n:=29) (vs:=dm d) (t:=83) (m7 d)
  refine e0 (show _=(bf 29 (.ptr h.length 0) (.agg (dm d)) (h++[.box e8 83 .rw])).bind λb=>(ab V 29 (.ptr h.length 0) b).bind λc=>aN [.aj,.aj] h b [c,J E 0]from rfl) ?_
  rw[f0,b8,f1,b8,JW]
end Go.aM.X
namespace Go.aM.X
open Go.bF Go.aM
attribute [local congr] mZ m0 m5 m6 oE
theorem uG(d e:Int)(h:Z)(t:a1):((bf 29 (.ptr h.length 0) (.agg (dm d)) (h++[.box e8 t .rw])).bind λb=>(ab V 29 (.ptr h.length 0) b).bind λc=>aN [.aj,.aj] h b [c,J E e])=y (.tuple [.agg (dm d),J E e],h):=by
 have bu:e8.length=29:=rfl
 rw[r7 bu (m7 d) (by decide) (s_ d),b8,wY (m7 d),b8,JW]
theorem zE(d:Int)(h:Z):aL 56 [J E d] h=y (.tuple [.agg (dm d),J E (ic d)],h):=by
 refine cu (F:=Dr) (by kernel_rfl) 1 ?_
 rw[abq]
 cases hd:b9 d 1 6 with
 |true=>
  rcases JP hd with rfl|rfl|rfl|rfl|rfl|rfl
  ·exact e0 (show _=(bf 29 (.ptr h.length 0) (.agg (dm 1)) (h++[.box e8 83 .rw])).bind λb=>(ab V 29 (.ptr h.length 0) b).bind λc=>aN [.aj,.aj] h b [c,J E (ic 1)]by kernel_rfl) (uG 1 (ic 1) h 83)
  ·exact e0 (show _=(bf 29 (.ptr h.length 0) (.agg (dm 2)) (h++[.box e8 83 .rw])).bind λb=>(ab V 29 (.ptr h.length 0) b).bind λc=>aN [.aj,.aj] h b [c,J E (ic 2)]by kernel_rfl) (uG 2 (ic 2) h 83)
  ·exact e0 (show _=(bf 29 (.ptr h.length 0) (.agg (dm 3)) (h++[.box e8 83 .rw])).bind λb=>(ab V 29 (.ptr h.length 0) b).bind λc=>aN [.aj,.aj] h b [c,J E (ic 3)]by kernel_rfl) (uG 3 (ic 3) h 83)
  ·exact e0 (show _=(bf 29 (.ptr h.length 0) (.agg (dm 4)) (h++[.box e8 83 .rw])).bind λb=>(ab V 29 (.ptr h.length 0) b).bind λc=>aN [.aj,.aj] h b [c,J E (ic 4)]by kernel_rfl) (uG 4 (ic 4) h 83)
  ·exact e0 (show _=(bf 29 (.ptr h.length 0) (.agg (dm 5)) (h++[.box e8 83 .rw])).bind λb=>(ab V 29 (.ptr h.length 0) b).bind λc=>aN [.aj,.aj] h b [c,J E (ic 5)]by kernel_rfl) (uG 5 (ic 5) h 83)
  ·exact e0 (show _=(bf 29 (.ptr h.length 0) (.agg (dm 6)) (h++[.box e8 83 .rw])).bind λb=>(ab V 29 (.ptr h.length 0) b).bind λc=>aN [.aj,.aj] h b [c,J E (ic 6)]by kernel_rfl) (uG 6 (ic 6) h 83)
 |false=>
  have e:=hd
  unfold b9 at e
  simp only[qG,iA]at e
  have aG:(d==1)=M:=by rw[jV];omega
  have aF:(d==2)=M:=by rw[jV];omega
  have g:(d==3)=M:=by rw[jV];omega
  have i:(d==4)=M:=by rw[jV];omega
  have j:(d==5)=M:=by rw[jV];omega
  have k:(d==6)=M:=by rw[jV];omega
  have ad:ic d=6:=by unfold ic;rw[hd];rfl
  have br:=uG d 6 h 83
  rw[Q7 hd]at br|-
  rw[ad]
  unfold Pf
  simp only[nO,gf,b8,↓aI,eU,aG,aF,g,i,j,k,bn,bh]
  exact e0 (show _=(bf 29 (.ptr h.length 0) (.agg s9) (h++[.box e8 83 .rw])).bind λb=>(ab V 29 (.ptr h.length 0) b).bind λc=>aN [.aj,.aj] h b [c,J E 6]from rfl) br
def zF(d:Int):Int:=if d=1 then 49 else if d=2 then 13 else if d=3 then 1 else if d=4 then 1 else if d=5 then 13 else if d=6 then 13 else 0
def zG(d:Int):Int:=if d=1 then 84 else if d=2 then 108 else if d=3 then 96 else if d=4 then 120 else if d=5 then 72 else if d=6 then 108 else 0
theorem Q_(d:Int):(dm d)[4]?=y (J E (zF d)):=by
 unfold dm zF
 repeat' split
 all_goals rfl
theorem Q'(d:Int):(dm d)[5]?=y (J E (zG d)):=by
 unfold dm zG
 repeat' split
 all_goals rfl
def uH(d x:Int):Bool:=if x=0 then V else if x=255 then d==3||d==4||d==6 else if x=254 then d==2||d==4 else if x=253 then d==4 else b9 x (zF d) (zG d)
theorem aeQ{d:Int}(hd:b9 d 1 6=V)(x:Int)(h:Z):aL 150 [J E d,J E x] h=y (.bool (uH d x),h):=by
 refine cu (F:=E6) (by kernel_rfl) 1 ?_
 rw[ad9]
 unfold Qw uH b9
 have bu:e8.length=29:=rfl
 have f0:=r7 (h:=h) (n:=29) (cs:=dm d) (vs:=e8) (t:=83) bu (m7 d) (by decide) (s_ d)
 have b:ab M 1 (.ptr h.length 4) (h++[.box (dm d) 83 .rw])=y (J E (zF d)):=fb (Q_ d)
 have c:ab M 1 (.ptr h.length 5) (h++[.box (dm d) 83 .rw])=y (J E (zG d)):=fb (Q' d)
 simp only[Q8,Q9 hd,nO,f0,b8,↓aI,gf,eU,i',dJ]
 by_cases av:x=0
 ·simp only[av,a_]
 ·by_cases h1:x=255
  ·simp only[av,h1,a_,bh,gU,pn,b8,gf,dJ,show((255:Int)=0)=False from dI (by decide)]
  ·by_cases h2:x=254
   ·simp only[av,h1,h2,a_,bh,gU,pn,b8,gf,dJ,↓aI,eU,i',show((254:Int)=0)=False from dI (by decide),show((254:Int)=255)=False from dI (by decide)]
   ·by_cases ak:x=253
    ·simp only[av,h1,h2,ak,a_,bh,gU,pn,b8,gf,dJ,↓aI,eU,i',show((253:Int)=0)=False from dI (by decide),show((253:Int)=255)=False from dI (by decide),show((253:Int)=254)=False from dI (by decide)]
    ·simp only[av,h1,h2,ak,a_,bh,fF,pn,b8,gf,oB,jg,dJ,↓aI,eU,i',fT,b,c,ge_iff_le]
theorem Jy(d x:Int)(h:Z):aL 191 [J E d,J E x] h=y (.bool (uH d x),h):=by
 refine cu (F:=FE) (by kernel_rfl) 1 ?_
 rw[aev]
 unfold QU uH b9
 have bu:e8.length=29:=rfl
 have f0:=r7 (h:=h) (n:=29) (cs:=dm d) (vs:=e8) (t:=83) bu (m7 d) (by decide) (s_ d)
 have b:ab M 1 (.ptr h.length 4) (h++[.box (dm d) 83 .rw])=y (J E (zF d)):=fb (Q_ d)
 have c:ab M 1 (.ptr h.length 5) (h++[.box (dm d) 83 .rw])=y (J E (zG d)):=fb (Q' d)
 simp only[zE,oF,oG,nO,f0,b8,↓aI,gf,eU,i',dJ]
 by_cases av:x=0
 ·simp only[av,a_]
 ·by_cases h1:x=255
  ·simp only[av,h1,a_,bh,gU,pn,b8,gf,dJ,show((255:Int)=0)=False from dI (by decide)]
  ·by_cases h2:x=254
   ·simp only[av,h1,h2,a_,bh,gU,pn,b8,gf,dJ,↓aI,eU,i',show((254:Int)=0)=False from dI (by decide),show((254:Int)=255)=False from dI (by decide)]
   ·by_cases ak:x=253
    ·simp only[av,h1,h2,ak,a_,bh,gU,pn,b8,gf,dJ,↓aI,eU,i',show((253:Int)=0)=False from dI (by decide),show((253:Int)=255)=False from dI (by decide),show((253:Int)=254)=False from dI (by decide)]
    ·simp only[av,h1,h2,ak,a_,bh,fF,pn,b8,gf,oB,jg,dJ,↓aI,eU,i',fT,b,c,ge_iff_le]
end Go.aM.X
namespace Go.aM.X
open Go.bF Go.aM
attribute [local congr] mZ m0 m5 m6 oE Zm
def pr(d:Int)(c:Cell):Bool:=b9 d 1 6&&(k7 c&&(uH d c.note&&(decide (c.po<=q' d)&&(c.kO==0||(lu d).contains (uF c.kO).toUInt8))))
theorem Ra(l:List UInt8):hl ⟨l.toArray⟩=l:=by simp [hl]
theorem aeR(l:List UInt8)(c:Int)(h:Z):aL 152 [strOf l,.int .u8 c] h=y (.int .i64 (rI l c.toNat.toUInt8),h):=by
 have:=aeI ⟨l.toArray⟩ c h
 rwa [Ra]at this
theorem Rb{c:Cell}(h:k7 c=V):0<=c.kO/\c.kO<=36:=by
 unfold k7 b9 at h
 simp only[dn,eJ]at h
 exact h.2.1.1
theorem Jo(d:Int)(c:Cell)(h:Z):aL 118 [J E d,.agg c.cs] h=y (.bool (pr d c),h):=by
 refine cu (F:=Ek) (by kernel_rfl) 1 ?_
 rw[adF]
 unfold P4 pr
 have af:ab V 6 (.ptr h.length 0) (h++[.box c.cs 41 .rw])=y (.agg c.cs):=wY rfl
 simp only[nO,q1,JN,b8,mB,↓mD,↓aI,p9]
 cases hd:b9 d 1 6 with
 |false=>simp only[gN,x8,bh,eU,a_,jv,dJ]
 |true=>
  simp only[fg,a_,af,Cj,b8,mB,hq]
  cases aa:k7 c with
  |false=>simp only[gN,x8,bh,eU,a_,jv,dJ,p9,↓mD,↓aI]
  |true=>
   have b:=Rb aa
   simp only[fg,a_,fT,FL,FM,wW,aeQ hd,b8,mB,p9,↓mD,↓aI,hq]
   cases aA:uH d c.note with
   |false=>simp only[gN,x8,bh,eU,a_,jv,dJ,p9,↓mD,↓aI]
   |true=>
    simp only[fg,a_,fT,FL,FM,wW,aeN,b8,mB,p9,↓mD,↓aI,r2,iD,hq,eU,eJ]
    by_cases ay:c.po>q' d
    ·have:decide (c.po<=q' d)=M:=decide_eq_false (by omega)
     simp only[ay,a_,this,jv,dJ]
    ·have g:decide (c.po<=q' d)=V:=nv (by omega)
     simp only[ay,bh,g,hq,fT,wW,b8,gf,↓mD,↓aI,eU]
     by_cases he:c.kO=0
     ·have:(c.kO==0)=V:=by rw[i'];exact he
      simp only[this,a_,vl,dJ]
     ·have i:(c.kO==0)=M:=by rw[jV];exact he
      have j:=λH=>aeK (e:=c.kO) ⟨by omega,b.2⟩ H
      simp only[i,bn,bh,sy,aeM,b8,r2,fT,wW,j,aeR,oB,mc,(Q5 _ _).1,dJ]
theorem aeS(d:Int):(⟨(lu d).toArray⟩:ByteArray).size<=26:=by
 show(lu d).toArray.size<=26
 rw[List.size_toArray]
 unfold lu
 repeat' split
 all_goals decide
theorem FO{h l:Z}{vs:List U}{t:a1}{k:Nat}{v:U}(ay:vs[k]?=y v):ab M 1 (.ptr h.length k) ((h++[.box vs t .rw])++l)=y v:=by
 rw[eb,lU,qa (vs:=vs) (t:=t) (md:=.rw) (by rw[en];rfl),dy,IZ,ay]
theorem aeT{h l:Z}{n:Nat}{vs:List U}{t:a1}(h1:vs.length=n):ab V n (.ptr h.length 0) ((h++[.box vs t .rw])++l)=y (.agg vs):=by
 rw[eb,lU,qa (vs:=vs) (t:=t) (md:=.rw) (by rw[en];rfl),dy,gh h1]
theorem qk{h l m:Z}{b:Bool}:aN [.aj] h ((h++l)++m) [.bool b]=y (.bool b,h):=by rw[eb];exact dJ
theorem aeU(d:Int)(c:Nat)(aa:c<256)(h:Z):aL 193 [strOf (lu d),.int .u8 (c:Int)] h=y (.bool ((lu d).contains c.toUInt8),h):=by
 have:=aeL (s:=⟨(lu d).toArray⟩) (by have:=aeS d;omega) c aa h
 rwa [Ra]at this
theorem aeV{e:Int}(h:1<=e/\e<=36):uF e<256:=by unfold uF;split<;>omega
theorem Rc(d:Int)(c:Cell)(h:Z):aL 174 [J E d,.agg c.cs] h=y (.bool (pr d c),h):=by
 refine cu (F:=Fz) (by kernel_rfl) 1 ?_
 rw[aeq]
 unfold QP pr
 have bu:e8.length=29:=rfl
 have f0:=r7 (h:=h++[.box c.cs 41 .rw]) (n:=29) (cs:=dm d) (vs:=e8) (t:=83) bu (m7 d) (by decide) (s_ d)
 have g:ab M 1 (.ptr h.length 0) ((h++[.box c.cs 41 .rw])++[.box (dm d) 83 .rw])=y (J E c.note):=FO rfl
 have cN:ab M 1 (.ptr h.length 2) ((h++[.box c.cs 41 .rw])++[.box (dm d) 83 .rw])=y (J E c.po):=FO rfl
 have fO:ab M 1 (.ptr h.length 4) ((h++[.box c.cs 41 .rw])++[.box (dm d) 83 .rw])=y (J E c.kO):=FO rfl
 have i:ab V 6 (.ptr h.length 0) ((h++[.box c.cs 41 .rw])++[.box (dm d) 83 .rw])=y (.agg c.cs):=aeT rfl
 simp only[nO,q1,zE,oF,oG,f0,b8,hc,↓mD,↓aI,p9]
 unfold ic
 cases hd:b9 d 1 6 with
 |false=>
  have:((if M=V then(0:Int)else 6) !=0)=V:=rfl
  simp only[this,x8,bh,eU,a_,jv,qk]
 |true=>
  have z0:((0:Int) !=0)=M:=rfl
  simp only[a_,z0,i,JO,b8,mB,hq]
  cases aa:k7 c with
  |false=>simp only[gN,eU,a_,jv,qk]
  |true=>
   have b:=Rb aa
   simp only[fg,bn,bh,eU,fT,g,Jy,b8,↓mD,↓aI,sZ,hq]
   cases aA:uH d c.note with
   |false=>simp only[bn,bh,jv,qk]
   |true=>
    simp only[a_,fT,cN,aeE,b8,r2,jg,sZ,hq]
    cases ay:decide (c.po<=q' d)with
    |false=>simp only[bn,bh,jv,qk]
    |true=>
     simp only[a_,fT,fO,b8,gf,↓mD,p9,hq]
     by_cases he:c.kO=0
     ·have:(c.kO==0)=V:=by rw[i'];exact he
      simp only[this,x8,bh,vl,qk]
     ·have j:(c.kO==0)=M:=by rw[jV];exact he
      have k:=λH=>aeJ (e:=c.kO) ⟨by omega,b.2⟩ H
      have l:=aeV (e:=c.kO) ⟨by omega,b.2⟩
      simp only[j,a_,sy,aeF,b8,r2,fT,fO,k,aeU d _ l,qk]
end Go.aM.X
namespace Go.aM.X
open Go.bF Go.aM
attribute [local congr] mZ m0 m5 m6 oE
theorem wZ(b:UInt8):(decide ((b.toNat:Int)<32)||decide ((b.toNat:Int)>126))=!pq b:=by
 unfold pq b9
 rw[pP]
 simp only[mM,eJ,mf,qG,iA]
 omega
theorem aeW{s:ByteArray}(aB:s.size<9223372036854775808)(h:Z):aL 157 [.str s] h=y (.bool (k8 s),h):=by
 have j:=zD s
 refine cu (F:=Fb) (by kernel_rfl) (s.size+1) ?_
 rw[aee]
 unfold QC k8
 simp only[oD,b8,↓aI]
 obtain⟨k,h1,h2,ak⟩:=s7 pq (hl s)
 refine oC (λi=>[J E (i:Int)]) k (by omega) rfl (λi ai K=>?_) λK=>?_
 ·obtain⟨b,af⟩:=cR (show i<(hl s).length by omega)
  have c:((i:Int)<(s.size:Int))=True:=kk (by omega)
  have e:pq b=V:=h2 i b ai af
  unfold Fc
  simp only[eT,yX,yY,BD,er,iD,c,cr,b8,↓aI,eU,a_,q_ af,gU,wZ,e,fg,bn,bh,kM,cO (show i<9223372036854775807 by omega),jJ]
 ·rcases ak with⟨rfl,aJ⟩|⟨b,ak,aJ,aO⟩
  ·have c:(((hl s).length:Int)<(s.size:Int))=False:=dI (by omega)
   have fm:decide ((s.size:Int)<=22)=decide (s.size<=22):=by rw[decide_eq_decide];omega
   unfold Fc
   simp only[eT,er,c,c4,b8,↓aI,eU,bn,bh,jg,aJ,hq,fm,dZ]
  ·have ad:k<(hl s).length:=by
    obtain⟨g,_⟩:=List.getElem?_eq_some_iff.1 ak
    exact g
   have c:((k:Int)<(s.size:Int))=True:=kk (by omega)
   unfold Fc
   simp only[eT,er,iD,c,cr,b8,↓aI,eU,a_,q_ ak,gU,wZ,aJ,gN,aO,jv,dZ]
theorem JX{s:ByteArray}(aB:s.size<9223372036854775808)(h:Z):aL 137 [.str s] h=y (.bool (k8 s),h):=by
 have l:=zD s
 refine cu (F:=EM) (by kernel_rfl) (s.size+1) ?_
 rw[adY]
 unfold Ql k8
 simp only[oD,b8,↓aI,iD,eU,eJ,dZ]
 by_cases e:(s.size:Int)>22
 ·have:decide (s.size<=22)=M:=decide_eq_false (by omega)
  rw[aP e,this,Bool.and_false]
 ·have hd:decide (s.size<=22)=V:=nv (by omega)
  rw[aW e,hd,jT]
  obtain⟨k,h1,h2,ak⟩:=s7 pq (hl s)
  refine oC (λi=>[J E (i:Int)]) k (by omega) rfl (λi ai K=>?_) λK=>?_
  ·obtain⟨b,af⟩:=cR (show i<(hl s).length by omega)
   have c:((i:Int)<(s.size:Int))=True:=kk (by omega)
   have g:pq b=V:=h2 i b ai af
   unfold EN
   simp only[eT,yX,yY,BD,oD,er,iD,c,cr,b8,↓aI,eU,a_,q_ af,gU,wZ,g,fg,bn,bh,kM,cO (show i<9223372036854775807 by omega),jJ]
  ·rcases ak with⟨rfl,aJ⟩|⟨b,ak,aJ,aO⟩
   ·have c:(((hl s).length:Int)<(s.size:Int))=False:=dI (by omega)
    unfold EN
    simp only[eT,oD,er,c,c4,b8,↓aI,eU,bn,bh,aJ,dZ]
   ·have ad:k<(hl s).length:=by
     obtain⟨j,_⟩:=List.getElem?_eq_some_iff.1 ak
     exact j
    have c:((k:Int)<(s.size:Int))=True:=kk (by omega)
    unfold EN
    simp only[eT,oD,er,iD,c,cr,b8,↓aI,eU,a_,q_ ak,gU,wZ,aJ,gN,aO,dZ]
def lv{α:Type}(p:α->Bool):List α->Int
 |[]=>-1
 |a::l=>if p a then 0 else if lv p l=-1 then -1 else lv p l+1
theorem zH{α:Type}(p:α->Bool)(l:List α):∃k,k<=l.length/\(∀i a,i<k->l[i]?=y a->p a=M)/\(k=l.length/\lv p l=-1/\l.any p=M\/∃a,l[k]?=y a/\p a=V/\lv p l=(k:Int)/\l.any p=V):=by
 induction l with
 |nil=>exact⟨0,cj _,λi a h=>by omega,.inl ⟨rfl,rfl,rfl⟩⟩
 |cons x l a6=>
  cases ae:p x with
  |true=>exact⟨0,hO _,λi a h=>by omega,.inr ⟨x,rfl,ae,by simp [lv,ae],by simp [ae]⟩⟩
  |false=>
   obtain⟨k,h1,h2,ak⟩:=a6
   refine⟨k+1,by simp;omega,λi a ai ha=>?_,?_⟩
   ·cases i with
    |zero=>cases ha;exact ae
    |succ i=>exact h2 i a (by omega) ha
   ·rcases ak with⟨ak,aJ,aO⟩|⟨a,ak,aJ,aO,bt⟩
    ·exact .inl ⟨by simp [ak],by simp [lv,ae,aJ],by simp [ae,aO]⟩
    ·refine .inr ⟨a,ak,aJ,?_,by simp [bt]⟩
     have:¬(lv p l=-1):=by omega
     simp only[lv,ae,this,bn,bh]
     omega
theorem Re{α:Type}(p:α->Bool)(l:List α):decide (lv p l>=0)=l.any p:=by
 obtain⟨k,_,_,ak⟩:=zH p l
 rcases ak with⟨_,aJ,aO⟩|⟨_,_,_,aO,bt⟩
 ·rw[aJ,aO];rfl
 ·rw[aO,bt];exact nv (by omega)
def ie(l:List Cell):U:=.bE 6 (l.map Cell.cs)
theorem lZ(l:List Cell):bB M (ie l)=y (J E l.length):=s0
theorem ps{l:List Cell}{i:Nat}{c:Cell}(k:IntKind)(h:l[i]?=y c):bY 6 (ie l) (.int k i)=y (.fz c.cs 0):=r1 k h
theorem yZ(c:Cell)(h:Z):ab V 6 (.fz c.cs 0) h=y (.agg c.cs):=by rw[za];exact gh rfl
theorem aeX{f:U}{p:Cell->Bool}{l:List Cell}{h:Z}(hm:l.length<9223372036854775808)(aE:∀c,gz aL f [.agg c.cs] h=y (.bool (p c),h)):aL 149 [ie l,f] h=y (J E (lv p l),h):=by
 refine cu (F:=E4) (by kernel_rfl) (l.length+1) ?_
 rw[ad8]
 unfold Qv
 simp only[lZ,b8,↓aI]
 obtain⟨k,h1,h2,ak⟩:=zH p l
 refine oC (λi=>[J E (i:Int)]) k (by omega) rfl (λi ai K=>?_) λK=>?_
 ·obtain⟨c,aa⟩:=cR (show i<l.length by omega)
  have ah:=h2 i c ai aa
  unfold E5
  simp only[eT,er,cQ (show i<l.length by omega),cr,b8,↓aI,eU,a_,ps _ aa,yZ,aE,ah,bn,bh,kM,cO (show i<9223372036854775807 by omega),jJ]
 ·rcases ak with⟨rfl,aJ,aO⟩|⟨c,ak,aJ,aO,bt⟩
  ·unfold E5
   simp only[eT,er,gl,c4,b8,↓aI,eU,bn,bh,aJ,pk]
  ·have ad:k<l.length:=by
    obtain⟨b,_⟩:=List.getElem?_eq_some_iff.1 ak
    exact b
   unfold E5
   simp only[eT,er,cQ ad,cr,b8,↓aI,eU,a_,ps _ ak,yZ,aE,aJ,aO,pk]
theorem JY{f:U}{p:Cell->Bool}{l:List Cell}{h:Z}(hm:l.length<9223372036854775808)(aE:∀c,gz aL f [.agg c.cs] h=y (.bool (p c),h)):aL 116 [ie l,f] h=y (.bool (l.any p),h):=by
 refine cu (F:=Ei) (by kernel_rfl) 1 ?_
 rw[adD]
 unfold P2
 simp only[aeX hm aE,b8,oB,Re,dZ]
theorem aeY(c:Cell)(h:Z):aL 147 [.agg c.cs] h=y (.bool (!k7 c),h):=by
 refine cu (F:=E2) (by kernel_rfl) 1 ?_
 rw[ad6]
 unfold Qt
 have af:ab V 6 (.ptr h.length 0) (h++[.box c.cs 41 .rw])=y (.agg c.cs):=wY rfl
 simp only[nO,q1,af,Cj,b8,mB,dJ]
theorem aeZ(x:Int)(h:Z):aL 189 [J E x] h=y (.bool (b9 x 1 16),h):=by
 refine cu (F:=FC) (by kernel_rfl) 1 ?_
 rw[aet]
 unfold QS b9
 simp only[jg,b8,fF,dZ]
def FP(r:Int)(l:List Cell):U:=.agg [J E r,ie l]
def nS(r:Int)(l:List Cell)(ch:Int):Bool:=b9 ch 1 16&&b9 r 1 64&&((l.length:Int)==IntKind.i64.wrap (r*ch))&&l.all k7
theorem ae0(l:List Cell):(!l.any λc=>!k7 c)=l.all k7:=by rw[List.not_any_eq_all_not];simp
theorem ae1(r:Int){l:List Cell}(hm:l.length<9223372036854775808)(ch:Int)(h:Z):aL 115 [FP r l,J E ch] h=y (.bool (nS r l ch),h):=by
 refine cu (F:=Eh) (by kernel_rfl) 1 ?_
 rw[adC]
 unfold P1 nS FP
 have fa:ab M 1 (.ptr h.length 0) (h++[.box [J E r,ie l] 39 .rw])=y (J E r):=fb rfl
 have b:ab M 1 (.ptr h.length 1) (h++[.box [J E r,ie l] 39 .rw])=y (ie l):=fb rfl
 have e:=JY (f:=.func 147 [] []) (p:=λc=>!k7 c) (h:=h++[.box [J E r,ie l] 39 .rw]) hm λc=>by rw[k5 aL 147];exact aeY c _
 simp only[nO,q1,wL,FK,fT,fa,b,lZ,IW,gf,e,mB,ae0,b8,fF,dJ]
theorem ae2(r:Int){l:List Cell}(hm:l.length<9223372036854775808)(ch:Int)(h:Z):aL 173 [FP r l,J E ch] h=y (.bool (nS r l ch),h):=by
 refine cu (F:=Fx) (by kernel_rfl) (l.length+1) ?_
 rw[aep]
 unfold QO nS FP
 have fa:ab M 1 (.ptr h.length 0) (h++[.box [J E r,ie l] 39 .rw])=y (J E r):=fb rfl
 have b:ab M 1 (.ptr h.length 1) (h++[.box [J E r,ie l] 39 .rw])=y (ie l):=fb rfl
 simp only[nO,q1,aeZ,fT,fa,b,lZ,IW,hc,er,iD,mB,b8,gU,eU,↓aI]
 have e:((((!b9 ch 1 16)||decide (r<1))||decide (r>64))||((l.length:Int) !=IntKind.i64.wrap (r*ch)))=!(b9 ch 1 16&&b9 r 1 64&&((l.length:Int)==IntKind.i64.wrap (r*ch))):=by
  unfold b9
  rw[pP]
  simp only[mM,mf,qG,eJ,iA,kl,jV,ne_eq]
  omega
 rw[e]
 cases aa:(b9 ch 1 16&&b9 r 1 64&&((l.length:Int)==IntKind.i64.wrap (r*ch)))with
 |false=>simp only[gN,a_,jv,dJ]
 |true=>
  simp only[fg,bn,bh,hq]
  obtain⟨k,h1,h2,ak⟩:=s7 k7 l
  refine oC (λi=>[J E (i:Int)]) k (by omega) rfl (λi ai K=>?_) λK=>?_
  ·obtain⟨c,aa⟩:=cR (show i<l.length by omega)
   have ah:=h2 i c ai aa
   unfold Fy
   simp only[eT,fT,b,lZ,er,cQ (show i<l.length by omega),cr,b8,↓aI,eU,a_,ps _ aa,yZ,JO,ah,mB,fg,bn,bh,kM,cO (show i<9223372036854775807 by omega),jJ]
  ·rcases ak with⟨rfl,aJ⟩|⟨c,ak,aJ,aO⟩
   ·unfold Fy
    simp only[eT,fT,b,lZ,er,gl,c4,b8,↓aI,eU,bn,bh,aJ,dJ]
   ·have ad:k<l.length:=by
     obtain⟨g,_⟩:=List.getElem?_eq_some_iff.1 ak
     exact g
    unfold Fy
    simp only[eT,fT,b,lZ,er,cQ ad,cr,b8,↓aI,eU,a_,ps _ ak,yZ,JO,aJ,mB,gN,aO,dJ]
def w1(k a b n:Int):Bool:=if k=0 then a==0&&b==0 else if k=1\/k=2 then decide (0<=a)&&decide (a<b)&&decide (b<=n)else M
theorem ae3(k a b n:Int)(h:Z):aL 156 [J E k,J E a,J E b,J E n] h=y (.bool (w1 k a b n),h):=by
 refine cu (F:=Fa) (by kernel_rfl) 1 ?_
 rw[aed]
 unfold QB w1
 by_cases av:k=0
 ·subst av
  simp only[gf,b8,↓aI,eU,pN,a_,fF,dZ]
 ·have c:(k==0)=M:=by rw[jV];exact av
  by_cases h1:k=1
  ·subst h1
   simp only[gf,jg,er,b8,↓aI,eU,c,av,pN,bn,bh,a_,true_or,eT,fF,dZ]
  ·have aG:(k==1)=M:=by rw[jV];exact h1
   by_cases h2:k=2
   ·subst h2
    simp only[gf,jg,er,b8,↓aI,eU,c,aG,av,h1,pN,bn,bh,a_,or_true,eT,fF,dZ]
   ·have aF:(k==2)=M:=by rw[jV];exact h2
    simp only[gf,b8,↓aI,eU,c,aG,aF,av,h1,h2,bn,bh,or_self,eT,dZ]
theorem ae4(k a b n:Int)(h:Z):aL 176 [J E k,J E a,J E b,J E n] h=y (.bool (w1 k a b n),h):=by
 refine cu (F:=FB) (by kernel_rfl) 1 ?_
 rw[aes]
 unfold QR w1
 by_cases av:k=0
 ·subst av
  simp only[gf,b8,↓aI,eU,pN,a_,fF,dZ]
 ·have c:(k==0)=M:=by rw[jV];exact av
  by_cases h1:k=1
  ·subst h1
   simp only[gf,jg,er,b8,↓aI,eU,c,av,pN,bn,bh,a_,true_or,eT,fF,dZ]
  ·have aG:(k==1)=M:=by rw[jV];exact h1
   by_cases h2:k=2
   ·subst h2
    simp only[gf,jg,er,b8,↓aI,eU,c,aG,av,h1,pN,bn,bh,a_,or_true,eT,fF,dZ]
   ·have aF:(k==2)=M:=by rw[jV];exact h2
    simp only[gf,b8,↓aI,eU,c,aG,aF,av,h1,h2,bn,bh,or_self,eT,dZ]
theorem Rf{h:Z}{a b:Int}:aN [.aj,.aj] h h [J E a,J E b]=y (.tuple [J E a,J E b],h):=by
 simp only[mC,iV,jK,kN,dy,dw,akm,jJ]
def oK(bits:Int):Int:=if bits=8 then 128 else 32768
theorem Jp{bits:Int}(af:bits=8\/bits=16)(h:Z):aL 155 [J E bits] h=y (.tuple [J E (-oK bits),J E (oK bits-1)],h):=by
 refine cu (F:=E') (by kernel_rfl) 1 ?_
 rw[aec]
 rcases af with rfl|rfl
 ·exact e0 (show _=aN [.aj,.aj] h h [J E (-oK 8),J E (oK 8-1)]by kernel_rfl) Rf
 ·exact e0 (show _=aN [.aj,.aj] h h [J E (-oK 16),J E (oK 16-1)]by kernel_rfl) Rf
def ra(x bits:Int):Bool:=decide (-oK bits<=x)&&decide (x<oK bits)
theorem Rg{bits:Int}(af:bits=8\/bits=16)(x:Int)(h:Z):aL 175 [J E x,J E bits] h=y (.bool (ra x bits),h):=by
 refine cu (F:=FA) (by kernel_rfl) 1 ?_
 rw[aer]
 unfold QQ ra
 have aG:ar .sub (J E bits) (J E 1)=y (J E (bits-1)):=by rcases af with rfl|rfl<;>rfl
 have aF:ar .shl (J E 1) (J E (bits-1))=y (J E (oK bits)):=by rcases af with rfl|rfl<;>rfl
 have b:dq .neg (J E (oK bits))=y (J E (-oK bits)):=by rcases af with rfl|rfl<;>rfl
 simp only[aG,aF,b,jg,er,b8,fF,dZ]
structure ey where
 name:ByteArray
 data:List Int
 (bits pt bq bm ks lo st jY uI uJ uK:Int)
def ey.cs(s:ey):List U:=[.str s.name,dz s.data,J E s.bits,J E s.pt,J E s.bq,J E s.bm,J E s.ks,J E s.lo,J E s.st,J E s.jY,J E s.uI,J E s.uJ,J E s.uK]
def rb(s:ey):Bool:=decide (1<=s.pt/\s.pt<=65535/\0<=s.bq/\s.bq<=64/\-1<=s.bm/\s.bm<=256/\-64<=s.ks/\s.ks<=63)
def nT(s:ey):Bool:=decide ((s.bits=8\/s.bits=16)/\s.data.length<=4096)
def w2(s:ey):Bool:=w1 s.lo s.st s.jY s.data.length&&w1 s.uI s.uJ s.uK s.data.length
def kP(s:ey):Bool:=k8 s.name&&nT s&&s.data.all (λx=>ra x s.bits)&&(rb s&&w2 s)
section
variable {h : Z} {s : ey} {t : a1}
theorem gb:ab M 1 (.ptr h.length 0) (h++[.box s.cs t .rw])=y (.str s.name):=fb rfl
theorem s':ab M 1 (.ptr h.length 1) (h++[.box s.cs t .rw])=y (dz s.data):=fb rfl
theorem w3:ab M 1 (.ptr h.length 2) (h++[.box s.cs t .rw])=y (J E s.bits):=fb rfl
theorem Rh:ab M 1 (.ptr h.length 3) (h++[.box s.cs t .rw])=y (J E s.pt):=fb rfl
theorem Ri:ab M 1 (.ptr h.length 4) (h++[.box s.cs t .rw])=y (J E s.bq):=fb rfl
theorem Rj:ab M 1 (.ptr h.length 5) (h++[.box s.cs t .rw])=y (J E s.bm):=fb rfl
theorem Rk:ab M 1 (.ptr h.length 6) (h++[.box s.cs t .rw])=y (J E s.ks):=fb rfl
theorem Rl:ab M 1 (.ptr h.length 7) (h++[.box s.cs t .rw])=y (J E s.lo):=fb rfl
theorem Rm:ab M 1 (.ptr h.length 8) (h++[.box s.cs t .rw])=y (J E s.st):=fb rfl
theorem Rn:ab M 1 (.ptr h.length 9) (h++[.box s.cs t .rw])=y (J E s.jY):=fb rfl
theorem Ro:ab M 1 (.ptr h.length 10) (h++[.box s.cs t .rw])=y (J E s.uI):=fb rfl
theorem Rp:ab M 1 (.ptr h.length 11) (h++[.box s.cs t .rw])=y (J E s.uJ):=fb rfl
theorem Rq:ab M 1 (.ptr h.length 12) (h++[.box s.cs t .rw])=y (J E s.uK):=fb rfl
end
theorem m8{R:Type}(v:U)(h:Z)(k:U->Z->Option R):bK v h k=k v h:=e0 (nO v h k) (iK _)
theorem r8{R:Type}(k:U->Z->Option R)(v:U)(h:Z):bc k (λj=>j v h)=k v h:=e0 (pn k v h) (iK _)
theorem gV(t:Bool){R:Type}(a b:Option R):bb (.bool t) a b=if t=V then a else b:=e0 (eU t a b) (iK _)
theorem uL(l:List U):cn (.agg l)=l:=e0 (q1 l) (iK _)
theorem r9(b:Bool):dq .not (.bool b)=y (.bool !b):=e0 (mB b) (iK _)
theorem Rr(s:ey)(aA:s.name.size<9223372036854775808)(hm:s.data.length<9223372036854775808)(h:Z):aL 165 [.agg s.cs] h=y (.bool (kP s),h):=by
 refine cu (F:=Fq) (by kernel_rfl) (s.data.length+1) ?_
 rw[ael]
 unfold QK kP
 simp only[m8,uL,fT,gb,s',w3,Rh,Ri,Rj,Rk,lV,JX aA,b8,r9,hc,iD,er,fF,gU,r8,↓aI,gV]
 generalize g:k8 s.name=N
 have b:((((((((((!N||((s.bits !=8)&&(s.bits !=16)))||decide ((s.data.length:Int)>4096))||decide (s.pt<1))||decide (s.pt>65535))||decide (s.bq<0))||decide (s.bq>64))||decide (s.bm < -1))||decide (s.bm>256))||decide (s.ks < -64))||decide (s.ks>63))=!(N&&nT s&&rb s):=by
  unfold nT rb
  cases N with
  |false=>simp
  |true=>
   rw[pP]
   simp only[mM,dn,mf,hq,qG,eJ,iA,kl,ne_eq,fg,bn,false_or]
   omega
 rw[b]
 cases aa:(N&&nT s&&rb s)with
 |false=>
  have:(N&&nT s&&s.data.all (λx=>ra x s.bits)&&(rb s&&w2 s))=M:=by
   revert aa
   cases N<;>cases nT s<;>cases rb s<;>cases s.data.all (λx=>ra x s.bits)<;>cases w2 s<;>simp
  simp only[gN,a_,this,dJ]
 |true=>
  rw[dn,dn]at aa
  obtain⟨⟨c2,ej⟩,c⟩:=aa
  rw[c2,ej,c]
  have af:(s.bits=8\/s.bits=16):=by
   unfold nT at ej
   exact(of_decide_eq_true ej).1
  simp only[fg,bn,bh,hq,jT]
  obtain⟨k,h1,h2,ak⟩:=s7 (λx=>ra x s.bits) s.data
  refine oC (λi=>[J E (i:Int)]) k (by omega) rfl (λi ai K=>?_) λK=>?_
  ·obtain⟨a,ha⟩:=cR (show i<s.data.length by omega)
   have ah:=h2 i a ai ha
   unfold Fs
   simp only[eT,fT,s',w3,er,cQ (show i<s.data.length by omega),cr,b8,↓aI,gV,a_,nQ _ ha,akl,Rg af,ah,r9,fg,bn,bh,kM,cO (show i<9223372036854775807 by omega),jJ]
  ·rcases ak with⟨rfl,aJ⟩|⟨a,ak,aJ,aO⟩
   ·unfold Fs
    simp only[eT,fT,s',w3,Rl,Rm,Rn,Ro,Rp,Rq,er,gl,c4,b8,↓aI,gV,bn,bh,aJ,hq,ae4,fF,w2,dJ]
   ·have ad:k<s.data.length:=by
     obtain⟨e,_⟩:=List.getElem?_eq_some_iff.1 ak
     exact e
    unfold Fs
    simp only[eT,fT,s',w3,er,cQ ad,cr,b8,↓aI,gV,a_,nQ _ ak,akl,Rg af,aJ,r9,gN,aO,jv,dJ]
theorem Rs(x bits:Int):(decide (x < -oK bits)||decide (x>oK bits-1))=!ra x bits:=by
 unfold ra
 rw[pP]
 simp only[mM,eJ,mf,qG,iA]
 omega
theorem ae5(s:ey):(((((((decide (s.pt<1)||decide (s.pt>65535))||decide (s.bq<0))||decide (s.bq>64))||decide (s.bm < -1))||decide (s.bm>256))||decide (s.ks < -64))||decide (s.ks>63))=!rb s:=by
 unfold rb
 rw[pP]
 simp only[mM,mf,eJ,iA]
 omega
theorem ae6(s:ey):((decide ((s.name.size:Int)>22)||((s.bits !=8)&&(s.bits !=16)))||decide ((s.data.length:Int)>4096))=!(decide (s.name.size<=22)&&nT s):=by
 unfold nT
 rw[pP]
 simp only[mM,dn,mf,qG,eJ,iA,kl,ne_eq]
 omega
theorem Jt(s:ey)(aA:s.name.size<9223372036854775808)(hm:s.data.length<9223372036854775808)(h:Z):aL 126 [.agg s.cs] h=y (.bool (kP s),h):=by
 have j:=zD s.name
 obtain⟨N,l,m⟩:∃N:Nat,s.data.length<N/\s.name.size<N:=⟨s.data.length+s.name.size+1,by omega,by omega⟩
 refine cu (F:=Ev) (by kernel_rfl) N ?_
 rw[adN]
 unfold Qa kP k8
 simp only[m8,uL,fT,gb,s',w3,lV,oD,b8,hc,iD,fF,gU,r8,↓aI,gV,ae6]
 cases aa:(decide (s.name.size<=22)&&nT s)with
 |false=>
  have:((hl s.name).all pq&&decide (s.name.size<=22)&&nT s&&s.data.all (λx=>ra x s.bits)&&(rb s&&w2 s))=M:=by
   revert aa
   cases (hl s.name).all pq<;>cases decide (s.name.size<=22)<;>cases nT s<;>simp
  simp only[gN,a_,this,dJ]
 |true=>
  rw[dn]at aa
  obtain⟨c2,ej⟩:=aa
  rw[c2,ej]
  have af:(s.bits=8\/s.bits=16):=by
   unfold nT at ej
   exact(of_decide_eq_true ej).1
  simp only[fg,bn,bh,jT]
  obtain⟨k,h1,h2,ak⟩:=s7 pq (hl s.name)
  refine oC (λi=>[J E (i:Int)]) k (by omega) rfl (λi ai K=>?_) λK=>?_
  ·obtain⟨b,af⟩:=cR (show i<(hl s.name).length by omega)
   have c:((i:Int)<(s.name.size:Int))=True:=kk (by omega)
   have g:pq b=V:=h2 i b ai af
   unfold Ex
   simp only[eT,yX,yY,BD,YR,fT,gb,er,iD,c,cr,b8,↓aI,gV,a_,q_ af,gU,wZ,g,fg,bn,bh,kM,cO (show i<9223372036854775807 by omega),jJ]
  ·rcases ak with⟨rfl,aJ⟩|⟨b,ak,aJ,aO⟩
   ·have c:(((hl s.name).length:Int)<(s.name.size:Int))=False:=dI (by omega)
    unfold Ex
    simp only[eT,er,c,c4,b8,↓aI,gV,bn,bh,fT,s',w3,Jp af,oF,oG,lV,aJ,hq]
    obtain⟨bD,cL,cN,dT⟩:=s7 (λx=>ra x s.bits) s.data
    refine oC (λi=>[J E (i:Int)]) bD (by omega) rfl (λi ai K=>?_) λK=>?_
    ·obtain⟨a,ha⟩:=cR (show i<s.data.length by omega)
     have ah:=cN i a ai ha
     unfold Ew
     simp only[eT,yX,yY,er,iD,cQ (show i<s.data.length by omega),cr,b8,↓aI,gV,a_,nQ _ ha,akl,gU,Rs,ah,fg,bn,bh,kM,cO (show i<9223372036854775807 by omega),jJ]
    ·rcases dT with⟨rfl,fO⟩|⟨a,dT,fO,gZ⟩
     ·unfold Ew
      simp only[eT,er,gl,c4,b8,↓aI,gV,bn,bh,fT,s',Rh,Ri,Rj,Rk,iD,gU,ae5,fO,hq]
      cases n:rb s with
      |false=>simp only[gN,a_,jv,dJ]
      |true=>simp only[fg,bn,bh,fT,s',Rl,Rm,Rn,Ro,Rp,Rq,lV,ae3,b8,fF,hq,w2,dJ]
     ·have ad:bD<s.data.length:=by
       obtain⟨e,_⟩:=List.getElem?_eq_some_iff.1 dT
       exact e
      unfold Ew
      simp only[eT,er,iD,cQ ad,cr,b8,↓aI,gV,a_,nQ _ dT,akl,gU,Rs,fO,gN,gZ,jv,dJ]
   ·have ad:k<(hl s.name).length:=by
     obtain⟨e,_⟩:=List.getElem?_eq_some_iff.1 ak
     exact e
    have c:((k:Int)<(s.name.size:Int))=True:=kk (by omega)
    unfold Ex
    simp only[eT,fT,gb,er,iD,c,cr,b8,↓aI,gV,a_,q_ ak,gU,wZ,aJ,gN,aO,jv,dJ]
theorem Rt{f:U}{p:Int->Bool}{l:List Int}{h:Z}(hm:l.length<9223372036854775808)(aE:∀x,gz aL f [J E x] h=y (.bool (p x),h)):aL 121 [dz l,f] h=y (J E (lv p l),h):=by
 refine cu (F:=En) (by kernel_rfl) (l.length+1) ?_
 rw[adI]
 unfold P7
 simp only[lV,b8,↓aI]
 obtain⟨k,h1,h2,ak⟩:=zH p l
 refine oC (λi=>[J E (i:Int)]) k (by omega) rfl (λi ai K=>?_) λK=>?_
 ·obtain⟨c,aa⟩:=cR (show i<l.length by omega)
  have ah:=h2 i c ai aa
  unfold Eo
  simp only[eT,er,cQ (show i<l.length by omega),cr,b8,↓aI,gV,a_,nQ _ aa,akl,aE,ah,bn,bh,kM,cO (show i<9223372036854775807 by omega),jJ]
 ·rcases ak with⟨rfl,aJ,aO⟩|⟨c,ak,aJ,aO,bt⟩
  ·unfold Eo
   simp only[eT,er,gl,c4,b8,↓aI,gV,bn,bh,aJ,pk]
  ·have ad:k<l.length:=by
    obtain⟨b,_⟩:=List.getElem?_eq_some_iff.1 ak
    exact b
   unfold Eo
   simp only[eT,er,cQ ad,cr,b8,↓aI,gV,a_,nQ _ ak,akl,aE,aJ,aO,pk]
def lx(l:List ey):U:=.bE 13 (l.map ey.cs)
theorem nU(l:List ey):bB M (lx l)=y (J E l.length):=s0
theorem r_{l:List ey}{i:Nat}{c:ey}(k:IntKind)(h:l[i]?=y c):bY 13 (lx l) (.int k i)=y (.fz c.cs 0):=r1 k h
theorem Ru(c:ey)(h:Z):ab V 13 (.fz c.cs 0) h=y (.agg c.cs):=by rw[za];exact gh rfl
theorem zC{f:U}{p:ey->Bool}{l:List ey}{h:Z}(hm:l.length<9223372036854775808)(aE:∀c∈l,gz aL f [.agg c.cs] h=y (.bool (p c),h)):aL 124 [lx l,f] h=y (J E (lv p l),h):=by
 refine cu (F:=Es) (by kernel_rfl) (l.length+1) ?_
 rw[adL]
 unfold P_
 simp only[nU,b8,↓aI]
 obtain⟨k,h1,h2,ak⟩:=zH p l
 refine oC (λi=>[J E (i:Int)]) k (by omega) rfl (λi ai K=>?_) λK=>?_
 ·obtain⟨c,aa⟩:=cR (show i<l.length by omega)
  have ah:=h2 i c ai aa
  unfold Et
  simp only[eT,er,cQ (show i<l.length by omega),cr,b8,↓aI,gV,a_,r_ _ aa,Ru,aE c (dN aa),ah,bn,bh,kM,cO (show i<9223372036854775807 by omega),jJ]
 ·rcases ak with⟨rfl,aJ,aO⟩|⟨c,ak,aJ,aO,bt⟩
  ·unfold Et
   simp only[eT,er,gl,c4,b8,↓aI,gV,bn,bh,aJ,pk]
  ·have ad:k<l.length:=by
    obtain⟨b,_⟩:=List.getElem?_eq_some_iff.1 ak
    exact b
   unfold Et
   simp only[eT,er,cQ ad,cr,b8,↓aI,gV,a_,r_ _ ak,Ru,aE c (dN ak),aJ,aO,pk]
def uM(is:Bool)(a b n:Int):Bool:=if is=V then decide (0<=a)&&decide (a<=b)&&decide (b<n)else a==0&&b==0
theorem ae7(is:Bool)(a b n:Int)(h:Z):aL 170 [.bool is,J E a,J E b,J E n] h=y (.bool (uM is a b n),h):=by
 refine cu (F:=Fv) (by kernel_rfl) 1 ?_
 rw[aen]
 unfold QM uM
 cases is with
 |true=>simp only[r9,fg,b8,↓aI,gV,bn,bh,a_,jg,er,fF,dZ]
 |false=>simp only[r9,gN,b8,↓aI,gV,bn,bh,a_,gf,fF,dZ]
theorem ae8(is:Bool)(a b n:Int){h:Z}{k:Nat}{v:U}(ax:ab M 1 (.ptr k 1) h=y v)(aA:bB M v=y (J E n)):aL 172 [.bool is,J E a,J E b,.ptr k 0] h=y (.bool (uM is a b n),h):=by
 refine cu (F:=Fw) (by kernel_rfl) 1 ?_
 rw[aeo]
 unfold QN uM
 cases is with
 |true=>simp only[r9,fg,b8,↓aI,gV,bn,bh,a_,oB,jg,er,fT,ax,aA,fF,dZ,ge_iff_le]
 |false=>simp only[r9,gN,b8,↓aI,gV,bn,bh,a_,gf,fF,dZ]
def cW(k:Int×Int):List U:=[J E k.1,J E k.2]
def j7(l:List (Int×Int)):U:=.bE 2 (l.map cW)
theorem oL(l:List (Int×Int)):bB M (j7 l)=y (J E l.length):=s0
theorem re{l:List (Int×Int)}{i:Nat}{c:Int×Int}(k:IntKind)(h:l[i]?=y c):bY 2 (j7 l) (.int k i)=y (.fz (cW c) 0):=r1 k h
theorem FQ(c:Int×Int)(h:Z):ab V 2 (.fz (cW c) 0) h=y (.agg (cW c)):=by rw[za];exact gh rfl
theorem ae9(k:Int×Int)(h:Z):aL 158 [.agg (cW k)] h=y (.bool (!b9 k.1 0 119||!b9 k.2 0 31),h):=by
 refine cu (F:=Fe) (by kernel_rfl) 1 ?_
 rw[aef]
 unfold QD
 have fa:ab M 1 (.ptr h.length 0) (h++[.box (cW k) 89 .rw])=y (J E k.1):=fb rfl
 have b:ab M 1 (.ptr h.length 1) (h++[.box (cW k) 89 .rw])=y (J E k.2):=fb rfl
 simp only[m8,uL,fT,fa,b,QZ,r9,b8,gU,dJ]
theorem ae_{f:U}{p:Int×Int->Bool}{l:List (Int×Int)}{h:Z}(hm:l.length<9223372036854775808)(aE:∀c,gz aL f [.agg (cW c)] h=y (.bool (p c),h)):aL 160 [j7 l,f] h=y (J E (lv p l),h):=by
 refine cu (F:=Fh) (by kernel_rfl) (l.length+1) ?_
 rw[aeh]
 unfold QF
 simp only[oL,b8,↓aI]
 obtain⟨k,h1,h2,ak⟩:=zH p l
 refine oC (λi=>[J E (i:Int)]) k (by omega) rfl (λi ai K=>?_) λK=>?_
 ·obtain⟨c,aa⟩:=cR (show i<l.length by omega)
  have ah:=h2 i c ai aa
  unfold Fi
  simp only[eT,er,cQ (show i<l.length by omega),cr,b8,↓aI,gV,a_,re _ aa,FQ,aE,ah,bn,bh,kM,cO (show i<9223372036854775807 by omega),jJ]
 ·rcases ak with⟨rfl,aJ,aO⟩|⟨c,ak,aJ,aO,bt⟩
  ·unfold Fi
   simp only[eT,er,gl,c4,b8,↓aI,gV,bn,bh,aJ,pk]
  ·have ad:k<l.length:=by
    obtain⟨b,_⟩:=List.getElem?_eq_some_iff.1 ak
    exact b
   unfold Fi
   simp only[eT,er,cQ ad,cr,b8,↓aI,gV,a_,re _ ak,FQ,aE,aJ,aO,pk]
theorem Cl{f:U}{p:Int×Int->Bool}{l:List (Int×Int)}{h:Z}(hm:l.length<9223372036854775808)(aE:∀c,gz aL f [.agg (cW c)] h=y (.bool (p c),h)):aL 128 [j7 l,f] h=y (.bool (l.any p),h):=by
 refine cu (F:=Ez) (by kernel_rfl) 1 ?_
 rw[adP]
 unfold Qc
 simp only[ae_ hm aE,b8,oB,Re,dZ]
theorem Rv{i:Nat}(h:i<9223372036854775807):IntKind.i64.wrap (((i+1:Nat):Int)-1)=(i:Int):=by rw[wrap64 (by unfold dB;omega)];omega
def jB(p:Int×Int):List U:=[J E p.1,J E p.2]
def ig(l:List (Int×Int)):U:=.bE 2 (l.map jB)
theorem ta(l:List (Int×Int)):bB M (ig l)=y (J E l.length):=s0
theorem rf{l:List (Int×Int)}{i:Nat}{c:Int×Int}(k:IntKind)(h:l[i]?=y c):bY 2 (ig l) (.int k i)=y (.fz (jB c) 0):=r1 k h
theorem FR(c:Int×Int)(h:Z):ab V 2 (.fz (jB c) 0) h=y (.agg (jB c)):=by rw[za];exact gh rfl
theorem Rw(k:Nat)(row:List U):aq k (.fz row 0)=y (.fz row k):=by rw[N5,hh]
theorem akn(c:Int×Int)(h:Z):ab M 1 (.fz (jB c) 0) h=y (J E c.1):=rfl
structure bP where
 on:Bool
 dk:List (Int×Int)
 uN:Bool
 (e6 uO:Int)
 m9:Bool
 (ls le:Int)
def bP.cs(e:bP):List U:=[.bool e.on,ig e.dk,.bool e.uN,J E e.e6,J E e.uO,.bool e.m9,J E e.ls,J E e.le]
def r'(l:List (Int×Int))(lo ai:Int)(i:Nat):Bool:=
 (((match i with|0=>(l.getD 0 (0,0)).1 !=0|j+1=>decide ((l.getD (j+1) (0,0)).1<=(l.getD j (0,0)).1))||decide ((l.getD i (0,0)).1>9999))||decide ((l.getD i (0,0)).2<lo))||decide ((l.getD i (0,0)).2>ai)
def zI(l:List (Int×Int))(lo ai:Int):Bool:=(fj l.length).all λi=>!r' l lo ai i
theorem Rx{l:List (Int×Int)}{lo ai:Int}{i:Nat}(h1:i<l.length)(h2:r' l lo ai i=V):zI l lo ai=M:=by
 unfold zI
 rw[Bool.eq_false_iff]
 intro h
 have:=List.all_eq_true.1 h i (List.mem_range.2 h1)
 rw[h2]at this
 cases this
theorem Ry{l:List (Int×Int)}{lo ai:Int}(h:∀j,j<l.length->r' l lo ai j=M):zI l lo ai=V:=by
 unfold zI
 exact List.all_eq_true.2 λi ai=>by rw[h i (List.mem_range.1 ai)];rfl
def pv(e:bP)(lo ai:Int):Bool:=!(decide ((e.dk.length:Int)>16)||(e.on&&((e.dk.length:Int)==0)))&&(zI e.dk lo ai&&(uM e.uN e.e6 e.uO e.dk.length&&uM e.m9 e.ls e.le e.dk.length))
section
variable {h : Z} {e : bP} {t : a1}
theorem Rz:ab M 1 (.ptr h.length 0) (h++[.box e.cs t .rw])=y (.bool e.on):=fb rfl
theorem zJ:ab M 1 (.ptr h.length 1) (h++[.box e.cs t .rw])=y (ig e.dk):=fb rfl
theorem RA:ab M 1 (.ptr h.length 2) (h++[.box e.cs t .rw])=y (.bool e.uN):=fb rfl
theorem RB:ab M 1 (.ptr h.length 3) (h++[.box e.cs t .rw])=y (J E e.e6):=fb rfl
theorem zK:ab M 1 (.ptr h.length 4) (h++[.box e.cs t .rw])=y (J E e.uO):=fb rfl
theorem RC:ab M 1 (.ptr h.length 5) (h++[.box e.cs t .rw])=y (.bool e.m9):=fb rfl
theorem RD:ab M 1 (.ptr h.length 6) (h++[.box e.cs t .rw])=y (J E e.ls):=fb rfl
theorem RE:ab M 1 (.ptr h.length 7) (h++[.box e.cs t .rw])=y (J E e.le):=fb rfl
theorem RF{l:Z}:ab M 1 (.ptr h.length 1) ((h++[.box e.cs t .rw])++l)=y (ig e.dk):=FO rfl
end
theorem FT(h:Z)(c:Int×Int):bf 2 (.ptr h.length 0) (.agg (jB c)) (h++[.box [J E 0,J E 0] 120 .rw])=y (h++[.box (jB c) 120 .rw]):=r7 rfl rfl (by decide) rfl
theorem FU{h:Z}{c:Int×Int}{t:a1}:ab M 1 (.ptr h.length 0) (h++[.box (jB c) t .rw])=y (J E c.1):=fb rfl
theorem tb{h:Z}{c:Int×Int}{t:a1}:ab M 1 (.ptr h.length 1) (h++[.box (jB c) t .rw])=y (J E c.2):=fb rfl
theorem tc{α:Type}{l:List α}{i:Nat}{d a:α}(h:l[i]?=y a):l.getD i d=a:=by rw[List.getD_eq_getElem?_getD,h];rfl
theorem RG{e:bP}{lo ai:Int}{h:Z}{n:Nat}{k:List U->Z->bl}(hm:e.dk.length<9223372036854775808){i:Nat}(b:i<e.dk.length)(K:List U->Z->bl):
 Fg aL n (J E lo) (J E ai) h (.ptr h.length 0) (h++[.box e.cs 55 .rw]) (ig e.dk) (J E e.dk.length) k K [J E i] (h++[.box e.cs 55 .rw])=if r' e.dk lo ai i=V then y (.bool M,h)else K [J E ((i+1:Nat):Int)] (h++[.box e.cs 55 .rw]):=by
 obtain⟨p,ah⟩:=ze b
 unfold Fg r'
 cases i with
 |zero=>
  have c:(((0:Nat):Int)==0)=V:=rfl
  have g:decide (((0:Nat):Int)>0)=M:=rfl
  simp only[eT,er,cQ b,cr,b8,↓aI,gV,a_,rf _ ah,FR,m8,FT,gf,c,zg,r8,fT,FU,tb,hc,iD,g,B3,gU,er,tc ah,qk,kM,cO (show 0<9223372036854775807 by omega),zf,hq,Bool.or_false]
 |succ j=>
  have c:(((j+1:Nat):Int)==0)=M:=by rw[jV];omega
  have g:decide (((j+1:Nat):Int)>0)=V:=nv (by omega)
  obtain⟨q,br⟩:=ze (show j<e.dk.length by omega)
  simp only[eT,er,cQ b,cr,b8,↓aI,gV,a_,rf _ ah,FR,m8,FT,gf,c,B3,r8,B4,fT,Rw,FU,tb,hc,iD,g,zg,RF,uk,Rv (show j<9223372036854775807 by omega),rf _ br,akn,jg,gU,er,tc ah,tc br,qk,kM,cO (show j+1<9223372036854775807 by omega),zf,jv]
theorem JZ(e:bP)(hm:e.dk.length<9223372036854775808)(lo ai:Int)(h:Z):aL 159 [.agg e.cs,J E lo,J E ai] h=y (.bool (pv e lo ai),h):=by
 obtain⟨N,j⟩:∃N:Nat,e.dk.length<N:=⟨_,fC _⟩
 refine cu (F:=Ff) (by kernel_rfl) N ?_
 rw[aeg]
 unfold QE pv
 simp only[m8,uL,fT,Rz,zJ,ta,b8,iD,gf,fF,r8,gU,↓aI,gV]
 cases aa:(decide ((e.dk.length:Int)>16)||(e.on&&((e.dk.length:Int)==0)))with
 |true=>simp only[a_,fg,jv,dJ]
 |false=>
  simp only[bn,bh,gN,hq]
  refine lW (r' e.dk lo ai) (λi=>[J E (i:Int)]) (λ_=>h++[.box e.cs 55 .rw]) e.dk.length j rfl rfl (λi c af K=>?_) (λi c af g K=>?_) (λg K=>?_)
  ·rw[RG hm c K,af];rfl
  ·rw[RG hm c K,af,Rx c af];rfl
  ·have k:∀(b:Bool) (x au:Int),gz aL (.func 172 [] [.ptr h.length 0]) [.bool b,J E x,J E au] (h++[.box e.cs 55 .rw])=y (.bool (uM b x au e.dk.length),h++[.box e.cs 55 .rw]):=λb x au=>by
    rw[k5 aL 172]
    exact ae8 b x au e.dk.length zJ (ta _)
   unfold Fg
   simp only[eT,er,gl,c4,b8,↓aI,gV,bn,bh,fT,RA,RB,zK,RC,RD,RE,k,fF,Ry g,hq,dJ]
theorem RH{e:bP}{lo ai:Int}{h:Z}{n:Nat}{k:List U->Z->bl}(hm:e.dk.length<9223372036854775808){i:Nat}(b:i<e.dk.length)(K:List U->Z->bl):
 E0 aL n (J E lo) (J E ai) h (.ptr h.length 0) (J E e.dk.length) (h++[.box e.cs 55 .rw]) k K [J E i] (h++[.box e.cs 55 .rw])=if r' e.dk lo ai i=V then y (.bool M,h)else K [J E ((i+1:Nat):Int)] (h++[.box e.cs 55 .rw]):=by
 obtain⟨p,ah⟩:=ze b
 unfold E0 r'
 cases i with
 |zero=>
  have c:(((0:Nat):Int)==0)=V:=rfl
  have g:decide (((0:Nat):Int)>0)=M:=rfl
  simp only[eT,er,cQ b,cr,b8,↓aI,gV,a_,fT,zJ,rf _ ah,FR,m8,FT,gf,c,zg,r8,fT,FU,tb,hc,iD,g,B3,gU,er,tc ah,qk,kM,cO (show 0<9223372036854775807 by omega),zf,hq,Bool.or_false]
 |succ j=>
  have c:(((j+1:Nat):Int)==0)=M:=by rw[jV];omega
  have g:decide (((j+1:Nat):Int)>0)=V:=nv (by omega)
  obtain⟨q,br⟩:=ze (show j<e.dk.length by omega)
  simp only[eT,er,cQ b,cr,b8,↓aI,gV,a_,fT,zJ,rf _ ah,FR,m8,FT,gf,c,B3,r8,B4,fT,Rw,FU,tb,hc,iD,g,zg,RF,uk,Rv (show j<9223372036854775807 by omega),rf _ br,akn,jg,gU,er,tc ah,tc br,qk,kM,cO (show j+1<9223372036854775807 by omega),zf,jv]
theorem J0(e:bP)(hm:e.dk.length<9223372036854775808)(lo ai:Int)(h:Z):aL 145 [.agg e.cs,J E lo,J E ai] h=y (.bool (pv e lo ai),h):=by
 obtain⟨N,g⟩:∃N:Nat,e.dk.length<N:=⟨_,fC _⟩
 refine cu (F:=EZ) (by kernel_rfl) N ?_
 rw[ad4]
 unfold Qr pv
 simp only[m8,uL,fT,Rz,zJ,ta,b8,iD,gf,fF,r8,gU,↓aI,gV]
 cases aa:(decide ((e.dk.length:Int)>16)||(e.on&&((e.dk.length:Int)==0)))with
 |true=>simp only[a_,fg,jv,dJ]
 |false=>
  simp only[bn,bh,gN,hq]
  refine lW (r' e.dk lo ai) (λi=>[J E (i:Int)]) (λ_=>h++[.box e.cs 55 .rw]) e.dk.length g rfl rfl (λi b af K=>?_) (λi b af c K=>?_) (λc K=>?_)
  ·rw[RH hm b K,af];rfl
  ·rw[RH hm b K,af,Rx b af];rfl
  ·unfold E0
   simp only[eT,er,gl,c4,b8,↓aI,gV,bn,bh,fT,RA,RB,zK,RC,RD,RE,ae7,fF,Ry c,hq,dJ]
structure c5 where
 name:ByteArray
 keys:List (Int×Int)
 (bq bm bo:bP)
 (uP rh dup uQ uR cut res:Int)
def c5.cs(i:c5):List U:=[.str i.name,j7 i.keys]++(i.bq.cs++(i.bm.cs++(i.bo.cs++[J E i.uP,J E i.rh,J E i.dup,J E i.uQ,J E i.uR,J E i.cut,J E i.res])))
def pw(k:Int×Int):Bool:=!b9 k.1 0 119||!b9 k.2 0 31
def J1(i:c5):Bool:=b9 i.uP 0 1024&&(b9 i.rh 0 3&&(b9 i.dup 0 3&&(b9 i.uQ 0 2&&(b9 i.uR 0 64&&(b9 i.cut (-1) 127&&b9 i.res (-1) 127)))))
def l0(i:c5):Bool:=!i.keys.any pw&&(k8 i.name&&(((i.keys.length:Int)==0||(i.keys.length:Int)==120)&&(pv i.bq 0 64&&(pv i.bm (-32) 32&&(pv i.bo (-32) 32&&J1 i)))))
section
variable {h : Z} {i : c5} {t : a1}
theorem RI:ab M 1 (.ptr h.length 0) (h++[.box i.cs t .rw])=y (.str i.name):=fb rfl
theorem FV:ab M 1 (.ptr h.length 1) (h++[.box i.cs t .rw])=y (j7 i.keys):=fb rfl
theorem RJ:ab V 8 (.ptr h.length 2) (h++[.box i.cs t .rw])=y (.agg i.bq.cs):=I7 (sA rfl) rfl
theorem RK:ab V 8 (.ptr h.length 10) (h++[.box i.cs t .rw])=y (.agg i.bm.cs):=I7 (sA rfl) rfl
theorem RL:ab V 8 (.ptr h.length 18) (h++[.box i.cs t .rw])=y (.agg i.bo.cs):=I7 (sA rfl) rfl
theorem RM:ab M 1 (.ptr h.length 26) (h++[.box i.cs t .rw])=y (J E i.uP):=fb rfl
theorem RN:ab M 1 (.ptr h.length 27) (h++[.box i.cs t .rw])=y (J E i.rh):=fb rfl
theorem RO:ab M 1 (.ptr h.length 28) (h++[.box i.cs t .rw])=y (J E i.dup):=fb rfl
theorem RP:ab M 1 (.ptr h.length 29) (h++[.box i.cs t .rw])=y (J E i.uQ):=fb rfl
theorem RQ:ab M 1 (.ptr h.length 30) (h++[.box i.cs t .rw])=y (J E i.uR):=fb rfl
theorem RR:ab M 1 (.ptr h.length 31) (h++[.box i.cs t .rw])=y (J E i.cut):=fb rfl
theorem RS:ab M 1 (.ptr h.length 32) (h++[.box i.cs t .rw])=y (J E i.res):=fb rfl
end
structure td(i:c5):Prop where
 name:i.name.size<9223372036854775808
 keys:i.keys.length<9223372036854775808
 bq:i.bq.dk.length<9223372036854775808
 bm:i.bm.dk.length<9223372036854775808
 bo:i.bo.dk.length<9223372036854775808
theorem ae'(i:c5)(ax:td i)(h:Z):aL 127 [.agg i.cs] h=y (.bool (l0 i),h):=by
 refine cu (F:=Ey) (by kernel_rfl) 1 ?_
 rw[adO]
 unfold Qb l0 J1
 have g:∀e,aL 128 [j7 i.keys,.func 158 [] []] e=y (.bool (i.keys.any pw),e):=λe=>Cl (by have:=ax.keys;omega) λc=>by rw[k5 aL 158];exact ae9 c _
 simp only[m8,uL,fT,RI,FV,RJ,RK,RL,RM,RN,RO,RP,RQ,RR,RS,oL,aeW ax.name,g,JZ _ ax.bq,JZ _ ax.bm,JZ _ ax.bo,QZ,r9,b8,hc,fF,gU,r8,↓aI,gV,dJ,xQ]
 have aG:((i.keys.length:Int) !=0)=!((i.keys.length:Int)==0):=rfl
 have aF:((i.keys.length:Int) !=120)=!((i.keys.length:Int)==120):=rfl
 rw[aG,aF]
 generalize k8 i.name=N,((i.keys.length:Int)==0)=a,((i.keys.length:Int)==120)=b,i.keys.any pw=K,pv i.bq 0 64=v,pv i.bm (-32) 32=p,pv i.bo (-32) 32=q
 cases N<;>cases a<;>cases b<;>cases K<;>cases v<;>cases p<;>cases q<;>rfl
theorem RT(h:Z)(c:Int×Int):bf 2 (.ptr h.length 0) (.agg (cW c)) (h++[.box [J E 0,J E 0] 89 .rw])=y (h++[.box (cW c) 89 .rw]):=r7 rfl rfl (by decide) rfl
theorem RU{h:Z}{c:Int×Int}{t:a1}:ab M 1 (.ptr h.length 0) (h++[.box (cW c) t .rw])=y (J E c.1):=fb rfl
theorem RV{h:Z}{c:Int×Int}{t:a1}:ab M 1 (.ptr h.length 1) (h++[.box (cW c) t .rw])=y (J E c.2):=fb rfl
theorem RW(k:Int×Int):(((decide (k.1<0)||decide (k.1>119))||decide (k.2<0))||decide (k.2>31))=pw k:=by
 unfold pw b9
 rw[pP]
 simp only[mM,mf,qG,eJ,iA]
 omega
theorem Jk(i:c5)(ax:td i)(h:Z):aL 110 [.agg i.cs] h=y (.bool (l0 i),h):=by
 obtain⟨N,e⟩:∃N:Nat,i.keys.length<N:=⟨_,fC _⟩
 refine cu (F:=Ec) (by kernel_rfl) N ?_
 rw[adz]
 unfold PY l0 J1
 simp only[m8,uL,↓aI]
 have g:=ax.keys
 refine oH i.keys pw (λi=>[J E (i:Int)]) e rfl (λj c b aa ah K=>?_) (λj c b aa ah h1 h2 K=>?_) (λh1 h2 K=>?_)
 ·unfold Ed
  simp only[eT,fT,FV,oL,er,cQ b,cr,b8,↓aI,gV,a_,re _ aa,FQ,m8,RT,RU,RV,iD,gU,RW,ah,bn,bh,kM,cO (show j<9223372036854775807 by omega),zf]
 ·unfold Ed
  simp only[eT,fT,FV,oL,er,cQ b,cr,b8,↓aI,gV,a_,re _ aa,FQ,m8,RT,RU,RV,iD,gU,RW,ah,qk,h2,fg,jv]
 ·unfold Ed
  simp only[eT,fT,RI,FV,RJ,RK,RL,RM,RN,RO,RP,RQ,RR,RS,oL,er,gl,c4,b8,↓aI,gV,bn,bh,JX ax.name,J0 _ ax.bq,J0 _ ax.bm,J0 _ ax.bo,gf,jg,fF,gU,dJ,h2,b9,gN,hq,xQ]
end Go.aM.X
namespace Go.aM.X
open Go.bF Go.aM
attribute [local congr] mZ m0 m5 m6 oE q4 q5
abbrev d_:=Int×List Cell
def dL(p:d_):List U:=[J E p.1,ie p.2]
def l1(l:List d_):U:=.bE 2 (l.map dL)
def nV(l:List c5):U:=.bE 33 (l.map c5.cs)
structure aH where
 name:ByteArray
 (bO ch:Int)
 bk:List Int
 (rest hy hz hA:Int)
 gq:Bool
 cy:List Int
 aw:List d_
 az:List ey
 ag:List c5
def aH.cs(s:aH):List U:=[.str s.name,J E s.bO,J E s.ch,dz s.bk,J E s.rest,J E s.hy,J E s.hz,J E s.hA,.bool s.gq,dz s.cy,l1 s.aw,lx s.az,nV s.ag]
def aH.dP(s:aH):List U:=s.cs++dm s.bO
theorem px(P:List U->Prop)(av:P s9)(h1:P JQ)(h2:P JR)(ak:P JS)(aJ:P JT)(aO:P JU)(bt:P JV)(d:Int):P (dm d):=by
 unfold dm
 repeat' split
 all_goals assumption
def l2(r:List U)(k:Nat):Int:=match r[k]? with|some (.int _ n)=>n|_=>0
def J2(r:List U)(k:Nat):Bool:=match r[k]? with|some (.bool b)=>b|_=>M
def f'(d:Int)(k:Nat):Int:=l2 (dm d) k
def eL(d:Int)(k:Nat):Bool:=J2 (dm d) k
theorem FW(d:Int):(dm d)[1]?=y (J E (f' d 1)):=px (λr=>r[1]?=y (J E (l2 r 1))) rfl rfl rfl rfl rfl rfl rfl d
theorem RX(d:Int):(dm d)[2]?=y (J E (f' d 2)):=px (λr=>r[2]?=y (J E (l2 r 2))) rfl rfl rfl rfl rfl rfl rfl d
theorem RY(d:Int):(dm d)[3]?=y (J E (f' d 3)):=px (λr=>r[3]?=y (J E (l2 r 3))) rfl rfl rfl rfl rfl rfl rfl d
theorem zL(d:Int):(dm d)[6]?=y (.bool (eL d 6)):=px (λr=>r[6]?=y (.bool (J2 r 6))) rfl rfl rfl rfl rfl rfl rfl d
theorem J3(d:Int):(dm d)[8]?=y (.bool (eL d 8)):=px (λr=>r[8]?=y (.bool (J2 r 8))) rfl rfl rfl rfl rfl rfl rfl d
theorem afa(d:Int):(f' d 1==0)=!b9 d 1 6:=by
 unfold f' dm b9
 by_cases h1:d=1
 ·subst h1;decide
 ·by_cases h2:d=2
  ·subst h2;decide
  ·by_cases ak:d=3
   ·subst ak;decide
   ·by_cases aJ:d=4
    ·subst aJ;decide
    ·by_cases aO:d=5
     ·subst aO;decide
     ·by_cases bt:d=6
      ·subst bt;decide
      ·rw[aW h1,aW h2,aW ak,aW aJ,aW aO,aW bt]
       have:(decide (1<=d)&&decide (d<=6))=M:=by
        rw[qG,iA,iA];omega
       rw[this];rfl
section
variable (s : aH)
theorem FX:s.cs[0]?=y (.str s.name):=ca rfl
theorem ri:s.cs[1]?=y (J E s.bO):=ca rfl
theorem zM:s.cs[2]?=y (J E s.ch):=ca rfl
theorem zN:s.cs[3]?=y (dz s.bk):=ca rfl
theorem J4:s.cs[4]?=y (J E s.rest):=ca rfl
theorem J5:s.cs[5]?=y (J E s.hy):=ca rfl
theorem J6:s.cs[6]?=y (J E s.hz):=ca rfl
theorem J7:s.cs[7]?=y (J E s.hA):=ca rfl
theorem J8:s.cs[8]?=y (.bool s.gq):=ca rfl
theorem w4:s.cs[9]?=y (dz s.cy):=ca rfl
theorem ql:s.cs[10]?=y (l1 s.aw):=ca rfl
theorem py:s.cs[11]?=y (lx s.az):=ca rfl
theorem rj:s.cs[12]?=y (nV s.ag):=ca rfl
theorem afb:s.dP[0]?=y (.str s.name):=ca rfl
theorem RZ:s.dP[1]?=y (J E s.bO):=ca rfl
theorem J9:s.dP[2]?=y (J E s.ch):=ca rfl
theorem afc:s.dP[3]?=y (dz s.bk):=ca rfl
theorem afd:s.dP[4]?=y (J E s.rest):=ca rfl
theorem afe:s.dP[5]?=y (J E s.hy):=ca rfl
theorem aff:s.dP[6]?=y (J E s.hz):=ca rfl
theorem afg:s.dP[7]?=y (J E s.hA):=ca rfl
theorem afh:s.dP[8]?=y (.bool s.gq):=ca rfl
theorem afi:s.dP[9]?=y (dz s.cy):=ca rfl
theorem afj:s.dP[10]?=y (l1 s.aw):=ca rfl
theorem R0:s.dP[11]?=y (lx s.az):=ca rfl
theorem R2:s.dP[12]?=y (nV s.ag):=ca rfl
theorem afk:s.dP[14]?=y (J E (f' s.bO 1)):=FW s.bO
theorem afl:s.dP[15]?=y (J E (f' s.bO 2)):=RX s.bO
theorem afm:s.dP[16]?=y (J E (f' s.bO 3)):=RY s.bO
theorem R3:s.dP[19]?=y (.bool (eL s.bO 6)):=zL s.bO
theorem afn:s.dP[21]?=y (.bool (eL s.bO 8)):=J3 s.bO
theorem ly:e7 V 0 13 s.cs=y (.agg s.cs):=gh rfl
theorem J_:s.dP.length=42:=by unfold aH.dP;rw[List.length_append,m7];rfl
theorem R4:e7 V 0 42 s.dP=y (.agg s.dP):=gh (J_ s)
end
theorem afo{e6:List fs}(d:Int)(h:e6=dF 29 .aj):oI e6 (dm d)=V:=by
 subst h
 unfold dm
 repeat' split
 all_goals rfl
theorem R5:∀{s1 b:List fs} {v1 v2:List U},oI s1 v1=V->oI b v2=V->oI (s1++b) (v1++v2)=V
 |[],_,[],_,_,h2=>h2
 |s::s1,b,v::v1,v2,h1,h2=>by
  unfold oI at h1
  rw[dn]at h1
  show(B_ s v&&oI (s1++b) (v1++v2))=V
  rw[h1.1,R5 h1.2 h2];rfl
theorem afp(s:aH):oI Jj s.dP=V:=
 R5 (s1:=[.aj,.aj,.aj,.flat 1,.aj,.aj,.aj,.aj,.aj,.flat 1,(.bZ 2 [.aj,(.flat 6)]),(.bZ 13 [.aj,(.flat 1),.aj,.aj,.aj,.aj,.aj,.aj,.aj,.aj,.aj,.aj,.aj]),(.bZ 33 [.aj,(.flat 2),.aj,(.flat 2),.aj,.aj,.aj,.aj,.aj,.aj,.aj,(.flat 2),.aj,.aj,.aj,.aj,.aj,.aj,.aj,(.flat 2),.aj,.aj,.aj,.aj,.aj,.aj,.aj,.aj,.aj,.aj,.aj,.aj,.aj])]) (v1:=s.cs) rfl (afo s.bO rfl)
def mark(o:Int):Bool:=o==254||o==255
theorem FY(o:Int)(h:Z):aL 87 [J E o] h=y (.bool (mark o),h):=by
 refine cu (F:=DS) (by kernel_rfl) 1 ?_
 rw[adh];unfold PD mark
 simp only[gf,b8,gU,dZ]
theorem w5(o:Int)(h:Z):aL 49 [J E o] h=y (.bool (mark o),h):=by
 refine cu (F:=Df) (by kernel_rfl) 1 ?_
 rw[abl];unfold Pa mark
 simp only[gf,b8,gU,dZ]
theorem afq(o:Int)(h:Z):aL 123 [J E o] h=y (.bool (!b9 o 0 256),h):=by
 refine cu (F:=Er) (by kernel_rfl) 1 ?_
 rw[adK];unfold P9
 simp only[q9,wE,b8,dZ]
theorem afr(s:ey)(aA:s.name.size<9223372036854775808)(hm:s.data.length<9223372036854775808)(h:Z):aL 125 [.agg s.cs] h=y (.bool (!kP s),h):=by
 refine cu (F:=Eu) (by kernel_rfl) 1 ?_
 rw[adM];unfold P'
 have cb:e7 V 0 13 s.cs=y (.agg s.cs):=gh rfl
 simp only[r4,q3,nR,cb,Jt s aA hm,wE,b8,dJ]
def hS(s:aH):Int:=if eL s.bO 6 then s.ag.length else s.az.length
theorem qm(l:List d_):bB M (l1 l)=y (J E l.length):=s0
theorem te{l:List d_}{i:Nat}{c:d_}(k:IntKind)(h:l[i]?=y c):bY 2 (l1 l) (.int k i)=y (.fz (dL c) 0):=r1 k h
theorem rk(l:List c5):bB M (nV l)=y (J E l.length):=s0
theorem tf{l:List c5}{i:Nat}{c:c5}(k:IntKind)(h:l[i]?=y c):bY 33 (nV l) (.int k i)=y (.fz c.cs 0):=r1 k h
theorem afs(s:aH)(h:Z):aL 120 [.agg s.dP] h=y (J E (hS s),h):=by
 refine cu (F:=Em) (by kernel_rfl) 1 ?_
 rw[adH];unfold P6 hS
 simp only[r4,q3,q6,aV,hh,nR,qg,R3,R2,R0,nU,rk,b8,↓aI,B5,qc]
 cases eL s.bO 6<;>rfl
theorem aft(s:aH)(h:Z):aL 52 [.agg s.cs] h=y (.bool (eL s.bO 6),h):=by
 refine cu (F:=zz) (by kernel_rfl) 1 ?_
 rw[Py];unfold JB
 have bu:cF e8 0 (dm s.bO)=y (dm s.bO):=ib (by rw[m7];rfl) (s_ _)
 simp only[r4,q3,q6,hh,nR,qg,ri,zE,oF,oG,b8,eb,List.cons_append,List.nil_append,Jf,B7,I',jh (v:=.agg (dm s.bO)) (n:=29) (m7 _) (by decide),bu,qf,I_,I9,I8,zL,dJ]
theorem R6(s:aH)(h:Z):aL 112 [.agg s.cs] h=y (J E (hS s),h):=by
 refine cu (F:=Ee) (by kernel_rfl) 1 ?_
 rw[adA];unfold PZ hS
 simp only[r4,q3,q6,hh,nR,qg,ly,aft,rj,py,nU,rk,b8,↓aI,B5,qc]
 cases eL s.bO 6<;>rfl
theorem J'{agg:Bool}{n b o:Nat}{h:Z}{v:U}(ax:ab agg n (.ptr b o) h=y v)(l:Z):ab agg n (.ptr b o) (h++l)=y v:=by
 rw[lU]at ax|-
 unfold kr at ax|-
 cases af:h[b]? with
 |none=>rw[af]at ax;cases ax
 |some blk=>
  have c:b<h.length:=by
   rcases Nat.lt_or_ge b h.length with h1|h1
   ·exact h1
   ·rw[List.getElem?_eq_none h1]at af;cases af
  rw[List.getElem?_append_left c,af]
  rw[af]at ax
  exact ax
theorem Kb(c:Cell):e7 V 0 6 c.cs=y (.agg c.cs):=gh rfl
theorem Kc(c:Cell):c.cs[1]?=y (J E c.inst):=ca rfl
theorem afu(c:Cell){d:Int}{b:Nat}{h:Z}(ax:ab M 1 (.ptr b 1) h=y (J E d)):aL 117 [.agg c.cs,.ptr b 0] h=y (.bool (!pr d c),h):=by
 refine cu (F:=Ej) (by kernel_rfl) 1 ?_
 rw[adE];unfold P3
 simp only[r4,q3,q6,hh,J' ax,nR,Kb,Jo,wE,b8,dJ]
theorem afv(c:Cell){s:aH}{b:Nat}{h:Z}(ax:ab V 42 (.ptr b 0) h=y (.agg s.dP)):aL 119 [.agg c.cs,.ptr b 0] h=y (.bool (decide (c.inst>hS s)),h):=by
 refine cu (F:=El) (by kernel_rfl) 1 ?_
 rw[adG];unfold P5
 simp only[r4,q3,q6,hh,J' ax,nR,qg,Kc,zh _ (afp s),afs,r2,iD,b8,dJ]
theorem afw(o:Int){l:List d_}{b:Nat}{h:Z}(ax:ab M 1 (.ptr b 10) h=y (l1 l)):aL 122 [J E o,.ptr b 0] h=y (.bool (!mark o&&!b9 o 0 (IntKind.i64.wrap ((l.length:Int)-1))),h):=by
 refine cu (F:=Ep) (by kernel_rfl) 1 ?_
 rw[adJ];unfold P8
 simp only[FY,wE,b8,q6,hh,ax,qm,uk,q9,fF,dZ]
theorem Jx(k:Int×Int){l:List ey}{b:Nat}{h:Z}(ax:ab M 1 (.ptr b 11) h=y (lx l)):aL 129 [.agg (cW k),.ptr b 0] h=y (.bool (decide (k.2>(l.length:Int))),h):=by
 refine cu (F:=EA) (by kernel_rfl) 1 ?_
 rw[adQ];unfold Qd
 have bw:(cW k)[1]?=y (J E k.2):=rfl
 simp only[r4,q3,q6,hh,J' ax,nR,qg,bw,nU,iD,b8,dJ]
abbrev fc:=ByteArray×Int×Int
def e3(f:fc):List U:=[.str f.1,J E f.2.1,J E f.2.2]
def sa:fc:=(⟨#[]⟩,0,0)
def gJ(f:fc):Bool:=f.2.2 !=0
theorem oM(x au z:U)(a:ByteArray)(k k':IntKind)(m n:Int):cV [x,au,z] [(0,1,.str a),(1,1,.int k m),(2,1,.int k' n)]=y [.str a,.int k m,.int k' n]:=ca rfl
theorem e4(o:Nat)(a b c:U)(vs:List U)(t:a1)(l:Z):bf 3 (.ptr 0 o) (.agg [a,b,c]) (.box vs t .rw::l)=(cF vs o [a,b,c]).map λck=>.box ck t .rw::l:=jh rfl (by decide)
theorem ku(x au z:U)(a:ByteArray)(k k':IntKind)(m n:Int):cF [x,au,z] 0 [.str a,.int k m,.int k' n]=y [.str a,.int k m,.int k' n]:=ca rfl
theorem kv(a b c:U):e7 V 0 3 [a,b,c]=y (.agg [a,b,c]):=ca rfl
theorem rl(h l:Z)(a:ByteArray)(k k':IntKind)(m n:Int)(b:Bool):aN [.aj,.aj] h (h++l) [.agg [.str a,.int k m,.int k' n],.bool b]=y (.tuple [.agg [.str a,.int k m,.int k' n],.bool b],h):=Jd rfl rfl
theorem qn(h l:Z)(a:ByteArray)(k k':IntKind)(m n:Int):aN [.aj] h (h++l) [.agg [.str a,.int k m,.int k' n]]=y (.agg [.str a,.int k m,.int k' n],h):=Oi rfl
structure gW(s:aH):Prop where
 name:s.name.size<9223372036854775808
 bk:s.bk.length<9223372036854775808
 cy:s.cy.length<9223372036854775808
 aw:s.aw.length<9223372036854775808
 cells:∀p∈s.aw,p.2.length<9223372036854775808
 az:s.az.length<9223372036854775808
 lz:∀p∈s.az,p.name.size<9223372036854775808/\p.data.length<9223372036854775808
 ag:s.ag.length<9223372036854775808
 ins:∀p∈s.ag,td p
theorem Kd{α:Type}(p:α->Bool)(l:List α):lv p l=match l.findIdx? p with|some i=>(i:Int)|none=>-1:=by
 induction l with
 |nil=>rfl
 |cons x l a6=>
  rw[List.findIdx?_cons]
  unfold lv
  cases p x with
  |true=>rfl
  |false=>
   simp only[bn,bh]
   rw[a6]
   cases l.findIdx? p with
   |none=>rfl
   |some i=>
    simp only[dw]
    rw[aW (by omega)]
    show((i:Int)+1)=((i+1:Nat):Int)
    omega
def w6(s:aH):fc×Bool:=
 if(!k8 s.name)=V then((⟨#[110,97,109,101]⟩,0,1),V)
 else if(f' s.bO 1==0)=V then((⟨#[100,105,97,108,101,99,116]⟩,0,6),V)
 else if(!b9 s.ch 1 (f' s.bO 1))=V then((⟨#[99,104,97,110,110,101,108,115]⟩,0,5),V)
 else(sa,M)
def m_(a:fc×Bool):U:=.tuple [.agg (e3 a.1),.bool a.2]
theorem afx{s:aH}(ax:gW s)(h:Z):aL 114 [.str s.name] h=y (.bool (k8 s.name),h):=aeD (by have:=ax.name;omega) h
theorem afy(s:aH)(ax:gW s)(h:Z):aL 68 [.agg s.dP] h=y (m_ (w6 s),h):=by
 refine cu (F:=Du) (by kernel_rfl) 1 ?_
 rw[abu];unfold Pj w6
 simp only[aU,↓aI,aV,afb,RZ,J9,afk,afx ax,q9,oM,lr,e4,ku,kv,rl]
 cases (!k8 s.name)with
 |true=>rfl
 |false=>
  cases (f' s.bO 1==0)with
  |true=>rfl
  |false=>cases (!b9 s.ch 1 (f' s.bO 1))<;>rfl
def k9(s:aH)(o:Int):Bool:=!mark o&&!b9 o 0 (IntKind.i64.wrap ((s.aw.length:Int)-1))
def w7(s:aH):fc×Bool:=
 if(!b9 s.bk.length 1 64)=V then((⟨#[111,114,100,101,114,115]⟩,0,4),V)
 else match s.bk.findIdx? (k9 s)with
  |some i=>((⟨#[111,114,100,101,114,115]⟩,i,10),V)
  |none=>((⟨#[114,101,115,116,97,114,116]⟩,0,5),!b9 s.rest 0 (IntKind.i64.wrap ((s.bk.length:Int)-1)))
theorem Ke:decide ((-1:Int)>=0)=M:=ca rfl
theorem Kf(i:Nat):decide ((i:Int)>=0)=V:=nv (by omega)
theorem afz(s:aH)(ax:gW s)(h:Z):aL 70 [.agg s.dP] h=y (m_ (w7 s),h):=by
 refine cu (F:=Dx) (by kernel_rfl) 1 ?_
 rw[abw];unfold Pl w7
 have b:∀l,aL 121 [dz s.bk,.func 122 [] [.ptr h.length 0]] (h++.box s.dP 104 .rw::l)=y (J E (lv (k9 s) s.bk),h++.box s.dP 104 .rw::l):=λl=>Rt (by have:=ax.bk;omega) λx=>by
  rw[k5 aL 122]
  exact afw x (by rw[nR,qg];rfl)
 simp only[aU,↓aI,aV,afc,afd,lV,q9,Za,b,Kd,oM,e4,ku,kv,rl]
 cases (!b9 (s.bk.length:Int) 1 64)with
 |true=>rfl
 |false=>
  simp only[bn,bh]
  cases s.bk.findIdx? (k9 s)with
  |some i=>simp only[Kf,a_];rfl
  |none=>simp only[Ke,bn,bh];rfl
def w8(s:aH):fc×Bool:=
 if(!b9 s.hy 1 31)=V then((⟨#[115,112,101,101,100]⟩,0,5),V)
 else if(!b9 s.hz 32 255)=V then((⟨#[116,101,109,112,111]⟩,0,5),V)
 else if(!b9 s.hA 0 128)=V then((⟨#[103,108,111,98,97,108]⟩,0,5),V)
 else if(s.gq&&!eL s.bO 8)=V then((⟨#[108,105,110,101,97,114]⟩,0,6),V)
 else if((s.cy.length:Int) !=s.ch)=V then((⟨#[112,97,110,115]⟩,0,4),V)
 else match s.cy.findIdx? (λp=>!b9 p 0 256)with
  |some i=>((⟨#[112,97,110,115]⟩,i,5),V)
  |none=>((⟨#[112,97,110,115]⟩,-1,5),M)
theorem afA(s:aH)(ax:gW s)(h:Z):aL 71 [.agg s.dP] h=y (m_ (w8 s),h):=by
 refine cu (F:=Dy) (by kernel_rfl) 1 ?_
 rw[abx];unfold Pm w8
 have b:∀h,aL 121 [dz s.cy,.func 123 [] []] h=y (J E (lv (λp=>!b9 p 0 256) s.cy),h):=λh=>Rt (by have:=ax.cy;omega) λx=>by
  rw[k5 aL 123]
  exact afq x h
 simp only[aU,↓aI,aV,J9,afe,aff,afg,afh,afi,afn,lV,q9,b,Kd,oM,e4,ku,kv,rl]
 cases (!b9 s.hy 1 31)with
 |true=>rfl
 |false=>cases (!b9 s.hz 32 255)with
  |true=>rfl
  |false=>cases (!b9 s.hA 0 128)with
   |true=>rfl
   |false=>cases (s.gq&&!eL s.bO 8)with
    |true=>rfl
    |false=>cases ((s.cy.length:Int) !=s.ch)with
     |true=>rfl
     |false=>
      cases s.cy.findIdx? (λp=>!b9 p 0 256)with
      |some i=>simp only[Kf];rfl
      |none=>simp only[Ke];rfl
def sb(s:aH)(p:d_):Bool:=((f' s.bO 3 !=0&&p.1 !=f' s.bO 3)||!nS p.1 p.2 s.ch)||p.2.any λc=>!pr s.bO c
def kx(s:aH)(p:d_):Int:=if sb s p=V then 1 else if(p.2.any λc=>decide (c.inst>hS s))=V then 10 else 0
theorem mE(o:Nat)(a b:U)(vs:List U)(t:a1)(l:Z):bf 2 (.ptr 0 o) (.agg [a,b]) (.box vs t .rw::l)=(cF vs o [a,b]).map λck=>.box ck t .rw::l:=jh rfl (by decide)
theorem sc(p:d_):e7 V 0 2 (dL p)=y (.agg (dL p)):=gh rfl
theorem FZ(p:d_)(vs:List U)(t:a1)(l:Z):bf 2 (.ptr 0 0) (.agg (dL p)) (.box vs t .rw::l)=(cF vs 0 (dL p)).map λck=>.box ck t .rw::l:=jh rfl (by decide)
theorem F0(p:d_)(a b:U):cF [a,b] 0 (dL p)=y (dL p):=ib rfl rfl
theorem F1(p:d_):(dL p)[0]?=y (J E p.1):=ca rfl
theorem rm(p:d_):(dL p)[1]?=y (ie p.2):=ca rfl
theorem afB(n:Nat)(l:List Cell)(h:Z):cC (.flat n) (ie l) h=y (ie l,h):=B0 _ _ _ _
theorem afC(p:d_)(h:Z):cC (.agg [.aj,.flat 6]) (.agg (dL p)) h=y (.agg (dL p),h):=zh _ rfl
theorem afD(p:d_)(hm:p.2.length<9223372036854775808)(ch:Int)(h:Z):aL 115 [.agg (dL p),J E ch] h=y (.bool (nS p.1 p.2 ch),h):=ae1 p.1 (by omega) ch h
theorem afE(p:d_)(hm:p.2.length<9223372036854775808)(ch:Int)(h:Z):aL 173 [.agg (dL p),J E ch] h=y (.bool (nS p.1 p.2 ch),h):=ae2 p.1 (by omega) ch h
theorem R7{s:aH}{h:Z}{n:Nat}{b:List U->Z->bl}(ax:gW s){i:Nat}{p:d_}(ai:i<s.aw.length)(ah:s.aw[i]?=y p)(K:List U->Z->bl):
 Dw aL n h (.ptr h.length 0) (.ptr (h.length+1) 0) (h++[.box s.dP 104 .rw,.box [.str ⟨#[]⟩,J E 0,J E 0] 108 .rw]) (l1 s.aw) (J E s.aw.length) b K [J E i] (h++[.box s.dP 104 .rw,.box [.str ⟨#[]⟩,J E 0,J E 0] 108 .rw])=
  if(kx s p !=0)=V then y (m_ ((⟨#[112,97,116,116,101,114,110,115]⟩,i,kx s p),V),h)else K [J E ((i+1:Nat):Int)] (h++[.box s.dP 104 .rw,.box [.str ⟨#[]⟩,J E 0,J E 0] 108 .rw]):=by
 have e:=ax.cells p (dN ah)
 have k:=ax.aw
 have g:∀l,aL 116 [ie p.2,.func 117 [] [.ptr h.length 0]] (h++.box s.dP 104 .rw::l)=y (.bool (p.2.any λc=>!pr s.bO c),h++.box s.dP 104 .rw::l):=λl=>JY (by omega) λc=>by
  rw[k5 aL 117]
  exact afu c (by rw[nR,qg];rfl)
 have j:∀l,aL 116 [ie p.2,.func 119 [] [.ptr h.length 0]] (h++.box s.dP 104 .rw::l)=y (.bool (p.2.any λc=>decide (c.inst>hS s)),h++.box s.dP 104 .rw::l):=λl=>JY (by omega) λc=>by
  rw[k5 aL 119]
  exact afv c (by rw[nR,R4])
 unfold Dw kx sb
 simp only[aU,↓aI,aV,cQ ai,cr,a_,te _ ah,sc,FZ,F0,F1,rm,afm,J9,afB,afC,afD p e,g,j,oM,e4,ku,kv,rl,q7,cO (show i<9223372036854775807 by omega)]
 cases ((f' s.bO 3 !=0&&p.1 !=f' s.bO 3)||!nS p.1 p.2 s.ch||p.2.any λc=>!pr s.bO c)with
 |true=>rfl
 |false=>cases (p.2.any λc=>decide (c.inst>hS s))<;>rfl
def w9(s:aH):fc×Bool:=
 if(!b9 s.aw.length 1 (f' s.bO 2))=V then((⟨#[112,97,116,116,101,114,110,115]⟩,0,4),V)
 else match s.aw.findIdx? (λp=>kx s p !=0)with
  |some i=>((⟨#[112,97,116,116,101,114,110,115]⟩,i,(s.aw[i]?.map (kx s)).getD 0),V)
  |none=>(sa,M)
theorem afF(s:aH)(ax:gW s)(h:Z):aL 69 [.agg s.dP] h=y (m_ (w9 s),h):=by
 obtain⟨N,b⟩:∃N:Nat,s.aw.length<N:=⟨_,fC _⟩
 refine cu (F:=Dv) (by kernel_rfl) N ?_
 rw[abv];unfold Pk w9
 simp only[aU,↓aI,aV,afj,afl,qm,q9,oM,lr,e4,ku,kv,rl]
 cases (!b9 (s.aw.length:Int) 1 (f' s.bO 2))with
 |true=>rfl
 |false=>
  simp only[bn,bh]
  refine oH s.aw (λp=>kx s p !=0) (λi=>[J E (i:Int)]) b rfl (λi p ai ah af K=>?_) (λi p ai ah af h1 h2 K=>?_) (λh1 h2 K=>?_)
  ·rw[R7 ax ai ah K,aW (by rw[af];decide)]
  ·rw[R7 ax ai ah K,aP af,h1]
   simp only[ah,dw,ob]
  ·rw[h1]
   unfold Dw
   simp only[aU,↓aI,aV,gl,c4,bn,bh,lr,e4,ku,kv,rl]
   rfl
def ky(s:aH)(x:c5):Int:=if(!l0 x)=V then 1 else if(x.keys.any λk=>decide (k.2>(s.az.length:Int)))=V then 10 else 0
theorem uS(p:c5):e7 V 0 33 p.cs=y (.agg p.cs):=gh rfl
theorem R8(p:c5)(vs:List U)(t:a1)(l:Z):bf 33 (.ptr 0 0) (.agg p.cs) (.box vs t .rw::l)=(cF vs 0 p.cs).map λck=>.box ck t .rw::l:=jh rfl (by decide)
theorem R9{vs:List U}(p:c5)(h:vs.length=33):cF vs 0 p.cs=y p.cs:=ib (by rw[h];rfl) rfl
theorem uT(p:c5):p.cs[1]?=y (j7 p.keys):=ca rfl
theorem afG(n:Nat)(l:List (Int×Int))(h:Z):cC (.flat n) (j7 l) h=y (j7 l,h):=B0 _ _ _ _
theorem afH(p:c5)(h:Z):cC (.agg Ji) (.agg p.cs) h=y (.agg p.cs,h):=zh _ rfl
theorem afI(n:Nat)(cs:List fs)(l:List ey)(h:Z):cC (.bZ n cs) (lx l) h=y (lx l,h):=N7 _ _ _ _ _
theorem R_{s:aH}{h:Z}{n:Nat}{e:List U->Z->bl}(ax:gW s){i:Nat}{p:c5}(ai:i<s.ag.length)(ah:s.ag[i]?=y p)(K:List U->Z->bl):
 DA aL n h (.ptr h.length 0) (.ptr (h.length+1) 0) (h++[.box s.dP 104 .rw,.box [.str ⟨#[]⟩,J E 0,J E 0] 108 .rw]) (nV s.ag) (J E s.ag.length) e K [J E i] (h++[.box s.dP 104 .rw,.box [.str ⟨#[]⟩,J E 0,J E 0] 108 .rw])=
  if(ky s p !=0)=V then y (m_ ((⟨#[105,110,115,116,115]⟩,i,ky s p),V),h)else K [J E ((i+1:Nat):Int)] (h++[.box s.dP 104 .rw,.box [.str ⟨#[]⟩,J E 0,J E 0] 108 .rw]):=by
 have b:=ax.ins p (dN ah)
 have j:=ax.ag
 have m:=b.keys
 have g:∀l,aL 128 [j7 p.keys,.func 129 [] [.ptr h.length 0]] (h++.box s.dP 104 .rw::l)=y (.bool (p.keys.any λk=>decide (k.2>(s.az.length:Int))),h++.box s.dP 104 .rw::l):=λl=>Cl (by omega) λc=>by
  rw[k5 aL 129]
  exact Jx c (by rw[nR,qg];rfl)
 have bu:=R9 (vs:=iu) p rfl
 unfold DA ky
 simp only[aU,↓aI,aV,cQ ai,cr,a_,tf _ ah,uS,R8,bu,uT,afH,afG,ae' p b,g,oM,e4,ku,kv,rl,q7,cO (show i<9223372036854775807 by omega)]
 cases l0 p with
 |false=>rfl
 |true=>cases (p.keys.any λk=>decide (k.2>(s.az.length:Int)))<;>rfl
def w_(s:aH):fc×Bool:=
 if(decide ((s.az.length:Int)>31)||(s.bO==6&&decide ((s.az.length:Int)>0)))=V then((⟨#[115,97,109,112,108,101,115]⟩,0,4),V)
 else match s.az.findIdx? (λx=>!kP x)with
  |some i=>((⟨#[115,97,109,112,108,101,115]⟩,i,1),V)
  |none=>
   if(decide ((s.ag.length:Int)>31)||(!eL s.bO 6&&decide ((s.ag.length:Int)>0)))=V then((⟨#[105,110,115,116,115]⟩,0,4),V)
   else match s.ag.findIdx? (λp=>ky s p !=0)with
    |some i=>((⟨#[105,110,115,116,115]⟩,i,(s.ag[i]?.map (ky s)).getD 0),V)
    |none=>(sa,M)
theorem zo(s:aH)(ax:gW s)(h:Z):aL 72 [.agg s.dP] h=y (m_ (w_ s),h):=by
 obtain⟨N,b⟩:∃N:Nat,s.ag.length<N:=⟨_,fC _⟩
 refine cu (F:=Dz) (by kernel_rfl) N ?_
 rw[aby];unfold Pn w_
 have c:∀h,aL 124 [lx s.az,.func 125 [] []] h=y (J E (lv (λx=>!kP x) s.az),h):=λh=>zC (by have:=ax.az;omega) λx ae=>by
  rw[k5 aL 125]
  have ae:=ax.lz x ae
  exact afr x (by omega) (by omega) h
 simp only[aU,↓aI,aV,R0,RZ,R2,R3,nU,rk,afI,c,Kd,oM,lr,e4,ku,kv,rl]
 cases (decide ((s.az.length:Int)>31)||(s.bO==6&&decide ((s.az.length:Int)>0)))with
 |true=>rfl
 |false=>
  simp only[bn,bh]
  cases s.az.findIdx? (λx=>!kP x)with
  |some i=>simp only[Kf,a_];rfl
  |none=>
   simp only[Ke,bn,bh]
   cases (decide ((s.ag.length:Int)>31)||(!eL s.bO 6&&decide ((s.ag.length:Int)>0)))with
   |true=>rfl
   |false=>
    simp only[bn,bh]
    refine oH s.ag (λp=>ky s p !=0) (λi=>[J E (i:Int)]) b rfl (λi p ai ah af K=>?_) (λi p ai ah af h1 h2 K=>?_) (λh1 h2 K=>?_)
    ·rw[R_ ax ai ah K,aW (by rw[af];decide)]
    ·rw[R_ ax ai ah K,aP af,h1]
     simp only[ah,dw,ob]
    ·rw[h1]
     unfold DA
     simp only[aU,↓aI,aV,gl,c4,bn,bh,lr,e4,ku,kv,rl]
     rfl
def tg(s:aH):List (Nat×fc×Bool):=[(68,w6 s),(69,w9 s),(70,w7 s),(71,w8 s),(72,w_ s)]
def F2:fc:=(⟨#[]⟩,-1,0)
def k_(s:aH):fc:=match (tg s).find? (λa=>a.2.2)with|some a=>a.2.1|none=>F2
def w'(f:fc):U:=.tuple [.str f.1,J E f.2.1,J E f.2.2]
theorem Sa{s:aH}(ax:gW s){a:Nat×fc×Bool}(ha:a∈tg s)(h:Z):gz aL (.func a.1 [.agg s.dP] []) [] h=y (m_ a.2,h):=by
 unfold tg at ha
 simp only[hF,ik,h6]at ha
 rcases ha with rfl|rfl|rfl|rfl|rfl
 ·rw[k5 aL 68];exact afy s ax h
 ·rw[k5 aL 69];exact afF s ax h
 ·rw[k5 aL 70];exact afz s ax h
 ·rw[k5 aL 71];exact afA s ax h
 ·rw[k5 aL 72];exact zo s ax h
theorem afJ(s:aH):cV Cf [(0,13,.agg s.cs),(13,29,.agg (dm s.bO))]=y s.dP:=by
 rw[Ja (size:=13) (v:=.agg s.cs) rfl (by decide) (sA rfl),Ja (size:=29) (v:=.agg (dm s.bO)) (m7 _) (by decide) (sA rfl),lr]
 show y (s.cs++dm s.bO++[])=_
 rw[fD];rfl
theorem afK(s:aH)(vs:List U)(t:a1)(l:Z):bf 42 (.ptr 0 0) (.agg s.dP) (.box vs t .rw::l)=(cF vs 0 s.dP).map λck=>.box ck t .rw::l:=jh (J_ s) (by decide)
theorem afL(s:aH){vs:List U}(ay:vs.length=42):cF vs 0 s.dP=y s.dP:=ib (by rw[ay,J_]) (by unfold aH.dP;rw[List.all_append,s_];rfl)
theorem uU(d:Int)(vs:List U)(t:a1)(l:Z):bf 29 (.ptr 0 0) (.agg (dm d)) (.box vs t .rw::l)=(cF vs 0 (dm d)).map λck=>.box ck t .rw::l:=jh (m7 d) (by decide)
theorem xa(d:Int){vs:List U}(ay:vs.length=29):cF vs 0 (dm d)=y (dm d):=ib (by rw[ay,m7]) (s_ d)
theorem Sb(d:Int):e7 V 0 29 (dm d)=y (.agg (dm d)):=gh (m7 d)
theorem afM(a b c d e:Nat)(xs:List U):cV (h_ [.mT] 5) [(0,1,.func a xs []),(1,1,.func b xs []),(2,1,.func c xs []),(3,1,.func d xs []),(4,1,.func e xs [])]=y [.func a xs [],.func b xs [],.func c xs [],.func d xs [],.func e xs []]:=ca rfl
theorem afN(a b c d e:U):h9 1 5 [a,b,c,d,e]=[[a],[b],[c],[d],[e]]:=ca rfl
theorem xb(f:fc)(vs:List U)(t:a1)(l:Z):bf 3 (.ptr 0 0) (.agg (e3 f)) (.box vs t .rw::l)=(cF vs 0 (e3 f)).map λck=>.box ck t .rw::l:=jh rfl (by decide)
theorem zO(f:fc)(a b c:U):cF [a,b,c] 0 (e3 f)=y (e3 f):=ib rfl rfl
theorem Kg(f:fc):(e3 f)[0]?=y (.str f.1):=ca rfl
theorem Kh(f:fc):(e3 f)[1]?=y (J E f.2.1):=ca rfl
theorem zP(f:fc):(e3 f)[2]?=y (J E f.2.2):=ca rfl
theorem zQ(h l:Z)(a:ByteArray)(k k':IntKind)(m n:Int):aN [.aj,.aj,.aj] h (h++l) [.str a,.int k m,.int k' n]=y (.tuple [.str a,.int k m,.int k' n],h):=Zq rfl rfl rfl
theorem Sc(s:aH)(ax:gW s)(h:Z):aL 24 [.agg s.cs] h=y (w' (k_ s),h):=by
 obtain⟨N,e⟩:∃N:Nat,5<N:=⟨_,fC _⟩
 refine cu (F:=CF) (by kernel_rfl) N ?_
 rw[aa0];unfold OO k_
 have br:=xa s.bO (vs:=e8) rfl
 have aE:=afJ s
 have ah:=afL s (vs:=Cf) rfl
 simp only[aU,↓aI,aV,ri,uA,uU,br,ly,Sb,aE,afK,ah,R4,afM,afN,Y3]
 refine oH (tg s) (λa=>a.2.2) (λi=>[J E (i:Int)]) e rfl (λi a ai ha af K=>?_) (λi a ai ha af h1 h2 K=>?_) (λh1 h2 K=>?_)
 ·have c:([[U.func 68 [.agg s.dP] []],[.func 69 [.agg s.dP] []],[.func 70 [.agg s.dP] []],[.func 71 [.agg s.dP] []],[.func 72 [.agg s.dP] []]]:List (List U))[i]?=y [.func a.1 [.agg s.dP] []]:=by
   have:((tg s).map λa=>[U.func a.1 [.agg s.dP] []])[i]?=y [.func a.1 [.agg s.dP] []]:=by rw[iM,ha];rfl
   exact this
  have b:((i:Int)<((5:Nat):Int))=True:=kk (by have:i<5:=ai;omega)
  unfold CG
  simp only[aU,↓aI,aV,b,cr,a_,N6 (sz:=1) .i64 (show i<5 from ai),Og,Of,Oe 5 rfl c,ki,Sa ax (dN ha),m_,xb,zO,af,bn,bh,cO (show i<9223372036854775807 by have:i<5:=ai;omega),Zo]
 ·have c:([[U.func 68 [.agg s.dP] []],[.func 69 [.agg s.dP] []],[.func 70 [.agg s.dP] []],[.func 71 [.agg s.dP] []],[.func 72 [.agg s.dP] []]]:List (List U))[i]?=y [.func a.1 [.agg s.dP] []]:=by
   have:((tg s).map λa=>[U.func a.1 [.agg s.dP] []])[i]?=y [.func a.1 [.agg s.dP] []]:=by rw[iM,ha];rfl
   exact this
  have b:((i:Int)<((5:Nat):Int))=True:=kk (by have:i<5:=ai;omega)
  unfold CG
  simp only[aU,↓aI,aV,b,cr,a_,N6 (sz:=1) .i64 (show i<5 from ai),Og,Of,Oe 5 rfl c,ki,Sa ax (dN ha),m_,xb,zO,af,Kg,Kh,zP,zQ,B6,h1,ha,dy,w']
 ·unfold CG
  have b:(((tg s).length:Int)<((5:Nat):Int))=False:=dI (by show ¬(((5:Nat):Int)<((5:Nat):Int));omega)
  simp only[aU,↓aI,aV,b,c4,bn,bh,zQ,B6,h1,Option.bind_none]
  rfl
theorem uC(s:aH)(ax:gW s)(h:Z):aL 16 [.agg s.cs] h=y (.bool ((k_ s).2.2==0),h):=by
 refine cu (F:=CC) (by kernel_rfl) 1 ?_
 rw[aaY];unfold OM
 simp only[aU,↓aI,aV,ly,Sc s ax,w',I4,I5,I6,dJ]
theorem uV(a:Int):(bA a)[0]?=y (J E a):=ca rfl
def hM(ok:Bool)(part:ByteArray)(e:Int):fc:=if ok=V then sa else(part,0,e)
def zR(l:List fc):U:=.bE 3 (l.map e3)
theorem afO(l:List fc):bB M (zR l)=y (J E l.length):=s0
theorem Sd{l:List fc}{i:Nat}{c:fc}(k:IntKind)(h:l[i]?=y c):bY 3 (zR l) (.int k i)=y (.fz (e3 c) 0):=r1 k h
theorem Se(f:fc):e7 V 0 3 (e3 f)=y (.agg (e3 f)):=gh rfl
theorem afP(h l:Z)(f:fc)(b:Bool):aN [.aj,.aj] h (h++l) [.agg (e3 f),.bool b]=y (.tuple [.agg (e3 f),.bool b],h):=Jd rfl rfl
def pz(l:List fc):fc×Bool:=match l.find? gJ with|some f=>(f,V)|none=>(sa,M)
theorem Sf(ok:Bool)(part:ByteArray)(e:Int)(h:Z):aL 136 [.bool ok,.str part,J E e] h=y (.agg (e3 (hM ok part e)),h):=by
 refine cu (F:=EL) (by kernel_rfl) 1 ?_
 rw[adX];unfold Qk hM
 simp only[aU,↓aI,aV,oM,lr,e4,ku,kv,qn]
 cases ok<;>rfl
theorem Sg(l:List fc)(hm:l.length<9223372036854775808)(h:Z):aL 135 [zR l] h=y (m_ (pz l),h):=by
 obtain⟨N,b⟩:∃N:Nat,l.length<N:=⟨_,fC _⟩
 refine cu (F:=EJ) (by kernel_rfl) N ?_
 rw[adW];unfold Qj pz
 simp only[aU,↓aI,aV,afO]
 refine oH l gJ (λi=>[J E (i:Int)]) b rfl (λi a ai ha af K=>?_) (λi a ai ha af h1 h2 K=>?_) (λh1 h2 K=>?_)
 ·unfold gJ at af
  unfold EK
  simp only[aU,↓aI,aV,cQ ai,cr,a_,Sd _ ha,Se,xb,zO,zP,af,bn,bh,cO (show i<9223372036854775807 by omega),Zn]
 ·have c:=af
  unfold gJ at af
  unfold EK
  simp only[aU,↓aI,aV,cQ ai,cr,a_,Sd _ ha,Se,xb,zO,zP,af,afP,B6,h1,ha,dy,m_]
 ·unfold EK
  simp only[aU,↓aI,aV,gl,c4,bn,bh,lr,e4,ku,kv,rl,B6,h1,Option.bind_none,m_]
  rfl
def jC{α:Type}(part:ByteArray)(code:α->Int)(l:List α):fc:=match l.findIdx? (λa=>code a !=0)with|some i=>(part,i,(l[i]?.map code).getD 0)|none=>sa
theorem zS{α:Type}{part:ByteArray}{code:α->Int}{l:List α}{i:Nat}{a:α}(h1:l.findIdx? (λa=>code a !=0)=y i)(h2:l[i]?=y a):jC part code l=(part,(i:Int),code a):=by
 unfold jC;rw[h1];simp only[h2,dw,ob]
theorem xc{α:Type}{part:ByteArray}{code:α->Int}{l:List α}(h1:l.findIdx? (λa=>code a !=0)=none):jC part code l=sa:=by
 unfold jC;rw[h1]
theorem Sh(s:aH)(ax:gW s)(p:d_)(e:p.2.length<9223372036854775808)(h:Z):aL 164 [.agg s.cs,.agg (dL p),J E (f' s.bO 3)] h=y (J E (kx s p),h):=by
 obtain⟨N,b⟩:∃N:Nat,p.2.length<N:=⟨_,fC _⟩
 refine cu (F:=Fm) (by kernel_rfl) N ?_
 rw[aek];unfold QJ kx sb
 simp only[aU,↓aI,aV,F1,sc,zM,afE p e,qc]
 cases ((f' s.bO 3 !=0&&p.1 !=f' s.bO 3)||!nS p.1 p.2 s.ch)with
 |true=>rfl
 |false=>
  simp only[bn,bh,sy]
  refine oH p.2 (λc=>!pr s.bO c) (λi=>[J E (i:Int)]) b rfl (λi a ai ha af K=>?_) (λi a ai ha af h1 h2 K=>?_) (λh1 h2 K=>?_)
  ·unfold Fp
   simp only[aU,↓aI,aV,rm,lZ,cQ ai,cr,a_,ri,ps _ ha,Kb,Rc,af,bn,bh,cO (show i<9223372036854775807 by omega),q7]
  ·unfold Fp
   simp only[aU,↓aI,aV,rm,lZ,cQ ai,cr,a_,ri,ps _ ha,Kb,Rc,af,qc,h2]
  ·unfold Fp
   simp only[aU,↓aI,aV,rm,lZ,gl,c4,bn,bh,h2]
   refine oH p.2 (λc=>decide (c.inst>hS s)) (λi=>[J E (i:Int)]) b rfl (λi a ai ha af K=>?_) (λi a ai ha af h1 h2 K=>?_) (λh1 h2 K=>?_)
   ·unfold Fo
    simp only[aU,↓aI,aV,rm,lZ,cQ ai,cr,a_,ri,ps _ ha,Kc,ly,R6,af,bn,bh,cO (show i<9223372036854775807 by omega),q7]
   ·unfold Fo
    simp only[aU,↓aI,aV,rm,lZ,cQ ai,cr,a_,ri,ps _ ha,Kc,ly,R6,af,qc,h2]
   ·unfold Fo
    simp only[aU,↓aI,aV,rm,lZ,gl,c4,bn,bh,h2,qc]
theorem afQ(s:aH)(ax:gW s)(h:Z):aL 138 [.agg s.cs,J E (f' s.bO 3)] h=y (.agg (e3 (jC ⟨#[112,97,116,116,101,114,110,115]⟩ (kx s) s.aw)),h):=by
 obtain⟨N,c⟩:∃N:Nat,s.aw.length<N:=⟨_,fC _⟩
 refine cu (F:=EO) (by kernel_rfl) N ?_
 rw[adZ];unfold Qm
 have hm:=ax.aw
 simp only[aU,↓aI,aV,ql,qm]
 refine oH s.aw (λp=>kx s p !=0) (λi=>[J E (i:Int)]) c rfl (λi a ai ha af K=>?_) (λi a ai ha af h1 h2 K=>?_) (λh1 h2 K=>?_)
 ·have b:=Sh s ax a (ax.cells a (dN ha))
  unfold EP
  simp only[aU,↓aI,aV,cQ ai,cr,a_,ly,ql,te _ ha,sc,b,af,bn,bh,cO (show i<9223372036854775807 by omega),q7]
 ·have b:=Sh s ax a (ax.cells a (dN ha))
  unfold EP
  simp only[aU,↓aI,aV,cQ ai,cr,a_,ly,ql,te _ ha,sc,b,af,oM,e4,ku,kv,qn,zS h1 ha,e3]
 ·unfold EP
  simp only[aU,↓aI,aV,gl,c4,bn,bh,lr,e4,ku,kv,qn,xc h1]
  rfl
theorem afR(s:aH)(ax:gW s)(h:Z):aL 139 [.agg s.cs] h=y (.agg (e3 (jC ⟨#[111,114,100,101,114,115]⟩ (λo=>if k9 s o=V then 10 else 0) s.bk)),h):=by
 obtain⟨N,b⟩:∃N:Nat,s.bk.length<N:=⟨_,fC _⟩
 refine cu (F:=ER) (by kernel_rfl) N ?_
 rw[ad0];unfold Qn
 have hm:=ax.bk
 have ah:∀o,((if k9 s o=V then(10:Int)else 0) !=0)=k9 s o:=λo=>by cases k9 s o<;>rfl
 simp only[aU,↓aI,aV,zN,lV]
 refine oH s.bk (λo=>(if k9 s o=V then(10:Int)else 0) !=0) (λi=>[J E (i:Int)]) b rfl (λi a ai ha af K=>?_) (λi a ai ha af h1 h2 K=>?_) (λh1 h2 K=>?_)
 ·simp only[ah]at af
  unfold k9 at af
  unfold ES
  simp only[aU,↓aI,aV,cQ ai,cr,a_,nQ _ ha,uV,w5,ql,qm,s4,af,bn,bh,cO (show i<9223372036854775807 by omega),q7]
 ·have e:=af
  simp only[ah]at af
  have c:=af
  unfold k9 at af
  unfold ES
  simp only[aU,↓aI,aV,cQ ai,cr,a_,nQ _ ha,uV,w5,ql,qm,s4,af,oM,e4,ku,kv,qn,zS h1 ha,e3,c]
 ·unfold ES
  simp only[aU,↓aI,aV,gl,c4,bn,bh,lr,e4,ku,kv,qn,xc h1]
  rfl
theorem afS(s:aH)(ax:gW s)(h:Z):aL 140 [.agg s.cs] h=y (.agg (e3 (jC ⟨#[112,97,110,115]⟩ (λo=>if(!b9 o 0 256)=V then 5 else 0) s.cy)),h):=by
 obtain⟨N,b⟩:∃N:Nat,s.cy.length<N:=⟨_,fC _⟩
 refine cu (F:=ET) (by kernel_rfl) N ?_
 rw[ad1];unfold Qo
 have hm:=ax.cy
 have ah:∀o:Int,((if(!b9 o 0 256)=V then(5:Int)else 0) !=0)=!b9 o 0 256:=λo=>by cases b9 o 0 256<;>rfl
 simp only[aU,↓aI,aV,w4,lV]
 refine oH s.cy (λo=>(if(!b9 o 0 256)=V then(5:Int)else 0) !=0) (λi=>[J E (i:Int)]) b rfl (λi a ai ha af K=>?_) (λi a ai ha af h1 h2 K=>?_) (λh1 h2 K=>?_)
 ·simp only[ah]at af
  unfold EU
  simp only[aU,↓aI,aV,cQ ai,cr,a_,nQ _ ha,uV,s4,af,bn,bh,cO (show i<9223372036854775807 by omega),q7]
 ·simp only[ah]at af
  unfold EU
  simp only[aU,↓aI,aV,cQ ai,cr,a_,nQ _ ha,uV,s4,af,oM,e4,ku,kv,qn,zS h1 ha,e3]
 ·unfold EU
  simp only[aU,↓aI,aV,gl,c4,bn,bh,lr,e4,ku,kv,qn,xc h1]
  rfl
theorem Ki(c:ey):e7 V 0 13 c.cs=y (.agg c.cs):=gh rfl
theorem afT(s:aH)(ax:gW s)(h:Z):aL 141 [.agg s.cs] h=y (.agg (e3 (jC ⟨#[115,97,109,112,108,101,115]⟩ (λx=>if(!kP x)=V then 1 else 0) s.az)),h):=by
 obtain⟨N,b⟩:∃N:Nat,s.az.length<N:=⟨_,fC _⟩
 refine cu (F:=EV) (by kernel_rfl) N ?_
 rw[ad2];unfold Qp
 have hm:=ax.az
 have ah:∀x:ey,((if(!kP x)=V then(1:Int)else 0) !=0)=!kP x:=λo=>by cases kP o<;>rfl
 simp only[aU,↓aI,aV,py,nU]
 refine oH s.az (λx=>(if(!kP x)=V then(1:Int)else 0) !=0) (λi=>[J E (i:Int)]) b rfl (λi a ai ha af K=>?_) (λi a ai ha af h1 h2 K=>?_) (λh1 h2 K=>?_)
 ·simp only[ah]at af
  have ae:=ax.lz a (dN ha)
  unfold EW
  simp only[aU,↓aI,aV,cQ ai,cr,a_,py,r_ _ ha,Ki,Rr a (by omega) (by omega),af,bn,bh,cO (show i<9223372036854775807 by omega),q7]
 ·simp only[ah]at af
  have ae:=ax.lz a (dN ha)
  unfold EW
  simp only[aU,↓aI,aV,cQ ai,cr,a_,py,r_ _ ha,Ki,Rr a (by omega) (by omega),af,oM,e4,ku,kv,qn,zS h1 ha,e3]
 ·unfold EW
  simp only[aU,↓aI,aV,gl,c4,bn,bh,lr,e4,ku,kv,qn,xc h1]
  rfl
theorem Si(s:aH)(x:c5)(ae:td x)(h:Z):aL 166 [.agg s.cs,.agg x.cs] h=y (J E (ky s x),h):=by
 obtain⟨N,b⟩:∃N:Nat,x.keys.length<N:=⟨_,fC _⟩
 refine cu (F:=Ft) (by kernel_rfl) N ?_
 rw[aem];unfold QL ky
 have c:=ae.keys
 simp only[aU,↓aI,aV,uS,Jk x ae,qc]
 cases l0 x with
 |false=>rfl
 |true=>
  simp only[fg,bn,bh]
  refine oH x.keys (λk=>decide (k.2>(s.az.length:Int))) (λi=>[J E (i:Int)]) b rfl (λi a ai ha af K=>?_) (λi a ai ha af h1 h2 K=>?_) (λh1 h2 K=>?_)
  ·have bw:(cW a)[1]?=y (J E a.2):=rfl
   unfold Fu
   simp only[aU,↓aI,aV,uT,oL,cQ ai,cr,a_,re _ ha,bw,py,nU,af,bn,bh,cO (show i<9223372036854775807 by omega),q7]
  ·have bw:(cW a)[1]?=y (J E a.2):=rfl
   unfold Fu
   simp only[aU,↓aI,aV,uT,oL,cQ ai,cr,a_,re _ ha,bw,py,nU,af,qc,h2]
  ·unfold Fu
   simp only[aU,↓aI,aV,uT,oL,gl,c4,bn,bh,h2,qc]
theorem afU(s:aH)(ax:gW s)(h:Z):aL 142 [.agg s.cs] h=y (.agg (e3 (jC ⟨#[105,110,115,116,115]⟩ (ky s) s.ag)),h):=by
 obtain⟨N,c⟩:∃N:Nat,s.ag.length<N:=⟨_,fC _⟩
 refine cu (F:=EX) (by kernel_rfl) N ?_
 rw[ad3];unfold Qq
 have hm:=ax.ag
 simp only[aU,↓aI,aV,rj,rk]
 refine oH s.ag (λp=>ky s p !=0) (λi=>[J E (i:Int)]) c rfl (λi a ai ha af K=>?_) (λi a ai ha af h1 h2 K=>?_) (λh1 h2 K=>?_)
 ·have b:=Si s a (ax.ins a (dN ha))
  unfold EY
  simp only[aU,↓aI,aV,cQ ai,cr,a_,ly,rj,tf _ ha,uS,b,af,bn,bh,cO (show i<9223372036854775807 by omega),q7]
 ·have b:=Si s a (ax.ins a (dN ha))
  unfold EY
  simp only[aU,↓aI,aV,cQ ai,cr,a_,ly,rj,tf _ ha,uS,b,af,oM,e4,ku,kv,qn,zS h1 ha,e3]
 ·unfold EY
  simp only[aU,↓aI,aV,gl,c4,bn,bh,lr,e4,ku,kv,qn,xc h1]
  rfl
end Go.aM.X
set_option maxRecDepth 20000
namespace Go.aM.X
open Go.bF Go.aM
attribute [local congr] mZ m0 m5 m6 oE q4 q5 r3
def mF(s:aH):List fc:=[hM (k8 s.name) ⟨#[110,97,109,101]⟩ 1,hM (ic s.bO==0) ⟨#[100,105,97,108,101,99,116]⟩ 6,hM (b9 s.ch 1 (f' s.bO 1)) ⟨#[99,104,97,110,110,101,108,115]⟩ 5]
def m'(s:aH):List fc:=[
 hM (b9 s.aw.length 1 (f' s.bO 2)) ⟨#[112,97,116,116,101,114,110,115]⟩ 4,
 jC ⟨#[112,97,116,116,101,114,110,115]⟩ (kx s) s.aw,
 hM (b9 s.bk.length 1 64) ⟨#[111,114,100,101,114,115]⟩ 4,
 jC ⟨#[111,114,100,101,114,115]⟩ (λo=>if k9 s o=V then 10 else 0) s.bk,
 hM (b9 s.rest 0 (IntKind.i64.wrap ((s.bk.length:Int)-1))) ⟨#[114,101,115,116,97,114,116]⟩ 5,
 hM (b9 s.hy 1 31) ⟨#[115,112,101,101,100]⟩ 5,
 hM (b9 s.hz 32 255) ⟨#[116,101,109,112,111]⟩ 5,
 hM (b9 s.hA 0 128) ⟨#[103,108,111,98,97,108]⟩ 5,
 hM (!s.gq||eL s.bO 8) ⟨#[108,105,110,101,97,114]⟩ 6,
 hM ((s.cy.length:Int)==s.ch) ⟨#[112,97,110,115]⟩ 4,
 jC ⟨#[112,97,110,115]⟩ (λo=>if(!b9 o 0 256)=V then 5 else 0) s.cy,
 hM (decide ((s.az.length:Int)<=31)&&(s.bO !=6||(s.az.length:Int)==0)) ⟨#[115,97,109,112,108,101,115]⟩ 4,
 jC ⟨#[115,97,109,112,108,101,115]⟩ (λx=>if(!kP x)=V then 1 else 0) s.az,
 hM (decide ((s.ag.length:Int)<=31)&&(eL s.bO 6||(s.ag.length:Int)==0)) ⟨#[105,110,115,116,115]⟩ 4,
 jC ⟨#[105,110,115,116,115]⟩ (ky s) s.ag]
def xd(s:aH):fc:=match (mF s).find? gJ with|some f=>f|none=>match (m' s).find? gJ with|some f=>f|none=>F2
theorem afV(a b c:fc):cV (h_ [.str ⟨#[]⟩,J E 0,J E 0] 3) [(0,3,.agg (e3 a)),(3,3,.agg (e3 b)),(6,3,.agg (e3 c))]=y ([a,b,c].map e3).flatten:=ca rfl
theorem afW(a b c:fc):([a,b,c].map e3).flatten.all fR=V:=ca rfl
theorem afX(a b c:fc):(U.bE 3 (h9 3 3 ([a,b,c].map e3).flatten))=zR [a,b,c]:=ca rfl
theorem afY(a b c d e f g i j k l m n o p:fc):cV (h_ [.str ⟨#[]⟩,J E 0,J E 0] 15) [(0,3,.agg (e3 a)),(3,3,.agg (e3 b)),(6,3,.agg (e3 c)),(9,3,.agg (e3 d)),(12,3,.agg (e3 e)),(15,3,.agg (e3 f)),(18,3,.agg (e3 g)),(21,3,.agg (e3 i)),(24,3,.agg (e3 j)),(27,3,.agg (e3 k)),(30,3,.agg (e3 l)),(33,3,.agg (e3 m)),(36,3,.agg (e3 n)),(39,3,.agg (e3 o)),(42,3,.agg (e3 p))]=y ([a,b,c,d,e,f,g,i,j,k,l,m,n,o,p].map e3).flatten:=ca (by kernel_rfl)
theorem afZ(a b c d e f g i j k l m n o p:fc):([a,b,c,d,e,f,g,i,j,k,l,m,n,o,p].map e3).flatten.all fR=V:=ca (by kernel_rfl)
theorem af0(a b c d e f g i j k l m n o p:fc):(U.bE 3 (h9 3 15 ([a,b,c,d,e,f,g,i,j,k,l,m,n,o,p].map e3).flatten))=zR [a,b,c,d,e,f,g,i,j,k,l,m,n,o,p]:=ca (by kernel_rfl)
theorem af1(f g:fc):cF (e3 g) 0 (e3 f)=y (e3 f):=ib rfl rfl
theorem af2{s:aH}(ax:gW s)(h:Z):aL 137 [.str s.name] h=y (.bool (k8 s.name),h):=JX (by have:=ax.name;omega) h
theorem af3(s:aH)(ax:gW s)(h:Z):aL 99 [.agg s.cs] h=y (w' (xd s),h):=by
 refine cu (F:=D8) (by kernel_rfl) 1 ?_
 rw[adt];unfold PS xd
 have br:=xa s.bO (vs:=e8) rfl
 have q:=λa b c h=>Sg [a,b,c] (show 3<9223372036854775808 by decide) h
 have t:=λa b c d e f g i j k l m n o p h=>Sg [a,b,c,d,e,f,g,i,j,k,l,m,n,o,p] (show 15<9223372036854775808 by decide) h
 simp only[aU,↓aI,aV,FX,ri,zM,zE,uU,br,af2 ax,Sf,s4,FW,afV,afW,iW,afX,q,m_,xb,zO]
 show(if(pz (mF s)).2=V then _ else _)=_
 have u:∀f,[hM (k8 s.name) ⟨#[110,97,109,101]⟩ 1,hM (ic s.bO==0) ⟨#[100,105,97,108,101,99,116]⟩ 6,hM (b9 s.ch 1 (f' s.bO 1)) ⟨#[99,104,97,110,110,101,108,115]⟩ 5]=f↔mF s=f:=λf=>Iff.rfl
 cases aE:(mF s).find? gJ with
 |some f=>
  have aG:pz (mF s)=(f,V):=by unfold pz;rw[aE]
  unfold mF at aG|-
  simp only[aG,a_,aU,↓aI,aV,Kg,Kh,zP,zQ]
  rfl
 |none=>
  have aG:pz (mF s)=(sa,M):=by unfold pz;rw[aE]
  unfold mF at aG|-
  simp only[aG,bn,bh,aU,↓aI,aV,ri,zM,zN,J4,J5,J6,J7,J8,w4,ql,py,rj,RX,RY,zL,J3,ly,qm,lV,nU,rk,Sf,s4,afQ s ax,afR s ax,afS s ax,afT s ax,afU s ax,afY,afZ,iW,af0,t,m_,xb,af1]
  show(if(pz (m' s)).2=V then _ else _)=_
  cases bG:(m' s).find? gJ with
  |some f=>
   have aF:pz (m' s)=(f,V):=by unfold pz;rw[bG]
   unfold m' at aF|-
   simp only[aF,a_,aU,↓aI,aV,Kg,Kh,zP,zQ]
   rfl
  |none=>
   have aF:pz (m' s)=(sa,M):=by unfold pz;rw[bG]
   unfold m' at aF|-
   simp only[aF,bn,bh,aU,↓aI,aV,zQ]
   rfl
end Go.aM.X
namespace Go.aM.X
open Go.bF Go.aM
theorem oN{ok:Bool}{part:ByteArray}{e:Int}(he:e≠0)(l:List fc):(hM ok part e::l).find? gJ=if(!ok)=V then y (part,0,e)else l.find? gJ:=by
 rw[tQ]
 cases ok with
 |true=>rfl
 |false=>
  have:gJ (hM M part e)=V:=by
   show(e !=0)=V
   rw[kl];exact he
  rw[this];rfl
theorem Kj{α:Type}{p:α->Bool}{l:List α}{i:Nat}(h:l.findIdx? p=y i):∃a,l[i]?=y a/\p a=V:=by
 obtain⟨h1,h2,ak⟩:=List.findIdx?_eq_some_iff_getElem.1 h
 exact⟨_,fJ h1,h2⟩
theorem zT{α:Type}(part:ByteArray)(code:α->Int)(xs:List α)(l:List fc):(jC part code xs::l).find? gJ=match xs.findIdx? (λa=>code a !=0)with|some i=>y (part,(i:Int),(xs[i]?.map code).getD 0)|none=>l.find? gJ:=by
 rw[tQ]
 unfold jC
 cases h:xs.findIdx? (λa=>code a !=0)with
 |none=>rfl
 |some i=>
  obtain⟨a,h1,h2⟩:=Kj h
  simp only[h1,dw,ob]
  have:gJ (part,(i:Int),code a)=V:=h2
  rw[this]
def qo(a:fc×Bool):Option fc:=if a.2=V then y a.1 else none
theorem af4(d:Int):(!(ic d==0))=(f' d 1==0):=by
 rw[afa];unfold ic
 cases b9 d 1 6<;>rfl
theorem af5(s:aH):(mF s).find? gJ=qo (w6 s):=by
 unfold mF w6 qo
 rw[oN (by decide),oN (by decide),oN (by decide),af4]
 cases k8 s.name with
 |false=>rfl
 |true=>cases (f' s.bO 1==0)with
  |true=>rfl
  |false=>cases b9 s.ch 1 (f' s.bO 1)<;>rfl
theorem af6(s:aH)(l:List fc):(hM (b9 s.aw.length 1 (f' s.bO 2)) ⟨#[112,97,116,116,101,114,110,115]⟩ 4::jC ⟨#[112,97,116,116,101,114,110,115]⟩ (kx s) s.aw::l).find? gJ=(qo (w9 s)).or (l.find? gJ):=by
 unfold w9 qo
 rw[oN (by decide),zT]
 cases b9 (s.aw.length:Int) 1 (f' s.bO 2)with
 |false=>rfl
 |true=>
  simp only[fg,bn,bh]
  cases s.aw.findIdx? (λp=>kx s p !=0)with
  |none=>rfl
  |some i=>rfl
theorem Kk{α:Type}{p:α->Bool}{c:Int}(aa:c≠0)(l:List α):l.findIdx? (λo=>(if p o=V then c else 0) !=0)=l.findIdx? p:=by
 congr 1
 funext o
 cases p o with
 |true=>simp only[a_,kl,ne_eq];exact aa
 |false=>rfl
theorem Kl{α:Type}{p:α->Bool}{c:Int}{l:List α}{i:Nat}(h:l.findIdx? p=y i):(l[i]?.map λo=>if p o=V then c else 0).getD 0=c:=by
 obtain⟨a,h1,h2⟩:=Kj h
 rw[h1]
 simp only[dw,ob,h2,a_]
theorem af7(s:aH)(l:List fc):(hM (b9 s.bk.length 1 64) ⟨#[111,114,100,101,114,115]⟩ 4::jC ⟨#[111,114,100,101,114,115]⟩ (λo=>if k9 s o=V then 10 else 0) s.bk::hM (b9 s.rest 0 (IntKind.i64.wrap ((s.bk.length:Int)-1))) ⟨#[114,101,115,116,97,114,116]⟩ 5::l).find? gJ=(qo (w7 s)).or (l.find? gJ):=by
 unfold w7 qo
 rw[oN (by decide),zT,Kk (by decide)]
 cases b9 (s.bk.length:Int) 1 64 with
 |false=>rfl
 |true=>
  simp only[fg,bn,bh]
  cases h:s.bk.findIdx? (k9 s)with
  |some i=>simp only[Kl h];rfl
  |none=>
   simp only
   rw[oN (by decide)]
   cases b9 s.rest 0 (IntKind.i64.wrap ((s.bk.length:Int)-1))<;>rfl
theorem af8(s:aH)(l:List fc):(hM (b9 s.hy 1 31) ⟨#[115,112,101,101,100]⟩ 5::hM (b9 s.hz 32 255) ⟨#[116,101,109,112,111]⟩ 5::hM (b9 s.hA 0 128) ⟨#[103,108,111,98,97,108]⟩ 5::hM (!s.gq||eL s.bO 8) ⟨#[108,105,110,101,97,114]⟩ 6::hM ((s.cy.length:Int)==s.ch) ⟨#[112,97,110,115]⟩ 4::jC ⟨#[112,97,110,115]⟩ (λo=>if(!b9 o 0 256)=V then 5 else 0) s.cy::l).find? gJ=(qo (w8 s)).or (l.find? gJ):=by
 unfold w8 qo
 have aG:(!(!s.gq||eL s.bO 8))=(s.gq&&!eL s.bO 8):=by cases s.gq<;>cases eL s.bO 8<;>rfl
 have aF:(!((s.cy.length:Int)==s.ch))=((s.cy.length:Int) !=s.ch):=rfl
 rw[oN (by decide),oN (by decide),oN (by decide),oN (by decide),oN (by decide),zT,Kk (p:=λo=>!b9 o 0 256) (by decide),aG,aF]
 cases b9 s.hy 1 31 with
 |false=>rfl
 |true=>cases b9 s.hz 32 255 with
  |false=>rfl
  |true=>cases b9 s.hA 0 128 with
   |false=>rfl
   |true=>cases (s.gq&&!eL s.bO 8)with
    |true=>rfl
    |false=>cases ((s.cy.length:Int) !=s.ch)with
     |true=>rfl
     |false=>
      simp only[fg,bn,bh]
      cases h:s.cy.findIdx? (λo=>!b9 o 0 256)with
      |none=>rfl
      |some i=>simp only[Kl h];rfl
theorem af9(s:aH)(l:List fc):(hM (decide ((s.az.length:Int)<=31)&&(s.bO !=6||(s.az.length:Int)==0)) ⟨#[115,97,109,112,108,101,115]⟩ 4::jC ⟨#[115,97,109,112,108,101,115]⟩ (λx=>if(!kP x)=V then 1 else 0) s.az::hM (decide ((s.ag.length:Int)<=31)&&(eL s.bO 6||(s.ag.length:Int)==0)) ⟨#[105,110,115,116,115]⟩ 4::jC ⟨#[105,110,115,116,115]⟩ (ky s) s.ag::l).find? gJ=(qo (w_ s)).or (l.find? gJ):=by
 unfold w_ qo
 have aG:(!(decide ((s.az.length:Int)<=31)&&(s.bO !=6||(s.az.length:Int)==0)))=(decide ((s.az.length:Int)>31)||(s.bO==6&&decide ((s.az.length:Int)>0))):=by
  rw[pP]
  simp only[mf,qG,rE,iA,bne_eq_false_iff_eq,jV,mM,dn,eJ,i',ne_eq]
  omega
 have aF:(!(decide ((s.ag.length:Int)<=31)&&(eL s.bO 6||(s.ag.length:Int)==0)))=(decide ((s.ag.length:Int)>31)||(!eL s.bO 6&&decide ((s.ag.length:Int)>0))):=by
  rw[pP]
  simp only[mf,qG,rE,iA,jV,mM,dn,eJ,ne_eq]
  cases eL s.bO 6 with
  |true=>simp only[x8,false_and,h6,fg,bn];omega
  |false=>simp only[true_and,gN];omega
 rw[oN (by decide),zT,Kk (p:=λx=>!kP x) (by decide),oN (by decide),zT,aG,aF]
 cases (decide ((s.az.length:Int)>31)||(s.bO==6&&decide ((s.az.length:Int)>0)))with
 |true=>rfl
 |false=>
  simp only[bn,bh]
  cases h:s.az.findIdx? (λx=>!kP x)with
  |some i=>simp only[Kl h];rfl
  |none=>
   simp only
   cases (decide ((s.ag.length:Int)>31)||(!eL s.bO 6&&decide ((s.ag.length:Int)>0)))with
   |true=>rfl
   |false=>
    simp only[bn,bh]
    cases s.ag.findIdx? (λp=>ky s p !=0)<;>rfl
theorem Km(s:aH):k_ s=xd s:=by
 unfold k_ xd
 rw[af5]
 unfold m'
 rw[af6,af7,af8,af9]
 unfold tg qo
 cases h1:(w6 s).2 with
 |true=>simp only[tQ,h1];rfl
 |false=>cases h2:(w9 s).2 with
  |true=>simp only[tQ,h1,h2];rfl
  |false=>cases ak:(w7 s).2 with
   |true=>simp only[tQ,h1,h2,ak];rfl
   |false=>cases aJ:(w8 s).2 with
    |true=>simp only[tQ,h1,h2,ak,aJ];rfl
    |false=>cases aO:(w_ s).2 with
     |true=>simp only[tQ,h1,h2,ak,aJ,aO];rfl
     |false=>simp only[tQ,h1,h2,ak,aJ,aO];rfl
end Go.aM.X
namespace Go.aM.X
open Go.bF Go.aM
attribute [local congr] mZ m0 m5 m6 oE q4 q5 r3
def l3(n:Int):Int:=IntKind.i64.wrap n
def zU(s:aH):Int:=
 s.ag.foldl (λn x=>l3 (n+l3 (l3 (l3 (l3 (l3 (1+x.keys.length)+x.bq.dk.length)+x.bm.dk.length)+x.bo.dk.length)+x.name.size)))
  (s.az.foldl (λn x=>l3 (n+l3 (l3 (1+x.data.length)+x.name.size)))
    (s.aw.foldl (λn p=>l3 (n+l3 (1+p.2.length))) (l3 (l3 (s.bk.length+s.cy.length)+s.name.size))))
theorem af_(p:ey)(vs:List U)(t:a1)(l:Z):bf 13 (.ptr 0 0) (.agg p.cs) (.box vs t .rw::l)=(cF vs 0 p.cs).map λck=>.box ck t .rw::l:=jh rfl (by decide)
theorem af'(p:ey){vs:List U}(h:vs.length=13):cF vs 0 p.cs=y p.cs:=ib (by rw[h];rfl) rfl
def Sj:List U:=[.str ⟨#[]⟩,.a7,J E 0,J E 0,J E 0,J E 0,J E 0,J E 0,J E 0,J E 0,J E 0,J E 0,J E 0]
theorem aga(p:ey):p.cs[0]?=y (.str p.name):=ca rfl
theorem agb(p:ey):p.cs[1]?=y (dz p.data):=ca rfl
theorem Kn(p:c5):p.cs[0]?=y (.str p.name):=ca rfl
theorem agc(p:c5):p.cs[3]?=y (ig p.bq.dk):=ca rfl
theorem agd(p:c5):p.cs[11]?=y (ig p.bm.dk):=ca rfl
theorem age(p:c5):p.cs[19]?=y (ig p.bo.dk):=ca rfl
theorem xe(v w:U)(vs:List U):aK (v::w::vs) 1=w:=ca rfl
theorem uB(s:aH)(ax:gW s)(h:Z):aL 7 [.agg s.cs] h=y (.bool (decide (zU s<=60000)),h):=by
 obtain⟨N,h1,h2,ak⟩:∃N:Nat,s.aw.length<N/\s.az.length<N/\s.ag.length<N:=⟨s.aw.length+s.az.length+s.ag.length+1,by omega,by omega,by omega⟩
 refine cu (F:=Cm) (by kernel_rfl) N ?_
 rw[aaQ];unfold OE zU l3
 have m1:=ax.aw
 have m2:=ax.az
 have m3:=ax.ag
 simp only[aU,↓aI,aV,FX,zN,w4,ql,lV,oD,qm]
 refine Jg s.aw (λn p=>IntKind.i64.wrap (n+IntKind.i64.wrap (1+p.2.length))) _ (λn i=>[J E n,J E (i:Int)]) h1 rfl (λi p n ai ah K=>?_) λK=>?_
 ·unfold Jn
  simp only[aU,↓aI,aV,xe,cQ ai,cr,a_,te _ ah,sc,FZ,F0,rm,lZ,cO (show i<9223372036854775807 by omega),Jc]
 ·unfold Jn
  simp only[aU,↓aI,aV,xe,gl,c4,bn,bh,py,nU]
  refine Jg s.az (λn x=>IntKind.i64.wrap (n+IntKind.i64.wrap (IntKind.i64.wrap (1+x.data.length)+x.name.size))) _ (λn i=>[J E n,J E (i:Int)]) h2 rfl (λi p n ai ah K=>?_) λK=>?_
  ·have bu:=af' (vs:=Sj) p rfl
   unfold Sj at bu
   unfold Jm
   simp only[aU,↓aI,aV,xe,cQ ai,cr,a_,r_ _ ah,Ki,af_,bu,aga,agb,lV,oD,cO (show i<9223372036854775807 by omega),Jc]
  ·unfold Jm
   simp only[aU,↓aI,aV,xe,gl,c4,bn,bh,rj,rk]
   refine Jg s.ag (λn x=>IntKind.i64.wrap (n+IntKind.i64.wrap (IntKind.i64.wrap (IntKind.i64.wrap (IntKind.i64.wrap (IntKind.i64.wrap (1+x.keys.length)+x.bq.dk.length)+x.bm.dk.length)+x.bo.dk.length)+x.name.size))) _ (λn i=>[J E n,J E (i:Int)]) ak rfl (λi p n ai ah K=>?_) λK=>?_
   ·have bu:=R9 (vs:=iu) p rfl
    unfold Jl
    simp only[aU,↓aI,aV,xe,cQ ai,cr,a_,tf _ ah,uS,R8,bu,Kn,uT,agc,agd,age,oL,ta,oD,cO (show i<9223372036854775807 by omega),Jc]
   ·unfold Jl
    simp only[aU,↓aI,aV,xe,gl,c4,bn,bh,dJ]
def rn:Cell:=⟨0,0,0,0,0,0⟩
theorem agf(x au:U)(k:IntKind)(m:Int)(b lo n v sz:Nat):cV [x,au] [(0,1,.int k m),(1,1,.ref b lo n v sz)]=y [.int k m,.ref b lo n v sz]:=ca rfl
theorem agh(x au:U)(k:IntKind)(m:Int)(b lo n v sz:Nat):cF [x,au] 0 [.int k m,.ref b lo n v sz]=y [.int k m,.ref b lo n v sz]:=ca rfl
theorem agi(a b:U):e7 V 0 2 [a,b]=y (.agg [a,b]):=ca rfl
theorem agj(r ch:Int)(an:b9 r 1 64=V)(aa:b9 ch 1 16=V)(h:Z):aL 55 [J E r,J E ch] h=y (.tuple [.agg (dL (r,dF (r*ch).toNat rn)),J E 0],h):=by
 refine cu (F:=Dq) (by kernel_rfl) 1 ?_
 rw[abp];unfold Pe
 have gQ:=an
 have b:=aa
 unfold b9 at gQ b
 simp only[dn,eJ]at gQ b
 have i:r*ch<=64*16:=xW gQ.2 b.2 (by omega) (by omega)
 have j:1*1<=r*ch:=xW gQ.1 b.1 (by omega) (by omega)
 obtain⟨N,g⟩:∃N:Nat,r*ch=(N:Int):=⟨(r*ch).toNat,by omega⟩
 have cb:IntKind.i64.wrap (r*ch)=(N:Int):=by rw[wrap64 (by unfold dB;omega),g]
 have hm:N<=dp:=by unfold dp;omega
 have bu:(dF N ([J E 0,J E 0,J E 0,J E 0,J E 0,J E 0]:List U))=(dF N rn).map Cell.cs:=by rw[List.map_replicate];rfl
 have bz:((dF N rn).map Cell.cs).length=N:=by simp
 rw[g,mc]
 simp only[aU,↓aI,aV,wL,FK,an,aa,fg,bn,bh,IW,cb,wG hm,bu,agf,mE,agh,agi]
 have e:=zj (h:=h) (l:=[.box [J E r,.ref (h.length+1) 0 N N 6] 39 .rw,.log ((dF N rn).map Cell.cs) 6 41 .rw]) (k:=1) (s:=6) rfl (by rw[bz];omega) (nP (f:=Cell.cs) (λc=>rfl) _)
 rw[bz]at e
 refine q8 (ws:=[.agg (dL (r,dF N rn)),J E 0]) (l:=[.box [J E r,.ref (h.length+1) 0 N N 6] 39 .rw,.log ((dF N rn).map Cell.cs) 6 41 .ro]) ?_ ?_
 ·rw[iV,um,iV,kN,dy,iV]
  show Option.bind (vo _ (vo _ ((cC (.flat 6) (.ref (h.length+1) 0 N N 6) _).bind _))) _=_
  rw[show([J E 0,J E 0,J E 0,J E 0,J E 0,J E 0]:List U).length=6 from rfl,e]
  simp only[b8,qf,jK,iV,kN,List.set_cons_succ,rH]
  rfl
 ·intro v ay
  simp only[hF,ik,h6]at ay
  rcases ay with rfl|rfl
  ·exact j5 rfl
  ·exact j5 rfl
theorem agk(d ch:Int)(b:Bool):cV [.str ⟨#[]⟩,J E 0,J E 0,.a7,J E 0,J E 0,J E 0,J E 0,.bool M,.a7,.a7,.a7,.a7] [(1,1,J E d),(2,1,J E ch),(5,1,J E 6),(6,1,J E 125),(7,1,J E 128),(8,1,.bool b)]=y [.str ⟨#[]⟩,J E d,J E ch,.a7,J E 0,J E 6,J E 125,J E 128,.bool b,.a7,.a7,.a7,.a7]:=ca rfl
theorem xf(a b c d e f g i j k l m n:U)(vs:List U)(t:a1)(r:Z):bf 13 (.ptr 0 0) (.agg [a,b,c,d,e,f,g,i,j,k,l,m,n]) (.box vs t .rw::r)=(cF vs 0 [a,b,c,d,e,f,g,i,j,k,l,m,n]).map λck=>.box ck t .rw::r:=jh rfl (by decide)
theorem zV(a b c d e f g i j k l m n:U):e7 V 0 13 [a,b,c,d,e,f,g,i,j,k,l,m,n]=y (.agg [a,b,c,d,e,f,g,i,j,k,l,m,n]):=ca rfl
theorem F3(a b c d e f g i j k l m n:U):[a,b,c,d,e,f,g,i,j,k,l,m,n][9]?=y k:=ca rfl
theorem Sk(a b c d e f g i j k l m n:U):[a,b,c,d,e,f,g,i,j,k,l,m,n][3]?=y d:=ca rfl
theorem Sl(a b c d e f g i j k l m n:U):[a,b,c,d,e,f,g,i,j,k,l,m,n][10]?=y l:=ca rfl
theorem F4(a b c d e f g i j k l m n:U)(aZ v w x au:Nat):cF [a,b,c,d,e,f,g,i,j,k,l,m,n] 9 [.ref aZ v w x au]=y [a,b,c,d,e,f,g,i,j,.ref aZ v w x au,l,m,n]:=ca rfl
theorem Sm(a b c d e f g i j k l m n:U)(aZ v w x au:Nat):cF [a,b,c,d,e,f,g,i,j,k,l,m,n] 3 [.ref aZ v w x au]=y [a,b,c,.ref aZ v w x au,e,f,g,i,j,k,l,m,n]:=ca rfl
theorem Sn(a b c d e f g i j k l m n:U)(aZ v w x au:Nat):cF [a,b,c,d,e,f,g,i,j,k,l,m,n] 10 [.ref aZ v w x au]=y [a,b,c,d,e,f,g,i,j,k,.ref aZ v w x au,m,n]:=ca rfl
theorem uW(aZ v w x au o:Nat)(vs:List U)(t:a1)(l:Z):bf 1 (.ptr 0 o) (.ref aZ v w x au) (.box vs t .rw::l)=(cF vs o [.ref aZ v w x au]).map λck=>.box ck t .rw::l:=gB rfl o vs t l
theorem qp(z:U)(k:IntKind)(n:Int):cV (h_ [z] 1) [(0,1,.int k n)]=y [.int k n]:=Y5 z k n
theorem qq(k:IntKind)(n:Int):[U.int k n].all fR=V:=ca rfl
theorem qs(v:U):h9 1 1 [v]=[[v]]:=ca rfl
theorem Sp(a b c d:Int):cV [J E 0,J E 0,J E 0,J E 0] [(0,1,J E a),(1,1,J E b),(2,1,J E c),(3,1,J E d)]=y [J E a,J E b,J E c,J E d]:=ca rfl
def agl:List Int:=[0,256,256,0]
def F5(d:Int)(c:Nat):Int:=if d=1 then agl.getD c 0 else 128
def kz(d:Int)(n:Nat):List Int:=(fj n).map (F5 d)
def cG(n:Nat):List Int:=(fj n).map Int.ofNat
def gK(ch:Nat):d_:=(64,dF (64*ch) rn)
def F6(d:Int)(ch n:Nat):aH:={ name:=⟨#[]⟩,bO:=d,ch:=ch,bk:=cG n,rest:=0,hy:=6,hz:=125,hA:=128,gq:=eL d 8,cy:=kz d ch,aw:=dF n (gK ch),az:=[],ag:=[] }
def l4:aH:={ name:=⟨#[]⟩,bO:=0,ch:=0,bk:=[],rest:=0,hy:=0,hz:=0,hA:=0,gq:=M,cy:=[],aw:=[],az:=[],ag:=[] }
theorem agm{d:Int}(hd:d=1){i:Nat}(ai:i<4):rT 4 M 1 (.agg [J E 0,J E 256,J E 256,J E 0]) (J E i)=y (J E (F5 d i)):=by
 subst hd
 have:i=0\/i=1\/i=2\/i=3:=by omega
 rcases this with rfl|rfl|rfl|rfl<;>rfl
theorem Ko(d:Int)(n:Nat):(kz d (n+1)).map bA=(kz d n).map bA++[[J E (F5 d n)]]:=by
 unfold kz
 rw[x3,jt,jt];rfl
theorem Sq(n:Nat):(cG (n+1)).map bA=(cG n).map bA++[[J E (n:Int)]]:=by
 unfold cG
 rw[x3,jt,jt];rfl
theorem F7(d:Int)(n:Nat):((kz d n).map bA).length=n:=by simp [kz]
theorem F8(n:Nat):((cG n).map bA).length=n:=by simp [cG]
def eD:b3:=.box [.str ⟨#[]⟩,J E 0,J E 0,.a7,J E 0,J E 0,J E 0,J E 0,.bool M,.a7,.a7,.a7,.a7] 27 .rw
def na(d:Int)(ch:Nat)(b:Bool)(bk cy aw:U):b3:=.box [.str ⟨#[]⟩,J E d,J E ch,bk,J E 0,J E 6,J E 125,J E 128,.bool b,cy,aw,.a7,.a7] 27 .rw
def rp(h:Z)(d:Int)(ch:Nat)(b:Bool)(o:U):Nat->Z
 |0=>h++[eD,.box (dm d) 83 .rw,na d ch b o .a7 .a7]
 |i+1=>h++[eD,.box (dm d) 83 .rw,na d ch b o (.ref (h.length+3) 0 (i+1) (i+1) 1) .a7,.log ((kz d (i+1)).map bA) 1 3 .rw]
theorem Sr{h l:Z}{a b c:b3}{sz n:Nat}{t:a1}{rows:List (List U)}{row:List U}(aA:n=rows.length)(aB:0<sz)(ah:row.all dt=V)(hm:n<dp):
 eC t sz (.ref (h.length+3) 0 n n sz) (.bE sz [row]) (h++a::b::c::.log rows sz t .rw::l)=y (.ref (h.length+3) 0 (n+1) (n+1) sz,h++a::b::c::.log (rows++[row]) sz t .rw::l):=by
 subst aA
 exact wC (k:=3) (l:=a::b::c::.log rows sz t .rw::l) rfl aB ah hm
theorem F9{h:Z}{d:Int}{ch:Nat}{b:Bool}{o p:U}{m1 m2 m3 m4:Nat}{h':Z}{vs:List U}(e:h'[h.length+2]?=y (na d ch b o (.ref (h.length+3) m1 m2 m3 m4) p)):trim (rp h d ch b o 0) vs h'=h':=by
 refine zi (b:=h.length+2) (by show _<(h++_).length;simp) e ?_ (Cd (b:=h.length+3) (lo:=m1) (m:=m2) (v:=m3) (sz:=m4) (by simp) (by show(h++_).length<=_;simp))
 show(h++_)[_]?≠_
 rw[gg]
 intro k
 cases k
theorem agn{N:Nat}{h:Z}{d:Int}{ch:Nat}{b:Bool}{o:U}{k:List U->Z->bl}{i:Nat}(ai:i<ch)(aa:ch<=16)(aJ:d=1->ch<=4)(K:List U->Z->bl):
 zq aL N (J E d) (J E ch) (.ptr (h.length+2) 0) (rp h d ch b o 0) k K [J E (i:Int)] (rp h d ch b o i)=K [J E ((i+1:Nat):Int)] (rp h d ch b o (i+1)):=by
 have e:((i:Int)<(ch:Int))=True:=kk (by omega)
 have g:∀a,([J E a]:List U).all dt=V:=λa=>rfl
 have aB:i<9223372036854775807:=by omega
 by_cases hd:d=1
 ·have c:(d==1)=V:=by rw[hd];rfl
  have ax:=agm hd (show i<4 by have:=aJ hd;omega)
  unfold zq
  cases i with
  |zero=>
   simp only[rp,na,eD,aU,↓aI,aV,e,cr,a_,c,Sp,ax,F3,qp,qq,iW,qs,Cc (sz:=1) (by decide) (g _),Ca,uW,F4,cO aB]
   refine cZ (K _) (e0 (F9 (d:=d) (ch:=ch) (b:=b) (o:=o) (p:=.a7) (m1:=0) (m2:=1) (m3:=1) (m4:=1) ?_) ?_)
   ·rw[gg];rfl
   ·rfl
  |succ i=>
   simp only[rp,na,eD,aU,↓aI,aV,e,cr,a_,c,Sp,ax,F3,qp,qq,iW,qs,Sr (sz:=1) (F7 d (i+1)).symm (by decide) (g _) (show i+1<dp by unfold dp;omega),uW,F4,cO aB]
   refine cZ (K _) (e0 (F9 (d:=d) (ch:=ch) (b:=b) (o:=o) (p:=.a7) (m1:=0) (m2:=i+1+1) (m3:=i+1+1) (m4:=1) ?_) ?_)
   ·rw[gg];rfl
   ·rw[Ko d (i+1)]
 ·have c:(d==1)=M:=by simpa using hd
  have j:∀i,F5 d i=128:=λi=>aW hd
  unfold zq
  cases i with
  |zero=>
   simp only[rp,na,eD,aU,↓aI,aV,e,cr,a_,c,bn,bh,F3,qp,qq,iW,qs,Cc (sz:=1) (by decide) (g _),Ca,uW,F4,cO aB]
   refine cZ (K _) (e0 (F9 (d:=d) (ch:=ch) (b:=b) (o:=o) (p:=.a7) (m1:=0) (m2:=1) (m3:=1) (m4:=1) ?_) ?_)
   ·rw[gg];rfl
   ·rw[Ko d 0,j];rfl
  |succ i=>
   simp only[rp,na,eD,aU,↓aI,aV,e,cr,a_,c,bn,bh,F3,qp,qq,iW,qs,Sr (sz:=1) (F7 d (i+1)).symm (by decide) (g _) (show i+1<dp by unfold dp;omega),uW,F4,cO aB]
   refine cZ (K _) (e0 (F9 (d:=d) (ch:=ch) (b:=b) (o:=o) (p:=.a7) (m1:=0) (m2:=i+1+1) (m3:=i+1+1) (m4:=1) ?_) ?_)
   ·rw[gg];rfl
   ·rw[Ko d (i+1),j]
theorem ago{h l:Z}{a b c d e:b3}{sz n:Nat}{t:a1}{rows:List (List U)}{row:List U}(aA:n=rows.length)(aB:0<sz)(ah:row.all dt=V)(hm:n<dp):
 eC t sz (.ref (h.length+5) 0 n n sz) (.bE sz [row]) (h++a::b::c::d::e::.log rows sz t .rw::l)=y (.ref (h.length+5) 0 (n+1) (n+1) sz,h++a::b::c::d::e::.log (rows++[row]) sz t .rw::l):=by
 subst aA
 exact wC (k:=5) (l:=a::b::c::d::e::.log rows sz t .rw::l) rfl aB ah hm
theorem agp{h l:Z}{a b c d e f:b3}{sz n:Nat}{t:a1}{rows:List (List U)}{row:List U}(aA:n=rows.length)(aB:0<sz)(ah:row.all dt=V)(hm:n<dp):
 eC t sz (.ref (h.length+6) 0 n n sz) (.bE sz [row]) (h++a::b::c::d::e::f::.log rows sz t .rw::l)=y (.ref (h.length+6) 0 (n+1) (n+1) sz,h++a::b::c::d::e::f::.log (rows++[row]) sz t .rw::l):=by
 subst aA
 exact wC (k:=6) (l:=a::b::c::d::e::f::.log rows sz t .rw::l) rfl aB ah hm
theorem agq{h l:Z}{a b d e:b3}{n o sz sz':Nat}{t c:a1}{md g:ep}{vs:List U}{rows:List (List U)}(aA:n=rows.length):
 jy (.ref (h.length+5) 0 n n sz) (.ptr (h.length+2) o) (h++a::b::.box vs c g::d::e::.log rows sz' t md::l)=V:=by
 subst aA
 unfold jy
 simp only[gg,List.getElem?_cons_succ,ki]
 exact Nat.beq_refl _
theorem agr{b o:Nat}{h:Z}:jy .a7 (.ptr b o) h=V:=ca rfl
theorem ags(h:Z)(a b c d e f g x:b3)(r:Z):h++a::b::c::d::e::f::g::(r++[x])=(h++a::b::c::d::e::f::g::r)++[x]:=by simp
theorem agt{agg:Bool}{n o:Nat}{h:Z}{a b c d e f g:b3}{r:Z}{vs:List U}{t:a1}{md:ep}:ab agg n (.ptr (h++a::b::c::d::e::f::g::r).length o) (h++a::b::c::d::e::f::g::(r++[.box vs t md]))=e7 agg o n vs:=by
 rw[ags,nR]
theorem akr{n o:Nat}{v:U}{h:Z}{a b c d e f g:b3}{r:Z}{x:b3}:bf n (.ptr (h++a::b::c::d::e::f::g::r).length o) v (h++a::b::c::d::e::f::g::(r++[x]))=(bf n (.ptr 0 o) v [x]).map λl=>h++a::b::c::d::e::f::g::(r++l):=by
 rw[ags,wF]
 congr 1
 funext l
 simp
theorem Ss(p:d_):cV (h_ [J E 0,.a7] 1) [(0,2,.agg (dL p))]=y (dL p):=ca rfl
theorem St(p:d_):(dL p).all fR=V:=ca rfl
theorem Su(p:d_):h9 2 1 (dL p)=[dL p]:=ca rfl
theorem F_{ch:Nat}(h1:1<=ch)(aa:ch<=16)(h:Z):aL 55 [J E 64,J E ch] h=y (.tuple [.agg (dL (gK ch)),J E 0],h):=by
 have ai:b9 (ch:Int) 1 16=V:=by unfold b9;simp only[dn,eJ];omega
 rw[agj 64 ch rfl ai h]
 have:(64*(ch:Int)).toNat=64*ch:=by omega
 rw[this];rfl
def iC(h:Z)(d:Int)(ch:Nat)(b:Bool):Nat->Z
 |0=>h++[eD,.box (dm d) 83 .rw,na d ch b .a7 (.ref (h.length+3) 0 ch ch 1) .a7,.log ((kz d ch).map bA) 1 3 .rw]
 |i+1=>h++eD::.box (dm d) 83 .rw::na d ch b (.ref (h.length+6) 0 (i+1) (i+1) 1) (.ref (h.length+3) 0 ch ch 1) (.ref (h.length+5) 0 (i+1) (i+1) 2)::.log ((kz d ch).map bA) 1 3 .rw::.box (dL (gK ch)) 39 .rw::.log (dF (i+1) (dL (gK ch))) 2 39 .rw::.log ((cG (i+1)).map bA) 1 3 .rw::dF i (.box (dL (gK ch)) 39 .rw)
theorem Sv{h:Z}{d:Int}{ch:Nat}{b:Bool}{o p:U}{m1 m2 m3 m4:Nat}{h':Z}{vs:List U}(e:h'[h.length+2]?=y (na d ch b (.ref (h.length+6) m1 m2 m3 m4) o p)):trim (iC h d ch b 0) vs h'=h':=by
 refine zi (b:=h.length+2) (by show _<(h++_).length;simp) e ?_ (Cd (b:=h.length+6) (lo:=m1) (m:=m2) (v:=m3) (sz:=m4) (by simp) (by show(h++_).length<=_;simp))
 show(h++_)[_]?≠_
 rw[gg]
 intro k
 cases k
theorem agu{N:Nat}{h:Z}{d:Int}{ch:Nat}{b:Bool}{g:List U->Z->bl}{n i:Nat}(ai:i<n)(aA:n<=32)(h1:1<=ch)(aa:ch<=16)(K:List U->Z->bl):
 CE aL N (J E ch) (J E n) (.ptr (h.length+2) 0) (iC h d ch b 0) g K [J E (i:Int)] (iC h d ch b i)=K [J E ((i+1:Nat):Int)] (iC h d ch b (i+1)):=by
 have F_:=F_ h1 aa
 have c:((i:Int)<(n:Int))=True:=kk (by omega)
 have ah:(dL (gK ch)).all dt=V:=rfl
 have e:∀a,([J E a]:List U).all dt=V:=λa=>rfl
 have aB:i<9223372036854775807:=by omega
 unfold CE
 cases i with
 |zero=>
  simp only[iC,na,eD,aU,↓aI,aV,c,cr,a_,F_,FZ,F0,Sl,sc,Ss,St,iW,Su,agr,jT,Cc (sz:=2) (by decide) ah,Sk,qp,qq,qs,Cc (sz:=1) (by decide) (e _),Zt,uW,Sn,Sm,cO aB]
  refine cZ (K _) (e0 (Sv (d:=d) (ch:=ch) (b:=b) (o:=.ref (h.length+3) 0 ch ch 1) (p:=.ref (h.length+5) 0 1 1 2) (m1:=0) (m2:=1) (m3:=1) (m4:=1) ?_) ?_)
  ·rw[gg];rfl
  ·rfl
 |succ i=>
  have an:i+1=(dF (i+1) (dL (gK ch))).length:=by simp
  have hm:i+1<dp:=by unfold dp;omega
  simp only[iC,na,eD,aU,↓aI,aV,c,cr,a_,F_,akr,agt,FZ,F0,Sl,sc,Ss,St,iW,Su,agq an,jT,ago (sz:=2) an (by decide) ah hm,Sk,qp,qq,qs,agp (sz:=1) (F8 (i+1)).symm (by decide) (e _) hm,uW,Sn,Sm,cO aB]
  refine cZ (K _) (e0 (Sv (d:=d) (ch:=ch) (b:=b) (o:=.ref (h.length+3) 0 ch ch 1) (p:=.ref (h.length+5) 0 (i+1+1) (i+1+1) 2) (m1:=0) (m2:=i+1+1) (m3:=i+1+1) (m4:=1) ?_) ?_)
  ·rw[gg];rfl
  ·have aG:dF (i+1+1) (dL (gK ch))=dF (i+1) (dL (gK ch))++[dL (gK ch)]:=List.replicate_succ'
   have aF:dF (i+1) (b3.box (dL (gK ch)) 39 ep.rw)=dF i (b3.box (dL (gK ch)) 39 ep.rw)++[b3.box (dL (gK ch)) 39 ep.rw]:=List.replicate_succ'
   rw[Sq (i+1),aG,aF]
end Go.aM.X
