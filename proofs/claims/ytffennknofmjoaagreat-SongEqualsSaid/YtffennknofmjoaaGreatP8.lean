import Derived.Test.YtffennknofmjoaaGreatP7
set_option linter.unusedSimpArgs false
set_option linter.unusedVariables false
set_option maxRecDepth 20000
open BitVec renaming ofInt → j'
open Bool renaming and_eq_true → dx,and_true → jt,false_eq_true → bg,false_or → rN,not_eq_true' → nA,not_false → gp,not_true → e3,or_eq_false_iff → ui,or_self → rS,true_and → hn
open Go renaming FuncId → dN,TypeId → aX
open Int renaming mul_le_mul → wW,toNat_natCast → lI
open Go.IntKind renaming bits → wZ,signed → w1
open List.Nodup renaming length_le_of_subset → TD
open List renaming any_eq_true → F0,append_assoc → eo,append_nil → fu,cons_append → jQ,drop_zero → o4,eq_nil_of_length_eq_zero → gy,ext_getElem? → gn,filter_append → zy,flatMap_append → uB,flatMap_singleton → zz,foldl_append → F5,getD_eq_getElem?_getD → jT,getElem?_append_left → cG,getElem?_append_right → ma,getElem?_cons_succ → l9,getElem?_cons_zero → jP,getElem?_eq_getElem → gb,getElem?_eq_none → e2,getElem?_map → ja,getElem?_mapIdx → gS,getElem?_replicate → Kr,getElem?_set → F8,getElem?_set_ne → hj,getElem?_set_self → fr,getElem_idxOf → Kq,getElem_mem → pX,idxOf_lt_length_of_mem → Kt,length_append → dW,length_cons → kb,length_map → dn,length_mapIdx → ln,length_range → F3,length_set → ir,mapIdx_mapIdx → TC,map_append → ll,map_cons → qV,map_set → zx,mem_append → mN,mem_append_left → s5,mem_cons → hk,mem_map → iT,mem_mapIdx → s4,mem_of_getElem? → dH,mem_range → uu,mem_singleton → hl,nil_append → hy,not_mem_nil → iu,range → fb,replicate → du,set_set → kY,take_append_drop → qW,take_left → uv,take_length → h6
open Nat renaming beq → cC,blt → fD,le_of_ble_eq_true → rO,le_refl → ca,lt_succ_self → fs,min → fY,min_eq_left → mb,reduceAdd → aT,zero_add → gR,zero_le → hQ
open Option renaming bind_some → dy,getD_some → o2,map_some → dm,some → I
open Option.some renaming inj → jR
namespace Go.aN.X
open Go.bB Go.aN
attribute [local congr] nf ng nh ni oH se sf tv
def j9(s:aK)(i:Nat):Int:=if((i:Int)+1>(s.aG.length:Int))then 0 else(i:Int)+1
def jF(s:aK)(i:Nat)(x:c1):c1:=if x.keys.length>0 then x else { x with keys:=gv (j9 s i) 120 }
def fo(s:aK)(n:Nat):aK:={ s with ai:=s.ai.mapIdx λj x=>if j<n then jF s j x else x }
def fK(s:aK):aK:={ s with ai:=s.ai.mapIdx λj x=>jF s j x }
theorem afe(s:aK)(j:Nat)(x:c1)(a b c d:J):bT (jF s j x) a b c d=bT x a b c d:=by unfold jF;split<;>rfl
theorem RQ(s:aK)(j:Nat)(x:c1):(jF s j x).bm=x.bm:=by unfold jF;split<;>rfl
theorem RR(s:aK)(j:Nat)(x:c1):(jF s j x).bk=x.bk:=by unfold jF;split<;>rfl
theorem RS(s:aK)(j:Nat)(x:c1):(jF s j x).bl=x.bl:=by unfold jF;split<;>rfl
theorem RT(s:aK):fo s 0=s:=by
 unfold fo
 have:(s.ai.mapIdx λj x=>if j<0 then jF s j x else x)=s.ai:=by
  apply gn
  intro j
  rw[gS]
  cases s.ai[j]?<;>simp
 rw[this]
theorem RU(s:aK):fo s s.ai.length=fK s:=by
 unfold fo fK
 congr 1
 apply gn
 intro j
 rw[gS,gS]
 cases e:s.ai[j]? with
 |none=>rfl
 |some x=>rw[dm,dm,aQ (List.getElem?_eq_some_iff.1 e).1]
theorem wq{s:aK}{n j:Nat}{x:c1}(h:s.ai[j]?=I x):(fo s n).ai[j]?=I (if j<n then jF s j x else x):=by
 unfold fo
 rw[gS,h];rfl
theorem Jb{s:aK}{n j:Nat}(h:s.ai[j]?=none):(fo s n).ai[j]?=none:=by
 unfold fo
 rw[gS,h];rfl
theorem Jc(A:aU->J)(s:aK)(n:Nat):ao A (fo s n) .ai=s.ai.mapIdx λi x=>bT x (A (.key i)) (A (.bm i)) (A (.bk i)) (A (.bl i)):=by
 show((s.ai.mapIdx _).mapIdx _)=_
 rw[TC]
 congr 1
 funext i x
 show bT (if i<n then jF s i x else x) _ _ _ _=_
 split
 ·exact afe _ _ _ _ _ _ _
 ·rfl
theorem wu(A:aU->J)(s:aK)(n j:Nat):ao A (fo s n) (.bm j)=ao A s (.bm j)/\ao A (fo s n) (.bk j)=ao A s (.bk j)/\ao A (fo s n) (.bl j)=ao A s (.bl j):=by
 simp only[ao]
 cases e:s.ai[j]? with
 |none=>rw[Jb e];exact⟨rfl,rfl,rfl⟩
 |some x=>
  rw[wq e]
  simp only
  split
  ·rw[RQ,RR,RS];exact⟨rfl,rfl,rfl⟩
  ·exact⟨rfl,rfl,rfl⟩
def fp(H cx:U):Prop:=∀(b:Nat) (vs:List J) (t:aX) (md:eg),H[b]?=I (cq.box vs t md)->cx[b]?=I (cq.box vs t md)
theorem fp.refl(H:U):fp H H:=λ_ _ _ _ h=>h
theorem fp.trans{H G F:U}(a:fp H G)(b:fp G F):fp H F:=λk vs t md h=>b k vs t md (a k vs t md h)
theorem fp.wr{H:U}{base sz:Nat}{t:aX}{v:J}{rows:List (List J)}(o:cU H base sz t v rows)(rows':List (List J)):fp H (Go.aN.X.wr H v sz t rows'):=λb vs c md h=>j8 o h
theorem fp.app(H l:U):fp H (H++l):=λb vs t md h=>by rw[cG (List.getElem?_eq_some_iff.1 h).1];exact h
structure ns(au:U)(dJ H:U)(cz A:aU->J)(s:aK)(n:Nat):Prop where
 own:c2 au dM H A (fo s n)
 bx:fp dJ H
 top:∀k,iP k=true->A k=cz k
 rest:∀j,n<=j->A (.key j)=cz (.key j)
 dL:Nm dJ.length H (ao A (fo s n) .ai)
 len:dJ.length<=H.length
theorem ns.next{au dJ H:U}{cz A:aU->J}{s:aK}{i:Nat}{x:c1}(q:ns au dJ H cz A s i)(aj:s.ai[i]?=I x)(af:x.keys.length>0):ns au dJ H cz A s (i+1):=by
 have e:fo s (i+1)=fo s i:=by
  unfold fo
  congr 1
  apply gn
  intro j
  rw[gS,gS]
  cases b:s.ai[j]? with
  |none=>rfl
  |some y=>
   rw[dm,dm]
   congr 1
   by_cases aD:j=i
   ·subst aD
    rw[aj]at b;cases b
    rw[aQ (by omega),a1 (by omega)]
    unfold jF;rw[aQ af]
   ·by_cases aE:j<i
    ·rw[aQ (by omega),aQ aE]
    ·rw[a1 (by omega),a1 aE]
 exact⟨e▸q.own,q.bx,q.top,λj c=>q.rest j (by omega),e▸q.dL,q.len⟩
theorem ns.fill{au dJ H:U}{cz A:aU->J}{s:aK}{i:Nat}{x:c1}(q:ns au dJ H cz A s i)(aj:s.ai[i]?=I x)(af:¬x.keys.length>0):
 ns au dJ (kS H A (ao A (fo s i) .ai) x i (j9 s i) 120) cz (bK A (.key i) (.ref H.length 0 120 120 2)) s (i+1):=by
 have m:=(List.getElem?_eq_some_iff.1 aj).1
 have g:cU H au.length 33 57 (A .ai) (ao A (fo s i) .ai):=q.own.at (k:=.ai) rfl
 have n:((gv (j9 s i) 120).map cM).length=120:=tW _ _
 have o:bQ H.length 2 ((gv (j9 s i) 120).map cM)=.ref H.length 0 120 120 2:=by unfold bQ;rw[a1 (by omega),n]
 have p:cj 2 89 ((gv (j9 s i) 120).map cM)=[.log ((gv (j9 s i) 120).map cM) 2 89 .rw]:=by unfold cj;rw[a1 (by omega)]
 have bu:=q.own.new.add q.own.len (.key i) ((gv (j9 s i) 120).map cM)
 simp only[dS,gZ]at bu
 rw[o,p]at bu
 have cP:=bu.wr .ai (rows:=(ao A (fo s i) .ai).set i (bT x (.ref H.length 0 120 120 2) (A (.bm i)) (A (.bk i)) (A (.bl i)))) (by rw[ir,cA _ _ (by simp)])
 rw[cA _ _ (show aU.ai≠aU.key i by simp)]at cP
 simp only[dS,gZ]at cP
 rw[oV g]at cP
 have t:kS H A (ao A (fo s i) .ai) x i (j9 s i) 120=wr H (A .ai) 33 57 ((ao A (fo s i) .ai).set i (bT x (.ref H.length 0 120 120 2) (A (.bm i)) (A (.bk i)) (A (.bl i))))++[.log ((gv (j9 s i) 120).map cM) 2 89 .rw]:=by
  unfold kS oW;rw[a1 (by omega),a1 (by omega)]
 rw[t]
 have mu:ao (bK A (.key i) (.ref H.length 0 120 120 2)) (fo s (i+1)) .ai=(ao A (fo s i) .ai).set i (bT x (.ref H.length 0 120 120 2) (A (.bm i)) (A (.bk i)) (A (.bl i))):=by
  rw[Jc,Jc]
  exact pQ aj (λj b _ h=>by simp [bK,h]) (by simp [bK])
 have br:i<(ao A (fo s i) .ai).length:=by rw[Jc];simp [m]
 refine⟨q.own.of cP (by simp [eI]) (λb ae=>?_) (λk _=>⟨?_,?_⟩) (λk ad=>by cases ad),?_,λk ad=>?_,λj h=>?_,?_,?_⟩
 ·rw[cG (by rw[eI];have:=q.own.len;omega),rE g ae]
 ·rfl
 ·by_cases aD:k=.ai
  ·subst aD
   rw[fm,mu]
  ·rw[cA _ _ aD]
   by_cases aE:k=.key i
   ·subst aE
    rw[fm]
    simp only[ao,wq aj]
    rw[aQ (by omega)]
    unfold jF;rw[a1 af]
   ·rw[cA _ _ aE]
    cases k with
    |ai=>exact absurd rfl aD
    |ax=>simp [ao,bK,fo]
    |aG=>simp [ao,bK,fo]
    |key j=>
     have h:j≠i:=λe=>aE (by rw[e])
     simp only[ao]
     cases c:s.ai[j]? with
     |none=>rw[Jb c,Jb c]
     |some y=>
      rw[wq c,wq c]
      by_cases l:j<i
      ·rw[aQ l,aQ (by omega)]
      ·rw[a1 l,a1 (by omega)]
    |bm j=>rw[(wu _ s _ j).1,(wu _ s _ j).1];rfl
    |bk j=>rw[(wu _ s _ j).2.1,(wu _ s _ j).2.1];rfl
    |bl j=>rw[(wu _ s _ j).2.2,(wu _ s _ j).2.2];rfl
    |_=>rfl
 ·exact(q.bx.trans (fp.wr g _)).trans (fp.app _ _)
 ·rw[cA _ _ (λe=>by rw[e]at ad;cases ad)];exact q.top k ad
 ·rw[cA _ _ (by simp;omega)];exact q.rest j (by omega)
 ·right
  refine⟨H.length,0,120,120,2,?_,q.len⟩
  rw[mu]
  exact List.mem_flatten.2 ⟨_,List.mem_iff_getElem?.2 ⟨i,fr br⟩,List.mem_iff_getElem?.2 ⟨1,jE _ _ _ _ _⟩⟩
 ·simp only[dW,eI];have:=q.len;omega
theorem aff{N:Nat}(E:120<N){au dJ H:U}{cz A:aU->J}{s:aK}{k i:Nat}{x:c1}{t:aX}{v3:J}{j:List J->U->bh}(q:ns au dJ H cz A s i)(w:c2 au dM dJ cz s)(ae:dJ[k]?=I (.box (aW cz s) t .rw))(aj:s.ai[i]?=I x)(he:x.keys=[]->cz (.key i)=.emp)(y:kP s)(aw:v3=.int .i64 s.ai.length):
 ∃cx F,ns au dJ cx cz F s (i+1)/\∀K,vE aJ N (.ptr k 0) dJ v3 j K [.int .i64 (i:Int)] H=K [.int .i64 ((i+1:Nat):Int)] cx:=by
 subst aw
 have e:=(List.getElem?_eq_some_iff.1 aj).1
 have G:=y A .ai
 have bO:=y A .aG
 simp only[ao,ln]at G bO
 have az:i<9223372036854775807:=by omega
 have b0:IntKind.i64.wrap ((i:Int)+1)=(i:Int)+1:=wrap64 (by unfold dr;omega)
 have L:aW A (fo s i)=aW cz s:=by
  have h1:=q.top .bo rfl
  have h2:=q.top .cw rfl
  have ak:=q.top .ax rfl
  have aH:=q.top .aG rfl
  have aM:=q.top .ai rfl
  unfold aW
  rw[h1,h2,ak,aH,aM];rfl
 have g:H[k]?=I (.box (aW A (fo s i)) t .rw):=by rw[L];exact q.bx _ _ _ _ ae
 have h:(fo s i).ai[i]?=I x:=by rw[wq aj,a1 (by omega)]
 have rs:=q.own.rs
 have z:=kQ (A:=A) h
 have l:cU H au.length 33 57 (A .ai) (ao A (fo s i) .ai):=q.own.at (k:=.ai) rfl
 have t5:A .ai=cz .ai:=q.top .ai rfl
 have os:cU dJ au.length 33 57 (A .ai) (ao cz s .ai):=by rw[t5];exact w.at (k:=.ai) rfl
 have B:=w.rs.lt (ca _) .ai
 have aD:ab false 1 (.ptr k 12) H=I (A .ai):=eJ g (iD A _)
 have aE:=eW (fl l) .i64 z
 have m:ab false 1 (c' (A .ai) (bT x (A (.key i)) (A (.bm i)) (A (.bk i)) (A (.bl i))) i 1) H=I (A (.key i)):=(e0 (fl l) z _ _ _).trans (jE _ _ _ _ _)
 have dp:ao A (fo s i) (.key i)=x.keys.map cM:=by simp only[ao,h]
 have b:=fH (rs (.key i))
 rw[dp,dn]at b
 have C:ab false 1 (.ptr k 11) H=I (A .aG):=eJ g (mB A _)
 have n:=fH (rs .aG)
 have M:(ao A (fo s i) .aG).length=s.aG.length:=by simp [ao,fo]
 rw[M]at n
 by_cases af:x.keys.length>0
 ·refine⟨H,A,q.next aj af,λK=>?_⟩
  have c:((x.keys.length:Int)>0)=True:=jU (by omega)
  have ad:=mA (roots:=[.int .i64 ((i+1:Nat):Int)]) l os B q.dL
  unfold vE
  simp only[aS,↓aF,aT,cL e,cm,aZ,ld,aD,aE,iO,m,b,c,cI az]
  exact cV (K _) ad
 ·have O:x.keys=[]:=gy (by omega)
  have P:A (.key i)=.emp:=by rw[q.rest i (ca _)];exact he O
  have p:=q.fill aj af
  refine⟨_,_,p,λK=>?_⟩
  have c:((x.keys.length:Int)>0)=False:=dK (by omega)
  have Q:cU (kS H A (ao A (fo s i) .ai) x i (j9 s i) 120) au.length 33 57 (A .ai) _:=p.own.at (k:=.ai) rfl
  have ad:=mA (roots:=[.int .i64 ((i+1:Nat):Int)]) Q os B p.dL
  have D:∀o j,cr (vD aJ N (.ptr k 0) [.int .i64 (i:Int)] [.int .i64 o] H j) N [.int .i64 0] H=j [] (kS H A (ao A (fo s i) .ai) x i o 120):=λo j=>afc E q.own g h P o
  by_cases aa:((i:Int)+1>(s.aG.length:Int))
  ·have u:j9 s i=0:=by unfold j9;rw[aQ aa]
   rw[u]at ad|-
   unfold vE
   simp only[aS,↓aF,aT,cL e,cm,aZ,ld,aD,aE,iO,m,b,c,cW,bg,bd,b0,C,n,aa,D,cI az]
   exact cV (K _) ad
  ·have u:j9 s i=(i:Int)+1:=by unfold j9;rw[a1 aa]
   rw[u]at ad|-
   unfold vE
   simp only[aS,↓aF,aT,cL e,cm,aZ,ld,aD,aE,iO,m,b,c,cW,bg,bd,b0,C,n,aa,D,cI az]
   exact cV (K _) ad
theorem afg{N:Nat}(E:120<N){au dJ H:U}{cz A:aU->J}{s:aK}{k i:Nat}{x:c1}{t:aX}{v3:J}{j:List J->U->bh}(q:ns au dJ H cz A s i)(w:c2 au dM dJ cz s)(ae:dJ[k]?=I (.box (aW cz s) t .rw))(aj:s.ai[i]?=I x)(he:x.keys=[]->cz (.key i)=.emp)(y:kP s)(aw:v3=.int .i64 s.ai.length):
 ∃cx F,ns au dJ cx cz F s (i+1)/\∀K,vH aJ N (.ptr k 0) dJ v3 j K [.int .i64 (i:Int)] H=K [.int .i64 ((i+1:Nat):Int)] cx:=by
 subst aw
 have e:=(List.getElem?_eq_some_iff.1 aj).1
 have G:=y A .ai
 have bO:=y A .aG
 simp only[ao,ln]at G bO
 have az:i<9223372036854775807:=by omega
 have b0:IntKind.i64.wrap ((i:Int)+1)=(i:Int)+1:=wrap64 (by unfold dr;omega)
 have L:aW A (fo s i)=aW cz s:=by
  have h1:=q.top .bo rfl
  have h2:=q.top .cw rfl
  have ak:=q.top .ax rfl
  have aH:=q.top .aG rfl
  have aM:=q.top .ai rfl
  unfold aW
  rw[h1,h2,ak,aH,aM];rfl
 have g:H[k]?=I (.box (aW A (fo s i)) t .rw):=by rw[L];exact q.bx _ _ _ _ ae
 have h:(fo s i).ai[i]?=I x:=by rw[wq aj,a1 (by omega)]
 have rs:=q.own.rs
 have z:=kQ (A:=A) h
 have l:cU H au.length 33 57 (A .ai) (ao A (fo s i) .ai):=q.own.at (k:=.ai) rfl
 have t5:A .ai=cz .ai:=q.top .ai rfl
 have os:cU dJ au.length 33 57 (A .ai) (ao cz s .ai):=by rw[t5];exact w.at (k:=.ai) rfl
 have B:=w.rs.lt (ca _) .ai
 have aD:ab false 1 (.ptr k 12) H=I (A .ai):=eJ g (iD A _)
 have aE:=eW (fl l) .i64 z
 have m:ab false 1 (c' (A .ai) (bT x (A (.key i)) (A (.bm i)) (A (.bk i)) (A (.bl i))) i 1) H=I (A (.key i)):=(e0 (fl l) z _ _ _).trans (jE _ _ _ _ _)
 have dp:ao A (fo s i) (.key i)=x.keys.map cM:=by simp only[ao,h]
 have b:=fH (rs (.key i))
 rw[dp,dn]at b
 have C:ab false 1 (.ptr k 11) H=I (A .aG):=eJ g (mB A _)
 have n:=fH (rs .aG)
 have M:(ao A (fo s i) .aG).length=s.aG.length:=by simp [ao,fo]
 rw[M]at n
 by_cases af:x.keys.length>0
 ·refine⟨H,A,q.next aj af,λK=>?_⟩
  have c:((x.keys.length:Int)>0)=True:=jU (by omega)
  have ad:=mA (roots:=[.int .i64 ((i+1:Nat):Int)]) l os B q.dL
  unfold vH
  simp only[aS,↓aF,aT,cL e,cm,aZ,ld,aD,aE,iO,m,b,c,cI az]
  exact cV (K _) ad
 ·have O:x.keys=[]:=gy (by omega)
  have P:A (.key i)=.emp:=by rw[q.rest i (ca _)];exact he O
  have p:=q.fill aj af
  refine⟨_,_,p,λK=>?_⟩
  have c:((x.keys.length:Int)>0)=False:=dK (by omega)
  have Q:cU (kS H A (ao A (fo s i) .ai) x i (j9 s i) 120) au.length 33 57 (A .ai) _:=p.own.at (k:=.ai) rfl
  have ad:=mA (roots:=[.int .i64 ((i+1:Nat):Int)]) Q os B p.dL
  have D:∀o j,cr (vG aJ N (.ptr k 0) [.int .i64 (i:Int)] [.int .i64 o] H j) N [.int .i64 0] H=j [] (kS H A (ao A (fo s i) .ai) x i o 120):=λo j=>afd E q.own g h P o
  by_cases aa:((i:Int)+1>(s.aG.length:Int))
  ·have u:j9 s i=0:=by unfold j9;rw[aQ aa]
   rw[u]at ad|-
   unfold vH
   simp only[aS,↓aF,aT,cL e,cm,aZ,ld,aD,aE,iO,m,b,c,cW,bg,bd,b0,C,n,aa,D,cI az]
   exact cV (K _) ad
  ·have u:j9 s i=(i:Int)+1:=by unfold j9;rw[a1 aa]
   rw[u]at ad|-
   unfold vH
   simp only[aS,↓aF,aT,cL e,cm,aZ,ld,aD,aE,iO,m,b,c,cW,bg,bd,b0,C,n,aa,D,cI az]
   exact cV (K _) ad
def afh(au dJ:U)(cz:aU->J)(s:aK)(q:J×U):Prop:=q.1=iI/\∃A,c2 au dM q.2 A (fK s)/\fp dJ q.2/\(∀k,iP k=true->A k=cz k)/\dJ.length<=q.2.length
theorem HX(s:aK)(cz:aU->J)(au H:U)(k:Nat)(t:aX)(b:c2 au dM H cz s)(ae:H[k]?=I (.box (aW cz s) t .rw))(he:∀k,ao cz s k=[]->cz k=.emp)(g:kP s):fa (aJ 38 [.ptr k 0] H) (afh au H cz s):=by
 obtain⟨N,w⟩:∃N:Nat,70000<N:=⟨_,fs _⟩
 refine fa.body (F:=BP) (by kernel_rfl) N ?_
 rw[Zl];unfold Nj
 have m:=g cz .ai
 have h:(ao cz s .ai).length=s.ai.length:=by simp [ao]
 rw[h]at m
 have le:=fH (b.rs .ai)
 rw[h]at le
 simp only[aS,↓aF,aT,ld,eJ ae (iD cz s),le]
 have n:ns au H H cz cz s 0:=⟨by rw[RT];exact b,fp.refl _,λk _=>rfl,λj _=>rfl,.inl rfl,ca _⟩
 refine oS (λi G=>∃A,ns au H G cz A s i) s.ai.length (by omega) ⟨cz,n⟩ (λi G ag c=>?_) λG c K=>?_
 ·obtain⟨A,q⟩:=c
  obtain⟨x,aj⟩:=cQ ag
  obtain⟨cx,o,p,u⟩:=aff (N:=N) (by omega) q b ae aj (λe=>he (.key i) (by simp only[ao,aj,e];rfl)) g rfl
  exact⟨cx,⟨o,p⟩,u⟩
 obtain⟨A,q⟩:=c
 have aC:((s.ai.length:Int)<(s.ai.length:Int))=False:=dK (by omega)
 have t5:A .ai=cz .ai:=q.top .ai rfl
 have os:cU H au.length 33 57 (A .ai) (ao cz s .ai):=by rw[t5];exact b.at (k:=.ai) rfl
 have ad:=mA (roots:=[]) (q.own.at (k:=.ai) rfl) os (b.rs.lt (ca _) .ai) q.dL
 unfold vE
 simp only[aS,↓aF,aT,aC,cW,bg,bd,rH,ad]
 have l:=q.own
 rw[RU]at l
 exact fa.of rfl ⟨rfl,A,l,q.bx,q.top,q.len⟩
theorem rI{g g' rest:U}{r:List J}(av:g'.length=g.length)(an:∀v∈r,bI g.length v)(ad:∀k,k<g.length->g'[k]?=g[k]?\/∃blk,g'[k]?=I blk/\jy g.length blk):trim g r (g'++rest)=g':=by
 unfold trim
 have aa:(∀v∈r,bI g.length v)/\∀b,b<g.length->(g'++rest)[b]?=g[b]?\/∃blk,(g'++rest)[b]?=I blk/\jy g.length blk:=⟨an,λb ae=>by
  rw[cG (by omega)]
  exact ad b ae⟩
 rw[aQ aa,←av,uv]
def ev(to:List Int)(j:Nat):Nat:=to.idxOf (j:Int)
structure db(to:List Int)(n:Nat):Prop where
 len:to.length=n
 sI:∀i,i<n->∃t,t<n/\to[i]?=I ((t:Nat):Int)/\ev to t=i
 ev:∀j,j<n->Go.aN.X.ev to j<n
theorem db.to{to:List Int}{n:Nat}(p:db to n){j:Nat}(b:j<n):to[Go.aN.X.ev to j]?=I (j:Int):=by
 have h:=p.ev j b
 rw[←p.len]at h
 unfold Go.aN.X.ev at h|-
 rw[gb h,Kq h]
theorem db.inj{to:List Int}{n:Nat}(p:db to n){i j:Nat}(ag:i<n)(b:j<n)(h:Go.aN.X.ev to i=Go.aN.X.ev to j):i=j:=by
 have h1:=p.to ag
 have h2:=p.to b
 rw[h]at h1
 rw[h1]at h2
 have:=jR h2
 omega
def fq(to:List Int)(rows:List (List J))(z:List J)(i:Nat):List (List J):=(fb rows.length).map λj=>if ev to j<i then rows.getD (ev to j) z else z
theorem qJ(to:List Int)(rows:List (List J))(z:List J)(i:Nat):(fq to rows z i).length=rows.length:=by simp [fq]
theorem wv{to:List Int}{rows:List (List J)}{z:List J}{i j:Nat}(h:j<rows.length):(fq to rows z i)[j]?=I (if ev to j<i then rows.getD (ev to j) z else z):=by simp [fq,h]
theorem Jd(to:List Int)(rows:List (List J))(z:List J):fq to rows z 0=du rows.length z:=by
 refine gn λj=>?_
 by_cases h:j<rows.length
 ·rw[wv h,Kr,aQ h,a1 (by omega)]
 ·rw[e2 (by rw[qJ];omega),e2 (by simp;omega)]
theorem Je{to:List Int}{rows:List (List J)}{z row:List J}{i t:Nat}(p:db to rows.length)(ag:rows[i]?=I row)(aO:t<rows.length)(az:ev to t=i):fq to rows z (i+1)=(fq to rows z i).set t row:=by
 refine gn λj=>?_
 by_cases h:j<rows.length
 ·rw[wv h,F8,wv h]
  by_cases e:t=j
  ·subst e
   rw[aQ (show ev to t<i+1 by omega),aQ rfl,aQ (by rw[qJ];exact h),az,jT,ag];rfl
  ·rw[a1 e]
   have:ev to j≠i:=λaE=>e (p.inj aO h (by rw[az,aE]))
   by_cases b:ev to j<i
   ·rw[aQ b,aQ (by omega)]
   ·rw[a1 b,a1 (by omega)]
 ·rw[e2 (by rw[qJ];omega),e2 (by rw[ir,qJ];omega)]
def eE{α:Type}(d:α)(l:List α)(to:List Int):List α:=(fb l.length).map λj=>l.getD (ev to j) d
theorem Jf{to:List Int}{rows:List (List J)}{z:List J}(p:db to rows.length):fq to rows z rows.length=eE z rows to:=by
 unfold fq eE
 refine List.map_congr_left λj b=>?_
 rw[uu]at b
 rw[aQ (p.ev j b)]
theorem kt{α:Type}(d:α)(l:List α)(to:List Int):(eE d l to).length=l.length:=by simp [eE]
theorem afi{α:Type}{d:α}{l:List α}{to:List Int}{j:Nat}(h:j<l.length):(eE d l to)[j]?=I (l.getD (ev to j) d):=by simp [eE,h]
theorem afj{rows:List (List J)}{z:List J}{to:List Int}{i:Nat}{r:List J}(h:r∈fq to rows z i):r∈rows\/r=z:=by
 simp only[fq,iT]at h
 obtain⟨j,_,rfl⟩:=h
 split
 ·rw[jT]
  cases e:rows[ev to j]? with
  |none=>exact .inr rfl
  |some x=>exact .inl (dH e)
 ·exact .inr rfl
def Rows(rows:List (List J))(sz n:Nat):Prop:=∀r∈rows,r.length=sz/\r.all dd=true/\∀x∈r,bI n x
theorem Rows.wx{rows:List (List J)}{sz n:Nat}(h:Rows rows sz n){z:List J}(bq:z.length=sz/\z.all dd=true/\∀x∈z,bI n x){to:List Int}{i:Nat}:Rows (fq to rows z i) sz n:=λr an=>by
 rcases afj an with h1|rfl
 ·exact h r h1
 ·exact bq
theorem pR{l:List Int}{i:Nat}{x:Int}(k:IntKind)(h:l[i]?=I x):bW 1 (dj l) (.int k i)=I (.e6 (bA x) 0):=rj k h
theorem lf(x:Int):(bA x)[0]?=I (.int .i64 x):=b9 rfl
theorem E_{h l:U}{k n v sz:Nat}:aL [.raw] h (h++l) [.ref h.length k n v sz]=I (.ref h.length k n v sz,h++l):=by
 rw[nb]
 simp only[hK,dh,dy,dm]
 unfold trim
 rw[a1]
 ·rfl
 ·intro b
  have:=b.1 (.ref h.length k n v sz) (by simp)
  simp only[bI]at this
  omega
theorem afk{N:Nat}{H:U}{v:J}{rows:List (List J)}{to:List Int}{z:List J}{j3:List J->U->bh}(bq:z=[.int .i64 0,.bc])(r:dG H 2 v rows)(an:Rows rows 2 (H.length+1))(p:db to rows.length)(aA:rows.length<=70000){i:Nat}(ag:i<rows.length)(K:List J->U->bh):
 CC aJ N v (dj to) (.ref H.length 0 rows.length rows.length 2,H++[.log (du rows.length z) 2 39 .rw]) (.int .i64 rows.length) j3 K [.int .i64 (i:Int)] (H++[.log (fq to rows z i) 2 39 .rw])=K [.int .i64 ((i+1:Nat):Int)] (H++[.log (fq to rows z (i+1)) 2 39 .rw]):=by
 obtain⟨row,e⟩:=cQ ag
 obtain⟨t,aO,u,w⟩:=p.sI i ag
 obtain⟨c,ro,M⟩:=an row (dH e)
 have m:z.length=2/\z.all dd=true/\∀x∈z,bI (H.length+1) x:=by
  subst bq
  refine⟨rfl,rfl,λx af=>?_⟩
  have:x=.bc\/(∃k n,x=.int k n)\/(∃b,x=.bool b)\/∃s,x=.str s:=by
   simp only[hk,iu,hR]at af
   rcases af with rfl|rfl<;>simp
  rcases this with rfl|⟨_,_,rfl⟩|⟨_,rfl⟩|⟨_,rfl⟩<;>simp only[bI]
 have o:∀(G l:U) (rs:List (List J)),rs.length=rows.length->cU (H++.log rs 2 39 .rw::l) 0 2 39 (.ref H.length 0 rows.length rows.length 2) rs:=λG l rs av=>.ref _ _ _ (hQ _) (by rw[eQ];rfl) av.symm
 have az:i<9223372036854775807:=by omega
 have aD:=eW r .i64 e
 have aE:∀l,ab true 2 (c' v row i 0) (H++l)=I (.agg row):=λl=>(e0 (h4 r l) e _ _ _).trans (fQ c)
 have y:∀(vs:List J) (l:U),a_ 2 (.ptr 0 0) (.agg row) (.box vs 39 .rw::l)=(cy vs 0 row).map λb_=>.box b_ 39 .rw::l:=λvs l=>iL c (by decide)
 have q:∀vs:List J,vs.length=2->cy vs 0 row=I row:=λvs aw=>hN (by rw[aw,c]) ro
 have A:=pR .i64 u
 have B:eT true 0 2 row=I (.agg row):=fQ c
 have h:(fq to rows z i)[t]?=I (if ev to t<i then rows.getD (ev to t) z else z):=wv aO
 obtain⟨j,C⟩:∃x,x=(if ev to t<i then rows.getD (ev to t) z else z):=⟨_,rfl⟩
 rw[←C]at h
 have D:j.length=2:=((an.wx m) j (dH h)).1
 have E:=eW (fl (o H [] _ (qJ to rows z i))) .i64 h
 have F:=λl=>ig (o H l _ (qJ to rows z i)) h (n:=2) (x:=.agg row) (f:=0) c (by decide) (q j D)
 have L:∀l:U,wr (H++.log (fq to rows z i) 2 39 .rw::l) (.ref H.length 0 rows.length rows.length 2) 2 39 ((fq to rows z i).set t row)=H++.log (fq to rows z (i+1)) 2 39 .rw::l:=λl=>by
  show(H++_).set H.length _=_
  rw[pt,Je p e aO w];rfl
 have ad:trim (H++[.log (du rows.length z) 2 39 .rw]) [.int .i64 ((i+1:Nat):Int)] (H++[.log (fq to rows z (i+1)) 2 39 .rw,.box row 39 .rw])=H++[.log (fq to rows z (i+1)) 2 39 .rw]:=by
  have:=rI (g:=H++[.log (du rows.length z) 2 39 .rw]) (g':=H++[.log (fq to rows z (i+1)) 2 39 .rw]) (rest:=[.box row 39 .rw]) (r:=[.int .i64 ((i+1:Nat):Int)]) (by simp) (λv aw=>by rw[hl]at aw;subst aw;simp only[bI]) (λk ad=>by
   by_cases h1:k<H.length
   ·left
    rw[cG h1,cG h1]
   ·right
    have:k=H.length:=by simp at ad;omega
    subst this
    refine⟨.log (fq to rows z (i+1)) 2 39 .rw,by rw[eQ];rfl,λx af=>?_⟩
    obtain⟨dD,gd,af⟩:=List.mem_flatten.1 af
    have:=((an.wx m) dD gd).2.2 x af
    rw[show(H++[cq.log (du rows.length z) 2 39 .rw]).length=H.length+1 by simp]
    exact this)
  simpa using this
 subst bq
 unfold CC
 simp only[aS,↓aF,aT,cL ag,cm,aZ,aD,aE,y,q _ (show([.int .i64 0,.bc]:List J).length=2 from rfl),A,lf,B,E,F,L,cI az]
 exact cV (K _) ad
theorem afl{N:Nat}{H:U}{v:J}{rows:List (List J)}{to:List Int}{z:List J}{j3:List J->U->bh}(bq:z=[.str ⟨#[]⟩,.bc,.int .i64 0,.int .i64 0,.int .i64 0,.int .i64 0,.int .i64 0,.int .i64 0,.int .i64 0,.int .i64 0,.int .i64 0,.int .i64 0,.int .i64 0])(r:dG H 13 v rows)(an:Rows rows 13 (H.length+1))(p:db to rows.length)(aA:rows.length<=70000){i:Nat}(ag:i<rows.length)(K:List J->U->bh):
 CF aJ N v (dj to) (.ref H.length 0 rows.length rows.length 13,H++[.log (du rows.length z) 13 43 .rw]) (.int .i64 rows.length) j3 K [.int .i64 (i:Int)] (H++[.log (fq to rows z i) 13 43 .rw])=K [.int .i64 ((i+1:Nat):Int)] (H++[.log (fq to rows z (i+1)) 13 43 .rw]):=by
 obtain⟨row,e⟩:=cQ ag
 obtain⟨t,aO,u,w⟩:=p.sI i ag
 obtain⟨c,ro,M⟩:=an row (dH e)
 have m:z.length=13/\z.all dd=true/\∀x∈z,bI (H.length+1) x:=by
  subst bq
  refine⟨rfl,rfl,λx af=>?_⟩
  have:x=.bc\/(∃k n,x=.int k n)\/(∃b,x=.bool b)\/∃s,x=.str s:=by
   simp only[hk,iu,hR]at af
   rcases af with rfl|rfl|rfl|rfl|rfl|rfl|rfl|rfl|rfl|rfl|rfl|rfl|rfl<;>simp
  rcases this with rfl|⟨_,_,rfl⟩|⟨_,rfl⟩|⟨_,rfl⟩<;>simp only[bI]
 have o:∀(G l:U) (rs:List (List J)),rs.length=rows.length->cU (H++.log rs 13 43 .rw::l) 0 13 43 (.ref H.length 0 rows.length rows.length 13) rs:=λG l rs av=>.ref _ _ _ (hQ _) (by rw[eQ];rfl) av.symm
 have az:i<9223372036854775807:=by omega
 have aD:=eW r .i64 e
 have aE:∀l,ab true 13 (c' v row i 0) (H++l)=I (.agg row):=λl=>(e0 (h4 r l) e _ _ _).trans (fQ c)
 have y:∀(vs:List J) (l:U),a_ 13 (.ptr 0 0) (.agg row) (.box vs 43 .rw::l)=(cy vs 0 row).map λb_=>.box b_ 43 .rw::l:=λvs l=>iL c (by decide)
 have q:∀vs:List J,vs.length=13->cy vs 0 row=I row:=λvs aw=>hN (by rw[aw,c]) ro
 have A:=pR .i64 u
 have B:eT true 0 13 row=I (.agg row):=fQ c
 have h:(fq to rows z i)[t]?=I (if ev to t<i then rows.getD (ev to t) z else z):=wv aO
 obtain⟨j,C⟩:∃x,x=(if ev to t<i then rows.getD (ev to t) z else z):=⟨_,rfl⟩
 rw[←C]at h
 have D:j.length=13:=((an.wx m) j (dH h)).1
 have E:=eW (fl (o H [] _ (qJ to rows z i))) .i64 h
 have F:=λl=>ig (o H l _ (qJ to rows z i)) h (n:=13) (x:=.agg row) (f:=0) c (by decide) (q j D)
 have L:∀l:U,wr (H++.log (fq to rows z i) 13 43 .rw::l) (.ref H.length 0 rows.length rows.length 13) 13 43 ((fq to rows z i).set t row)=H++.log (fq to rows z (i+1)) 13 43 .rw::l:=λl=>by
  show(H++_).set H.length _=_
  rw[pt,Je p e aO w];rfl
 have ad:trim (H++[.log (du rows.length z) 13 43 .rw]) [.int .i64 ((i+1:Nat):Int)] (H++[.log (fq to rows z (i+1)) 13 43 .rw,.box row 43 .rw])=H++[.log (fq to rows z (i+1)) 13 43 .rw]:=by
  have:=rI (g:=H++[.log (du rows.length z) 13 43 .rw]) (g':=H++[.log (fq to rows z (i+1)) 13 43 .rw]) (rest:=[.box row 43 .rw]) (r:=[.int .i64 ((i+1:Nat):Int)]) (by simp) (λv aw=>by rw[hl]at aw;subst aw;simp only[bI]) (λk ad=>by
   by_cases h1:k<H.length
   ·left
    rw[cG h1,cG h1]
   ·right
    have:k=H.length:=by simp at ad;omega
    subst this
    refine⟨.log (fq to rows z (i+1)) 13 43 .rw,by rw[eQ];rfl,λx af=>?_⟩
    obtain⟨dD,gd,af⟩:=List.mem_flatten.1 af
    have:=((an.wx m) dD gd).2.2 x af
    rw[show(H++[cq.log (du rows.length z) 13 43 .rw]).length=H.length+1 by simp]
    exact this)
  simpa using this
 subst bq
 unfold CF
 simp only[aS,↓aF,aT,cL ag,cm,aZ,aD,aE,y,q _ (show([.str ⟨#[]⟩,.bc,.int .i64 0,.int .i64 0,.int .i64 0,.int .i64 0,.int .i64 0,.int .i64 0,.int .i64 0,.int .i64 0,.int .i64 0,.int .i64 0,.int .i64 0]:List J).length=13 from rfl),A,lf,B,E,F,L,cI az]
 exact cV (K _) ad
theorem afm{N:Nat}{H:U}{v:J}{rows:List (List J)}{to:List Int}{z:List J}{j3:List J->U->bh}(bq:z=h0)(r:dG H 33 v rows)(an:Rows rows 33 (H.length+1))(p:db to rows.length)(aA:rows.length<=70000){i:Nat}(ag:i<rows.length)(K:List J->U->bh):
 CK aJ N v (dj to) (.ref H.length 0 rows.length rows.length 33,H++[.log (du rows.length z) 33 57 .rw]) (.int .i64 rows.length) j3 K [.int .i64 (i:Int)] (H++[.log (fq to rows z i) 33 57 .rw])=K [.int .i64 ((i+1:Nat):Int)] (H++[.log (fq to rows z (i+1)) 33 57 .rw]):=by
 obtain⟨row,e⟩:=cQ ag
 obtain⟨t,aO,u,w⟩:=p.sI i ag
 obtain⟨c,ro,M⟩:=an row (dH e)
 have m:z.length=33/\z.all dd=true/\∀x∈z,bI (H.length+1) x:=by
  subst bq
  refine⟨rfl,rfl,λx af=>?_⟩
  unfold h0 at af
  have:x=.bc\/(∃k n,x=.int k n)\/(∃b,x=.bool b)\/∃s,x=.str s:=by
   simp only[hk,iu,hR]at af
   rcases af with rfl|rfl|rfl|rfl|rfl|rfl|rfl|rfl|rfl|rfl|rfl|rfl|rfl|rfl|rfl|rfl|rfl|rfl|rfl|rfl|rfl|rfl|rfl|rfl|rfl|rfl|rfl|rfl|rfl|rfl|rfl|rfl|rfl<;>simp
  rcases this with rfl|⟨_,_,rfl⟩|⟨_,rfl⟩|⟨_,rfl⟩<;>simp only[bI]
 have o:∀(G l:U) (rs:List (List J)),rs.length=rows.length->cU (H++.log rs 33 57 .rw::l) 0 33 57 (.ref H.length 0 rows.length rows.length 33) rs:=λG l rs av=>.ref _ _ _ (hQ _) (by rw[eQ];rfl) av.symm
 have az:i<9223372036854775807:=by omega
 have aD:=eW r .i64 e
 have aE:∀l,ab true 33 (c' v row i 0) (H++l)=I (.agg row):=λl=>(e0 (h4 r l) e _ _ _).trans (fQ c)
 have y:∀(vs:List J) (l:U),a_ 33 (.ptr 0 0) (.agg row) (.box vs 57 .rw::l)=(cy vs 0 row).map λb_=>.box b_ 57 .rw::l:=λvs l=>iL c (by decide)
 have q:∀vs:List J,vs.length=33->cy vs 0 row=I row:=λvs aw=>hN (by rw[aw,c]) ro
 have A:=pR .i64 u
 have B:eT true 0 33 row=I (.agg row):=fQ c
 have h:(fq to rows z i)[t]?=I (if ev to t<i then rows.getD (ev to t) z else z):=wv aO
 obtain⟨j,C⟩:∃x,x=(if ev to t<i then rows.getD (ev to t) z else z):=⟨_,rfl⟩
 rw[←C]at h
 have D:j.length=33:=((an.wx m) j (dH h)).1
 have E:=eW (fl (o H [] _ (qJ to rows z i))) .i64 h
 have F:=λl=>ig (o H l _ (qJ to rows z i)) h (n:=33) (x:=.agg row) (f:=0) c (by decide) (q j D)
 have L:∀l:U,wr (H++.log (fq to rows z i) 33 57 .rw::l) (.ref H.length 0 rows.length rows.length 33) 33 57 ((fq to rows z i).set t row)=H++.log (fq to rows z (i+1)) 33 57 .rw::l:=λl=>by
  show(H++_).set H.length _=_
  rw[pt,Je p e aO w];rfl
 have ad:trim (H++[.log (du rows.length z) 33 57 .rw]) [.int .i64 ((i+1:Nat):Int)] (H++[.log (fq to rows z (i+1)) 33 57 .rw,.box row 57 .rw])=H++[.log (fq to rows z (i+1)) 33 57 .rw]:=by
  have:=rI (g:=H++[.log (du rows.length z) 33 57 .rw]) (g':=H++[.log (fq to rows z (i+1)) 33 57 .rw]) (rest:=[.box row 57 .rw]) (r:=[.int .i64 ((i+1:Nat):Int)]) (by simp) (λv aw=>by rw[hl]at aw;subst aw;simp only[bI]) (λk ad=>by
   by_cases h1:k<H.length
   ·left
    rw[cG h1,cG h1]
   ·right
    have:k=H.length:=by simp at ad;omega
    subst this
    refine⟨.log (fq to rows z (i+1)) 33 57 .rw,by rw[eQ];rfl,λx af=>?_⟩
    obtain⟨dD,gd,af⟩:=List.mem_flatten.1 af
    have:=((an.wx m) dD gd).2.2 x af
    rw[show(H++[cq.log (du rows.length z) 33 57 .rw]).length=H.length+1 by simp]
    exact this)
  simpa using this
 subst bq
 unfold CK
 simp only[aS,↓aF,aT,cL ag,cm,aZ,aD,aE,y,q _ (show(h0:List J).length=33 from rfl),A,lf,B,E,F,L,cI az]
 exact cV (K _) ad
theorem HY{H:U}{v:J}{rows:List (List J)}{to:List Int}(r:dG H 2 v rows)(an:Rows rows 2 (H.length+1))(p:db to rows.length)(aA:rows.length<=70000):
 aJ 86 [v,dj to] H=I (.ref H.length 0 rows.length rows.length 2,H++[.log (eE [.int .i64 0,.bc] rows to) 2 39 .rw]):=by
 obtain⟨N,c⟩:∃N:Nat,70000<N:=⟨_,fs _⟩
 refine cg (F:=CB) (by kernel_rfl) N ?_
 rw[ZV];unfold NW
 have b:([.int .i64 0,.bc]:List J).length=2:=rfl
 simp only[aS,↓aF,aT,fH r,vx (show rows.length<=da by unfold da;omega),b]
 refine hq (λi=>[.int .i64 (i:Int)]) (λi=>H++[.log (fq to rows [.int .i64 0,.bc] i) 2 39 .rw]) rows.length (by omega) rfl (by rw[Jd]) (λi ag K=>?_) λK=>?_
 ·have h:=afk (N:=N) (j3:=λe aM=>aL [fx.raw] H aM [J.ref H.length 0 rows.length rows.length 2]) (z:=[.int .i64 0,.bc]) rfl r an p aA ag K
  exact h
 have aC:((rows.length:Int)<(rows.length:Int))=False:=dK (by omega)
 unfold CC
 simp only[aS,↓aF,aT,aC,cW,bg,bd]
 rw[Jf p]
 exact E_
theorem afn{H:U}{v:J}{rows:List (List J)}{to:List Int}(r:dG H 13 v rows)(an:Rows rows 13 (H.length+1))(p:db to rows.length)(aA:rows.length<=70000):
 aJ 88 [v,dj to] H=I (.ref H.length 0 rows.length rows.length 13,H++[.log (eE [.str ⟨#[]⟩,.bc,.int .i64 0,.int .i64 0,.int .i64 0,.int .i64 0,.int .i64 0,.int .i64 0,.int .i64 0,.int .i64 0,.int .i64 0,.int .i64 0,.int .i64 0] rows to) 13 43 .rw]):=by
 obtain⟨N,c⟩:∃N:Nat,70000<N:=⟨_,fs _⟩
 refine cg (F:=CE) (by kernel_rfl) N ?_
 rw[abh];unfold NZ
 have b:([.str ⟨#[]⟩,.bc,.int .i64 0,.int .i64 0,.int .i64 0,.int .i64 0,.int .i64 0,.int .i64 0,.int .i64 0,.int .i64 0,.int .i64 0,.int .i64 0,.int .i64 0]:List J).length=13:=rfl
 simp only[aS,↓aF,aT,fH r,vx (show rows.length<=da by unfold da;omega),b]
 refine hq (λi=>[.int .i64 (i:Int)]) (λi=>H++[.log (fq to rows [.str ⟨#[]⟩,.bc,.int .i64 0,.int .i64 0,.int .i64 0,.int .i64 0,.int .i64 0,.int .i64 0,.int .i64 0,.int .i64 0,.int .i64 0,.int .i64 0,.int .i64 0] i) 13 43 .rw]) rows.length (by omega) rfl (by rw[Jd]) (λi ag K=>?_) λK=>?_
 ·have h:=afl (N:=N) (j3:=λe aM=>aL [fx.raw] H aM [J.ref H.length 0 rows.length rows.length 13]) (z:=[.str ⟨#[]⟩,.bc,.int .i64 0,.int .i64 0,.int .i64 0,.int .i64 0,.int .i64 0,.int .i64 0,.int .i64 0,.int .i64 0,.int .i64 0,.int .i64 0,.int .i64 0]) rfl r an p aA ag K
  exact h
 have aC:((rows.length:Int)<(rows.length:Int))=False:=dK (by omega)
 unfold CF
 simp only[aS,↓aF,aT,aC,cW,bg,bd]
 rw[Jf p]
 exact E_
theorem afo{H:U}{v:J}{rows:List (List J)}{to:List Int}(r:dG H 33 v rows)(an:Rows rows 33 (H.length+1))(p:db to rows.length)(aA:rows.length<=70000):
 aJ 91 [v,dj to] H=I (.ref H.length 0 rows.length rows.length 33,H++[.log (eE h0 rows to) 33 57 .rw]):=by
 obtain⟨N,c⟩:∃N:Nat,70000<N:=⟨_,fs _⟩
 refine cg (F:=CJ) (by kernel_rfl) N ?_
 rw[abk];unfold N2
 have b:(h0:List J).length=33:=rfl
 simp only[aS,↓aF,aT,fH r,vx (show rows.length<=da by unfold da;omega),b]
 refine hq (λi=>[.int .i64 (i:Int)]) (λi=>H++[.log (fq to rows h0 i) 33 57 .rw]) rows.length (by omega) rfl (by rw[Jd]) (λi ag K=>?_) λK=>?_
 ·have h:=afm (N:=N) (j3:=λe aM=>aL [fx.raw] H aM [J.ref H.length 0 rows.length rows.length 33]) (z:=h0) rfl r an p aA ag K
  exact h
 have aC:((rows.length:Int)<(rows.length:Int))=False:=dK (by omega)
 unfold CK
 simp only[aS,↓aF,aT,aC,cW,bg,bd]
 rw[Jf p]
 exact E_
theorem RV(h:U)(k:IntKind)(n:Int):aL [.ah] h h [.int k n]=I (.int k n,h):=by
 have:=MD (h:=h) (l:=[]) (v:=.int k n) rfl
 rwa [fu]at this
def ku(n:Int)(to:List Int):Int:=if n=0 then 0 else to.getD (n-1).toNat 0+1
def g_(n:Int)(m:Nat):Prop:=n=0\/1<=n/\n<=m
theorem db.te{to:List Int}{m:Nat}(p:db to m){n:Int}(aA:1<=n/\n<=m):∃t:Nat,t<m/\to[(n-1).toNat]?=I (t:Int)/\ku n to=(t:Int)+1:=by
 obtain⟨t,aO,b,_⟩:=p.sI (n-1).toNat (by omega)
 refine⟨t,aO,b,?_⟩
 unfold ku
 rw[a1 (by omega),jT,b];rfl
theorem afp{to:List Int}{m:Nat}(p:db to m){n:Int}(aA:g_ n m):g_ (ku n to) m:=by
 rcases aA with rfl|aA
 ·left;rfl
 ·obtain⟨t,aO,_,e⟩:=p.te aA
  right;rw[e];omega
theorem RW{n:Int}{to:List Int}{m:Nat}(aA:g_ n m)(p:db to m)(hm:m<=70000)(h:U):aJ 89 [.int .i64 n,dj to] h=I (.int .i64 (ku n to),h):=by
 refine cg (F:=CG) (by kernel_rfl) 1 ?_
 rw[abi];unfold N0
 rcases aA with rfl|aA
 ·have e:((0:Int)==0)=true:=rfl
  simp only[aS,↓aF,aT,e,aZ,RV]
  rfl
 ·obtain⟨t,aO,b,e⟩:=p.te aA
  have c:(n==0)=false:=by rw[kc];omega
  have aD:IntKind.i64.wrap (n-1)=(((n-1).toNat:Nat):Int):=by rw[wrap64 (by unfold dr;omega)];omega
  have aE:IntKind.i64.wrap ((t:Int)+1)=(t:Int)+1:=wrap64 (by unfold dr;omega)
  simp only[aS,↓aF,aT,c,bg,bd,aD,pR .i64 b,lf,aE,e,RV]
def jG(to:List Int)(p:eD):eD:=(p.1,p.2.map λc=>{ c with inst:=ku c.inst to })
def l4(s:aK)(to:List Int)(i:Nat):aK:={ s with ax:=s.ax.mapIdx λj p=>if j<i then jG to p else p }
def kT(s:aK)(to:List Int):aK:={ s with ax:=s.ax.map (jG to) }
theorem RX(s:aK)(to:List Int):l4 s to 0=s:=by
 unfold l4
 have:(s.ax.mapIdx λj p=>if j<0 then jG to p else p)=s.ax:=by
  apply gn
  intro j
  rw[gS]
  cases s.ax[j]?<;>simp
 rw[this]
theorem RY(s:aK)(to:List Int):l4 s to s.ax.length=kT s to:=by
 unfold l4 kT
 congr 1
 exact sH λj p e=>aQ (List.getElem?_eq_some_iff.1 e).1
theorem wy{s:aK}{to:List Int}{n j:Nat}{x:eD}(h:s.ax[j]?=I x):(l4 s to n).ax[j]?=I (if j<n then jG to x else x):=by
 unfold l4
 rw[gS,h];rfl
theorem RZ{s:aK}{to:List Int}{n j:Nat}(h:s.ax[j]?=none):(l4 s to n).ax[j]?=none:=by
 unfold l4
 rw[gS,h];rfl
theorem R0(A:aU->J)(s:aK)(to:List Int)(n:Nat):ao A (l4 s to n) .ax=ao A s .ax:=by
 show((s.ax.mapIdx _).mapIdx _)=_
 rw[TC]
 show _=s.ax.mapIdx _
 congr 1
 funext i x
 show e7 (if i<n then jG to x else x) _=_
 split<;>rfl
structure sJ(au dJ H:U)(A:aU->J)(s:aK)(to:List Int)(i:Nat):Prop where
 own:c2 au dM H A (l4 s to i)
 bx:fp dJ H
 len:H.length=dJ.length
 sK:∀b,b<dJ.length->H[b]?=dJ[b]?\/∃blk,H[b]?=I blk/\jy dJ.length blk
theorem afq(n:Nat)(l:List Cell):∀x∈(l.map Cell.cs).flatten,bI n x:=by
 intro x af
 obtain⟨r,an,af⟩:=List.mem_flatten.1 af
 obtain⟨c,_,rfl⟩:=List.mem_map.1 an
 simp only[Cell.cs,hk,iu,hR]at af
 rcases af with rfl|rfl|rfl|rfl|rfl|rfl<;>simp only[bI]
theorem sJ.next{au dJ H:U}{A:aU->J}{s:aK}{to:List Int}{i:Nat}{p:eD}(q:sJ au dJ H A s to i)(aj:s.ax[i]?=I p):sJ au dJ (wr H (A (.bZ i)) 6 41 ((jG to p).2.map Cell.cs)) A s to (i+1):=by
 have dp:ao A (l4 s to i) (.bZ i)=p.2.map Cell.cs:=by
  simp only[ao,wy aj];rw[a1 (by omega)]
 have o:cU H au.length 6 41 (A (.bZ i)) (p.2.map Cell.cs):=by rw[←dp];exact q.own.at (k:=.bZ i) rfl
 have w:=q.own.new.wr (.bZ i) (rows:=(jG to p).2.map Cell.cs) (by rw[dp];simp [jG])
 refine⟨q.own.of w (by rw[eI];exact ca _) (λb ae=>rE o ae) (λk _=>⟨rfl,?_⟩) (λk ad=>by cases ad),q.bx.trans (fp.wr o _),by rw[eI];exact q.len,λb ae=>?_⟩
 ·by_cases e:k=.bZ i
  ·subst e
   rw[fm]
   simp only[ao,wy aj]
   rw[aQ (by omega)]
  ·rw[cA _ _ e]
   cases k with
   |ax=>rw[R0,R0]
   |bZ j=>
    have l:j≠i:=λaE=>e (by rw[aE])
    simp only[ao]
    cases c:s.ax[j]? with
    |none=>rw[RZ c,RZ c]
    |some y=>
     rw[wy c,wy c]
     by_cases g:j<i
     ·rw[aQ g,aQ (by omega)]
     ·rw[a1 g,a1 (by omega)]
   |_=>rfl
 ·by_cases e:jD (A (.bZ i))=I b
  ·right
   have h:=jj o (rows':=(jG to p).2.map Cell.cs) (by simp [jG])
   exact⟨_,(k9 h e).2.2,afq _ _⟩
  ·rw[pP e]
   exact q.sK b ae
def hb(to:List Int)(l:List Cell)(m:Nat):List (List J):=(l.mapIdx λj c=>if j<m then { c with inst:=ku c.inst to } else c).map Cell.cs
theorem R2(to:List Int)(l:List Cell)(m:Nat):(hb to l m).length=l.length:=by simp [hb]
theorem R3(to:List Int)(l:List Cell):hb to l 0=l.map Cell.cs:=by
 unfold hb
 congr 1
 apply gn
 intro j
 rw[gS]
 cases l[j]?<;>simp
theorem R4(to:List Int)(p:eD):hb to p.2 p.2.length=(jG to p).2.map Cell.cs:=by
 unfold hb jG
 congr 1
 exact sH λj c e=>aQ (List.getElem?_eq_some_iff.1 e).1
theorem tX{to:List Int}{l:List Cell}{m:Nat}{c:Cell}(h:l[m]?=I c):(hb to l m)[m]?=I c.cs:=by
 unfold hb
 rw[ja,gS,h];simp
theorem Jg{to:List Int}{l:List Cell}{m:Nat}{c:Cell}(h:l[m]?=I c):hb to l (m+1)=(hb to l m).set m ({ c with inst:=ku c.inst to }:Cell).cs:=by
 unfold hb
 rw[←zx]
 congr 1
 exact pQ h (λj b _ g=>by
  by_cases e:j<m
  ·rw[aQ e,aQ (by omega)]
  ·rw[a1 e,a1 (by omega)]) (by rw[aQ (by omega)])
theorem R5(c:Cell)(n:Int):cy c.cs 1 [.int .i64 n]=I ({ c with inst:=n }:Cell).cs:=b9 rfl
theorem wz(c:Cell):c.cs[1]?=I (.int .i64 c.inst):=b9 rfl
theorem R6(p:eD)(c a b:J)(aa:dd c=true):cy [a,b] 0 (e7 p c)=I (e7 p c):=hN rfl (Q' aa)
theorem R7(p:eD)(c:J)(vs:List J)(t:aX)(l:U):a_ 2 (.ptr 0 0) (.agg (e7 p c)) (.box vs t .rw::l)=(cy vs 0 (e7 p c)).map λb_=>.box b_ t .rw::l:=iL rfl (by decide)
theorem afr{N:Nat}{au H:U}{v:J}{p:eD}{to:List Int}{m:Nat}{j:List J->U->bh}(o:cU H au.length 6 41 v (p.2.map Cell.cs))(pm:db to m)(hm:m<=70000)(aa:∀c∈p.2,g_ c.inst m)(av:p.2.length<=70000){i:Nat}(ag:i<p.2.length)(K:List J->U->bh):
 yB aJ N (dj to) (.ptr H.length 0) (H++[.box (e7 p v) 39 .rw]) (.int .i64 p.2.length) j K [.int .i64 (i:Int)] (wr H v 6 41 (hb to p.2 i)++[.box (e7 p v) 39 .rw])=K [.int .i64 ((i+1:Nat):Int)] (wr H v 6 41 (hb to p.2 (i+1))++[.box (e7 p v) 39 .rw]):=by
 obtain⟨c,e⟩:=cQ ag
 have az:i<9223372036854775807:=by omega
 have k:=jj o (rows':=hb to p.2 i) (by rw[R2,dn])
 have g:cU (wr H v 6 41 (hb to p.2 i)++[.box (e7 p v) 39 .rw]) au.length 6 41 v (hb to p.2 i):=ji k λb _ ae=>cG ae
 have l:(wr H v 6 41 (hb to p.2 i)).length=H.length:=eI _ _ _ _ _
 have aD:ab false 1 (.ptr H.length 1) (wr H v 6 41 (hb to p.2 i)++[.box (e7 p v) 39 .rw])=I v:=eJ (by rw[←l,eQ];rfl) (qI p v)
 have aE:=eW (fl g) .i64 (tX e)
 have q:ab false 1 (c' v c.cs i 1) (wr H v 6 41 (hb to p.2 i)++[.box (e7 p v) 39 .rw])=I (.int .i64 c.inst):=(e0 (fl g) (tX e) _ _ _).trans (wz c)
 have t:=λh=>RW (aa c (dH e)) pm hm h
 have st:=ig g (tX e) (n:=1) (x:=.int .i64 (ku c.inst to)) (f:=1) rfl (by decide) (R5 c _)
 rw[oV k,k_,←Jg e]at st
 unfold yB
 simp only[aS,↓aF,aT,cL ag,cm,aZ,aD,aE,iO,q,t,st,cI az]
 exact cV (K _) (hr _ (by simp [eI]))
theorem afs{N:Nat}(B:70000<N){au dJ H:U}{A:aU->J}{s:aK}{to:List Int}{m i:Nat}{p:eD}{j:List J->U->bh}(q:sJ au dJ H A s to i)(pm:db to m)(hm:m<=70000)(aj:s.ax[i]?=I p)(aa:∀c∈p.2,g_ c.inst m)(b:kP s)(K:List J->U->bh):
 CI aJ N (dj to) dJ (A .ax) (.int .i64 s.ax.length) j K [.int .i64 (i:Int)] H=K [.int .i64 ((i+1:Nat):Int)] (wr H (A (.bZ i)) 6 41 ((jG to p).2.map Cell.cs)):=by
 have w:=(List.getElem?_eq_some_iff.1 aj).1
 have x:=b A .ax
 have e:=b A (.bZ i)
 simp only[ao,ln,aj,dn]at x e
 have az:i<9223372036854775807:=by omega
 have g:(l4 s to i).ax[i]?=I p:=by rw[wy aj,a1 (by omega)]
 have rs:=q.own.rs
 have l:=qH (A:=A) g
 have dp:ao A (l4 s to i) (.bZ i)=p.2.map Cell.cs:=by simp only[ao,g]
 have o:cU H au.length 6 41 (A (.bZ i)) (p.2.map Cell.cs):=by rw[←dp];exact q.own.at (k:=.bZ i) rfl
 have aD:=eW (rs .ax) .i64 l
 have aE:ab true 2 (c' (A .ax) (e7 p (A (.bZ i))) i 0) H=I (.agg (e7 p (A (.bZ i)))):=(e0 (rs .ax) l _ _ _).trans (fQ rfl)
 have t:=fH (rs (.bZ i))
 rw[dp,dn]at t
 have u:=q.next aj
 have ad:trim dJ [.int .i64 ((i+1:Nat):Int)] (wr H (A (.bZ i)) 6 41 ((jG to p).2.map Cell.cs)++[.box (e7 p (A (.bZ i))) 39 .rw])=wr H (A (.bZ i)) 6 41 ((jG to p).2.map Cell.cs):=
  rI u.len (λv aw=>by rw[hl]at aw;subst aw;simp only[bI]) u.sK
 have y:∀jj,cr (yB aJ N (dj to) (.ptr H.length 0) (H++[.box (e7 p (A (.bZ i))) 39 .rw]) (.int .i64 p.2.length) jj) N [.int .i64 0] (H++[.box (e7 p (A (.bZ i))) 39 .rw])=jj [] (wr H (A (.bZ i)) 6 41 ((jG to p).2.map Cell.cs)++[.box (e7 p (A (.bZ i))) 39 .rw]):=λjj=>by
  refine hq (λn=>[.int .i64 (n:Int)]) (λn=>wr H (A (.bZ i)) 6 41 (hb to p.2 n)++[.box (e7 p (A (.bZ i))) 39 .rw]) p.2.length (by omega) rfl (by rw[R3,rC o]) (λn aA K=>?_) λK=>?_
  ·have h:=afr (N:=N) (j:=jj) o pm hm aa e aA K
   exact h
  ·have aC:((p.2.length:Int)<(p.2.length:Int))=False:=dK (by omega)
   unfold yB
   simp only[aS,↓aF,aT,aC,cW,bg,bd]
   rw[R4]
 have z:=kr (rs (.bZ i))
 simp only[dS]at aD
 unfold CI
 simp only[aS,↓aF,aT,cL w,cm,aZ,aD,aE,R7,R6 p _ _ _ z,qI,t,y,cI az]
 exact cV (K _) ad
def R8(au dJ:U)(A:aU->J)(s:aK)(q:J×U):Prop:=q.1=iI/\c2 au dM q.2 A s/\fp dJ q.2/\q.2.length=dJ.length/\∀b,b<dJ.length->q.2[b]?=dJ[b]?\/∃blk,q.2[b]?=I blk/\jy dJ.length blk
theorem R9{s:aK}{A:aU->J}{au H:U}{k m:Nat}{t:aX}{to:List Int}(own:c2 au dM H A s)(ae:H[k]?=I (.box (aW A s) t .rw))(pm:db to m)(hm:m<=70000)(aa:∀p∈s.ax,∀c∈p.2,g_ c.inst m)(e:kP s):fa (aJ 90 [.ptr k 0,dj to] H) (R8 au H A (kT s to)):=by
 obtain⟨N,n⟩:∃N:Nat,70000<N:=⟨_,fs _⟩
 refine fa.body (F:=CH) (by kernel_rfl) N ?_
 rw[abj];unfold N1
 have o:=e A .ax
 have g:(ao A s .ax).length=s.ax.length:=by simp [ao]
 rw[g]at o
 have le:=fH (own.rs .ax)
 rw[g]at le
 simp only[aS,↓aF,aT,ld,eJ ae (kR A s),le]
 have u:sJ au H H A s to 0:=⟨by rw[RX];exact own,fp.refl _,rfl,λb _=>.inl rfl⟩
 refine oS (λi G=>sJ au H G A s to i) s.ax.length (by omega) u (λi G ag q=>?_) λG q K=>?_
 ·obtain⟨p,aj⟩:=cQ ag
  exact⟨_,q.next aj,λK=>by
   have h:=afs (N:=N) (j:=λw bp=>aL [] H bp []) n q pm hm aj (aa p (dH aj)) e K
   exact h⟩
 have aC:((s.ax.length:Int)<(s.ax.length:Int))=False:=dK (by omega)
 unfold CI
 simp only[aS,↓aF,aT,aC,cW,bg,bd,rH,hr [] q.len]
 have l:=q.own
 rw[RY]at l
 exact fa.of rfl ⟨rfl,l,q.bx,q.len,q.sK⟩
section
variable {K : Type} {h : U} {base : Nat} {sz : K -> Nat} {ty : K -> aX} {A : K -> J} {R : K -> List (List J)}
theorem iC.perm(o:iC h base sz ty A R)(f:K->K)(aC:∀k b4,f k=f b4->k=b4)(h1:∀k,sz (f k)=sz k)(h2:∀k,ty (f k)=ty k):iC h base sz ty (λk=>A (f k)) (λk=>R (f k)):=
 ⟨λk=>by have:=o.e1 (f k);rwa [h1,h2]at this,λk b4 b aD aE=>aC _ _ (o.inj _ _ b aD aE)⟩
variable [DecidableEq K]
theorem iC.put(o:iC h base sz ty A R)(ae:base<=h.length)(k:K)(rows:List (List J)):iC (h++[.log rows (sz k) (ty k) .rw]) base sz ty (bK A k (.ref h.length 0 rows.length rows.length (sz k))) (bK R k rows):=by
 constructor
 ·intro b4
  by_cases ad:b4=k
  ·subst ad
   rw[fm,fm]
   exact .ref _ _ _ ae (by rw[eQ];rfl) rfl
  ·rw[cA _ _ ad,cA _ _ ad]
   exact ji (o.e1 b4) λb _ ae=>cG ae
 ·intro bt bG b h1 h2
  by_cases aD:bt=k
  ·subst aD
   rw[fm]at h1
   cases h1
   by_cases aE:bG=bt
   ·exact aE.symm
   ·rw[cA _ _ aE]at h2
    have:=(k9 (o.e1 bG) h2).2.1
    omega
  ·rw[cA _ _ aD]at h1
   by_cases aE:bG=k
   ·subst aE
    rw[fm]at h2
    cases h2
    have:=(k9 (o.e1 bt) h1).2.1
    omega
   ·rw[cA _ _ aE]at h2
    exact o.inj _ _ _ h1 h2
end
def wA:eD:=(0,[])
def ij(to:List Int)(n j:Nat):Nat:=if j<n then ev to j else j
theorem oX{to:List Int}{n:Nat}(p:db to n){i j:Nat}(h:ij to n i=ij to n j):i=j:=by
 unfold ij at h
 by_cases h1:i<n<;>by_cases h2:j<n
 ·rw[aQ h1,aQ h2]at h;exact p.inj h1 h2 h
 ·rw[aQ h1,a1 h2]at h;have:=p.ev i h1;omega
 ·rw[a1 h1,aQ h2]at h;have:=p.ev j h2;omega
 ·rw[a1 h1,a1 h2]at h;exact h
theorem i'{α:Type}{d:α}{l:List α}{to:List Int}{j:Nat}(h:¬j<l.length):(eE d l to)[j]?=none:=e2 (by rw[kt];omega)
theorem iQ{α:Type}{d:α}{l:List α}{to:List Int}(p:db to l.length){j:Nat}(h:j<l.length):(eE d l to)[j]?=l[ev to j]?:=by
 have:=p.ev j h
 rw[afi h,jT,gb this];rfl
def kU(s:aK)(to:List Int):aU->aU
 |.bZ j=>.bZ (ij to s.ax.length j)
 |k=>k
def lE(s:aK)(to:List Int):aK:={ s with ax:=eE wA s.ax to }
def rJ(A:aU->J)(s:aK)(to:List Int)(n:Nat):aU->J:=bK (λk=>A (kU s to k)) .ax (.ref n 0 s.ax.length s.ax.length 2)
theorem aft{A:aU->J}{s:aK}{to:List Int}(p:db to s.ax.length)(n:Nat):ao (rJ A s to n) (lE s to) .ax=eE [.int .i64 0,.bc] (ao A s .ax) to:=by
 have av:(ao A s .ax).length=s.ax.length:=by simp [ao]
 apply gn
 intro j
 show((eE wA s.ax to).mapIdx _)[j]?=_
 rw[gS]
 by_cases b:j<s.ax.length
 ·rw[iQ p b,iQ (by rw[av];exact p) (by rw[av];exact b)]
  have az:=p.ev j b
  obtain⟨x,af⟩:=cQ az
  rw[af,qH af]
  simp [rJ,bK,kU,ij,b]
 ·rw[i' b,i' (by rw[av];exact b)];rfl
theorem c2.lE{au H:U}{A:aU->J}{s:aK}{to:List Int}(own:c2 au dM H A s)(p:db to s.ax.length):c2 au dM (H++[.log (eE [.int .i64 0,.bc] (ao A s .ax) to) 2 39 .rw]) (rJ A s to H.length) (Go.aN.X.lE s to):=by
 have av:(ao A s .ax).length=s.ax.length:=by simp [ao]
 have bu:=own.new.perm (kU s to) (λk b4 e=>by
  cases k<;>cases b4<;>simp only[kU]at e<;>first|(cases e;done)|(cases e;rfl)|exact cV aU.bZ (oX p (aU.bZ.inj e))) (λk=>by cases k<;>rfl) (λk=>by cases k<;>rfl)
 have cP:=bu.put own.len .ax (eE [.int .i64 0,.bc] (ao A s .ax) to)
 rw[kt,av]at cP
 refine own.of cP (by simp) (λb ae=>cG (by have:=own.len;omega)) (λk _=>⟨rfl,?_⟩) (λk ad=>by cases ad)
 by_cases e:k=.ax
 ·subst e
  rw[fm,aft p]
 ·rw[cA _ _ e]
  cases k with
  |ax=>exact absurd rfl e
  |bZ j=>
   simp only[kU,ao,Go.aN.X.lE,ij]
   by_cases c:j<s.ax.length
   ·rw[aQ c,iQ p c]
   ·rw[a1 c,i' c,e2 (by omega)]
  |aG=>simp [kU,ao,rJ,bK,Go.aN.X.lE]
  |ai=>simp [kU,ao,rJ,bK,Go.aN.X.lE]
  |_=>rfl
theorem fJ.rows{H:U}{A:aU->J}{s:aK}(r:fJ H A s){k:aU}(ad:iP k=true):Rows (ao A s k) (dS k) (H.length+1):=by
 intro row an
 have h1:=r.one k
 have h2:=r.lt (n:=H.length+1) (by omega) k
 refine⟨?_,List.all_eq_true.2 λx af=>List.all_eq_true.1 h1 x (List.mem_flatten.2 ⟨row,an,af⟩),λx af=>h2 x (List.mem_flatten.2 ⟨row,an,af⟩)⟩
 cases k with
 |bo=>simp only[ao,iT]at an;obtain⟨z,_,rfl⟩:=an;rfl
 |cw=>simp only[ao,iT]at an;obtain⟨z,_,rfl⟩:=an;rfl
 |ax=>simp only[ao,s4]at an;obtain⟨i,_,rfl⟩:=an;rfl
 |aG=>simp only[ao,s4]at an;obtain⟨i,_,rfl⟩:=an;rfl
 |ai=>simp only[ao,s4]at an;obtain⟨i,_,rfl⟩:=an;rfl
 |_=>cases ad
theorem c2.box{au H:U}{A:aU->J}{s:aK}(own:c2 au dM H A s){k:Nat}{vs:List J}{t:aX}{md:eg}(ae:H[k]?=I (.box vs t md))(ad:au.length<=k)(b:cq):c2 au dM (H.set k b) A s:=
 own.of (own.new.same λc _ _ bE=>hj (λe=>by
  obtain⟨_,_,_,bE⟩:=bE
  rw[←e,ae]at bE;cases bE)) (by simp) (λc aa=>hj (by omega)) (λk _=>⟨rfl,rfl⟩) λk ad=>by cases ad
theorem Jh{g:U}{k o:Nat}{vs b_:List J}{t:aX}{v:J}(e:g[k]?=I (.box vs t .rw))(aw:b' v=[v])(aj:cy vs o [v]=I b_):a_ 1 (.ptr k o) v g=I (g.set k (.box b_ t .rw)):=by
 unfold a_
 rw[aw]
 simp only[e,aj,dm]
 rfl
def mC(k:Nat)(H cx:U):Prop:=∀(b:Nat) (vs:List J) (t:aX) (md:eg),b≠k->H[b]?=I (cq.box vs t md)->cx[b]?=I (cq.box vs t md)
theorem fp.z{H cx:U}(h:fp H cx)(k:Nat):mC k H cx:=λb vs t md _ e=>h b vs t md e
theorem mC.trans{k:Nat}{H G F:U}(a:mC k H G)(b:mC k G F):mC k H F:=λc vs t md aa h=>b c vs t md aa (a c vs t md aa h)
theorem mC.set(H:U)(k:Nat)(b:cq):mC k H (H.set k b):=λc vs t md aa h=>by rw[hj (Ne.symm aa)];exact h
def kv(to:List Int)(o:Int):Int:=if mark o=true then o else to.getD o.toNat 0
def ik(to:List Int)(l:List Int)(m:Nat):List (List J):=(l.mapIdx λj o=>if j<m then kv to o else o).map bA
theorem R_(to:List Int)(l:List Int)(m:Nat):(ik to l m).length=l.length:=by simp [ik]
theorem Sa(to:List Int)(l:List Int):ik to l 0=l.map bA:=by
 unfold ik
 congr 1
 apply gn
 intro j
 rw[gS]
 cases l[j]?<;>simp
theorem Sb(to:List Int)(l:List Int):ik to l l.length=(l.map (kv to)).map bA:=by
 unfold ik
 congr 1
 exact sH λj c e=>aQ (List.getElem?_eq_some_iff.1 e).1
theorem sL{to:List Int}{l:List Int}{m:Nat}{o:Int}(h:l[m]?=I o):(ik to l m)[m]?=I (bA o):=by
 unfold ik
 rw[ja,gS,h];simp
theorem E'{to:List Int}{l:List Int}{m:Nat}{o:Int}(h:l[m]?=I o):ik to l (m+1)=(ik to l m).set m (bA (kv to o)):=by
 unfold ik
 rw[←zx]
 congr 1
 exact pQ h (λj b _ c=>by
  by_cases e:j<m
  ·rw[aQ e,aQ (by omega)]
  ·rw[a1 e,a1 (by omega)]) (by rw[aQ (by omega)])
theorem Fa{α:Type}{l:List α}{i:Nat}{a:α}(h:l[i]?=I a):l.set i a=l:=vq h
def hC(s:aK)(to:List Int):aK:={ s with ax:=eE wA s.ax to,bo:=s.bo.map (kv to) }
theorem c2.bo{au H:U}{A:aU->J}{s:aK}{to:List Int}(own:c2 au dM H A (Go.aN.X.lE s to)):c2 au dM (wr H (A .bo) 1 3 ((s.bo.map (kv to)).map bA)) A (hC s to):=by
 have o:cU H au.length 1 3 (A .bo) (s.bo.map bA):=own.at (k:=.bo) rfl
 have w:=own.new.wr .bo (rows:=(s.bo.map (kv to)).map bA) (by simp [ao,Go.aN.X.lE])
 refine own.of w (by rw[eI];exact ca _) (λb ae=>rE o ae) (λk _=>⟨rfl,?_⟩) (λk ad=>by cases ad)
 by_cases e:k=.bo
 ·subst e
  rw[fm];rfl
 ·rw[cA _ _ e]
  cases k<;>first|exact absurd rfl e|rfl
theorem afu(A:aU->J)(s:aK)(b n sz:Nat):cy (aW A s) 10 [.ref b 0 n n sz]=I [.str s.name,.int .i64 s.cb,.int .i64 s.ch,A .bo,.int .i64 s.rest,.int .i64 s.ib,.int .i64 s.ic,.int .i64 s.ie,.bool s.gY,A .cw,.ref b 0 n n sz,A .aG,A .ai]:=b9 rfl
theorem y5(a b:Int):cy (bA a) 0 [.int .i64 b]=I (bA b):=b9 rfl
theorem Ji{to:List Int}{n:Nat}(p:db to n){o:Int}(h:mark o=false)(c:0<=o/\o<n):∃(i t:Nat),o=(i:Int)/\to[i]?=I (t:Int)/\kv to o=(t:Int)/\t<n:=by
 obtain⟨t,aO,b,_⟩:=p.sI o.toNat (by omega)
 refine⟨o.toNat,t,by omega,b,?_,aO⟩
 unfold kv
 rw[h,a1 (by decide),jT,b];rfl
theorem afv{N:Nat}{au dJ G:U}{v:J}{l to:List Int}{k n:Nat}{t:aX}{vs:List J}{j:List J->U->bh}(o:cU G au.length 1 3 v (l.map bA))(ae:G[k]?=I (.box vs t .rw))(aw:vs[3]?=I v)(p:db to n)(g:∀o∈l,mark o=false->0<=o/\o<n)(av:l.length<=70000)(h:dJ=G){i:Nat}(ag:i<l.length)(K:List J->U->bh):
 BQ aJ N (.ptr k 0) (dj to) dJ v (.int .i64 l.length) j K [.int .i64 (i:Int)] (wr G v 1 3 (ik to l i))=K [.int .i64 ((i+1:Nat):Int)] (wr G v 1 3 (ik to l (i+1))):=by
 subst h
 obtain⟨x,af⟩:=cQ ag
 have az:i<9223372036854775807:=by omega
 have c:=jj o (rows':=ik to l i) (by rw[R_,dn])
 have aD:=eW (fl c) .i64 (sL af)
 have aE:ab false 1 (c' v (bA x) i 0) (wr dJ v 1 3 (ik to l i))=I (.int .i64 x):=(e0 (fl c) (sL af) _ _ _).trans (lf x)
 have m:ab false 1 (.ptr k 3) (wr dJ v 1 3 (ik to l i))=I v:=eJ (j8 o ae) aw
 unfold BQ
 by_cases hm:mark x=true
 ·have b:kv to x=x:=by unfold kv;rw[aQ hm]
  have:ik to l (i+1)=ik to l i:=by rw[E' af,b];exact Fa (sL af)
  simp only[aS,↓aF,aT,cL ag,cm,aZ,aD,aE,EF,hm,e3,bg,bd,cI az]
  rw[this]
  exact cV (K _) (hr _ (by simp [eI]))
 ·have e:mark x=false:=by simpa using hm
  obtain⟨w,q,rfl,u,b,_⟩:=Ji p e (g x (dH af) e)
  have st:=ig c (sL af) (n:=1) (x:=.int .i64 (q:Int)) (f:=0) rfl (by decide) (y5 _ _)
  rw[k_,←b,←E' af,b]at st
  simp only[aS,↓aF,aT,cL ag,cm,aZ,aD,aE,EF,e,gp,ld,m,pR .i64 u,lf,st,cI az]
  exact cV (K _) (hr _ (by simp [eI]))
def Jj(au H:U)(k:Nat)(t:aX)(b:aK)(q:J×U):Prop:=q.1=iI/\∃c,c2 au dM q.2 c b/\q.2[k]?=I (.box (aW c b) t .rw)/\mC k H q.2/\H.length<=q.2.length
theorem afw{s:aK}{A:aU->J}{au H:U}{k:Nat}{t:aX}{to:List Int}(own:c2 au dM H A s)(ae:H[k]?=I (.box (aW A s) t .rw))(ad:au.length<=k)(pm:db to s.ax.length)(w:kP s)(M:∀o∈s.bo,mark o=false->0<=o/\o<s.ax.length):
 fa (aJ 39 [.ptr k 0,.int .i64 0,dj to] H) (Jj au H k t (hC s to)):=by
 obtain⟨N,W⟩:∃N:Nat,70000<N:=⟨_,fs _⟩
 refine fa.body (F:=vF) (by kernel_rfl) N ?_
 rw[H_];unfold BS
 have O:=w A .ax
 have ol:=w A .bo
 have x:(ao A s .ax).length=s.ax.length:=by simp [ao]
 have on:s.bo.length<=70000:=by simpa [ao]using ol
 have rs:=own.rs
 have y:=(List.getElem?_eq_some_iff.1 ae).1
 have q:=HY (rs .ax) (rs.rows (k:=.ax) rfl) (by rw[x];exact pm) O
 rw[x]at q
 obtain⟨L,u⟩:∃L,L=cq.log (eE [.int .i64 0,.bc] (ao A s .ax) to) 2 39 .rw:=⟨_,rfl⟩
 rw[←u]at q
 obtain⟨c,n⟩:∃c,c=rJ A s to H.length:=⟨_,rfl⟩
 have B:(H++[L])[k]?=I (.box (aW A s) t .rw):=by rw[cG y];exact ae
 have P:[.str s.name,.int .i64 s.cb,.int .i64 s.ch,A .bo,.int .i64 s.rest,.int .i64 s.ib,.int .i64 s.ic,.int .i64 s.ie,.bool s.gY,A .cw,.ref H.length 0 s.ax.length s.ax.length 2,A .aG,A .ai]=aW c (hC s to):=by
  rw[n];simp [aW,rJ,bK,kU,hC]
 obtain⟨G,g⟩:∃G,G=(H++[L]).set k (.box (aW c (hC s to)) t .rw):=⟨_,rfl⟩
 have st:=Jh B (v:=.ref H.length 0 s.ax.length s.ax.length 2) rfl (afu A s _ _ _)
 rw[P,←g]at st
 have C:c2 au dM G c (lE s to):=by
  rw[g,u,n]
  exact(own.lE pm).box (by rw[←u];exact B) ad _
 have p:G[k]?=I (.box (aW c (hC s to)) t .rw):=by rw[g];exact fr (by simp;omega)
 have o:cU G au.length 1 3 (c .bo) (s.bo.map bA):=C.at (k:=.bo) rfl
 have le:=fH (fl o)
 rw[dn]at le
 have Q:G.length=H.length+1:=by rw[g];simp
 have R:((0:Int)==0)=true:=rfl
 have aD:ab false 1 (.ptr k 10) H=I (A .ax):=eJ ae (kR A s)
 have S:ab false 1 (.ptr k 3) G=I (c .bo):=eJ p (rG c _)
 simp only[aS,↓aF,aT,R,aZ,ld,aD,q,st,S,le]
 refine fa.of (r:=(iI,wr G (c .bo) 1 3 ((s.bo.map (kv to)).map bA))) ?_ ⟨rfl,c,C.bo,j8 o p,?_,?_⟩
 ·refine hq (λi=>[.int .i64 (i:Int)]) (λi=>wr G (c .bo) 1 3 (ik to s.bo i)) s.bo.length (by omega) rfl (by rw[Sa,rC o]) (λi ag K=>?_) λK=>?_
  ·have h:=afv (N:=N) (j:=λX T=>aL [] H T []) o p (rG c _) pm M on rfl ag K
   exact h
  ·have aC:((s.bo.length:Int)<(s.bo.length:Int))=False:=dK (by omega)
   unfold BQ
   simp only[aS,↓aF,aT,aC,cW,bg,bd,rH,Sb]
   have V:trim H [] (wr G (c .bo) 1 3 ((s.bo.map (kv to)).map bA))=wr G (c .bo) 1 3 ((s.bo.map (kv to)).map bA):=by
    refine yk y (j8 o p) (λe=>?_) (A4 (b:=H.length) (lo:=0) (m:=s.ax.length) (v:=s.ax.length) (sz:=2) (by rw[n];simp [aW,rJ,bK]) (ca _))
    rw[ae]at e
    have aE:aW A s=aW c (hC s to):=(cq.box.inj (jR e)).1
    have D:=cV (λl=>l[10]?) aE
    simp only[kR]at D
    have E:=rB (rs .ax)
    rw[jR D,n]at E
    simp only[rJ,fm,bI]at E
    omega
   rw[V]
 ·refine(mC.trans ((fp.app H [L]).z k) ?_).trans ((fp.wr o _).z k)
  rw[g]
  exact mC.set _ _ _
 ·rw[eI,Q];omega
def wB(to:List Int)(c:Int×Int):Int×Int:=(c.1,ku c.2 to)
def kx(to:List Int)(x:c1):c1:={ x with keys:=x.keys.map (wB to) }
def jm(s:aK)(to:List Int)(i:Nat):aK:={ s with ai:=s.ai.mapIdx λj p=>if j<i then kx to p else p }
def jH(s:aK)(to:List Int):aK:={ s with ai:=s.ai.map (kx to) }
theorem Sc(s:aK)(to:List Int):jm s to 0=s:=by
 unfold jm
 have:(s.ai.mapIdx λj p=>if j<0 then kx to p else p)=s.ai:=by
  apply gn
  intro j
  rw[gS]
  cases s.ai[j]?<;>simp
 rw[this]
theorem Sd(s:aK)(to:List Int):jm s to s.ai.length=jH s to:=by
 unfold jm jH
 congr 1
 exact sH λj p e=>aQ (List.getElem?_eq_some_iff.1 e).1
theorem sM{s:aK}{to:List Int}{n j:Nat}{x:c1}(h:s.ai[j]?=I x):(jm s to n).ai[j]?=I (if j<n then kx to x else x):=by
 unfold jm
 rw[gS,h];rfl
theorem Jk{s:aK}{to:List Int}{n j:Nat}(h:s.ai[j]?=none):(jm s to n).ai[j]?=none:=by
 unfold jm
 rw[gS,h];rfl
theorem Se(A:aU->J)(s:aK)(to:List Int)(n:Nat):ao A (jm s to n) .ai=ao A s .ai:=by
 show((s.ai.mapIdx _).mapIdx _)=_
 rw[TC]
 show _=s.ai.mapIdx _
 congr 1
 funext i x
 show bT (if i<n then kx to x else x) _ _ _ _=_
 split<;>rfl
theorem wC(A:aU->J)(s:aK)(to:List Int)(n j:Nat):ao A (jm s to n) (.bm j)=ao A s (.bm j)/\ao A (jm s to n) (.bk j)=ao A s (.bk j)/\ao A (jm s to n) (.bl j)=ao A s (.bl j):=by
 simp only[ao]
 cases e:s.ai[j]? with
 |none=>rw[Jk e];exact⟨rfl,rfl,rfl⟩
 |some x=>
  rw[sM e]
  simp only
  split
  ·exact⟨rfl,rfl,rfl⟩
  ·exact⟨rfl,rfl,rfl⟩
structure qK(au dJ H:U)(A:aU->J)(s:aK)(to:List Int)(i:Nat):Prop where
 own:c2 au dM H A (jm s to i)
 bx:fp dJ H
 len:H.length=dJ.length
 sK:∀b,b<dJ.length->H[b]?=dJ[b]?\/∃blk,H[b]?=I blk/\jy dJ.length blk
theorem afx(n:Nat)(l:List (Int×Int)):∀x∈(l.map cM).flatten,bI n x:=by
 intro x af
 obtain⟨r,an,af⟩:=List.mem_flatten.1 af
 obtain⟨c,_,rfl⟩:=List.mem_map.1 an
 simp only[cM,hk,iu,hR]at af
 rcases af with rfl|rfl<;>simp only[bI]
theorem qK.next{au dJ H:U}{A:aU->J}{s:aK}{to:List Int}{i:Nat}{p:c1}(q:qK au dJ H A s to i)(aj:s.ai[i]?=I p):qK au dJ (wr H (A (.key i)) 2 89 ((kx to p).keys.map cM)) A s to (i+1):=by
 have dp:ao A (jm s to i) (.key i)=p.keys.map cM:=by
  simp only[ao,sM aj];rw[a1 (by omega)]
 have o:cU H au.length 2 89 (A (.key i)) (p.keys.map cM):=by rw[←dp];exact q.own.at (k:=.key i) rfl
 have w:=q.own.new.wr (.key i) (rows:=(kx to p).keys.map cM) (by rw[dp];simp [kx])
 refine⟨q.own.of w (by rw[eI];exact ca _) (λb ae=>rE o ae) (λk _=>⟨rfl,?_⟩) (λk ad=>by cases ad),q.bx.trans (fp.wr o _),by rw[eI];exact q.len,λb ae=>?_⟩
 ·by_cases e:k=.key i
  ·subst e
   rw[fm]
   simp only[ao,sM aj]
   rw[aQ (by omega)]
  ·rw[cA _ _ e]
   cases k with
   |ai=>rw[Se,Se]
   |key j=>
    have l:j≠i:=λaE=>e (by rw[aE])
    simp only[ao]
    cases c:s.ai[j]? with
    |none=>rw[Jk c,Jk c]
    |some y=>
     rw[sM c,sM c]
     by_cases g:j<i
     ·rw[aQ g,aQ (by omega)]
     ·rw[a1 g,a1 (by omega)]
   |bm j=>rw[(wC _ s _ _ j).1,(wC _ s _ _ j).1]
   |bk j=>rw[(wC _ s _ _ j).2.1,(wC _ s _ _ j).2.1]
   |bl j=>rw[(wC _ s _ _ j).2.2,(wC _ s _ _ j).2.2]
   |_=>rfl
 ·by_cases e:jD (A (.key i))=I b
  ·right
   have h:=jj o (rows':=(kx to p).keys.map cM) (by simp [kx])
   exact⟨_,(k9 h e).2.2,afx _ _⟩
  ·rw[pP e]
   exact q.sK b ae
def hD(to:List Int)(l:List (Int×Int))(m:Nat):List (List J):=(l.mapIdx λj c=>if j<m then wB to c else c).map cM
theorem Sf(to:List Int)(l:List (Int×Int))(m:Nat):(hD to l m).length=l.length:=by simp [hD]
theorem Sg(to:List Int)(l:List (Int×Int)):hD to l 0=l.map cM:=by
 unfold hD
 congr 1
 apply gn
 intro j
 rw[gS]
 cases l[j]?<;>simp
theorem Sh(to:List Int)(p:c1):hD to p.keys p.keys.length=(kx to p).keys.map cM:=by
 unfold hD kx
 congr 1
 exact sH λj c e=>aQ (List.getElem?_eq_some_iff.1 e).1
theorem tY{to:List Int}{l:List (Int×Int)}{m:Nat}{c:Int×Int}(h:l[m]?=I c):(hD to l m)[m]?=I (cM c):=by
 unfold hD
 rw[ja,gS,h];simp
theorem Jl{to:List Int}{l:List (Int×Int)}{m:Nat}{c:Int×Int}(h:l[m]?=I c):hD to l (m+1)=(hD to l m).set m (cM (wB to c)):=by
 unfold hD
 rw[←zx]
 congr 1
 exact pQ h (λj b _ g=>by
  by_cases e:j<m
  ·rw[aQ e,aQ (by omega)]
  ·rw[a1 e,a1 (by omega)]) (by rw[aQ (by omega)])
theorem Si(c:Int×Int)(to:List Int):cy (cM c) 1 [.int .i64 (ku c.2 to)]=I (cM (wB to c)):=b9 rfl
theorem y6(c:Int×Int):(cM c)[1]?=I (.int .i64 c.2):=b9 rfl
theorem Jm(p:c1)(k v w q:J){vs:List J}(aw:vs.length=33)(h1:dd k=true)(h2:dd v=true)(ak:dd w=true)(aH:dd q=true):cy vs 0 (bT p k v w q)=I (bT p k v w q):=hN (by rw[aw];rfl) (Ra h1 h2 ak aH)
theorem Jn(p:c1)(k v w q:J)(vs:List J)(t:aX)(l:U):a_ 33 (.ptr 0 0) (.agg (bT p k v w q)) (.box vs t .rw::l)=(cy vs 0 (bT p k v w q)).map λb_=>.box b_ t .rw::l:=iL rfl (by decide)
theorem Jo:h0.length=33:=rfl
theorem afy{N:Nat}{au H:U}{v v2 v3 v4:J}{p:c1}{to:List Int}{m:Nat}{j:List J->U->bh}(o:cU H au.length 2 89 v (p.keys.map cM))(pm:db to m)(hm:m<=70000)(aa:∀c∈p.keys,g_ c.2 m)(av:p.keys.length<=70000){i:Nat}(ag:i<p.keys.length)(K:List J->U->bh):
 yt aJ N (dj to) (.ptr H.length 0) (H++[.box (bT p v v2 v3 v4) 57 .rw]) (.int .i64 p.keys.length) j K [.int .i64 (i:Int)] (wr H v 2 89 (hD to p.keys i)++[.box (bT p v v2 v3 v4) 57 .rw])=K [.int .i64 ((i+1:Nat):Int)] (wr H v 2 89 (hD to p.keys (i+1))++[.box (bT p v v2 v3 v4) 57 .rw]):=by
 obtain⟨c,e⟩:=cQ ag
 have az:i<9223372036854775807:=by omega
 have k:=jj o (rows':=hD to p.keys i) (by rw[Sf,dn])
 have g:cU (wr H v 2 89 (hD to p.keys i)++[.box (bT p v v2 v3 v4) 57 .rw]) au.length 2 89 v (hD to p.keys i):=ji k λb _ ae=>cG ae
 have l:(wr H v 2 89 (hD to p.keys i)).length=H.length:=eI _ _ _ _ _
 have aD:ab false 1 (.ptr H.length 1) (wr H v 2 89 (hD to p.keys i)++[.box (bT p v v2 v3 v4) 57 .rw])=I v:=eJ (by rw[←l,eQ];rfl) (jE p v v2 v3 v4)
 have aE:=eW (fl g) .i64 (tY e)
 have q:ab false 1 (c' v (cM c) i 1) (wr H v 2 89 (hD to p.keys i)++[.box (bT p v v2 v3 v4) 57 .rw])=I (.int .i64 c.2):=(e0 (fl g) (tY e) _ _ _).trans (y6 c)
 have t:=λh=>RW (aa c (dH e)) pm hm h
 have st:=ig g (tY e) (n:=1) (x:=.int .i64 (ku c.2 to)) (f:=1) rfl (by decide) (Si c to)
 rw[oV k,k_,←Jl e]at st
 unfold yt
 simp only[aS,↓aF,aT,cL ag,cm,aZ,aD,aE,iO,q,t,st,cI az]
 exact cV (K _) (hr _ (by simp [eI]))
theorem afz{N:Nat}(B:70000<N){au dJ H:U}{A:aU->J}{s:aK}{to:List Int}{m i:Nat}{p:c1}{j:List J->U->bh}(q:qK au dJ H A s to i)(pm:db to m)(hm:m<=70000)(aj:s.ai[i]?=I p)(aa:∀c∈p.keys,g_ c.2 m)(b:kP s)(K:List J->U->bh):
 BR aJ N (dj to) dJ (A .ai) (.int .i64 s.ai.length) j K [.int .i64 (i:Int)] H=K [.int .i64 ((i+1:Nat):Int)] (wr H (A (.key i)) 2 89 ((kx to p).keys.map cM)):=by
 have w:=(List.getElem?_eq_some_iff.1 aj).1
 have x:=b A .ai
 have e:=b A (.key i)
 simp only[ao,ln,aj,dn]at x e
 have az:i<9223372036854775807:=by omega
 have g:(jm s to i).ai[i]?=I p:=by rw[sM aj,a1 (by omega)]
 have rs:=q.own.rs
 have l:=kQ (A:=A) g
 have dp:ao A (jm s to i) (.key i)=p.keys.map cM:=by simp only[ao,g]
 have o:cU H au.length 2 89 (A (.key i)) (p.keys.map cM):=by rw[←dp];exact q.own.at (k:=.key i) rfl
 obtain⟨row,C⟩:∃row,row=bT p (A (.key i)) (A (.bm i)) (A (.bk i)) (A (.bl i)):=⟨_,rfl⟩
 have aD:=eW (rs .ai) .i64 l
 have aE:ab true 33 (c' (A .ai) (bT p (A (.key i)) (A (.bm i)) (A (.bk i)) (A (.bl i))) i 0) H=I (.agg (bT p (A (.key i)) (A (.bm i)) (A (.bk i)) (A (.bl i)))):=(e0 (rs .ai) l _ _ _).trans (fQ rfl)
 have t:=fH (rs (.key i))
 rw[dp,dn]at t
 have u:=q.next aj
 have ad:trim dJ [.int .i64 ((i+1:Nat):Int)] (wr H (A (.key i)) 2 89 ((kx to p).keys.map cM)++[.box (bT p (A (.key i)) (A (.bm i)) (A (.bk i)) (A (.bl i))) 57 .rw])=wr H (A (.key i)) 2 89 ((kx to p).keys.map cM):=
  rI u.len (λv aw=>by rw[hl]at aw;subst aw;simp only[bI]) u.sK
 have y:∀jj,cr (yt aJ N (dj to) (.ptr H.length 0) (H++[.box (bT p (A (.key i)) (A (.bm i)) (A (.bk i)) (A (.bl i))) 57 .rw]) (.int .i64 p.keys.length) jj) N [.int .i64 0] (H++[.box (bT p (A (.key i)) (A (.bm i)) (A (.bk i)) (A (.bl i))) 57 .rw])=jj [] (wr H (A (.key i)) 2 89 ((kx to p).keys.map cM)++[.box (bT p (A (.key i)) (A (.bm i)) (A (.bk i)) (A (.bl i))) 57 .rw]):=λjj=>by
  refine hq (λn=>[.int .i64 (n:Int)]) (λn=>wr H (A (.key i)) 2 89 (hD to p.keys n)++[.box (bT p (A (.key i)) (A (.bm i)) (A (.bk i)) (A (.bl i))) 57 .rw]) p.keys.length (by omega) rfl (by rw[Sg,rC o]) (λn aA K=>?_) λK=>?_
  ·have h:=afy (N:=N) (j:=jj) (v2:=A (.bm i)) (v3:=A (.bk i)) (v4:=A (.bl i)) o pm hm aa e aA K
   exact h
  ·have aC:((p.keys.length:Int)<(p.keys.length:Int))=False:=dK (by omega)
   unfold yt
   simp only[aS,↓aF,aT,aC,cW,bg,bd]
   rw[Sh]
 have z:=Jm p (A (.key i)) (A (.bm i)) (A (.bk i)) (A (.bl i)) Jo (kr (rs (.key i))) (kr (rs (.bm i))) (kr (rs (.bk i))) (kr (rs (.bl i)))
 simp only[dS]at aD
 unfold BR
 simp only[aS,↓aF,aT,cL w,cm,aZ,aD,aE,Jn,z,jE,t,y,cI az]
 exact cV (K _) ad
def Jp:eS:=⟨⟨#[]⟩,[],0,0,0,0,0,0,0,0,0,0,0⟩
def Jq:bJ:=⟨false,[],false,0,0,false,0,0⟩
def Fb:c1:=⟨⟨#[]⟩,[],Jq,Jq,Jq,0,0,0,0,0,0,0⟩
def lF(s:aK)(to:List Int):aU->aU
 |.cp j=>.cp (ij to s.aG.length j)
 |k=>k
def ew(s:aK)(to:List Int):aK:={ s with aG:=eE Jp s.aG to }
def sN(A:aU->J)(s:aK)(to:List Int)(n:Nat):aU->J:=bK (λk=>A (lF s to k)) .aG (.ref n 0 s.aG.length s.aG.length 13)
theorem afA{A:aU->J}{s:aK}{to:List Int}(p:db to s.aG.length)(n:Nat):ao (sN A s to n) (ew s to) .aG=eE [.str ⟨#[]⟩,.bc,.int .i64 0,.int .i64 0,.int .i64 0,.int .i64 0,.int .i64 0,.int .i64 0,.int .i64 0,.int .i64 0,.int .i64 0,.int .i64 0,.int .i64 0] (ao A s .aG) to:=by
 have av:(ao A s .aG).length=s.aG.length:=by simp [ao]
 apply gn
 intro j
 show((eE Jp s.aG to).mapIdx _)[j]?=_
 rw[gS]
 by_cases b:j<s.aG.length
 ·rw[iQ p b,iQ (by rw[av];exact p) (by rw[av];exact b)]
  have az:=p.ev j b
  obtain⟨x,af⟩:=cQ az
  rw[af,y2 af]
  simp [sN,bK,lF,ij,b]
 ·rw[i' b,i' (by rw[av];exact b)];rfl
theorem c2.ew{au H:U}{A:aU->J}{s:aK}{to:List Int}(own:c2 au dM H A s)(p:db to s.aG.length):c2 au dM (H++[.log (eE [.str ⟨#[]⟩,.bc,.int .i64 0,.int .i64 0,.int .i64 0,.int .i64 0,.int .i64 0,.int .i64 0,.int .i64 0,.int .i64 0,.int .i64 0,.int .i64 0,.int .i64 0] (ao A s .aG) to) 13 43 .rw]) (sN A s to H.length) (Go.aN.X.ew s to):=by
 have av:(ao A s .aG).length=s.aG.length:=by simp [ao]
 have bu:=own.new.perm (lF s to) (λk b4 e=>by
  cases k<;>cases b4<;>simp only[lF]at e<;>first|(cases e;done)|(cases e;rfl)|exact cV aU.cp (oX p (aU.cp.inj e))) (λk=>by cases k<;>rfl) (λk=>by cases k<;>rfl)
 have cP:=bu.put own.len .aG (eE [.str ⟨#[]⟩,.bc,.int .i64 0,.int .i64 0,.int .i64 0,.int .i64 0,.int .i64 0,.int .i64 0,.int .i64 0,.int .i64 0,.int .i64 0,.int .i64 0,.int .i64 0] (ao A s .aG) to)
 rw[kt,av]at cP
 refine own.of cP (by simp) (λb ae=>cG (by have:=own.len;omega)) (λk _=>⟨rfl,?_⟩) (λk ad=>by cases ad)
 by_cases e:k=.aG
 ·subst e
  rw[fm,afA p]
 ·rw[cA _ _ e]
  cases k with
  |aG=>exact absurd rfl e
  |cp j=>
   simp only[lF,ao,Go.aN.X.ew,ij]
   by_cases c:j<s.aG.length
   ·rw[aQ c,iQ p c]
   ·rw[a1 c,i' c,e2 (by omega)]
  |ax=>simp [lF,ao,sN,bK,Go.aN.X.ew]
  |ai=>simp [lF,ao,sN,bK,Go.aN.X.ew]
  |_=>rfl
def jn(s:aK)(to:List Int):aU->aU
 |.key j=>.key (ij to s.ai.length j)
 |.bm j=>.bm (ij to s.ai.length j)
 |.bk j=>.bk (ij to s.ai.length j)
 |.bl j=>.bl (ij to s.ai.length j)
 |k=>k
def gH(s:aK)(to:List Int):aK:={ s with ai:=eE Fb s.ai to }
def sO(A:aU->J)(s:aK)(to:List Int)(n:Nat):aU->J:=bK (λk=>A (jn s to k)) .ai (.ref n 0 s.ai.length s.ai.length 33)
theorem afB{A:aU->J}{s:aK}{to:List Int}(p:db to s.ai.length)(n:Nat):ao (sO A s to n) (gH s to) .ai=eE h0 (ao A s .ai) to:=by
 have av:(ao A s .ai).length=s.ai.length:=by simp [ao]
 apply gn
 intro j
 show((eE Fb s.ai to).mapIdx _)[j]?=_
 rw[gS]
 by_cases b:j<s.ai.length
 ·rw[iQ p b,iQ (by rw[av];exact p) (by rw[av];exact b)]
  have az:=p.ev j b
  obtain⟨x,af⟩:=cQ az
  rw[af,kQ af]
  simp [sO,bK,jn,ij,b]
 ·rw[i' b,i' (by rw[av];exact b)];rfl
theorem c2.gH{au H:U}{A:aU->J}{s:aK}{to:List Int}(own:c2 au dM H A s)(p:db to s.ai.length):c2 au dM (H++[.log (eE h0 (ao A s .ai) to) 33 57 .rw]) (sO A s to H.length) (Go.aN.X.gH s to):=by
 have av:(ao A s .ai).length=s.ai.length:=by simp [ao]
 have bu:=own.new.perm (jn s to) (λk b4 e=>by
  cases k<;>cases b4<;>simp only[jn]at e<;>first|(cases e;done)|(cases e;rfl)|exact cV aU.key (oX p (aU.key.inj e))|exact cV aU.bm (oX p (aU.bm.inj e))|exact cV aU.bk (oX p (aU.bk.inj e))|exact cV aU.bl (oX p (aU.bl.inj e))) (λk=>by cases k<;>rfl) (λk=>by cases k<;>rfl)
 have cP:=bu.put own.len .ai (eE h0 (ao A s .ai) to)
 rw[kt,av]at cP
 refine own.of cP (by simp) (λb ae=>cG (by have:=own.len;omega)) (λk _=>⟨rfl,?_⟩) (λk ad=>by cases ad)
 by_cases e:k=.ai
 ·subst e
  rw[fm,afB p]
 ·rw[cA _ _ e]
  cases k with
  |ai=>exact absurd rfl e
  |key j=>
   simp only[jn,ao,Go.aN.X.gH,ij]
   by_cases c:j<s.ai.length
   ·rw[aQ c,iQ p c]
   ·rw[a1 c,i' c,e2 (by omega)]
  |bm j=>
   simp only[jn,ao,Go.aN.X.gH,ij]
   by_cases c:j<s.ai.length
   ·rw[aQ c,iQ p c]
   ·rw[a1 c,i' c,e2 (by omega)]
  |bk j=>
   simp only[jn,ao,Go.aN.X.gH,ij]
   by_cases c:j<s.ai.length
   ·rw[aQ c,iQ p c]
   ·rw[a1 c,i' c,e2 (by omega)]
  |bl j=>
   simp only[jn,ao,Go.aN.X.gH,ij]
   by_cases c:j<s.ai.length
   ·rw[aQ c,iQ p c]
   ·rw[a1 c,i' c,e2 (by omega)]
  |ax=>simp [jn,ao,sO,bK,Go.aN.X.gH]
  |aG=>simp [jn,ao,sO,bK,Go.aN.X.gH]
  |_=>rfl
theorem Sj(A:aU->J)(s:aK):(aW A s)[1]?=I (.int .i64 s.cb):=b9 rfl
theorem afC{h l:U}{d:Int}:aL [.ah] h (h++l) [.agg (c_ d)]=I (.agg (c_ d),h):=by
 refine rl (ws:=[.agg (c_ d)]) (l:=l) (by simp only[i_,j1,k3,dy,dm]) ?_
 intro v aw
 simp only[hl]at aw
 subst aw
 exact j2 (qz (λr=>pA (.agg r)=true) rfl rfl rfl rfl rfl rfl rfl _)
theorem Sk(A:aU->J)(s:aK)(h:U):aJ 45 [.agg (aW A s)] h=I (.agg (c_ s.cb),h):=by
 refine cg (F:=BY) (by kernel_rfl) 1 ?_
 rw[Zr];unfold Nr
 have bs:=wa s.cb (vs:=eR) rfl
 have b:=wa s.cb (vs:=c_ s.cb) (mo _)
 simp only[aS,↓aF,aT,Sj,tz,tR,bs,b,QC]
 exact afC
theorem Fc(d:Int):vi false 6 1 (.agg (c_ d))=I (.bool (eZ d 6)):=by
 show eT false 6 1 (c_ d)=_
 rw[pz]
 exact yL d
theorem afD(A:aU->J)(s:aK)(b n sz:Nat):cy (aW A s) 11 [.ref b 0 n n sz]=I [.str s.name,.int .i64 s.cb,.int .i64 s.ch,A .bo,.int .i64 s.rest,.int .i64 s.ib,.int .i64 s.ic,.int .i64 s.ie,.bool s.gY,A .cw,A .ax,.ref b 0 n n sz,A .ai]:=b9 rfl
theorem afE(A:aU->J)(s:aK)(b n sz:Nat):cy (aW A s) 12 [.ref b 0 n n sz]=I [.str s.name,.int .i64 s.cb,.int .i64 s.ch,A .bo,.int .i64 s.rest,.int .i64 s.ib,.int .i64 s.ic,.int .i64 s.ie,.bool s.gY,A .cw,A .ax,A .aG,.ref b 0 n n sz]:=b9 rfl
structure gw(s:aK):Prop where
 bo:s.bo.length<=70000
 cw:s.cw.length<=70000
 ax:s.ax.length<=70000
 aG:s.aG.length<=70000
 ai:s.ai.length<=70000
 bZ:∀p∈s.ax,p.2.length<=70000
 cp:∀x∈s.aG,x.data.length<=70000
 ins:∀x∈s.ai,x.keys.length<=70000/\x.bm.dt.length<=70000/\x.bk.dt.length<=70000/\x.bl.dt.length<=70000
theorem gw.small{s:aK}(h:gw s):kP s:=by
 intro A k
 cases k with
 |bo=>simp only[ao,dn];exact h.bo
 |cw=>simp only[ao,dn];exact h.cw
 |ax=>simp only[ao,ln];exact h.ax
 |aG=>simp only[ao,ln];exact h.aG
 |ai=>simp only[ao,ln];exact h.ai
 |bZ i=>simp only[ao];cases e:s.ax[i]? with
  |none=>simp
  |some p=>simp only[dn];exact h.bZ p (dH e)
 |cp i=>simp only[ao];cases e:s.aG[i]? with
  |none=>simp
  |some p=>simp only[dn];exact h.cp p (dH e)
 |key i=>simp only[ao];cases e:s.ai[i]? with
  |none=>simp
  |some p=>simp only[dn];exact(h.ins p (dH e)).1
 |bm i=>simp only[ao];cases e:s.ai[i]? with
  |none=>simp
  |some p=>simp only[dn];exact(h.ins p (dH e)).2.1
 |bk i=>simp only[ao];cases e:s.ai[i]? with
  |none=>simp
  |some p=>simp only[dn];exact(h.ins p (dH e)).2.2.1
 |bl i=>simp only[ao];cases e:s.ai[i]? with
  |none=>simp
  |some p=>simp only[dn];exact(h.ins p (dH e)).2.2.2
theorem pS{α:Type}{d:α}{l:List α}{to:List Int}(p:db to l.length){x:α}(h:x∈eE d l to):x∈l:=by
 obtain⟨j,b⟩:=List.mem_iff_getElem?.1 h
 have av:=(List.getElem?_eq_some_iff.1 b).1
 rw[kt]at av
 rw[iQ p av]at b
 exact dH b
theorem gw.lE{s:aK}{to:List Int}(h:gw s)(p:db to s.ax.length):gw (Go.aN.X.lE s to):=
 ⟨h.bo,h.cw,by show(eE _ _ _).length<=_;rw[kt];exact h.ax,h.aG,h.ai,λq bs=>h.bZ q (pS p bs),h.cp,h.ins⟩
theorem gw.ew{s:aK}{to:List Int}(h:gw s)(p:db to s.aG.length):gw (Go.aN.X.ew s to):=
 ⟨h.bo,h.cw,h.ax,by show(eE _ _ _).length<=_;rw[kt];exact h.aG,h.ai,h.bZ,λq bs=>h.cp q (pS p bs),h.ins⟩
theorem gw.gH{s:aK}{to:List Int}(h:gw s)(p:db to s.ai.length):gw (Go.aN.X.gH s to):=
 ⟨h.bo,h.cw,h.ax,h.aG,by show(eE _ _ _).length<=_;rw[kt];exact h.ai,h.bZ,h.cp,λq bs=>h.ins q (pS p bs)⟩
theorem gw.afF{s:aK}{to:List Int}(h:gw s)(p:db to s.ax.length):gw (hC s to):=
 ⟨by show(s.bo.map _).length<=_;rw[dn];exact h.bo,h.cw,by show(eE _ _ _).length<=_;rw[kt];exact h.ax,h.aG,h.ai,λq bs=>h.bZ q (pS p bs),h.cp,h.ins⟩
theorem gw.kT{s:aK}(to:List Int)(h:gw s):gw (Go.aN.X.kT s to):=
 ⟨h.bo,h.cw,by show(s.ax.map _).length<=_;rw[dn];exact h.ax,h.aG,h.ai,λq bs=>by
  obtain⟨p,aj,rfl⟩:=List.mem_map.1 bs
  simp only[jG,dn];exact h.bZ p aj,h.cp,h.ins⟩
theorem gw.jH{s:aK}(to:List Int)(h:gw s):gw (Go.aN.X.jH s to):=
 ⟨h.bo,h.cw,h.ax,h.aG,by show(s.ai.map _).length<=_;rw[dn];exact h.ai,h.bZ,h.cp,λq bs=>by
  obtain⟨p,aj,rfl⟩:=List.mem_map.1 bs
  simp only[kx,dn];exact h.ins p aj⟩
theorem gw.fK{s:aK}(h:gw s):gw (Go.aN.X.fK s):=
 ⟨h.bo,h.cw,h.ax,h.aG,by show(s.ai.mapIdx _).length<=_;rw[ln];exact h.ai,h.bZ,h.cp,λq bs=>by
  obtain⟨i,ag,rfl⟩:=List.mem_mapIdx.1 (show q∈s.ai.mapIdx _ from bs)
  have:=h.ins _ (pX ag)
  rw[RQ,RR,RS]
  refine⟨?_,this.2⟩
  unfold jF
  split
  ·exact this.1
  ·show(gv _ 120).length<=_
   rw[Ja];decide⟩
theorem fJ.Jr{H:U}{A:aU->J}{s:aK}(r:fJ H A s):∀x∈aW A s,bI H.length x:=by
 have h1:∀k,bI H.length (A k):=λk=>rB (r k)
 intro x af
 simp only[aW,hk,iu,hR]at af
 rcases af with rfl|rfl|rfl|rfl|rfl|rfl|rfl|rfl|rfl|rfl|rfl|rfl|rfl<;>first|exact h1 _|simp only[bI]
theorem Js{H F:U}{k b n sz:Nat}{t c:aX}{vs b_:List J}{roots:List J}(g:k<H.length)(ae:H[k]?=I (.box vs t .rw))(h:F[k]?=I (.box b_ c .rw))(hm:J.ref b 0 n n sz∈b_)(i:H.length<=b)(j:∀x∈vs,bI H.length x):trim H roots F=F:=by
 refine yk g h (λe=>?_) (A4 hm i)
 rw[ae]at e
 have aE:=(cq.box.inj (jR e)).1
 rw[←aE]at hm
 have:=j _ hm
 simp only[bI]at this
 omega
def jo(s:aK)(to:List Int):aK:=kT (gH s to) to
def h5(s:aK)(to:List Int):aK:=if eZ s.cb 6=true then jH (ew s to) to else kT (jH (ew s to) to) to
theorem afG{s:aK}{A:aU->J}{au H:U}{k:Nat}{t:aX}{to:List Int}(own:c2 au dM H A s)(ae:H[k]?=I (.box (aW A s) t .rw))(ad:au.length<=k)(pm:db to s.ai.length)(g:gw s)(aa:∀p∈s.ax,∀c∈p.2,g_ c.inst s.ai.length):
 fa (aJ 39 [.ptr k 0,.int .i64 2,dj to] H) (Jj au H k t (jo s to)):=by
 refine fa.body (F:=vF) (by kernel_rfl) 1 ?_
 rw[H_];unfold BS
 have m:(ao A s .ai).length=s.ai.length:=by simp [ao]
 have rs:=own.rs
 have o:=(List.getElem?_eq_some_iff.1 ae).1
 have h:=afo (rs .ai) (rs.rows (k:=.ai) rfl) (by rw[m];exact pm) (g.small A .ai)
 rw[m]at h
 obtain⟨L,i⟩:∃L,L=cq.log (eE h0 (ao A s .ai) to) 33 57 .rw:=⟨_,rfl⟩
 rw[←i]at h
 obtain⟨b,j⟩:∃b,b=sO A s to H.length:=⟨_,rfl⟩
 have q:(H++[L])[k]?=I (.box (aW A s) t .rw):=by rw[cG o];exact ae
 have B:[.str s.name,.int .i64 s.cb,.int .i64 s.ch,A .bo,.int .i64 s.rest,.int .i64 s.ib,.int .i64 s.ic,.int .i64 s.ie,.bool s.gY,A .cw,A .ax,A .aG,.ref H.length 0 s.ai.length s.ai.length 33]=aW b (gH s to):=by
  rw[j];simp [aW,sO,bK,jn,gH]
 obtain⟨G,e⟩:∃G,G=(H++[L]).set k (.box (aW b (gH s to)) t .rw):=⟨_,rfl⟩
 have st:=Jh q (v:=.ref H.length 0 s.ai.length s.ai.length 33) rfl (afE A s _ _ _)
 rw[B,←e]at st
 have C:c2 au dM G b (gH s to):=by
  rw[e,i,j]
  exact(own.gH pm).box (by rw[←i];exact q) ad _
 have u:G[k]?=I (.box (aW b (gH s to)) t .rw):=by rw[e];exact fr (by simp;omega)
 have D:G.length=H.length+1:=by rw[e];simp
 obtain⟨⟨O,F⟩,an,w,x,l,br,-⟩:=R9 C u pm (g.ai) aa (g.gH pm).small
 simp only at w x l br
 subst w
 have E:((2:Int)==0)=false:=rfl
 have K:((2:Int)==1)=false:=rfl
 have M:((2:Int)==2)=true:=rfl
 have aD:ab false 1 (.ptr k 12) H=I (A .ai):=eJ ae (iD A s)
 have y:=l _ _ _ _ u
 have N:=Js (roots:=[]) (n:=s.ai.length) (sz:=33) o ae y (by rw[j];simp [aW,sO,bK]) (ca _) rs.Jr
 simp only[aS,↓aF,aT,E,K,M,bg,bd,aZ,ld,aD,h,st,an,rH,N]
 refine fa.of rfl ⟨rfl,b,x,y,?_,by rw[br,D];omega⟩
 refine(mC.trans ((fp.app H [L]).z k) ?_).trans (l.z k)
 rw[e]
 exact mC.set _ _ _
theorem Sl{s:aK}{A:aU->J}{au H:U}{k:Nat}{t:aX}{to:List Int}(own:c2 au dM H A s)(ae:H[k]?=I (.box (aW A s) t .rw))(ad:au.length<=k)(pm:db to s.aG.length)(g:gw s)(aa:eZ s.cb 6=false->∀p∈s.ax,∀c∈p.2,g_ c.inst s.aG.length)(Z:∀x∈s.ai,∀c∈x.keys,g_ c.2 s.aG.length):
 fa (aJ 39 [.ptr k 0,.int .i64 1,dj to] H) (Jj au H k t (h5 s to)):=by
 obtain⟨N,ac⟩:∃N:Nat,70000<N:=⟨_,fs _⟩
 refine fa.body (F:=vF) (by kernel_rfl) N ?_
 rw[H_];unfold BS
 have D:(ao A s .aG).length=s.aG.length:=by simp [ao]
 have rs:=own.rs
 have n:=(List.getElem?_eq_some_iff.1 ae).1
 have o:=afn (rs .aG) (rs.rows (k:=.aG) rfl) (by rw[D];exact pm) (g.small A .aG)
 rw[D]at o
 obtain⟨L,u⟩:∃L,L=cq.log (eE [.str ⟨#[]⟩,.bc,.int .i64 0,.int .i64 0,.int .i64 0,.int .i64 0,.int .i64 0,.int .i64 0,.int .i64 0,.int .i64 0,.int .i64 0,.int .i64 0,.int .i64 0] (ao A s .aG) to) 13 43 .rw:=⟨_,rfl⟩
 rw[←u]at o
 obtain⟨e,w⟩:∃e,e=sN A s to H.length:=⟨_,rfl⟩
 have M:(H++[L])[k]?=I (.box (aW A s) t .rw):=by rw[cG n];exact ae
 have af:[.str s.name,.int .i64 s.cb,.int .i64 s.ch,A .bo,.int .i64 s.rest,.int .i64 s.ib,.int .i64 s.ic,.int .i64 s.ie,.bool s.gY,A .cw,A .ax,.ref H.length 0 s.aG.length s.aG.length 13,A .ai]=aW e (ew s to):=by
  rw[w];simp [aW,sN,bK,lF,ew]
 obtain⟨G,l⟩:∃G,G=(H++[L]).set k (.box (aW e (ew s to)) t .rw):=⟨_,rfl⟩
 have st:=Jh M (v:=.ref H.length 0 s.aG.length s.aG.length 13) rfl (afD A s _ _ _)
 rw[af,←l]at st
 have O:c2 au dM G e (ew s to):=by
  rw[l,u,w]
  exact(own.ew pm).box (by rw[←u];exact M) ad _
 have P:G[k]?=I (.box (aW e (ew s to)) t .rw):=by rw[l];exact fr (by simp;omega)
 have ak:G.length=H.length+1:=by rw[l];simp
 have Q:mC k H G:=by
  refine mC.trans ((fp.app H [L]).z k) ?_
  rw[l]
  exact mC.set _ _ _
 have R:J.ref H.length 0 s.aG.length s.aG.length 13∈aW e (ew s to):=by rw[w];simp [aW,sN,bK]
 have al:((1:Int)==0)=false:=rfl
 have am:((1:Int)==1)=true:=rfl
 have aD:ab false 1 (.ptr k 11) H=I (A .aG):=eJ ae (mB A s)
 have aE:ab false 1 (.ptr k 12) G=I (e .ai):=eJ P (iD e _)
 have ap:(ao e (ew s to) .ai).length=s.ai.length:=by simp [ao,ew]
 have le:=fH (O.rs .ai)
 rw[ap]at le
 have aw:=g.ai
 simp only[aS,↓aF,aT,al,am,bg,bd,aZ,ld,aD,o,st,aE,le]
 have aq:qK au G G e (ew s to) to 0:=⟨by rw[Sc];exact O,fp.refl _,rfl,λb _=>.inl rfl⟩
 refine oS (λi F=>qK au G F e (ew s to) to i) s.ai.length (by omega) aq (λi F ag q=>?_) λF q K=>?_
 ·obtain⟨p,aj⟩:=cQ ag
  refine⟨_,q.next aj,λK=>?_⟩
  have h:=afz (N:=N) (j:=?jj) ac q pm g.aG aj (Z p (dH aj)) (g.ew pm).small K
  exact h
 have aC:((s.ai.length:Int)<(s.ai.length:Int))=False:=dK (by omega)
 have y:=q.own
 have ar:jm (ew s to) to s.ai.length=jH (ew s to) to:=Sd (ew s to) to
 rw[ar]at y
 have av:=q.bx _ _ _ _ P
 have m:F[k]?=I (.box (aW e (jH (ew s to) to)) t .rw):=av
 have S:ab true 13 (.ptr k 0) F=I (.agg (aW e (jH (ew s to) to))):=jl m rfl
 have T:=λh=>Sk e (jH (ew s to) to) h
 have hd:(jH (ew s to) to).cb=s.cb:=rfl
 have V:H.length<=F.length:=by rw[q.len,ak];omega
 unfold BR
 cases bs:eZ s.cb 6 with
 |true=>
  have aj:h5 s to=jH (ew s to) to:=by unfold h5;rw[aQ bs]
  have B:=Js (roots:=[]) n ae m R (ca _) rs.Jr
  simp only[aS,↓aF,aT,aC,cW,bg,bd,ld,S,T,hd,Fc,bs,e3,rH,B]
  rw[aj]
  exact fa.of rfl ⟨rfl,e,y,m,Q.trans (q.bx.z k),V⟩
 |false=>
  have aj:h5 s to=kT (jH (ew s to) to) to:=by unfold h5;rw[a1 (by rw[bs];decide)]
  obtain⟨⟨ay,E⟩,an,W,X,C,br,-⟩:=R9 y m pm g.aG (aa bs) ((g.ew pm).jH to).small
  simp only at W X C br
  subst W
  have Y:=C _ _ _ _ m
  have B:=Js (roots:=[]) n ae Y R (ca _) rs.Jr
  simp only[aS,↓aF,aT,aC,cW,bg,bd,ld,S,T,hd,Fc,bs,gp,aZ,an,rH,B]
  rw[aj]
  exact fa.of rfl ⟨rfl,e,X,Y,(Q.trans (q.bx.z k)).trans (C.z k),by rw[br];exact V⟩
structure qL(b:Nat)(ok:List Int->Prop)(H:List Int->U):Prop where
 len:∀L,(H L).length=(H []).length
 wD:∀L x rest,ok (L++[x])->aJ dP [.ptr b 0,.int .i64 x] (H L++rest)=I (.bool true,H (L++[x])++rest)
 ah:∀L gx k,k<(H []).length->(H gx)[k]?=(H L)[k]?\/∃blk,(H gx)[k]?=I blk/\jy (H []).length blk
 pre:∀A B,ok (A++B)->ok A
theorem qL.trim{b:Nat}{ok:List Int->Prop}{H:List Int->U}(s:qL b ok H)(L gx:List Int){r:List J}(an:∀v∈r,bI (H []).length v)(rest:U):Go.aN.trim (H L) r (H gx++rest)=H gx:=by
 have e:(H L).length=(H gx).length:=by rw[s.len L,s.len gx]
 have aa:(∀v∈r,bI (H L).length v)/\∀b,b<(H L).length->(H gx++rest)[b]?=(H L)[b]?\/∃blk,(H gx++rest)[b]?=I blk/\jy (H L).length blk:=by
  have c:=s.len L
  refine⟨by rw[c];exact an,λb ae=>?_⟩
  rw[cG (by omega),c]
  exact s.ah L gx b (by omega)
 unfold Go.aN.trim
 rw[aQ aa,e,uv]
theorem y7(h h':U):aL [] h h' []=I (iI,trim h [] h'):=by
 rw[nb,j1,dm]
 rfl
def nt(h:U)(g:J)(c:List Int):Prop:=∀(b:Nat) (ok:List Int->Prop) (H:List Int->U) (L:List Int),qL b ok H->(∀M k,k<h.length->(H M)[k]?=h[k]?)->ok (L++c)->po aJ g [.yield b] (H L)=I (iI,H (L++c))
theorem Jt{g h:U}{k:Nat}(e:g[k]?=h[k]?):jZ g k=jZ h k:=by unfold jZ;rw[e]
theorem Sm{g:U}{k o:Nat}{vs:List J}{v:J}(e:jZ g k=I vs)(aw:vs[o]?=I v):ab false 1 (.ptr k o) g=I v:=by
 rw[lv,e,dy]
 exact aw
theorem Ju{g:U}{k:Nat}{vs:List J}(e:jZ g k=I vs):k<g.length:=by
 unfold jZ at e
 cases h:g[k]? with
 |none=>rw[h]at e;cases e
 |some x=>exact(List.getElem?_eq_some_iff.1 h).1
theorem Sn{g:U}{k:Nat}{vs:List J}(e:jZ g k=I vs)(l:U):jZ (g++l) k=I vs:=by
 rw[←e]
 exact Jt (cG (Ju e))
theorem Fe{α:Type}{P:List α->Prop}(au:P [])(h1:∀l a,P l->P (l++[a])):∀l,P l:=by
 intro l
 rw[←List.reverse_reverse l]
 induction l.reverse with
 |nil=>exact au
 |cons a t b=>rw[List.reverse_cons];exact h1 _ _ b
def tZ(b:List Int)(o:Int):List Int:=if(mark o||b.contains o)=true then b else b++[o]
def dL(l:List Int):List Int:=l.foldl tZ []
theorem y8(l:List Int)(o:Int):dL (l++[o])=tZ (dL l) o:=by unfold dL;rw[F5];rfl
theorem afH(l cB:List Int):∃r,dL (l++cB)=dL l++r:=by
 refine Fe (P:=λcB=>∃r,dL (l++cB)=dL l++r) ⟨[],by simp⟩ (λcB o b=>?_) cB
 ·obtain⟨r,an⟩:=b
  rw[←eo,y8,an]
  unfold tZ
  split
  ·exact⟨r,rfl⟩
  ·exact⟨r++[o],by rw[eo]⟩
theorem Ff(l:List Int):∀o,o∈dL l↔o∈l/\mark o=false:=by
 refine Fe (P:=λl=>∀o,o∈dL l↔o∈l/\mark o=false) (λo=>by simp [dL]) (λl x b=>?_) l
 ·intro o
  rw[y8]
  unfold tZ
  by_cases af:(mark x||(dL l).contains x)=true
  ·rw[aQ af,b,mN,hl]
   constructor
   ·rintro⟨h1,h2⟩;exact⟨.inl h1,h2⟩
   ·rintro⟨h1|rfl,h2⟩
    ·exact⟨h1,h2⟩
    ·rw[h2,rN,List.contains_iff_mem,b]at af
     exact af
  ·rw[a1 af,mN,hl,b,mN,hl]
   have hm:mark x=false:=by
    cases h:mark x with
    |false=>rfl
    |true=>rw[h]at af;simp at af
   constructor
   ·rintro(⟨h1,h2⟩|rfl)
    ·exact⟨.inl h1,h2⟩
    ·exact⟨.inr rfl,hm⟩
   ·rintro⟨h1|rfl,h2⟩
    ·exact .inl ⟨h1,h2⟩
    ·exact .inr rfl
def pT(l:List Int):List (J×J):=l.map λo=>(.int .i64 o,.bool true)
theorem Sp(o:Int):∀l:List Int,tp .int (.int .i64 o) (pT l)=I (if l.contains o=true then I (.bool true)else none)
 |[]=>rfl
 |y::r=>by
  have b:=Sp o r
  unfold pT at b|-
  rw[qV,tp]
  simp only[tn,aZ]
  by_cases h:o=y
  ·subst h;simp
  ·have h2:(o==y)=false:=by simpa using h
   rw[h2]
   simp only[b,List.contains_cons,h2,rN]
theorem Sq(o:Int):∀l:List Int,l.contains o=false->qa .int (.int .i64 o) (.bool true) (pT l)=I (pT (l++[o]))
 |[],_=>rfl
 |y::r,h=>by
  rw[List.contains_cons,ui]at h
  have b:=Sq o r h.2
  unfold pT at b|-
  rw[jQ,qV,qV,qa]
  simp only[tn,aZ,h.1,b,dm]
theorem Sr(g:U)(x:cq)(n:Nat)(h:n=g.length):(g++[x])[n]?=I x:=by subst h;simp
theorem afI{g:U}{n:Nat}(h:n=g.length)(l:List Int)(o:Int)(md:eg):re .int (.bool false) false (.map n) (.int .i64 o) (g++[.map (pT l) md])=I (.bool (l.contains o)):=by
 simp only[re,vj,Sr g _ n h,dy,Sp,dm]
 cases l.contains o<;>rfl
theorem afJ{g:U}{n:Nat}(h:n=g.length){l:List Int}{o:Int}(b:l.contains o=false):pn .int (.map n) (.int .i64 o) (.bool true) (g++[.map (pT l) .rw])=I (g++[.map (pT (l++[o])) .rw]):=by
 subst h
 simp only[pn,Sr g _ _ rfl,Sq o l b,dm]
 congr 1
 rw[List.set_append_right _ _ (ca _),Nat.sub_self]
 rfl
theorem y9(b:Nat)(args:List J)(h:U):gh aJ (.yield b) args h=aJ dP (.ptr b 0::args) h:=rfl
theorem Jv{b lo n v:Nat}:bw false (.ref b lo n v 1)=I (.int .i64 (n:Int)):=by simp only[bw]
theorem afK{b n v k:Nat}(ad:k<n):q' 1 (.ref b 0 n v 1) (I (.int .i64 (k:Int))) none none=I (.ref b k (n-k) v 1):=by
 simp only[q',kK,aZ,dy]
 rw[aQ ⟨by omega,by omega⟩,dy,lI,a1 (by omega),gR]
theorem afL{b n v k:Nat}(au:0<k)(ad:k<=n):q' 1 (.ref b 0 n v 1) none (I (.int .i64 (k:Int))) none=I (.ref b 0 k v 1):=by
 simp only[q',kK,aZ,dy]
 rw[aQ ⟨by omega,by omega⟩,dy,lI,a1 (by omega),gR,Nat.sub_zero]
theorem Ss(n:Nat)(L:List Int)(t:aX)(md:eg):jy n (.log (L.map bA) 1 t md):=by
 intro x af
 rw[List.mem_flatten]at af
 obtain⟨r,an,af⟩:=af
 rw[iT]at an
 obtain⟨z,_,rfl⟩:=an
 have:x=.int .i64 z:=by simpa [bA]using af
 subst this
 simp only[bI]
theorem St{h a a':U}(av:a'.length=a.length)(ae:∀blk∈a',jy (h++a).length blk)(k:Nat)(ad:k<(h++a).length):(h++a')[k]?=(h++a)[k]?\/∃blk,(h++a')[k]?=I blk/\jy (h++a).length blk:=by
 by_cases h1:k<h.length
 ·left
  rw[cG h1,cG h1]
 ·right
  rw[dW]at ad
  rw[ma (by omega)]
  obtain⟨blk,e⟩:∃blk,a'[k-h.length]?=I blk:=⟨_,gb (by omega)⟩
  exact⟨blk,e,ae _ (dH e)⟩
theorem Jw{R:Type}(A:Option R)(X:Nat->Option R)(r:Option R):Al none A X r=A:=b9 rfl
theorem afM(n m:Nat)(c4 bC:List Nat)(a b:hB)(st:s9)(dY:Option fw)(md:eg)(h:m<n):jy n (.loop [.ptr m 0] c4 bC a b st dY md):=by
 intro x af
 simp only[hl]at af
 subst af
 simp only[bI]
 exact h
theorem afN(n m lo k v sz:Nat)(t:aX)(md:eg)(h:m<n):jy n (.box [.ref m lo k v sz] t md):=by
 intro x af
 simp only[hl]at af
 subst af
 simp only[bI]
 exact h
theorem y_{n:Int}(h:0<=n/\n<18446744073709551616):IntKind.u64.wrap n=n:=by
 have:IntKind.u64.wrap n=n%18446744073709551616:=by simp [IntKind.wrap,wZ,w1]
 rw[this,Int.emod_eq_of_lt h.1 h.2]
theorem Jx(n:Nat)(h:n<4294967296):ar .and (.int .u64 n) (.int .u64 4294967295)=I (.int .u64 n):=by
 have h1:(j' 64 (n:Int)).toNat=n:=by rw[BitVec.toNat_ofInt,Int.emod_eq_of_lt (by omega) (by omega)];omega
 have h2:(j' 64 (4294967295:Int)).toNat=2 ^ 32-1:=by decide
 simp only[ar,aZ]
 show I (J.int .u64 (IntKind.u64.wrap ((j' 64 (n:Int) &&& j' 64 (4294967295:Int)).toNat)))=_
 rw[BitVec.toNat_and,h1,h2,Nat.and_two_pow_sub_one_eq_mod,Nat.mod_eq_of_lt (by omega),y_ (by omega)]
theorem Jy(n:Nat)(h:n<4294967296):ar .shr (.int .u64 n) (.int .u64 32)=I (.int .u64 0):=by
 have:ar .shr (.int .u64 n) (.int .u64 32)=I (.int .u64 ((n:Int).fdiv (2 ^ 32))):=by
  simp only[ar];rfl
 rw[this,Int.fdiv_eq_ediv_of_nonneg _ (by decide),Int.ediv_eq_zero_of_lt (by omega) (by omega)]
theorem Fg(a b:Int)(h:0<=a*b/\a*b<18446744073709551616):ar .mul (.int .u64 a) (.int .u64 b)=I (.int .u64 (a*b)):=by
 have:ar .mul (.int .u64 a) (.int .u64 b)=I (.int .u64 (IntKind.u64.wrap (a*b))):=by simp only[ar,aZ]
 rw[this,y_ h]
theorem afO(a b:Int)(h:0<=a+b/\a+b<18446744073709551616):ar .add (.int .u64 a) (.int .u64 b)=I (.int .u64 (a+b)):=by
 have:ar .add (.int .u64 a) (.int .u64 b)=I (.int .u64 (IntKind.u64.wrap (a+b))):=by simp only[ar,aZ]
 rw[this,y_ h]
theorem afP(n:Nat)(h:n<=70000)(H:U):aJ 163 [.int .u64 1,.int .u64 n] H=I (.tuple [.int .u64 0,.int .u64 n],H):=by
 refine cg (F:=D6) (by kernel_rfl) 1 ?_
 rw[ack];unfold O6
 have b:ar .and (.int .u64 1) (.int .u64 4294967295)=I (.int .u64 1):=Jx 1 (by decide)
 have c:ar .shr (.int .u64 1) (.int .u64 32)=I (.int .u64 0):=Jy 1 (by decide)
 have a0:ar .and (.int .u64 0) (.int .u64 4294967295)=I (.int .u64 0):=Jx 0 (by decide)
 have a3:ar .shr (.int .u64 0) (.int .u64 32)=I (.int .u64 0):=Jy 0 (by decide)
 have m1:ar .mul (.int .u64 1) (.int .u64 n)=I (.int .u64 n):=by rw[Fg _ _ (by omega),Int.one_mul]
 have m2:ar .mul (.int .u64 0) (.int .u64 n)=I (.int .u64 0):=by rw[Fg _ _ (by omega),Int.zero_mul]
 have m3:ar .mul (.int .u64 1) (.int .u64 0)=I (.int .u64 0):=Fg 1 0 (by decide)
 have m4:ar .mul (.int .u64 0) (.int .u64 0)=I (.int .u64 0):=Fg 0 0 (by decide)
 have d0:ar .add (.int .u64 0) (.int .u64 0)=I (.int .u64 0):=afO 0 0 (by decide)
 simp only[bY,b,c,a0,a3,m1,m2,m3,m4,d0,Jx n (by omega),Jy n (by omega)]
 exact ME rfl rfl
theorem afQ(n:Nat)(h:n<=70000)(H:U):aJ 134 [.int .u64 1,.int .u64 n] H=I (.tuple [.int .u64 0,.int .u64 n],H):=by
 refine cg (F:=Dt) (by kernel_rfl) 1 ?_
 rw[abV];unfold OG
 simp only[↓aF,sd,afP n h,bY,lZ,l0]
 exact ME rfl rfl
def jq(n b:Nat):List (List J):=du b (bA (-1))++du (n-b) (bA 0)
theorem Jz{n b:Nat}(h:b<=n):(jq n b).length=n:=by simp [jq];omega
theorem afR{n b:Nat}(h1:0<b)(h2:b<n)(h:U):rb 1 (.ref h.length b (n-b) n 1) (.ref h.length 0 b n 1) (h++[.log (jq n b) 1 3 .rw])=I (.int .i64 ((fY b (n-b):Nat):Int),h++[.log (jq n (b+fY b (n-b))) 1 3 .rw]):=by
 have an:kk 1 (.ref h.length 0 b n 1) (h++[.log (jq n b) 1 3 .rw])=I (du b (bA (-1))):=by
  simp only[kk]
  rw[a1 (by omega),aQ trivial]
  have:=AL (h:=h++[.log (jq n b) 1 3 .rw]) (b:=h.length) (sz:=1) (rows:=jq n b) (t:=3) (md:=.rw) (by rw[eQ];rfl)
  rw[Jz (by omega)]at this
  rw[this,dy,aQ (by rw[Jz (by omega)];omega),o4]
  congr 1
  unfold jq
  rw[List.take_left' (by simp)]
 unfold rb
 rw[an,dy]
 simp only
 rw[a1 (by omega),eQ]
 simp only[jP]
 rw[aQ ⟨Jz (by omega),trivial,trivial,by omega,by omega,EY λr an=>by rw[List.eq_of_mem_replicate an];rfl⟩,pt]
 have av:(du b (bA (-1))).length=b:=by simp
 rw[av]
 have hm:fY b (n-b)<=b:=Nat.min_le_left _ _
 have c:fY b (n-b)<=n-b:=Nat.min_le_right _ _
 have e:(jq n b).take b++(du b (bA (-1))).take (n-b)++(jq n b).drop (b+fY b (n-b))=jq n (b+fY b (n-b)):=by
  unfold jq
  rw[List.take_left' (by simp),List.take_replicate,List.drop_append,List.drop_of_length_le (by simp),hy,List.drop_replicate,List.length_replicate]
  have aD:min (n-b) b=fY b (n-b):=Nat.min_comm _ _
  rw[aD,List.replicate_append_replicate]
  congr 2
  omega
 rw[e];rfl
theorem afS{N:Nat}{h:U}{n:Nat}{p19:J×U}(aj:p19.2=h++[.log (jq n 1) 1 3 .rw])(aA:n<=70000){j:List J->U->bh}:∀(f b:Nat),0<b->b<=n->n-b<f->cr (tA aJ N (.ref h.length 0 n n 1,h++[.log (du n (bA 0)) 1 3 .rw]) p19 j) f [.int .i64 (b:Int)] (h++[.log (jq n b) 1 3 .rw])=j [] (h++[.log (jq n n) 1 3 .rw]):=by
 intro f
 induction f with
 |zero=>intro b h1 h2 ak;omega
 |succ f c=>
  intro b h1 h2 ak
  show tA aJ N _ _ _ (cr _ f) _ _=_
  generalize g:cr (tA aJ N (.ref h.length 0 n n 1,h++[.log (du n (bA 0)) 1 3 .rw]) p19 j) f=K
  unfold tA
  by_cases e:b=n
  ·subst e
   have aC:((b:Int)<(b:Int))=False:=dK (by omega)
   simp only[aS,↓aF,aT,Jv,aC,cW,bg,bd]
  ·have i:((b:Int)<(n:Int))=True:=jU (by omega)
   have hm:fY b (n-b)<=n-b:=Nat.min_le_right _ _
   have k:0<fY b (n-b):=by
    rcases Nat.le_total b (n-b)with h|h
    ·rw[show fY b (n-b)=b from mb h];omega
    ·rw[show fY b (n-b)=n-b from Nat.min_eq_right h];omega
   have b0:IntKind.i64.wrap ((b:Int)+((fY b (n-b):Nat):Int))=((b+fY b (n-b):Nat):Int):=by rw[wrap64 (by unfold dr;omega)];omega
   simp only[aS,↓aF,aT,Jv,i,cm,aZ,afK (show b<n by omega),afL h1 h2,afR h1 (show b<n by omega),b0,aj]
   rw[hr _ (by simp),←g]
   exact c _ (by omega) (by omega) (by omega)
theorem afT(n:Nat)(aA:n<=70000)(h:U):aJ 92 [.bz 1 [[.int .i64 (-1)]],.int .i64 n] h=I (.ref h.length 0 n n 1,h++[.log ((du n (-1:Int)).map bA) 1 3 .rw]):=by
 obtain⟨N,p⟩:∃N:Nat,70000<N:=⟨_,fs _⟩
 refine cg (F:=CL) (by kernel_rfl) N ?_
 rw[abl];unfold N3
 have b:((n:Int)<0)=False:=dK (by omega)
 have c:bw false (.bz 1 [[.int .i64 (-1)]])=I (.int .i64 1):=rfl
 have bu:IntKind.u64.wrap 1=1:=y_ (by decide)
 have cP:IntKind.u64.wrap (n:Int)=n:=y_ (by omega)
 have g:IntKind.i64.wrap (n:Int)=n:=wrap64 (by unfold dr;omega)
 have cE:((0:Int)>0)=False:=dK (by decide)
 have cD:((n:Int)>9223372036854775807)=False:=dK (by omega)
 have i:([J.int .i64 0]:List J).length=1:=rfl
 have k:(du n (-1:Int)).map bA=jq n n:=by simp [jq]
 have bq:(du n [J.int .i64 0])=du n (bA 0):=rfl
 have fin:aL [.raw] h (h++[.log (jq n n) 1 3 .rw]) [.ref h.length 0 n n 1]=I (.ref h.length 0 n n 1,h++[.log (jq n n) 1 3 .rw]):=E_
 rw[k]
 have l:rb 1 (.ref h.length 0 n n 1) (.bz 1 [[.int .i64 (-1)]]) (h++[.log (du n (bA 0)) 1 3 .rw])=I (.int .i64 ((fY 1 n:Nat):Int),h++[.log (jq n (fY 1 n)) 1 3 .rw]):=by
  unfold rb
  have an:kk 1 (.bz 1 [[.int .i64 (-1)]]) (h++[.log (du n (bA 0)) 1 3 .rw])=I [bA (-1)]:=rfl
  rw[an,dy]
  simp only
  by_cases e:n=0
  ·subst e
   rw[aQ rfl];rfl
  ·have hm:fY 1 n=1:=mb (by omega)
   rw[a1 e,eQ]
   simp only[jP]
   rw[aQ ⟨by simp,trivial,trivial,by omega,by omega,rfl⟩,pt,hm]
   have:(du n (bA 0)).take 0++[bA (-1)].take n++(du n (bA 0)).drop (0+fY [bA (-1)].length n)=jq n 1:=by
    have h2:fY [bA (-1)].length n=1:=hm
    rw[h2]
    unfold jq
    rw[List.take_zero,hy,List.take_of_length_le (by simp;omega),List.drop_replicate]
    rfl
   rw[this]
   have h2:fY [bA (-1)].length n=1:=hm
   rw[h2];rfl
 simp only[aS,↓aF,aT,b,cE,cW,bg,bd,c,Hu,bu,cP,afQ n aA,cD,g,vx (show n<=da by unfold da;omega),i,bq,l,rS]
 by_cases e:n=0
 ·subst e
  have m:fY 1 0=0:=rfl
  rw[m]
  obtain⟨M,rfl⟩:∃M,N=M+1:=⟨N-1,by omega⟩
  show tA aJ _ _ _ _ (cr _ M) _ _=_
  generalize cr _ M=K
  unfold tA
  have aC:(((0:Nat):Int)<((0:Nat):Int))=False:=dK (by decide)
  simp only[aS,↓aF,aT,Jv,aC,cW,bg,bd,fin]
 ·have hm:fY 1 n=1:=mb (by omega)
  rw[hm]
  have:=afS (N:=N) (h:=h) (n:=n) (p19:=(.int .i64 ((1:Nat):Int),h++[.log (jq n 1) 1 3 .rw])) (j:=λq o=>aL [.raw] h o [.ref h.length 0 n n 1]) rfl aA N 1 (by decide) (by omega) (by omega)
  refine this.trans fin
def rK(st:List Int×Int)(i:Int):List Int×Int:=if st.1.getD i.toNat 0<0 then(st.1.set i.toNat st.2,st.2+1)else st
def dp(n:Nat)(L:List Int):List Int×Int:=L.foldl rK (du n (-1),0)
theorem t_(n:Nat)(L:List Int)(x:Int):dp n (L++[x])=rK (dp n L) x:=by unfold dp;rw[F5];rfl
def t'(n:Nat)(os:List Nat):List Int:=(fb n).map λi=>if i∈os then((os.idxOf i:Nat):Int)else -1
theorem wE(n:Nat)(os:List Nat):(t' n os).length=n:=by simp [t']
theorem wF{n:Nat}{os:List Nat}{i:Nat}(h:i<n):(t' n os)[i]?=I (if i∈os then((os.idxOf i:Nat):Int)else -1):=by simp [t',h]
theorem JA(n:Nat)(L:List Int)(h:∀x∈L,0<=x/\x<(n:Int)):∃os:List Nat,os.Nodup/\(∀i∈os,i<n)/\(dp n L).2=(os.length:Int)/\(dp n L).1=t' n os/\∀x∈L,x.toNat∈os:=by
 have key:∀L:List Int,(∀x∈L,0<=x/\x<(n:Int))->∃os:List Nat,os.Nodup/\(∀i∈os,i<n)/\(dp n L).2=(os.length:Int)/\(dp n L).1=t' n os/\∀x∈L,x.toNat∈os:=by
  intro L
  refine Fe (P:=λL:List Int=>(∀x∈L,0<=x/\x<(n:Int))->∃os:List Nat,os.Nodup/\(∀i∈os,i<n)/\(dp n L).2=(os.length:Int)/\(dp n L).1=t' n os/\∀x∈L,x.toNat∈os) (λ_=>⟨[],List.nodup_nil,by simp,rfl,?_,by simp⟩) (λL a g h=>?_) L
  ·refine gn λj=>?_
   show(du n (-1:Int))[j]?=_
   by_cases b:j<n
   ·rw[wF b,Kr,aQ b];simp
   ·rw[e2 (by simp;omega),e2 (by rw[wE];omega)]
  ·obtain⟨os,h1,h2,ak,aH,aM⟩:=g λx af=>h x (s5 _ af)
   obtain⟨k,nT⟩:=h a (by simp)
   have ha:a.toNat<n:=by omega
   rw[t_]
   unfold rK
   rw[aH,jT,wF ha,o2]
   by_cases hm:a.toNat∈os
   ·rw[aQ hm,a1 (by omega)]
    refine⟨os,h1,h2,ak,aH,λx af=>?_⟩
    rcases List.mem_append.1 af with af|af
    ·exact aM x af
    ·rw[hl]at af;subst af;exact hm
   ·rw[a1 hm,aQ (by decide)]
    refine⟨os++[a.toNat],?_,λi ag=>?_,by rw[ak];simp,?_,λx af=>?_⟩
    ·rw[List.nodup_append]
     refine⟨h1,by simp,λx af y ba e=>?_⟩
     rw[hl]at ba
     subst ba
     rw[e]at af
     exact hm af
    ·rcases List.mem_append.1 ag with ag|ag
     ·exact h2 i ag
     ·rw[hl]at ag;omega
    ·rw[ak]
     refine gn λj=>?_
     by_cases b:j<n
     ·rw[wF b,F8,wF b]
      by_cases e:a.toNat=j
      ·subst e
       rw[aQ rfl,aQ (by rw[wE];exact ha),aQ (by simp),List.idxOf_append,a1 hm]
       simp
      ·rw[a1 e]
       by_cases c:j∈os
       ·rw[aQ c,aQ (s5 _ c),List.idxOf_append,aQ c]
       ·have:¬j∈os++[a.toNat]:=by simp [c];omega
        rw[a1 c,a1 this]
     ·rw[e2 (by rw[ir,wE];omega),e2 (by rw[wE];omega)]
    ·rcases List.mem_append.1 af with af|af
     ·exact s5 _ (aM x af)
     ·rw[hl]at af;subst af;simp
 exact key L h
theorem y'{n:Nat}{L:List Int}(h:∀x∈L,0<=x/\x<(n:Int)):(dp n L).1.length=n/\0<=(dp n L).2/\(dp n L).2<=n:=by
 obtain⟨os,h1,h2,ak,aH,_⟩:=JA n L h
 refine⟨by rw[aH,wE],by rw[ak];omega,?_⟩
 rw[ak]
 have:os ⊆ fb n:=λi ag=>List.mem_range.2 (h2 i ag)
 have:=TD h1 this
 rw[F3]at this
 omega
def fN(b:List Int)(n:Nat):List Int:=(dp n (b++dz n)).1
theorem wG{n:Nat}:∀x∈dz n,0<=x/\x<(n:Int):=λx af=>by
 obtain⟨i,ag,rfl⟩:=List.mem_map.1 af
 rw[uu]at ag
 exact⟨Int.natCast_nonneg _,by show(i:Int)<n;omega⟩
theorem n_{b:List Int}{n:Nat}(h:∀x∈b,0<=x/\x<(n:Int)):db (fN b n) n:=by
 obtain⟨os,h1,h2,ak,aH,aM⟩:=JA n (b++dz n) (λx af=>by
  rcases List.mem_append.1 af with af|af
  ·exact h x af
  ·exact wG x af)
 have c:∀i,i<n->i∈os:=λi ag=>by
  have:=aM (i:Int) (List.mem_append_right _ (List.mem_map.2 ⟨i,List.mem_range.2 ag,rfl⟩))
  simpa using this
 have e:∀i,i<n->(fN b n)[i]?=I ((os.idxOf i:Nat):Int):=λi ag=>by
  unfold fN
  rw[aH,wF ag,aQ (c i ag)]
 have y:os.length<=n:=by
  have:os ⊆ fb n:=λi ag=>List.mem_range.2 (h2 i ag)
  have:=TD h1 this
  rwa [F3]at this
 have z:n<=os.length:=by
  have:fb n ⊆ os:=λi ag=>c i (List.mem_range.1 ag)
  have:=TD List.nodup_range this
  rwa [F3]at this
 have av:(fN b n).length=n:=by unfold fN;rw[aH,wE]
 have g:∀t (aO:t<n),ev (fN b n) t=os[t]'(by omega):=λt aO=>by
  have ag:os[t]'(by omega)<n:=h2 _ (pX _)
  have aD:=e _ ag
  have aE:os.idxOf (os[t]'(by omega))=t:=h1.idxOf_getElem t (by omega)
  rw[aE]at aD
  unfold ev
  obtain⟨ae,o⟩:=List.getElem?_eq_some_iff.1 aD
  have k:((t:Nat):Int)∈fN b n:=o▸pX ae
  have af:=Kq (Kt k)
  have l:(fN b n).idxOf ((t:Nat):Int)<n:=by have:=Kt k;omega
  have m:=e _ l
  rw[gb (by omega),af]at m
  have A:t=os.idxOf ((fN b n).idxOf ((t:Nat):Int)):=by have:=jR m;omega
  have p:=c _ l
  have q:=Kq (Kt p)
  rw[←q]
  congr 1
  omega
 refine⟨av,λi ag=>?_,λj u=>?_⟩
 ·have hm:=c i ag
  have w:=Kt hm
  refine⟨os.idxOf i,by omega,e i ag,?_⟩
  rw[g _ (by omega)]
  exact Kq w
 ·rw[g j u]
  exact h2 _ (pX _)
def l5(n:Nat)(x:Int):Prop:=0<=x/\x<(n:Int)
def iR(h:U)(n:Nat)(st:List Int×Int):U:=[.log (st.1.map bA) 1 3 .rw,.log [] 1 3 .rw,.box [.ref h.length 0 n n 1] 22 .rw,.box [.int .i64 st.2] 3 .rw,.box [.func 93 [] [.ptr (h.length+2) 0,.ptr (h.length+3) 0]] 127 .rw]
theorem Fh{h l:U}{T:List Int}{n:Nat}{t:aX}{md:eg}(b:T.length=n):dG (h++.log (T.map bA) 1 t md::l) 1 (.ref h.length 0 n n 1) (T.map bA):=.ref _ _ t md _ (by rw[eQ];rfl) (by simp [b])
theorem nu{T:List Int}{i:Nat}{x:Int}(h:T[i]?=I x):(T.map bA)[i]?=I (bA x):=by rw[ja,h];rfl
theorem wH(a:J):([a]:List J)[0]?=I a:=b9 rfl
theorem Su(k:IntKind)(n:Int)(o:Nat)(vs:List J)(t:aX)(l:U):a_ 1 (.ptr 0 o) (.int k n) (.box vs t .rw::l)=(cy vs o [.int k n]).map λb_=>.box b_ t .rw::l:=je rfl o vs t l
theorem Sv(v:J)(k:IntKind)(n:Int):cy [v] 0 [.int k n]=I [.int k n]:=b9 rfl
theorem B3{h l:U}{st:List Int×Int}{n:Nat}(c:st.1.length=n)(aA:n<=70000)(af:0<=st.2/\st.2<=n){x:Int}(ag:l5 n x):
 aJ 93 [.int .i64 x,.ptr (h.length+2) 0,.ptr (h.length+3) 0] (h++(iR h n st++l))=I (iI,h++(iR h n (rK st x)++l)):=by
 obtain⟨T,b⟩:=st
 unfold l5 at ag
 obtain⟨i,rfl⟩:∃i:Nat,x=(i:Int):=⟨x.toNat,by omega⟩
 simp only at c af
 have k:i<T.length:=by omega
 obtain⟨y,ba⟩:=cQ k
 refine cg (F:=CM) (by kernel_rfl) 1 ?_
 rw[abm];unfold N4 iR
 have aE:=λl=>eW (Fh (h:=h) (l:=l) (t:=3) (md:=.rw) c) .i64 (nu ba)
 have g:bW 1 (.ref h.length 0 n n 1) (.int .i64 (i:Int))=I (c' (.ref h.length 0 n n 1) (bA y) i 0):=aE []
 have j:∀l,ab false 1 (c' (.ref h.length 0 n n 1) (bA y) i 0) (h++.log (T.map bA) 1 3 .rw::l)=I (.int .i64 y):=λl=>(e0 (Fh c) (nu ba) _ _ _).trans (lf y)
 have aj:rK (T,b) (i:Int)=if y<0 then(T.set i b,b+1)else(T,b):=by
  unfold rK
  simp only[lI,jT,ba,o2]
 rw[aj]
 by_cases e:y<0
 ·have o:∀l,cU (h++.log (T.map bA) 1 3 .rw::l) 0 1 3 (.ref h.length 0 n n 1) (T.map bA):=λl=>.ref _ _ _ (hQ _) (by rw[eQ];rfl) (by simp [c])
  have st:=λl=>ig (o l) (nu ba) (n:=1) (x:=.int .i64 b) (f:=0) rfl (by decide) (y5 _ _)
  have m:∀l,wr (h++.log (T.map bA) 1 3 .rw::l) (.ref h.length 0 n n 1) 1 3 ((T.map bA).set i (bA b))=h++.log ((T.set i b).map bA) 1 3 .rw::l:=λl=>by
   show(h++_).set h.length _=_
   rw[pt,zx];rfl
  have b0:IntKind.i64.wrap (b+1)=b+1:=wrap64 (by unfold dr;omega)
  have aD:(y<0)=True:=jU e
  rw[aQ e]
  simp only[aS,↓aF,aT,wH,g,j,aD,cm,aZ,st,m,b0,Su,Sv,rH]
  rw[hr _ (by simp)]
 ·have aD:(y<0)=False:=dK e
  rw[a1 e]
  simp only[aS,↓aF,aT,wH,g,j,aD,cW,bg,bd,rH]
  rw[hr _ (by simp)]
def Fi(h:U)(st:s9)(dY:Option fw):cq:=.loop [.ptr (h.length+4) 0] [7] [15] yu yv st dY .rw
def jb(h:U)(n:Nat)(L:List Int):U:=h++(iR h n (dp n L)++[Fi h .ready none])
theorem afU{h l:U}{a b c d e:cq}{c6:List J}{c4 bC:List Nat}{g i:hB}{dY:Option fw}:qc (h.length+5) (h++a::b::c::d::e::.loop c6 c4 bC g i .ready dY .rw::l)=I (h++a::b::c::d::e::.loop c6 c4 bC g i .busy dY .rw::l):=by
 unfold qc
 rw[fP]
 simp only[l9,jP]
 rw[ps]
 rfl
theorem afV{h l:U}{a b c d e:cq}{c6:List J}{c4 bC:List Nat}{g i:hB}{dY:Option fw}:m7 (h.length+5) .normal (h++a::b::c::d::e::.loop c6 c4 bC g i .busy dY .rw::l)=I (.bool true,h++a::b::c::d::e::.loop c6 c4 bC g i .ready none .rw::l):=by
 unfold m7
 rw[fP]
 simp only[l9,jP]
 rw[ps]
 rfl
theorem afW{h l:U}{a b c d e:cq}{c6:List J}{c4 bC:List Nat}{g i:hB}{dY:Option fw}:rf (h.length+5) (h++a::b::c::d::e::.loop c6 c4 bC g i .ready dY .rw::l)=I dY:=by
 unfold rf
 rw[fP]
 rfl
theorem afX{h l:U}{a b c d e x:cq}:(h++a::b::c::d::e::x::l).set (h.length+5) .dead=h++a::b::c::d::e::.dead::l:=by
 rw[ps]
 rfl
theorem Sw(h:U)(n m:Nat)(st:List Int×Int)(hm:h.length+4<=m):∀blk∈iR h n st,jy m blk:=by
 intro blk ae
 unfold iR at ae
 simp only[hk,iu,hR]at ae
 rcases ae with rfl|rfl|rfl|rfl|rfl
 ·exact Ss _ _ _ _
 ·intro x af;cases af
 ·exact afN _ _ _ _ _ _ _ _ (by omega)
 ·intro x af;rw[hl]at af;subst af;simp only[bI]
 ·intro x af
  rw[hl]at af;subst af
  simp only[bI]
  refine⟨λx af=>(by cases af),λy ba=>?_⟩
  simp only[hk,iu,hR]at ba
  rcases ba with rfl|rfl<;>(simp only[bI];omega)
theorem afY(h:U)(n:Nat)(aA:n<=70000):qL (h.length+5) (λL=>∀x∈L,l5 n x) (jb h n) where
 len:=λL=>by simp [jb,iR]
 ah:=λL gx k ad=>by
  have e:(jb h n []).length=(jb h n L).length:=by simp [jb,iR]
  rw[e]at ad|-
  unfold jb at ad|-
  refine St (by simp [iR]) (λblk ae=>?_) k ad
  rcases List.mem_append.1 ae with ae|ae
  ·exact Sw h n _ _ (by simp [iR]) blk ae
  ·rw[hl]at ae;subst ae
   exact afM _ _ _ _ _ _ _ _ _ (by simp [iR])
 pre:=λA B g x af=>g x (s5 _ af)
 wD:=λL x rest c=>by
  have i:∀y∈L,0<=y/\y<(n:Int):=λy ba=>c y (s5 _ ba)
  have af:l5 n x:=c x (by simp)
  obtain⟨h1,h2,ak⟩:=y' i
  have bE:(jb h n L++rest)[h.length+5]?=I (.loop [.ptr (h.length+4) 0] [7] [15] yu yv .ready none .rw):=by
   unfold jb iR Fi
   rw[eo,fP]
   rfl
  refine Ij 1 ((Yl aJ 1 _ _ _ _ none .rw bE).trans ?_)
  have b:=λl=>B3 (h:=h) (l:=l) (st:=dp n L) h1 aA ⟨h2,ak⟩ af
  have j:∀(H:U),gh aJ (.func 93 [] [.ptr (h.length+2) 0,.ptr (h.length+3) 0]) [.int .i64 x] H=aJ 93 [.int .i64 x,.ptr (h.length+2) 0,.ptr (h.length+3) 0] H:=λH=>kM aJ 93 [] _ _ H
  unfold Nl jb
  rw[t_]
  unfold iR at b|-
  unfold Fi
  simp only[eo,jQ,hy]at b|-
  simp only[aS,↓aF,aT,afU,wH,j,b,afV]
  rw[hr _ (by simp)]
theorem JB{h l:U}{T:List Int}{n:Nat}(b:T.length=n):aL [.flat 1] h (h++.log (T.map bA) 1 3 .rw::l) [.ref h.length 0 n n 1]=I (dj T,h):=by
 by_cases bq:n=0
 ·subst bq
  have g:T=[]:=gy b
  subst g
  refine rl (ws:=[dj []]) (l:=.log (([]:List Int).map bA) 1 3 .rw::l) ?_ (λv aw=>by simp only[hk,iu,hR]at aw;subst aw;exact j2 rfl)
  rw[i_]
  simp only[dh,aZ,dy,j1]
  rfl
 ·have e:=yl (h:=h) (l:=.log (T.map bA) 1 3 .rw::l) (k:=0) (s:=1) rfl (by rw[dn];omega) (nc (f:=bA) (λc=>rfl) _)
  rw[dn,b]at e
  have e':dh (.flat 1) (.ref h.length 0 n n 1) (h++.log (T.map bA) 1 3 .rw::l)=I (dj T,h++.log (T.map bA) 1 3 .ro::l):=e
  refine rl (ws:=[dj T]) (l:=.log (T.map bA) 1 3 .ro::l) ?_ (λv aw=>by simp only[hk,iu,hR]at aw;subst aw;exact j2 rfl)
  rw[i_]
  simp only[e',bY,qn,j1]
theorem afZ(v:J)(a b c d e:Nat):cy [v] 0 [.ref a b c d e]=I [.ref a b c d e]:=b9 rfl
theorem af0(f:dN)(xs ys:List J)(o:Nat)(vs:List J)(t:aX)(l:U):a_ 1 (.ptr 0 o) (.func f xs ys) (.box vs t .rw::l)=(cy vs o [.func f xs ys]).map λb_=>.box b_ t .rw::l:=je rfl o vs t l
theorem af1(v:J)(f:dN)(xs ys:List J):cy [v] 0 [.func f xs ys]=I [.func f xs ys]:=b9 rfl
theorem JC(n:Nat):dz (n+1)=dz n++[(n:Int)]:=by unfold dz;rw[List.range_succ,ll];rfl
theorem Fj{h:U}{g:J}{b:List Int}{n:Nat}(S:nt h g b)(j:∀x∈b,l5 n x)(aA:n<=70000):aJ 40 [g,.int .i64 n] h=I (dj (fN b n),h):=by
 obtain⟨N,t⟩:∃N:Nat,70000<N:=⟨_,fs _⟩
 refine cg (F:=BT) (by kernel_rfl) N ?_
 rw[Zm];unfold Nk
 have c:=S (h.length+5) _ (jb h n) [] (afY h n aA) (λM k ad=>by unfold jb;rw[cG ad]) (by simpa using j)
 have e:trim (h++iR h n (dp n [])) [] (h++(iR h n (dp n b)++[.dead]))=h++iR h n (dp n b):=by
  rw[←eo]
  refine rI (by simp [iR]) (by simp) λk ad=>St (by simp [iR]) (λblk ae=>Sw h n _ _ (by simp [iR]) blk ae) k ad
 have p:∀(x:Int) (H:U),gh aJ (.func 93 [] [.ptr (h.length+2) 0,.ptr (h.length+3) 0]) [.int .i64 x] H=aJ 93 [.int .i64 x,.ptr (h.length+2) 0,.ptr (h.length+3) 0] H:=λx H=>kM aJ 93 [] _ _ H
 have q:dp n []=(du n (-1),0):=rfl
 unfold jb at c
 rw[q]at c e
 unfold iR Fi at c
 unfold iR at e
 simp only[hy,jQ,eo]at c e
 simp only[aS,↓aF,aT,pL,pM,kn,pN,afT n aA,tT,afZ,Su,Sv,af0,af1,c,afW,afX,e,Jw]
 refine hq (λi=>[.int .i64 (i:Int)]) (λi=>h++iR h n (dp n (b++dz i))) n (by omega) rfl (by
  show h++iR h n (dp n (b++[]))=_
  rw[fu];rfl) (λi ag K=>?_) λK=>?_
 ·have m:∀x∈b++dz i,0<=x/\x<(n:Int):=λx af=>by
   rcases List.mem_append.1 af with af|af
   ·exact j x af
   ·have:=wG x af;omega
  obtain⟨h1,h2,ak⟩:=y' m
  have o:=B3 (h:=h) (l:=[]) (st:=dp n (b++dz i)) h1 aA ⟨h2,ak⟩ (x:=(i:Int)) ⟨by omega,by omega⟩
  have az:i<9223372036854775807:=by omega
  rw[JC,←eo,t_]
  unfold iR at o|-
  unfold H2
  simp only[jQ,hy]at o
  simp only[aS,↓aF,aT,cL ag,cm,aZ,wH,p,o,cI az]
  rw[hr _ (by simp)]
 ·have aC:((n:Int)<(n:Int))=False:=dK (by omega)
  have m:∀x∈b++dz n,0<=x/\x<(n:Int):=λx af=>by
   rcases List.mem_append.1 af with af|af
   ·exact j x af
   ·exact wG x af
  obtain⟨h1,_,_⟩:=y' m
  unfold iR H2
  simp only[aS,↓aF,aT,aC,cW,bg,bd,wH,JB h1]
  rfl
theorem qL.JD{b:Nat}{ok:List Int->Prop}{H:List Int->U}(s:qL b ok H)(L gx:List Int)(t:U)(k:Nat)(ad:k<(H L++t).length):(H gx++t)[k]?=(H L++t)[k]?\/∃blk,(H gx++t)[k]?=I blk/\jy (H L++t).length blk:=by
 have e:(H gx).length=(H L).length:=by rw[s.len L,s.len gx]
 by_cases h1:k<(H L).length
 ·rw[cG (by omega),cG h1]
  rcases s.ah L gx k (by rw[←s.len L];exact h1)with h|⟨blk,h2,ak⟩
  ·exact .inl h
  ·exact .inr ⟨blk,h2,aeV (by rw[dW,s.len L];omega) ak⟩
 ·left
  rw[ma (by omega),ma (by omega),e]
theorem qL.Fk{b:Nat}{ok:List Int->Prop}{H:List Int->U}(s:qL b ok H)(L gx:List Int)(t rest:U){r:List J}(an:∀v∈r,∀n,bI n v):Go.aN.trim (H L++t) r (H gx++(t++rest))=H gx++t:=by
 rw[←eo]
 exact rI (by simp [s.len L,s.len gx]) (λv aw=>an v aw _) λk ad=>s.JD L gx t k ad
theorem JE{g l:U}{a:cq}{n:Nat}(aA:n=g.length+1){c6:List J}{c4 bC:List Nat}{b c:hB}{dY:Option fw}:qc n (g++a::.loop c6 c4 bC b c .ready dY .rw::l)=I (g++a::.loop c6 c4 bC b c .busy dY .rw::l):=by
 subst aA
 unfold qc
 rw[fP]
 simp only[l9,jP]
 rw[ps]
 rfl
theorem JF{g l:U}{a:cq}{n:Nat}(aA:n=g.length+1){c6:List J}{c4 bC:List Nat}{b c:hB}{dY:Option fw}:m7 n .normal (g++a::.loop c6 c4 bC b c .busy dY .rw::l)=I (.bool true,g++a::.loop c6 c4 bC b c .ready none .rw::l):=by
 subst aA
 unfold m7
 rw[fP]
 simp only[l9,jP]
 rw[ps]
 rfl
theorem Sx{g l:U}{a:cq}{n:Nat}(aA:n=g.length+1){c6:List J}{c4 bC:List Nat}{b c:hB}{dY:Option fw}:rf n (g++a::.loop c6 c4 bC b c .ready dY .rw::l)=I dY:=by
 subst aA
 unfold rf
 rw[fP]
 rfl
theorem Sy{g l:U}{a c:cq}{n:Nat}(aA:n=g.length+1):(g++a::c::l).set n .dead=g++a::.dead::l:=by
 subst aA
 rw[ps]
 rfl
theorem Sz(b:Nat):b' (.yield b)=[.yield b]:=b9 rfl
theorem Fl(c:Cell)(vs:List J)(t:aX)(l:U):a_ 6 (.ptr 0 0) (.agg c.cs) (.box vs t .rw::l)=(cy vs 0 c.cs).map λb_=>.box b_ t .rw::l:=iL rfl (by decide)
theorem Fm(c:Cell):eT true 0 6 c.cs=I (.agg c.cs):=fQ rfl
theorem Fo(c:Cell)(a b d e f g:J):cy [a,b,d,e,f,g] 0 c.cs=I c.cs:=hN rfl rfl
def jI(l:List Cell):List Int:=(l.map Cell.inst).filter λx=>decide (x>0)
theorem SA(l:List Cell)(c:Cell):jI (l++[c])=if c.inst>0 then jI l++[c.inst]else jI l:=by
 unfold jI
 rw[ll,zy]
 by_cases h:c.inst>0<;>simp [h]
def jJ(s:aK)(p:Int):List Int:=jI (s.ax.getD p.toNat (0,[])).2
theorem af2{h:U}{k:Nat}{s:aK}{A:aU->J}{t2:aX}{md2:eg}(e:h[k]?=I (.box (aW A s) t2 md2))(rs:fJ h A s)(hm:s.bo.length<=70000):nt h (.func 94 [] [.ptr k 0]) (dL s.bo):=by
 intro b ok H L S n p
 rw[yf aJ 94]
 show aJ 94 [.yield b,.ptr k 0] (H L)=_
 have av:∀M c,(H M).length=(H c).length:=λM c=>by rw[S.len M,S.len c]
 have ae:∀M l,(H M++l)[k]?=I (.box (aW A s) t2 md2):=λM l=>by
  have:=(n M k (List.getElem?_eq_some_iff.1 e).1).trans e
  rw[cG (List.getElem?_eq_some_iff.1 this).1];exact this
 have g:∀M l,dG (H M++l) 1 (A .bo) (s.bo.map bA):=λM l=>pO (rs .bo) λb ae q=>by
  have e:=n M b q
  rw[cG (List.getElem?_eq_some_iff.1 (e.trans (gb q))).1];exact e
 have w:∀M l,ab false 1 (.ptr k 3) (H M++l)=I (A .bo):=λM l=>eJ (ae M l) (rG A s)
 have t:=fH (g L [])
 rw[dn]at t
 refine cg (F:=CN) (by kernel_rfl) (s.bo.length+1) ?_
 rw[abn];unfold N5
 simp only[aS,↓aF,aT,w,t]
 refine hq (λi=>[.int .i64 (i:Int)]) (λi=>H (L++dL (s.bo.take i))++[.map (pT (dL (s.bo.take i))) .rw]) s.bo.length (by omega) rfl (by simp [dL,pT]) (λi ag K=>?_) λK=>?_
 ·obtain⟨o,j⟩:=cQ ag
  have aO:s.bo.take (i+1)=s.bo.take i++[o]:=py j
  have m:∀(M c:List Int) (x y:cq) (r:List J),Go.aN.trim (H M++[x]) r (H c++[y])=H c++[y]:=λM c x y r=>hr _ (by simp [av c M])
  have z:bW 1 (A .bo) (.int .i64 (i:Int))=I (c' (A .bo) (bA o) i 0):=eW (g L []) .i64 (nu j)
  have oY:∀M l,ab false 1 (c' (A .bo) (bA o) i 0) (H M++l)=I (.int .i64 o):=λM l=>(e0 (g M l) (nu j) _ _ _).trans (lf o)
  unfold Ib
  simp only[aS,↓aF,aT,cL ag,cm,aZ,z,oY,EF]
  rw[aO,y8]
  unfold tZ
  cases B:mark o with
  |true=>simp only[aS,↓aF,aT,↓lY,pr,Bool.true_or,aZ,Bool.true_eq_false,bd,cI (show i<9223372036854775807 by omega),m]
  |false=>
   have u:=afI (av L (L++dL (s.bo.take i))) (dL (s.bo.take i)) o .rw
   cases aa:(dL (s.bo.take i)).contains o with
   |true=>simp only[aS,↓aF,aT,↓lY,pr,rN,aZ,u,aa,cI (show i<9223372036854775807 by omega),m]
   |false=>
    have C:=afJ (av L (L++dL (s.bo.take i))) aa
    have ba:=S.wD (L++dL (s.bo.take i)) o [.map (pT (dL (s.bo.take i)++[o])) .rw] (by
     obtain⟨r,an⟩:=afH (s.bo.take (i+1)) (s.bo.drop (i+1))
     rw[qW]at an
     rw[an,aO,y8,tZ,B,aa,rS,a1 (by decide),←eo,←eo]at p
     exact S.pre _ _ p)
    simp only[aS,↓aF,aT,↓lY,pr,rN,aZ,bg,bd,u,aa,C,y9,ba,e3,cI (show i<9223372036854775807 by omega),m,eo]
 ·unfold Ib
  simp only[aS,↓aF,aT,fR,cW,bg,bd,y7,h6]
  rw[S.trim _ _ (by simp)]
theorem af3{h:U}{bt bG:Nat}{s:aK}{g:J}{bC:List Int}(aD:jZ h bt=I [g]){A:aU->J}{t2:aX}{md2:eg}(aE:h[bG]?=I (.box (aW A s) t2 md2))(rs:fJ h A s)(av:∀p∈s.ax,p.2.length<=70000)(S:nt h g bC)(aj:∀p∈bC,0<=p/\p<s.ax.length):nt h (.func 96 [] [.ptr bt 0,.ptr bG 0]) (bC.flatMap (jJ s)):=by
 intro b ok H L t x ar
 rw[yf aJ 96]
 show aJ 96 [.yield b,.ptr bt 0,.ptr bG 0] (H L)=_
 have br:∀M y,(H M).length=(H y).length:=λM y=>by rw[t.len M,t.len y]
 have ae:∀M l,(H M++l)[bG]?=I (.box (aW A s) t2 md2):=λM l=>by
  have:=(x M bG (List.getElem?_eq_some_iff.1 aE).1).trans aE
  rw[cG (List.getElem?_eq_some_iff.1 this).1];exact this
 have P:∀M l,fJ (H M++l) A s:=λM l k=>pO (rs k) λb ae C=>by
  have e:=x M b C
  rw[cG (List.getElem?_eq_some_iff.1 (e.trans (gb C))).1];exact e
 have au:∀M l,jZ (H M++l) bt=I [g]:=λM l=>by
  refine Sn ?_ l
  rw[←aD]
  exact Jt (x M bt (Ju aD))
 obtain⟨N,D⟩:∃N:List Int->U,N=λM=>H (L++M.flatMap (jJ s))++[.box [.yield b] 85 .rw,.loop [.ptr bG 0,.ptr (H L).length 0] [2,3] [8] sm sn .ready none .rw]:=⟨_,rfl⟩
 have dZ:qL ((H L).length+1) (λM=>ok (L++M.flatMap (jJ s))/\∀p∈M,0<=p/\p<s.ax.length) N:=by
  constructor
  ·intro M;simp only[D,dW,br (L++M.flatMap (jJ s)) (L++[].flatMap (jJ s))]
  ·rintro M p rest ⟨Q,aw⟩
   obtain⟨aP,aR⟩:=aw p (by simp)
   obtain⟨i,rfl⟩:∃i:Nat,p=(i:Int):=⟨p.toNat,by omega⟩
   obtain⟨m,O⟩:=cQ (show i<s.ax.length by omega)
   have mY:=av m (dH O)
   have V:jJ s (i:Int)=jI m.2:=by unfold jJ;rw[lI,sx O]
   rw[uB,←eo,zz,V]at Q
   subst D
   have bE:(H (L++M.flatMap (jJ s))++[.box [.yield b] 85 .rw,.loop [.ptr bG 0,.ptr (H L).length 0] [2,3] [8] sm sn .ready none .rw]++rest)[(H L).length+1]?=I (.loop [.ptr bG 0,.ptr (H L).length 0] [2,3] [8] sm sn .ready none .rw):=by
    rw[eo,br L (L++M.flatMap (jJ s)),fP]
    rfl
   refine Ij (m.2.length+1) ((Z7 aJ _ _ _ _ _ _ none .rw bE).trans ?_)
   unfold N9
   simp only[eo,jQ,hy]
   generalize ay:L++M.flatMap (jJ s)=X at*
   have aA:∀Y,(H L).length+1=(H Y).length+1:=λY=>by rw[br L Y]
   have az:∀l,ab false 1 (.ptr bG 10) (H X++l)=I (A .ax):=λl=>eJ (ae X l) (kR A s)
   have W:=qH (A:=A) O
   have dp:ao A s (.bZ i)=m.2.map Cell.cs:=by simp only[ao,O]
   have aB:bW 2 (A .ax) (.int .i64 (i:Int))=I (c' (A .ax) (e7 m (A (.bZ i))) i 0):=eW (P X [] .ax) .i64 W
   have aC:∀l,ab false 1 (c' (A .ax) (e7 m (A (.bZ i))) i 1) (H X++l)=I (A (.bZ i)):=λl=>(e0 (P X l .ax) W _ _ _).trans (qI _ _)
   have R:∀Y l,dG (H Y++l) 6 (A (.bZ i)) (m.2.map Cell.cs):=λY l=>by rw[←dp];exact P Y l (.bZ i)
   have Z:=fH (R X [])
   rw[dn]at Z
   have b0:∀Y l,ab false 1 (.ptr (H L).length 0) (H Y++.box [.yield b] 85 .rw::l)=I (.yield b):=λY l=>by
    rw[lv]
    unfold jZ
    rw[br L Y,show(H Y).length=(H Y).length+0 from rfl,fP]
    rfl
   simp only[JE (aA X),bY,qo,gR,az,aB,iO,aC,Z,↓aF]
   refine hq (λj=>[.int .i64 (j:Int)]) (λj=>H (X++jI (m.2.take j))++.box [.yield b] 85 .rw::.loop [.ptr bG 0,.ptr (H L).length 0] [2,3] [8] sm sn .busy none .rw::rest) m.2.length (by omega) rfl (by simp [jI]) (λj T K=>?_) λK=>?_
   ·obtain⟨c,aa⟩:=cQ T
    have ac:(m.2.map Cell.cs)[j]?=I c.cs:=by rw[ja,aa];rfl
    have af:bW 6 (A (.bZ i)) (.int .i64 (j:Int))=I (c' (A (.bZ i)) c.cs j 0):=eW (R X []) .i64 ac
    have aH:∀Y l,ab true 6 (c' (A (.bZ i)) c.cs j 0) (H Y++l)=I (.agg c.cs):=λY l=>(e0 (R Y l) ac _ _ _).trans (fQ rfl)
    have aO:m.2.take (j+1)=m.2.take j++[c]:=py aa
    unfold Ic
    obtain⟨q,ag⟩:∃q:U,q=.box [.yield b] 85 .rw::.loop [.ptr bG 0,.ptr (H L).length 0] [2,3] [8] sm sn .busy none .rw::rest:=⟨_,rfl⟩
    have ak:∀Y (o:cq) v,(∀n,bI n v)->Go.aN.trim (H X++q) [v] (H Y++(q++[o]))=H Y++q:=λY o v aw=>t.Fk X Y q [o] (λw b0=>by rw[hl]at b0;subst b0;exact aw)
    have C:∀(z:Int) n,bI n (.int .i64 z):=λz n=>by simp only[bI]
    rw[←ag]
    rw[aO,SA]
    have al:∀l,ab false 1 (.ptr (H L).length 0) (H (X++jI (m.2.take j))++q++l)=I (.yield b):=λl=>by
     rw[ag,eo,jQ];exact b0 _ _
    obtain⟨u,E⟩:∃u:U,u=H (X++jI (m.2.take j))++q:=⟨_,rfl⟩
    have aI:∀(o:cq) v,(∀n,bI n v)->Go.aN.trim (H X++q) [v] (u++[o])=u:=λo v aw=>by
     rw[E,eo]
     exact ak _ o v aw
    have am:ab true 6 (c' (A (.bZ i)) c.cs j 0) u=I (.agg c.cs):=by rw[E];exact aH _ _
    rw[←E]at al|-
    by_cases G:c.inst>0
    ·have ba:∀o:cq,aJ dP [.ptr b 0,.int .i64 c.inst] (u++[o])=I (.bool true,H (X++(jI (m.2.take j)++[c.inst]))++(q++[o])):=λo=>by
      have:=t.wD (X++jI (m.2.take j)) c.inst (q++[o]) (by
       have e:jI m.2=jI (m.2.take j++[c]++m.2.drop (j+1)):=by rw[←aO,qW]
       have aL:jI (m.2.take j++[c]++m.2.drop (j+1))=jI (m.2.take j++[c])++jI (m.2.drop (j+1)):=by unfold jI;rw[ll,zy]
       rw[e,aL,SA,aQ G]at Q
       have an:=Q
       rw[←eo,←eo]at an
       exact t.pre _ _ an)
      rw[E,eo,this,eo]
     rw[aQ G]
     simp only[aS,↓aF,aT,dn,↓lY,sb,cL T,cm,aZ,af,am,Fm,Fl,Fo,wz,G,al,y9,ba,e3,bg,bd,cI (show j<9223372036854775807 by omega),ak _ _ _ (C _)]
    ·rw[a1 G]
     simp only[aS,↓aF,aT,dn,↓lY,sb,cL T,cm,aZ,af,am,Fm,Fl,Fo,wz,G,cW,bg,bd,cI (show j<9223372036854775807 by omega),aI _ _ (C _)]
     rw[E]
   ·unfold Ic
    simp only[aS,↓aF,aT,dn,fR,cW,bg,bd,h6,JF (aA _),qn]
    rw[hr _ (by simp [br (X++jI m.2) X]),uB,zz,V,←eo,ay]
  ·intro M y k ad
   subst D
   simp only at ad|-
   have ap:(H (L++[].flatMap (jJ s))).length=(H (L++M.flatMap (jJ s))).length:=br _ _
   rw[dW,ap,←dW]at ad
   have:=t.JD (L++M.flatMap (jJ s)) (L++y.flatMap (jJ s)) _ k ad
   rw[dW,←ap,←dW]at this
   exact this
  ·rintro A B ⟨h1,h2⟩
   refine⟨?_,λp aj=>h2 p (s5 _ aj)⟩
   rw[uB,←eo]at h1
   exact t.pre _ _ h1
 have aq:=S _ _ N [] dZ (λM k ad=>by
  subst D
  have:k<(H (L++M.flatMap (jJ s))).length:=(List.getElem?_eq_some_iff.1 ((x _ k ad).trans (gb ad))).1
  rw[cG this]
  exact x _ k ad) (by simpa using⟨ar,aj⟩)
 subst D
 refine cg (F:=CP) (by kernel_rfl) 1 ?_
 rw[abp];unfold N8
 simp only[hy,List.flatMap_nil,fu]at aq
 have aM:∀l,ab false 1 (.ptr bt 0) (H L++l)=I g:=λl=>Sm (au L l) rfl
 have aA:(H L).length+1=(H (L++bC.flatMap (jJ s))).length+1:=by rw[br L]
 simp only[bY,mq,Sz,aM,dW,kb,List.length_nil,gR,eo,jQ,hy,aq,Sx aA,Sy aA,Jw,↓aF]
 have aO:=t.Fk L (L++bC.flatMap (jJ s)) [.box [.yield b] 85 .rw] [.dead] (r:=[]) (by simp)
 simp only[jQ,hy]at aO
 rw[aO,y7,t.trim _ _ (by simp)]
theorem af4{h:U}{k n:Nat}{t2:aX}{md2:eg}(e:h[k]?=I (.box [.int .i64 n] t2 md2))(aA:n<=70000):nt h (.func 97 [] [.ptr k 0]) (dz n):=by
 intro b ok H L S g c
 rw[yf aJ 97]
 show aJ 97 [.yield b,.ptr k 0] (H L)=_
 have ae:(H L)[k]?=I (.box [.int .i64 n] t2 md2):=(g L k (List.getElem?_eq_some_iff.1 e).1).trans e
 refine cg (F:=CQ) (by kernel_rfl) (n+1) ?_
 rw[abq];unfold N_
 simp only[aS,↓aF,aT,eJ ae (wH _)]
 refine hq (λi=>[.int .i64 (i:Int)]) (λi=>H (L++dz i)) n (by omega) rfl (by show H (L++[])=_;rw[fu]) (λi ag K=>?_) λK=>?_
 ·have ba:=S.wD (L++dz i) (i:Int) [] (by
   obtain⟨r,an⟩:∃r,dz n=dz (i+1)++r:=by
    refine⟨(dz n).drop (i+1),?_⟩
    have:dz (i+1)=(dz n).take (i+1):=by
     unfold dz
     rw[←List.map_take,List.take_range,mb (by omega)]
    rw[this,qW]
   rw[an,JC,←eo,←eo]at c
   exact S.pre _ _ c)
  have aO:=S.trim L (L++(dz i++[(i:Int)])) (r:=[.int .i64 ((i+1:Nat):Int)]) (λv aw=>by rw[hl]at aw;subst aw;simp only[bI]) []
  rw[fu]at aO
  rw[fu,fu,eo]at ba
  rw[JC]
  unfold Ie
  simp only[aS,↓aF,aT,cL ag,cm,aZ,y9,ba,e3,bg,bd,cI (show i<9223372036854775807 by omega)]
  exact cV (K _) aO
 ·have aC:((n:Int)<(n:Int))=False:=dK (by omega)
  have aO:=S.trim L (L++dz n) (r:=[]) (by simp) []
  rw[fu]at aO
  unfold Ie
  simp only[aS,↓aF,aT,aC,cW,bg,bd,y7,aO]
def fU(l:List Int):List Int:=(l.filter λx=>decide (x>0)).map λx=>x-1
theorem za(a b:List Int):fU (a++b)=fU a++fU b:=by unfold fU;rw[zy,ll]
theorem SB{h:U}{bt:Nat}{g:J}{bC:List Int}(aD:jZ h bt=I [g])(S:nt h g bC)(aj:∀p∈bC,0<=p/\p<=70000):nt h (.func 95 [] [.ptr bt 0]) (fU bC):=by
 intro b ok H L c n w
 rw[yf aJ 95]
 show aJ 95 [.yield b,.ptr bt 0] (H L)=_
 have br:∀M e,(H M).length=(H e).length:=λM e=>by rw[c.len M,c.len e]
 have x:∀M l,jZ (H M++l) bt=I [g]:=λM l=>by
  refine Sn ?_ l
  rw[←aD]
  exact Jt (n M bt (Ju aD))
 obtain⟨j,i⟩:∃j:List Int->U,j=λM=>H (L++fU M)++[.box [.yield b] 85 .rw,.loop [.ptr (H L).length 0] [2] [5] vK vL .ready none .rw]:=⟨_,rfl⟩
 have dZ:qL ((H L).length+1) (λM=>ok (L++fU M)/\∀p∈M,0<=p/\p<=70000) j:=by
  constructor
  ·intro M;simp only[i,dW,br (L++fU M) (L++fU [])]
  ·rintro M p rest ⟨o,aw⟩
   obtain⟨D,E⟩:=aw p (by simp)
   rw[za,←eo]at o
   subst i
   have bE:(H (L++fU M)++[.box [.yield b] 85 .rw,.loop [.ptr (H L).length 0] [2] [5] vK vL .ready none .rw]++rest)[(H L).length+1]?=I (.loop [.ptr (H L).length 0] [2] [5] vK vL .ready none .rw):=by
    rw[eo,br L (L++fU M),fP]
    rfl
   refine Ij 1 ((Z5 aJ _ _ _ _ _ none .rw bE).trans ?_)
   unfold N7
   simp only[eo,jQ,hy]
   generalize q:L++fU M=X at*
   have aA:∀Y,(H L).length+1=(H Y).length+1:=λY=>by rw[br L Y]
   have b0:∀Y l,ab false 1 (.ptr (H L).length 0) (H Y++.box [.yield b] 85 .rw::l)=I (.yield b):=λY l=>by
    rw[lv]
    unfold jZ
    rw[br L Y,show(H Y).length=(H Y).length+0 from rfl,fP]
    rfl
   have y:IntKind.i64.wrap (p-1)=p-1:=wrap64 (by unfold dr;omega)
   by_cases m:p>0
   ·have ag:fU [p]=[p-1]:=by simp [fU,m]
    have ba:∀l,aJ dP [.ptr b 0,.int .i64 (p-1)] (H X++l)=I (.bool true,H (X++[p-1])++l):=λl=>c.wD X (p-1) l (by rw[ag]at o;exact o)
    simp only[JE (aA X),aS,↓aF,aT,↓lY,sb,m,cm,aZ,b0,y,y9,ba,e3,bg,bd,JF (aA (X++[p-1])),qn]
    rw[hr _ (by simp [br (X++[p-1]) X]),za,ag,←eo,q]
   ·have ag:fU [p]=[]:=by simp [fU,m]
    simp only[JE (aA X),aS,↓aF,aT,↓lY,sb,m,cW,bg,bd,JF (aA X),qn]
    rw[hr _ (by simp),za,ag,fu,q]
  ·intro M e k ad
   subst i
   simp only at ad|-
   have t:(H (L++fU [])).length=(H (L++fU M)).length:=br _ _
   rw[dW,t,←dW]at ad
   have:=c.JD (L++fU M) (L++fU e) _ k ad
   rw[dW,←t,←dW]at this
   exact this
  ·rintro A B ⟨h1,h2⟩
   refine⟨?_,λp aj=>h2 p (s5 _ aj)⟩
   rw[za,←eo]at h1
   exact c.pre _ _ h1
 have u:=S _ _ j [] dZ (λM k ad=>by
  subst i
  have:k<(H (L++fU M)).length:=(List.getElem?_eq_some_iff.1 ((n _ k ad).trans (gb ad))).1
  rw[cG this]
  exact n _ k ad) (by simpa using⟨w,aj⟩)
 subst i
 refine cg (F:=CO) (by kernel_rfl) 1 ?_
 rw[abo];unfold N6
 have z:fU []=[]:=rfl
 simp only[hy,z,fu]at u
 have C:∀l,ab false 1 (.ptr bt 0) (H L++l)=I g:=λl=>Sm (x L l) rfl
 have aA:(H L).length+1=(H (L++fU bC)).length+1:=by rw[br L]
 simp only[bY,mq,Sz,C,dW,kb,List.length_nil,gR,eo,jQ,hy,u,Sx aA,Sy aA,Jw,↓aF]
 have aO:=c.Fk L (L++fU bC) [.box [.yield b] 85 .rw] [.dead] (r:=[]) (by simp)
 simp only[jQ,hy]at aO
 rw[aO,y7,c.trim _ _ (by simp)]
def hi(x:c1):List Int:=x.keys.map λk=>k.2
theorem JG(c:Int×Int)(vs:List J)(t:aX)(l:U):a_ 2 (.ptr 0 0) (.agg (cM c)) (.box vs t .rw::l)=(cy vs 0 (cM c)).map λb_=>.box b_ t .rw::l:=iL rfl (by decide)
theorem JH(c:Int×Int)(a b:J):cy [a,b] 0 (cM c)=I (cM c):=hN rfl rfl
theorem af5{h:U}{k:Nat}{s:aK}{A:aU->J}{t2:aX}{md2:eg}(e:h[k]?=I (.box (aW A s) t2 md2))(rs:fJ h A s)(t:gw s):nt h (.func 98 [] [.ptr k 0]) (s.ai.flatMap hi):=by
 intro b ok H L g u y
 rw[yf aJ 98]
 show aJ 98 [.yield b,.ptr k 0] (H L)=_
 have br:∀M p,(H M).length=(H p).length:=λM p=>by rw[g.len M,g.len p]
 have ae:∀M l,(H M++l)[k]?=I (.box (aW A s) t2 md2):=λM l=>by
  have:=(u M k (List.getElem?_eq_some_iff.1 e).1).trans e
  rw[cG (List.getElem?_eq_some_iff.1 this).1];exact this
 have o:∀M l,fJ (H M++l) A s:=λM l k=>pO (rs k) λb ae j=>by
  have e:=u M b j
  rw[cG (List.getElem?_eq_some_iff.1 (e.trans (gb j))).1];exact e
 have R:∀M l,ab false 1 (.ptr k 12) (H M++l)=I (A .ai):=λM l=>eJ (ae M l) (iD A s)
 have S:ab false 1 (.ptr k 12) (H L)=I (A .ai):=by have:=R L [];rwa [fu]at this
 have T:(ao A s .ai).length=s.ai.length:=by simp [ao]
 have B:=fH (o L [] .ai)
 rw[T]at B
 have j:∀(z:Int) n,bI n (.int .i64 z):=λz n=>by simp only[bI]
 have an:=t.ai
 refine cg (F:=CR) (by kernel_rfl) 70001 ?_
 generalize ap:(70001:Nat)=N
 rw[abr];unfold N'
 simp only[aS,↓aF,aT,S,B]
 refine hq (λi=>[.int .i64 (i:Int)]) (λi=>H (L++(s.ai.take i).flatMap hi)) s.ai.length (by omega) rfl (by simp) (λi ag K=>?_) λK=>?_
 ·obtain⟨x,af⟩:=cQ ag
  have aO:s.ai.take (i+1)=s.ai.take i++[x]:=py af
  have aq:=(t.ins x (dH af)).1
  obtain⟨X,C⟩:∃X,X=L++(s.ai.take i).flatMap hi:=⟨_,rfl⟩
  rw[aO,uB,zz,←eo,←C]
  have D:=kQ (A:=A) af
  have dp:ao A s (.key i)=x.keys.map cM:=by simp only[ao,af]
  have V:bW 33 (A .ai) (.int .i64 (i:Int))=I (c' (A .ai) (bT x (A (.key i)) (A (.bm i)) (A (.bk i)) (A (.bl i))) i 0):=eW (o X [] .ai) .i64 D
  have W:ab true 33 (c' (A .ai) (bT x (A (.key i)) (A (.bm i)) (A (.bk i)) (A (.bl i))) i 0) (H X)=I (.agg (bT x (A (.key i)) (A (.bm i)) (A (.bk i)) (A (.bl i)))):=by
   have:=(e0 (o X [] .ai) D true 33 0).trans (fQ rfl)
   rwa [fu]at this
  have q:∀Y l,dG (H Y++l) 2 (A (.key i)) (x.keys.map cM):=λY l=>by rw[←dp];exact o Y l (.key i)
  have E:=fH (q X [])
  rw[dn]at E
  have Z:=Jm x (A (.key i)) (A (.bm i)) (A (.bk i)) (A (.bl i)) Jo (kr (rs (.key i))) (kr (rs (.bm i))) (kr (rs (.bk i))) (kr (rs (.bl i)))
  obtain⟨bx,ac⟩:∃bx,bx=cq.box (bT x (A (.key i)) (A (.bm i)) (A (.bk i)) (A (.bl i))) 57 .rw:=⟨_,rfl⟩
  have G:∀jj:List J->U->bh,cr (CS aJ N (.yield b) (H L) (H X++[bx]) (A (.key i)) (.int .i64 x.keys.length) jj) N [.int .i64 0] (H X++[bx])=jj [] (H (X++hi x)++[bx]):=λjj=>by
   refine hq (λn=>[.int .i64 (n:Int)]) (λn=>H (X++(x.keys.take n).map λk=>k.2)++[bx]) x.keys.length (by omega) rfl (by simp) (λn aA K=>?_) λK=>?_
   ·obtain⟨c,aa⟩:=cQ aA
    have O:x.keys.take (n+1)=x.keys.take n++[c]:=py aa
    have P:(x.keys.map cM)[n]?=I (cM c):=by rw[ja,aa];rfl
    obtain⟨Y,Q⟩:∃Y,Y=X++(x.keys.take n).map λk=>k.2:=⟨_,rfl⟩
    have ad:bW 2 (A (.key i)) (.int .i64 (n:Int))=I (c' (A (.key i)) (cM c) n 0):=eW (q X []) .i64 P
    have aj:ab true 2 (c' (A (.key i)) (cM c) n 0) (H Y++[bx])=I (.agg (cM c)):=(e0 (q Y _) P _ _ _).trans (fQ rfl)
    have ba:∀l,aJ dP [.ptr b 0,.int .i64 c.2] (H Y++l)=I (.bool true,H (Y++[c.2])++l):=λl=>g.wD Y c.2 l (by
     have aD:s.ai.flatMap hi=(s.ai.take i).flatMap hi++(((x.keys.take n).map λk=>k.2)++([c.2]++(((x.keys.drop (n+1)).map λk=>k.2)++(s.ai.drop (i+1)).flatMap hi))):=by
      have aE:s.ai=s.ai.take i++[x]++s.ai.drop (i+1):=by rw[←aO,qW]
      have ak:hi x=((x.keys.take n).map λk=>k.2)++([c.2]++((x.keys.drop (n+1)).map λk=>k.2)):=by
       have al:x.keys=x.keys.take n++[c]++x.keys.drop (n+1):=by rw[←O,qW]
       show x.keys.map _=_
       conv=>lhs;rw[al]
       simp
      conv=>lhs;rw[aE]
      rw[uB,uB,zz,ak]
      simp
     rw[aD,←eo,←C,←eo,←Q,←eo]at y
     exact g.pre _ _ y)
    have az:n<9223372036854775807:=by omega
    have m:=g.Fk X (Y++[c.2]) [bx] [.box (cM c) 89 .rw] (r:=[.int .i64 ((n+1:Nat):Int)]) (λw b0=>by rw[hl]at b0;subst b0;exact j _)
    simp only[jQ,hy]at m
    rw[O,ll,←eo,←Q]
    have am:=ba [bx,.box (cM c) 89 .rw]
    unfold CS
    simp only[aS,↓aF,aT,cL aA,cm,aZ,ad,aj,JG,JH,y6,y9,am,e3,bg,bd,cI az]
    exact cV (K _) m
   ·have aC:((x.keys.length:Int)<(x.keys.length:Int))=False:=dK (by omega)
    unfold CS
    simp only[aS,↓aF,aT,aC,cW,bg,bd,h6]
    rfl
  have az:i<9223372036854775807:=by omega
  have m:=g.trim L (X++hi x) (r:=[.int .i64 ((i+1:Nat):Int)]) (λw b0=>by rw[hl]at b0;subst b0;exact j _ _) [bx]
  rw[ac]at G m
  unfold Ig
  simp only[aS,↓aF,aT,cL ag,cm,aZ,V,W,Jn,Z,jE,E,G,cI az]
  exact cV (K _) m
 ·have aC:((s.ai.length:Int)<(s.ai.length:Int))=False:=dK (by omega)
  have aO:=g.trim L (L++s.ai.flatMap hi) (r:=[]) (by simp) []
  rw[fu]at aO
  unfold Ig
  simp only[aS,↓aF,aT,aC,cW,bg,bd,y7,h6,aO]
end Go.aN.X
namespace Go.aN.X
open Go.bB Go.aN
structure nv(base:Nat)(D:aU->Prop)(nw H:U)(A:aU->J)(R:aU->List (List J)):Prop where
 e1:∀k,D k->cU H base (dS k) (gZ k) (A k) (R k)
 inj:∀k b4 b,jD (A k)=I b->jD (A b4)=I b->k=b4
 len:H.length=nw.length
 low:∀b,b<base->H[b]?=nw[b]?
theorem nv.mono{base:Nat}{D b:aU->Prop}{nw H:U}{A:aU->J}{R:aU->List (List J)}(f:nv base D nw H A R)(h:∀k,b k->D k):nv base b nw H A R:=⟨λk ad=>f.e1 k (h k ad),f.inj,f.len,f.low⟩
theorem nv.set{base:Nat}{D:aU->Prop}{nw H:U}{A:aU->J}{R:aU->List (List J)}(f:nv base D nw H A R){k:aU}(ad:D k){b:Nat}(ae:jD (A k)=I b)(blk:cq):nv base (λb4=>D b4/\b4≠k) nw (H.set b blk) A R:=
 ⟨λb4 g=>ji (f.e1 b4 g.1) λc aa _=>hj (λe=>g.2 (f.inj _ _ _ (e▸aa) ae)),f.inj,by rw[ir];exact f.len,λc aa=>by
  rw[hj (by have:=(k9 (f.e1 k ad) ae).1;omega)];exact f.low c aa⟩
theorem sP{base:Nat}{D:aU->Prop}{nw H:U}{A:aU->J}{R:aU->List (List J)}(f:nv base D nw H A R){k:aU}(ad:D k)(aj:(R k).flatten.all fz=true):∃cx,dh (.flat (dS k)) (A k) H=I (.bz (dS k) (R k),cx)/\nv base (λb4=>D b4/\b4≠k) nw cx A R:=by
 have o:=f.e1 k ad
 generalize aw:A k=v at o
 generalize an:R k=rows at o aj
 cases o with
 |emp=>exact⟨H,W9 _ _,f.mono λb4 h=>h.1⟩
 |ref b n _ ae e aA=>
  by_cases au:n=0
  ·refine⟨H,?_,f.mono λb4 h=>h.1⟩
   subst au
   rw[gy aA.symm]
   simp only[dh,aZ]
  ·refine⟨_,?_,f.set ad (b:=b) (by rw[aw];rfl) (.log rows (dS k) (gZ k) .ro)⟩
   simp only[dh]
   rw[a1 au,e]
   simp only
   rw[aQ ⟨aA.symm,trivial,by omega,by rw[o4,aA,h6];exact aj⟩,o4,aA,h6]
theorem SC{cs:List fx}(P:Nat->U->Prop):∀(rows rows':List (List J)) (i:Nat),rows.length=rows'.length->(∀j r dD H,rows[j]?=I r->rows'[j]?=I dD->P (i+j) H->∃cx,hK cs r H=I (dD,cx)/\P (i+j+1) cx)->∀H,P i H->∃cx,oC cs rows H=I (rows',cx)/\P (i+rows.length) cx
 |[],[],i,_,_,H,h=>⟨H,by unfold oC;rfl,h⟩
 |r::rs,dD::b,i,av,az,H,h=>by
  obtain⟨c,h1,h2⟩:=az 0 r dD H rfl rfl h
  obtain⟨e,ak,aH⟩:=SC P rs b (i+1) (by simpa using av) (λj a a' G aD aE aj=>by
   have:=az (j+1) a a' G aD aE (by rw[show i+(j+1)=i+1+j by omega];exact aj)
   rwa [show i+(j+1)+1=i+1+j+1 by omega]at this) c h2
  refine⟨e,?_,by rw[kb,show i+(rs.length+1)=i+1+rs.length by omega];exact aH⟩
  unfold oC
  rw[h1,dy,ak];rfl
theorem JI{base:Nat}{D:aU->Prop}{nw H:U}{A:aU->J}{R:aU->List (List J)}{cs:List fx}(f:nv base D nw H A R){k:aU}(ad:D k)(P:Nat->U->Prop)(rows':List (List J))(av:(R k).length=rows'.length)(aj:rows'.flatten.all fz=true)
 (au:∀G,nv base (λb4=>D b4/\b4≠k) nw G A R->P 0 G) (az:∀j r dD G,(R k)[j]?=I r->rows'[j]?=I dD->P j G->∃cx,hK cs r G=I (dD,cx)/\P (j+1) cx):
 ∃cx,dh (.bO (dS k) cs) (A k) H=I (.bz (dS k) rows',cx)/\P rows'.length cx:=by
 have o:=f.e1 k ad
 generalize aw:A k=v at o
 generalize an:R k=rows at o av az
 cases o with
 |emp=>
  have:rows'=[]:=gy av.symm
  subst this
  exact⟨H,W_ _ _ _,au H (f.mono λb4 h=>h.1)⟩
 |ref b n _ ae e aA=>
  by_cases bq:n=0
  ·have:rows'=[]:=gy (by omega)
   subst this
   refine⟨H,?_,au H (f.mono λb4 h=>h.1)⟩
   subst bq
   simp only[dh,aZ]
  ·have f1:=f.set ad (b:=b) (by rw[aw];rfl) (.log rows (dS k) (gZ k) .ro)
   obtain⟨cx,h1,h2⟩:=SC P rows rows' 0 av (λj r dD G aD aE aj=>by
    rw[gR]at aj|-
    exact az j r dD G aD aE aj) _ (au _ f1)
   refine⟨cx,?_,by rw[←av];simpa using h2⟩
   simp only[dh]
   rw[a1 bq,e]
   simp only
   rw[aQ ⟨aA.symm,trivial,by omega⟩,o4,aA,h6,h1,dy]
   simp only
   rw[aQ aj]
theorem JJ{α:Type}{f:α->List J}(h:∀a,(f a).all fz=true)(l:List α):((l.map f).flatten).all fz=true:=by
 rw[List.all_eq_true]
 intro x af
 obtain⟨r,an,af⟩:=List.mem_flatten.1 af
 obtain⟨a,_,rfl⟩:=List.mem_map.1 an
 exact List.all_eq_true.1 (h a) x af
def SD:List fx:=[.ah,.ah,.ah,.flat 1,.ah,.ah,.ah,.ah,.ah,.flat 1,.bO 2 [.ah,.flat 6],.bO 13 [.ah,.flat 1,.ah,.ah,.ah,.ah,.ah,.ah,.ah,.ah,.ah,.ah,.ah],.bO 33 [.ah,.flat 2,.ah,.flat 2,.ah,.ah,.ah,.ah,.ah,.ah,.ah,.flat 2,.ah,.ah,.ah,.ah,.ah,.ah,.ah,.flat 2,.ah,.ah,.ah,.ah,.ah,.ah,.ah,.ah,.ah,.ah,.ah,.ah,.ah]]
theorem af6{au H:U}{A:aU->J}{s:aK}(own:c2 au dM H A s):∃cx,hK SD (aW A s) H=I (s.cs,cx)/\cx.length=H.length/\∀b,b<au.length->cx[b]?=H[b]?:=by
 have f0:nv au.length (λ_=>True) H H A (ao A s):=⟨λk _=>own.new.e1 k,own.new.inj,rfl,λb _=>rfl⟩
 obtain⟨w,aD,f1⟩:=sP f0 (k:=.bo) trivial (nc (f:=bA) (λc=>rfl) _)
 obtain⟨x,aE,f2⟩:=sP f1 (k:=.cw) ⟨trivial,by simp⟩ (nc (f:=bA) (λc=>rfl) _)
 obtain⟨y,g,f3⟩:=JI (cs:=[.ah,.flat 6]) f2 (k:=.ax) ⟨⟨trivial,by simp⟩,by simp⟩
  (λi G=>nv au.length (λk=>k≠.bo/\k≠.cw/\k≠.ax/\∀j,j<i->k≠.bZ j) H G A (ao A s)) (s.ax.map dC) (by simp [ao]) (JJ (λp=>rfl) _)
  (λG f=>f.mono λk h=>⟨⟨⟨trivial,h.1⟩,h.2.1⟩,h.2.2.1⟩) (λj r dD G an gd f=>by
    obtain⟨p,aj⟩:∃p,s.ax[j]?=I p:=by
     have:=(List.getElem?_eq_some_iff.1 gd).1
     rw[dn]at this
     exact cQ this
    rw[qH aj]at an
    rw[ja,aj]at gd
    cases an;cases gd
    have dp:ao A s (.bZ j)=p.2.map Cell.cs:=by simp only[ao,aj]
    obtain⟨cx,e,bR⟩:=sP f (k:=.bZ j) ⟨by simp,by simp,by simp,λi ag=>by simp;omega⟩ (by rw[dp];exact nc (f:=Cell.cs) (λc=>rfl) _)
    rw[dp]at e
    refine⟨cx,?_,bR.mono λk h=>⟨⟨h.1,h.2.1,h.2.2.1,λi ag=>h.2.2.2 i (by omega)⟩,h.2.2.2 j (by omega)⟩⟩
    simp only[dS]at e
    unfold e7
    simp only[i_,j1,k3,dy,dm,e]
    rfl)
 obtain⟨z,l,f4⟩:=JI (cs:=[.ah,.flat 1,.ah,.ah,.ah,.ah,.ah,.ah,.ah,.ah,.ah,.ah,.ah]) f3 (k:=.aG) ⟨by simp,by simp,by simp,λi ag=>by simp⟩
  (λi G=>nv au.length (λk=>(k≠.bo/\k≠.cw/\k≠.ax/\k≠.aG)/\(∀j,k≠.bZ j)/\∀j,j<i->k≠.cp j) H G A (ao A s)) (s.aG.map eS.cs) (by simp [ao]) (JJ (λp=>rfl) _)
  (λG f=>f.mono λk h=>⟨⟨h.1.1,h.1.2.1,h.1.2.2.1,λj _=>h.2.1 j⟩,h.1.2.2.2⟩) (λj r dD G an gd f=>by
    obtain⟨p,aj⟩:∃p,s.aG[j]?=I p:=by
     have:=(List.getElem?_eq_some_iff.1 gd).1
     rw[dn]at this
     exact cQ this
    rw[y2 aj]at an
    rw[ja,aj]at gd
    cases an;cases gd
    have dp:ao A s (.cp j)=p.data.map bA:=by simp only[ao,aj]
    obtain⟨cx,e,bR⟩:=sP f (k:=.cp j) ⟨by simp,by simp,λi ag=>by simp;omega⟩ (by rw[dp];exact nc (f:=bA) (λc=>rfl) _)
    rw[dp]at e
    refine⟨cx,?_,bR.mono λk h=>⟨⟨h.1,h.2.1,λi ag=>h.2.2 i (by omega)⟩,h.2.2 j (by omega)⟩⟩
    simp only[dS]at e
    unfold kO
    simp only[i_,j1,k3,dy,dm,e]
    rfl)
 obtain⟨t,m,f5⟩:=JI (cs:=[.ah,.flat 2,.ah,.flat 2,.ah,.ah,.ah,.ah,.ah,.ah,.ah,.flat 2,.ah,.ah,.ah,.ah,.ah,.ah,.ah,.flat 2,.ah,.ah,.ah,.ah,.ah,.ah,.ah,.ah,.ah,.ah,.ah,.ah,.ah]) f4 (k:=.ai) ⟨by simp,by simp,λi ag=>by simp⟩
  (λi G=>nv au.length (λk=>∃j,i<=j/\(k=.key j\/k=.bm j\/k=.bk j\/k=.bl j)) H G A (ao A s)) (s.ai.map c1.cs) (by simp [ao]) (JJ (λp=>rfl) _)
  (λG f=>f.mono λk h=>by
    obtain⟨j,_,h⟩:=h
    rcases h with rfl|rfl|rfl|rfl<;>exact⟨⟨by simp,by simp,λi ag=>by simp⟩,by simp⟩) (λj r dD G an gd f=>by
    obtain⟨p,aj⟩:∃p,s.ai[j]?=I p:=by
     have:=(List.getElem?_eq_some_iff.1 gd).1
     rw[dn]at this
     exact cQ this
    rw[kQ aj]at an
    rw[ja,aj]at gd
    cases an;cases gd
    have dp:ao A s (.key j)=p.keys.map cM:=by simp only[ao,aj]
    have n:ao A s (.bm j)=p.bm.dt.map iN:=by simp only[ao,aj]
    have o:ao A s (.bk j)=p.bk.dt.map iN:=by simp only[ao,aj]
    have q:ao A s (.bl j)=p.bl.dt.map iN:=by simp only[ao,aj]
    obtain⟨B,cE,bt⟩:=sP f (k:=.key j) ⟨j,ca _,by simp⟩ (by rw[dp];exact nc (f:=cM) (λc=>rfl) _)
    obtain⟨C,cD,bG⟩:=sP bt (k:=.bm j) ⟨⟨j,ca _,by simp⟩,by simp⟩ (by rw[n];exact nc (f:=iN) (λc=>rfl) _)
    obtain⟨D,dE,cZ⟩:=sP bG (k:=.bk j) ⟨⟨⟨j,ca _,by simp⟩,by simp⟩,by simp⟩ (by rw[o];exact nc (f:=iN) (λc=>rfl) _)
    obtain⟨u,fe,cS⟩:=sP cZ (k:=.bl j) ⟨⟨⟨⟨j,ca _,by simp⟩,by simp⟩,by simp⟩,by simp⟩ (by rw[q];exact nc (f:=iN) (λc=>rfl) _)
    rw[dp]at cE
    rw[n]at cD
    rw[o]at dE
    rw[q]at fe
    simp only[dS]at cE cD dE fe
    refine⟨u,?_,cS.mono λk h=>?_⟩
    ·unfold bT fI
     simp only[jQ,hy,i_,j1,k3,dy,dm,cE,cD,dE,fe]
     rfl
    ·obtain⟨i,ag,h⟩:=h
     rcases h with rfl|rfl|rfl|rfl<;>exact⟨⟨⟨⟨⟨i,by omega,by simp⟩,by simp<;>omega⟩,by simp<;>omega⟩,by simp<;>omega⟩,by simp<;>omega⟩)
 refine⟨t,?_,f5.len,f5.low⟩
 simp only[dS]at aD aE g l m
 unfold SD aW
 simp only[i_,j1,k3,dy,dm,aD,aE,g,l,m]
 rfl
theorem JK{s:aK}(ok:wi s){i:c1}(ag:i∈s.ai):pF i=true/\∀k∈i.keys,¬k.2>(s.aG.length:Int):=by
 have:=ok.ai i ag
 unfold my at this
 split at this
 ·cases this
 ·rename_i h1
  split at this
  ·cases this
  ·rename_i h2
   refine⟨by simpa using h1,λk ad b=>h2 ?_⟩
   rw[F0]
   exact⟨k,ad,by simpa using b⟩
theorem af7{s:aK}(ok:wi s){o:Int}(h:o∈dL s.bo):0<=o/\o<s.ax.length:=by
 rw[Ff]at h
 have h1:=ok.bo o h.1
 unfold l3 b8 at h1
 rw[h.2]at h1
 have h2:=ok.EV
 unfold b8 at h2
 simp only[dx,fi]at h2
 have bs:fT s.cb 2<9223372036854775807:=qz (λr=>mu r 2<9223372036854775807) (by decide) (by decide) (by decide) (by decide) (by decide) (by decide) (by decide) _
 have b0:IntKind.i64.wrap ((s.ax.length:Int)-1)=(s.ax.length:Int)-1:=by rw[wrap64 (by unfold dr;omega)]
 rw[b0]at h1
 simp only[gp,hn,Bool.not_eq_false',dx,fi]at h1
 omega
theorem JL{s:aK}(ok:wi s){p:eD}(aj:p∈s.ax):p.2.length<=1024/\∀c∈p.2,0<=c.inst/\c.inst<=oP s:=by
 have:=ok.ax p aj
 unfold mw at this
 split at this
 ·cases this
 ·rename_i h1
  split at this
  ·cases this
  ·rename_i h2
   have b:yO s p=false:=by simpa using h1
   unfold yO at b
   rw[ui,ui]at b
   have e:pE p.1 p.2 s.ch=true:=by simpa using b.1.2
   unfold pE b8 at e
   simp only[dx,fi,iE]at e
   obtain⟨⟨⟨⟨g,h⟩,a3,a4⟩,a5⟩,i⟩:=e
   have k:p.1*s.ch<=64*16:=wW a4 h (by omega) (by omega)
   have l:1*1<=p.1*s.ch:=wW a3 g (by omega) (by omega)
   rw[wrap64 (by unfold dr;omega)]at a5
   refine⟨by omega,λc aa=>⟨?_,?_⟩⟩
   ·have:=List.all_eq_true.1 i c aa
    unfold l2 b8 at this
    simp only[dx,fi]at this
    omega
   ·rw[F0]at h2
    have ak:¬c.inst>oP s:=λj=>h2 ⟨c,aa,by simpa using j⟩
    omega
def il(s:aK):Nat:=if eZ s.cb 6=true then s.ai.length else s.aG.length
structure hx(s:aK):Prop where
 fS:gw s
 ne:s.ax≠[]
 bo:∀o∈s.bo,mark o=false->0<=o/\o<s.ax.length
 qM:∀p∈s.ax,∀c∈p.2,g_ c.inst (il s)
 keys:∀x∈s.ai,∀c∈x.keys,g_ c.2 s.aG.length
theorem JM{e:bJ}{lo ag:Int}(h:oN e lo ag=true):e.dt.length<=70000:=by
 unfold oN at h
 simp only[dx,nA,ui,h7]at h
 omega
theorem hx.zb{s:aK}(ok:wi s):hx s:=by
 have hd:b8 s.cb 1 6=true:=ok.cb
 have bH:=QZ s.cb
 have g:=ok.ch
 have aj:=ok.EV
 have h:fT s.cb 2<=32:=qz (λr=>mu r 2<=32) (by decide) (by decide) (by decide) (by decide) (by decide) (by decide) (by decide) s.cb
 have b:=ok.Q2
 have i:=ok.Q3
 have az:=ok.Q4
 have ag:=ok.IZ
 unfold b8 at g aj b
 simp only[dx,fi]at g aj b
 refine⟨⟨by omega,by omega,by omega,by omega,by omega,λp aj=>by have:=(JL ok aj).1;omega,λx af=>?_,λx af=>?_⟩,λe=>by rw[e]at aj;simp at aj,λo b hm=>af7 ok ((Ff s.bo o).2 ⟨b,hm⟩),λp aj c aa=>?_,λx af c aa=>?_⟩
 ·have:=ok.aG x af
  unfold kq nk at this
  simp only[dx,fi]at this
  omega
 ·have:=(JK ok af).1
  unfold pF at this
  simp only[dx,Bool.or_eq_true,iE]at this
  obtain⟨_,_,h1,h2,ak,aH,_⟩:=this
  exact⟨by omega,JM h2,JM ak,JM aH⟩
 ·have h1:=(JL ok aj).2 c aa
  unfold g_ il
  have:oP s=(if eZ s.cb 6=true then(s.ai.length:Int)else s.aG.length):=rfl
  rw[this]at h1
  split at h1<;>(first|rw[aQ ‹_›]|rw[a1 ‹_›])<;>omega
 ·obtain⟨h1,h2⟩:=JK ok af
  have h2:=h2 c aa
  unfold pF at h1
  simp only[dx,nA]at h1
  have ak:sy c=false:=by
   have:=h1.1
   rw[List.any_eq_false]at this
   simpa using this c aa
  unfold sy b8 at ak
  simp only[ui,Bool.not_eq_false',dx,fi]at ak
  unfold g_
  omega
theorem hx.fK{s:aK}(b:hx s):hx (Go.aN.X.fK s):=by
 refine⟨b.fS.fK,b.ne,b.bo,?_,λx af c aa=>?_⟩
 ·have:il (Go.aN.X.fK s)=il s:=by
   unfold il
   show(if eZ s.cb 6=true then(s.ai.mapIdx _).length else s.aG.length)=_
   rw[ln]
  rw[this];exact b.qM
 ·obtain⟨i,ag,rfl⟩:=List.mem_mapIdx.1 (show x∈s.ai.mapIdx _ from af)
  unfold jF at aa
  split at aa
  ·exact b.keys _ (pX ag) c aa
  ·obtain⟨m,_,rfl⟩:=List.mem_map.1 (show c∈gv (j9 s i) 120 from aa)
   unfold g_ j9
   show(if _ then(0:Int)else _)=0\/_
   split
   ·left;rfl
   ·right;constructor
    ·show 1<=(i:Int)+1;omega
    ·show(i:Int)+1<=(s.aG.length:Int);omega
theorem hx.hC{s:aK}{to:List Int}(b:hx s)(p:db to s.ax.length):hx (Go.aN.X.hC s to):=by
 refine⟨b.fS.afF p,λe=>b.ne ?_,λo h hm=>?_,λq bs=>b.qM q (pS p bs),b.keys⟩
 ·have:=cV List.length (show eE wA s.ax to=[]from e)
  rw[kt]at this
  exact gy this
 ·obtain⟨x,af,rfl⟩:=List.mem_map.1 (show o∈s.bo.map (kv to)from h)
  have av:(Go.aN.X.hC s to).ax.length=s.ax.length:=kt _ _ _
  rw[av]
  by_cases c:mark x=true
  ·have:kv to x=x:=by unfold kv;rw[aQ c]
   rw[this,c]at hm;cases hm
  ·have g:mark x=false:=by simpa using c
   obtain⟨i,t,rfl,j,e,aO⟩:=Ji p g (b.bo x af g)
   rw[e];omega
theorem hx.jo{s:aK}{to:List Int}(b:hx s)(p:db to s.ai.length)(bs:eZ s.cb 6=true):hx (Go.aN.X.jo s to):=by
 have aA:il s=s.ai.length:=by unfold il;rw[aQ bs]
 have h:il (Go.aN.X.jo s to)=s.ai.length:=by
  unfold il
  show(if eZ s.cb 6=true then(eE Fb s.ai to).length else _)=_
  rw[aQ bs,kt]
 refine⟨(b.fS.gH p).kT to,λe=>b.ne ?_,λo i hm=>?_,λq bs c aa=>?_,λx af=>b.keys x (pS p af)⟩
 ·have:=cV List.length (show s.ax.map (jG to)=[]from e)
  rw[dn]at this
  exact gy this
 ·have av:(Go.aN.X.jo s to).ax.length=s.ax.length:=dn _
  rw[av];exact b.bo o i hm
 ·obtain⟨g,ck,rfl⟩:=List.mem_map.1 (show q∈s.ax.map (jG to)from bs)
  obtain⟨j,k,rfl⟩:=List.mem_map.1 (show c∈g.2.map _ from aa)
  rw[h]
  exact afp p (by rw[←aA];exact b.qM g ck j k)
def dq(s:aK):aK:=hC (fK s) (fN (dL s.bo) s.ax.length)
def l6(s:aK):List Int:=fU ((dz s.ax.length).flatMap (jJ s))
def fV(s:aK):aK:=jo (dq s) (fN (l6 (dq s)) s.ai.length)
def lg(s:aK):aK:=
 if eZ s.cb 6=true then h5 (fV s) (fN (fU ((fV s).ai.flatMap hi)) s.aG.length)
 else h5 (dq s) (fN (l6 (dq s)) s.aG.length)
theorem SE{s:aK}(b:hx s):∀x∈(dz s.ax.length).flatMap (jJ s),1<=x/\x<=il s:=by
 intro x af
 obtain⟨p,aj,af⟩:=List.mem_flatMap.1 af
 have h:=wG p aj
 unfold jJ jI at af
 obtain⟨e,g⟩:=List.mem_filter.1 af
 obtain⟨c,aa,rfl⟩:=List.mem_map.1 e
 obtain⟨q,bs⟩:=cQ (show p.toNat<s.ax.length by omega)
 rw[sx bs]at aa
 have:=b.qM q (dH bs) c aa
 rw[fi]at g
 unfold g_ at this
 omega
theorem zc{l:List Int}{n:Nat}(h:∀x∈l,g_ x n):∀x∈fU l,l5 n x:=by
 intro x af
 unfold fU at af
 obtain⟨y,ba,rfl⟩:=List.mem_map.1 af
 obtain⟨h1,h2⟩:=List.mem_filter.1 ba
 rw[fi]at h2
 have:=h y h1
 unfold g_ at this
 unfold l5
 omega
theorem ua{s:aK}(b:hx s):∀x∈l6 s,l5 (il s) x:=zc λx af=>.inr (SE b x af)
theorem Fp{s:aK}(b:hx s):∀x∈s.ai.flatMap hi,g_ x s.aG.length:=λx af=>by
 obtain⟨i,ag,af⟩:=List.mem_flatMap.1 af
 obtain⟨k,ad,rfl⟩:=List.mem_map.1 af
 exact b.keys i ag k ad
theorem JN{s:aK}(b:hx s):∀x∈dL s.bo,l5 s.ax.length x:=λx af=>by
 obtain⟨h1,h2⟩:=(Ff s.bo x).1 af
 exact b.bo x h1 h2
end Go.aN.X
namespace Go.aN.X
open Go.bB Go.aN
attribute [local congr] nf ng nh ni oH se sf tv
theorem zd{h l:U}{f:dN}{ys:List J}{b:Nat}(ba:J.ptr b 0∈ys)(ae:h.length<=b):aL [.ah] h (h++l) [.func f [] ys]=I (.func f [] ys,h++l):=by
 rw[nb]
 simp only[hK,dh,dy,dm]
 unfold trim
 rw[a1]
 ·rfl
 ·intro c
  have:=c.1 _ (List.mem_singleton.2 rfl)
  simp only[bI]at this
  have:=this.2 _ ba
  simp only[bI]at this
  omega
theorem af8(A:aU->J)(s:aK)(vs:List J)(t:aX)(l:U):a_ 13 (.ptr 0 0) (.agg (aW A s)) (.box vs t .rw::l)=(cy vs 0 (aW A s)).map λb_=>.box b_ t .rw::l:=iL rfl (by decide)
theorem af9(A:aU->J)(s:aK)(h:U):aJ 41 [.agg (aW A s)] h=I (.func 94 [] [.ptr h.length 0],h++[.box (aW A s) 27 .rw]):=by
 refine cg (F:=BU) (by kernel_rfl) 1 ?_
 rw[Zn];unfold Nn
 simp only[aS,↓aF,aT]
 exact zd (b:=h.length) (by simp) (ca _)
theorem af_(A:aU->J)(s:aK)(h:U):aJ 46 [.agg (aW A s)] h=I (.func 98 [] [.ptr h.length 0],h++[.box (aW A s) 27 .rw]):=by
 refine cg (F:=BZ) (by kernel_rfl) 1 ?_
 rw[Zs];unfold Ns
 simp only[aS,↓aF,aT]
 exact zd (b:=h.length) (by simp) (ca _)
theorem Mr(k:IntKind)(n:Int):b' (.int k n)=[.int k n]:=b9 rfl
theorem SF(f:dN)(xs ys:List J):b' (.func f xs ys)=[.func f xs ys]:=b9 rfl
theorem af'(n:Nat)(h:U):aJ 44 [.int .i64 n] h=I (.func 97 [] [.ptr h.length 0],h++[.box [.int .i64 n] 3 .rw]):=by
 refine cg (F:=BX) (by kernel_rfl) 1 ?_
 rw[Zq];unfold Nq
 simp only[aS,↓aF,aT,Mr]
 exact zd (b:=h.length) (by simp) (ca _)
theorem SG(f:dN)(ys:List J)(h:U):aJ 42 [.func f [] ys] h=I (.func 95 [] [.ptr h.length 0],h++[.box [.func f [] ys] 77 .rw]):=by
 refine cg (F:=BV) (by kernel_rfl) 1 ?_
 rw[Zo];unfold No
 simp only[aS,↓aF,aT,SF]
 exact zd (b:=h.length) (by simp) (ca _)
theorem aga(A:aU->J)(s:aK)(f:dN)(ys:List J)(h:U):aJ 43 [.agg (aW A s),.func f [] ys] h=I (.func 96 [] [.ptr (h.length+1) 0,.ptr h.length 0],h++[.box (aW A s) 27 .rw,.box [.func f [] ys] 77 .rw]):=by
 refine cg (F:=BW) (by kernel_rfl) 1 ?_
 rw[Zp];unfold Np
 simp only[aS,↓aF,aT,SF]
 exact zd (b:=h.length) (by simp) (ca _)
theorem c2.lower{h au H:U}{A:aU->J}{s:aK}(own:c2 au dM H A s)(av:h.length<=au.length)(aC:∀b,b<h.length->au[b]?=h[b]?):c2 h dM H A s where
 len:=by have:=own.len;omega
 cF:=λb ae=>(own.cF b (by omega)).trans (aC b ae)
 e1:=by
  rw[EW,EX]
  exact⟨λk=>I1 (own.new.e1 k) av,own.new.inj⟩
 rd:=λk ad=>by cases ad
theorem agb{h H:U}(av:h.length<=H.length)(aC:∀b,b<h.length->H[b]?=h[b]?):∃l,H=h++l:=by
 refine⟨H.drop h.length,?_⟩
 have:h=H.take h.length:=by
  refine gn λb=>?_
  by_cases ae:b<h.length
  ·rw[List.getElem?_take_of_lt ae,aC b ae]
  ·rw[e2 (by omega),e2 (by rw[List.length_take];omega)]
 conv=>rhs;lhs;rw[this]
 rw[qW]
theorem SH{h H:U}{A:aU->J}{s:aK}(own:c2 h dM H A s)(n:Int):aL [.agg jf,.ah] h H [.agg (aW A s),.int .i64 n]=I (.tuple [.agg s.cs,.int .i64 n],h):=by
 obtain⟨cx,e,av,aC⟩:=af6 own
 obtain⟨l,rfl⟩:=agb (h:=h) (H:=cx) (by rw[av];exact own.len) (λb ae=>(aC b ae).trans (own.cF b ae))
 have e':hK jf (aW A s) H=I (s.cs,h++l):=e
 refine rl (ws:=[.agg s.cs,.int .i64 n]) (l:=l) ?_ ?_
 ·simp only[i_,j1,yd,e',k3,dy,dm]
 ·intro v aw
  simp only[hk,iu,hR]at aw
  rcases aw with rfl|rfl
  ·simp only[bI]
   intro x af
   simp only[aK.cs,hk,iu,hR]at af
   rcases af with rfl|rfl|rfl|rfl|rfl|rfl|rfl|rfl|rfl|rfl|rfl|rfl|rfl<;>simp only[bI,dj,lB,k8,nn]
  ·simp only[bI]
theorem SI{h au H:U}{A:aU->J}{s:aK}{k:Nat}{vs:List J}(own:c2 au dM H A s)(c:au=h++[.box vs 27 .rw,eu])(ad:H[k]?=I (.box (aW A s) 27 .rw)):
 ab true 13 (.ptr k 0) H=I (.agg (aW A s))/\∃G,a_ 13 (.ptr (h.length+1) 0) (.agg (aW A s)) H=I G/\ab true 13 (.ptr (h.length+1) 0) G=I (.agg (aW A s))/\aL [.agg jf,.ah] h G [.agg (aW A s),.int .i64 0]=I (.tuple [.agg s.cs,.int .i64 0],h):=by
 have av:h.length+2=au.length:=by rw[c];simp
 have cO:H[h.length+1]?=I eu:=by
  rw[own.cF _ (by omega),c,fP];rfl
 have e:a_ 13 (.ptr (h.length+1) 0) (.agg (aW A s)) H=I (H.set (h.length+1) (.box (aW A s) 27 .rw)):=by
  unfold a_
  rw[show(cC (b' (J.agg (aW A s))).length 13&&fD 0 13)=true from rfl]
  simp only[gq,cO]
  show((cy _ 0 (aW A s)).map _)=_
  rw[wm own.rs];rfl
 have g:(H.set (h.length+1) (.box (aW A s) 27 .rw))[h.length+1]?=I (.box (aW A s) 27 .rw):=fr (List.getElem?_eq_some_iff.1 cO).1
 refine⟨jl ad rfl,_,e,jl g rfl,SH ?_ 0⟩
 exact(own.lower (h:=h) (by omega) (λb ae=>by rw[c,cG ae])).box cO (by omega) _
def sQ(s:aK):J:=if((np s).2.2==0)=true then .tuple [.agg (lg s).cs,.int .i64 0]else .tuple [.agg wg.cs,.int .i64 1]
theorem SJ{A cz:aU->J}(s:aK)(h:∀k,iP k=true->A k=cz k):aW A (fK s)=aW cz s:=by
 have h1:=h .bo rfl
 have h2:=h .cw rfl
 have ak:=h .ax rfl
 have aH:=h .aG rfl
 have aM:=h .ai rfl
 unfold aW
 rw[h1,h2,ak,aH,aM];rfl
theorem ze(s:aK)(av:gl s)(h:U):aJ 14 [.agg s.cs] h=I (sQ s,h):=by
 refine cg (F:=Bg) (by kernel_rfl) 1 ?_
 rw[Y6];unfold M3 sQ
 cases aw:((np s).2.2==0)with
 |false=>simp only[aS,↓aF,aT,iB,vI s av,aw,gp,bg,bd,aZ,k5,we,yY _ _ _ _ _ _ _ _ _ _ _ _ _ _ _ _ _ _ _ _ _ yZ,yX,ET]
 |true=>
  have b:=hx.zb (I0 aw)
  obtain⟨au,B⟩:∃au,au=h++[cq.box s.cs 27 .rw,eu]:=⟨_,rfl⟩
  have Y:=B
  unfold eu at Y
  have eY:au.length=h.length+2:=by rw[B];simp
  obtain⟨⟨bU,Q⟩,Z,A1,aL,R,bj⟩:=H3 s (jk s) au (Q_ au s) b.fS.small b.ne
  simp only at aL R
  subst aL
  rw[Q9]at Z
  have n1:=R.len
  obtain⟨k,S⟩:∃k,k=Q.length:=⟨_,rfl⟩
  have bn:=R.app [.box (aW A1 s) 27 .rw]
  have aM:(Q++[cq.box (aW A1 s) 27 .rw])[k]?=I (.box (aW A1 s) 27 .rw):=by rw[S,eQ];rfl
  obtain⟨⟨bV,C⟩,aN,aO,n,aP,aR,bp,AZ⟩:=HX s A1 au _ k 27 bn aM bj b.fS.small
  simp only at aO aP aR AZ
  subst aO
  have ac:=b.fK
  have bq:=SJ s bp
  have aU:C[k]?=I (.box (aW n (fK s)) 27 .rw):=by rw[bq];exact aR _ _ _ _ aM
  have aD:ab true 13 (.ptr k 0) C=I (.agg (aW n (fK s))):=jl aU rfl
  obtain⟨z,D⟩:∃z,z=C++[cq.box (aW n (fK s)) 27 .rw]:=⟨_,rfl⟩
  have ad:c2 au dM z n (fK s):=by rw[D];exact aP.app _
  have aV:z[k]?=I (.box (aW n (fK s)) 27 .rw):=by rw[D];exact fp.app _ _ _ _ _ _ aU
  have ae:=af9 n (fK s) (lock C)
  rw[kl]at ae
  have aE:ab false 1 (.ptr k 10) z=I (n .ax):=eJ aV (kR _ _)
  have af:=fH (ad.rs .ax)
  have br:(ao n (fK s) .ax).length=s.ax.length:=by simp [ao,fK]
  rw[br]at af
  have bt:nt z (.func 94 [] [.ptr C.length 0]) (dL s.bo):=af2 (s:=fK s) (t2:=27) (md2:=.rw) (by rw[D,eQ];rfl) ad.rs b.fS.bo
  have aX:=Fj bt (JN b) b.fS.ax
  have aY:db (fN (dL s.bo) s.ax.length) s.ax.length:=n_ (JN b)
  obtain⟨⟨bW,i⟩,a0,a2,ep,T,E,bu,A2⟩:=afw (s:=fK s) ad aV (by omega) aY ac.fS.small ac.bo
  simp only at a2 T E bu A2
  subst a2
  have bv:hC (fK s) (fN (dL s.bo) s.ax.length)=dq s:=rfl
  rw[bv]at T E
  have cO:hx (dq s):=ac.hC aY
  have sw:(dq s).ax.length=s.ax.length:=kt _ _ _
  have a3:ab true 13 (.ptr k 0) i=I (.agg (aW ep (dq s))):=jl E rfl
  have a4:ab false 1 (.ptr k 10) i=I (ep .ax):=eJ E (kR _ _)
  have ag:=fH (T.rs .ax)
  have bw:(ao ep (dq s) .ax).length=s.ax.length:=by rw[←sw];simp [ao]
  rw[bw]at ag
  have ak:=af' s.ax.length (lock i)
  rw[kl]at ak
  obtain⟨e,A⟩:∃e,e=i++[cq.box [.int .i64 s.ax.length] 3 .rw]:=⟨_,rfl⟩
  have al:=aga ep (dq s) 97 [.ptr i.length 0] e
  obtain⟨q,t⟩:∃q,q=e++[cq.box (aW ep (dq s)) 27 .rw,.box [.func 97 [] [.ptr i.length 0]] 77 .rw]:=⟨_,rfl⟩
  rw[←t]at al
  have am:=SG 96 [.ptr (e.length+1) 0,.ptr e.length 0] q
  obtain⟨g,u⟩:∃g,g=q++[cq.box [.func 96 [] [.ptr (e.length+1) 0,.ptr e.length 0]] 77 .rw]:=⟨_,rfl⟩
  rw[←u]at am
  have H:c2 au dM g ep (dq s):=by rw[u,t,A];exact((T.app _).app _).app _
  have J:g[k]?=I (.box (aW ep (dq s)) 27 .rw):=by rw[u,t,A];exact fp.app _ _ _ _ _ _ (fp.app _ _ _ _ _ _ (fp.app _ _ _ _ _ _ E))
  have bX:e.length=i.length+1:=by rw[A];simp
  have bY:q.length=e.length+2:=by rw[t];simp
  have gr:g[i.length]?=I (.box [.int .i64 s.ax.length] 3 .rw):=by
   rw[u,cG (by omega),t,cG (by omega),A,eQ];rfl
  have bx:g[e.length]?=I (.box (aW ep (dq s)) 27 .rw):=by
   rw[u,cG (by omega),t,eQ];rfl
  have bA:g[e.length+1]?=I (.box [.func 97 [] [.ptr i.length 0]] 77 .rw):=by
   rw[u,cG (by omega),t,fP];rfl
  have bB:g[q.length]?=I (.box [.func 96 [] [.ptr (e.length+1) 0,.ptr e.length 0]] 77 .rw):=by rw[u,eQ];rfl
  have bC:nt g (.func 97 [] [.ptr i.length 0]) (dz (dq s).ax.length):=by rw[sw];exact af4 gr b.fS.ax
  have bD:nt g (.func 96 [] [.ptr (e.length+1) 0,.ptr e.length 0]) ((dz (dq s).ax.length).flatMap (jJ (dq s))):=
   af3 (pv bA) bx H.rs cO.fS.bZ bC (λp aj=>wG p aj)
  have b0:il (dq s)<=70000:=by unfold il;split;exact cO.fS.ai;exact cO.fS.aG
  have a5:nt g (.func 95 [] [.ptr q.length 0]) (l6 (dq s)):=
   SB (pv bB) bD (λp aj=>by have:=SE cO p aj;omega)
  have a6:ab true 13 (.ptr k 0) g=I (.agg (aW ep (dq s))):=jl J rfl
  have a7:=λh=>Sk ep (dq s) h
  have hd:(dq s).cb=s.cb:=rfl
  have a8:(dq s).aG.length=s.aG.length:=rfl
  have V:(dq s).ai.length=s.ai.length:=by show(s.ai.mapIdx _).length=_;rw[ln]
  have a9:a_ 13 (.ptr k 0) (.agg (aW A1 s)) (Q++[cq.box [.str ⟨#[]⟩,.int .i64 0,.int .i64 0,.bc,.int .i64 0,.int .i64 0,.int .i64 0,.int .i64 0,.bool false,.bc,.bc,.bc,.bc] 27 .rw])=I (Q++[cq.box (aW A1 s) 27 .rw]):=by
   rw[S,AU,af8,wm R.rs];rfl
  have a':ab true 13 (.ptr h.length 0) au=I (.agg s.cs):=by rw[B];exact jl (vs:=s.cs) (by rw[eQ];rfl) rfl
  cases bs:eZ s.cb 6 with
  |false=>
   have K:il (dq s)=s.aG.length:=by unfold il;rw[hd,a1 (by rw[bs];decide),a8]
   have jw:lg s=h5 (dq s) (fN (l6 (dq s)) s.aG.length):=by unfold lg;rw[a1 (by rw[bs];decide)]
   have an:ab false 1 (.ptr k 11) g=I (ep .aG):=eJ J (mB _ _)
   have L:=fH (H.rs .aG)
   have ap:(ao ep (dq s) .aG).length=s.aG.length:=by rw[←a8];simp [ao]
   rw[ap]at L
   have M:∀x∈l6 (dq s),l5 s.aG.length x:=by rw[←K];exact ua cO
   have aq:=Fj a5 M b.fS.aG
   have W:db (fN (l6 (dq s)) s.aG.length) (dq s).aG.length:=n_ M
   obtain⟨⟨bE,j⟩,ar,N,l,w,o,ay,az⟩:=Sl (s:=dq s) H J (by omega) W cO.fS (λ_ p aj c aa=>by have:=cO.qM p aj c aa;rwa [K]at this) cO.keys
   simp only at N w o ay az
   subst N
   rw[←jw]at w o
   obtain⟨f1,G,f2,f3,f4⟩:=SI w B o
   simp only[aS,↓aF,aT,a',vI s av,aw,e3,bg,bd,aZ,←Y,Z,←S,a9,aN,aD,ae,rF,←D,aE,af,aX,a0,a3,a4,ag,ak,←A,al,am,a6,a7,hd,Fc,bs,gp,an,L,aq,ar,f1,f2,f3,f4]
  |true=>
   have K:il (dq s)=s.ai.length:=by unfold il;rw[hd,aQ bs,V]
   have jw:lg s=h5 (fV s) (fN (fU ((fV s).ai.flatMap hi)) s.aG.length):=by unfold lg;rw[aQ bs]
   have an:ab false 1 (.ptr k 12) g=I (ep .ai):=eJ J (iD _ _)
   have L:=fH (H.rs .ai)
   have ap:(ao ep (dq s) .ai).length=s.ai.length:=by rw[←V];simp [ao]
   rw[ap]at L
   have M:∀x∈l6 (dq s),l5 s.ai.length x:=by rw[←K];exact ua cO
   have aq:=Fj a5 M b.fS.ai
   have W:db (fN (l6 (dq s)) s.ai.length) (dq s).ai.length:=by rw[V];exact n_ M
   obtain⟨⟨bE,j⟩,ar,N,l,w,o,ay,az⟩:=afG (s:=dq s) H J (by omega) W cO.fS (λp aj c aa=>by have:=cO.qM p aj c aa;rwa [K,←V]at this)
   simp only at N w o ay az
   subst N
   have bF:jo (dq s) (fN (l6 (dq s)) s.ai.length)=fV s:=rfl
   rw[bF]at w o
   have X:hx (fV s):=cO.jo W (by rw[hd];exact bs)
   have ba:(fV s).aG.length=s.aG.length:=rfl
   have bG:(fV s).cb=s.cb:=rfl
   have bH:ab true 13 (.ptr k 0) j=I (.agg (aW l (fV s))):=jl o rfl
   have bb:=af_ l (fV s) (lock j)
   rw[kl]at bb
   obtain⟨y,O⟩:∃y,y=j++[cq.box (aW l (fV s)) 27 .rw]:=⟨_,rfl⟩
   have be:=SG 98 [.ptr j.length 0] (lock y)
   rw[kl]at be
   obtain⟨m,P⟩:∃m,m=y++[cq.box [.func 98 [] [.ptr j.length 0]] 77 .rw]:=⟨_,rfl⟩
   have aA:c2 au dM m l (fV s):=by rw[P,O];exact(w.app _).app _
   have bf:m[k]?=I (.box (aW l (fV s)) 27 .rw):=by rw[P,O];exact fp.app _ _ _ _ _ _ (fp.app _ _ _ _ _ _ o)
   have b1:y.length=j.length+1:=by rw[O];simp
   have bI:m[j.length]?=I (.box (aW l (fV s)) 27 .rw):=by
    rw[P,cG (by omega),O,eQ];rfl
   have bJ:m[y.length]?=I (.box [.func 98 [] [.ptr j.length 0]] 77 .rw):=by rw[P,eQ];rfl
   have bK:nt m (.func 98 [] [.ptr j.length 0]) ((fV s).ai.flatMap hi):=af5 bI aA.rs X.fS
   have aB:∀x∈(fV s).ai.flatMap hi,g_ x s.aG.length:=by rw[←ba];exact Fp X
   have bL:nt m (.func 95 [] [.ptr y.length 0]) (fU ((fV s).ai.flatMap hi)):=
    SB (pv bJ) bK (λp aj=>by have:=aB p aj;have:=b.fS.aG;unfold g_ at *;omega)
   have bM:ab false 1 (.ptr k 11) m=I (l .aG):=eJ bf (mB _ _)
   have bh:=fH (aA.rs .aG)
   have bN:(ao l (fV s) .aG).length=s.aG.length:=by rw[←ba];simp [ao]
   rw[bN]at bh
   have bP:=Fj bL (zc aB) b.fS.aG
   have bQ:db (fN (fU ((fV s).ai.flatMap hi)) s.aG.length) (fV s).aG.length:=n_ (zc aB)
   obtain⟨⟨b2,b3⟩,bR,bi,b4,aH,aI,bS,bT⟩:=Sl (s:=fV s) aA bf (by omega) bQ X.fS (λaC=>by rw[bG,bs]at aC;cases aC) X.keys
   simp only at bi aH aI bS bT
   subst bi
   rw[←jw]at aH aI
   obtain⟨f1,G,f2,f3,f4⟩:=SI aH B aI
   simp only[aS,↓aF,aT,a',vI s av,aw,e3,bg,bd,aZ,←Y,Z,←S,a9,aN,aD,ae,rF,←D,aE,af,aX,a0,a3,a4,ag,ak,←A,al,am,a6,a7,hd,Fc,bs,an,L,aq,ar,bH,bb,←O,be,←P,bM,bh,bP,bR,f1,f2,f3,f4]
theorem SK{h l:U}{sz n:Nat}{t:aX}{rows:List (List J)}{row:List J}(aA:n=rows.length)(az:0<sz)(aj:row.all dd=true)(hm:n<da):
 ek t sz (.ref h.length 0 n n sz) (.bz sz [row]) (h++.log rows sz t .rw::l)=I (.ref h.length 0 (n+1) (n+1) sz,h++.log (rows++[row]) sz t .rw::l):=by
 subst aA
 exact vt (k:=0) (l:=.log rows sz t .rw::l) rfl az aj hm
theorem lh(v w:J):aI [v,w] 1=w:=b9 rfl
structure jK(H cx:U)(sz:Nat)(t:aX)(rows:List (List J))(u:J):Prop where
 pre:∃l,cx=H++l
 e1:cU cx H.length sz t u rows
 nil:rows=[]->u=.emp/\cx=H
 ref:rows≠[]->∃b,u=.ref b 0 rows.length rows.length sz/\H.length<=b
theorem jK.mk'(H:U)(sz:Nat)(t:aX)(rows:List (List J)):jK H (H++cj sz t rows) sz t rows (bQ H.length sz rows):=by
 refine⟨⟨_,rfl⟩,y1 H sz t rows,λe=>?_,λe=>⟨H.length,?_,ca _⟩⟩
 ·subst e;exact⟨rfl,fu _⟩
 ·unfold bQ
  rw[a1 (λh=>e (gy h))]
theorem jK.le{H cx:U}{sz:Nat}{t:aX}{rows:List (List J)}{u:J}(n:jK H cx sz t rows u):H.length<=cx.length:=by
 obtain⟨l,rfl⟩:=n.pre
 simp
theorem jK.same{H cx:U}{sz:Nat}{t:aX}{rows:List (List J)}{u:J}(n:jK H cx sz t rows u){b:Nat}(ae:b<H.length):cx[b]?=H[b]?:=by
 obtain⟨l,rfl⟩:=n.pre
 exact cG ae
theorem iC.jB{K:Type}[DecidableEq K]{h h':U}{base:Nat}{sz:K->Nat}{ty:K->aX}{A:K->J}{R:K->List (List J)}(o:iC h base sz ty A R)(ae:base<=h.length)(k:K){rows:List (List J)}{u:J}(n:jK h h' (sz k) (ty k) rows u):iC h' base sz ty (bK A k u) (bK R k rows):=by
 have ha:∀b,jD u=I b->h.length<=b:=λb ae=>(k9 n.e1 ae).1
 constructor
 ·intro b4
  by_cases ad:b4=k
  ·subst ad
   rw[fm,fm]
   exact I1 n.e1 ae
  ·rw[cA _ _ ad,cA _ _ ad]
   exact ji (o.e1 b4) λb _ ae=>n.same ae
 ·intro bt bG b h1 h2
  by_cases aD:bt=k
  ·subst aD
   rw[fm]at h1
   by_cases aE:bG=bt
   ·exact aE.symm
   ·rw[cA _ _ aE]at h2
    have:=(k9 (o.e1 bG) h2).2.1
    have:=ha _ h1
    omega
  ·rw[cA _ _ aD]at h1
   by_cases aE:bG=k
   ·subst aE
    rw[fm]at h2
    have:=(k9 (o.e1 bt) h1).2.1
    have:=ha _ h2
    omega
   ·rw[cA _ _ aE]at h2
    exact o.inj _ _ _ h1 h2
theorem vM{h:U}{v:J}{rows:List (List J)}(r:dG h 1 v rows)(aj:rows.flatten.all dd=true)(hm:rows.length<=da):aJ 35 [v] h=I (bQ h.length 1 rows,h++cj 1 3 rows):=by
 refine cg (F:=BJ) (by kernel_rfl) 1 ?_
 rw[Zi];unfold Ng
 simp only[k' (lD r) (by decide) aj hm,bY,sG]
def n'(n:Nat)(e:bJ)(rows:List (List J)):U:=if rows.length=0 then []else [.box (fI e (bQ (n+2) 2 rows)) 55 .rw,.box (fI e (bQ (n+2) 2 rows)) 55 .rw,.log rows 2 120 .rw]
theorem jK.env(H:U)(e:bJ)(rows:List (List J)):jK H (H++n' H.length e rows) 2 120 rows (bQ (H.length+2) 2 rows):=by
 refine⟨⟨_,rfl⟩,?_,λh=>?_,λh=>⟨H.length+2,?_,by omega⟩⟩
 ·by_cases bq:rows.length=0
  ·rw[gy bq];exact .emp
  ·unfold bQ n'
   rw[a1 bq,a1 bq]
   exact .ref _ _ _ (by omega) (by rw[fP];rfl) rfl
 ·subst h;exact⟨rfl,fu _⟩
 ·unfold bQ
  rw[a1 (λh'=>h (gy h'))]
theorem Fq{e:bJ}{p:J}(h:dd p=true):(fI e p).all dd=true:=by simp only[fI,List.all_cons,List.all_nil,h,jt,hn];rfl
theorem agc(e:bJ)(p:J):(fI e p)[1]?=I p:=b9 rfl
theorem agd(e:bJ)(p:J)(n sz:Nat)(rows:List (List J)):cy (fI e p) 1 [bQ n sz rows]=I (fI e (bQ n sz rows)):=oU _ _ _ (show 1<8 by decide)
theorem age(e:bJ)(p:J)(vs:List J)(t:aX)(l:U):a_ 8 (.ptr 0 0) (.agg (fI e p)) (.box vs t .rw::l)=(cy vs 0 (fI e p)).map λb_=>.box b_ t .rw::l:=iL rfl (by decide)
theorem agf(e:bJ)(p a b c d f g i j:J)(aj:dd p=true):cy [a,b,c,d,f,g,i,j] 0 (fI e p)=I (fI e p):=hN rfl (Fq aj)
theorem agh(e:bJ)(p:J):eT true 0 8 (fI e p)=I (.agg (fI e p)):=fQ rfl
theorem JO{h:U}(e:bJ){v:J}{rows:List (List J)}(r:dG h 2 v rows)(aj:rows.flatten.all dd=true)(hm:rows.length<=da):aJ 36 [.agg (fI e v)] h=I (.agg (fI e (bQ (h.length+2) 2 rows)),h++n' h.length e rows):=by
 refine cg (F:=BK) (by kernel_rfl) 1 ?_
 rw[Zj];unfold Nh
 have ap:∀X,ek 120 2 .emp v (h++X)=I (bQ (h++X).length 2 rows,h++X++cj 2 120 rows):=λX=>k' (lD (h4 r X)) (by decide) aj hm
 simp only[aS,↓aF,aT,agc,ap,I5,agd,agh,age,agf e _ _ _ _ _ _ _ _ _ (Q8 _ _ _)]
 rw[nb]
 simp only[hK,dh,dy,dm]
 by_cases bq:rows.length=0
 ·have aD:cj 2 120 rows=[]:=by unfold cj;rw[aQ bq]
  have aE:bQ (h.length+2) 2 rows=.emp:=by unfold bQ;rw[aQ bq]
  have b:n' h.length e rows=[]:=by unfold n';rw[aQ bq]
  rw[aD,aE,b,fu]
  rw[pw _ (λx af=>by
   rw[hl]at af;subst af
   exact j2 rfl)]
  rfl
 ·have aD:cj 2 120 rows=[.log rows 2 120 .rw]:=by unfold cj;rw[a1 bq]
  have aE:bQ (h.length+2) 2 rows=.ref (h.length+2) 0 rows.length rows.length 2:=by unfold bQ;rw[a1 bq]
  have b:n' h.length e rows=[.box (fI e (bQ (h.length+2) 2 rows)) 55 .rw,.box (fI e (bQ (h.length+2) 2 rows)) 55 .rw,.log rows 2 120 .rw]:=by unfold n';rw[a1 bq]
  rw[aD,b,aE]
  unfold trim
  rw[a1]
  ·rfl
  ·intro c
   have:=c.1 _ (List.mem_singleton.2 rfl)
   simp only[bI]at this
   have:=this (.ref (h.length+2) 0 rows.length rows.length 2) (by simp [fI])
   simp only[bI]at this
   omega
theorem agi{N:Nat}{h b H:U}{A e8 cz:aU->J}{s:aK}{n:J}{j:List J->U->bh}{i:Nat}{p:eD}(o:kP s)(aj:s.ax[i]?=I p)(aw:n=.int .i64 s.ax.length)
 (c:ih h (ks i) H A e8 s) (q:cU b h.length 2 39 (e8 .ax) (ao cz s .ax)) (B:∀x∈(ao cz s .ax).flatten,bI b.length x) (C:b.length<=H.length) (G:h.length<=b.length) (dL:Nm b.length H (ao A s .ax)):
 ∃cx u,ih h (ks (i+1)) cx u e8 s/\Nm b.length cx (ao u s .ax)/\b.length<=cx.length/\
  ∀K,Bf aJ N (.ptr h.length 0) b n j K [.int .i64 (i:Int)] H=K [.int .i64 ((i+1:Nat):Int)] cx:=by
 subst aw
 have w:=(List.getElem?_eq_some_iff.1 aj).1
 have m:=qH (A:=A) aj
 have ad:ks i (.bZ i)=false:=by simp [ks]
 have hd:cc s (.bZ i)=true:=by simp [cc,w]
 obtain⟨st,g⟩:=c.child .ax (.bZ i) rfl ad rfl hd m (Rm p _ _ _ _) (E0 aj _) (λk ad=>Ro _ k ad)
 rw[Ri]at g
 have rs:=c.own.rs
 have t5:A .ax=e8 .ax:=c.top .ax rfl
 have D:∀c n1 n2 n3 n4,(e7 p (A (.bZ i)))[1]?=I (J.ref c n1 n2 n3 n4)->c<b.length:=λg n1 n2 n3 n4 e=>by
  rw[qI]at e
  have:=rB (c.own.rd (.bZ i) ad)
  rw[jR e]at this
  simp only[bI]at this
  omega
 have l:=Nm.step (t:=41) C dL m (row':=e7 p (bQ H.length 6 (ao A s (.bZ i)))) (f:=1) rfl (show 1<2 by decide) D
 rw[←E0 aj]at l
 refine⟨_,_,g,?_,?_,λK=>?_⟩
 ·unfold Nm at l|-
  rw[eI];exact l
 ·rw[eI,dW];omega
 ·have az:i<9223372036854775807:=by
   have:=o A .ax
   simp only[ao,ln]at this
   omega
  have y:=g.own.at (k:=.ax) rfl
  rw[cA _ _ (show aU.ax≠aU.bZ i from λe=>by cases e)]at y
  rw[←t5]at q
  have z:=mA (h1:=b) (roots:=[.int .i64 ((i+1:Nat):Int)]) y q B (by
   unfold Nm at l
   rw[eI];exact l)
  have aD:ab false 1 (.ptr h.length 10) H=I (A .ax):=eJ c.cd (kR A s)
  have aE:=eW (rs .ax) .i64 m
  have E:ab false 1 (c' (A .ax) (e7 p (A (.bZ i))) i 1) H=I (A (.bZ i)):=(e0 (rs .ax) m _ _ _).trans (qI _ _)
  have F:ek 41 6 .emp (A (.bZ i)) H=I (bQ H.length 6 (ao A s (.bZ i)),H++cj 6 41 (ao A s (.bZ i))):=k' (lD (rs (.bZ i))) (by decide) (rs.one (.bZ i)) (o.gz A (.bZ i))
  unfold Bf
  simp only[dS,gZ]at aE st z g|-
  simp only[aS,↓aF,aT,cL w,cm,aZ,aD,aE,iO,E,E9,jt,kn,F,st,cI az]
  exact cV (K _) z
theorem agj{N:Nat}{h b H:U}{A e8 cz:aU->J}{s:aK}{n:J}{j:List J->U->bh}{i:Nat}{p:eS}(o:kP s)(aj:s.aG[i]?=I p)(aw:n=.int .i64 s.aG.length)
 (c:ih h (lb s i) H A e8 s) (q:cU b h.length 13 43 (e8 .aG) (ao cz s .aG)) (B:∀x∈(ao cz s .aG).flatten,bI b.length x) (C:b.length<=H.length) (G:h.length<=b.length) (dL:Nm b.length H (ao A s .aG)):
 ∃cx u,ih h (lb s (i+1)) cx u e8 s/\Nm b.length cx (ao u s .aG)/\b.length<=cx.length/\
  ∀K,Be aJ N (.ptr h.length 0) b n j K [.int .i64 (i:Int)] H=K [.int .i64 ((i+1:Nat):Int)] cx:=by
 subst aw
 have w:=(List.getElem?_eq_some_iff.1 aj).1
 have m:=y2 (A:=A) aj
 have ad:lb s i (.cp i)=false:=by simp [lb]
 have hd:cc s (.cp i)=true:=by simp [cc,w]
 obtain⟨st,g⟩:=c.child .aG (.cp i) rfl ad rfl hd m (Rn p _ _ _ _) (E1 aj _) (λk ad=>Rp _ k ad)
 rw[Rk]at g
 have rs:=c.own.rs
 have t5:A .aG=e8 .aG:=c.top .aG rfl
 have D:∀c n1 n2 n3 n4,(kO p (A (.cp i)))[1]?=I (J.ref c n1 n2 n3 n4)->c<b.length:=λg n1 n2 n3 n4 e=>by
  rw[EZ]at e
  have:=rB (c.own.rd (.cp i) ad)
  rw[jR e]at this
  simp only[bI]at this
  omega
 have l:=Nm.step (t:=3) C dL m (row':=kO p (bQ H.length 1 (ao A s (.cp i)))) (f:=1) rfl (show 1<13 by decide) D
 rw[←E1 aj]at l
 refine⟨_,_,g,?_,?_,λK=>?_⟩
 ·unfold Nm at l|-
  rw[eI];exact l
 ·rw[eI,dW];omega
 ·have az:i<9223372036854775807:=by
   have:=o A .aG
   simp only[ao,ln]at this
   omega
  have y:=g.own.at (k:=.aG) rfl
  rw[cA _ _ (show aU.aG≠aU.cp i from λe=>by cases e)]at y
  rw[←t5]at q
  have z:=mA (h1:=b) (roots:=[.int .i64 ((i+1:Nat):Int)]) y q B (by
   unfold Nm at l
   rw[eI];exact l)
  have aD:ab false 1 (.ptr h.length 11) H=I (A .aG):=eJ c.cd (mB A s)
  have aE:=eW (rs .aG) .i64 m
  have E:ab false 1 (c' (A .aG) (kO p (A (.cp i))) i 1) H=I (A (.cp i)):=(e0 (rs .aG) m _ _ _).trans (EZ _ _)
  have F:aJ 35 [A (.cp i)] (lock H)=I (bQ H.length 1 (ao A s (.cp i)),lock H++cj 1 3 (ao A s (.cp i))):=by
   have:=vM (oR (rs (.cp i))) (rs.one (.cp i)) (o.gz A (.cp i))
   rwa [kl]at this
  unfold Be
  simp only[dS,gZ]at aE st z g|-
  simp only[aS,↓aF,aT,cL w,cm,aZ,aD,aE,iO,E,F,rF,st,cI az]
  exact cV (K _) z
theorem agk{h H G K L y:U}{A e8:aU->J}{s:aK}{i n:Nat}{x:c1}{l m up o:J}(aj:s.ai[i]?=I x)(c:ih h (gO s i) H A e8 s)(ab:h.length<=n)(D:n<=H.length)(dL:Nm n H (ao A s .ai))
 (n1:jK H G 2 89 (ao A s (.key i)) l) (n2:jK G K 2 120 (ao A s (.bm i)) m) (n3:jK K L 2 120 (ao A s (.bk i)) up) (n4:jK L y 2 120 (ao A s (.bl i)) o):
 ∃g,ih h (gO s (i+1)) (wr y (A .ai) 33 57 ((ao A s .ai).set i (bT x l m up o))) g e8 s/\Nm n (wr y (A .ai) 33 57 ((ao A s .ai).set i (bT x l m up o))) (ao g s .ai)/\n<=(wr y (A .ai) 33 57 ((ao A s .ai).set i (bT x l m up o))).length:=by
 have ac:=(List.getElem?_eq_some_iff.1 aj).1
 have br:i<(ao A s .ai).length:=by simp [ao,ac]
 have aB:=n1.le
 have aC:=n2.le
 have aF:=n3.le
 have aI:=n4.le
 have af:=c.own.len
 have bu:=c.own.e1.jB af (.key i) n1
 have cP:=bu.jB (by omega) (.bm i) n2
 have ag:=cP.jB (by omega) (.bk i) n3
 have M:=ag.jB (by omega) (.bl i) n4
 have N:nr (gO s i) A .ai=A .ai:=rfl
 have O:la (gO s i) (ao A s) .ai=ao A s .ai:=rfl
 have P:=M.wr .ai (rows:=(ao A s .ai).set i (bT x l m up o)) (by
  rw[ir,cA _ _ (by simp),cA _ _ (by simp),cA _ _ (by simp),cA _ _ (by simp),O])
 rw[cA _ _ (show aU.ai≠aU.bl i by simp),cA _ _ (show aU.ai≠aU.bk i by simp),cA _ _ (show aU.ai≠aU.bm i by simp),cA _ _ (show aU.ai≠aU.key i by simp),N]at P
 have Q:cU y h.length 33 57 (A .ai) (ao A s .ai):=by
  have:=M.e1 .ai
  rw[cA _ _ (show aU.ai≠aU.bl i by simp),cA _ _ (show aU.ai≠aU.bk i by simp),cA _ _ (show aU.ai≠aU.bm i by simp),cA _ _ (show aU.ai≠aU.key i by simp),N,
   cA _ _ (show aU.ai≠aU.bl i by simp),cA _ _ (show aU.ai≠aU.bk i by simp),cA _ _ (show aU.ai≠aU.bm i by simp),cA _ _ (show aU.ai≠aU.key i by simp),O]at this
  exact this
 have R:∀b,b<H.length->y[b]?=H[b]?:=λb ae=>by rw[n4.same (by omega),n3.same (by omega),n2.same (by omega),n1.same ae]
 obtain⟨g,B⟩:∃g,g=bK (bK (bK (bK A (.key i) l) (.bm i) m) (.bk i) up) (.bl i) o:=⟨_,rfl⟩
 have mu:ao g s .ai=(ao A s .ai).set i (bT x l m up o):=by
  rw[B]
  exact pQ aj (λj b _ al=>by simp [bK,al]) (by simp [bK])
 have p:∀k,k≠.ai->ao g s k=ao A s k:=λk ad=>by
  rw[B,Ry _ k ad,I8 _ k ad,I7 _ k ad,I6 _ k ad]
 have u:∀k,k≠.key i->k≠.bm i->k≠.bk i->k≠.bl i->g k=A k:=λk h1 h2 ak aH=>by
  rw[B,cA _ _ aH,cA _ _ ak,cA _ _ h2,cA _ _ h1]
 have S:g (.key i)=l:=by rw[B];simp [bK]
 have T:g (.bm i)=m:=by rw[B];simp [bK]
 have ap:g (.bk i)=up:=by rw[B];simp [bK]
 have V:g (.bl i)=o:=by rw[B];simp [bK]
 have W:∀k,gO s (i+1) k=true->gO s i k=true\/k=.key i\/k=.bm i\/k=.bk i\/k=.bl i:=λk ad=>by
  cases k<;>simp only[gO,fi]at ad|-<;> first|exact .inl ad|(simp only[aU.key.injEq,aU.bm.injEq,aU.bk.injEq,aU.bl.injEq,reduceCtorEq,false_or,hR];omega)
 have am:∀k,gO s (i+1) k=false->gO s i k=false:=λk ad=>by
  cases k<;>simp only[gO,h7]at ad|-<;> first|exact ad|omega
 have X:∀{b:Nat} {vs:List J} {t:aX} {md:eg},H[b]?=I (.box vs t md)->(wr y (A .ai) 33 57 ((ao A s .ai).set i (bT x l m up o)))[b]?=I (.box vs t md):=λe=>
  j8 Q (by rw[R _ (List.getElem?_eq_some_iff.1 e).1];exact e)
 have aq:aW g s=aW A s:=by
  unfold aW
  rw[u .bo (by simp) (by simp) (by simp) (by simp),u .cw (by simp) (by simp) (by simp) (by simp),u .ax (by simp) (by simp) (by simp) (by simp),u .aG (by simp) (by simp) (by simp) (by simp),u .ai (by simp) (by simp) (by simp) (by simp)]
 refine⟨g,⟨c.own.of P (by rw[eI];omega) (λb ae=>by rw[rE Q ae,R _ (by omega)]) (λk ad=>?_) (λk ad=>?_),by rw[aq];exact X c.cd,X c.cO,λk ad=>?_,λk ad=>?_,λk ad an=>?_⟩,?_,by rw[eI];omega⟩
 ·by_cases aD:k=.bl i
  ·subst aD
   rw[fm,cA _ _ (by simp),fm,V,p _ (by simp)];exact⟨rfl,rfl⟩
  by_cases aE:k=.bk i
  ·subst aE
   rw[cA _ _ aD,fm,cA _ _ (by simp),cA _ _ aD,fm,ap,p _ (by simp)];exact⟨rfl,rfl⟩
  by_cases q:k=.bm i
  ·subst q
   rw[cA _ _ aD,cA _ _ aE,fm,cA _ _ (by simp),cA _ _ aD,cA _ _ aE,fm,T,p _ (by simp)];exact⟨rfl,rfl⟩
  by_cases w:k=.key i
  ·subst w
   rw[cA _ _ aD,cA _ _ aE,cA _ _ q,fm,cA _ _ (by simp),cA _ _ aD,cA _ _ aE,cA _ _ q,fm,S,p _ (by simp)];exact⟨rfl,rfl⟩
  have C:gO s i k=true:=by
   rcases W k ad with h|h|h|h|h
   ·exact h
   ·exact absurd h w
   ·exact absurd h q
   ·exact absurd h aE
   ·exact absurd h aD
  rw[cA _ _ aD,cA _ _ aE,cA _ _ q,cA _ _ w,u k w q aE aD]
  refine⟨by unfold nr;rw[aQ C],?_⟩
  by_cases z:k=.ai
  ·subst z
   rw[fm,mu]
  ·rw[cA _ _ z,cA _ _ aD,cA _ _ aE,cA _ _ q,cA _ _ w,p k z]
   unfold la;rw[aQ C]
 ·have z:k≠.ai:=λe=>by rw[e]at ad;cases ad
  refine⟨am k ad,u k ?_ ?_ ?_ ?_,p k z⟩<;>(intro e;rw[e]at ad;simp [gO]at ad)
 ·rw[u k (λe=>by rw[e]at ad;cases ad) (λe=>by rw[e]at ad;cases ad) (λe=>by rw[e]at ad;cases ad) (λe=>by rw[e]at ad;cases ad)]
  exact c.top k ad
 ·rw[u k ?_ ?_ ?_ ?_]
  ·exact c.out k ad
  all_goals (intro e;rw[e]at ad;simp [cc]at ad;omega)
 ·by_cases aD:k=.bl i
  ·subst aD;rw[p _ (by simp)]at an;rw[V];exact(n4.nil an).1
  by_cases aE:k=.bk i
  ·subst aE;rw[p _ (by simp)]at an;rw[ap];exact(n3.nil an).1
  by_cases q:k=.bm i
  ·subst q;rw[p _ (by simp)]at an;rw[T];exact(n2.nil an).1
  by_cases w:k=.key i
  ·subst w;rw[p _ (by simp)]at an;rw[S];exact(n1.nil an).1
  have C:gO s i k=true:=by
   rcases W k ad with h|h|h|h|h
   ·exact h
   ·exact absurd h w
   ·exact absurd h q
   ·exact absurd h aE
   ·exact absurd h aD
  rw[u k w q aE aD]
  by_cases z:k=.ai
  ·subst z
   rw[mu]at an
   have:=cV List.length an
   rw[ir]at this
   exact c.emp _ C (gy this)
  ·rw[p k z]at an
   exact c.emp k C an
 ·rw[mu]
  have E:∀v,v∈bT x l m up o->v∈((ao A s .ai).set i (bT x l m up o)).flatten:=λv aw=>List.mem_flatten.2 ⟨_,List.mem_iff_getElem?.2 ⟨i,fr br⟩,aw⟩
  by_cases Y:ao A s (.key i)=[]
  ·by_cases Z:ao A s (.bm i)=[]
   ·by_cases z3:ao A s (.bk i)=[]
    ·by_cases z4:ao A s (.bl i)=[]
     ·obtain⟨ar,au⟩:=n1.nil Y
      obtain⟨cO,av⟩:=n2.nil Z
      obtain⟨cR,d'⟩:=n3.nil z3
      obtain⟨d1,ay⟩:=n4.nil z4
      have az:y=H:=by rw[ay,d',av,au]
      subst ar cO cR d1
      rw[az]
      have aA:=kQ (A:=A) aj
      have F:∀k,gO s i k=false->∀aa m1 m2 m3 m4,I (A k)=I (J.ref aa m1 m2 m3 m4)->aa<n:=λk ad=>y3 (c.own.rd k ad) ab rfl
      have m1:=Nm.step (t:=89) (sz:=2) (r:=[]) D dL aA (row':=bT x .emp (A (.bm i)) (A (.bk i)) (A (.bl i))) (f:=1) rfl (show 1<33 by decide) (by rw[jE];exact F _ (by simp [gO]))
      have em:cj 2 89 ([]:List (List J))=[]:=rfl
      rw[em,fu]at m1
      have m2:=Nm.step (t:=89) (sz:=2) (r:=[]) D m1 (fr br) (row':=bT x .emp .emp (A (.bk i)) (A (.bl i))) (f:=3) rfl (show 3<33 by decide) (by rw[E2];exact F _ (by simp [gO]))
      rw[em,fu,kY]at m2
      have m3:=Nm.step (t:=89) (sz:=2) (r:=[]) D m2 (fr br) (row':=bT x .emp .emp .emp (A (.bl i))) (f:=11) rfl (show 11<33 by decide) (by rw[E3];exact F _ (by simp [gO]))
      rw[em,fu,kY]at m3
      have m4:=Nm.step (t:=89) (sz:=2) (r:=[]) D m3 (fr br) (row':=bT x .emp .emp .emp .emp) (f:=19) rfl (show 19<33 by decide) (by rw[E4];exact F _ (by simp [gO]))
      rw[em,fu,kY]at m4
      exact m4.wr _ _ _ _
     ·obtain⟨b,e,ae⟩:=n4.ref z4
      exact .inr ⟨b,0,_,_,2,E _ (by rw[←e];exact List.mem_iff_getElem?.2 ⟨19,E4 _ _ _ _ _⟩),by omega⟩
    ·obtain⟨b,e,ae⟩:=n3.ref z3
     exact .inr ⟨b,0,_,_,2,E _ (by rw[←e];exact List.mem_iff_getElem?.2 ⟨11,E3 _ _ _ _ _⟩),by omega⟩
   ·obtain⟨b,e,ae⟩:=n2.ref Z
    exact .inr ⟨b,0,_,_,2,E _ (by rw[←e];exact List.mem_iff_getElem?.2 ⟨3,E2 _ _ _ _ _⟩),by omega⟩
  ·obtain⟨b,e,ae⟩:=n1.ref Y
   exact .inr ⟨b,0,_,_,2,E _ (by rw[←e];exact List.mem_iff_getElem?.2 ⟨1,jE _ _ _ _ _⟩),by omega⟩
theorem JP{H c G:U}{base sz i f:Nat}{t:aX}{v u:J}{rows R:List (List J)}{row row':List J}(n:jK H c sz t rows u)(o:cU H base 33 57 v R)(h:R[i]?=I row)(g:∀b,b<c.length->G[b]?=c[b]?):iX u (c' v row' i f) G=true:=by
 cases o with
 |emp=>cases h
 |ref bf m _ p e' j=>
  subst j
  by_cases bq:rows=[]
  ·rw[(n.nil bq).1];rfl
  ·obtain⟨b,e,ae⟩:=n.ref bq
   have h1:=(k9 n.e1 (b:=b) (by rw[e];rfl))
   have k:=(List.getElem?_eq_some_iff.1 e').1
   have cE:G[b]?=I (.log rows sz t .rw):=by rw[g _ h1.2.1];exact h1.2.2
   have cD:G[bf]?=I (.log R 33 57 .rw):=by rw[g _ (by have:=n.le;omega),n.same k];exact e'
   rw[e]
   show iX (.ref b 0 rows.length rows.length sz) (.gB bf i f R.length 33) G=true
   unfold iX
   simp only[cE,cD,Nat.beq_refl,hn,nA]
   have l:b≠bf:=by omega
   cases bs:cC b bf with
   |false=>rfl
   |true=>exact absurd (Nat.eq_of_beq_eq_true bs) l
theorem agl(x:c1)(k v p q:J):eT true 2 8 (bT x k v p q)=I (.agg (fI x.bm v)):=b9 rfl
theorem agm(x:c1)(k v p q:J):eT true 10 8 (bT x k v p q)=I (.agg (fI x.bk p)):=b9 rfl
theorem agn(x:c1)(k v p q:J):eT true 18 8 (bT x k v p q)=I (.agg (fI x.bl q)):=b9 rfl
theorem ago(x:c1)(k v p q w:J)(b0:dd w=true):cy (bT x k v p q) 2 (fI x.bm w)=I (bT x k w p q):=by
 unfold cy
 rw[aQ ⟨rO rfl,Fq b0⟩];rfl
theorem agp(x:c1)(k v p q w:J)(b0:dd w=true):cy (bT x k v p q) 10 (fI x.bk w)=I (bT x k v w q):=by
 unfold cy
 rw[aQ ⟨rO rfl,Fq b0⟩];rfl
theorem agq(x:c1)(k v p q w:J)(b0:dd w=true):cy (bT x k v p q) 18 (fI x.bl w)=I (bT x k v p w):=by
 unfold cy
 rw[aQ ⟨rO rfl,Fq b0⟩];rfl
theorem agr{N:Nat}{h p H:U}{A e8 cz:aU->J}{s:aK}{R:J}{j:List J->U->bh}{i:Nat}{x:c1}(S:kP s)(aj:s.ai[i]?=I x)(aw:R=.int .i64 s.ai.length)
 (c:ih h (gO s i) H A e8 s) (ac:cU p h.length 33 57 (e8 .ai) (ao cz s .ai)) (ad:∀x∈(ao cz s .ai).flatten,bI p.length x) (af:p.length<=H.length) (ag:h.length<=p.length) (dL:Nm p.length H (ao A s .ai)):
 ∃cx u,ih h (gO s (i+1)) cx u e8 s/\Nm p.length cx (ao u s .ai)/\p.length<=cx.length/\
  ∀K,Bd aJ N (.ptr h.length 0) p R j K [.int .i64 (i:Int)] H=K [.int .i64 ((i+1:Nat):Int)] cx:=by
 subst aw
 have M:=(List.getElem?_eq_some_iff.1 aj).1
 have o:=kQ (A:=A) aj
 have rs:=c.own.rs
 have w:cU H h.length 33 57 (A .ai) (ao A s .ai):=c.own.at (k:=.ai) rfl
 obtain⟨m,y⟩:∃m,m=bQ H.length 2 (ao A s (.key i)):=⟨_,rfl⟩
 obtain⟨e,z⟩:∃e,e=H++cj 2 89 (ao A s (.key i)):=⟨_,rfl⟩
 obtain⟨q,T⟩:∃q,q=bQ (e.length+2) 2 (ao A s (.bm i)):=⟨_,rfl⟩
 obtain⟨g,B⟩:∃g,g=e++n' e.length x.bm (ao A s (.bm i)):=⟨_,rfl⟩
 obtain⟨up,V⟩:∃up,up=bQ (g.length+2) 2 (ao A s (.bk i)):=⟨_,rfl⟩
 obtain⟨l,C⟩:∃l,l=g++n' g.length x.bk (ao A s (.bk i)):=⟨_,rfl⟩
 obtain⟨t,W⟩:∃t,t=bQ (l.length+2) 2 (ao A s (.bl i)):=⟨_,rfl⟩
 obtain⟨D,O⟩:∃D,D=l++n' l.length x.bl (ao A s (.bl i)):=⟨_,rfl⟩
 have n1:jK H e 2 89 (ao A s (.key i)) m:=by rw[z,y];exact jK.mk' _ _ _ _
 have n2:jK e g 2 120 (ao A s (.bm i)) q:=by rw[B,T];exact jK.env _ _ _
 have n3:jK g l 2 120 (ao A s (.bk i)) up:=by rw[C,V];exact jK.env _ _ _
 have n4:jK l D 2 120 (ao A s (.bl i)) t:=by rw[O,W];exact jK.env _ _ _
 obtain⟨u,P,X,ak⟩:=agk aj c ag af dL n1 n2 n3 n4
 refine⟨_,u,P,X,ak,λK=>?_⟩
 have az:i<9223372036854775807:=by
  have:=S A .ai
  have br:i<(ao A s .ai).length:=by simp [ao,M]
  omega
 have t5:u .ai=e8 .ai:=P.top .ai rfl
 have Y:=P.own.at (k:=.ai) rfl
 rw[t5]at Y
 have al:=mA (h1:=p) (roots:=[.int .i64 ((i+1:Nat):Int)]) Y ac ad X
 have E:∀k,(ao A s k).length<=da:=λk=>S.gz A k
 have F:∀k,(ao A s k).flatten.all dd=true:=λk=>rs.one k
 have bH:∀k,dG e (dS k) (A k) (ao A s k):=λk=>by rw[z];exact h4 (rs k) _
 have b1:∀k,dG g (dS k) (A k) (ao A s k):=λk=>by rw[B];exact h4 (bH k) _
 have c8:∀k,dG l (dS k) (A k) (ao A s k):=λk=>by rw[C];exact h4 (b1 k) _
 have L:cU D h.length 33 57 (A .ai) (ao A s .ai):=by
  rw[O,C,B,z]
  exact ji (h':=H++_++_++_++_) w λb _ ae=>by
   rw[cG (by simp only[dW];omega),cG (by simp only[dW];omega),cG (by simp only[dW];omega),cG ae]
 obtain⟨row,aH⟩:∃row,row=bT x (A (.key i)) (A (.bm i)) (A (.bk i)) (A (.bl i)):=⟨_,rfl⟩
 have aD:ab false 1 (.ptr h.length 12) H=I (A .ai):=eJ c.cd (iD A s)
 have aE:=eW (rs .ai) .i64 o
 have am:ab false 1 (c' (A .ai) (bT x (A (.key i)) (A (.bm i)) (A (.bk i)) (A (.bl i))) i 1) H=I (A (.key i)):=(e0 (rs .ai) o _ _ _).trans (jE _ _ _ _ _)
 have bt:ek 89 2 .emp (A (.key i)) H=I (m,e):=by rw[y,z];exact k' (lD (rs (.key i))) (by decide) (F _) (E _)
 have cE:=JP (row':=bT x (A (.key i)) (A (.bm i)) (A (.bk i)) (A (.bl i))) (f:=2) n1 w o (G:=e) (λb _=>rfl)
 have cD:=JP (row':=bT x (A (.key i)) (A (.bm i)) (A (.bk i)) (A (.bl i))) (f:=10) n1 w o (G:=g) (λb ae=>n2.same ae)
 have dE:=JP (row':=bT x (A (.key i)) (A (.bm i)) (A (.bk i)) (A (.bl i))) (f:=18) n1 w o (G:=l) (λb ae=>by rw[n3.same (by have:=n2.le;omega),n2.same ae])
 have c4:ab true 8 (c' (A .ai) (bT x (A (.key i)) (A (.bm i)) (A (.bk i)) (A (.bl i))) i 2) e=I (.agg (fI x.bm (A (.bm i)))):=(e0 (bH .ai) o _ _ _).trans (agl _ _ _ _ _)
 have mr:ab true 8 (c' (A .ai) (bT x (A (.key i)) (A (.bm i)) (A (.bk i)) (A (.bl i))) i 10) g=I (.agg (fI x.bk (A (.bk i)))):=(e0 (b1 .ai) o _ _ _).trans (agm _ _ _ _ _)
 have an:ab true 8 (c' (A .ai) (bT x (A (.key i)) (A (.bm i)) (A (.bk i)) (A (.bl i))) i 18) l=I (.agg (fI x.bl (A (.bl i)))):=(e0 (c8 .ai) o _ _ _).trans (agn _ _ _ _ _)
 have ap:aJ 36 [.agg (fI x.bm (A (.bm i)))] (lock e)=I (.agg (fI x.bm q),lock e++n' e.length x.bm (ao A s (.bm i))):=by
  have:=JO x.bm (oR (bH (.bm i))) (F (.bm i)) (E (.bm i))
  rwa [kl,←T]at this
 have aq:aJ 36 [.agg (fI x.bk (A (.bk i)))] (lock g)=I (.agg (fI x.bk up),lock g++n' g.length x.bk (ao A s (.bk i))):=by
  have:=JO x.bk (oR (b1 (.bk i))) (F (.bk i)) (E (.bk i))
  rwa [kl,←V]at this
 have ar:aJ 36 [.agg (fI x.bl (A (.bl i)))] l=I (.agg (fI x.bl t),l++n' l.length x.bl (ao A s (.bl i))):=by
  have:=JO x.bl (c8 (.bl i)) (F (.bl i)) (E (.bl i))
  rwa [←W]at this
 have br:i<(ao A s .ai).length:=by simp [ao,M]
 have Q:∀(r:List J) f,c' (A .ai) (bT x (A (.key i)) (A (.bm i)) (A (.bk i)) (A (.bl i))) i f=c' (A .ai) r i f:=λr f=>I9 w o _ _ _
 have aI:dd m=true:=kr (fl n1.e1)
 have au:dd q=true:=kr (fl n2.e1)
 have av:dd up=true:=kr (fl n3.e1)
 have ay:dd t=true:=kr (fl n4.e1)
 have dF:b' m=[m]:=aeR (fl n1.e1)
 have Z:=ig L o (n:=1) (x:=m) (f:=1) (by rw[dF];rfl) (by decide) (by rw[dF,y];exact Rq _ _ _ _ _ _ _ _)
 rw[←y]at Z
 have aA:=jj L (rows':=(ao A s .ai).set i (bT x m (A (.bm i)) (A (.bk i)) (A (.bl i)))) (by simp)
 have s1:=ig aA (fr br) (n:=8) (x:=.agg (fI x.bm q)) (f:=2) rfl (by decide) (ago _ _ _ _ _ _ au)
 rw[kY,←Q,k_]at s1
 have aB:=jj L (rows':=(ao A s .ai).set i (bT x m q (A (.bk i)) (A (.bl i)))) (by simp)
 have aa:=ig aB (fr br) (n:=8) (x:=.agg (fI x.bk up)) (f:=10) rfl (by decide) (agp _ _ _ _ _ _ av)
 rw[kY,←Q,k_]at aa
 have aC:=jj L (rows':=(ao A s .ai).set i (bT x m q up (A (.bl i)))) (by simp)
 have kh:=ig aC (fr br) (n:=8) (x:=.agg (fI x.bl t)) (f:=18) rfl (by decide) (agq _ _ _ _ _ _ ay)
 rw[kY,←Q,k_]at kh
 simp only[dS]at aE
 unfold Bd
 simp only[aS,↓aF,aT,cL M,cm,aZ,aD,aE,wj,iO,am,bt,cE,cD,dE,jt,kn,c4,ap,rF,←B,mr,aq,←C,an,ar,←O,Z,s1,aa,kh,cI az]
 exact cV (K _) al
theorem l1(s:aK)(cz:aU->J)(h:U)(aa:fJ h cz s)(m:kP s)(ab:s.ax≠[]):fa (aJ 13 [.agg (aW cz s)] h) (RM h s):=by
 obtain⟨N,aX⟩:∃N:Nat,70000<N:=⟨_,fs _⟩
 rw[←Rf s cz]
 obtain⟨A,M⟩:∃A,A=norm s cz:=⟨_,rfl⟩
 have r:fJ h A s:=by rw[M];exact aa.norm
 have ac:∀k,cc s k=false->A k=.emp:=λk ad=>by rw[M];exact Rg cz ad
 rw[←M]
 refine fa.body (F:=Bc) (by kernel_rfl) N ?_
 rw[Y5];unfold M1
 have hm:∀k,(ao A s k).length<=da:=λk=>m.gz A k
 have f3:∀X,aJ 35 [A .bo] (lock (h++X))=I (bQ (h++X).length 1 (ao A s .bo),lock (h++X)++cj 1 3 (ao A s .bo)):=λX=>by
  have:=vM (oR (h4 (r .bo) X)) (r.one _) (hm _)
  rwa [kl]at this
 have f9:∀X,aJ 35 [A .cw] (h++X)=I (bQ (h++X).length 1 (ao A s .cw),(h++X)++cj 1 3 (ao A s .cw)):=λX=>vM (h4 (r .cw) X) (r.one _) (hm _)
 have f10:∀X,ek 39 2 .emp (A .ax) (h++X)=I (bQ (h++X).length 2 (ao A s .ax),(h++X)++cj 2 39 (ao A s .ax)):=λX=>k' (lD (h4 (r .ax) X)) (by decide) (r.one _) (hm _)
 have f11:∀X,ek 43 13 .emp (A .aG) (h++X)=I (bQ (h++X).length 13 (ao A s .aG),(h++X)++cj 13 43 (ao A s .aG)):=λX=>k' (lD (h4 (r .aG) X)) (by decide) (r.one _) (hm _)
 have f12:∀X,ek 57 33 .emp (A .ai) (h++X)=I (bQ (h++X).length 33 (ao A s .ai),(h++X)++cj 33 57 (ao A s .ai)):=λX=>k' (lD (h4 (r .ai) X)) (by decide) (r.one _) (hm _)
 simp only[aS,↓aF,aT,rG,Rz,kR,mB,iD,f3,f9,rF,I5,RA,RB,RF,RG,RH,E9,jt,kn,f10,f11,f12,RC,RD,RE,RI,RJ,RK,wk,RL]
 obtain⟨n1,aD⟩:∃n,n=h.length+(2+([]:U).length):=⟨_,rfl⟩
 obtain⟨n2,aE⟩:∃n,n=h.length+(2+(cj 1 3 (ao A s .bo)).length):=⟨_,rfl⟩
 obtain⟨n3,Q⟩:∃n,n=h.length+(2+(cj 1 3 (ao A s .bo)++cj 1 3 (ao A s .cw)).length):=⟨_,rfl⟩
 obtain⟨n4,R⟩:∃n,n=h.length+(2+(cj 1 3 (ao A s .bo)++(cj 1 3 (ao A s .cw)++cj 2 39 (ao A s .ax))).length):=⟨_,rfl⟩
 obtain⟨n5,S⟩:∃n,n=h.length+(2+(cj 1 3 (ao A s .bo)++(cj 1 3 (ao A s .cw)++(cj 2 39 (ao A s .ax)++cj 13 43 (ao A s .aG)))).length):=⟨_,rfl⟩
 rw[←aD,←aE,←Q,←R,←S]
 obtain⟨B,o⟩:∃B,B=e8 A s n1 n2 n3 n4 n5:=⟨_,rfl⟩
 have af:aW (bK (bK (bK (bK (bK A .bo (bQ n1 1 (ao A s .bo))) .cw (bQ n2 1 (ao A s .cw))) .ax (bQ n3 2 (ao A s .ax))) .aG (bQ n4 13 (ao A s .aG))) .ai (bQ n5 33 (ao A s .ai))) s=aW B s:=by
  rw[o];simp [aW,bK,e8]
 rw[af]
 obtain⟨l,q⟩:∃l,l=h++cq.box (aW B s) 27 eg.rw::eu::(cj 1 3 (ao A s .bo)++(cj 1 3 (ao A s .cw)++(cj 2 39 (ao A s .ax)++(cj 13 43 (ao A s .aG)++cj 33 57 (ao A s .ai))))):=⟨_,rfl⟩
 have L:∀k,ao B s k=ao A s k:=λk=>by rw[o];exact Rb _ _ _ _ _ _ _ k
 have O:c2 h iP l B s:=by
  have w:=Rc (h:=h) (P:=h++[cq.box (aW B s) 27 eg.rw,eu]) A s (by simp) (n1:=n1) (n2:=n2) (n3:=n3) (n4:=n4) (n5:=n5) (by rw[aD];simp) (by rw[aE];simp;omega) (by rw[Q];simp;omega) (by rw[R];simp;omega) (by rw[S];simp;omega)
  have eq:h++[cq.box (aW B s) 27 eg.rw,eu]++cj 1 3 (ao A s .bo)++cj 1 3 (ao A s .cw)++cj 2 39 (ao A s .ax)++cj 13 43 (ao A s .aG)++cj 33 57 (ao A s .ai)=l:=by rw[q];simp
  rw[eq,←o]at w
  refine⟨by rw[q];simp,λb ae=>by rw[q,cG ae],?_,λk ad=>?_⟩
  ·have:la iP (ao B s)=la iP (ao A s):=by unfold la;funext k;rw[L]
   rw[this];exact w
  ·rw[L,o]
   cases k<;>first|(cases ad;done)|exact r _
 have ak:ih h (ks 0) l B B s:=by
  rw[Rh]
  refine⟨O,by rw[q,eQ];rfl,by rw[q,fP];rfl,λk _=>rfl,λk ad=>?_,λk ad an=>?_⟩
  ·rw[o]
   cases k<;>first|(cases ad;done)|exact ac _ ad
  ·rw[L]at an
   rw[o]
   cases k<;>first|(cases ad;done)|(show bQ _ _ _=_;unfold bQ;rw[aQ (by rw[an];rfl)])
 have al:∀{n:Nat},h.length<=n->∀k,∀x∈(ao A s k).flatten,bI n x:=λaA k=>r.lt aA k
 have am:(ao A s .ax).length=s.ax.length:=by simp [ao]
 have aY:(ao A s .aG).length=s.aG.length:=by simp [ao]
 have aZ:(ao A s .ai).length=s.ai.length:=by simp [ao]
 have ap:s.ax.length<N:=by have:=m A .ax;omega
 have bO:s.aG.length<N:=by have:=m A .aG;omega
 have aq:s.ai.length<N:=by have:=m A .ai;omega
 rw[am]
 have T:h.length<=l.length:=O.len
 have ar:cU l h.length 2 39 (B .ax) (ao A s .ax):=by rw[←L];exact O.at (k:=.ax) rfl
 have V:=q
 unfold eu at V
 rw[←V]
 refine oS (λi H=>∃g,ih h (ks i) H g B s/\Nm l.length H (ao g s .ax)/\l.length<=H.length) s.ax.length ap ⟨B,ak,.inl rfl,ca _⟩ (λi H ag j=>?_) λH j K=>?_
 ·obtain⟨g,c,dL,u⟩:=j
  obtain⟨p,aj⟩:=cQ ag
  obtain⟨cx,y,z,C,D,E⟩:=agi m aj rfl c ar (al T .ax) u T dL
  exact⟨cx,⟨y,z,C,D⟩,E⟩
 obtain⟨A1,cR,-,-⟩:=j
 have au:((s.ax.length:Int)<(s.ax.length:Int))=False:=dK (by omega)
 have aw:A1 .aG=B .aG:=cR.top .aG rfl
 have W:=fH (cR.own.rs .aG)
 have ay:(ao A1 s .aG).length=s.aG.length:=by simp [ao]
 rw[ay]at W
 unfold Bf
 simp only[aS,↓aF,aT,au,cW,bg,bd,eJ cR.cd (mB A1 s),W]
 rw[←Rj]at cR
 have az:cU H h.length 13 43 (B .aG) (ao A1 s .aG):=by rw[←aw];exact cR.own.at (k:=.aG) rfl
 have aB:=cR.own.len
 have aC:∀x∈(ao A1 s .aG).flatten,bI H.length x:=cR.own.rs.lt (ca _) .aG
 refine oS (λi G=>∃g,ih h (lb s i) G g B s/\Nm H.length G (ao g s .aG)/\H.length<=G.length) s.aG.length bO ⟨A1,cR,.inl rfl,ca _⟩ (λi G ag j=>?_) λG j K=>?_
 ·obtain⟨g,c,dL,u⟩:=j
  obtain⟨p,aj⟩:=cQ ag
  obtain⟨cx,y,z,C,D,E⟩:=agj m aj rfl c az aC u aB dL
  exact⟨cx,⟨y,z,C,D⟩,E⟩
 obtain⟨t,d',-,-⟩:=j
 have aH:((s.aG.length:Int)<(s.aG.length:Int))=False:=dK (by omega)
 have t2:t .ai=B .ai:=d'.top .ai rfl
 have Y:=fH (d'.own.rs .ai)
 have aI:(ao t s .ai).length=s.ai.length:=by simp [ao]
 rw[aI]at Y
 unfold Be
 simp only[aS,↓aF,aT,aH,cW,bg,bd,eJ d'.cd (iD t s),Y]
 rw[←Rl]at d'
 have aL:cU G h.length 33 57 (B .ai) (ao t s .ai):=by rw[←t2];exact d'.own.at (k:=.ai) rfl
 have aM:=d'.own.len
 have aN:∀x∈(ao t s .ai).flatten,bI G.length x:=d'.own.rs.lt (ca _) .ai
 refine oS (λi F=>∃g,ih h (gO s i) F g B s/\Nm G.length F (ao g s .ai)/\G.length<=F.length) s.ai.length aq ⟨t,d',.inl rfl,ca _⟩ (λi F ag j=>?_) λF j K=>?_
 ·obtain⟨g,c,dL,u⟩:=j
  obtain⟨p,aj⟩:=cQ ag
  obtain⟨cx,y,z,C,D,E⟩:=agr m aj rfl c aL aN u aM dL
  exact⟨cx,⟨y,z,C,D⟩,E⟩
 obtain⟨ep,gj,-,-⟩:=j
 have aO:((s.ai.length:Int)<(s.ai.length:Int))=False:=dK (by omega)
 have aP:a_ 13 (.ptr (h.length+1) 0) (.agg (aW ep s)) F=I (F.set (h.length+1) (.box (aW ep s) 27 .rw)):=by
  unfold a_
  rw[show(cC (b' (J.agg (aW ep s))).length 13&&fD 0 13)=true from rfl]
  simp only[gq,gj.cO]
  show((cy _ 0 (aW ep s)).map _)=_
  rw[wm gj.own.rs];rfl
 have aR:(F.set (h.length+1) (.box (aW ep s) 27 .rw))[h.length+1]?=I (.box (aW ep s) 27 .rw):=fr (List.getElem?_eq_some_iff.1 gj.cO).1
 obtain⟨b,ae,aV,-⟩:=y4 (gj.own.at (k:=.ax) rfl) (λe=>ab (by
  have:(ao ep s .ax).length=s.ax.length:=by simp [ao]
  rw[e]at this
  exact gy this.symm))
 unfold Bd
 simp only[aS,↓aF,aT,aO,cW,bg,bd,jl gj.cd (show(aW ep s).length=13 from rfl),aP,jl aR (show(aW ep s).length=13 from rfl),I_ ae aV]
 refine fa.of rfl ⟨ep,rfl,?_⟩
 have Z:=gj.own.all (λk ad=>by
  cases k<;>first|(cases ad;done)|exact ad) gj.out
 refine⟨?_,λk an=>?_⟩
 rotate_left
 ·cases hd:gO s s.ai.length k with
  |true=>exact gj.emp k hd an
  |false=>exact gj.out k (by cases k<;>first|(cases hd;done)|exact hd)
 exact Z.of (Z.e1.same λb ae av bE=>hj (λe=>by
  obtain⟨_,_,_,bE⟩:=bE
  rw[←e,gj.cO]at bE
  cases bE)) (by simp) (λb ae=>hj (by omega)) (λk _=>⟨by rw[EW],by rw[EX]⟩) λk ad=>by cases ad
end Go.aN.X
