import Derived.Test.YtffennknofmjoaaGreatP5
set_option linter.unusedSimpArgs false
set_option linter.unusedVariables false
set_option maxRecDepth 20000
open Array renaming length_toList->pL
open Bool renaming and_assoc->xQ,and_eq_true->dn,and_true->jT,false_and->jv,false_eq_true->bn,not_eq_false'->L7,not_eq_true'->mf,not_false->gN,not_true->fg,or_eq_false_iff->rE,or_eq_true->mM,true_and->hq,true_or->vl,false->M,true->V
open ByteArray.toList renaming loop->VC
open Decidable renaming not_not->vt
open Go.IntKind renaming i64->E
open List.Nodup renaming length_le_of_subset->L5
open List renaming all_eq_true->AP,any_eq_false->x9,append_assoc->eb,append_nil->fD,cons_append->js,eq_nil_of_length_eq_zero->gF,ext_getElem?->fx,filter_append->AS,filter_congr->LY,filter_cons->AJ,flatMap_append->vr,flatMap_cons->tS,flatMap_singleton->AT,foldl_append->AO,foldl_cons->ve,getD_eq_getElem?_getD->iN,getElem?_append_left->cI,getElem?_append_right->lN,getElem?_eq_getElem->fJ,getElem?_eq_none->eE,getElem?_map->iM,getElem?_mapIdx->fQ,getElem?_replicate->Hy,getElem?_set->AQ,getElem?_set_ne->hP,getElem?_set_self->fK,getElem_idxOf->AR,getElem_mem->pM,idxOf_append->Hz,length_append->dV,length_cons->jS,length_filter_le->VB,length_map->c9,length_mapIdx->km,length_set->iz,length_take->kD,mapIdx_mapIdx->Hx,map_append->jt,map_congr_left->xV,map_cons->me,map_map->xU,map_nil->Ht,map_set->vq,mem_append->lO,mem_append_left->oc,mem_cons->hF,mem_cons_of_mem->L8,mem_of_getElem?->dN,mem_of_mem_take->o0,mem_range->tN,mem_singleton->hp,nil_append->hV,not_mem_nil->ik,range->fj,replicate->dF,set_cons_succ->sC,set_cons_zero->rH,take_length->iy
open Nat renaming beq->cM,blt->fX,le_refl->cj,lt_succ_self->fC,mul_le_mul_right->qD,reduceAdd->aV,zero_le->hO
open Option renaming bind_some->dy,getD_some->ob,map_some->dw,some->y
open Option.some renaming inj->jU,injEq->sw
open Go.aM.U renaming int->J
open Go renaming TypeId->a1,maxLen->pO
namespace Go.aM.X
open Go.bF Go.aM
attribute [local congr] mZ m0 m5 m6 oE q4 q5 r3
theorem ain(n:Nat)(aA:n<=70000)(h:Z):aL 58 [J E n] h=y (dz (cG n),h):=by
 obtain⟨N,e⟩:∃N:Nat,70000<N:=⟨_,fC _⟩
 refine cu (F:=Dt) (by kernel_rfl) N ?_
 rw[abt];unfold Ph
 have ax:(cG n).length=n:=by simp [cG]
 simp only[aU,↓aI,aV]
 refine hx (λi=>[.ref h.length 0 i i 1,J E (i:Int)]) (λi=>h++[.log ((cG i).map bA) 1 3 .rw]) n (by omega) rfl rfl (λi ai K=>?_) λK=>?_
 ·have b:((i:Int)<(n:Int))=True:=kk (by omega)
  have c:∀a,([J E a]:List U).all dt=V:=λa=>rfl
  unfold JC
  simp only[aU,↓aI,aV,lI,b,cr,a_,qp,qq,iW,qs,Ub (sz:=1) (F8 i).symm (by decide) (c _) (show i<dp by unfold dp;omega),cO (show i<9223372036854775807 by omega)]
  rw[hf _ (by simp),Sq]
 ·have aE:((n:Int)<(n:Int))=False:=dI (by omega)
  unfold JC
  simp only[aU,↓aI,aV,lI,aE,c4,bn,bh]
  exact KZ ax
theorem aio{G:Z}{R R':List (List U)}(ah:R'.flatten.all dt=V)(hm:R.length+R'.length<=dp):eC 3 1 (bV G.length 1 R) (.bE 1 R') (G++cq 1 3 R)=y (bV G.length 1 (R++R'),G++cq 1 3 (R++R')):=by
 by_cases bu:R.length=0
 ·have:R=[]:=gF bu
  subst this
  have aG:bV G.length 1 ([]:List (List U))=.emp:=rfl
  have aF:cq 1 3 ([]:List (List U))=[]:=rfl
  rw[aG,aF,fD,hV]
  exact lB (by simp [kK]) (by decide) ah (by simpa using hm)
 ·have aG:bV G.length 1 R=.ref G.length 0 R.length R.length 1:=by unfold bV;rw[aW bu]
  have aF:cq 1 3 R=[.log R 1 3 .rw]:=by unfold cq;rw[aW bu]
  have b:bV G.length 1 (R++R')=.ref G.length 0 (R.length+R'.length) (R.length+R'.length) 1:=by unfold bV;rw[aW (by rw[dV];omega),dV]
  have c:cq 1 3 (R++R')=[.log (R++R') 1 3 .rw]:=by unfold cq;rw[aW (by rw[dV];omega)]
  rw[aG,aF,b,c]
  unfold eC
  have an:kK 1 (.bE 1 R') (G++[.log R 1 3 .rw])=y R':=by simp [kK]
  rw[an,dy]
  unfold rV
  rw[aP ⟨by omega,by decide,ah⟩]
  simp only[en,List.getElem?_cons_zero]
  rw[aP ⟨trivial,trivial,trivial,trivial,trivial,trivial,hm⟩,p']
  rfl
def jQ(n i:Nat):List Int:=(fj n).map λj=>if j<i then -1 else 0
theorem aip(n i:Nat):(jQ n i).length=n:=by simp [jQ]
theorem Af{n i j:Nat}(h:j<n):(jQ n i)[j]?=y (if j<i then -1 else 0):=by simp [jQ,h]
theorem aiq(n:Nat):(jQ n 0).map bA=dF n [J E 0]:=by
 refine fx λj=>?_
 by_cases h:j<n
 ·rw[n0 (Af h),Hy,aP h,aW (by omega)];rfl
 ·rw[eE (by simp [jQ];omega),eE (by simp;omega)]
theorem air(n:Nat):jQ n n=dF n (-1):=by
 refine fx λj=>?_
 by_cases h:j<n
 ·rw[Af h,Hy,aP h,aP h]
 ·rw[eE (by simp [jQ];omega),eE (by simp;omega)]
theorem ais{n i:Nat}(h:i<n):(jQ n (i+1)).map bA=((jQ n i).map bA).set i (bA (-1)):=by
 rw[<-vq]
 congr 1
 refine fx λj=>?_
 by_cases b:j<n
 ·rw[Af b,AQ,Af b,aip]
  by_cases e:i=j
  ·subst e;rw[aP (by omega),aP rfl,aP h]
  ·rw[aW e]
   by_cases aF:j<i
   ·rw[aP aF,aP (by omega)]
   ·rw[aW aF,aW (by omega)]
 ·rw[eE (by simp [jQ];omega),eE (by simp [jQ];omega)]
theorem mI(v w:U):aK [v,w] 0=v:=ca rfl
theorem wK{h:Z}{n:Nat}{l:List Int}(aA:n<=70000)(ax:l.length<=10000000)(O:∀x∈l,mH n x):aL 51 [J E n,dz l] h=y (dz (dG l n),h):=by
 obtain⟨N,af,al⟩:∃N:Nat,70000<N/\20000000<N:=⟨20000001,by decide,by decide⟩
 refine cu (F:=Dl) (by kernel_rfl) N ?_
 rw[abm];unfold Pb
 have P:([J E 0]:List U).length=1:=rfl
 have kB:∀(b m:Nat),bB M (.ref b 0 m m 1)=y (J E (m:Int)):=λb m=>rfl
 simp only[aU,↓aI,aV,wG (show n<=dp by unfold dp;omega),P,kB]
 rw[<-aiq]
 refine hx (λi=>[J E (i:Int)]) (λi=>h++[.log ((jQ n i).map bA) 1 3 .rw]) n (by omega) rfl rfl (λi ai K=>?_) λK=>?_
 ·have bG:=n0 (Af (i:=i) ai)
  have o:cY (h++[.log ((jQ n i).map bA) 1 3 .rw]) 0 1 3 (.ref h.length 0 n n 1) ((jQ n i).map bA):=.ref _ _ _ (hO _) (by rw[en];rfl) (by simp [jQ])
  have aG:=eM (ft o) .i64 bG
  have st:=ij o bG (n:=1) (x:=J E (-1)) (f:=0) rfl (by decide) (xr _ _)
  have q:wr (h++[.log ((jQ n i).map bA) 1 3 .rw]) (.ref h.length 0 n n 1) 1 3 (((jQ n i).map bA).set i (bA (-1)))=h++[.log ((jQ n (i+1)).map bA) 1 3 .rw]:=by
   show(h++_).set h.length _=_
   rw[p',ais ai];rfl
  rw[q]at st
  unfold Jz
  simp only[aU,↓aI,aV,cQ ai,cr,a_,aG,st,cO (show i<9223372036854775807 by omega)]
  rw[hf _ (by simp)]
 ·have aE:((n:Int)<(n:Int))=False:=dI (by omega)
  have ah:(((cG n).map bA).flatten).all dt=V:=Ge λr an=>by obtain⟨z,_,rfl⟩:=List.mem_map.1 an;rfl
  have Q:((l.map bA).flatten).all dt=V:=Ge λr an=>by obtain⟨z,_,rfl⟩:=List.mem_map.1 an;rfl
  have ol:(cG n).length=n:=by simp [cG]
  have S:∀H:Z,aL 35 [dz l] H=y (bV H.length 1 (l.map bA),H++cq 1 3 (l.map bA)):=λH=>wU (.bE _) Q (by rw[c9];unfold dp;omega)
  have W:=λH=>ain n aA H
  obtain⟨G,k⟩:∃G,G=h++[b3.log ((jQ n n).map bA) 1 3 .rw]:=⟨_,rfl⟩
  have ap:eC 3 1 (bV G.length 1 (l.map bA)) (dz (cG n)) (G++cq 1 3 (l.map bA))=y (bV G.length 1 ((l++cG n).map bA),G++cq 1 3 ((l++cG n).map bA)):=by
   have:=aio (G:=G) (R:=l.map bA) (R':=(cG n).map bA) ah (by rw[c9,c9,ol];unfold dp;omega)
   rw[<-jt]at this
   exact this
  have X:(l++cG n).length=l.length+n:=by rw[dV,ol]
  have u:∀x∈l++cG n,0<=x/\x<(n:Int):=λx ae=>by
   rcases List.mem_append.1 ae with ae|ae
   ·exact O x ae
   ·exact tv x ae
  rw[<-k]
  unfold Jz
  simp only[aU,↓aI,aV,aE,c4,bn,bh,S,W,ap,xj,c9]
  obtain⟨c,w⟩:∃c,c=cq 1 3 ((l++cG n).map bA):=⟨_,rfl⟩
  have A:∀T:List Int,dM (h++.log (T.map bA) 1 3 .rw::c) 1 (bV G.length 1 ((l++cG n).map bA)) ((l++cG n).map bA):=λT=>by
   unfold bV
   split
   ·rename_i e
    rw[gF e];exact .emp
   ·rename_i e
    refine .ref _ _ 3 .rw _ ?_ rfl
    rw[k,w]
    unfold cq
    rw[aW e,show(h++[b3.log ((jQ n n).map bA) 1 3 .rw]).length=h.length+1 by simp,gg];rfl
  rw[k,<-w]
  refine hx (λi=>[J E (de n ((l++cG n).take i)).2,J E (i:Int)]) (λi=>h++.log ((de n ((l++cG n).take i)).1.map bA) 1 3 .rw::c) (l++cG n).length (by omega) rfl (by
   rw[List.take_zero,air]
   simp only[eb,js,hV];rfl) (λi ai K=>?_) λK=>?_
  ·obtain⟨x,ae⟩:=cR ai
   have Y:(l++cG n).take (i+1)=(l++cG n).take i++[x]:=qd ae
   obtain⟨am,ao⟩:=u x (dN ae)
   have aa:∀au∈(l++cG n).take i,0<=au/\au<(n:Int):=λau ba=>u au (o0 ba)
   obtain⟨h1,h2,ak⟩:=Ab aa
   rw[Y,tu]
   obtain⟨st,ac⟩:∃st,st=de n ((l++cG n).take i):=⟨_,rfl⟩
   rw[<-ac]at h1 h2 ak|-
   obtain⟨T,j⟩:=st
   simp only at h1 h2 ak
   obtain⟨g,rfl⟩:∃g:Nat,x=(g:Int):=⟨x.toNat,by omega⟩
   obtain⟨au,ba⟩:=cR (show g<T.length by omega)
   have aB:i<9223372036854775807:=by rw[X]at ai;omega
   have aG:=eM (A T) .i64 (n0 ae)
   have aF:ab M 1 (di (bV G.length 1 ((l++cG n).map bA)) (bA (g:Int)) i 0) (h++.log (T.map bA) 1 3 .rw::c)=y (J E (g:Int)):=(eZ (A T) (n0 ae) _ _ _).trans (lG _)
   have C:bY 1 (.ref h.length 0 n n 1) (J E (g:Int))=y (di (.ref h.length 0 n n 1) (bA au) g 0):=eM (GB (h:=h) (l:=c) (t:=3) (md:=.rw) h1) .i64 (n0 ba)
   have D:ab M 1 (di (.ref h.length 0 n n 1) (bA au) g 0) (h++.log (T.map bA) 1 3 .rw::c)=y (J E au):=(eZ (GB h1) (n0 ba) _ _ _).trans (lG au)
   have cd:rz (T,j) (g:Int)=if au<0 then(T.set g j,j+1)else(T,j):=by
    unfold rz
    simp only[Int.toNat_natCast,iN,ba,ob]
   have aq:((h++[b3.log ((jQ n n).map bA) 1 3 .rw])++c)=h++.log ((jQ n n).map bA) 1 3 .rw::c:=by simp
   rw[cd]
   by_cases p:au<0
   ·have o:cY (h++.log (T.map bA) 1 3 .rw::c) 0 1 3 (.ref h.length 0 n n 1) (T.map bA):=.ref _ _ _ (hO _) (by rw[en];rfl) (by simp [h1])
    have L:=ij o (n0 ba) (n:=1) (x:=J E j) (f:=0) rfl (by decide) (xr _ _)
    have q:wr (h++.log (T.map bA) 1 3 .rw::c) (.ref h.length 0 n n 1) 1 3 ((T.map bA).set g (bA j))=h++.log ((T.set g j).map bA) 1 3 .rw::c:=by
     show(h++_).set h.length _=_
     rw[p',vq];rfl
    rw[q]at L
    have cb:IntKind.i64.wrap (j+1)=j+1:=wrap64 (by unfold dB;omega)
    have jY:(au<0)=True:=kk p
    rw[aP p]
    unfold Dm
    simp only[aU,↓aI,aV,mI,lI,cQ ai,cr,a_,<-k,aG,aF,C,D,jY,L,cb,cO aB]
    rw[hf _ (by rw[k];simp)]
   ·have jY:(au<0)=False:=dI p
    rw[aW p]
    unfold Dm
    simp only[aU,↓aI,aV,mI,lI,cQ ai,cr,a_,<-k,aG,aF,C,D,jY,c4,bn,bh,cO aB]
    rw[hf _ (by rw[k];simp)]
  ·have ad:(((l++cG n).length:Int)<((l++cG n).length:Int))=False:=dI (by omega)
   obtain⟨h1,_,_⟩:=Ab u
   unfold Dm
   simp only[aU,↓aI,aV,mI,lI,ad,c4,bn,bh,iy,KZ h1]
   rfl
theorem ait{n:Nat}{L:List Int}(h:∀x∈L,0<=x/\x<(n:Int)){x:Int}(ae:x∈L):de n (L++[x])=de n L:=by
 obtain⟨os,h1,h2,ak,aJ,aO⟩:=KY n L h
 have b:=aO x ae
 have c:=h x ae
 rw[tu]
 unfold rz
 rw[aJ,iN,xy (by omega),aP b]
 simp only[ob]
 rw[aW (by omega)]
theorem aiu{n:Nat}:∀l:List Int,(∀o∈l,mark o=M->0<=o/\o<(n:Int))->de n (dA l)=de n (l.filter λo=>!mark o):=by
 intro l
 refine sl (P:=λl:List Int=>(∀o∈l,mark o=M->0<=o/\o<(n:Int))->de n (dA l)=de n (l.filter λo=>!mark o)) (λ_=>rfl) (λl o a6 h=>?_) l
 have a6:=a6 λx ae=>h x (oc _ ae)
 rw[z8,AS]
 unfold u3
 by_cases hm:mark o=V
 ·rw[hm,vl,aP rfl,a6]
  have:List.filter (λo=>!mark o) [o]=[]:=by simp [hm]
  rw[this,fD]
 ·have b:mark o=M:=by simpa using hm
  have aE:List.filter (λo=>!mark o) [o]=[o]:=by simp [b]
  have c:∀x∈l.filter (λo=>!mark o),0<=x/\x<(n:Int):=λx ae=>by
   obtain⟨h1,h2⟩:=List.mem_filter.1 ae
   exact h x (oc _ h1) (by simpa using h2)
  rw[b,Bool.false_or,aE]
  by_cases aa:(dA l).contains o=V
  ·rw[aP aa,a6,ait c]
   have:=(z_ l o).1 (by simpa using aa)
   exact List.mem_filter.2 ⟨this.1,by simp [b]⟩
  ·rw[aW aa,tu,tu,a6]
theorem Lb{n:Nat}{l:List Int}(h:∀o∈l,mark o=M->0<=o/\o<(n:Int)):dG (dA l) n=dG (l.filter λo=>!mark o) n:=by
 have:=aiu l h
 unfold dG de at*
 rw[AO,AO,this]
def ed(l:List Int):List Int:=(l.filter λx=>x !=0).map λx=>x-1
theorem xD(a b:List Int):ed (a++b)=ed a++ed b:=by unfold ed;rw[AS,jt]
theorem Ue{l:List Int}(h:∀x∈l,0<=x):ed l=fw l:=by
 unfold ed fw
 congr 1
 refine LY λx ae=>?_
 have:=h x ae
 by_cases e:x=0
 ·subst e;rfl
 ·have aG:(x !=0)=V:=bne_iff_ne.2 e
  rw[aG,nv (by omega)]
def ci(p:d_):List Int:=p.2.map λc=>c.inst
theorem aiv(l:List Int):fw (l.filter λx=>decide (x>0))=fw l:=by
 unfold fw
 rw[List.filter_filter];simp
theorem aiw{α:Type}(l:List α)(f:α->List Int):fw (l.flatMap f)=l.flatMap λa=>fw (f a):=by
 induction l with
 |nil=>rfl
 |cons a l a6=>rw[tS,tS,Ac,a6]
theorem aix{α:Type}(l:List α)(f:α->List Int):ed (l.flatMap f)=l.flatMap λa=>ed (f a):=by
 induction l with
 |nil=>rfl
 |cons a l a6=>rw[tS,tS,xD,a6]
theorem aiy{α β:Type}(l:List α)(d:α)(f:α->List β):(cG l.length).flatMap (λi=>f (l.getD i.toNat d))=l.flatMap f:=by
 have e:(fj l.length).map (λi=>l.getD i d)=l:=fx λi=>by
  by_cases h:i<l.length
  ·rw[iM,List.getElem?_range h,dw,iN,fJ h];rfl
  ·rw[eE (by simp;omega),eE (by omega)]
 calc _=((fj l.length).map (λi=>l.getD i d)).flatMap f:=by unfold cG;rw[List.flatMap_map,List.flatMap_map];rfl
  _=l.flatMap f:=by rw[e]
theorem Uf{α β:Type}{f g:α->List β}:∀{l:List α},(∀a∈l,f a=g a)->l.flatMap f=l.flatMap g
 |[],_=>rfl
 |a::l,h=>by rw[tS,tS,h a (by simp),Uf λb af=>h b (L8 _ af)]
theorem Ag{s:aH}(b:fB s):jE s=ed (s.aw.flatMap ci):=by
 unfold jE kc
 rw[aiy s.aw (0,[]) λp=>kb p.2,aiw,aix]
 refine Uf λp ah=>?_
 unfold kb
 rw[aiv,Ue];rfl
 intro x ae
 obtain⟨c,aa,rfl⟩:=List.mem_map.1 ae
 have:=b.nh p ah c aa
 unfold fv at this;omega
theorem GO{s:aH}(b:fB s):fw (s.ag.flatMap fI)=ed (s.ag.flatMap fI):=(Ue λx ae=>by
 have:=xB b x ae
 unfold fv at this;omega).symm
def ke(s:aH):Prop:=∀x∈s.ag,x.keys.length>0
theorem ke.Lc{s:aH}(h:ke s):fe s=s:=by
 unfold fe
 have:(s.ag.mapIdx λj x=>jD s j x)=s.ag:=by
  apply fx
  intro j
  rw[fQ]
  cases e:s.ag[j]? with
  |none=>rfl
  |some x=>
   rw[dw]
   unfold jD
   rw[aP (h x (dN e))]
 rw[this]
theorem Ug(s:aH):ke (fe s):=λx ae=>by
 obtain⟨i,ai,rfl⟩:=List.mem_mapIdx.1 (show x∈s.ag.mapIdx _ from ae)
 unfold jD
 split
 ·assumption
 ·show(fV _ 120).length>0
  rw[Gm];decide
theorem ke.gw{s:aH}(h:ke s)(to:List Int):ke (Go.aM.X.gw s to):=h
theorem ke.hE{s:aH}(h:ke s){to:List Int}(p:c8 to s.ag.length):ke (Go.aM.X.hE s to):=λx ae=>h x (oP p ae)
theorem Ld(A:aS->U)(s:aH)(h:Z):aL 52 [.agg (aQ A s)] h=y (.bool (eL s.bO 6),h):=by
 refine cu (F:=zz) (by kernel_rfl) 1 ?_
 rw[Py];unfold JB
 have bu:=xa s.bO (vs:=e8) rfl
 simp only[aU,↓aI,aV,TO,zE,oF,oG,uU,bu,zL,dJ]
def gD(to:List Int)(rows:List (List U))(i:Nat):List (List U):=(fj rows.length).map λj=>if eH to j<i then rows.getD (eH to j) []else rows.getD j []
theorem rA(to:List Int)(rows:List (List U))(i:Nat):(gD to rows i).length=rows.length:=by simp [gD]
theorem Le{to:List Int}{rows:List (List U)}{i j:Nat}(h:j<rows.length):(gD to rows i)[j]?=y (if eH to j<i then rows.getD (eH to j) []else rows.getD j []):=by simp [gD,h]
theorem Lf(to:List Int)(rows:List (List U)):gD to rows 0=rows:=by
 refine fx λj=>?_
 by_cases h:j<rows.length
 ·rw[Le h,aW (by omega),iN,fJ h];rfl
 ·rw[eE (by rw[rA];omega),eE (by omega)]
theorem Lg{to:List Int}{rows:List (List U)}{row:List U}{i t:Nat}(p:c8 to rows.length)(ai:rows[i]?=y row)(aR:t<rows.length)(aB:eH to t=i):gD to rows (i+1)=(gD to rows i).set t row:=by
 refine fx λj=>?_
 by_cases h:j<rows.length
 ·rw[Le h,AQ,Le h]
  by_cases e:t=j
  ·subst e
   rw[aP (show eH to t<i+1 by omega),aP rfl,aP (by rw[rA];exact h),aB,iN,ai];rfl
  ·rw[aW e]
   have:eH to j≠i:=λaF=>e (p.inj aR h (by rw[aB,aF]))
   by_cases b:eH to j<i
   ·rw[aP b,aP (by omega)]
   ·rw[aW b,aW (by omega)]
 ·rw[eE (by rw[rA];omega),eE (by rw[iz,rA];omega)]
theorem Lh{to:List Int}{rows:List (List U)}{z:List U}(p:c8 to rows.length):gD to rows rows.length=eO z rows to:=by
 unfold gD eO
 refine xV λj b=>?_
 rw[tN]at b
 have:=p.eH j b
 rw[aP this,iN,iN,fJ this];rfl
theorem Li{rows:List (List U)}{to:List Int}(p:c8 to rows.length){i:Nat}{r:List U}(h:r∈gD to rows i):r∈rows:=by
 simp only[gD,List.mem_map,tN]at h
 obtain⟨j,b,rfl⟩:=h
 have:=p.eH j b
 split
 ·rw[iN,fJ this];exact pM this
 ·rw[iN,fJ b];exact pM b
theorem aiz{A:aS->U}{s:aH}{to:List Int}(p:c8 to s.aw.length):ao (λk=>A (ld s to k)) (nd s to) .aw=eO [J E 0,.a7] (ao A s .aw) to:=by
 have ax:(ao A s .aw).length=s.aw.length:=by simp [ao]
 apply fx
 intro j
 show((eO xq s.aw to).mapIdx _)[j]?=_
 rw[fQ]
 by_cases b:j<s.aw.length
 ·rw[jn p b,jn (by rw[ax];exact p) (by rw[ax];exact b)]
  have aB:=p.eH j b
  obtain⟨x,ae⟩:=cR aB
  rw[ae,pE ae]
  simp [ld,iH,b]
 ·rw[jm b,jm (by rw[ax];exact b)];rfl
theorem cD.aiA{av H:Z}{A:aS->U}{s:aH}{to:List Int}(own:cD av db H A s)(p:c8 to s.aw.length):cD av db (wr H (A .aw) 2 39 (eO [J E 0,.a7] (ao A s .aw) to)) (λk=>A (ld s to k)) (Go.aM.X.nd s to):=by
 have ax:(ao A s .aw).length=s.aw.length:=by simp [ao]
 have o:cY H av.length 2 39 (A .aw) (ao A s .aw):=own.at (k:=.aw) rfl
 have bC:=own.new.perm (ld s to) (λk k' e=>by
  cases k<;>cases k'<;>simp only[ld]at e<;>first|(cases e;done)|(cases e;rfl)|exact cZ aS.bN (pI p (aS.bN.inj e))) (λk=>by cases k<;>rfl) (λk=>by cases k<;>rfl)
 have cU:=bC.wr .aw (rows:=eO [J E 0,.a7] (ao A s .aw) to) (by rw[iG];rfl)
 refine own.of cU (by rw[eo];exact cj _) (λb af=>qx o af) (λk _=>⟨rfl,?_⟩) (λk ad=>by cases ad)
 by_cases e:k=.aw
 ·subst e
  rw[fu,aiz p]
 ·rw[cE _ _ e]
  cases k with
  |aw=>exact absurd rfl e
  |bN j=>
   simp only[ld,ao,Go.aM.X.nd,iH]
   by_cases c:j<s.aw.length
   ·rw[aP c,jn p c]
   ·rw[aW c,jm c,eE (by omega)]
  |az=>simp [ld,ao,Go.aM.X.nd]
  |ag=>simp [ld,ao,Go.aM.X.nd]
  |_=>rfl
theorem aiB{N:Nat}{av H:Z}{k:Nat}{t:a1}{vs:List U}{v aZ:U}{rows:List (List U)}{to:List Int}{m:Nat}{j:List U->Z->bl}(o:cY H av.length 2 39 v rows)(gd:dM H 2 aZ rows)(u:∀b,j8 aZ=y b->j8 v≠y b)(af:H[k]?=y (.box vs t .rw))(ay:vs[10]?=y v)(an:Rows rows 2 m)(p:c8 to rows.length)(aA:rows.length<=70000){i:Nat}(ai:i<rows.length)(K:List U->Z->bl):
 Dj aL N (dz to) (.ptr k 0) (aZ,H) (J E rows.length) j K [J E (i:Int)] (wr H v 2 39 (gD to rows i))=K [J E ((i+1:Nat):Int)] (wr H v 2 39 (gD to rows (i+1))):=by
 obtain⟨row,c⟩:=cR ai
 obtain⟨w,aR,z,A⟩:=p.tm i ai
 obtain⟨e,ro,_⟩:=an row (dN c)
 have aB:i<9223372036854775807:=by omega
 have l:=jk o (rows':=gD to rows i) (rA _ _ _)
 have aG:ab M 1 (.ptr k 10) (wr H v 2 39 (gD to rows i))=y v:=ez (jM o af) ay
 have aF:=qy .i64 z
 have q:dM (wr H v 2 39 (gD to rows i)) 2 aZ rows:=pB gd λb af _=>pC (u b af)
 have C:=eM q .i64 c
 have D:ab V 2 (di aZ row i 0) (wr H v 2 39 (gD to rows i))=y (.agg row):=(eZ q c _ _ _).trans (gh e)
 obtain⟨g,h⟩:=cR (show w<(gD to rows i).length by rw[rA];exact aR)
 have F:g.length=2:=(an g (Li p (dN h))).1
 have G:=eM (ft l) .i64 h
 have st:=ij l h (n:=2) (x:=.agg row) (f:=0) e (by decide) (show cF g 0 row=y row from ib (by rw[F,e]) ro)
 rw[kR,<-Lg p c aR A]at st
 unfold Dj
 simp only[aU,↓aI,aV,cQ ai,cr,a_,aG,aF,lG,C,D,G,st,cO aB]
 exact cZ (K _) (hf _ (by simp [eo]))
theorem aiC{A:aS->U}{s:aH}{to:List Int}(p:c8 to s.az.length):ao (λk=>A (l6 s to k)) (ec s to) .az=eO [.str ⟨#[]⟩,.a7,J E 0,J E 0,J E 0,J E 0,J E 0,J E 0,J E 0,J E 0,J E 0,J E 0,J E 0] (ao A s .az) to:=by
 have ax:(ao A s .az).length=s.az.length:=by simp [ao]
 apply fx
 intro j
 show((eO Gx s.az to).mapIdx _)[j]?=_
 rw[fQ]
 by_cases b:j<s.az.length
 ·rw[jn p b,jn (by rw[ax];exact p) (by rw[ax];exact b)]
  have aB:=p.eH j b
  obtain⟨x,ae⟩:=cR aB
  rw[ae,uZ ae]
  simp [l6,iH,b]
 ·rw[jm b,jm (by rw[ax];exact b)];rfl
theorem cD.aiD{av H:Z}{A:aS->U}{s:aH}{to:List Int}(own:cD av db H A s)(p:c8 to s.az.length):cD av db (wr H (A .az) 13 43 (eO [.str ⟨#[]⟩,.a7,J E 0,J E 0,J E 0,J E 0,J E 0,J E 0,J E 0,J E 0,J E 0,J E 0,J E 0] (ao A s .az) to)) (λk=>A (l6 s to k)) (Go.aM.X.ec s to):=by
 have ax:(ao A s .az).length=s.az.length:=by simp [ao]
 have o:cY H av.length 13 43 (A .az) (ao A s .az):=own.at (k:=.az) rfl
 have bC:=own.new.perm (l6 s to) (λk k' e=>by
  cases k<;>cases k'<;>simp only[l6]at e<;>first|(cases e;done)|(cases e;rfl)|exact cZ aS.b5 (pI p (aS.b5.inj e))) (λk=>by cases k<;>rfl) (λk=>by cases k<;>rfl)
 have cU:=bC.wr .az (rows:=eO [.str ⟨#[]⟩,.a7,J E 0,J E 0,J E 0,J E 0,J E 0,J E 0,J E 0,J E 0,J E 0,J E 0,J E 0] (ao A s .az) to) (by rw[iG];rfl)
 refine own.of cU (by rw[eo];exact cj _) (λb af=>qx o af) (λk _=>⟨rfl,?_⟩) (λk ad=>by cases ad)
 by_cases e:k=.az
 ·subst e
  rw[fu,aiC p]
 ·rw[cE _ _ e]
  cases k with
  |az=>exact absurd rfl e
  |b5 j=>
   simp only[l6,ao,Go.aM.X.ec,iH]
   by_cases c:j<s.az.length
   ·rw[aP c,jn p c]
   ·rw[aW c,jm c,eE (by omega)]
  |aw=>simp [l6,ao,Go.aM.X.ec]
  |ag=>simp [l6,ao,Go.aM.X.ec]
  |_=>rfl
theorem aiE{N:Nat}{av H:Z}{k:Nat}{t:a1}{vs:List U}{v aZ:U}{rows:List (List U)}{to:List Int}{m:Nat}{j:List U->Z->bl}(o:cY H av.length 13 43 v rows)(gd:dM H 13 aZ rows)(u:∀b,j8 aZ=y b->j8 v≠y b)(af:H[k]?=y (.box vs t .rw))(ay:vs[11]?=y v)(an:Rows rows 13 m)(p:c8 to rows.length)(aA:rows.length<=70000){i:Nat}(ai:i<rows.length)(K:List U->Z->bl):
 zy aL N (dz to) (.ptr k 0) (aZ,H) (J E rows.length) j K [J E (i:Int)] (wr H v 13 43 (gD to rows i))=K [J E ((i+1:Nat):Int)] (wr H v 13 43 (gD to rows (i+1))):=by
 obtain⟨row,c⟩:=cR ai
 obtain⟨w,aR,z,A⟩:=p.tm i ai
 obtain⟨e,ro,_⟩:=an row (dN c)
 have aB:i<9223372036854775807:=by omega
 have l:=jk o (rows':=gD to rows i) (rA _ _ _)
 have aG:ab M 1 (.ptr k 11) (wr H v 13 43 (gD to rows i))=y v:=ez (jM o af) ay
 have aF:=qy .i64 z
 have q:dM (wr H v 13 43 (gD to rows i)) 13 aZ rows:=pB gd λb af _=>pC (u b af)
 have C:=eM q .i64 c
 have D:ab V 13 (di aZ row i 0) (wr H v 13 43 (gD to rows i))=y (.agg row):=(eZ q c _ _ _).trans (gh e)
 obtain⟨g,h⟩:=cR (show w<(gD to rows i).length by rw[rA];exact aR)
 have F:g.length=13:=(an g (Li p (dN h))).1
 have G:=eM (ft l) .i64 h
 have st:=ij l h (n:=13) (x:=.agg row) (f:=0) e (by decide) (show cF g 0 row=y row from ib (by rw[F,e]) ro)
 rw[kR,<-Lg p c aR A]at st
 unfold zy
 simp only[aU,↓aI,aV,cQ ai,cr,a_,aG,aF,lG,C,D,G,st,cO aB]
 exact cZ (K _) (hf _ (by simp [eo]))
theorem aiF{A:aS->U}{s:aH}{to:List Int}(p:c8 to s.ag.length):ao (λk=>A (jO s to k)) (gL s to) .ag=eO iu (ao A s .ag) to:=by
 have ax:(ao A s .ag).length=s.ag.length:=by simp [ao]
 apply fx
 intro j
 show((eO Gy s.ag to).mapIdx _)[j]?=_
 rw[fQ]
 by_cases b:j<s.ag.length
 ·rw[jn p b,jn (by rw[ax];exact p) (by rw[ax];exact b)]
  have aB:=p.eH j b
  obtain⟨x,ae⟩:=cR aB
  rw[ae,la ae]
  simp [jO,iH,b]
 ·rw[jm b,jm (by rw[ax];exact b)];rfl
theorem cD.aiG{av H:Z}{A:aS->U}{s:aH}{to:List Int}(own:cD av db H A s)(p:c8 to s.ag.length):cD av db (wr H (A .ag) 33 57 (eO iu (ao A s .ag) to)) (λk=>A (jO s to k)) (Go.aM.X.gL s to):=by
 have ax:(ao A s .ag).length=s.ag.length:=by simp [ao]
 have o:cY H av.length 33 57 (A .ag) (ao A s .ag):=own.at (k:=.ag) rfl
 have bC:=own.new.perm (jO s to) (λk k' e=>by
  cases k<;>cases k'<;>simp only[jO]at e<;>first|(cases e;done)|(cases e;rfl)|exact cZ aS.key (pI p (aS.key.inj e))|exact cZ aS.bq (pI p (aS.bq.inj e))|exact cZ aS.bm (pI p (aS.bm.inj e))|exact cZ aS.bo (pI p (aS.bo.inj e))) (λk=>by cases k<;>rfl) (λk=>by cases k<;>rfl)
 have cU:=bC.wr .ag (rows:=eO iu (ao A s .ag) to) (by rw[iG];rfl)
 refine own.of cU (by rw[eo];exact cj _) (λb af=>qx o af) (λk _=>⟨rfl,?_⟩) (λk ad=>by cases ad)
 by_cases e:k=.ag
 ·subst e
  rw[fu,aiF p]
 ·rw[cE _ _ e]
  cases k with
  |ag=>exact absurd rfl e
  |key j=>
   simp only[jO,ao,Go.aM.X.gL,iH]
   by_cases c:j<s.ag.length
   ·rw[aP c,jn p c]
   ·rw[aW c,jm c,eE (by omega)]
  |bq j=>
   simp only[jO,ao,Go.aM.X.gL,iH]
   by_cases c:j<s.ag.length
   ·rw[aP c,jn p c]
   ·rw[aW c,jm c,eE (by omega)]
  |bm j=>
   simp only[jO,ao,Go.aM.X.gL,iH]
   by_cases c:j<s.ag.length
   ·rw[aP c,jn p c]
   ·rw[aW c,jm c,eE (by omega)]
  |bo j=>
   simp only[jO,ao,Go.aM.X.gL,iH]
   by_cases c:j<s.ag.length
   ·rw[aP c,jn p c]
   ·rw[aW c,jm c,eE (by omega)]
  |aw=>simp [jO,ao,Go.aM.X.gL]
  |az=>simp [jO,ao,Go.aM.X.gL]
  |_=>rfl
theorem aiH{N:Nat}{av H:Z}{k:Nat}{t:a1}{vs:List U}{v aZ:U}{rows:List (List U)}{to:List Int}{m:Nat}{j:List U->Z->bl}(o:cY H av.length 33 57 v rows)(gd:dM H 33 aZ rows)(u:∀b,j8 aZ=y b->j8 v≠y b)(af:H[k]?=y (.box vs t .rw))(ay:vs[12]?=y v)(an:Rows rows 33 m)(p:c8 to rows.length)(aA:rows.length<=70000){i:Nat}(ai:i<rows.length)(K:List U->Z->bl):
 Dh aL N (dz to) (.ptr k 0) (aZ,H) (J E rows.length) j K [J E (i:Int)] (wr H v 33 57 (gD to rows i))=K [J E ((i+1:Nat):Int)] (wr H v 33 57 (gD to rows (i+1))):=by
 obtain⟨row,c⟩:=cR ai
 obtain⟨w,aR,z,A⟩:=p.tm i ai
 obtain⟨e,ro,_⟩:=an row (dN c)
 have aB:i<9223372036854775807:=by omega
 have l:=jk o (rows':=gD to rows i) (rA _ _ _)
 have aG:ab M 1 (.ptr k 12) (wr H v 33 57 (gD to rows i))=y v:=ez (jM o af) ay
 have aF:=qy .i64 z
 have q:dM (wr H v 33 57 (gD to rows i)) 33 aZ rows:=pB gd λb af _=>pC (u b af)
 have C:=eM q .i64 c
 have D:ab V 33 (di aZ row i 0) (wr H v 33 57 (gD to rows i))=y (.agg row):=(eZ q c _ _ _).trans (gh e)
 obtain⟨g,h⟩:=cR (show w<(gD to rows i).length by rw[rA];exact aR)
 have F:g.length=33:=(an g (Li p (dN h))).1
 have G:=eM (ft l) .i64 h
 have st:=ij l h (n:=33) (x:=.agg row) (f:=0) e (by decide) (show cF g 0 row=y row from ib (by rw[F,e]) ro)
 rw[kR,<-Lg p c aR A]at st
 unfold Dh
 simp only[aU,↓aI,aV,cQ ai,cr,a_,aG,aF,lG,C,D,G,st,cO aB]
 exact cZ (K _) (hf _ (by simp [eo]))
theorem GP{H:Z}{k:Nat}{cA A1:aS->U}{s s1:aH}{t:a1}(b:H[k]?=y (.box (aQ cA s) t .rw))(r:gr H A1 s1):bf 13 (.ptr k 0) (.agg (aQ A1 s1)) H=y (H.set k (.box (aQ A1 s1) t .rw)):=by
 unfold bf
 rw[show(cM (cn (U.agg (aQ A1 s1))).length 13&&fX 0 13)=V from rfl]
 simp only[gG,b]
 show((cF (aQ cA s) 0 (aQ A1 s1)).map _)=_
 rw[ib (vs:=aQ cA s) (cs:=aQ A1 s1) rfl (KA r)];rfl
theorem Lj{H:Z}{base sz:Nat}{t:a1}{v:U}{rows:List (List U)}(o:cY H base sz t v rows)(sz':Nat)(rows':List (List U)):∀b,j8 (bV H.length sz' rows')=y b->j8 v≠y b:=λb af e=>by
 have h1:=Kr af
 have h2:=(lA o e).2.1
 omega
theorem aiI{N:Nat}{av G:Z}{v:U}{l to:List Int}{k n:Nat}{t:a1}{vs:List U}{j:List U->Z->bl}(o:cY G av.length 1 3 v (l.map bA))(af:G[k]?=y (.box vs t .rw))(ay:vs[3]?=y v)(p:c8 to n)(g:∀o∈l,mark o=M->0<=o/\o<n)(ax:l.length<=70000){i:Nat}(ai:i<l.length)(K:List U->Z->bl):
 Di aL N (dz to) (.ptr k 0) G v (J E l.length) j K [J E (i:Int)] (wr G v 1 3 (iI to l i))=K [J E ((i+1:Nat):Int)] (wr G v 1 3 (iI to l (i+1))):=by
 obtain⟨x,ae⟩:=cR ai
 have aB:i<9223372036854775807:=by omega
 have c:=jk o (rows':=iI to l i) (by rw[TE,c9])
 have aG:=eM (ft c) .i64 (tq ae)
 have aF:ab M 1 (di v (bA x) i 0) (wr G v 1 3 (iI to l i))=y (J E x):=(eZ (ft c) (tq ae) _ _ _).trans (lG x)
 have h:ab M 1 (.ptr k 3) (wr G v 1 3 (iI to l i))=y v:=ez (jM o af) ay
 unfold Di
 by_cases hm:mark x=V
 ·have b:hN to x=x:=by unfold hN;rw[aP hm]
  have:iI to l (i+1)=iI to l i:=by rw[Gv ae,b];exact Gw (tq ae)
  simp only[aU,↓aI,aV,cQ ai,cr,a_,aG,aF,w5,hm,fg,bn,bh,cO aB]
  rw[this]
  exact cZ (K _) (hf _ (by simp [eo]))
 ·have e:mark x=M:=by simpa using hm
  obtain⟨u,m,rfl,q,b,_⟩:=xu p e (g x (dN ae) e)
  have st:=ij c (tq ae) (n:=1) (x:=J E (m:Int)) (f:=0) rfl (by decide) (xr _ _)
  rw[kR,<-b,<-Gv ae,b]at st
  simp only[aU,↓aI,aV,cQ ai,cr,a_,aG,aF,w5,e,gN,h,qy .i64 q,lG,st,cO aB]
  exact cZ (K _) (hf _ (by simp [eo]))
theorem aiJ(s:aH)(cA:aS->U)(h:Z)(W:gr h cA s)(q:gX s)(X:s.aw≠[]){to:List Int}(pm:c8 to s.aw.length)(Y:∀o∈s.bk,mark o=M->0<=o/\o<s.aw.length):eG (aL 50 [.agg (aQ cA s),J E 0,dz to] h) (Ae h (gw s to)):=by
 obtain⟨N,aA⟩:∃N:Nat,70000<N:=⟨_,fC _⟩
 refine eG.body (F:=wR) (by kernel_rfl) N ?_
 rw[JE];unfold Dk
 obtain⟨av,g⟩:∃av,av=h++[b3.box (aQ cA s) 27 .rw,eD]:=⟨_,rfl⟩
 have L:=g
 unfold eD at L
 have fa:av.length=h.length+2:=by rw[g];simp
 have aa:gr av cA s:=by rw[g];exact W.app _
 obtain⟨⟨aB,c'⟩,ac,A1,O,m,aC⟩:=lX s cA av aa q.small
 simp only at O m
 subst O
 have ad:=m.lower (h:=h) (by omega) (λb af=>by rw[g,cI af])
 have C:c'[h.length]?=y (.box (aQ cA s) 27 .rw):=by rw[m.cJ _ (by omega),g,en];rfl
 have cL:c'[h.length+1]?=y eD:=by rw[m.cJ _ (by omega),g,gg];rfl
 have ae:ab V 13 (.ptr h.length 0) av=y (.agg (aQ cA s)):=by rw[g];exact iw (vs:=aQ cA s) (by rw[en];rfl) rfl
 obtain⟨cx,t⟩:∃cx,cx=c'.set h.length (.box (aQ A1 s) 27 .rw):=⟨_,rfl⟩
 have P:=GP C m.rs
 rw[<-t]at P
 have u:cD h db cx A1 s:=by rw[t];exact ad.box C (cj _) _
 have cm:cx[h.length]?=y (.box (aQ A1 s) 27 .rw):=by rw[t];exact fK (List.getElem?_eq_some_iff.1 C).1
 have cH:cx[h.length+1]?=y eD:=by rw[t,hP (by omega)];exact cL
 obtain⟨R,l⟩:∃R,R=ao A1 s .aw:=⟨_,rfl⟩
 have ah:R.length=s.aw.length:=by rw[l];simp [ao]
 have aD:=q.aw
 have ak:cY cx h.length 2 39 (A1 .aw) R:=by rw[l];exact u.at (k:=.aw) rfl
 have ap:eC 39 2 .emp (A1 .aw) cx=y (bV cx.length 2 R,cx++cq 2 39 R):=by
  rw[l];exact lB (l5 (u.rs .aw)) (by decide) (u.rs.one _) (q.small.gO A1 .aw)
 obtain⟨c,n⟩:∃c,c=cx++cq 2 39 R:=⟨_,rfl⟩
 obtain⟨aZ,w⟩:∃aZ,aZ=bV cx.length 2 R:=⟨_,rfl⟩
 have al:bB M aZ=y (J E R.length):=by rw[w];exact xj _ _ _
 have Q:=Lj ak 2 R
 rw[<-w]at Q
 have gd:dM c 2 aZ R:=by rw[n,w];exact ft (zZ cx 2 39 R)
 rw[<-n,<-w]at ap
 have D:cD h db c A1 s:=by rw[n];exact u.app _
 have x:cY c h.length 2 39 (A1 .aw) R:=by rw[l];exact D.at (k:=.aw) rfl
 have S:c[h.length]?=y (.box (aQ A1 s) 27 .rw):=by rw[n];exact ff.app _ _ _ _ _ _ cm
 have am:c[h.length+1]?=y eD:=by rw[n];exact ff.app _ _ _ _ _ _ cH
 have an:Rows R 2 (c.length+1):=by rw[l];exact D.rs.rows (k:=.aw) rfl
 have T:c8 to R.length:=by rw[ah];exact pm
 have z:=D.aiA pm
 rw[<-l,<-Lh T]at z
 obtain⟨G,A⟩:∃G,G=wr c (A1 .aw) 2 39 (gD to R R.length):=⟨_,rfl⟩
 rw[<-A]at z
 have H:G[h.length]?=y (.box (aQ A1 s) 27 .rw):=by rw[A];exact jM x S
 have aq:G[h.length+1]?=y eD:=by rw[A];exact jM x am
 have p:cY G h.length 1 3 (A1 .bk) (s.bk.map bA):=z.at (k:=.bk) rfl
 have ar:=z.bk
 have on:=q.bk
 have le:=fA (ft p)
 rw[c9]at le
 obtain⟨f1,F,f2,f3,f4,f5⟩:=GN ar (λe=>X (by
  have:=cZ List.length (show eO xq s.aw to=[]from e)
  rw[iG]at this
  exact gF this)) (jM p H) (jM p aq)
 have au:((0:Int)==0)=V:=rfl
 simp only[aU,↓aI,aV,<-L,au,a_,ae,ac,P,ez cm (j_ A1 s),ap,al]
 refine eG.of (r:=(.agg (aQ (λk=>A1 (ld s to k)) (gw s to)),F)) ?_ ⟨_,rfl,f5⟩
 refine hx (λi=>[J E (i:Int)]) (λi=>wr c (A1 .aw) 2 39 (gD to R i)) R.length (by omega) rfl (by rw[Lf,qu x]) (λi ai K=>?_) λK=>?_
 ·have h:=aiB (N:=N) (j:=?jj) x gd Q S (j_ A1 s) an T (by omega) ai K
  exact h
 have aE:((R.length:Int)<(R.length:Int))=False:=dI (by omega)
 unfold Dj
 simp only[aU,↓aI,aV,aE,c4,bn,bh,<-A,ez H (sh A1 s),le]
 refine hx (λi=>[J E (i:Int)]) (λi=>wr G (A1 .bk) 1 3 (iI to s.bk i)) s.bk.length (by omega) rfl (by rw[TF,qu p]) (λi ai K=>?_) λK=>?_
 ·have h:=aiI (N:=N) (j:=?jj2) p H (sh A1 s) pm Y on ai K
  exact h
 have aE:((s.bk.length:Int)<(s.bk.length:Int))=False:=dI (by omega)
 unfold Di
 simp only[aU,↓aI,aV,aE,c4,bn,bh,TG]
 have ax:ab V 13 (.ptr h.length 0) (wr G (A1 .bk) 1 3 ((s.bk.map (hN to)).map bA))=y (.agg (aQ (λk=>A1 (ld s to k)) (gw s to))):=f1
 have ay:bf 13 (.ptr (h.length+1) 0) (.agg (aQ (λk=>A1 (ld s to k)) (gw s to))) (wr G (A1 .bk) 1 3 ((s.bk.map (hN to)).map bA))=y F:=f2
 simp only[ax,ay,f3,f4,b8]
theorem aiK(s:aH)(cA:aS->U)(h:Z)(ak:gr h cA s)(q:gX s)(P:s.aw≠[])(ad:ke s)(br:eL s.bO 6=V){to:List Int}(pm:c8 to s.ag.length)(aa:∀p∈s.aw,∀c∈p.2,fv c.inst s.ag.length):eG (aL 50 [.agg (aQ cA s),J E 2,dz to] h) (Ae h (hE s to)):=by
 obtain⟨N,aO⟩:∃N:Nat,70000<N:=⟨_,fC _⟩
 refine eG.body (F:=wR) (by kernel_rfl) N ?_
 rw[JE];unfold Dk
 obtain⟨av,m⟩:∃av,av=h++[b3.box (aQ cA s) 27 .rw,eD]:=⟨_,rfl⟩
 have Q:=m
 unfold eD at Q
 have fa:av.length=h.length+2:=by rw[m];simp
 have al:gr av cA s:=by rw[m];exact ak.app _
 obtain⟨⟨aP,c'⟩,am,A1,D,n⟩:=zv s cA av al q P
 rw[ad.Lc]at D n
 simp only at D n
 subst D
 have an:=n.lower (h:=h) (by omega) (λb af=>by rw[m,cI af])
 have H:c'[h.length]?=y (.box (aQ cA s) 27 .rw):=by rw[n.cJ _ (by omega),m,en];rfl
 have cL:c'[h.length+1]?=y eD:=by rw[n.cJ _ (by omega),m,gg];rfl
 have aq:ab V 13 (.ptr h.length 0) av=y (.agg (aQ cA s)):=by rw[m];exact iw (vs:=aQ cA s) (by rw[en];rfl) rfl
 obtain⟨cx,u⟩:∃cx,cx=c'.set h.length (.box (aQ A1 s) 27 .rw):=⟨_,rfl⟩
 have S:=GP H n.rs
 rw[<-u]at S
 have w:cD h db cx A1 s:=by rw[u];exact an.box H (cj _) _
 have cm:cx[h.length]?=y (.box (aQ A1 s) 27 .rw):=by rw[u];exact fK (List.getElem?_eq_some_iff.1 H).1
 have cH:cx[h.length+1]?=y eD:=by rw[u,hP (by omega)];exact cL
 obtain⟨R,o⟩:∃R,R=ao A1 s .ag:=⟨_,rfl⟩
 have ar:R.length=s.ag.length:=by rw[o];simp [ao]
 have aR:=q.ag
 have au:cY cx h.length 33 57 (A1 .ag) R:=by rw[o];exact w.at (k:=.ag) rfl
 have ap:eC 57 33 .emp (A1 .ag) cx=y (bV cx.length 33 R,cx++cq 33 57 R):=by
  rw[o];exact lB (l5 (w.rs .ag)) (by decide) (w.rs.one _) (q.small.gO A1 .ag)
 obtain⟨g,t⟩:∃g,g=cx++cq 33 57 R:=⟨_,rfl⟩
 obtain⟨aZ,x⟩:∃aZ,aZ=bV cx.length 33 R:=⟨_,rfl⟩
 have ax:bB M aZ=y (J E R.length):=by rw[x];exact xj _ _ _
 have T:=Lj au 33 R
 rw[<-x]at T
 have gd:dM g 33 aZ R:=by rw[t,x];exact ft (zZ cx 33 57 R)
 rw[<-t,<-x]at ap
 have L:cD h db g A1 s:=by rw[t];exact w.app _
 have z:cY g h.length 33 57 (A1 .ag) R:=by rw[o];exact L.at (k:=.ag) rfl
 have W:g[h.length]?=y (.box (aQ A1 s) 27 .rw):=by rw[t];exact ff.app _ _ _ _ _ _ cm
 have ay:g[h.length+1]?=y eD:=by rw[t];exact ff.app _ _ _ _ _ _ cH
 have aA:Rows R 33 (g.length+1):=by rw[o];exact L.rs.rows (k:=.ag) rfl
 have X:c8 to R.length:=by rw[ar];exact pm
 have A:=L.aiG pm
 rw[<-o,<-Lh X]at A
 obtain⟨G,C⟩:∃G,G=wr g (A1 .ag) 33 57 (gD to R R.length):=⟨_,rfl⟩
 rw[<-C]at A
 obtain⟨l,Y⟩:∃l,l=(λk=>A1 (jO s to k)):=⟨_,rfl⟩
 rw[<-Y]at A
 have aB:aQ A1 s=aQ l (gL s to):=by rw[Y];rfl
 have ac:G[h.length]?=y (.box (aQ l (gL s to)) 27 .rw):=by rw[C,<-aB];exact jM z W
 have aC:G[h.length+1]?=y eD:=by rw[C];exact jM z ay
 obtain⟨⟨aT,aD⟩,aF,ae,ah,O,bz,-⟩:=Ud A pm q.ag aa (q.gL pm)
 simp only at ae ah O bz
 subst ae
 obtain⟨f1,F,f2,f3,f4,f5⟩:=GN ah (λe=>P (List.map_eq_nil_iff.1 e)) (O _ _ _ _ ac) (O _ _ _ _ aC)
 have aG:((2:Int)==0)=M:=rfl
 have aJ:((2:Int)==2)=V:=rfl
 have aK:ab V 13 (.ptr h.length 0) aD=y (.agg (aQ l (jl (gL s to) to))):=f1
 have aM:ab V 13 (.ptr h.length 0) G=y (.agg (aQ l (gL s to))):=iw ac rfl
 have aN:=λh=>Ld l (gL s to) h
 have hd:(gL s to).bO=s.bO:=rfl
 simp only[aU,↓aI,aV,<-Q,aG,aJ,bn,bh,a_,aq,am,S,ez cm (i_ A1 s),ap,ax]
 refine eG.of (r:=(.agg (aQ l (hE s to)),F)) ?_ ⟨_,rfl,f5⟩
 refine hx (λi=>[J E (i:Int)]) (λi=>wr g (A1 .ag) 33 57 (gD to R i)) R.length (by omega) rfl (by rw[Lf,qu z]) (λi ai K=>?_) λK=>?_
 ·have h:=aiH (N:=N) (j:=?jj) z gd T W (i_ A1 s) aA X (by omega) ai K
  exact h
 have aE:((R.length:Int)<(R.length:Int))=False:=dI (by omega)
 unfold Dh
 simp only[aU,↓aI,aV,aE,c4,bn,bh,<-C,aM,aN,hd,br,a_,aF,aK,f2,f3,f4]
 rfl
theorem aiL{N:Nat}{av ds H:Z}{A:aS->U}{s:aH}{to:List Int}{k m i:Nat}{p:c5}{t:a1}{j:List U->Z->bl}(q:rv av ds H A s to i)(af:H[k]?=y (.box (aQ A s) t .rw))(pm:c8 to m)(hm:m<=70000)(ah:s.ag[i]?=y p)(aa:∀c∈p.keys,fv c.2 m)(ax:p.keys.length<=70000){n:Nat}(aA:n<p.keys.length)(K:List U->Z->bl):
 zw aL N (dz to) (.ptr k 0) [J E (i:Int)] H (J E p.keys.length) j K [J E (n:Int)] (wr H (A (.key i)) 2 89 (h3 to p.keys n))=K [J E ((n+1:Nat):Int)] (wr H (A (.key i)) 2 89 (h3 to p.keys (n+1))):=by
 obtain⟨c,g⟩:=cR aA
 have aB:n<9223372036854775807:=by omega
 have u:(jN s to i).ag[i]?=y p:=by rw[tr ah,aW (by omega)]
 have de:ao A (jN s to i) (.key i)=p.keys.map cW:=by simp only[ao,u]
 have o:cY H av.length 2 89 (A (.key i)) (p.keys.map cW):=by rw[<-de];exact q.own.at (k:=.key i) rfl
 have h:=jk o (rows':=h3 to p.keys n) (by rw[TK,c9])
 have w:=la (A:=A) u
 have op:cY H av.length 33 57 (A .ag) (ao A (jN s to i) .ag):=q.own.at (k:=.ag) rfl
 have z:dM (wr H (A (.key i)) 2 89 (h3 to p.keys n)) 33 (A .ag) (ao A (jN s to i) .ag):=by
  refine pB (ft op) λb af P=>pC λe=>?_
  have:=q.own.new.inj _ _ _ af e
  cases this
 have aG:ab M 1 (.ptr k 12) (wr H (A (.key i)) 2 89 (h3 to p.keys n))=y (A .ag):=ez (jM o af) (i_ A s)
 have aF:bY 33 (A .ag) (J E (i:Int))=y (di (A .ag) (b1 p (A (.key i)) (A (.bq i)) (A (.bm i)) (A (.bo i))) i 0):=eM z .i64 w
 have C:ab M 1 (di (A .ag) (b1 p (A (.key i)) (A (.bq i)) (A (.bm i)) (A (.bo i))) i 1) (wr H (A (.key i)) 2 89 (h3 to p.keys n))=y (A (.key i)):=(eZ z w _ _ _).trans (j' _ _ _ _ _)
 have D:=eM (ft h) .i64 (u2 g)
 have F:ab M 1 (di (A (.key i)) (cW c) n 1) (wr H (A (.key i)) 2 89 (h3 to p.keys n))=y (J E c.2):=(eZ (ft h) (u2 g) _ _ _).trans (z6 c)
 unfold zw
 rcases aa c (dN g)with mR|G
 ·have l:(c.2 !=0)=M:=by rw[mR];rfl
  have L:h3 to p.keys (n+1)=h3 to p.keys n:=by
   rw[KK g]
   have:pJ to c=c:=by
    have:gu c.2 to=c.2:=by unfold gu;rw[aP mR,mR]
    unfold pJ
    rw[this]
   rw[this]
   exact Gw (u2 g)
  rw[L]
  simp only[aU,↓aI,aV,cQ aA,cr,a_,aG,aF,ih,C,D,xg,F,l,bn,bh,cO aB]
  exact cZ (K _) (hf _ (by simp [eo]))
 ·have l:(c.2 !=0)=V:=by rw[kl];omega
  obtain⟨t,aR,O,e⟩:=pm.sO G
  have bC:IntKind.i64.wrap (c.2-1)=(((c.2-1).toNat:Nat):Int):=by rw[wrap64 (by unfold dB;omega)];omega
  have cU:IntKind.i64.wrap (1+(t:Int))=gu c.2 to:=by rw[wrap64 (by unfold dB;omega),e,Int.add_comm]
  have st:=ij h (u2 g) (n:=1) (x:=J E (gu c.2 to)) (f:=1) rfl (by decide) (TN c to)
  rw[kR,<-KK g]at st
  simp only[aU,↓aI,aV,cQ aA,cr,a_,aG,aF,ih,C,D,xg,F,l,bC,qy .i64 O,lG,cU,st,cO aB]
  exact cZ (K _) (hf _ (by simp [eo]))
theorem aiM{N:Nat}(F:70000<N){av ds H:Z}{A:aS->U}{s:aH}{to:List Int}{k m i:Nat}{p:c5}{t:a1}{j:List U->Z->bl}(q:rv av ds H A s to i)(af:ds[k]?=y (.box (aQ A s) t .rw))(pm:c8 to m)(hm:m<=70000)(ah:s.ag[i]?=y p)(aa:∀c∈p.keys,fv c.2 m)(b:kA s)(K:List U->Z->bl):
 zx aL N (dz to) (.ptr k 0) ds (J E s.ag.length) j K [J E (i:Int)] H=K [J E ((i+1:Nat):Int)] (wr H (A (.key i)) 2 89 ((hD to p).keys.map cW)):=by
 have x:=(List.getElem?_eq_some_iff.1 ah).1
 have z:=b A .ag
 have e:=b A (.key i)
 simp only[ao,km,ah,c9]at z e
 have aB:i<9223372036854775807:=by omega
 have g:(jN s to i).ag[i]?=y p:=by rw[tr ah,aW (by omega)]
 have rs:=q.own.rs
 have l:=la (A:=A) g
 have de:ao A (jN s to i) (.key i)=p.keys.map cW:=by simp only[ao,g]
 have o:cY H av.length 2 89 (A (.key i)) (p.keys.map cW):=by rw[<-de];exact q.own.at (k:=.key i) rfl
 have u:=q.bx _ _ _ _ af
 have aG:ab M 1 (.ptr k 12) H=y (A .ag):=ez u (i_ A s)
 have aF:bY 33 (A .ag) (J E (i:Int))=y (di (A .ag) (b1 p (A (.key i)) (A (.bq i)) (A (.bm i)) (A (.bo i))) i 0):=eM (rs .ag) .i64 l
 have C:ab M 1 (di (A .ag) (b1 p (A (.key i)) (A (.bq i)) (A (.bm i)) (A (.bo i))) i 1) H=y (A (.key i)):=(eZ (rs .ag) l _ _ _).trans (j' _ _ _ _ _)
 have w:=fA (rs (.key i))
 rw[de,c9]at w
 have G:=q.next ah
 have D:∀jj,cv (zw aL N (dz to) (.ptr k 0) [J E (i:Int)] H (J E p.keys.length) jj) N [J E 0] H=jj [] (wr H (A (.key i)) 2 89 ((hD to p).keys.map cW)):=λjj=>by
  refine hx (λn=>[J E (n:Int)]) (λn=>wr H (A (.key i)) 2 89 (h3 to p.keys n)) p.keys.length (by omega) rfl (by rw[TL,qu o]) (λn aA K=>?_) λK=>?_
  ·have h:=aiL (N:=N) (j:=jj) q u pm hm ah aa e aA K
   exact h
  ·have aE:((p.keys.length:Int)<(p.keys.length:Int))=False:=dI (by omega)
   unfold zw
   simp only[aU,↓aI,aV,aE,c4,bn,bh]
   rw[TM]
 unfold zx
 simp only[aU,↓aI,aV,cQ x,cr,a_,aG,aF,ih,C,w,D,cO aB]
 exact cZ (K _) (hf _ (by simp [eo,q.len]))
theorem aiN(s:aH)(to:List Int):h0 (jl s to) to=jl (h0 s to) to:=rfl
theorem Uh(s:aH)(cA:aS->U)(h:Z)(aK:gr h cA s)(o:gX s)(W:s.aw≠[])(ad:ke s){to:List Int}(pm:c8 to s.az.length)(aa:eL s.bO 6=M->∀p∈s.aw,∀c∈p.2,fv c.inst s.az.length)(al:∀x∈s.ag,∀c∈x.keys,fv c.2 s.az.length):eG (aL 50 [.agg (aQ cA s),J E 1,dz to] h) (Ae h (eI s to)):=by
 obtain⟨N,aM⟩:∃N:Nat,70000<N:=⟨_,fC _⟩
 refine eG.body (F:=wR) (by kernel_rfl) N ?_
 rw[JE];unfold Dk
 obtain⟨av,t⟩:∃av,av=h++[b3.box (aQ cA s) 27 .rw,eD]:=⟨_,rfl⟩
 have am:=t
 unfold eD at am
 have fa:av.length=h.length+2:=by rw[t];simp
 have aO:gr av cA s:=by rw[t];exact aK.app _
 obtain⟨⟨bl,c'⟩,aR,A1,X,u⟩:=zv s cA av aO o W
 rw[ad.Lc]at X u
 simp only at X u
 subst X
 have aT:=u.lower (h:=h) (by omega) (λb af=>by rw[t,cI af])
 have Y:c'[h.length]?=y (.box (aQ cA s) 27 .rw):=by rw[u.cJ _ (by omega),t,en];rfl
 have cL:c'[h.length+1]?=y eD:=by rw[u.cJ _ (by omega),t,gg];rfl
 have aX:ab V 13 (.ptr h.length 0) av=y (.agg (aQ cA s)):=by rw[t];exact iw (vs:=aQ cA s) (by rw[en];rfl) rfl
 obtain⟨cx,L⟩:∃cx,cx=c'.set h.length (.box (aQ A1 s) 27 .rw):=⟨_,rfl⟩
 have an:=GP Y u.rs
 rw[<-L]at an
 have O:cD h db cx A1 s:=by rw[L];exact aT.box Y (cj _) _
 have cm:cx[h.length]?=y (.box (aQ A1 s) 27 .rw):=by rw[L];exact fK (List.getElem?_eq_some_iff.1 Y).1
 have cH:cx[h.length+1]?=y eD:=by rw[L,hP (by omega)];exact cL
 obtain⟨R,z⟩:∃R,R=ao A1 s .az:=⟨_,rfl⟩
 have aY:R.length=s.az.length:=by rw[z];simp [ao]
 have a0:=o.az
 have a1:=o.ag
 have a2:cY cx h.length 13 43 (A1 .az) R:=by rw[z];exact O.at (k:=.az) rfl
 have ap:eC 43 13 .emp (A1 .az) cx=y (bV cx.length 13 R,cx++cq 13 43 R):=by
  rw[z];exact lB (l5 (O.rs .az)) (by decide) (O.rs.one _) (o.small.gO A1 .az)
 obtain⟨l,D⟩:∃l,l=cx++cq 13 43 R:=⟨_,rfl⟩
 obtain⟨aZ,P⟩:∃aZ,aZ=bV cx.length 13 R:=⟨_,rfl⟩
 have a3:bB M aZ=y (J E R.length):=by rw[P];exact xj _ _ _
 have aq:=Lj a2 13 R
 rw[<-P]at aq
 have gd:dM l 13 aZ R:=by rw[D,P];exact ft (zZ cx 13 43 R)
 rw[<-D,<-P]at ap
 have ac:cD h db l A1 s:=by rw[D];exact O.app _
 have Q:cY l h.length 13 43 (A1 .az) R:=by rw[z];exact ac.at (k:=.az) rfl
 have ar:l[h.length]?=y (.box (aQ A1 s) 27 .rw):=by rw[D];exact ff.app _ _ _ _ _ _ cm
 have a4:l[h.length+1]?=y eD:=by rw[D];exact ff.app _ _ _ _ _ _ cH
 have a5:Rows R 13 (l.length+1):=by rw[z];exact ac.rs.rows (k:=.az) rfl
 have au:c8 to R.length:=by rw[aY];exact pm
 have A:=ac.aiD pm
 rw[<-z,<-Lh au]at A
 obtain⟨G,S⟩:∃G,G=wr l (A1 .az) 13 43 (gD to R R.length):=⟨_,rfl⟩
 rw[<-S]at A
 obtain⟨g,ax⟩:∃g,g=(λk=>A1 (l6 s to k)):=⟨_,rfl⟩
 rw[<-ax]at A
 have a6:aQ A1 s=aQ g (ec s to):=by rw[ax];rfl
 have T:G[h.length]?=y (.box (aQ g (ec s to)) 27 .rw):=by rw[S,<-a6];exact jM Q ar
 have ay:G[h.length+1]?=y eD:=by rw[S];exact jM Q a4
 have a8:((1:Int)==0)=M:=rfl
 have a9:((1:Int)==2)=M:=rfl
 have aA:ab V 13 (.ptr h.length 0) G=y (.agg (aQ g (ec s to))):=iw T rfl
 have aB:=λh=>Ld g (ec s to) h
 have hd:(ec s to).bO=s.bO:=rfl
 have fin:∀(m:aH) (n:Z),cD h db n g m->gX m->m.aw≠[]->m.ag=s.ag->n[h.length]?=y (.box (aQ g m) 27 .rw)->n[h.length+1]?=y eD->∀jj,(∀w H,jj w H=Option.bind (ab V 13 (.ptr h.length 0) H) λa'=>(bf 13 (.ptr (h.length+1) 0) a' H).bind λaC=>(ab V 13 (.ptr (h.length+1) 0) aC).bind λba=>aN [.aj] h aC [ba])->
  eG (cv (zx aL N (dz to) (.ptr h.length 0) n (J E s.ag.length) jj) N [J E 0] n) (Ae h (h0 m to)):=by
  intro m n bb bc bd be aD c2 jj bg
  have bi:rv h n n g m to 0:=⟨by rw[TH];exact bb,ff.refl _,rfl,λb _=>.inl rfl⟩
  rw[<-be]at a1 al|-
  refine nW (λi F=>rv h n F g m to i) m.ag.length (by omega) bi (λi F ai q=>?_) λF q K=>?_
  ·obtain⟨p,ah⟩:=cR ai
   exact⟨_,q.next ah,λK=>aiM (N:=N) aM q aD pm a0 ah (al p (dN ah)) bc.small K⟩
  have aE:((m.ag.length:Int)<(m.ag.length:Int))=False:=dI (by omega)
  have C:=q.own
  rw[TI]at C
  obtain⟨f1,bp,f2,f3,f4,f5⟩:=GN C bd (q.bx _ _ _ _ aD) (q.bx _ _ _ _ c2)
  unfold zx
  simp only[aU,↓aI,aV,aE,c4,bn,bh,bg,f1,f2,f3,f4]
  exact eG.of rfl ⟨g,rfl,f5⟩
 simp only[aU,↓aI,aV,<-am,a8,a9,bn,bh,a_,aX,aR,an,ez cm (lE A1 s),ap,a3]
 have m9:∀jj,cv (zy aL N (dz to) (.ptr h.length 0) (aZ,l) (J E R.length) jj) N [J E 0] l=jj [] G:=λjj=>by
  refine hx (λi=>[J E (i:Int)]) (λi=>wr l (A1 .az) 13 43 (gD to R i)) R.length (by omega) rfl (by rw[Lf,qu Q]) (λi ai K=>?_) λK=>?_
  ·have h:=aiE (N:=N) (j:=jj) Q gd aq ar (lE A1 s) a5 au (by omega) ai K
   exact h
  have aE:((R.length:Int)<(R.length:Int))=False:=dI (by omega)
  unfold zy
  simp only[aU,↓aI,aV,aE,c4,bn,bh,<-S]
 cases br:eL s.bO 6 with
 |true=>
  have ah:eI s to=h0 (ec s to) to:=by unfold eI;rw[aP br]
  have le:=fA (A.rs .ag)
  have ae:(ao g (ec s to) .ag).length=s.ag.length:=by simp [ao,ec]
  rw[ae]at le
  simp only[aU,↓aI,aV,m9,aA,aB,hd,br,fg,bn,bh,ez T (i_ g _),le]
  rw[ah]
  exact fin _ G A (o.ec pm) W rfl T ay _ (λ_ _=>rfl)
 |false=>
  have ah:eI s to=h0 (jl (ec s to) to) to:=by unfold eI;rw[aW (by rw[br];decide),aiN]
  obtain⟨⟨bs,aF⟩,bj,aG,C,ak,bz,-⟩:=Ud A pm o.az (aa br) (o.ec pm)
  simp only at aG C ak bz
  subst aG
  have le:=fA (C.rs .ag)
  have ae:(ao g (jl (ec s to) to) .ag).length=s.ag.length:=by simp [ao,ec,jl]
  rw[ae]at le
  have aJ:aF[h.length]?=y (.box (aQ g (jl (ec s to) to)) 27 .rw):=ak _ _ _ _ T
  simp only[aU,↓aI,aV,m9,aA,aB,hd,br,gN,a_,bj,ez aJ (i_ g _),le]
  rw[ah]
  exact fin _ aF C ((o.ec pm).jl to) (λe=>W (List.map_eq_nil_iff.1 e)) rfl aJ (ak _ _ _ _ ay) _ (λ_ _=>rfl)
theorem Lk(s:aH)(ax:gW s)(h:Z):aL 47 [.agg s.cs] h=y (.bool ((k_ s).2.2==0),h):=by
 refine cu (F:=Dd) (by kernel_rfl) 1 ?_
 rw[abj];unfold O_
 simp only[aU,↓aI,aV,ly,af3 s ax,<-Km,w',I4,I5,I6,dJ]
def kB(H:Z)(L:List Int):U:=.ref H.length 0 L.length L.length 1
theorem Ah{H t rest:Z}{L0 L:List Int}{r:List U}(an:∀v∈r,bM (H.length+1) v):trim (H++.log (L0.map bA) 1 3 .rw::t) r (H++.log (L.map bA) 1 3 .rw::(t++rest))=H++.log (L.map bA) 1 3 .rw::t:=by
 have:=sj (g:=H++.log (L0.map bA) 1 3 .rw::t) (g':=H++.log (L.map bA) 1 3 .rw::t) (rest:=rest) (r:=r) (by simp) (λv ay=>pD (by simp) _ (an v ay)) (λk ad=>by
  by_cases h1:k<H.length
  ·left
   rw[cI h1,cI h1]
  ·obtain⟨j,rfl⟩:∃j,k=H.length+j:=⟨k-H.length,by omega⟩
   rw[gg,gg]
   cases j with
   |zero=>exact .inr ⟨_,rfl,TW _ _ _ _⟩
   |succ j=>exact .inl rfl)
 simpa using this
theorem Ai(H:Z)(L:List Int)(z:Int):∀v∈[kB H L,J E z],bM (H.length+1) v:=λv ay=>by
 simp only[hF,ik,h6]at ay
 rcases ay with rfl|rfl
 ·unfold kB;simp only[bM];omega
 ·simp only[bM]
theorem Ll{H l:Z}{L:List Int}{x:Int}(hm:L.length<=10000000):eC 3 1 (kB H L) (.bE 1 [[J E x]]) (H++.log (L.map bA) 1 3 .rw::l)=y (kB H (L++[x]),H++.log ((L++[x]).map bA) 1 3 .rw::l):=by
 have:=Ub (h:=H) (l:=l) (sz:=1) (n:=L.length) (t:=3) (rows:=L.map bA) (row:=[J E x]) (by simp) (by decide) rfl (by unfold dp;omega)
 unfold kB
 rw[this,jt,dV];rfl
theorem Lm(H:Z)(L:List Int):∃X,cC (.flat 1) (kB H L) (H++[.log (L.map bA) 1 3 .rw])=y (dz L,H++[X]):=by
 unfold kB
 by_cases bu:L.length=0
 ·have:L=[]:=gF bu
  subst this
  refine⟨.log (([]:List Int).map bA) 1 3 .rw,?_⟩
  simp only[cC,List.length_nil,a_]
  rfl
 ·have e:=zj (h:=H) (l:=[.log (L.map bA) 1 3 .rw]) (k:=0) (s:=1) rfl (by rw[c9];omega) (nP (f:=bA) (λc=>rfl) _)
  rw[c9]at e
  exact⟨_,e⟩
theorem Aj(l:List Int):(ed l).length<=l.length:=by
 unfold ed
 rw[c9]
 exact VB _ _
theorem my{α β:Type}{f:α->List β}{m:Nat}:∀{l:List α},(∀a∈l,(f a).length<=m)->(l.flatMap f).length<=l.length*m
 |[],_=>by simp
 |a::l,h=>by
  rw[tS,dV,jS,Nat.succ_mul]
  have h1:=h a (by simp)
  have h2:=my (l:=l) λb af=>h b (L8 _ af)
  omega
theorem Ui(l:List Int)(x:Int):ed (l++[x])=if x=0 then ed l else ed l++[x-1]:=by
 rw[xD]
 unfold ed
 by_cases h:x=0
 ·subst h
  rw[aP rfl]
  show _++[]=_
  rw[fD]
 ·have:(x !=0)=V:=bne_iff_ne.2 h
  rw[aW h,AJ,this,aP rfl];rfl
theorem aiO{N:Nat}{H:Z}{v:U}{l:List Int}(rd:dM H 1 v (l.map bA))(ax:l.length<=70000)(g:70000<N)(jj:List U->Z->bl):
 cv (CB aL N (H++[.log [] 1 3 .rw]) v (J E l.length) jj) N [.ref H.length 0 0 0 1,J E 0] (H++[.log [] 1 3 .rw])=jj [kB H (l.filter λo=>!mark o)] (H++[.log ((l.filter λo=>!mark o).map bA) 1 3 .rw]):=by
 refine hx (λi=>[kB H ((l.take i).filter λo=>!mark o),J E (i:Int)]) (λi=>H++[.log (((l.take i).filter λo=>!mark o).map bA) 1 3 .rw]) l.length (by omega) rfl rfl (λi ai K=>?_) λK=>?_
 ·obtain⟨x,ae⟩:=cR ai
  have aB:i<9223372036854775807:=by omega
  have aR:l.take (i+1)=l.take i++[x]:=qd ae
  obtain⟨L,c⟩:∃L,L=(l.take i).filter λo=>!mark o:=⟨_,rfl⟩
  have e:L.length<=10000000:=by
   have h1:=VB (λo=>!mark o) (l.take i)
   have h2:(l.take i).length<=l.length:=by rw[kD];omega
   rw[<-c]at h1
   omega
  have aG:=eM rd .i64 (n0 ae)
  have aF:∀X,ab M 1 (di v (bA x) i 0) (H++X)=y (J E x):=λX=>(eZ (iv rd X) (n0 ae) _ _ _).trans (lG x)
  have b:=λgM=>Ah (H:=H) (t:=[]) (rest:=[]) (L0:=[]) (L:=gM) (Ai H gM ((i+1:Nat):Int))
  simp only[Ht,fD]at b
  rw[aR,AS,<-c]
  unfold CB
  cases hm:mark x with
  |true=>
   have aE:List.filter (λo=>!mark o) [x]=[]:=by simp [hm]
   rw[aE,fD]
   simp only[aU,↓aI,aV,mI,lI,cQ ai,cr,a_,aG,aF,w5,hm,fg,bn,bh,cO aB,b]
  |false=>
   have aE:List.filter (λo=>!mark o) [x]=[x]:=by simp [hm]
   rw[aE]
   simp only[aU,↓aI,aV,mI,lI,cQ ai,cr,a_,aG,aF,w5,hm,gN,qp,qq,iW,qs,Ll e,cO aB,b]
 ·have aE:((l.length:Int)<(l.length:Int))=False:=dI (by omega)
  unfold CB
  simp only[aU,↓aI,aV,mI,lI,aE,c4,bn,bh,iy]
theorem aiP{N:Nat}{H:Z}{v:U}{bx:b3}{L:List Int}{cs:List Cell}(rd:dM H 6 v (cs.map Cell.cs))(aa:∀c∈cs,0<=c.inst/\c.inst<=70000)(ax:cs.length<=70000)(m:L.length+cs.length<=10000000)(n:70000<N)(jj:List U->Z->bl):
 cv (Cz aL N (H++[.log (L.map bA) 1 3 .rw,bx]) v (J E cs.length) jj) N [kB H L,J E 0] (H++[.log (L.map bA) 1 3 .rw,bx])=jj [kB H (L++ed (cs.map λc=>c.inst))] (H++[.log ((L++ed (cs.map λc=>c.inst)).map bA) 1 3 .rw,bx]):=by
 refine hx (λi=>[kB H (L++ed ((cs.take i).map λc=>c.inst)),J E (i:Int)]) (λi=>H++[.log ((L++ed ((cs.take i).map λc=>c.inst)).map bA) 1 3 .rw,bx]) cs.length (by omega) (by simp [ed]) (by simp [ed]) (λi ai K=>?_) λK=>?_
 ·obtain⟨c,b⟩:=cR ai
  have aB:i<9223372036854775807:=by omega
  have aR:cs.take (i+1)=cs.take i++[c]:=qd b
  have j:(cs.map Cell.cs)[i]?=y c.cs:=by rw[iM,b];rfl
  obtain⟨Y,e⟩:∃Y,Y=L++ed ((cs.take i).map λc=>c.inst):=⟨_,rfl⟩
  have k:Y.length<=10000000:=by
   have h1:=Aj ((cs.take i).map λc=>c.inst)
   rw[c9,kD]at h1
   rw[e,dV]
   omega
  have aG:=eM rd .i64 j
  have aF:∀X,ab V 6 (di v c.cs i 0) (H++X)=y (.agg c.cs):=λX=>(eZ (iv rd X) j _ _ _).trans (gh rfl)
  have g:=λgM=>Ah (H:=H) (t:=[bx]) (rest:=[.box c.cs 41 .rw]) (L0:=L) (L:=gM) (Ai H gM ((i+1:Nat):Int))
  simp only[js,hV]at g
  have cb:IntKind.i64.wrap (c.inst-1)=c.inst-1:=by have:=aa c (dN b);rw[wrap64 (by unfold dB;omega)]
  have l:ed ((cs.take (i+1)).map λc=>c.inst)=if c.inst=0 then ed ((cs.take i).map λc=>c.inst)else ed ((cs.take i).map λc=>c.inst)++[c.inst-1]:=by
   rw[aR,jt];exact Ui _ _
  rw[l]
  unfold Cz
  by_cases bu:c.inst=0
  ·have h:(c.inst !=0)=M:=by rw[bu];rfl
   rw[aP bu,<-e]
   simp only[aU,↓aI,aV,mI,lI,cQ ai,cr,a_,aG,aF,GG,GI,xp,h,bn,bh,cO aB,g]
  ·have h:(c.inst !=0)=V:=bne_iff_ne.2 bu
   rw[aW bu,<-eb,<-e]
   simp only[aU,↓aI,aV,mI,lI,cQ ai,cr,a_,aG,aF,GG,GI,xp,h,cb,qp,qq,iW,qs,Ll k,cO aB,g]
 ·have aE:((cs.length:Int)<(cs.length:Int))=False:=dI (by omega)
  unfold Cz
  simp only[aU,↓aI,aV,mI,lI,aE,c4,bn,bh,iy]
theorem aiQ{N:Nat}{H:Z}{A:aS->U}{s:aH}(rs:gr H A s)(ah:s.aw.length<=1000)(aa:∀p∈s.aw,p.2.length<=2000/\∀c∈p.2,0<=c.inst/\c.inst<=70000)(o:70000<N)(jj:List U->Z->bl):
 cv (CA aL N (H++[.log [] 1 3 .rw]) (A .aw) (J E s.aw.length) jj) N [.ref H.length 0 0 0 1,J E 0] (H++[.log [] 1 3 .rw])=jj [kB H (ed (s.aw.flatMap ci))] (H++[.log ((ed (s.aw.flatMap ci)).map bA) 1 3 .rw]):=by
 refine hx (λi=>[kB H (ed ((s.aw.take i).flatMap ci)),J E (i:Int)]) (λi=>H++[.log ((ed ((s.aw.take i).flatMap ci)).map bA) 1 3 .rw]) s.aw.length (by omega) rfl rfl (λi ai K=>?_) λK=>?_
 ·obtain⟨p,e⟩:=cR ai
  have aB:i<9223372036854775807:=by omega
  have aR:s.aw.take (i+1)=s.aw.take i++[p]:=qd e
  obtain⟨w,jc⟩:=aa p (dN e)
  obtain⟨L,h⟩:∃L,L=ed ((s.aw.take i).flatMap ci):=⟨_,rfl⟩
  have x:L.length<=2000000:=by
   have h1:=Aj ((s.aw.take i).flatMap ci)
   have h2:=my (l:=s.aw.take i) (f:=ci) (m:=2000) λa ha=>by
    unfold ci
    rw[c9]
    exact(aa a (o0 ha)).1
   rw[kD]at h2
   have ak:min i s.aw.length*2000<=1000*2000:=qD _ (by omega)
   rw[<-h]at h1
   omega
  have j:=pE (A:=A) e
  have de:ao A s (.bN i)=p.2.map Cell.cs:=by simp only[ao,e]
  have aG:bY 2 (A .aw) (J E (i:Int))=y (di (A .aw) (e9 p (A (.bN i))) i 0):=eM (rs .aw) .i64 j
  have aF:∀X,ab V 2 (di (A .aw) (e9 p (A (.bN i))) i 0) (H++X)=y (.agg (e9 p (A (.bN i)))):=λX=>(eZ (iv (rs .aw) X) j _ _ _).trans (gh rfl)
  have g:dM H 6 (A (.bN i)) (p.2.map Cell.cs):=by rw[<-de];exact rs (.bN i)
  have k:=fA g
  rw[c9]at k
  have q:=λa b=>TB p (A (.bN i)) a b (kQ g)
  have u:=λjj=>aiP (N:=N) (bx:=.box (e9 p (A (.bN i))) 39 .rw) (L:=L) g jc (by omega) (by omega) o jj
  have n:=λgM=>Ah (H:=H) (t:=[]) (rest:=[.box (e9 p (A (.bN i))) 39 .rw]) (L0:=[]) (L:=gM) (Ai H gM ((i+1:Nat):Int))
  simp only[Ht,fD,hV]at n
  rw[aR,vr,xD,<-h,AT]
  unfold CA
  simp only[aU,↓aI,aV,mI,lI,cQ ai,cr,a_,aG,aF,TC,q,rr,k,u,cO aB,n]
  rfl
 ·have aE:((s.aw.length:Int)<(s.aw.length:Int))=False:=dI (by omega)
  unfold CA
  simp only[aU,↓aI,aV,mI,lI,aE,c4,bn,bh,iy]
theorem aiR{N:Nat}{H:Z}{v:U}{bx:b3}{L:List Int}{cs:List (Int×Int)}(rd:dM H 2 v (cs.map cW))(aa:∀c∈cs,0<=c.2/\c.2<=70000)(ax:cs.length<=70000)(m:L.length+cs.length<=10000000)(n:70000<N)(jj:List U->Z->bl):
 cv (Cx aL N (H++[.log (L.map bA) 1 3 .rw,bx]) v (J E cs.length) jj) N [kB H L,J E 0] (H++[.log (L.map bA) 1 3 .rw,bx])=jj [kB H (L++ed (cs.map λc=>c.2))] (H++[.log ((L++ed (cs.map λc=>c.2)).map bA) 1 3 .rw,bx]):=by
 refine hx (λi=>[kB H (L++ed ((cs.take i).map λc=>c.2)),J E (i:Int)]) (λi=>H++[.log ((L++ed ((cs.take i).map λc=>c.2)).map bA) 1 3 .rw,bx]) cs.length (by omega) (by simp [ed]) (by simp [ed]) (λi ai K=>?_) λK=>?_
 ·obtain⟨c,b⟩:=cR ai
  have aB:i<9223372036854775807:=by omega
  have aR:cs.take (i+1)=cs.take i++[c]:=qd b
  have j:(cs.map cW)[i]?=y (cW c):=by rw[iM,b];rfl
  obtain⟨Y,e⟩:∃Y,Y=L++ed ((cs.take i).map λc=>c.2):=⟨_,rfl⟩
  have k:Y.length<=10000000:=by
   have h1:=Aj ((cs.take i).map λc=>c.2)
   rw[c9,kD]at h1
   rw[e,dV]
   omega
  have aG:=eM rd .i64 j
  have aF:∀X,ab V 2 (di v (cW c) i 0) (H++X)=y (.agg (cW c)):=λX=>(eZ (iv rd X) j _ _ _).trans (gh rfl)
  have g:=λgM=>Ah (H:=H) (t:=[bx]) (rest:=[.box (cW c) 89 .rw]) (L0:=L) (L:=gM) (Ai H gM ((i+1:Nat):Int))
  simp only[js,hV]at g
  have cb:IntKind.i64.wrap (c.2-1)=c.2-1:=by have:=aa c (dN b);rw[wrap64 (by unfold dB;omega)]
  have l:ed ((cs.take (i+1)).map λc=>c.2)=if c.2=0 then ed ((cs.take i).map λc=>c.2)else ed ((cs.take i).map λc=>c.2)++[c.2-1]:=by
   rw[aR,jt];exact Ui _ _
  rw[l]
  unfold Cx
  by_cases bu:c.2=0
  ·have h:(c.2 !=0)=M:=by rw[bu];rfl
   rw[aP bu,<-e]
   simp only[aU,↓aI,aV,mI,lI,cQ ai,cr,a_,aG,aF,K4,K5,z6,h,bn,bh,cO aB,g]
  ·have h:(c.2 !=0)=V:=bne_iff_ne.2 bu
   rw[aW bu,<-eb,<-e]
   simp only[aU,↓aI,aV,mI,lI,cQ ai,cr,a_,aG,aF,K4,K5,z6,h,cb,qp,qq,iW,qs,Ll k,cO aB,g]
 ·have aE:((cs.length:Int)<(cs.length:Int))=False:=dI (by omega)
  unfold Cx
  simp only[aU,↓aI,aV,mI,lI,aE,c4,bn,bh,iy]
theorem aiS{N:Nat}{H:Z}{A:aS->U}{s:aH}(rs:gr H A s)(ah:s.ag.length<=1000)(aa:∀x∈s.ag,x.keys.length<=2000/\∀c∈x.keys,0<=c.2/\c.2<=70000)(n:70000<N)(jj:List U->Z->bl):
 cv (Cy aL N (H++[.log [] 1 3 .rw]) (A .ag) (J E s.ag.length) jj) N [.ref H.length 0 0 0 1,J E 0] (H++[.log [] 1 3 .rw])=jj [kB H (ed (s.ag.flatMap fI))] (H++[.log ((ed (s.ag.flatMap fI)).map bA) 1 3 .rw]):=by
 refine hx (λi=>[kB H (ed ((s.ag.take i).flatMap fI)),J E (i:Int)]) (λi=>H++[.log ((ed ((s.ag.take i).flatMap fI)).map bA) 1 3 .rw]) s.ag.length (by omega) rfl rfl (λi ai K=>?_) λK=>?_
 ·obtain⟨p,b⟩:=cR ai
  have aB:i<9223372036854775807:=by omega
  have aR:s.ag.take (i+1)=s.ag.take i++[p]:=qd b
  obtain⟨u,jc⟩:=aa p (dN b)
  obtain⟨L,e⟩:∃L,L=ed ((s.ag.take i).flatMap fI):=⟨_,rfl⟩
  have w:L.length<=2000000:=by
   have h1:=Aj ((s.ag.take i).flatMap fI)
   have h2:=my (l:=s.ag.take i) (f:=fI) (m:=2000) λa ha=>by
    unfold fI
    rw[c9]
    exact(aa a (o0 ha)).1
   rw[kD]at h2
   have ak:min i s.ag.length*2000<=1000*2000:=qD _ (by omega)
   rw[<-e]at h1
   omega
  have g:=la (A:=A) b
  have de:ao A s (.key i)=p.keys.map cW:=by simp only[ao,b]
  have aG:bY 33 (A .ag) (J E (i:Int))=y (di (A .ag) (b1 p (A (.key i)) (A (.bq i)) (A (.bm i)) (A (.bo i))) i 0):=eM (rs .ag) .i64 g
  have aF:∀X,ab V 33 (di (A .ag) (b1 p (A (.key i)) (A (.bq i)) (A (.bm i)) (A (.bo i))) i 0) (H++X)=y (.agg (b1 p (A (.key i)) (A (.bq i)) (A (.bm i)) (A (.bo i)))):=λX=>(eZ (iv (rs .ag) X) g _ _ _).trans (gh rfl)
  have h:dM H 2 (A (.key i)) (p.keys.map cW):=by rw[<-de];exact rs (.key i)
  have j:=fA h
  rw[c9]at j
  have o:=KL p (A (.key i)) (A (.bq i)) (A (.bm i)) (A (.bo i)) KN (kQ (rs (.key i))) (kQ (rs (.bq i))) (kQ (rs (.bm i))) (kQ (rs (.bo i)))
  have q:=λjj=>aiR (N:=N) (bx:=.box (b1 p (A (.key i)) (A (.bq i)) (A (.bm i)) (A (.bo i))) 57 .rw) (L:=L) h jc (by omega) (by omega) n jj
  have k:=λgM=>Ah (H:=H) (t:=[]) (rest:=[.box (b1 p (A (.key i)) (A (.bq i)) (A (.bm i)) (A (.bo i))) 57 .rw]) (L0:=[]) (L:=gM) (Ai H gM ((i+1:Nat):Int))
  simp only[Ht,fD,hV]at k
  rw[aR,vr,xD,<-e,AT]
  unfold Cy
  simp only[aU,↓aI,aV,mI,lI,cQ ai,cr,a_,aG,aF,KM,o,j',j,q,cO aB,k]
  rfl
 ·have aE:((s.ag.length:Int)<(s.ag.length:Int))=False:=dI (by omega)
  unfold Cy
  simp only[aU,↓aI,aV,mI,lI,aE,c4,bn,bh,iy]
structure ni(h H:Z)(A:aS->U)(s:aH):Prop where
 own:cD h db H A s
 cm:H[h.length]?=y (.box (aQ A s) 27 .rw)
 cH:H[h.length+1]?=y eD
theorem ni.ng{h H:Z}{A:aS->U}{s:aH}(st:ni h H A s){o:Nat}{v:U}(ay:(aQ A s)[o]?=y v)(X:Z):ab M 1 (.ptr h.length o) (H++X)=y v:=ez (ff.app _ _ _ _ _ _ st.cm) ay
theorem ni.Ak{h H:Z}{A:aS->U}{s:aH}(st:ni h H A s)(X:Z):ab V 13 (.ptr h.length 0) (H++X)=y (.agg (aQ A s)):=iw (ff.app _ _ _ _ _ _ st.cm) rfl
theorem ni.low{h H b4 X:Z}{A c:aS->U}{s e:aH}(st:ni h H A s)(own:cD (H++X) db b4 c e):cD h db b4 c e/\b4[h.length]?=y (.box (aQ A s) 27 .rw)/\b4[h.length+1]?=y eD:=by
 have fa:=(List.getElem?_eq_some_iff.1 st.cm).1
 have g:=(List.getElem?_eq_some_iff.1 st.cH).1
 have i:(H++X).length=H.length+X.length:=by simp
 refine⟨own.lower (by omega) λb af=>?_,?_,?_⟩
 ·rw[cI (by omega)];exact st.own.cJ b af
 ·rw[own.cJ _ (by omega),cI fa];exact st.cm
 ·rw[own.cJ _ (by omega),cI g];exact st.cH
theorem ni.of{h b4:Z}{A b:aS->U}{s c:aH}(own:cD h db b4 b c)(cm:b4[h.length]?=y (.box (aQ A s) 27 .rw))(cH:b4[h.length+1]?=y eD):
 ∃G,bf 13 (.ptr h.length 0) (.agg (aQ b c)) b4=y G/\ni h G b c:=by
 have fa:=(List.getElem?_eq_some_iff.1 cm).1
 exact⟨_,GP cm own.rs,own.box cm (cj _) _,fK fa,by rw[hP (by omega)];exact cH⟩
theorem ni.next{h H b4 X:Z}{A b:aS->U}{s c:aH}(st:ni h H A s)(own:cD (H++X) db b4 b c):∃G,bf 13 (.ptr h.length 0) (.agg (aQ b c)) b4=y G/\ni h G b c:=by
 obtain⟨o,cm,cH⟩:=st.low own
 exact ni.of o cm cH
theorem ni.fin{h H b4 X:Z}{A c:aS->U}{s b:aH}(st:ni h H A s)(own:cD (H++X) db b4 c b):∃G,bf 13 (.ptr (h.length+1) 0) (.agg (aQ c b)) b4=y G/\ab V 13 (.ptr (h.length+1) 0) G=y (.agg (aQ c b))/\aN [.agg fp,.aj] h G [.agg (aQ c b),J E 0]=y (.tuple [.agg b.cs,J E 0],h):=by
 obtain⟨o,cm,cH⟩:=st.low own
 have e:bf 13 (.ptr (h.length+1) 0) (.agg (aQ c b)) b4=y (b4.set (h.length+1) (.box (aQ c b) 27 .rw)):=by
  unfold bf
  rw[show(cM (cn (U.agg (aQ c b))).length 13&&fX 0 13)=V from rfl]
  simp only[gG,cH]
  show((cF _ 0 (aQ c b)).map _)=_
  rw[tk o.rs];rfl
 have g:(b4.set (h.length+1) (.box (aQ c b) 27 .rw))[h.length+1]?=y (.box (aQ c b) 27 .rw):=fK (List.getElem?_eq_some_iff.1 cH).1
 exact⟨_,e,iw g rfl,ah5 (o.box cH (by omega) _) 0⟩
structure kT(s:aH):Prop where
 aw:s.aw.length<=1000
 bN:∀p∈s.aw,p.2.length<=2000
 ag:s.ag.length<=1000
 keys:∀x∈s.ag,x.keys.length<=2000
theorem kT.oQ{s:aH}(ok:sd s):kT s:=by
 have ah:=ok.pA
 have b:f' s.bO 2<=256:=px (λr=>l2 r 2<=256) (by decide) (by decide) (by decide) (by decide) (by decide) (by decide) (by decide) s.bO
 have ai:=ok.rq
 unfold b9 at ah
 simp only[dn,eJ]at ah
 refine⟨by omega,λp ah=>by have:=(K8 ok ah).1;omega,by omega,λx ae=>?_⟩
 have:=(GJ ok ae).1
 unfold l0 at this
 simp only[dn,mM,i']at this
 obtain⟨_,_,h1,_⟩:=this
 omega
theorem kT.fe{s:aH}(b:kT s):kT (Go.aM.X.fe s):=by
 refine⟨b.aw,b.bN,?_,λx ae=>?_⟩
 ·show(s.ag.mapIdx _).length<=_
  rw[km];exact b.ag
 ·obtain⟨i,ai,rfl⟩:=List.mem_mapIdx.1 (show x∈s.ag.mapIdx _ from ae)
  unfold jD
  split
  ·exact b.keys _ (pM ai)
  ·show(fV _ 120).length<=_
   rw[Gm];decide
theorem kT.gw{s:aH}{to:List Int}(b:kT s)(p:c8 to s.aw.length):kT (Go.aM.X.gw s to):=
 ⟨by show(eO _ _ _).length<=_;rw[iG];exact b.aw,λq br=>b.bN q (oP p br),b.ag,b.keys⟩
theorem kT.hE{s:aH}{to:List Int}(b:kT s)(p:c8 to s.ag.length):kT (Go.aM.X.hE s to):=
 ⟨by show(s.aw.map _).length<=_;rw[c9];exact b.aw,λq br=>by
  obtain⟨c,cd,rfl⟩:=List.mem_map.1 (show q∈s.aw.map (gv to)from br)
  simp only[gv,c9];exact b.bN c cd,by show(eO _ _ _).length<=_;rw[iG];exact b.ag,λx ae=>b.keys x (oP p ae)⟩
theorem Uj{α:Type}{f:α->List Int}{m:Nat}{l:List α}(ax:l.length<=1000)(hm:m<=2000)(h:∀a∈l,(f a).length<=m):(ed (l.flatMap f)).length<=10000000:=by
 have h1:=Aj (l.flatMap f)
 have h2:=my h
 have ak:l.length*m<=1000*2000:=Nat.mul_le_mul ax hm
 omega
theorem kT.cells{s:aH}(b:kT s):(ed (s.aw.flatMap ci)).length<=10000000:=Uj b.aw (cj _) λp ah=>by
 unfold ci
 rw[c9];exact b.bN p ah
theorem kT.aiT{s:aH}(b:kT s):(ed (s.ag.flatMap fI)).length<=10000000:=Uj b.ag (cj _) λp ah=>by
 unfold fI
 rw[c9];exact b.keys p ah
theorem fB.aiU{s:aH}(b:fB s)(t:kT s):∀p∈s.aw,p.2.length<=2000/\∀c∈p.2,0<=c.inst/\c.inst<=70000:=λp ah=>⟨t.bN p ah,λc aa=>by
 have h1:=b.nh p ah c aa
 have h2:fW s<=70000:=by unfold fW;split;exact b.fU.ag;exact b.fU.az
 unfold fv at h1
 omega⟩
theorem fB.aiV{s:aH}(b:fB s)(t:kT s):∀x∈s.ag,x.keys.length<=2000/\∀c∈x.keys,0<=c.2/\c.2<=70000:=λp ah=>⟨t.keys p ah,λc aa=>by
 have h1:=b.keys p ah c aa
 have h2:=b.fU.az
 unfold fv at h1
 omega⟩
theorem aiW(s:aH)(ax:gW s)(h:Z):aL 15 [.agg s.cs] h=y (xC s,h):=by
 obtain⟨N,L⟩:∃N:Nat,70000<N:=⟨_,fC _⟩
 refine cu (F:=Cw) (by kernel_rfl) N ?_
 rw[aaX];unfold OL xC
 have O:∀H,cC (.agg fp) (.agg s.cs) H=y (.agg s.cs,H):=λH=>zh H rfl
 cases ay:((k_ s).2.2==0)with
 |false=>simp only[aU,↓aI,aV,ly,O,Lk s ax,ay,gN,bn,bh,a_,lr,xf,zW _ _ _ _ _ _ _ _ _ _ _ _ _ _ _ _ _ _ _ _ _ zX,zV,Kp]
 |true=>
  have ok:=Gb ay
  have b:=fB.oQ ok
  have a4:=kT.oQ ok
  obtain⟨av,n⟩:∃av,av=h++[b3.box s.cs 27 .rw,eD]:=⟨_,rfl⟩
  have P:=n
  unfold eD at P
  have fa:av.length=h.length+2:=by rw[n];simp
  have aA:ab V 13 (.ptr h.length 0) av=y (.agg s.cs):=by rw[n];exact iw (vs:=s.cs) (by rw[en];rfl) rfl
  obtain⟨⟨bv,c'⟩,Q,A1,aB,D⟩:=zv s (iY s) av (Gd av s) b.fU b.ne
  simp only at aB D
  subst aB
  rw[Gc]at Q
  have a5:c'[h.length]?=y (.box (aQ (iY s) s) 27 .rw):=by rw[D.cJ _ (by omega),n,en];rfl
  have cL:c'[h.length+1]?=y eD:=by rw[D.cJ _ (by omega),n,gg];rfl
  obtain⟨R,o9,gB⟩:=ni.of (D.lower (h:=h) (by omega) (λb af=>by rw[n,cI af])) a5 cL
  have E:=b.fe
  have a6:=a4.fe
  obtain⟨g,G⟩:∃g,g=s.bk.filter λo=>!mark o:=⟨_,rfl⟩
  have aC:=gB.own.rs .bk
  have S:=fA aC
  have a8:(ao A1 (fe s) .bk).length=s.bk.length:=by simp [ao,fe]
  rw[a8]at S
  have T:=λjj=>aiO (N:=N) (H:=R) (v:=A1 .bk) (l:=s.bk) aC b.fU.bk L jj
  rw[<-G]at T
  obtain⟨a9,aD⟩:=Lm R g
  have U:=fA (gB.own.rs .aw)
  have a':(ao A1 (fe s) .aw).length=s.aw.length:=by simp [ao,fe]
  rw[a']at U
  have aF:∀x∈g,mH s.aw.length x:=λx ae=>by
   rw[G]at ae
   obtain⟨h1,h2⟩:=List.mem_filter.1 ae
   exact b.bk x h1 (by simpa using h2)
  have aG:=λH=>wK (h:=H) b.fU.aw (show g.length<=10000000 by
   have h1:=VB (λo=>!mark o) s.bk
   have h2:=b.fU.bk
   rw[<-G]at h1
   omega) aF
  have ba:dG g s.aw.length=dG (dA s.bk) s.aw.length:=by rw[G];exact(Lb b.bk).symm
  have W:c8 (dG g s.aw.length) s.aw.length:=lH aF
  obtain⟨⟨bw,bx⟩,X,q,aJ,Y⟩:=aiJ (fe s) A1 (R++[a9]) (gB.own.rs.app _) E.fU E.ne W E.bk
  simp only at aJ Y
  subst aJ
  have ac:gw (fe s) (dG g s.aw.length)=c0 s:=by rw[ba];rfl
  rw[ac]at X Y
  have cH:fB (c0 s):=by rw[<-ac];exact E.gw W
  have I:kT (c0 s):=by rw[<-ac];exact a6.gw W
  have ad:ke (c0 s):=(Ug s).gw _
  obtain⟨ai,aK,e4⟩:=gB.next Y
  have tb:(c0 s).aw.length=s.aw.length:=iG _ _ _
  have ak:=fA (e4.own.rs .aw)
  have bb:(ao q (c0 s) .aw).length=(c0 s).aw.length:=by simp [ao]
  rw[bb]at ak
  have al:=λjj=>aiQ (N:=N) e4.own.rs I.aw (cH.aiU I) L jj
  obtain⟨e,am⟩:∃e,e=ed ((c0 s).aw.flatMap ci):=⟨_,rfl⟩
  have J:e=jE (c0 s):=by rw[am];exact(Ag cH).symm
  have aM:e.length<=10000000:=by rw[am];exact I.cells
  rw[<-am]at al
  obtain⟨aN,aO⟩:=Lm ai e
  have aR:=λH=>Ld q (c0 s) H
  have hd:(c0 s).bO=s.bO:=rfl
  have aS:(c0 s).az.length=s.az.length:=rfl
  have w:(c0 s).ag.length=s.ag.length:=by show(s.ag.mapIdx _).length=_;rw[km]
  cases br:eL s.bO 6 with
  |false=>
   have t:fW (c0 s)=s.az.length:=by unfold fW;rw[hd,aW (by rw[br];decide),aS]
   have jY:dv s=eI (c0 s) (dG e s.az.length):=by unfold dv;rw[aW (by rw[br];decide),J]
   have z:∀x∈e,mH s.az.length x:=by rw[J,<-t];exact sm cH
   have an:=λH=>wK (h:=H) b.fU.az aM z
   have i:c8 (dG e s.az.length) (c0 s).az.length:=lH z
   have A:=fA (e4.own.rs .az)
   have ap:(ao q (c0 s) .az).length=s.az.length:=by rw[<-aS];simp [ao]
   rw[ap]at A
   obtain⟨⟨bc,bd⟩,B,k6,C,m⟩:=Uh (c0 s) q (ai++[aN]) (e4.own.rs.app _) cH.fU cH.ne ad i (λ_ p ah c aa=>by have:=cH.nh p ah c aa;rwa [t]at this) cH.keys
   simp only at C m
   subst C
   rw[<-jY]at B m
   obtain⟨F,f2,f3,f4⟩:=e4.fin m
   simp only[aU,↓aI,aV,<-P,aA,O,Lk s ax,ay,fg,gN,bn,bh,a_,Q,o9,gB.ng (sh _ _),S,T,gB.Ak,gB.ng (j_ _ _),U,aD,aG,r2,X,aK,e4.ng (j_ _ _),ak,al,e4.Ak,aR,hd,br,e4.ng (lE _ _),A,aO,an,B,f2,f3,f4]
  |true=>
   have t:fW (c0 s)=s.ag.length:=by unfold fW;rw[hd,aP br,w]
   have jY:dv s=eI (ea s) (dG (ed ((ea s).ag.flatMap fI)) s.az.length):=by
    have i:c8 (dG (jE (c0 s)) s.ag.length) (c0 s).ag.length:=by
     rw[w];exact lH (by rw[<-t];exact sm cH)
    have j:fB (ea s):=cH.hE i (by rw[hd];exact br)
    unfold dv;rw[aP br,GO j]
   have z:∀x∈e,mH s.ag.length x:=by rw[J,<-t];exact sm cH
   have an:=λH=>wK (h:=H) b.fU.ag aM z
   have i:c8 (dG e s.ag.length) (c0 s).ag.length:=by rw[w];exact lH z
   have A:=fA (e4.own.rs .ag)
   have ap:(ao q (c0 s) .ag).length=s.ag.length:=by rw[<-w];simp [ao]
   rw[ap]at A
   obtain⟨⟨bc,bd⟩,B,k6,C,m⟩:=aiK (c0 s) q (ai++[aN]) (e4.own.rs.app _) cH.fU cH.ne ad (by rw[hd];exact br) i (λp ah c aa=>by have:=cH.nh p ah c aa;rwa [t,<-w]at this)
   simp only at C m
   subst C
   have K:hE (c0 s) (dG e s.ag.length)=ea s:=by rw[J];rfl
   rw[K]at B m
   have j:fB (ea s):=by rw[<-K];exact cH.hE i (by rw[hd];exact br)
   have aq:kT (ea s):=by rw[<-K];exact I.hE i
   have be:ke (ea s):=by rw[<-K];exact ad.hE i
   obtain⟨aT,bf,k⟩:=e4.next m
   have aX:(ea s).az.length=s.az.length:=rfl
   have bg:(ea s).bO=s.bO:=rfl
   have aY:=fA (k.own.rs .ag)
   have bi:(ao k6 (ea s) .ag).length=(ea s).ag.length:=by simp [ao]
   rw[bi]at aY
   have aZ:=λjj=>aiS (N:=N) k.own.rs aq.ag (j.aiV aq) L jj
   obtain⟨u,ar⟩:∃u,u=ed ((ea s).ag.flatMap fI):=⟨_,rfl⟩
   have bj:u.length<=10000000:=by rw[ar];exact aq.aiT
   rw[<-ar]at aZ jY
   obtain⟨bl,bp⟩:=Lm aT u
   have a0:∀x∈u,mH s.az.length x:=by
    rw[ar,<-GO j]
    exact xA (by rw[<-aX];exact xB j)
   have bs:=λH=>wK (h:=H) b.fU.az bj a0
   have bt:c8 (dG u s.az.length) (ea s).az.length:=lH a0
   have a1:=fA (k.own.rs .az)
   have bu:(ao k6 (ea s) .az).length=s.az.length:=by rw[<-aX];simp [ao]
   rw[bu]at a1
   obtain⟨⟨bz,bA⟩,a2,bB,a3,au⟩:=Uh (ea s) k6 (aT++[bl]) (k.own.rs.app _) j.fU j.ne be bt (λaE=>by rw[bg,br]at aE;cases aE) j.keys
   simp only at a3 au
   subst a3
   rw[<-jY]at a2 au
   obtain⟨F,f2,f3,f4⟩:=k.fin au
   simp only[aU,↓aI,aV,<-P,aA,O,Lk s ax,ay,fg,gN,bn,bh,a_,Q,o9,gB.ng (sh _ _),S,T,gB.Ak,gB.ng (j_ _ _),U,aD,aG,r2,X,aK,e4.ng (j_ _ _),ak,al,e4.Ak,aR,hd,br,e4.ng (i_ _ _),A,aO,an,B,bf,k.ng (i_ _ _),aY,aZ,k.Ak,k.ng (lE _ _),a1,bp,bs,a2,f2,f3,f4]
theorem Ln(x au:Int×Int):lT [.int,.int] V (.agg (cW x)) (.agg (cW au))=y (.bool (decide (x≠au))):=by
 obtain⟨a,b⟩:=x
 obtain⟨c,d⟩:=au
 simp only[lT,kq,cW]
 by_cases h1:a=c<;>by_cases h2:b=d<;>simp [h1,h2]
theorem Uk(c:Int×Int):e7 V 0 2 (cW c)=y (.agg (cW c)):=gh rfl
theorem tx{α:Type}[DecidableEq α]{a b:List α}(bz:a.length=b.length){i:Nat}{x au:α}(h1:a[i]?=y x)(h2:b[i]?=y au)(c:x≠au):decide (a=b)=M:=by
 rw[iA]
 rintro rfl
 rw[h1]at h2
 cases h2
 exact c rfl
theorem tz{α:Type}[DecidableEq α]{a b:List α}(bz:a.length=b.length)(h:∀(i:Nat) (x au:α),a[i]?=y x->b[i]?=y au->x=au):decide (a=b)=V:=by
 rw[eJ]
 apply List.ext_getElem bz
 intro i h1 h2
 exact h i _ _ (fJ h1) (fJ h2)
theorem tA{α:Type}[DecidableEq α]{a b:List α}(h:a.length≠b.length):decide (a=b)=M:=by
 rw[iA]
 rintro rfl
 exact h rfl
def gm{α:Type}[DecidableEq α](a b:List α)(i:Nat):Bool:=match a[i]?,b[i]? with
 |some x,y au=>decide (x≠au)
 |_,_=>M
theorem Ul(c:Int×Int):e7 V 0 2 (jB c)=y (.agg (jB c)):=gh rfl
theorem Um(x au:Int×Int):lT [.int,.int] V (.agg (jB x)) (.agg (jB au))=y (.bool (decide (x≠au))):=Ln x au
instance:DecidableEq Cell:=λx au=>
 if h:x.note=au.note/\x.inst=au.inst/\x.po=au.po/\x.oJ=au.oJ/\x.kO=au.kO/\x.wV=au.wV then isTrue (by
  obtain⟨a,b,c,d,e,f⟩:=x
  obtain⟨a',bj,g,i,e',bX⟩:=au
  obtain⟨rfl,rfl,rfl,rfl,rfl,rfl⟩:=h
  rfl)
 else isFalse (by rintro rfl;exact h ⟨rfl,rfl,rfl,rfl,rfl,rfl⟩)
theorem Un(x au:Cell):lT [.int,.int,.int,.int,.int,.int] V (.agg x.cs) (.agg au.cs)=y (.bool (decide (x≠au))):=by
 obtain⟨a,b,c,d,e,f⟩:=x
 obtain⟨a',bj,g,h,e',bX⟩:=au
 simp only[lT,kq,Cell.cs,a_,dw,Bool.true_bne]
 congr 2
 rw[Bool.eq_iff_iff]
 simp [Cell.mk.injEq]
theorem Uo(x au:Int):(x !=au)=decide (x≠au):=by
 by_cases h:x=au<;>simp [h]
theorem Lo(a b:List Int)(hm:a.length<9223372036854775808)(h:Z):aL 33 [dz a,dz b] h=y (.bool (decide (a=b)),h):=by
 obtain⟨N,k⟩:∃N:Nat,a.length<N:=⟨_,fC _⟩
 refine cu (F:=CS) (by kernel_rfl) N ?_
 rw[aa8];unfold OW
 by_cases bz:a.length=b.length
 ·have c:((a.length:Int) !=(b.length:Int))=M:=by rw[bz];simp
  simp only[aU,↓aI,aV,lV,hc,c,bn,bh]
  have e:∀(i:Nat) (K:List U->Z->bl) (g:List U->Z->bl),i<a.length->CT aL N (dz a) (dz b) h h (J E a.length) g K [J E i] h=if gm a b i=V then y (.bool M,h)else K [J E ((i+1:Nat):Int)] h:=λi K g ai=>by
   obtain⟨x,ae⟩:=cR ai
   obtain⟨au,ba⟩:=cR (show i<b.length by omega)
   unfold CT gm
   simp only[aU,↓aI,aV,cQ ai,cr,a_,nQ _ ae,nQ _ ba,uV,hc,Uo,ae,ba,dZ,cO (show i<9223372036854775807 by omega)]
   cases decide (x≠au)<;>simp only[a_,bn,bh,jJ]
  refine lW (gm a b) (λi=>[J E (i:Int)]) (λ_=>h) a.length k rfl rfl (λi ai af K=>?_) (λi ai af j K=>?_) (λj K=>?_)
  ·rw[e i K _ ai,aW (by rw[af];decide)]
  ·rw[e i K _ ai,aP af]
   obtain⟨x,ae⟩:=cR ai
   obtain⟨au,ba⟩:=cR (show i<b.length by omega)
   unfold gm at af
   simp only[ae,ba,eJ]at af
   rw[tx bz ae ba af]
  ·unfold CT
   simp only[aU,↓aI,aV,gl,c4,bn,bh,dZ]
   rw[tz bz]
   intro i x au ae ba
   have:=j i (List.getElem?_eq_some_iff.1 ae).1
   unfold gm at this
   simpa only[ae,ba,iA,vt]using this
 ·have c:((a.length:Int) !=(b.length:Int))=V:=by rw[kl];omega
  simp only[aU,↓aI,aV,lV,hc,c,a_,dZ,tA bz]
theorem uy(a b:List Int)(hm:a.length<9223372036854775808)(h:Z):aL 26 [dz a,dz b] h=y (.bool (decide (a=b)),h):=by
 obtain⟨N,k⟩:∃N:Nat,a.length<N:=⟨_,fC _⟩
 refine cu (F:=CH) (by kernel_rfl) N ?_
 rw[aa1];unfold OP
 by_cases bz:a.length=b.length
 ·have c:((a.length:Int) !=(b.length:Int))=M:=by rw[bz];simp
  simp only[aU,↓aI,aV,lV,hc,c,bn,bh]
  have e:∀(i:Nat) (K:List U->Z->bl) (g:List U->Z->bl),i<a.length->CI aL N (dz a) (dz b) h h (J E a.length) g K [J E i] h=if gm a b i=V then y (.bool M,h)else K [J E ((i+1:Nat):Int)] h:=λi K g ai=>by
   obtain⟨x,ae⟩:=cR ai
   obtain⟨au,ba⟩:=cR (show i<b.length by omega)
   unfold CI gm
   simp only[aU,↓aI,aV,cQ ai,cr,a_,nQ _ ae,nQ _ ba,uV,hc,Uo,ae,ba,dZ,cO (show i<9223372036854775807 by omega)]
   cases decide (x≠au)<;>simp only[a_,bn,bh,jJ]
  refine lW (gm a b) (λi=>[J E (i:Int)]) (λ_=>h) a.length k rfl rfl (λi ai af K=>?_) (λi ai af j K=>?_) (λj K=>?_)
  ·rw[e i K _ ai,aW (by rw[af];decide)]
  ·rw[e i K _ ai,aP af]
   obtain⟨x,ae⟩:=cR ai
   obtain⟨au,ba⟩:=cR (show i<b.length by omega)
   unfold gm at af
   simp only[ae,ba,eJ]at af
   rw[tx bz ae ba af]
  ·unfold CI
   simp only[aU,↓aI,aV,gl,c4,bn,bh,dZ]
   rw[tz bz]
   intro i x au ae ba
   have:=j i (List.getElem?_eq_some_iff.1 ae).1
   unfold gm at this
   simpa only[ae,ba,iA,vt]using this
 ·have c:((a.length:Int) !=(b.length:Int))=V:=by rw[kl];omega
  simp only[aU,↓aI,aV,lV,hc,c,a_,dZ,tA bz]
theorem aiX(a b:List Cell)(hm:a.length<9223372036854775808)(h:Z):aL 131 [ie a,ie b] h=y (.bool (decide (a=b)),h):=by
 obtain⟨N,k⟩:∃N:Nat,a.length<N:=⟨_,fC _⟩
 refine cu (F:=ED) (by kernel_rfl) N ?_
 rw[adS];unfold Qf
 by_cases bz:a.length=b.length
 ·have c:((a.length:Int) !=(b.length:Int))=M:=by rw[bz];simp
  simp only[aU,↓aI,aV,lZ,hc,c,bn,bh]
  have e:∀(i:Nat) (K:List U->Z->bl) (g:List U->Z->bl),i<a.length->EE aL N (ie a) (ie b) h h (J E a.length) g K [J E i] h=if gm a b i=V then y (.bool M,h)else K [J E ((i+1:Nat):Int)] h:=λi K g ai=>by
   obtain⟨x,ae⟩:=cR ai
   obtain⟨au,ba⟩:=cR (show i<b.length by omega)
   unfold EE gm
   simp only[aU,↓aI,aV,cQ ai,cr,a_,ps _ ae,ps _ ba,GH,Un,ae,ba,dZ,cO (show i<9223372036854775807 by omega)]
   cases decide (x≠au)<;>simp only[a_,bn,bh,jJ]
  refine lW (gm a b) (λi=>[J E (i:Int)]) (λ_=>h) a.length k rfl rfl (λi ai af K=>?_) (λi ai af j K=>?_) (λj K=>?_)
  ·rw[e i K _ ai,aW (by rw[af];decide)]
  ·rw[e i K _ ai,aP af]
   obtain⟨x,ae⟩:=cR ai
   obtain⟨au,ba⟩:=cR (show i<b.length by omega)
   unfold gm at af
   simp only[ae,ba,eJ]at af
   rw[tx bz ae ba af]
  ·unfold EE
   simp only[aU,↓aI,aV,gl,c4,bn,bh,dZ]
   rw[tz bz]
   intro i x au ae ba
   have:=j i (List.getElem?_eq_some_iff.1 ae).1
   unfold gm at this
   simpa only[ae,ba,iA,vt]using this
 ·have c:((a.length:Int) !=(b.length:Int))=V:=by rw[kl];omega
  simp only[aU,↓aI,aV,lZ,hc,c,a_,dZ,tA bz]
theorem Ju(a b:List Cell)(hm:a.length<9223372036854775808)(h:Z):aL 73 [ie a,ie b] h=y (.bool (decide (a=b)),h):=by
 obtain⟨N,k⟩:∃N:Nat,a.length<N:=⟨_,fC _⟩
 refine cu (F:=DB) (by kernel_rfl) N ?_
 rw[abz];unfold Po
 by_cases bz:a.length=b.length
 ·have c:((a.length:Int) !=(b.length:Int))=M:=by rw[bz];simp
  simp only[aU,↓aI,aV,lZ,hc,c,bn,bh]
  have e:∀(i:Nat) (K:List U->Z->bl) (g:List U->Z->bl),i<a.length->DC aL N (ie a) (ie b) h h (J E a.length) g K [J E i] h=if gm a b i=V then y (.bool M,h)else K [J E ((i+1:Nat):Int)] h:=λi K g ai=>by
   obtain⟨x,ae⟩:=cR ai
   obtain⟨au,ba⟩:=cR (show i<b.length by omega)
   unfold DC gm
   simp only[aU,↓aI,aV,cQ ai,cr,a_,ps _ ae,ps _ ba,GH,Un,ae,ba,dZ,cO (show i<9223372036854775807 by omega)]
   cases decide (x≠au)<;>simp only[a_,bn,bh,jJ]
  refine lW (gm a b) (λi=>[J E (i:Int)]) (λ_=>h) a.length k rfl rfl (λi ai af K=>?_) (λi ai af j K=>?_) (λj K=>?_)
  ·rw[e i K _ ai,aW (by rw[af];decide)]
  ·rw[e i K _ ai,aP af]
   obtain⟨x,ae⟩:=cR ai
   obtain⟨au,ba⟩:=cR (show i<b.length by omega)
   unfold gm at af
   simp only[ae,ba,eJ]at af
   rw[tx bz ae ba af]
  ·unfold DC
   simp only[aU,↓aI,aV,gl,c4,bn,bh,dZ]
   rw[tz bz]
   intro i x au ae ba
   have:=j i (List.getElem?_eq_some_iff.1 ae).1
   unfold gm at this
   simpa only[ae,ba,iA,vt]using this
 ·have c:((a.length:Int) !=(b.length:Int))=V:=by rw[kl];omega
  simp only[aU,↓aI,aV,lZ,hc,c,a_,dZ,tA bz]
theorem aiY(a b:List (Int×Int))(hm:a.length<9223372036854775808)(h:Z):aL 132 [j7 a,j7 b] h=y (.bool (decide (a=b)),h):=by
 obtain⟨N,k⟩:∃N:Nat,a.length<N:=⟨_,fC _⟩
 refine cu (F:=EF) (by kernel_rfl) N ?_
 rw[adT];unfold Qg
 by_cases bz:a.length=b.length
 ·have c:((a.length:Int) !=(b.length:Int))=M:=by rw[bz];simp
  simp only[aU,↓aI,aV,oL,hc,c,bn,bh]
  have e:∀(i:Nat) (K:List U->Z->bl) (g:List U->Z->bl),i<a.length->EG aL N (j7 a) (j7 b) h h (J E a.length) g K [J E i] h=if gm a b i=V then y (.bool M,h)else K [J E ((i+1:Nat):Int)] h:=λi K g ai=>by
   obtain⟨x,ae⟩:=cR ai
   obtain⟨au,ba⟩:=cR (show i<b.length by omega)
   unfold EG gm
   simp only[aU,↓aI,aV,cQ ai,cr,a_,re _ ae,re _ ba,Uk,Ln,ae,ba,dZ,cO (show i<9223372036854775807 by omega)]
   cases decide (x≠au)<;>simp only[a_,bn,bh,jJ]
  refine lW (gm a b) (λi=>[J E (i:Int)]) (λ_=>h) a.length k rfl rfl (λi ai af K=>?_) (λi ai af j K=>?_) (λj K=>?_)
  ·rw[e i K _ ai,aW (by rw[af];decide)]
  ·rw[e i K _ ai,aP af]
   obtain⟨x,ae⟩:=cR ai
   obtain⟨au,ba⟩:=cR (show i<b.length by omega)
   unfold gm at af
   simp only[ae,ba,eJ]at af
   rw[tx bz ae ba af]
  ·unfold EG
   simp only[aU,↓aI,aV,gl,c4,bn,bh,dZ]
   rw[tz bz]
   intro i x au ae ba
   have:=j i (List.getElem?_eq_some_iff.1 ae).1
   unfold gm at this
   simpa only[ae,ba,iA,vt]using this
 ·have c:((a.length:Int) !=(b.length:Int))=V:=by rw[kl];omega
  simp only[aU,↓aI,aV,oL,hc,c,a_,dZ,tA bz]
theorem aiZ(a b:List (Int×Int))(hm:a.length<9223372036854775808)(h:Z):aL 74 [j7 a,j7 b] h=y (.bool (decide (a=b)),h):=by
 obtain⟨N,k⟩:∃N:Nat,a.length<N:=⟨_,fC _⟩
 refine cu (F:=DD) (by kernel_rfl) N ?_
 rw[abA];unfold Pp
 by_cases bz:a.length=b.length
 ·have c:((a.length:Int) !=(b.length:Int))=M:=by rw[bz];simp
  simp only[aU,↓aI,aV,oL,hc,c,bn,bh]
  have e:∀(i:Nat) (K:List U->Z->bl) (g:List U->Z->bl),i<a.length->DE aL N (j7 a) (j7 b) h h (J E a.length) g K [J E i] h=if gm a b i=V then y (.bool M,h)else K [J E ((i+1:Nat):Int)] h:=λi K g ai=>by
   obtain⟨x,ae⟩:=cR ai
   obtain⟨au,ba⟩:=cR (show i<b.length by omega)
   unfold DE gm
   simp only[aU,↓aI,aV,cQ ai,cr,a_,re _ ae,re _ ba,Uk,Ln,ae,ba,dZ,cO (show i<9223372036854775807 by omega)]
   cases decide (x≠au)<;>simp only[a_,bn,bh,jJ]
  refine lW (gm a b) (λi=>[J E (i:Int)]) (λ_=>h) a.length k rfl rfl (λi ai af K=>?_) (λi ai af j K=>?_) (λj K=>?_)
  ·rw[e i K _ ai,aW (by rw[af];decide)]
  ·rw[e i K _ ai,aP af]
   obtain⟨x,ae⟩:=cR ai
   obtain⟨au,ba⟩:=cR (show i<b.length by omega)
   unfold gm at af
   simp only[ae,ba,eJ]at af
   rw[tx bz ae ba af]
  ·unfold DE
   simp only[aU,↓aI,aV,gl,c4,bn,bh,dZ]
   rw[tz bz]
   intro i x au ae ba
   have:=j i (List.getElem?_eq_some_iff.1 ae).1
   unfold gm at this
   simpa only[ae,ba,iA,vt]using this
 ·have c:((a.length:Int) !=(b.length:Int))=V:=by rw[kl];omega
  simp only[aU,↓aI,aV,oL,hc,c,a_,dZ,tA bz]
theorem ai0(a b:List (Int×Int))(hm:a.length<9223372036854775808)(h:Z):aL 161 [ig a,ig b] h=y (.bool (decide (a=b)),h):=by
 obtain⟨N,k⟩:∃N:Nat,a.length<N:=⟨_,fC _⟩
 refine cu (F:=Fj) (by kernel_rfl) N ?_
 rw[aei];unfold QG
 by_cases bz:a.length=b.length
 ·have c:((a.length:Int) !=(b.length:Int))=M:=by rw[bz];simp
  simp only[aU,↓aI,aV,ta,hc,c,bn,bh]
  have e:∀(i:Nat) (K:List U->Z->bl) (g:List U->Z->bl),i<a.length->Fk aL N (ig a) (ig b) h h (J E a.length) g K [J E i] h=if gm a b i=V then y (.bool M,h)else K [J E ((i+1:Nat):Int)] h:=λi K g ai=>by
   obtain⟨x,ae⟩:=cR ai
   obtain⟨au,ba⟩:=cR (show i<b.length by omega)
   unfold Fk gm
   simp only[aU,↓aI,aV,cQ ai,cr,a_,rf _ ae,rf _ ba,Ul,Um,ae,ba,dZ,cO (show i<9223372036854775807 by omega)]
   cases decide (x≠au)<;>simp only[a_,bn,bh,jJ]
  refine lW (gm a b) (λi=>[J E (i:Int)]) (λ_=>h) a.length k rfl rfl (λi ai af K=>?_) (λi ai af j K=>?_) (λj K=>?_)
  ·rw[e i K _ ai,aW (by rw[af];decide)]
  ·rw[e i K _ ai,aP af]
   obtain⟨x,ae⟩:=cR ai
   obtain⟨au,ba⟩:=cR (show i<b.length by omega)
   unfold gm at af
   simp only[ae,ba,eJ]at af
   rw[tx bz ae ba af]
  ·unfold Fk
   simp only[aU,↓aI,aV,gl,c4,bn,bh,dZ]
   rw[tz bz]
   intro i x au ae ba
   have:=j i (List.getElem?_eq_some_iff.1 ae).1
   unfold gm at this
   simpa only[ae,ba,iA,vt]using this
 ·have c:((a.length:Int) !=(b.length:Int))=V:=by rw[kl];omega
  simp only[aU,↓aI,aV,ta,hc,c,a_,dZ,tA bz]
theorem ai1(a b:List (Int×Int))(hm:a.length<9223372036854775808)(h:Z):aL 130 [ig a,ig b] h=y (.bool (decide (a=b)),h):=by
 obtain⟨N,k⟩:∃N:Nat,a.length<N:=⟨_,fC _⟩
 refine cu (F:=EB) (by kernel_rfl) N ?_
 rw[adR];unfold Qe
 by_cases bz:a.length=b.length
 ·have c:((a.length:Int) !=(b.length:Int))=M:=by rw[bz];simp
  simp only[aU,↓aI,aV,ta,hc,c,bn,bh]
  have e:∀(i:Nat) (K:List U->Z->bl) (g:List U->Z->bl),i<a.length->EC aL N (ig a) (ig b) h h (J E a.length) g K [J E i] h=if gm a b i=V then y (.bool M,h)else K [J E ((i+1:Nat):Int)] h:=λi K g ai=>by
   obtain⟨x,ae⟩:=cR ai
   obtain⟨au,ba⟩:=cR (show i<b.length by omega)
   unfold EC gm
   simp only[aU,↓aI,aV,cQ ai,cr,a_,rf _ ae,rf _ ba,Ul,Um,ae,ba,dZ,cO (show i<9223372036854775807 by omega)]
   cases decide (x≠au)<;>simp only[a_,bn,bh,jJ]
  refine lW (gm a b) (λi=>[J E (i:Int)]) (λ_=>h) a.length k rfl rfl (λi ai af K=>?_) (λi ai af j K=>?_) (λj K=>?_)
  ·rw[e i K _ ai,aW (by rw[af];decide)]
  ·rw[e i K _ ai,aP af]
   obtain⟨x,ae⟩:=cR ai
   obtain⟨au,ba⟩:=cR (show i<b.length by omega)
   unfold gm at af
   simp only[ae,ba,eJ]at af
   rw[tx bz ae ba af]
  ·unfold EC
   simp only[aU,↓aI,aV,gl,c4,bn,bh,dZ]
   rw[tz bz]
   intro i x au ae ba
   have:=j i (List.getElem?_eq_some_iff.1 ae).1
   unfold gm at this
   simpa only[ae,ba,iA,vt]using this
 ·have c:((a.length:Int) !=(b.length:Int))=V:=by rw[kl];omega
  simp only[aU,↓aI,aV,ta,hc,c,a_,dZ,tA bz]
theorem Lp(h:Z)(a b c d:b3)(r:List U):trim (h++[a,b]) r (h++[c,d])=h++[c,d]:=hf _ (by simp)
def tB(a b:ByteArray):Bool:=a.toList==b.toList
def nj(p q:d_):Bool:=(p.1==q.1)&&decide (p.2=q.2)
def sn(a b:bP):Bool:=decide (a.dk=b.dk)&&(a.on==b.on)&&(a.uN==b.uN)&&(a.e6==b.e6)&&(a.uO==b.uO)&&(a.m9==b.m9)&&(a.ls==b.ls)&&(a.le==b.le)
def nk(a b:ey):Bool:=decide (a.data=b.data)&&tB a.name b.name&&(a.bits==b.bits)&&(a.pt==b.pt)&&(a.bq==b.bq)&&(a.bm==b.bm)&&(a.ks==b.ks)&&(a.lo==b.lo)&&(a.st==b.st)&&(a.jY==b.jY)&&(a.uI==b.uI)&&(a.uJ==b.uJ)&&(a.uK==b.uK)
def nm(a b:c5):Bool:=decide (a.keys=b.keys)&&sn a.bq b.bq&&sn a.bm b.bm&&sn a.bo b.bo&&tB a.name b.name&&(a.uP==b.uP)&&(a.rh==b.rh)&&(a.dup==b.dup)&&(a.uQ==b.uQ)&&(a.uR==b.uR)&&(a.cut==b.cut)&&(a.res==b.res)
theorem Al(a b:ByteArray):ar .eql (.str a) (.str b)=y (.bool (tB a b)):=ca rfl
theorem Lq(a b:Bool):(M !=(a==b))=(a==b):=by cases a<;>cases b<;>rfl
theorem ai2(p q:d_)(ah:p.2.length<9223372036854775808)(h:Z):aL 76 [.agg (dL p),.agg (dL q)] h=y (.bool (nj p q),h):=by
 refine cu (F:=DG) (by kernel_rfl) 1 ?_
 rw[abC];unfold Pr nj
 simp only[aU,↓aI,aV,F1,rm,aiX p.2 q.2 ah,fF,dJ]
section
variable (e : bP)
theorem Up:e.cs[0]?=y (.bool e.on):=ca rfl
theorem Uq:e.cs[1]?=y (ig e.dk):=ca rfl
theorem Ur:e.cs[2]?=y (.bool e.uN):=ca rfl
theorem Us:e.cs[3]?=y (J E e.e6):=ca rfl
theorem Ut:e.cs[4]?=y (J E e.uO):=ca rfl
theorem Uu:e.cs[5]?=y (.bool e.m9):=ca rfl
theorem Uv:e.cs[6]?=y (J E e.ls):=ca rfl
theorem Uw:e.cs[7]?=y (J E e.le):=ca rfl
end
theorem zp(a b:bP)(ha:a.dk.length<9223372036854775808)(h:Z):aL 133 [.agg a.cs,.agg b.cs] h=y (.bool (sn a b),h):=by
 refine cu (F:=EH) (by kernel_rfl) 1 ?_
 rw[adU];unfold Qh sn
 simp only[aU,↓aI,aV,Up,Uq,Ur,Us,Ut,Uu,Uv,Uw,ai0 a.dk b.dk ha,IX,Lq,fF,dJ]
section
variable (e : ey)
theorem Ux:e.cs[0]?=y (.str e.name):=ca rfl
theorem Uy:e.cs[1]?=y (dz e.data):=ca rfl
theorem Uz:e.cs[2]?=y (J E e.bits):=ca rfl
theorem UA:e.cs[3]?=y (J E e.pt):=ca rfl
theorem UB:e.cs[4]?=y (J E e.bq):=ca rfl
theorem UC:e.cs[5]?=y (J E e.bm):=ca rfl
theorem UD:e.cs[6]?=y (J E e.ks):=ca rfl
theorem UE:e.cs[7]?=y (J E e.lo):=ca rfl
theorem UF:e.cs[8]?=y (J E e.st):=ca rfl
theorem UG:e.cs[9]?=y (J E e.jY):=ca rfl
theorem UH:e.cs[10]?=y (J E e.uI):=ca rfl
theorem UI:e.cs[11]?=y (J E e.uJ):=ca rfl
theorem UJ:e.cs[12]?=y (J E e.uK):=ca rfl
theorem UK:e7 V 0 13 e.cs=y (.agg e.cs):=gh rfl
end
theorem ai3(a b:ey)(ha:a.data.length<9223372036854775808)(h:Z):aL 77 [.agg a.cs,.agg b.cs] h=y (.bool (nk a b),h):=by
 refine cu (F:=DH) (by kernel_rfl) 1 ?_
 rw[abD];unfold Ps nk
 simp only[aU,↓aI,aV,Ux,Uy,Uz,UA,UB,UC,UD,UE,UF,UG,UH,UI,UJ,Lo a.data b.data ha,Al,fF,dJ]
section
variable (e : c5)
theorem UL:e.cs[26]?=y (J E e.uP):=ca rfl
theorem UM:e.cs[27]?=y (J E e.rh):=ca rfl
theorem UN:e.cs[28]?=y (J E e.dup):=ca rfl
theorem UO:e.cs[29]?=y (J E e.uQ):=ca rfl
theorem UP:e.cs[30]?=y (J E e.uR):=ca rfl
theorem UQ:e.cs[31]?=y (J E e.cut):=ca rfl
theorem UR:e.cs[32]?=y (J E e.res):=ca rfl
theorem US:e7 V 2 8 e.cs=y (.agg e.bq.cs):=ca rfl
theorem UT:e7 V 10 8 e.cs=y (.agg e.bm.cs):=ca rfl
theorem UU:e7 V 18 8 e.cs=y (.agg e.bo.cs):=ca rfl
end
theorem ai4(a b:c5)(ha:td a)(h:Z):aL 78 [.agg a.cs,.agg b.cs] h=y (.bool (nm a b),h):=by
 obtain⟨h1,h2,ak,aJ,aO⟩:=ha
 refine cu (F:=DI) (by kernel_rfl) 1 ?_
 rw[abE];unfold Pt nm
 simp only[aU,↓aI,aV,Kn,uT,US,UT,UU,UL,UM,UN,UO,UP,UQ,UR,aiY a.keys b.keys h2,zp a.bq b.bq ak,zp a.bm b.bm aJ,zp a.bo b.bo aO,Al,fF,dJ]
def mJ{α:Type}(f:α->α->Bool)(a b:List α):Bool:=(fj a.length).all λi=>match a[i]?,b[i]? with|some x,y au=>f x au|_,_=>V
def kf{α:Type}(f:α->α->Bool)(a b:List α)(i:Nat):Bool:=match a[i]?,b[i]? with|some x,y au=>!f x au|_,_=>M
theorem xE{α:Type}{f:α->α->Bool}{a b:List α}(h:∀i,i<a.length->kf f a b i=M):mJ f a b=V:=by
 unfold mJ
 rw[AP]
 intro i ai
 have:=h i (List.mem_range.1 ai)
 unfold kf at this
 split at this<;>simp_all
theorem xF{α:Type}{f:α->α->Bool}{a b:List α}{i:Nat}(ai:i<a.length)(h:kf f a b i=V):mJ f a b=M:=by
 unfold mJ
 rw[List.all_eq_false]
 refine⟨i,List.mem_range.2 ai,?_⟩
 unfold kf at h
 split at h<;>simp_all
def xG(a b:aH):Bool:=if a.aw.length=b.aw.length/\a.az.length=b.az.length/\a.ag.length=b.ag.length then mJ nj a.aw b.aw&&mJ nk a.az b.az&&mJ nm a.ag b.ag else M
theorem JA(a b:aH)(ha:gW a)(h:Z):aL 34 [.agg a.cs,.agg b.cs] h=y (.bool (xG a b),h):=by
 obtain⟨N,h1,h2,ak⟩:∃N:Nat,a.aw.length<N/\a.az.length<N/\a.ag.length<N:=⟨a.aw.length+a.az.length+a.ag.length+1,by omega,by omega,by omega⟩
 refine cu (F:=CU) (by kernel_rfl) N ?_
 rw[aa9];unfold OX xG
 have ne:∀x au:Nat,((x:Int) !=(au:Int))=decide (x≠au):=λx au=>by
  by_cases e:x=au
  ·subst e;simp
  ·rw[nv e,kl];omega
 simp only[aU,↓aI,aV,ql,py,rj,qm,nU,rk,ne,gU]
 by_cases ah:a.aw.length=b.aw.length
 case neg=>
  simp only[ah,ne_eq,not_false_eq_true,cr,vl,a_,false_and,bh,aU,↓aI,aV,dJ]
 by_cases aB:a.az.length=b.az.length
 case neg=>
  simp only[ah,aB,ne_eq,not_false_eq_true,cr,vl,Bool.or_true,a_,false_and,and_false,bh,aU,↓aI,aV,dJ]
 by_cases ai:a.ag.length=b.ag.length
 case neg=>
  simp only[ah,aB,ai,ne_eq,not_false_eq_true,cr,vl,Bool.or_true,a_,false_and,and_false,bh,aU,↓aI,aV,dJ]
 have m:(if a.aw.length=b.aw.length/\a.az.length=b.az.length/\a.ag.length=b.ag.length then mJ nj a.aw b.aw&&mJ nk a.az b.az&&mJ nm a.ag b.ag else M)=(mJ nj a.aw b.aw&&mJ nk a.az b.az&&mJ nm a.ag b.ag):=aP ⟨ah,aB,ai⟩
 rw[m]
 simp only[ah,aB,ai,ne_eq,not_true_eq_false,c4,Bool.or_self,bn,bh,aU,↓aI,aV,ql,qm]
 rw[<-ah]
 have m9:=ha.aw
 have ls:=ha.az
 have li:=ha.ag
 have g:∀(i:Nat) (K:List U->Z->bl) (j:List U->Z->bl),i<a.aw.length->CX aL N h (.ptr h.length 0) (.ptr (h.length+1) 0) (h++[.box a.cs 27 .rw,.box b.cs 27 .rw]) (J E a.aw.length) j K [J E i] (h++[.box a.cs 27 .rw,.box b.cs 27 .rw])=if kf nj a.aw b.aw i=V then y (.bool M,h)else K [J E ((i+1:Nat):Int)] (h++[.box a.cs 27 .rw,.box b.cs 27 .rw]):=λi K j ai=>by
  obtain⟨x,ae⟩:=cR ai
  obtain⟨au,ba⟩:=cR (show i<b.aw.length by omega)
  unfold CX kf
  simp only[aU,↓aI,aV,cQ ai,cr,a_,ql,te _ ae,te _ ba,sc,ai2 x au (ha.cells x (dN ae)),ae,ba,dJ,cO (show i<9223372036854775807 by omega),Lp]
 have k:∀(i:Nat) (K:List U->Z->bl) (j:List U->Z->bl),i<a.az.length->CW aL N h (.ptr h.length 0) (.ptr (h.length+1) 0) (h++[.box a.cs 27 .rw,.box b.cs 27 .rw]) (J E a.az.length) j K [J E i] (h++[.box a.cs 27 .rw,.box b.cs 27 .rw])=if kf nk a.az b.az i=V then y (.bool M,h)else K [J E ((i+1:Nat):Int)] (h++[.box a.cs 27 .rw,.box b.cs 27 .rw]):=λi K j ai=>by
  obtain⟨x,ae⟩:=cR ai
  obtain⟨au,ba⟩:=cR (show i<b.az.length by omega)
  unfold CW kf
  simp only[aU,↓aI,aV,cQ ai,cr,a_,py,r_ _ ae,r_ _ ba,UK,ai3 x au (ha.lz x (dN ae)).2,ae,ba,dJ,cO (show i<9223372036854775807 by omega),Lp]
 have l:∀(i:Nat) (K:List U->Z->bl) (j:List U->Z->bl),i<a.ag.length->CV aL N h (.ptr h.length 0) (.ptr (h.length+1) 0) (h++[.box a.cs 27 .rw,.box b.cs 27 .rw]) (J E a.ag.length) j K [J E i] (h++[.box a.cs 27 .rw,.box b.cs 27 .rw])=if kf nm a.ag b.ag i=V then y (.bool M,h)else K [J E ((i+1:Nat):Int)] (h++[.box a.cs 27 .rw,.box b.cs 27 .rw]):=λi K j ai=>by
  obtain⟨x,ae⟩:=cR ai
  obtain⟨au,ba⟩:=cR (show i<b.ag.length by omega)
  unfold CV kf
  simp only[aU,↓aI,aV,cQ ai,cr,a_,rj,tf _ ae,tf _ ba,uS,ai4 x au (ha.ins x (dN ae)),ae,ba,dJ,cO (show i<9223372036854775807 by omega),Lp]
 refine lW (kf nj a.aw b.aw) (λi=>[J E (i:Int)]) (λ_=>h++[.box a.cs 27 .rw,.box b.cs 27 .rw]) a.aw.length h1 rfl rfl (λi ai af K=>?_) (λi ai af c K=>?_) (λc K=>?_)
 ·rw[g i K _ ai,aW (by rw[af];decide)]
 ·rw[g i K _ ai,aP af,xF ai af,jv,jv]
 unfold CX
 simp only[aU,↓aI,aV,gl,c4,bn,bh,py,nU,xE c,hq]
 refine lW (kf nk a.az b.az) (λi=>[J E (i:Int)]) (λ_=>h++[.box a.cs 27 .rw,.box b.cs 27 .rw]) a.az.length h2 rfl rfl (λi ai af K=>?_) (λi ai af c K=>?_) (λc K=>?_)
 ·rw[k i K _ ai,aW (by rw[af];decide)]
 ·rw[k i K _ ai,aP af,xF ai af,jv]
 unfold CW
 simp only[aU,↓aI,aV,gl,c4,bn,bh,rj,rk,xE c,hq]
 refine lW (kf nm a.ag b.ag) (λi=>[J E (i:Int)]) (λ_=>h++[.box a.cs 27 .rw,.box b.cs 27 .rw]) a.ag.length ak rfl rfl (λi ai af K=>?_) (λi ai af c K=>?_) (λc K=>?_)
 ·rw[l i K _ ai,aW (by rw[af];decide)]
 ·rw[l i K _ ai,aP af,xF ai af]
 unfold CV
 simp only[aU,↓aI,aV,gl,c4,bn,bh,xE c,dJ]
def rB(a b:aH):Bool:=tB a.name b.name&&(a.bO==b.bO)&&(a.ch==b.ch)&&decide (a.bk=b.bk)&&(a.rest==b.rest)&&(a.hy==b.hy)&&(a.hz==b.hz)&&(a.hA==b.hA)&&(a.gq==b.gq)&&decide (a.cy=b.cy)&&xG a b
theorem uD(a b:aH)(ha:gW a)(h:Z):aL 12 [.agg a.cs,.agg b.cs] h=y (.bool (rB a b),h):=by
 refine cu (F:=Cq) (by kernel_rfl) 1 ?_
 rw[aaU];unfold OI rB
 simp only[aU,↓aI,aV,FX,ri,zM,zN,J4,J5,J6,J7,J8,w4,ly,Lo a.bk b.bk ha.bk,Lo a.cy b.cy ha.cy,JA a b ha,IX,Lq,Al,fF,dJ]
theorem ai5(b:ByteArray):∀(n i:Nat) (r:List UInt8),b.size-i=n->VC b i r=r.reverse++b.data.toList.drop i:=by
 intro n
 induction n with
 |zero=>
  intro i r h
  unfold VC
  rw[aW (by omega),List.drop_eq_nil_of_le (by rw[pL];show b.size<=i;omega),fD]
 |succ n a6=>
  intro i r h
  unfold VC
  have ai:i<b.size:=by omega
  have c:i<b.data.toList.length:=by rw[pL];exact ai
  rw[aP ai,a6 (i+1) _ (by omega),List.reverse_cons,eb,List.drop_eq_getElem_cons c]
  congr 2
  show [b.data[i]!]++_=_
  rw[getElem!_pos b.data i ai]
  simp
theorem UW(b:ByteArray):b.toList=b.data.toList:=by
 unfold ByteArray.toList
 rw[ai5 b _ 0 [] rfl];rfl
theorem ai6(a b:ByteArray):(a==b)=tB a b:=by
 unfold tB
 rw[UW,UW]
 show(a.data==b.data)=_
 by_cases h:a.data=b.data
 ·rw[h,pN,pN]
 ·rw[beq_eq_false_iff_ne.2 h,beq_eq_false_iff_ne.2 (λe=>h (Array.toList_inj.1 e))]
theorem uz(p q:d_)(ah:p.2.length<9223372036854775808)(h:Z):aL 28 [.agg (dL p),.agg (dL q)] h=y (.bool (nj p q),h):=by
 refine cu (F:=CL) (by kernel_rfl) 1 ?_
 rw[aa3];unfold OR nj
 simp only[aU,↓aI,aV,F1,rm,Ju p.2 q.2 ah,fF,dJ]
theorem Lr(a b:bP)(ha:a.dk.length<9223372036854775808)(h:Z):aL 75 [.agg a.cs,.agg b.cs] h=y (.bool (sn a b),h):=by
 refine cu (F:=DF) (by kernel_rfl) 1 ?_
 rw[abB];unfold Pq sn
 simp only[aU,↓aI,aV,Up,Uq,Ur,Us,Ut,Uu,Uv,Uw,ai1 a.dk b.dk ha,IX,Lq,fF,dJ]
theorem ai7(a b:ey)(ha:a.data.length<9223372036854775808)(h:Z):aL 30 [.agg a.cs,.agg b.cs] h=y (.bool (nk a b),h):=by
 refine cu (F:=CO) (by kernel_rfl) 1 ?_
 rw[aa5];unfold OT nk
 simp only[aU,↓aI,aV,Ux,Uy,Uz,UA,UB,UC,UD,UE,UF,UG,UH,UI,UJ,uy a.data b.data ha,Al,fF,dJ]
theorem zn(a b:c5)(ha:td a)(h:Z):aL 32 [.agg a.cs,.agg b.cs] h=y (.bool (nm a b),h):=by
 obtain⟨h1,h2,ak,aJ,aO⟩:=ha
 refine cu (F:=CR) (by kernel_rfl) 1 ?_
 rw[aa7];unfold OV nm
 simp only[aU,↓aI,aV,Kn,uT,US,UT,UU,UL,UM,UN,UO,UP,UQ,UR,aiZ a.keys b.keys h2,Lr a.bq b.bq ak,Lr a.bm b.bm aJ,Lr a.bo b.bo aO,Al,fF,dJ]
 congr 3
 simp only[xQ,Bool.and_comm,Bool.and_left_comm]
def rC{α:Type}(f:α->α->Bool)(a b:List α):Bool:=if a.length=b.length then mJ f a b else M
theorem ai8(p:d_)(vs:List U)(t:a1)(l:Z):bf 2 (.ptr 0 0) (.agg (dL p)) (.box vs t .rw::l)=(cF vs 0 (dL p)).map λck=>.box ck t .rw::l:=jh rfl (by decide)
theorem ai9(p:d_){vs:List U}(ay:vs.length=2):cF vs 0 (dL p)=y (dL p):=ib (by rw[ay];rfl) rfl
theorem ai_(a b:List d_)(hm:a.length<9223372036854775808)(ha:∀x∈a,x.2.length<9223372036854775808)(h:Z):aL 27 [l1 a,l1 b,.func 28 [] []] h=y (.bool (rC nj a b),h):=by
 obtain⟨N,k⟩:∃N:Nat,a.length<N:=⟨_,fC _⟩
 refine cu (F:=CJ) (by kernel_rfl) N ?_
 rw[aa2];unfold OQ rC
 by_cases bz:a.length=b.length
 ·have c:((a.length:Int) !=(b.length:Int))=M:=by rw[bz];simp
  rw[aP bz]
  simp only[aU,↓aI,aV,qm,hc,c,bn,bh]
  have e:∀(i:Nat) (K:List U->Z->bl) (g:List U->Z->bl),i<a.length->CK aL N (l1 a) (l1 b) (.func 28 [] []) h h (J E a.length) g K [J E i] h=if kf nj a b i=V then y (.bool M,h)else K [J E ((i+1:Nat):Int)] h:=λi K g ai=>by
   obtain⟨x,ae⟩:=cR ai
   obtain⟨au,ba⟩:=cR (show i<b.length by omega)
   have bu:=λ(p:d_) (vs:List U) (ay:vs.length=2)=>ai9 p ay
   have l:∀(aZ v:U) (H:Z),gz aL (.func 28 [] []) [aZ,v] H=aL 28 [aZ,v] H:=λaZ v H=>k5 aL 28 [] [] _ H
   have m:∀X,trim h [J E ((i+1:Nat):Int)] (h++X)=h:=λX=>qb _ (λw cb=>by rw[hp]at cb;subst cb;exact j5 rfl)
   unfold CK kf
   simp only[aU,↓aI,aV,cQ ai,cr,a_,te _ ae,te _ ba,sc,ai8,bu x _ (show([J E 0,.a7]:List U).length=2 from rfl),bu au _ (show([J E 0,.a7]:List U).length=2 from rfl),l,uz x au (ha x (dN ae)),ae,ba,dJ,cO (show i<9223372036854775807 by omega),m]
  refine lW (kf nj a b) (λi=>[J E (i:Int)]) (λ_=>h) a.length k rfl rfl (λi ai af K=>?_) (λi ai af j K=>?_) (λj K=>?_)
  ·rw[e i K _ ai,aW (by rw[af];decide)]
  ·rw[e i K _ ai,aP af,xF ai af]
  ·unfold CK
   simp only[aU,↓aI,aV,gl,c4,bn,bh,dZ]
   rw[xE j]
 ·have c:((a.length:Int) !=(b.length:Int))=V:=by rw[kl];omega
  rw[aW bz]
  simp only[aU,↓aI,aV,qm,hc,c,a_,dZ]
theorem ai'(p:ey)(vs:List U)(t:a1)(l:Z):bf 13 (.ptr 0 0) (.agg (p.cs)) (.box vs t .rw::l)=(cF vs 0 (p.cs)).map λck=>.box ck t .rw::l:=jh rfl (by decide)
theorem aja(p:ey){vs:List U}(ay:vs.length=13):cF vs 0 (p.cs)=y (p.cs):=ib (by rw[ay];rfl) rfl
theorem JF(a b:List ey)(hm:a.length<9223372036854775808)(ha:∀x∈a,x.data.length<9223372036854775808)(h:Z):aL 29 [lx a,lx b,.func 30 [] []] h=y (.bool (rC nk a b),h):=by
 obtain⟨N,k⟩:∃N:Nat,a.length<N:=⟨_,fC _⟩
 refine cu (F:=CM) (by kernel_rfl) N ?_
 rw[aa4];unfold OS rC
 by_cases bz:a.length=b.length
 ·have c:((a.length:Int) !=(b.length:Int))=M:=by rw[bz];simp
  rw[aP bz]
  simp only[aU,↓aI,aV,nU,hc,c,bn,bh]
  have e:∀(i:Nat) (K:List U->Z->bl) (g:List U->Z->bl),i<a.length->CN aL N (lx a) (lx b) (.func 30 [] []) h h (J E a.length) g K [J E i] h=if kf nk a b i=V then y (.bool M,h)else K [J E ((i+1:Nat):Int)] h:=λi K g ai=>by
   obtain⟨x,ae⟩:=cR ai
   obtain⟨au,ba⟩:=cR (show i<b.length by omega)
   have bu:=λ(p:ey) (vs:List U) (ay:vs.length=13)=>aja p ay
   have l:∀(aZ v:U) (H:Z),gz aL (.func 30 [] []) [aZ,v] H=aL 30 [aZ,v] H:=λaZ v H=>k5 aL 30 [] [] _ H
   have m:∀X,trim h [J E ((i+1:Nat):Int)] (h++X)=h:=λX=>qb _ (λw cb=>by rw[hp]at cb;subst cb;exact j5 rfl)
   unfold CN kf
   simp only[aU,↓aI,aV,cQ ai,cr,a_,r_ _ ae,r_ _ ba,UK,ai',bu x _ (show([.str ⟨#[]⟩,.a7,J E 0,J E 0,J E 0,J E 0,J E 0,J E 0,J E 0,J E 0,J E 0,J E 0,J E 0]:List U).length=13 from rfl),bu au _ (show([.str ⟨#[]⟩,.a7,J E 0,J E 0,J E 0,J E 0,J E 0,J E 0,J E 0,J E 0,J E 0,J E 0,J E 0]:List U).length=13 from rfl),l,ai7 x au (ha x (dN ae)),ae,ba,dJ,cO (show i<9223372036854775807 by omega),m]
  refine lW (kf nk a b) (λi=>[J E (i:Int)]) (λ_=>h) a.length k rfl rfl (λi ai af K=>?_) (λi ai af j K=>?_) (λj K=>?_)
  ·rw[e i K _ ai,aW (by rw[af];decide)]
  ·rw[e i K _ ai,aP af,xF ai af]
  ·unfold CN
   simp only[aU,↓aI,aV,gl,c4,bn,bh,dZ]
   rw[xE j]
 ·have c:((a.length:Int) !=(b.length:Int))=V:=by rw[kl];omega
  rw[aW bz]
  simp only[aU,↓aI,aV,nU,hc,c,a_,dZ]
theorem ajb(p:c5)(vs:List U)(t:a1)(l:Z):bf 33 (.ptr 0 0) (.agg (p.cs)) (.box vs t .rw::l)=(cF vs 0 (p.cs)).map λck=>.box ck t .rw::l:=jh rfl (by decide)
theorem ajc(p:c5){vs:List U}(ay:vs.length=33):cF vs 0 (p.cs)=y (p.cs):=ib (by rw[ay];rfl) rfl
theorem ajd(a b:List c5)(hm:a.length<9223372036854775808)(ha:∀x∈a,td x)(h:Z):aL 31 [nV a,nV b,.func 32 [] []] h=y (.bool (rC nm a b),h):=by
 obtain⟨N,k⟩:∃N:Nat,a.length<N:=⟨_,fC _⟩
 refine cu (F:=CP) (by kernel_rfl) N ?_
 rw[aa6];unfold OU rC
 by_cases bz:a.length=b.length
 ·have c:((a.length:Int) !=(b.length:Int))=M:=by rw[bz];simp
  rw[aP bz]
  simp only[aU,↓aI,aV,rk,hc,c,bn,bh]
  have e:∀(i:Nat) (K:List U->Z->bl) (g:List U->Z->bl),i<a.length->CQ aL N (nV a) (nV b) (.func 32 [] []) h h (J E a.length) g K [J E i] h=if kf nm a b i=V then y (.bool M,h)else K [J E ((i+1:Nat):Int)] h:=λi K g ai=>by
   obtain⟨x,ae⟩:=cR ai
   obtain⟨au,ba⟩:=cR (show i<b.length by omega)
   have bu:=λ(p:c5) (vs:List U) (ay:vs.length=33)=>ajc p ay
   have l:∀(aZ v:U) (H:Z),gz aL (.func 32 [] []) [aZ,v] H=aL 32 [aZ,v] H:=λaZ v H=>k5 aL 32 [] [] _ H
   have m:∀X,trim h [J E ((i+1:Nat):Int)] (h++X)=h:=λX=>qb _ (λw cb=>by rw[hp]at cb;subst cb;exact j5 rfl)
   unfold CQ kf
   simp only[aU,↓aI,aV,cQ ai,cr,a_,tf _ ae,tf _ ba,uS,ajb,bu x _ (show(iu:List U).length=33 from rfl),bu au _ (show(iu:List U).length=33 from rfl),l,zn x au (ha x (dN ae)),ae,ba,dJ,cO (show i<9223372036854775807 by omega),m]
  refine lW (kf nm a b) (λi=>[J E (i:Int)]) (λ_=>h) a.length k rfl rfl (λi ai af K=>?_) (λi ai af j K=>?_) (λj K=>?_)
  ·rw[e i K _ ai,aW (by rw[af];decide)]
  ·rw[e i K _ ai,aP af,xF ai af]
  ·unfold CQ
   simp only[aU,↓aI,aV,gl,c4,bn,bh,dZ]
   rw[xE j]
 ·have c:((a.length:Int) !=(b.length:Int))=V:=by rw[kl];omega
  rw[aW bz]
  simp only[aU,↓aI,aV,rk,hc,c,a_,dZ]
def n8(s:aH):List U:=[.str s.name,J E s.bO,J E s.ch,J E s.rest,J E s.hy,J E s.hz,J E s.hA,.bool s.gq]
theorem tC{cells:List U}{off:Nat}{v:U}{r:List (Nat×Nat×U)}(ay:cn v=[v])(ak:off<cells.length):cV cells ((off,1,v)::r)=cV (cells.set off v) r:=by
 rw[Ja (by rw[ay];rfl) (by decide) (by omega),ay,List.set_eq_take_append_cons_drop,aP ak,eb];rfl
theorem aje(s:aH)(a b c d e f g i:U):cV [a,b,c,d,e,f,g,i] [(0,1,.str s.name),(1,1,J E s.bO),(2,1,J E s.ch),(3,1,J E s.rest),(4,1,J E s.hy),(5,1,J E s.hz),(6,1,J E s.hA),(7,1,.bool s.gq)]=y (n8 s):=by
 have ci:∀n,cn (J E n)=[J E n]:=λn=>rfl
 have cs:cn (.str s.name)=[.str s.name]:=rfl
 have h:cn (.bool s.gq)=[.bool s.gq]:=rfl
 rw[tC cs (by simp only[jS];omega)]
 simp only[rH,sC]
 rw[tC (ci _) (by simp only[jS];omega)]
 simp only[rH,sC]
 rw[tC (ci _) (by simp only[jS];omega)]
 simp only[rH,sC]
 rw[tC (ci _) (by simp only[jS];omega)]
 simp only[rH,sC]
 rw[tC (ci _) (by simp only[jS];omega)]
 simp only[rH,sC]
 rw[tC (ci _) (by simp only[jS];omega)]
 simp only[rH,sC]
 rw[tC (ci _) (by simp only[jS];omega)]
 simp only[rH,sC]
 rw[tC h (by simp only[jS];omega)]
 simp only[rH,sC]
 rw[lr]
 rfl
theorem ajf(s:aH)(vs:List U)(t:a1)(l:Z):bf 8 (.ptr 0 0) (.agg (n8 s)) (.box vs t .rw::l)=(cF vs 0 (n8 s)).map λck=>.box ck t .rw::l:=jh rfl (by decide)
theorem ajg(s:aH)(a b c d e f g i:U):cF [a,b,c,d,e,f,g,i] 0 (n8 s)=y (n8 s):=ib rfl rfl
theorem ajh(s:aH):e7 V 0 8 (n8 s)=y (.agg (n8 s)):=gh rfl
theorem aji{h l:Z}(s:aH):aN [.aj] h (h++l) [.agg (n8 s)]=y (.agg (n8 s),h):=by
 refine q8 (ws:=[.agg (n8 s)]) (l:=l) (by simp only[iV,jK,kN,dy,dw]) ?_
 intro v ay
 simp only[hp]at ay
 subst ay
 exact j5 rfl
theorem ajj(s:aH)(h:Z):aL 25 [.agg s.cs] h=y (.agg (n8 s),h):=by
 refine cu (F:=zr) (by kernel_rfl) 1 ?_
 rw[Z3];unfold Jq
 simp only[aU,↓aI,aV,FX,ri,zM,J4,J5,J6,J7,J8,aje,ajf,ajg,ajh,aji]
theorem ajk(a b:aH):lT [.str,.int,.int,.int,.int,.int,.int,.bool] M (.agg (n8 a)) (.agg (n8 b))=y (.bool (tB a.name b.name&&((a.bO==b.bO)&&((a.ch==b.ch)&&((a.rest==b.rest)&&((a.hy==b.hy)&&((a.hz==b.hz)&&((a.hA==b.hA)&&((a.gq==b.gq)&&V))))))))):=by
 rw[<-ai6]
 simp only[lT,kq,n8,a_,dw,Bool.false_bne]
theorem ajl(a b:aH):xG a b=(rC nj a.aw b.aw&&rC nk a.az b.az&&rC nm a.ag b.ag):=by
 unfold xG rC
 by_cases h1:a.aw.length=b.aw.length
 ·by_cases h2:a.az.length=b.az.length
  ·by_cases ak:a.ag.length=b.ag.length
   ·rw[aP ⟨h1,h2,ak⟩,aP h1,aP h2,aP ak]
   ·rw[aW (λh=>ak h.2.2),aW ak,Bool.and_false]
  ·rw[aW (λh=>h2 h.2.1),aW h2,Bool.and_false,jv]
 ·rw[aW (λh=>h1 h.1),aW h1,jv,jv]
theorem ajm(a b:aH)(ha:gW a)(h:Z):aL 11 [.agg a.cs,.agg b.cs] h=y (.bool (rB a b),h):=by
 refine cu (F:=Cp) (by kernel_rfl) 1 ?_
 rw[aaT];unfold OH rB
 have c:=λH=>ai_ a.aw b.aw ha.aw (λx ae=>ha.cells x ae) H
 have e:=λH=>JF a.az b.az ha.az (λx ae=>(ha.lz x ae).2) H
 have g:=λH=>ajd a.ag b.ag ha.ag (λx ae=>ha.ins x ae) H
 simp only[aU,↓aI,aV,ly,ajj,ajk,zN,w4,ql,py,rj,uy a.bk b.bk ha.bk,uy a.cy b.cy ha.cy,c,e,g,fF,dJ,ajl,jT]
 congr 3
 simp only[xQ,Bool.and_comm,Bool.and_left_comm]
theorem Ls{α:Type}{f:α->α->Bool}(l:List α)(h:∀a,f a a=V):mJ f l l=V:=by
 unfold mJ
 rw[AP]
 intro i _
 cases l[i]? with
 |none=>rfl
 |some x=>exact h x
theorem Lt(a:ByteArray):tB a a=V:=pN _
theorem ajn(a:bP):sn a a=V:=by simp [sn]
theorem ajo(a:ey):nk a a=V:=by simp [nk,Lt]
theorem ajp(a:c5):nm a a=V:=by simp [nm,Lt,ajn]
theorem ajq(a:d_):nj a a=V:=by simp [nj]
theorem Lu(s:aH):rB s s=V:=by
 simp only[rB,xG,Lt,Ls _ ajq,Ls _ ajo,Ls _ ajp,pN,jT,and_self,a_,cr]
structure l7(s:aH):Prop where
 lz:∀x∈s.az,x.name.size<9223372036854775808
 ins:∀x∈s.ag,x.name.size<9223372036854775808
theorem l7.fe{s:aH}(n:l7 s):l7 (Go.aM.X.fe s):=⟨n.lz,λx ae=>by
 obtain⟨i,ai,rfl⟩:=List.mem_mapIdx.1 (show x∈s.ag.mapIdx _ from ae)
 have:=n.ins _ (pM ai)
 unfold jD
 split<;>exact this⟩
theorem l7.gw{s:aH}(n:l7 s)(to:List Int):l7 (Go.aM.X.gw s to):=⟨n.lz,n.ins⟩
theorem l7.hE{s:aH}(n:l7 s){to:List Int}(p:c8 to s.ag.length):l7 (Go.aM.X.hE s to):=⟨n.lz,λx ae=>n.ins x (oP p ae)⟩
theorem l7.eI{s:aH}(n:l7 s){to:List Int}(p:c8 to s.az.length):l7 (Go.aM.X.eI s to):=by
 have h:l7 (Go.aM.X.h0 (Go.aM.X.ec s to) to):=⟨λx ae=>n.lz x (oP p ae),λx ae=>by
  obtain⟨au,ba,rfl⟩:=List.mem_map.1 (show x∈s.ag.map (hD to)from ae)
  exact n.ins au ba⟩
 unfold Go.aM.X.eI
 split
 ·exact h
 ·exact⟨h.lz,h.ins⟩
theorem gX.eI{s:aH}(b:gX s){to:List Int}(p:c8 to s.az.length):gX (Go.aM.X.eI s to):=by
 unfold Go.aM.X.eI
 split
 ·exact(b.ec p).h0 to
 ·exact((b.ec p).h0 to).jl to
theorem UX{s:aH}(b:gX s)(n:l7 s)(av:s.name.size<9223372036854775808):gW s where
 name:=av
 bk:=by have:=b.bk;omega
 cy:=by have:=b.cy;omega
 aw:=by have:=b.aw;omega
 cells:=λp ah=>by have:=b.bN p ah;omega
 az:=by have:=b.az;omega
 lz:=λx ae=>⟨n.lz x ae,by have:=b.b5 x ae;omega⟩
 ag:=by have:=b.ag;omega
 ins:=λx ae=>by
  obtain⟨h1,h2,ak,aJ⟩:=b.ins x ae
  exact⟨n.ins x ae,by omega,by omega,by omega,by omega⟩
theorem UY(s:aH)(to:List Int):(eI s to).name=s.name:=by unfold eI;split<;>rfl
theorem UZ{s:aH}(ax:gW s)(ay:((k_ s).2.2==0)=V):gW (dv s):=by
 have b:=fB.oQ (Gb ay)
 have n:l7 s:=⟨λx ae=>(ax.lz x ae).1,λx ae=>(ax.ins x ae).name⟩
 have j:c8 (dG (dA s.bk) s.aw.length) s.aw.length:=lH (GK b)
 have cH:fB (c0 s):=b.fe.gw j
 have n1:l7 (c0 s):=n.fe.gw _
 have hd:(c0 s).bO=s.bO:=rfl
 have g:(c0 s).ag.length=s.ag.length:=by show(s.ag.mapIdx _).length=_;rw[km]
 unfold dv
 cases br:eL s.bO 6 with
 |false=>
  have e:fW (c0 s)=s.az.length:=by unfold fW;rw[hd,aW (by rw[br];decide)];rfl
  have c:c8 (dG (jE (c0 s)) s.az.length) (c0 s).az.length:=lH (by rw[<-e];exact sm cH)
  rw[aW (by decide)]
  exact UX (cH.fU.eI c) (n1.eI c) (by rw[UY];exact ax.name)
 |true=>
  have e:fW (c0 s)=s.ag.length:=by unfold fW;rw[hd,aP br,g]
  have c:c8 (dG (jE (c0 s)) s.ag.length) (c0 s).ag.length:=by
   rw[g];exact lH (by rw[<-e];exact sm cH)
  have h:fB (ea s):=cH.hE c (by rw[hd];exact br)
  have n2:l7 (ea s):=n1.hE c
  have i:c8 (dG (fw ((ea s).ag.flatMap fI)) s.az.length) (ea s).az.length:=lH (xA (xB h))
  rw[aP rfl]
  exact UX (h.fU.eI i) (n2.eI i) (by rw[UY];exact ax.name)
def xH(s:aH):Bool:=(k_ s).2.2==0
def GQ(a b:aH):U:=if xH a=V/\xH b=V then .tuple [.bool (rB (dv a) (dv b)),J E 0]else .tuple [.bool M,J E 1]
theorem ajr{h l:Z}{b:Bool}{k:IntKind}{n:Int}:aN [.aj,.aj] h (h++l) [.bool b,.int k n]=y (.tuple [.bool b,.int k n],h):=by
 refine q8 (ws:=[.bool b,.int k n]) (l:=l) (by simp only[iV,jK,kN,dy,dw]) ?_
 intro v ay
 simp only[hF,ik,h6]at ay
 rcases ay with rfl|rfl<;>exact j5 rfl
end Go.aM.X
namespace Go.aM.X
open Go.bF Go.aM
structure gY where
 so:Int
 GR:Int
 GS:Int
 GU:Int
 GV:Int
 Param:Int
def gY.b5(t:gY):List dY:=[.v (.int .i64 t.so),.v (.int .i64 t.GR),.v (.int .i64 t.GS),.v (.int .i64 t.GU),.v (.int .i64 t.GV),.v (.int .i64 t.Param)]
def gY.ok(t:gY):Prop:=dB t.so/\dB t.GR/\dB t.GS/\dB t.GU/\dB t.GV/\dB t.Param
def gY.e_:List gR:=[.int .i64,.int .i64,.int .i64,.int .i64,.int .i64,.int .i64]
theorem gY.of{r:List dY}(h:cP gY.e_ r):∃t,r=gY.b5 t/\t.ok:=by
 unfold gY.e_ at h
 obtain⟨d0,k,rfl,av,b⟩:=cP.cons_inv h
 obtain⟨al,rfl,w0⟩:=dC.fo av
 obtain⟨l,m,rfl,h1,cL⟩:=cP.cons_inv b
 obtain⟨aC,rfl,bC⟩:=dC.fo h1
 obtain⟨n,o,rfl,h2,cN⟩:=cP.cons_inv cL
 obtain⟨b6,rfl,cU⟩:=dC.fo h2
 obtain⟨p,q,rfl,ak,dT⟩:=cP.cons_inv cN
 obtain⟨gH,rfl,c⟩:=dC.fo ak
 obtain⟨u,w,rfl,aJ,fO⟩:=cP.cons_inv dT
 obtain⟨e,rfl,g⟩:=dC.fo aJ
 obtain⟨x,y,rfl,aO,gZ⟩:=cP.cons_inv fO
 obtain⟨i,rfl,j⟩:=dC.fo aO
 obtain rfl:=cP.sR gZ
 exact⟨⟨al,aC,b6,gH,e,i⟩,rfl,⟨w0,bC,cU,c,g,j⟩⟩
def gY.eP(t:gY):List U:=[J E t.so,J E t.GR,J E t.GS,J E t.GU,J E t.GV,J E t.Param]
theorem gY.nn(t:gY):iE gY.e_ t.b5=t.eP:=by
 unfold gY.e_ gY.b5 gY.eP
 simp only[ur,uu,uv,uw,ux]
structure gi where
 Rows:Int
 Cells:List gY
def gi.b5(t:gi):List dY:=[.v (.int .i64 t.Rows),.bZ (t.Cells.map gY.b5)]
def gi.ok(t:gi):Prop:=dB t.Rows/\(p3 gY.ok) t.Cells
def gi.e_:List gR:=[.int .i64,.bZ gY.e_]
theorem gi.of{r:List dY}(h:cP gi.e_ r):∃t,r=gi.b5 t/\t.ok:=by
 unfold gi.e_ at h
 obtain⟨d0,c,rfl,av,b⟩:=cP.cons_inv h
 obtain⟨al,rfl,w0⟩:=dC.fo av
 obtain⟨e,g,rfl,h1,cL⟩:=cP.cons_inv b
 obtain⟨aC,rfl,bC⟩:=p2 h1 (λ_ h=>gY.of h)
 obtain rfl:=cP.sR cL
 exact⟨⟨al,aC⟩,rfl,⟨w0,bC⟩⟩
def gi.eP(t:gi):List U:=[J E t.Rows,.bE 6 (t.Cells.map gY.eP)]
theorem gi.nn(t:gi):iE gi.e_ t.b5=t.eP:=by
 unfold gi.e_ gi.b5 gi.eP
 simp only[ur,uu,uv,uw,ux,(show hL (.bZ gY.e_) (.bZ (t.Cells.map gY.b5))=.bE 6 (t.Cells.map gY.eP)from qe gY.nn _)]
structure gE where
 Name:ByteArray
 Data:List Int
 GW:Int
 GX:Int
 iJ:Int
 GY:Int
 GZ:Int
 Loop:Int
 Start:Int
 End:Int
 oS:Int
 oT:Int
 oU:Int
def gE.b5(t:gE):List dY:=[.v (.string t.Name),.bZ (t.Data.map qR),.v (.int .i64 t.GW),.v (.int .i64 t.GX),.v (.int .i64 t.iJ),.v (.int .i64 t.GY),.v (.int .i64 t.GZ),.v (.int .i64 t.Loop),.v (.int .i64 t.Start),.v (.int .i64 t.End),.v (.int .i64 t.oS),.v (.int .i64 t.oT),.v (.int .i64 t.oU)]
def gE.ok(t:gE):Prop:=(λs=>s.size<=pO) t.Name/\(p3 dB) t.Data/\dB t.GW/\dB t.GX/\dB t.iJ/\dB t.GY/\dB t.GZ/\dB t.Loop/\dB t.Start/\dB t.End/\dB t.oS/\dB t.oT/\dB t.oU
def gE.e_:List gR:=[.str,.bZ [.int .i64],.int .i64,.int .i64,.int .i64,.int .i64,.int .i64,.int .i64,.int .i64,.int .i64,.int .i64,.int .i64,.int .i64]
theorem gE.of{r:List dY}(h:cP gE.e_ r):∃t,r=gE.b5 t/\t.ok:=by
 unfold gE.e_ at h
 obtain⟨d0,O,rfl,av,b⟩:=cP.cons_inv h
 obtain⟨al,rfl,w0⟩:=dC.Il av
 obtain⟨P,Q,rfl,h1,cL⟩:=cP.cons_inv b
 obtain⟨aC,rfl,bC⟩:=p2 h1 (λ_ h=>Im h)
 obtain⟨R,S,rfl,h2,cN⟩:=cP.cons_inv cL
 obtain⟨b6,rfl,cU⟩:=dC.fo h2
 obtain⟨T,U,rfl,ak,dT⟩:=cP.cons_inv cN
 obtain⟨gH,rfl,c⟩:=dC.fo ak
 obtain⟨V,W,rfl,aJ,fO⟩:=cP.cons_inv dT
 obtain⟨e,rfl,g⟩:=dC.fo aJ
 obtain⟨X,Y,rfl,aO,gZ⟩:=cP.cons_inv fO
 obtain⟨i,rfl,j⟩:=dC.fo aO
 obtain⟨Z,aa,rfl,bt,k⟩:=cP.cons_inv gZ
 obtain⟨l,rfl,m⟩:=dC.fo bt
 obtain⟨ab,ac,rfl,ct,n⟩:=cP.cons_inv k
 obtain⟨o,rfl,p⟩:=dC.fo ct
 obtain⟨ad,ae,rfl,q,u⟩:=cP.cons_inv n
 obtain⟨w,rfl,x⟩:=dC.fo q
 obtain⟨af,ah,rfl,y,z⟩:=cP.cons_inv u
 obtain⟨A,rfl,B⟩:=dC.fo y
 obtain⟨ai,am,rfl,C,D⟩:=cP.cons_inv z
 obtain⟨E,rfl,F⟩:=dC.fo C
 obtain⟨an,ao,rfl,G,H⟩:=cP.cons_inv D
 obtain⟨I,rfl,J⟩:=dC.fo G
 obtain⟨ap,aq,rfl,K,L⟩:=cP.cons_inv H
 obtain⟨M,rfl,N⟩:=dC.fo K
 obtain rfl:=cP.sR L
 exact⟨⟨al,aC,b6,gH,e,i,l,o,w,A,E,I,M⟩,rfl,⟨w0,bC,cU,c,g,j,m,p,x,B,F,J,N⟩⟩
def gE.eP(t:gE):List U:=[.str t.Name,.bE 1 (t.Data.map bA),J E t.GW,J E t.GX,J E t.iJ,J E t.GY,J E t.GZ,J E t.Loop,J E t.Start,J E t.End,J E t.oS,J E t.oT,J E t.oU]
theorem gE.nn(t:gE):iE gE.e_ t.b5=t.eP:=by
 unfold gE.e_ gE.b5 gE.eP
 simp only[ur,uu,uv,uw,ux,(show hL (.bZ [.int .i64]) (.bZ (t.Data.map qR))=.bE 1 (t.Data.map bA)from qe I3 _)]
structure hg where
 so:Int
 G0:Int
def hg.b5(t:hg):List dY:=[.v (.int .i64 t.so),.v (.int .i64 t.G0)]
def hg.ok(t:hg):Prop:=dB t.so/\dB t.G0
def hg.e_:List gR:=[.int .i64,.int .i64]
theorem hg.of{r:List dY}(h:cP hg.e_ r):∃t,r=hg.b5 t/\t.ok:=by
 unfold hg.e_ at h
 obtain⟨d0,c,rfl,av,b⟩:=cP.cons_inv h
 obtain⟨al,rfl,w0⟩:=dC.fo av
 obtain⟨e,g,rfl,h1,cL⟩:=cP.cons_inv b
 obtain⟨aC,rfl,bC⟩:=dC.fo h1
 obtain rfl:=cP.sR cL
 exact⟨⟨al,aC⟩,rfl,⟨w0,bC⟩⟩
def hg.eP(t:hg):List U:=[J E t.so,J E t.G0]
theorem hg.nn(t:hg):iE hg.e_ t.b5=t.eP:=by
 unfold hg.e_ hg.b5 hg.eP
 simp only[ur,uu,uv,uw,ux]
structure eW where
 G1:Int
 G2:Int
def eW.b5(t:eW):List dY:=[.v (.int .i64 t.G1),.v (.int .i64 t.G2)]
def eW.ok(t:eW):Prop:=dB t.G1/\dB t.G2
def eW.e_:List gR:=[.int .i64,.int .i64]
theorem eW.of{r:List dY}(h:cP eW.e_ r):∃t,r=eW.b5 t/\t.ok:=by
 unfold eW.e_ at h
 obtain⟨d0,c,rfl,av,b⟩:=cP.cons_inv h
 obtain⟨al,rfl,w0⟩:=dC.fo av
 obtain⟨e,g,rfl,h1,cL⟩:=cP.cons_inv b
 obtain⟨aC,rfl,bC⟩:=dC.fo h1
 obtain rfl:=cP.sR cL
 exact⟨⟨al,aC⟩,rfl,⟨w0,bC⟩⟩
def eW.eP(t:eW):List U:=[J E t.G1,J E t.G2]
theorem eW.nn(t:eW):iE eW.e_ t.b5=t.eP:=by
 unfold eW.e_ eW.b5 eW.eP
 simp only[ur,uu,uv,uw,ux]
structure n9 where
 tD:Bool
 lJ:List eW
 oS:Bool
 oT:Int
 oU:Int
 Loop:Bool
 tE:Int
 tF:Int
def n9.ok(t:n9):Prop:=(λ_=>True) t.tD/\(p3 eW.ok) t.lJ/\(λ_=>True) t.oS/\dB t.oT/\dB t.oU/\(λ_=>True) t.Loop/\dB t.tE/\dB t.tF
structure fP where
 Name:ByteArray
 u5:List hg
 iJ:n9
 kg:n9
 kh:n9
 G3:Int
 G4:Int
 G5:Int
 G6:Int
 Global:Int
 G7:Int
 G8:Int
def fP.b5(t:fP):List dY:=[.v (.string t.Name),.bZ (t.u5.map hg.b5),.v (.bool t.iJ.tD),.bZ (t.iJ.lJ.map eW.b5),.v (.bool t.iJ.oS),.v (.int .i64 t.iJ.oT),.v (.int .i64 t.iJ.oU),.v (.bool t.iJ.Loop),.v (.int .i64 t.iJ.tE),.v (.int .i64 t.iJ.tF),.v (.bool t.kg.tD),.bZ (t.kg.lJ.map eW.b5),.v (.bool t.kg.oS),.v (.int .i64 t.kg.oT),.v (.int .i64 t.kg.oU),.v (.bool t.kg.Loop),.v (.int .i64 t.kg.tE),.v (.int .i64 t.kg.tF),.v (.bool t.kh.tD),.bZ (t.kh.lJ.map eW.b5),.v (.bool t.kh.oS),.v (.int .i64 t.kh.oT),.v (.int .i64 t.kh.oU),.v (.bool t.kh.Loop),.v (.int .i64 t.kh.tE),.v (.int .i64 t.kh.tF),.v (.int .i64 t.G3),.v (.int .i64 t.G4),.v (.int .i64 t.G5),.v (.int .i64 t.G6),.v (.int .i64 t.Global),.v (.int .i64 t.G7),.v (.int .i64 t.G8)]
def fP.ok(t:fP):Prop:=(λs=>s.size<=pO) t.Name/\(p3 hg.ok) t.u5/\n9.ok t.iJ/\n9.ok t.kg/\n9.ok t.kh/\dB t.G3/\dB t.G4/\dB t.G5/\dB t.G6/\dB t.Global/\dB t.G7/\dB t.G8
def fP.e_:List gR:=[.str,.bZ hg.e_,.bool,.bZ eW.e_,.bool,.int .i64,.int .i64,.bool,.int .i64,.int .i64,.bool,.bZ eW.e_,.bool,.int .i64,.int .i64,.bool,.int .i64,.int .i64,.bool,.bZ eW.e_,.bool,.int .i64,.int .i64,.bool,.int .i64,.int .i64,.int .i64,.int .i64,.int .i64,.int .i64,.int .i64,.int .i64,.int .i64]
theorem fP.of{r:List dY}(h:cP fP.e_ r):∃t,r=fP.b5 t/\t.ok:=by
 unfold fP.e_ at h
 obtain⟨d0,bw,rfl,av,b⟩:=cP.cons_inv h
 obtain⟨al,rfl,w0⟩:=dC.Il av
 obtain⟨bx,bz,rfl,h1,cL⟩:=cP.cons_inv b
 obtain⟨aC,rfl,bC⟩:=p2 h1 (λ_ h=>hg.of h)
 obtain⟨bA,bB,rfl,h2,cN⟩:=cP.cons_inv cL
 obtain⟨b6,rfl⟩:=dC.qS h2
 have cU:True:=trivial
 obtain⟨bD,bF,rfl,ak,dT⟩:=cP.cons_inv cN
 obtain⟨gH,rfl,c⟩:=p2 ak (λ_ h=>eW.of h)
 obtain⟨bG,bH,rfl,aJ,fO⟩:=cP.cons_inv dT
 obtain⟨e,rfl⟩:=dC.qS aJ
 have g:True:=trivial
 obtain⟨bI,bJ,rfl,aO,gZ⟩:=cP.cons_inv fO
 obtain⟨i,rfl,j⟩:=dC.fo aO
 obtain⟨bK,bL,rfl,bt,k⟩:=cP.cons_inv gZ
 obtain⟨l,rfl,m⟩:=dC.fo bt
 obtain⟨bM,bO,rfl,ct,n⟩:=cP.cons_inv k
 obtain⟨o,rfl⟩:=dC.qS ct
 have p:True:=trivial
 obtain⟨bP,bQ,rfl,q,u⟩:=cP.cons_inv n
 obtain⟨w,rfl,x⟩:=dC.fo q
 obtain⟨bR,bS,rfl,y,z⟩:=cP.cons_inv u
 obtain⟨A,rfl,B⟩:=dC.fo y
 obtain⟨bT,bU,rfl,C,D⟩:=cP.cons_inv z
 obtain⟨E,rfl⟩:=dC.qS C
 have F:True:=trivial
 obtain⟨bV,bW,rfl,G,H⟩:=cP.cons_inv D
 obtain⟨I,rfl,J⟩:=p2 G (λ_ h=>eW.of h)
 obtain⟨bX,bY,rfl,K,L⟩:=cP.cons_inv H
 obtain⟨M,rfl⟩:=dC.qS K
 have N:True:=trivial
 obtain⟨b0,b1,rfl,O,P⟩:=cP.cons_inv L
 obtain⟨Q,rfl,R⟩:=dC.fo O
 obtain⟨b2,b3,rfl,S,T⟩:=cP.cons_inv P
 obtain⟨U,rfl,V⟩:=dC.fo S
 obtain⟨b4,b7,rfl,W,X⟩:=cP.cons_inv T
 obtain⟨Y,rfl⟩:=dC.qS W
 have Z:True:=trivial
 obtain⟨b8,b9,rfl,aa,ab⟩:=cP.cons_inv X
 obtain⟨ac,rfl,ad⟩:=dC.fo aa
 obtain⟨b_,b',rfl,ae,af⟩:=cP.cons_inv ab
 obtain⟨ah,rfl,ai⟩:=dC.fo ae
 obtain⟨ca,cb,rfl,am,an⟩:=cP.cons_inv af
 obtain⟨ao,rfl⟩:=dC.qS am
 have ap:True:=trivial
 obtain⟨cc,cd,rfl,aq,ar⟩:=cP.cons_inv an
 obtain⟨au,rfl,ax⟩:=p2 aq (λ_ h=>eW.of h)
 obtain⟨ce,cf,rfl,ay,aA⟩:=cP.cons_inv ar
 obtain⟨aB,rfl⟩:=dC.qS ay
 have aD:True:=trivial
 obtain⟨cg,ch,rfl,aE,aF⟩:=cP.cons_inv aA
 obtain⟨aG,rfl,aH⟩:=dC.fo aE
 obtain⟨ci,cj,rfl,aI,aK⟩:=cP.cons_inv aF
 obtain⟨aL,rfl,aM⟩:=dC.fo aI
 obtain⟨ck,cl,rfl,aN,aP⟩:=cP.cons_inv aK
 obtain⟨aQ,rfl⟩:=dC.qS aN
 have aR:True:=trivial
 obtain⟨cm,cn,rfl,aS,aT⟩:=cP.cons_inv aP
 obtain⟨aU,rfl,aV⟩:=dC.fo aS
 obtain⟨co,cp,rfl,aW,aX⟩:=cP.cons_inv aT
 obtain⟨aY,rfl,aZ⟩:=dC.fo aW
 obtain⟨cq,cr,rfl,a0,a1⟩:=cP.cons_inv aX
 obtain⟨a2,rfl,a3⟩:=dC.fo a0
 obtain⟨cs,cu,rfl,a4,a5⟩:=cP.cons_inv a1
 obtain⟨a6,rfl,a8⟩:=dC.fo a4
 obtain⟨cv,cw,rfl,a9,a_⟩:=cP.cons_inv a5
 obtain⟨a',rfl,ba⟩:=dC.fo a9
 obtain⟨cx,cz,rfl,bb,bc⟩:=cP.cons_inv a_
 obtain⟨bd,rfl,be⟩:=dC.fo bb
 obtain⟨cA,cB,rfl,bf,bg⟩:=cP.cons_inv bc
 obtain⟨bh,rfl,bi⟩:=dC.fo bf
 obtain⟨cD,cE,rfl,bj,bl⟩:=cP.cons_inv bg
 obtain⟨bn,rfl,bp⟩:=dC.fo bj
 obtain⟨cF,cG,rfl,br,bs⟩:=cP.cons_inv bl
 obtain⟨bu,rfl,bv⟩:=dC.fo br
 obtain rfl:=cP.sR bs
 exact⟨⟨al,aC,⟨b6,gH,e,i,l,o,w,A⟩,⟨E,I,M,Q,U,Y,ac,ah⟩,⟨ao,au,aB,aG,aL,aQ,aU,aY⟩,a2,a6,a',bd,bh,bn,bu⟩,rfl,⟨w0,bC,⟨cU,c,g,j,m,p,x,B⟩,⟨F,J,N,R,V,Z,ad,ai⟩,⟨ap,ax,aD,aH,aM,aR,aV,aZ⟩,a3,a8,ba,be,bi,bp,bv⟩⟩
def fP.eP(t:fP):List U:=[.str t.Name,.bE 2 (t.u5.map hg.eP),.bool t.iJ.tD,.bE 2 (t.iJ.lJ.map eW.eP),.bool t.iJ.oS,J E t.iJ.oT,J E t.iJ.oU,.bool t.iJ.Loop,J E t.iJ.tE,J E t.iJ.tF,.bool t.kg.tD,.bE 2 (t.kg.lJ.map eW.eP),.bool t.kg.oS,J E t.kg.oT,J E t.kg.oU,.bool t.kg.Loop,J E t.kg.tE,J E t.kg.tF,.bool t.kh.tD,.bE 2 (t.kh.lJ.map eW.eP),.bool t.kh.oS,J E t.kh.oT,J E t.kh.oU,.bool t.kh.Loop,J E t.kh.tE,J E t.kh.tF,J E t.G3,J E t.G4,J E t.G5,J E t.G6,J E t.Global,J E t.G7,J E t.G8]
theorem fP.nn(t:fP):iE fP.e_ t.b5=t.eP:=by
 unfold fP.e_ fP.b5 fP.eP
 simp only[ur,uu,uv,uw,ux,(show hL (.bZ hg.e_) (.bZ (t.u5.map hg.b5))=.bE 2 (t.u5.map hg.eP)from qe hg.nn _),(show hL (.bZ eW.e_) (.bZ (t.iJ.lJ.map eW.b5))=.bE 2 (t.iJ.lJ.map eW.eP)from qe eW.nn _),(show hL (.bZ eW.e_) (.bZ (t.kg.lJ.map eW.b5))=.bE 2 (t.kg.lJ.map eW.eP)from qe eW.nn _),(show hL (.bZ eW.e_) (.bZ (t.kh.lJ.map eW.b5))=.bE 2 (t.kh.lJ.map eW.eP)from qe eW.nn _)]
structure hU where
 Name:ByteArray
 G9:Int
 G_:Int
 Orders:List Int
 G':Int
 Ha:Int
 Hb:Int
 Global:Int
 Linear:Bool
 xI:List Int
 u6:List gi
 u7:List gE
 Insts:List fP
def hU.b5(t:hU):List dY:=[.v (.string t.Name),.v (.int .i64 t.G9),.v (.int .i64 t.G_),.bZ (t.Orders.map qR),.v (.int .i64 t.G'),.v (.int .i64 t.Ha),.v (.int .i64 t.Hb),.v (.int .i64 t.Global),.v (.bool t.Linear),.bZ (t.xI.map qR),.bZ (t.u6.map gi.b5),.bZ (t.u7.map gE.b5),.bZ (t.Insts.map fP.b5)]
def hU.ok(t:hU):Prop:=(λs=>s.size<=pO) t.Name/\dB t.G9/\dB t.G_/\(p3 dB) t.Orders/\dB t.G'/\dB t.Ha/\dB t.Hb/\dB t.Global/\(λ_=>True) t.Linear/\(p3 dB) t.xI/\(p3 gi.ok) t.u6/\(p3 gE.ok) t.u7/\(p3 fP.ok) t.Insts
def hU.e_:List gR:=[.str,.int .i64,.int .i64,.bZ [.int .i64],.int .i64,.int .i64,.int .i64,.int .i64,.bool,.bZ [.int .i64],.bZ gi.e_,.bZ gE.e_,.bZ fP.e_]
theorem hU.of{r:List dY}(h:cP hU.e_ r):∃t,r=hU.b5 t/\t.ok:=by
 unfold hU.e_ at h
 obtain⟨d0,O,rfl,av,b⟩:=cP.cons_inv h
 obtain⟨al,rfl,w0⟩:=dC.Il av
 obtain⟨P,Q,rfl,h1,cL⟩:=cP.cons_inv b
 obtain⟨aC,rfl,bC⟩:=dC.fo h1
 obtain⟨R,S,rfl,h2,cN⟩:=cP.cons_inv cL
 obtain⟨b6,rfl,cU⟩:=dC.fo h2
 obtain⟨T,U,rfl,ak,dT⟩:=cP.cons_inv cN
 obtain⟨gH,rfl,c⟩:=p2 ak (λ_ h=>Im h)
 obtain⟨V,W,rfl,aJ,fO⟩:=cP.cons_inv dT
 obtain⟨e,rfl,g⟩:=dC.fo aJ
 obtain⟨X,Y,rfl,aO,gZ⟩:=cP.cons_inv fO
 obtain⟨i,rfl,j⟩:=dC.fo aO
 obtain⟨Z,aa,rfl,bt,k⟩:=cP.cons_inv gZ
 obtain⟨l,rfl,m⟩:=dC.fo bt
 obtain⟨ab,ac,rfl,ct,n⟩:=cP.cons_inv k
 obtain⟨o,rfl,p⟩:=dC.fo ct
 obtain⟨ad,ae,rfl,q,u⟩:=cP.cons_inv n
 obtain⟨w,rfl⟩:=dC.qS q
 have x:True:=trivial
 obtain⟨af,ah,rfl,y,z⟩:=cP.cons_inv u
 obtain⟨A,rfl,B⟩:=p2 y (λ_ h=>Im h)
 obtain⟨ai,am,rfl,C,D⟩:=cP.cons_inv z
 obtain⟨E,rfl,F⟩:=p2 C (λ_ h=>gi.of h)
 obtain⟨an,ao,rfl,G,H⟩:=cP.cons_inv D
 obtain⟨I,rfl,J⟩:=p2 G (λ_ h=>gE.of h)
 obtain⟨ap,aq,rfl,K,L⟩:=cP.cons_inv H
 obtain⟨M,rfl,N⟩:=p2 K (λ_ h=>fP.of h)
 obtain rfl:=cP.sR L
 exact⟨⟨al,aC,b6,gH,e,i,l,o,w,A,E,I,M⟩,rfl,⟨w0,bC,cU,c,g,j,m,p,x,B,F,J,N⟩⟩
def hU.eP(t:hU):List U:=[.str t.Name,J E t.G9,J E t.G_,.bE 1 (t.Orders.map bA),J E t.G',J E t.Ha,J E t.Hb,J E t.Global,.bool t.Linear,.bE 1 (t.xI.map bA),.bE 2 (t.u6.map gi.eP),.bE 13 (t.u7.map gE.eP),.bE 33 (t.Insts.map fP.eP)]
theorem hU.nn(t:hU):iE hU.e_ t.b5=t.eP:=by
 unfold hU.e_ hU.b5 hU.eP
 simp only[ur,uu,uv,uw,ux,(show hL (.bZ [.int .i64]) (.bZ (t.Orders.map qR))=.bE 1 (t.Orders.map bA)from qe I3 _),(show hL (.bZ [.int .i64]) (.bZ (t.xI.map qR))=.bE 1 (t.xI.map bA)from qe I3 _),(show hL (.bZ gi.e_) (.bZ (t.u6.map gi.b5))=.bE 2 (t.u6.map gi.eP)from qe gi.nn _),(show hL (.bZ gE.e_) (.bZ (t.u7.map gE.b5))=.bE 13 (t.u7.map gE.eP)from qe gE.nn _),(show hL (.bZ fP.e_) (.bZ (t.Insts.map fP.b5))=.bE 33 (t.Insts.map fP.eP)from qe fP.nn _)]
def gY.to(t:gY):Cell:=⟨t.so,t.GR,t.GS,t.GU,t.GV,t.Param⟩
def gi.to(t:gi):d_:=(t.Rows,t.Cells.map gY.to)
def gE.to(t:gE):ey:=⟨t.Name,t.Data,t.GW,t.GX,t.iJ,t.GY,t.GZ,t.Loop,t.Start,t.End,t.oS,t.oT,t.oU⟩
def hg.to(t:hg):Int×Int:=(t.so,t.G0)
def eW.to(t:eW):Int×Int:=(t.G1,t.G2)
def n9.to(t:n9):bP:=⟨t.tD,t.lJ.map eW.to,t.oS,t.oT,t.oU,t.Loop,t.tE,t.tF⟩
def fP.to(t:fP):c5:=⟨t.Name,t.u5.map hg.to,t.iJ.to,t.kg.to,t.kh.to,t.G3,t.G4,t.G5,t.G6,t.Global,t.G7,t.G8⟩
def hU.to(t:hU):aH:=⟨t.Name,t.G9,t.G_,t.Orders,t.G',t.Ha,t.Hb,t.Global,t.Linear,t.xI,t.u6.map gi.to,t.u7.map gE.to,t.Insts.map fP.to⟩
theorem xJ{α β:Type}{f:α->β}{g:β->List U}{k:α->List U}(h:∀a,g (f a)=k a)(l:List α):(l.map f).map g=l.map k:=by
 rw[xU]
 exact xV λa _=>h a
theorem gi.Am(t:gi):dL t.to=t.eP:=by
 unfold dL ie gi.to gi.eP
 rw[xJ (f:=gY.to) (g:=Cell.cs) (k:=gY.eP) (λa=>rfl)]
theorem n9.Lv(t:n9):ig t.to.dk=.bE 2 (t.lJ.map eW.eP):=by
 unfold ig n9.to
 rw[xJ (f:=eW.to) (g:=jB) (k:=eW.eP) (λa=>rfl)]
theorem fP.Am(t:fP):t.to.cs=t.eP:=by
 unfold c5.cs bP.cs
 rw[show ig t.to.bq.dk=.bE 2 (t.iJ.lJ.map eW.eP)from t.iJ.Lv,show ig t.to.bm.dk=.bE 2 (t.kg.lJ.map eW.eP)from t.kg.Lv,show ig t.to.bo.dk=.bE 2 (t.kh.lJ.map eW.eP)from t.kh.Lv]
 rw[show j7 t.to.keys=.bE 2 (t.u5.map hg.eP)from cZ (U.bE 2) (xJ (f:=hg.to) (g:=cW) (k:=hg.eP) (λa=>rfl) _)]
 rfl
theorem hU.Am(t:hU):t.to.cs=t.eP:=by
 unfold aH.cs
 rw[show l1 t.to.aw=.bE 2 (t.u6.map gi.eP)from cZ (U.bE 2) (xJ (f:=gi.to) (g:=dL) (k:=gi.eP) gi.Am _)]
 rw[show lx t.to.az=.bE 13 (t.u7.map gE.eP)from cZ (U.bE 13) (xJ (f:=gE.to) (g:=ey.cs) (k:=gE.eP) (λa=>rfl) _)]
 rw[show nV t.to.ag=.bE 33 (t.Insts.map fP.eP)from cZ (U.bE 33) (xJ (f:=fP.to) (g:=c5.cs) (k:=fP.eP) fP.Am _)]
 rfl
theorem Hc{α:Type}{p:α->Prop}{l:List α}(h:p3 p l):l.length<9223372036854775808:=by
 have h1:=h.1
 have:pO=9223372036854775807:=rfl
 omega
theorem tG{α β:Type}{p:α->Prop}{l:List α}{f:α->β}(h:p3 p l):(l.map f).length<9223372036854775808:=by rw[c9];exact Hc h
theorem Lw{s:ByteArray}(h:s.size<=pO):s.size<9223372036854775808:=by
 have:pO=9223372036854775807:=rfl
 omega
theorem fP.Lx{t:fP}(h:t.ok):td t.to:=by
 obtain⟨h1,h2,ak,aJ,aO,_⟩:=h
 exact⟨Lw h1,tG h2,tG ak.2.1,tG aJ.2.1,tG aO.2.1⟩
theorem hU.Lx{t:hU}(h:t.ok):gW t.to:=by
 obtain⟨h1,_,_,h2,_,_,_,_,_,ak,aJ,aO,bt⟩:=h
 exact {
  name:=Lw h1
  bk:=Hc h2
  cy:=Hc ak
  aw:=tG aJ
  cells:=λp ah=>by
   obtain⟨q,br,rfl⟩:=List.mem_map.1 ah
   exact tG (aJ.2 q br).2
  az:=tG aO
  lz:=λp ah=>by
   obtain⟨q,br,rfl⟩:=List.mem_map.1 ah
   exact⟨Lw (aO.2 q br).1,Hc (aO.2 q br).2.1⟩
  ag:=tG bt
  ins:=λp ah=>by
   obtain⟨q,br,rfl⟩:=List.mem_map.1 ah
   exact fP.Lx (bt.2 q br) }
def xK(b:List Int)(x:Int):List Int:=if b.contains x=V then b else b++[x]
def gj(L:List Int):List Int:=L.foldl xK []
theorem u9(L:List Int)(x:Int):gj (L++[x])=xK (gj L) x:=by unfold gj;rw[AO];rfl
theorem u_{b:List Int}{x:Int}(h:x∈b):xK b x=b:=by unfold xK;rw[aP (by simpa using h)]
theorem u'{b:List Int}{x:Int}(h:x∉b):xK b x=b++[x]:=by unfold xK;rw[aW (by simpa using h)]
theorem va(L:List Int):∀x,x∈gj L↔x∈L:=by
 refine sl (P:=λL=>∀x,x∈gj L↔x∈L) (λx=>by simp [gj]) (λL a a6=>?_) L
 intro x
 rw[u9]
 by_cases ha:a∈gj L
 ·rw[u_ ha,a6,lO,hp]
  exact⟨.inl,λb=>b.elim id λe=>by rw[e];exact(a6 a).1 ha⟩
 ·rw[u' ha,lO,lO,a6]
theorem Ly(L:List Int):(gj L).Nodup:=by
 refine sl (P:=λL=>(gj L).Nodup) List.nodup_nil (λL a a6=>?_) L
 rw[u9]
 by_cases ha:a∈gj L
 ·rw[u_ ha];exact a6
 ·rw[u' ha,List.nodup_append]
  refine⟨a6,by simp,λx ae au ba e=>?_⟩
  rw[hp]at ba
  rw[e,ba]at ae
  exact ha ae
theorem ajs{f:Int->Int}(L:List Int):(∀x∈L,∀au∈L,f x=f au->x=au)->gj (L.map f)=(gj L).map f:=by
 refine sl (P:=λL=>(∀x∈L,∀au∈L,f x=f au->x=au)->gj (L.map f)=(gj L).map f) (λ_=>rfl) (λL a a6 aE=>?_) L
 have a6:=a6 λx ae au ba=>aE x (oc _ ae) au (oc _ ba)
 rw[jt,u9]
 show gj (L.map f++[f a])=_
 rw[u9,a6]
 by_cases ha:a∈gj L
 ·rw[u_ ha,u_ (List.mem_map.2 ⟨a,ha,rfl⟩)]
 ·rw[u' ha,u',jt];· rfl
  intro c
  obtain⟨b,af,e⟩:=List.mem_map.1 c
  have:=aE b (oc _ ((va L b).1 af)) a (by simp) e
  rw[this]at af
  exact ha af
theorem ajt(A bL:List Int):∃r,gj (A++bL)=gj A++r:=by
 refine sl (P:=λbL=>∃r,gj (A++bL)=gj A++r) ⟨[],by simp⟩ (λbL a a6=>?_) bL
 obtain⟨r,an⟩:=a6
 rw[<-eb,u9,an]
 by_cases ha:a∈gj A++r
 ·exact⟨r,u_ ha⟩
 ·exact⟨r++[a],by rw[u' ha,eb]⟩
theorem U0(n:Nat):cG (n+1)=cG n++[(n:Int)]:=by unfold cG;rw[List.range_succ,jt];rfl
theorem An{n:Nat}{x:Int}:x∈cG n↔0<=x/\x<(n:Int):=by
 refine⟨λh=>tv x h,λh=>?_⟩
 unfold cG
 exact List.mem_map.2 ⟨x.toNat,List.mem_range.2 (by omega),by show((x.toNat:Nat):Int)=x;omega⟩
theorem Ao{n i:Nat}(h:i<n):(cG n)[i]?=y (i:Int):=by unfold cG;simp [h]
theorem Ap(n:Nat):(cG n).length=n:=by simp [cG]
theorem aju{L:List Int}{k:Nat}(h:gj L=cG k)(m:Nat):gj (L++cG m)=cG (max k m):=by
 induction m with
 |zero=>rw[show cG 0=[]from rfl,fD,h,Nat.max_eq_left (hO _)]
 |succ m a6=>
  rw[U0,<-eb,u9,a6]
  by_cases ad:m<k
  ·rw[Nat.max_eq_left (by omega),Nat.max_eq_left (by omega),u_ (An.2 ⟨by omega,by omega⟩)]
  ·rw[Nat.max_eq_right (by omega),Nat.max_eq_right (by omega),u' (λb=>by have:=An.1 b;omega),U0]
def tH(n:Nat)(os:List Int):List Int:=(fj n).map λ(i:Nat)=>if(i:Int)∈os then((os.idxOf (i:Int):Nat):Int)else -1
theorem Aq(n:Nat)(os:List Int):(tH n os).length=n:=by simp [tH]
theorem xL{n:Nat}{os:List Int}{i:Nat}(h:i<n):(tH n os)[i]?=y (if(i:Int)∈os then((os.idxOf (i:Int):Nat):Int)else -1):=by simp [tH,h]
theorem ajv(n:Nat)(L:List Int):(∀x∈L,0<=x/\x<(n:Int))->de n L=(tH n (gj L),((gj L).length:Int)):=by
 refine sl (P:=λL=>(∀x∈L,0<=x/\x<(n:Int))->de n L=(tH n (gj L),((gj L).length:Int))) (λ_=>?_) (λL a a6 h=>?_) L
 ·show(dF n (-1:Int),(0:Int))=_
  rw[show gj []=[]from rfl]
  refine Prod.ext ?_ rfl
  refine fx λj=>?_
  by_cases b:j<n
  ·rw[xL b,Hy,aP b];simp
  ·rw[eE (by simp;omega),eE (by rw[Aq];omega)]
 ·have a6:=a6 λx ae=>h x (oc _ ae)
  obtain⟨i,oA⟩:=h a (by simp)
  have ha:a.toNat<n:=by omega
  have g:((a.toNat:Nat):Int)=a:=by omega
  rw[tu,a6,u9]
  unfold rz
  rw[iN,xL ha,ob,g]
  by_cases hm:a∈gj L
  ·rw[aP hm,aW (by omega),u_ hm]
  ·rw[aW hm,aP (by decide),u' hm]
   refine Prod.ext ?_ (by simp)
   refine fx λj=>?_
   by_cases b:j<n
   ·rw[xL b,AQ,xL b]
    by_cases e:a.toNat=j
    ·have e':(j:Int)=a:=by omega
     rw[aP e,aP (by rw[Aq];omega),e',aP (by simp),Hz,aW hm]
     simp
    ·rw[aW e]
     by_cases c:(j:Int)∈gj L
     ·rw[aP c,aP (oc _ c),Hz,aP c]
     ·have:¬(j:Int)∈gj L++[a]:=by simp [c];omega
      rw[aW c,aW this]
   ·rw[eE (by rw[iz,Aq];omega),eE (by rw[Aq];omega)]
theorem U1{n:Nat}{l:List Int}(h:∀x∈l,0<=x/\x<(n:Int)):dG l n=tH n (gj (l++cG n)):=by
 unfold dG
 rw[ajv n _ λx ae=>by
  rcases List.mem_append.1 ae with ae|ae
  ·exact h x ae
  ·exact tv x ae]
theorem ajw(n:Nat):tH n (cG n)=cG n:=by
 refine fx λj=>?_
 by_cases c:j<n
 ·rw[xL c,Ao c,aP (An.2 ⟨by omega,by omega⟩)]
  have g:(cG n).Nodup:=by
   unfold cG
   exact List.Pairwise.map _ (λa b h e=>h (Int.ofNat.inj e)) List.nodup_range
  have ax:j<(cG n).length:=by rw[Ap];exact c
  have:=g.idxOf_getElem j ax
  have e:(cG n)[j]=(j:Int):=by
   have:=Ao c
   rw[fJ ax]at this
   exact jU this
  rw[e]at this
  rw[this]
 ·rw[eE (by rw[Aq];omega),eE (by rw[Ap];omega)]
def sq(to:List Int)(x:Int):Int:=to.getD x.toNat 0
theorem Hd{n:Nat}{l:List Int}(h:∀x∈l,0<=x/\x<(n:Int)):dG (l.map (sq (dG l n))) n=cG n:=by
 obtain⟨r,an⟩:=ajt l (cG n)
 have m:=Ly (l++cG n)
 have ay:∀x∈l,sq (dG l n) x=(((gj l).idxOf x:Nat):Int):=λx ae=>by
  have af:=h x ae
  have b:x∈gj l:=(va l x).2 ae
  have e:((x.toNat:Nat):Int)=x:=by omega
  unfold sq
  rw[U1 h,iN,xL (by omega),e,an,ob,aP (oc _ b),Hz,aP b]
 have aE:gj (l.map (sq (dG l n)))=cG (gj l).length:=by
  rw[ajs l λx ae au ba e=>by
   rw[ay x ae,ay au ba]at e
   have b:=(va l x).2 ae
   have g:=(va l au).2 ba
   have h1:=AR (List.idxOf_lt_length_iff.2 b)
   have h2:=AR (List.idxOf_lt_length_iff.2 g)
   have e':(gj l).idxOf x=(gj l).idxOf au:=by omega
   rw[<-h1,<-h2]
   congr 1]
  refine fx λj=>?_
  by_cases c:j<(gj l).length
  ·rw[iM,fJ c,dw,Ao c,ay _ ((va l _).1 (pM c)),(Ly l).idxOf_getElem j c]
  ·rw[eE (by simp;omega),eE (by rw[Ap];omega)]
 have ad:(gj l).length<=n:=by
  have i:gj l ⊆ cG n:=λx ae=>An.2 (h x ((va l x).1 ae))
  have:=L5 (Ly l) i
  rwa [Ap]at this
 have k:∀x∈l.map (sq (dG l n)),0<=x/\x<(n:Int):=λx ae=>by
  have:=(va _ x).2 ae
  rw[aE]at this
  have:=An.1 this
  omega
 rw[U1 k,aju aE,Nat.max_eq_right ad,ajw]
structure jq(s:aH):Prop where
 ok:sd s
 xM:(s.bO !=6||(s.az.length:Int)==0)=V
 i0:(eL s.bO 6||(s.ag.length:Int)==0)=V
theorem U2(s:aH):((k_ s).2.2==0)=V↔(∀f∈mF s,gJ f=M)/\∀f∈m' s,gJ f=M:=by
 rw[Km]
 unfold xd
 cases h1:(mF s).find? gJ with
 |some f=>
  simp only[Ga h1]
  have hm:=List.mem_of_find?_eq_some h1
  have ah:=List.find?_some h1
  exact⟨λh=>(by cases h),λh=>(by rw[h.1 f hm]at ah;cases ah)⟩
 |none=>
  simp only
  have cL:=List.find?_eq_none.1 h1
  cases h2:(m' s).find? gJ with
  |some f=>
   simp only[Ga h2]
   have hm:=List.mem_of_find?_eq_some h2
   have ah:=List.find?_some h2
   exact⟨λh=>(by cases h),λh=>(by rw[h.2 f hm]at ah;cases ah)⟩
  |none=>
   have cN:=List.find?_eq_none.1 h2
   exact⟨λ_=>⟨λf aE=>by simpa using cL f aE,λf aE=>by simpa using cN f aE⟩,λ_=>rfl⟩
theorem U3{s:aH}(h:((k_ s).2.2==0)=V):jq s:=by
 have m2:=((U2 s).1 h).2
 unfold m' at m2
 simp only[List.forall_mem_cons]at m2
 obtain⟨cH,i,j,k,l,m,n,o,p,q,t,e,u,g,w,_⟩:=m2
 have b:=nb (by decide) e
 have c:=nb (by decide) g
 rw[dn]at b c
 exact⟨Gb h,b.2,c.2⟩
theorem oV{ok:Bool}{part:ByteArray}{e:Int}(h:ok=V):gJ (hM ok part e)=M:=by subst h;rfl
theorem Ar{α:Type}{part:ByteArray}{code:α->Int}{l:List α}(h:∀a∈l,code a=0):gJ (jC part code l)=M:=by
 rw[xc]
 ·rfl
 ·rw[List.findIdx?_eq_none_iff]
  intro a ha
  rw[h a ha];rfl
theorem jq.Lz{s:aH}(v:jq s):((k_ s).2.2==0)=V:=by
 have ok:=v.ok
 rw[U2]
 unfold mF m'
 simp only[List.forall_mem_cons,ik,false_imp_iff,implies_true,and_true]
 refine⟨⟨oV ok.name,oV ?_,oV ok.ch⟩,oV ok.pA,Ar ok.aw,oV ok.th,Ar λo b=>by rw[ok.bk o b];rfl,oV ok.rest,oV ok.hy,oV ok.hz,oV ok.hA,oV ok.gq,oV ?_,Ar λo b=>by rw[ok.cy o b];rfl,oV ?_,Ar λo b=>by rw[ok.az o b];rfl,oV ?_,Ar ok.ag⟩
 ·unfold ic;rw[ok.bO];rfl
 ·rw[ok.ti];exact pN _
 ·rw[v.xM,nv ok.qt];rfl
 ·rw[v.i0,nv ok.rq];rfl
theorem U4{s:aH}(ok:sd s):hS s<=31:=by
 unfold hS
 have h1:=ok.qt
 have h2:=ok.rq
 split<;>assumption
theorem U5(s:aH):hS s=(fW s:Int):=by unfold hS fW;split<;>rfl
theorem ajx{s:aH}(ok:sd s){i:Nat}{x:c5}(ae:s.ag[i]?=y x):ky (fe s) (jD s i x)=0:=by
 have aa:=ok.ag x (dN ae)
 unfold jD
 split
 ·exact aa
 ·rename_i ad
  have ay:=(GJ ok (dN ae)).1
  have e:0<=hB s i/\hB s i<=s.az.length:=by unfold hB;split<;>omega
  have aB:=ok.qt
  have aG:l0 { x with keys:=fV (hB s i) 120 }=V:=by
   unfold l0 at ay|-
   simp only[dn]at ay|-
   obtain⟨_,h2,_,aJ⟩:=ay
   refine⟨?_,h2,?_,aJ⟩
   ·rw[mf,x9]
    intro k ad
    obtain⟨m,hm,rfl⟩:=List.mem_map.1 (show k∈fV (hB s i) 120 from ad)
    rw[tN]at hm
    unfold pw b9
    have aG:decide ((0:Int)<=(m:Int))=V:=nv (by omega)
    have aF:decide ((m:Int)<=119)=V:=nv (by omega)
    have b:decide ((0:Int)<=hB s i)=V:=nv (by omega)
    have c:decide (hB s i<=31)=V:=nv (by omega)
    simp [aG,aF,b,c]
   ·show((((fV (hB s i) 120).length:Int)==0)||(((fV (hB s i) 120).length:Int)==120))=V
    rw[Gm];rfl
  unfold ky
  rw[aG]
  have aF:(({ x with keys:=fV (hB s i) 120 }:c5).keys.any λk=>decide (k.2>((fe s).az.length:Int)))=M:=by
   rw[x9]
   intro k ad
   obtain⟨m,hm,rfl⟩:=List.mem_map.1 (show k∈fV (hB s i) 120 from ad)
   show ¬decide (hB s i>(s.az.length:Int))=V
   rw[eJ];omega
  rw[aF];rfl
theorem jq.fe{s:aH}(v:jq s):jq (Go.aM.X.fe s):=by
 have ok:=v.ok
 have b:(Go.aM.X.fe s).ag.length=s.ag.length:=by show(s.ag.mapIdx _).length=_;rw[km]
 have aA:hS (Go.aM.X.fe s)=hS s:=by
  unfold hS
  rw[b];rfl
 refine⟨⟨ok.name,ok.bO,ok.ch,ok.pA,λp ah=>?_,ok.th,ok.bk,ok.rest,ok.hy,ok.hz,ok.hA,ok.gq,ok.ti,ok.cy,ok.qt,ok.az,by rw[b];exact ok.rq,λx ae=>?_⟩,v.xM,?_⟩
 ·have:=ok.aw p ah
  unfold kx at this|-
  rw[aA];exact this
 ·obtain⟨i,ai,rfl⟩:=List.mem_mapIdx.1 (show x∈s.ag.mapIdx _ from ae)
  exact ajx ok (fJ ai)
 ·have:=v.i0
  rw[b];exact this
theorem jq.gw{s:aH}{to:List Int}(v:jq s)(p:c8 to s.aw.length):jq (Go.aM.X.gw s to):=by
 have ok:=v.ok
 have ax:(Go.aM.X.gw s to).aw.length=s.aw.length:=iG _ _ _
 have ol:(Go.aM.X.gw s to).bk.length=s.bk.length:=c9 _
 have ah:=ok.pA
 unfold b9 at ah
 simp only[dn,eJ]at ah
 have j:f' s.bO 2<=32:=px (λr=>l2 r 2<=32) (by decide) (by decide) (by decide) (by decide) (by decide) (by decide) (by decide) s.bO
 have b:=fB.oQ ok
 refine⟨⟨ok.name,ok.bO,ok.ch,by rw[ax];exact ok.pA,λq br=>ok.aw q (oP p br),by rw[ol];exact ok.th,λo h=>?_,by rw[ol];exact ok.rest,ok.hy,ok.hz,ok.hA,ok.gq,ok.ti,ok.cy,ok.qt,ok.az,ok.rq,ok.ag⟩,v.xM,v.i0⟩
 obtain⟨x,ae,rfl⟩:=List.mem_map.1 (show o∈s.bk.map (hN to)from h)
 have af:=ok.bk x ae
 unfold k9 at af|-
 rw[ax]
 by_cases c:mark x=V
 ·have:hN to x=x:=by unfold hN;rw[aP c]
  rw[this];exact af
 ·have g:mark x=M:=by simpa using c
  obtain⟨i,t,rfl,k,e,aR⟩:=xu p g (b.bk x ae g)
  rw[e,wrap64 (by unfold dB;omega)]
  unfold b9
  have aG:decide ((0:Int)<=(t:Int))=V:=nv (by omega)
  have aF:decide ((t:Int)<=(s.aw.length:Int)-1)=V:=nv (by omega)
  rw[aG,aF];simp
theorem U6{c:Cell}{n:Int}(h:k7 c=V)(av:0<=n)(h1:n<=31):k7 { c with inst:=n }=V:=by
 unfold k7 at h|-
 simp only[dn]at h|-
 refine⟨⟨⟨h.1.1.1,?_⟩,h.1.2⟩,h.2⟩
 unfold b9
 rw[dn,eJ,eJ]
 exact⟨av,h1⟩
theorem U7{s g:aH}{to:List Int}{p:d_}(h:kx s p=0)(hd:g.bO=s.bO)(aa:g.ch=s.ch)(aA:hS g=hS s)(n:hS s<=31)(ai:∀c∈p.2,0<=gu c.inst to/\gu c.inst to<=hS s):kx g (gv to p)=0:=by
 unfold kx at h
 split at h
 ·cases h
 ·rename_i af
  have j:sb s p=M:=by simpa using af
  unfold sb at j
  rw[rE,rE]at j
  obtain⟨⟨h1,h2⟩,ak⟩:=j
  have aF:nS p.1 (gv to p).2 s.ch=V:=by
   have i:nS p.1 p.2 s.ch=V:=by simpa using h2
   unfold nS at i|-
   simp only[dn]at i|-
   refine⟨⟨i.1.1,by rw[show(gv to p).2.length=p.2.length by simp [gv]];exact i.1.2⟩,?_⟩
   rw[AP]
   intro c aa
   obtain⟨b,e,rfl⟩:=List.mem_map.1 (show c∈p.2.map _ from aa)
   have:=ai b e
   exact U6 (List.all_eq_true.1 i.2 b e) this.1 (by omega)
  have k:((gv to p).2.any λc=>!pr s.bO c)=M:=by
   rw[x9]at ak|-
   intro c aa
   obtain⟨b,e,rfl⟩:=List.mem_map.1 (show c∈p.2.map _ from aa)
   have aJ:=ak b e
   have aO:pr s.bO b=V:=by simpa using aJ
   have:=ai b e
   unfold pr at aO|-
   rw[dn,dn]at aO
   rw[aO.1,U6 aO.2.1 this.1 (by omega),hq,hq]
   simp only[Bool.not_eq_true,L7]
   exact aO.2.2
  have l:sb g (gv to p)=M:=by
   unfold sb
   rw[hd,aa,k,show(gv to p).1=p.1 from rfl,h1,aF];rfl
  unfold kx
  rw[l,aA]
  have m:((gv to p).2.any λc=>decide (c.inst>hS s))=M:=by
   rw[x9]
   intro c aa
   obtain⟨b,e,rfl⟩:=List.mem_map.1 (show c∈p.2.map _ from aa)
   have:=ai b e
   show ¬decide (gu b.inst to>hS s)=V
   rw[eJ];omega
  rw[m];rfl
theorem He{to:List Int}{m:Nat}(p:c8 to m){n:Int}(h:fv n m):0<=gu n to/\gu n to<=(m:Int):=by
 have:=Tr p h
 unfold fv at this
 omega
theorem jq.hE{s:aH}{to:List Int}(v:jq s)(p:c8 to s.ag.length)(br:eL s.bO 6=V):jq (Go.aM.X.hE s to):=by
 have ok:=v.ok
 have b:=fB.oQ ok
 have e:(Go.aM.X.hE s to).ag.length=s.ag.length:=iG _ _ _
 have g:(Go.aM.X.hE s to).aw.length=s.aw.length:=c9 _
 have aA:hS (Go.aM.X.hE s to)=hS s:=by
  unfold hS
  rw[e];rfl
 have hm:fW s=s.ag.length:=by unfold fW;rw[aP br]
 have k:=U5 s
 refine⟨⟨ok.name,ok.bO,ok.ch,by rw[g];exact ok.pA,λq i=>?_,ok.th,λo j=>?_,ok.rest,ok.hy,ok.hz,ok.hA,ok.gq,ok.ti,ok.cy,ok.qt,ok.az,by rw[e];exact ok.rq,λx ae=>ok.ag x (oP p ae)⟩,v.xM,by rw[e];exact v.i0⟩
 ·obtain⟨h,cd,rfl⟩:=List.mem_map.1 (show q∈s.aw.map (gv to)from i)
  refine U7 (s:=s) (ok.aw h cd) rfl rfl aA (U4 ok) λc aa=>?_
  have:=He p (by rw[<-hm];exact b.nh h cd c aa)
  omega
 ·have:=ok.bk o j
  unfold k9 at this|-
  rw[g];exact this
theorem ajy{s e:aH}{to:List Int}{x:c5}(p:c8 to s.az.length)(h:ky s x=0)(aB:e.az.length=s.az.length)(m:(s.az.length:Int)<=31):ky e (hD to x)=0:=by
 unfold ky at h
 split at h
 ·cases h
 ·rename_i h1
  split at h
  ·cases h
  ·rename_i h2
   have ay:l0 x=V:=by simpa using h1
   have ad:∀k∈x.keys,fv k.2 s.az.length:=λk ad=>by
    have ak:¬k.2>(s.az.length:Int):=λi=>h2 (List.any_eq_true.2 ⟨k,ad,by simpa using i⟩)
    have aJ:pw k=M:=by
     unfold l0 at ay
     simp only[dn,mf]at ay
     have:=List.any_eq_false.1 ay.1 k ad
     simpa using this
    unfold pw b9 at aJ
    simp only[rE,L7,dn,eJ]at aJ
    unfold fv;omega
   have aG:l0 (hD to x)=V:=by
    unfold l0 at ay|-
    simp only[dn]at ay|-
    obtain⟨g,j,a3,a4⟩:=ay
    refine⟨?_,j,by rw[show(hD to x).keys.length=x.keys.length by simp [hD]];exact a3,a4⟩
    rw[mf,x9]at g|-
    intro k c
    obtain⟨k',b,rfl⟩:=List.mem_map.1 (show k∈x.keys.map (pJ to)from c)
    have aO:=g k' b
    have bt:=He p (ad k' b)
    unfold pw at aO|-
    have l:b9 (pJ to k').2 0 31=V:=by
     show b9 (gu k'.2 to) 0 31=V
     unfold b9
     rw[dn,eJ,eJ]
     omega
    rw[l]
    simp only[fg,Bool.or_false,mM,not_or]at aO|-
    exact aO.1
   unfold ky
   rw[aG,aB]
   have aF:((hD to x).keys.any λk=>decide (k.2>(s.az.length:Int)))=M:=by
    rw[x9]
    intro k c
    obtain⟨k',b,rfl⟩:=List.mem_map.1 (show k∈x.keys.map (pJ to)from c)
    have bt:=He p (ad k' b)
    show ¬decide (gu k'.2 to>(s.az.length:Int))=V
    rw[eJ];omega
   rw[aF];rfl
theorem jq.U8{s:aH}{to:List Int}(v:jq s)(p:c8 to s.az.length):jq (h0 (Go.aM.X.ec s to) to):=by
 have ok:=v.ok
 have bZ:(h0 (Go.aM.X.ec s to) to).az.length=s.az.length:=iG _ _ _
 have b:(h0 (Go.aM.X.ec s to) to).ag.length=s.ag.length:=c9 _
 have aA:hS (h0 (Go.aM.X.ec s to) to)=hS s:=by
  unfold hS
  rw[b,bZ];rfl
 refine⟨⟨ok.name,ok.bO,ok.ch,ok.pA,λq br=>?_,ok.th,ok.bk,ok.rest,ok.hy,ok.hz,ok.hA,ok.gq,ok.ti,ok.cy,by rw[bZ];exact ok.qt,λx ae=>ok.az x (oP p ae),by rw[b];exact ok.rq,λx ae=>?_⟩,by rw[bZ];exact v.xM,by rw[b];exact v.i0⟩
 ·have:=ok.aw q br
  unfold kx at this|-
  rw[aA];exact this
 ·obtain⟨c,e,rfl⟩:=List.mem_map.1 (show x∈s.ag.map (hD to)from ae)
  exact ajy p (ok.ag c e) bZ ok.qt
theorem jq.jl{s:aH}{to:List Int}(v:jq s)(p:c8 to (fW s)):jq (Go.aM.X.jl s to):=by
 have ok:=v.ok
 have b:=fB.oQ ok
 have e:(Go.aM.X.jl s to).aw.length=s.aw.length:=c9 _
 have j:=U5 s
 refine⟨⟨ok.name,ok.bO,ok.ch,by rw[e];exact ok.pA,λq h=>?_,ok.th,λo i=>?_,ok.rest,ok.hy,ok.hz,ok.hA,ok.gq,ok.ti,ok.cy,ok.qt,ok.az,ok.rq,ok.ag⟩,v.xM,v.i0⟩
 ·obtain⟨g,cd,rfl⟩:=List.mem_map.1 (show q∈s.aw.map (gv to)from h)
  refine U7 (s:=s) (ok.aw g cd) rfl rfl rfl (U4 ok) λc aa=>?_
  have:=He p (b.nh g cd c aa)
  omega
 ·have:=ok.bk o i
  unfold k9 at this|-
  rw[e];exact this
theorem jq.eI{s:aH}{to:List Int}(v:jq s)(p:c8 to s.az.length):jq (Go.aM.X.eI s to):=by
 unfold Go.aM.X.eI
 split
 ·exact v.U8 p
 ·rename_i br
  refine(v.U8 p).jl ?_
  have:fW (h0 (Go.aM.X.ec s to) to)=s.az.length:=by
   unfold fW
   show(if eL s.bO 6=V then _ else(eO Gx s.az to).length)=_
   rw[aW br,iG]
  rw[this];exact p
theorem ajz{n j:Nat}(h:j<n):eH (cG n) j=j:=by
 unfold eH
 have c:(cG n).Nodup:=by
  unfold cG
  exact List.Pairwise.map _ (λa b g e=>g (Int.ofNat.inj e)) List.nodup_range
 have ax:j<(cG n).length:=by rw[Ap];exact h
 have e:(cG n)[j]=(j:Int):=by
  have:=Ao h
  rw[fJ ax]at this
  exact jU this
 have:=c.idxOf_getElem j ax
 rwa [e]at this
theorem LA{α:Type}(d:α)(l:List α):eO d l (cG l.length)=l:=by
 refine fx λj=>?_
 by_cases h:j<l.length
 ·rw[Tp h,ajz h,iN,fJ h];rfl
 ·rw[jm h,eE (by omega)]
theorem U9{n:Nat}{x:Int}(h:0<=x/\x<(n:Int)):(cG n).getD x.toNat 0=x:=by
 rw[iN,Ao (by omega)]
 show((x.toNat:Nat):Int)=x
 omega
theorem ajA{n:Nat}{o:Int}(h:mark o=M->0<=o/\o<(n:Int)):hN (cG n) o=o:=by
 unfold hN
 split
 ·rfl
 ·rename_i hm
  exact U9 (h (by simpa using hm))
theorem U_{m:Nat}{x:Int}(h:fv x m):gu x (cG m)=x:=by
 unfold gu
 split
 ·exact Eq.symm ‹_›
 ·rcases h with rfl|h
  ·contradiction
  ·rw[U9 (by omega)];omega
theorem As{α:Type}{f:α->α}{l:List α}(h:∀a∈l,f a=a):l.map f=l:=by
 conv=>rhs;rw[<-List.map_id l]
 exact xV h
theorem ajB{s:aH}(b:fB s):gw s (cG s.aw.length)=s:=by
 unfold gw
 rw[LA,As λo c=>ajA λhm=>b.bk o c hm]
theorem ajC{p:d_}{m:Nat}(h:∀c∈p.2,fv c.inst m):gv (cG m) p=p:=by
 unfold gv
 have:(p.2.map λc=>({ c with inst:=gu c.inst (cG m) }:Cell))=p.2:=As λc aa=>by rw[U_ (h c aa)]
 rw[this]
theorem U'{s:aH}{m:Nat}(h:∀p∈s.aw,∀c∈p.2,fv c.inst m):jl s (cG m)=s:=by
 unfold jl
 rw[As λp ah=>ajC (h p ah)]
theorem ajD{x:c5}{m:Nat}(h:∀c∈x.keys,fv c.2 m):hD (cG m) x=x:=by
 unfold hD
 have:x.keys.map (pJ (cG m))=x.keys:=As λc aa=>by
  unfold pJ
  rw[U_ (h c aa)]
 rw[this]
theorem ajE{s:aH}{m:Nat}(h:∀x∈s.ag,∀c∈x.keys,fv c.2 m):h0 s (cG m)=s:=by
 unfold h0
 rw[As λx ae=>ajD (h x ae)]
theorem ajF(s:aH):ec s (cG s.az.length)=s:=by unfold ec;rw[LA]
theorem ajG(s:aH):gL s (cG s.ag.length)=s:=by unfold gL;rw[LA]
theorem ajH{s:aH}(b:fB s)(br:eL s.bO 6=V):hE s (cG s.ag.length)=s:=by
 have hm:fW s=s.ag.length:=by unfold fW;rw[aP br]
 unfold hE
 rw[ajG,U' (by rw[<-hm];exact b.nh)]
theorem Va{s:aH}(b:fB s):eI s (cG s.az.length)=s:=by
 unfold eI
 rw[ajF,ajE b.keys]
 split
 ·rfl
 ·rename_i br
  have hm:fW s=s.az.length:=by unfold fW;rw[aW br]
  exact U' (by rw[<-hm];exact b.nh)
theorem LB{to:List Int}{m:Nat}(p:c8 to m){l:List Int}(h:∀x∈l,fv x m):ed (l.map λx=>gu x to)=(ed l).map (sq to):=by
 induction l with
 |nil=>rfl
 |cons x l a6=>
  have a6:=a6 λau ba=>h au (L8 _ ba)
  have ae:=h x (List.mem_cons_self ..)
  have aG:ed (x::l)=ed [x]++ed l:=xD [x] l
  have aF:ed (gu x to::l.map λx=>gu x to)=ed [gu x to]++ed (l.map λx=>gu x to):=xD [_] _
  rw[me,aF,aG,jt,a6]
  congr 1
  rcases ae with rfl|ae
  ·rfl
  ·obtain⟨t,aR,b,e⟩:=p.sO ae
   rw[e]
   have h1:(((t:Int)+1) !=0)=V:=by rw[kl];omega
   have h2:(x !=0)=V:=by rw[kl];omega
   unfold ed
   simp only[AJ,h1,h2,a_,List.filter_nil,me,Ht]
   unfold sq
   rw[iN,b]
   show [(t:Int)+1-1]=[(t:Int)]
   rw[Int.add_sub_cancel]
theorem ajI(to:List Int)(p:d_):ci (gv to p)=(ci p).map λx=>gu x to:=by
 unfold ci gv
 rw[xU,xU];rfl
theorem Hf{s:aH}(b:fB s):∀x∈s.aw.flatMap ci,fv x (fW s):=λx ae=>by
 obtain⟨p,ah,ae⟩:=List.mem_flatMap.1 ae
 obtain⟨c,aa,rfl⟩:=List.mem_map.1 ae
 exact b.nh p ah c aa
theorem Vb{α β b:Type}(l:List α)(f:α->List β)(g:β->b)(bX:α->α)(f2:α->List b)(h:∀a,f2 (bX a)=(f a).map g):(l.map bX).flatMap f2=(l.flatMap f).map g:=by
 induction l with
 |nil=>rfl
 |cons a l a6=>rw[me,tS,tS,jt,a6,h]
theorem Vc{s:aH}(to:List Int):(s.aw.map (gv to)).flatMap ci=(s.aw.flatMap ci).map λx=>gu x to:=Vb _ _ _ _ _ (ajI to)
theorem ajJ(to:List Int)(x:c5):fI (hD to x)=(fI x).map λx=>gu x to:=by
 unfold fI hD
 rw[xU,xU];rfl
theorem ajK{s:aH}(to:List Int):(s.ag.map (hD to)).flatMap fI=(s.ag.flatMap fI).map λx=>gu x to:=Vb _ _ _ _ _ (ajJ to)
theorem LC{l:List Int}{m:Nat}(h:∀x∈l,fv x m):∀x∈ed l,0<=x/\x<(m:Int):=λx ae=>by
 unfold ed at ae
 obtain⟨au,ba,rfl⟩:=List.mem_map.1 ae
 obtain⟨h1,h2⟩:=List.mem_filter.1 ba
 rw[kl]at h2
 have:=h au h1
 unfold fv at this
 omega
theorem ajL{n:Nat}{l:List Int}(aA:n<=200)(h:∀o∈l,mark o=M->0<=o/\o<(n:Int)):dG (dA (l.map (hN (dG (dA l) n)))) n=cG n:=by
 have pm:c8 (dG (dA l) n) n:=lH λx ae=>by
  obtain⟨h1,h2⟩:=(z_ l x).1 ae
  exact h x h1 h2
 have aE:∀x∈l.filter (λo=>!mark o),0<=x/\x<(n:Int):=λx ae=>by
  obtain⟨h1,h2⟩:=List.mem_filter.1 ae
  exact h x h1 (by simpa using h2)
 have g:∀o∈l,mark (hN (dG (dA l) n) o)=mark o:=λo b=>by
  by_cases hm:mark o=V
  ·have:hN (dG (dA l) n) o=o:=by unfold hN;rw[aP hm]
   rw[this]
  ·have c:mark o=M:=by simpa using hm
   obtain⟨i,t,rfl,j,e,aR⟩:=xu pm c (h o b c)
   rw[e,c]
   unfold mark
   have aG:((t:Int)==254)=M:=by rw[jV];omega
   have aF:((t:Int)==255)=M:=by rw[jV];omega
   rw[aG,aF];rfl
 rw[Lb (n:=n) λo b hm=>?_]
 ·have e:(l.map (hN (dG (dA l) n))).filter (λo=>!mark o)=(l.filter λo=>!mark o).map (sq (dG (l.filter λo=>!mark o) n)):=by
   rw[List.filter_map,<-Lb h]
   rw[LY (q:=λo=>!mark o) λo b=>by
    show(!mark (hN (dG (dA l) n) o))=_
    rw[g o b]]
   refine xV λo b=>?_
   obtain⟨_,h2⟩:=List.mem_filter.1 b
   unfold hN sq
   rw[aW (by simpa using h2)]
  rw[e]
  exact Hd aE
 ·obtain⟨x,ae,rfl⟩:=List.mem_map.1 b
  rw[g x ae]at hm
  obtain⟨i,t,rfl,j,e,aR⟩:=xu pm hm (h x ae hm)
  rw[e];omega
theorem Vd(s:aH)(to:List Int):(eI s to).bk=s.bk/\(eI s to).aw.length=s.aw.length/\(eI s to).bO=s.bO/\(eI s to).ag.length=s.ag.length/\(eI s to).az.length=s.az.length:=by
 unfold eI
 split
 ·exact⟨rfl,rfl,rfl,c9 _,iG _ _ _⟩
 ·exact⟨rfl,c9 _,rfl,c9 _,iG _ _ _⟩
theorem ke.eI{s:aH}(h:ke s)(to:List Int):ke (Go.aM.X.eI s to):=by
 have:ke (h0 (ec s to) to):=λx ae=>by
  obtain⟨au,ba,rfl⟩:=List.mem_map.1 (show x∈s.ag.map (hD to)from ae)
  show(au.keys.map (pJ to)).length>0
  rw[c9];exact h au ba
 unfold Go.aM.X.eI
 split
 ·exact this
 ·exact this
theorem Ve{s:aH}(v:jq s):jq (dv s)/\dv (dv s)=dv s:=by
 have ok:=v.ok
 have b:=fB.oQ ok
 have ah:=ok.pA
 unfold b9 at ah
 simp only[dn,eJ]at ah
 have J:f' s.bO 2<=32:=px (λr=>l2 r 2<=32) (by decide) (by decide) (by decide) (by decide) (by decide) (by decide) (by decide) s.bO
 have w:c8 (dG (dA s.bk) s.aw.length) s.aw.length:=lH (GK b)
 have v1:jq (c0 s):=v.fe.gw w
 have cH:fB (c0 s):=b.fe.gw w
 have bw:ke (c0 s):=(Ug s).gw _
 have hd:(c0 s).bO=s.bO:=rfl
 have n:(c0 s).ag.length=s.ag.length:=by show(s.ag.mapIdx _).length=_;rw[km]
 have y:(c0 s).aw.length=s.aw.length:=iG _ _ _
 have E:dG (dA (c0 s).bk) s.aw.length=cG s.aw.length:=ajL (by omega) b.bk
 have step:∀aZ:aH,fB aZ->ke aZ->aZ.bk=(c0 s).bk->aZ.aw.length=s.aw.length->c0 aZ=aZ:=λaZ c i aG aF=>by
  unfold c0
  rw[i.Lc,aG,aF,E,<-aF]
  exact ajB c
 cases br:eL s.bO 6 with
 |false=>
  have e:fW (c0 s)=s.az.length:=by unfold fW;rw[hd,aW (by rw[br];decide)];rfl
  have g:c8 (dG (jE (c0 s)) s.az.length) (c0 s).az.length:=lH (by rw[<-e];exact sm cH)
  have p:dv s=eI (c0 s) (dG (jE (c0 s)) s.az.length):=by unfold dv;rw[aW (by rw[br];decide)]
  have h:=v1.eI g
  obtain⟨j,t2,t3,t4,t5⟩:=Vd (c0 s) (dG (jE (c0 s)) s.az.length)
  have k:(eI (c0 s) (dG (jE (c0 s)) s.az.length)).aw=(c0 s).aw.map (gv (dG (jE (c0 s)) s.az.length)):=by
   unfold eI
   rw[aW (by rw[hd,br];decide)];rfl
  rw[p]
  obtain⟨aZ,l⟩:∃aZ,aZ=eI (c0 s) (dG (jE (c0 s)) s.az.length):=⟨_,rfl⟩
  have i:ke aZ:=by rw[l];exact bw.eI _
  rw[<-l]at h j t2 t3 t4 t5 k|-
  have c:=fB.oQ h.ok
  have q:c0 aZ=aZ:=step aZ c i j (t2.trans y)
  refine⟨h,?_⟩
  unfold dv
  have o:eL aZ.bO 6=M:=by rw[t3,hd];exact br
  rw[aW (by rw[o];decide),q,Ag c,k,Vc,LB (m:=s.az.length) g (by rw[<-e];exact Hf cH),t5,Ag cH]
  show eI aZ (dG _ s.az.length)=aZ
  rw[Hd (LC (by rw[<-e];exact Hf cH))]
  have F:aZ.az.length=s.az.length:=t5
  rw[<-F]
  exact Va c
 |true=>
  have e:fW (c0 s)=s.ag.length:=by unfold fW;rw[hd,aP br,n]
  have g:c8 (dG (jE (c0 s)) s.ag.length) (c0 s).ag.length:=by
   rw[n];exact lH (by rw[<-e];exact sm cH)
  have v2:jq (ea s):=v1.hE g (by rw[hd];exact br)
  have t:fB (ea s):=cH.hE g (by rw[hd];exact br)
  have bD:ke (ea s):=bw.hE g
  have u:(ea s).bO=s.bO:=rfl
  have z:c8 (dG (fw ((ea s).ag.flatMap fI)) s.az.length) (ea s).az.length:=lH (xA (xB t))
  have p:dv s=eI (ea s) (dG (fw ((ea s).ag.flatMap fI)) s.az.length):=by unfold dv;rw[aP br]
  have h:=v2.eI z
  obtain⟨j,t2,t3,t4,t5⟩:=Vd (ea s) (dG (fw ((ea s).ag.flatMap fI)) s.az.length)
  have k:(eI (ea s) (dG (fw ((ea s).ag.flatMap fI)) s.az.length)).aw=(c0 s).aw.map (gv (dG (jE (c0 s)) s.ag.length)):=by
   unfold eI
   rw[aP (by rw[u,br])];rfl
  have A:(eI (ea s) (dG (fw ((ea s).ag.flatMap fI)) s.az.length)).ag=(ea s).ag.map (hD (dG (fw ((ea s).ag.flatMap fI)) s.az.length)):=by
   unfold eI
   rw[aP (by rw[u,br])];rfl
  rw[p]
  obtain⟨aZ,l⟩:∃aZ,aZ=eI (ea s) (dG (fw ((ea s).ag.flatMap fI)) s.az.length):=⟨_,rfl⟩
  have i:ke aZ:=by rw[l];exact bD.eI _
  rw[<-l]at h j t2 t3 t4 t5 k A|-
  have c:=fB.oQ h.ok
  have G:(ea s).aw.length=s.aw.length:=(c9 _).trans y
  have H:(ea s).ag.length=s.ag.length:=(iG _ _ _).trans n
  have q:c0 aZ=aZ:=step aZ c i j (t2.trans G)
  have o:eL aZ.bO 6=V:=by rw[t3,u];exact br
  have B:aZ.ag.length=s.ag.length:=t4.trans H
  have I:ea aZ=aZ:=by
   unfold ea
   rw[q,Ag c,k,Vc,LB (m:=s.ag.length) (by have:=g;rw[n]at this;exact this) (by rw[<-e];exact Hf cH),B,Ag cH,Hd (LC (by rw[<-e];exact Hf cH)),<-B]
   exact ajH c o
  refine⟨h,?_⟩
  unfold dv
  have C:aZ.az.length=s.az.length:=t5
  have D:∀x∈(ea s).ag.flatMap fI,fv x s.az.length:=xB (s:=ea s) t
  rw[aP o,I,GO c,A,ajK,LB (m:=s.az.length) z D,C,GO t,Hd (LC D),<-C]
  exact Va c
end Go.aM.X
namespace Go.aM.X
open Go.bF Go.aM
attribute [local congr] mZ m0 m5 m6 oE q4 q5 r3
def sr(h:Z)(A:aS->U)(s:aH):Prop:=∀X,∃b4,cC (.agg fp) (.agg (aQ A s)) (h++X)=y (.agg s.cs,b4)
theorem Vf(h:Z)(s:aH):sr h (iY s) s:=λX=>⟨_,zh _ rfl⟩
theorem Au{av H:Z}{A:aS->U}{s:aH}(own:cD av db H A s):∃b4,cC (.agg fp) (.agg (aQ A s)) H=y (.agg s.cs,b4)/\b4.length=H.length/\∀b,b<av.length->b4[b]?=H[b]?:=by
 obtain⟨b4,e,ax,aE⟩:=T8 own
 have e':gk fp (aQ A s) H=y (s.cs,b4):=e
 exact⟨b4,by rw[um,e'];rfl,ax,aE⟩
theorem LD{av H:Z}{A:aS->U}{s:aH}(own:cD av db H A s):sr H A s:=λX=>by
 obtain⟨b4,e,_⟩:=Au (own.app X)
 exact⟨b4,e⟩
theorem xN(b:Bool):mX (.bool b)=V:=ca rfl
theorem ajM{h H:Z}{A:aS->U}{s:aH}{b n sz:Nat}(e:A .aw=.ref b 0 n n sz)(af:h.length<=b)(m:Int):aN [.aj,.aj] h H [.agg (aQ A s),J E m]=y (.tuple [.agg (aQ A s),J E m],H):=by
 rw[mC]
 simp only[gk,cC,dy,dw]
 unfold trim
 rw[aW]
 ·rfl
 ·intro c
  have:=c.1 (.agg (aQ A s)) (by simp)
  simp only[bM]at this
  have:=this (A .aw) (by simp [aQ])
  rw[e]at this
  simp only[bM]at this
  omega
def ix:List U:=[.str ⟨#[]⟩,J E 0,J E 0,.a7,J E 0,J E 0,J E 0,J E 0,.bool M,.a7,.a7,.a7,.a7]
theorem ajN{h l:Z}{n:Int}:aN [.aj,.aj] h (h++l) [.agg [.str ⟨#[]⟩,J E 0,J E 0,.a7,J E 0,J E 0,J E 0,J E 0,.bool M,.a7,.a7,.a7,.a7],J E n]=y (.tuple [.agg ix,J E n],h):=by
 refine q8 (ws:=[.agg ix,J E n]) (l:=l) (by simp only[iV,jK,kN,dy,dw];rfl) ?_
 intro v ay
 simp only[hF,ik,h6]at ay
 rcases ay with rfl|rfl<;>exact j5 rfl
theorem ajO(h:Z):cC (.agg fp) (.agg ix) h=y (.agg l4.cs,h):=by
 rw[um]
 unfold fp ix
 simp only[iV,jK,kN,b8,qf,N8,I0]
 rfl
theorem ajP(A:aS->U)(s:aH):e7 V 0 13 (aQ A s)=y (.agg (aQ A s)):=gh rfl
theorem Vg{h av H:Z}{A:aS->U}{s:aH}{k:Nat}{vs:List U}(own:cD av db H A s)(i:s.aw≠[])(c:av=h++[.box vs 27 .rw,eD])(ad:H[k]?=y (.box (aQ A s) 27 .rw)):
 ab V 13 (.ptr k 0) H=y (.agg (aQ A s))/\∃G,bf 13 (.ptr (h.length+1) 0) (.agg (aQ A s)) H=y G/\ab V 13 (.ptr (h.length+1) 0) G=y (.agg (aQ A s))/\aN [.aj,.aj] h G [.agg (aQ A s),J E 0]=y (.tuple [.agg (aQ A s),J E 0],G)/\cD h db G A s:=by
 have ax:h.length+2=av.length:=by rw[c];simp
 have cH:H[h.length+1]?=y eD:=by
  rw[own.cJ _ (by omega),c,gg];rfl
 have j:bf 13 (.ptr (h.length+1) 0) (.agg (aQ A s)) H=y (H.set (h.length+1) (.box (aQ A s) 27 .rw)):=by
  unfold bf
  rw[show(cM (cn (U.agg (aQ A s))).length 13&&fX 0 13)=V from rfl]
  simp only[gG,cH]
  show((cF _ 0 (aQ A s)).map _)=_
  rw[tk own.rs];rfl
 have l:(H.set (h.length+1) (.box (aQ A s) 27 .rw))[h.length+1]?=y (.box (aQ A s) 27 .rw):=fK (List.getElem?_eq_some_iff.1 cH).1
 have g:=own.lower (h:=h) (by omega) (λb af=>by rw[c,cI af])
 obtain⟨b,n,e,af⟩:=Uc g i
 exact⟨iw ad rfl,_,j,iw l rfl,ajM e af 0,g.box cH (by omega) _⟩
def ajQ(h:Z)(s:aH)(q:U×Z):Prop:=(((k_ s).2.2==0)=V/\∃b,q.1=.tuple [.agg (aQ b (dv s)),J E 0]/\cD h db q.2 b (dv s))\/(((k_ s).2.2==0)=M/\q=(.tuple [.agg ix,J E 1],h))
theorem Hg(s:aH)(ax:gW s)(cA:aS->U)(h:Z)(bz:gr h cA s)(ng:sr h cA s):eG (aL 14 [.agg (aQ cA s)] h) (ajQ h s):=by
 refine eG.body (F:=Cv) (by kernel_rfl) 1 ?_
 rw[aaW];unfold OK
 obtain⟨av,q⟩:∃av,av=h++[b3.box (aQ cA s) 27 .rw,eD]:=⟨_,rfl⟩
 have ai:=q
 unfold eD at ai
 have aX:ab V 13 (.ptr h.length 0) av=y (.agg (aQ cA s)):=by rw[q];exact iw (vs:=aQ cA s) (by rw[en];rfl) rfl
 obtain⟨b9,ak⟩:=ng [b3.box (aQ cA s) 27 .rw,eD]
 rw[<-q]at ak
 cases ay:((k_ s).2.2==0)with
 |false=>
  obtain⟨b_,aY⟩:=ng [b3.box (aQ cA s) 27 .rw,eD]
  unfold eD at aY
  simp only[aU,↓aI,aV,ajP,aY,uC s ax,xN,iW,ay,gN,bn,bh,a_,lr,xf,zW _ _ _ _ _ _ _ _ _ _ _ _ _ _ _ _ _ _ _ _ _ zX,zV,ajN]
  exact eG.of rfl (.inr ⟨ay,rfl⟩)
 |true=>
  have b:=fB.oQ (Gb ay)
  have aZ:(dv s).aw≠[]:=(fB.oQ (Ve (U3 ay)).1.ok).ne
  have fa:av.length=h.length+2:=by rw[q];simp
  obtain⟨⟨b',c'⟩,a0,A1,a1,X,bA⟩:=Jw s cA av (by rw[q];exact bz.app _) b.fU.small b.ne
  simp only at a1 X
  subst a1
  have n1:=X.len
  obtain⟨k,Y⟩:∃k,k=c'.length:=⟨_,rfl⟩
  have bB:=X.app [.box (aQ A1 s) 27 .rw]
  have a2:(c'++[b3.box (aQ A1 s) 27 .rw])[k]?=y (.box (aQ A1 s) 27 .rw):=by rw[Y,en];rfl
  obtain⟨⟨ca,H⟩,a3,a4,n,a5,a6,bC,B'⟩:=Jr s A1 av _ k 27 bB a2 bA b.fU.small
  simp only at a4 a5 a6 B'
  subst a4
  have al:=b.fe
  have bD:=Ua s bC
  have a8:H[k]?=y (.box (aQ n (fe s)) 27 .rw):=by rw[bD];exact a6 _ _ _ _ a2
  have aG:ab V 13 (.ptr k 0) H=y (.agg (aQ n (fe s))):=iw a8 rfl
  obtain⟨C,K⟩:∃C,C=H++[b3.box (aQ n (fe s)) 27 .rw]:=⟨_,rfl⟩
  have am:cD av db C n (fe s):=by rw[K];exact a5.app _
  have a9:C[k]?=y (.box (aQ n (fe s)) 27 .rw):=by rw[K];exact ff.app _ _ _ _ _ _ a8
  have an:=ah1 n (fe s) (lock H)
  rw[kL]at an
  have aF:ab M 1 (.ptr k 10) C=y (n .aw):=ez a9 (j_ _ _)
  have ap:=fA (am.rs .aw)
  have bF:(ao n (fe s) .aw).length=s.aw.length:=by simp [ao,fe]
  rw[bF]at ap
  have bG:nZ C (.func 94 [] [.ptr H.length 0]) (dA s.bk):=ahW (s:=fe s) (t2:=27) (md2:=.rw) (by rw[K,en];rfl) am.rs b.fU.bk
  have a':=GD bG (GK b) b.fU.aw
  have ba:c8 (dG (dA s.bk) s.aw.length) s.aw.length:=lH (GK b)
  obtain⟨⟨cb,j⟩,bb,bc,g,ac,L,bH,Cb⟩:=ahq (s:=fe s) am a9 (by omega) ba al.fU.small al.bk
  simp only at bc ac L bH Cb
  subst bc
  have bI:gw (fe s) (dG (dA s.bk) s.aw.length)=c0 s:=rfl
  rw[bI]at ac L
  have cH:fB (c0 s):=al.gw ba
  have tb:(c0 s).aw.length=s.aw.length:=iG _ _ _
  have bd:ab V 13 (.ptr k 0) j=y (.agg (aQ g (c0 s))):=iw L rfl
  have be:ab M 1 (.ptr k 10) j=y (g .aw):=ez L (j_ _ _)
  have aq:=fA (ac.rs .aw)
  have bJ:(ao g (c0 s) .aw).length=s.aw.length:=by rw[<-tb];simp [ao]
  rw[bJ]at aq
  have ar:=ah3 s.aw.length (lock j)
  rw[kL]at ar
  obtain⟨e,D⟩:∃e,e=j++[b3.box [J E s.aw.length] 3 .rw]:=⟨_,rfl⟩
  have au:=ah4 g (c0 s) 97 [.ptr j.length 0] e
  obtain⟨t,u⟩:∃t,t=e++[b3.box (aQ g (c0 s)) 27 .rw,.box [.func 97 [] [.ptr j.length 0]] 77 .rw]:=⟨_,rfl⟩
  rw[<-u]at au
  have aA:=T' 96 [.ptr (e.length+1) 0,.ptr e.length 0] t
  obtain⟨i,w⟩:∃i,i=t++[b3.box [.func 96 [] [.ptr (e.length+1) 0,.ptr e.length 0]] 77 .rw]:=⟨_,rfl⟩
  rw[<-w]at aA
  have N:cD av db i g (c0 s):=by rw[w,u,D];exact((ac.app _).app _).app _
  have O:i[k]?=y (.box (aQ g (c0 s)) 27 .rw):=by rw[w,u,D];exact ff.app _ _ _ _ _ _ (ff.app _ _ _ _ _ _ (ff.app _ _ _ _ _ _ L))
  have cc:e.length=j.length+1:=by rw[D];simp
  have cd:t.length=e.length+2:=by rw[u];simp
  have gZ:i[j.length]?=y (.box [J E s.aw.length] 3 .rw):=by
   rw[w,cI (by omega),u,cI (by omega),D,en];rfl
  have bK:i[e.length]?=y (.box (aQ g (c0 s)) 27 .rw):=by
   rw[w,cI (by omega),u,en];rfl
  have bL:i[e.length+1]?=y (.box [.func 97 [] [.ptr j.length 0]] 77 .rw):=by
   rw[w,cI (by omega),u,gg];rfl
  have bM:i[t.length]?=y (.box [.func 96 [] [.ptr (e.length+1) 0,.ptr e.length 0]] 77 .rw):=by rw[w,en];rfl
  have bP:nZ i (.func 97 [] [.ptr j.length 0]) (cG (c0 s).aw.length):=by rw[tb];exact ahY gZ b.fU.aw
  have bQ:nZ i (.func 96 [] [.ptr (e.length+1) 0,.ptr e.length 0]) ((cG (c0 s).aw.length).flatMap (kc (c0 s))):=
   ahX (qa bL) bK N.rs cH.fU.bN bP (λp ah=>tv p ah)
  have ce:fW (c0 s)<=70000:=by unfold fW;split;exact cH.fU.ag;exact cH.fU.az
  have bg:nZ i (.func 95 [] [.ptr t.length 0]) (jE (c0 s)):=
   T5 (qa bM) bQ (λp ah=>by have:=T9 cH p ah;omega)
  have bi:ab V 13 (.ptr k 0) i=y (.agg (aQ g (c0 s))):=iw O rfl
  have bj:=λh=>TP g (c0 s) h
  have hd:(c0 s).bO=s.bO:=rfl
  have bl:(c0 s).az.length=s.az.length:=rfl
  have ad:(c0 s).ag.length=s.ag.length:=by show(s.ag.mapIdx _).length=_;rw[km]
  have bp:bf 13 (.ptr k 0) (.agg (aQ A1 s)) (c'++[b3.box [.str ⟨#[]⟩,J E 0,J E 0,.a7,J E 0,J E 0,J E 0,J E 0,.bool M,.a7,.a7,.a7,.a7] 27 .rw])=y (c'++[b3.box (aQ A1 s) 27 .rw]):=by
   rw[Y,wF,K_,tk X.rs];rfl
  cases br:eL s.bO 6 with
  |false=>
   have P:fW (c0 s)=s.az.length:=by unfold fW;rw[hd,aW (by rw[br];decide),bl]
   have jY:dv s=eI (c0 s) (dG (jE (c0 s)) s.az.length):=by unfold dv;rw[aW (by rw[br];decide)]
   have aB:ab M 1 (.ptr k 11) i=y (g .az):=ez O (lE _ _)
   have Q:=fA (N.rs .az)
   have aC:(ao g (c0 s) .az).length=s.az.length:=by rw[<-bl];simp [ao]
   rw[aC]at Q
   have R:∀x∈jE (c0 s),mH s.az.length x:=by rw[<-P];exact sm cH
   have aD:=GD bg R b.fU.az
   have ae:c8 (dG (jE (c0 s)) s.az.length) (c0 s).az.length:=lH R
   obtain⟨⟨bR,l⟩,aJ,S,k6,z,o,aK,aM⟩:=TQ (s:=c0 s) N O (by omega) ae cH.fU (λ_ p ah c aa=>by have:=cH.nh p ah c aa;rwa [P]at this) cH.keys
   simp only at S z o aK aM
   subst S
   rw[<-jY]at z o
   obtain⟨f1,G,f2,f3,f4,f5⟩:=Vg z aZ q o
   simp only[aU,↓aI,aV,aX,ak,uC s ax,xN,iW,ay,fg,bn,bh,a_,<-ai,a0,<-Y,bp,a3,aG,an,sg,<-K,aF,ap,a',bb,bd,be,aq,ar,<-D,au,aA,bi,bj,hd,Gz,br,gN,aB,Q,aD,aJ,f1,f2,f3,f4]
   exact eG.of rfl (.inl ⟨ay,_,rfl,f5⟩)
  |true=>
   have P:fW (c0 s)=s.ag.length:=by unfold fW;rw[hd,aP br,ad]
   have jY:dv s=eI (ea s) (dG (fw ((ea s).ag.flatMap fI)) s.az.length):=by unfold dv;rw[aP br]
   have aB:ab M 1 (.ptr k 12) i=y (g .ag):=ez O (i_ _ _)
   have Q:=fA (N.rs .ag)
   have aC:(ao g (c0 s) .ag).length=s.ag.length:=by rw[<-ad];simp [ao]
   rw[aC]at Q
   have R:∀x∈jE (c0 s),mH s.ag.length x:=by rw[<-P];exact sm cH
   have aD:=GD bg R b.fU.ag
   have ae:c8 (dG (jE (c0 s)) s.ag.length) (c0 s).ag.length:=by rw[ad];exact lH R
   obtain⟨⟨bR,l⟩,aJ,S,k6,z,o,aK,aM⟩:=ahA (s:=c0 s) N O (by omega) ae cH.fU (λp ah c aa=>by have:=cH.nh p ah c aa;rwa [P,<-ad]at this)
   simp only at S z o aK aM
   subst S
   have bS:hE (c0 s) (dG (jE (c0 s)) s.ag.length)=ea s:=rfl
   rw[bS]at z o
   have af:fB (ea s):=cH.hE ae (by rw[hd];exact br)
   have bs:(ea s).az.length=s.az.length:=rfl
   have bT:(ea s).bO=s.bO:=rfl
   have bU:ab V 13 (.ptr k 0) l=y (.agg (aQ k6 (ea s))):=iw o rfl
   have bt:=ah2 k6 (ea s) (lock l)
   rw[kL]at bt
   obtain⟨A,T⟩:∃A,A=l++[b3.box (aQ k6 (ea s)) 27 .rw]:=⟨_,rfl⟩
   have bu:=T' 98 [.ptr l.length 0] (lock A)
   rw[kL]at bu
   obtain⟨m,W⟩:∃m,m=A++[b3.box [.func 98 [] [.ptr l.length 0]] 77 .rw]:=⟨_,rfl⟩
   have aN:cD av db m k6 (ea s):=by rw[W,T];exact(z.app _).app _
   have bv:m[k]?=y (.box (aQ k6 (ea s)) 27 .rw):=by rw[W,T];exact ff.app _ _ _ _ _ _ (ff.app _ _ _ _ _ _ o)
   have cf:A.length=l.length+1:=by rw[T];simp
   have bV:m[l.length]?=y (.box (aQ k6 (ea s)) 27 .rw):=by
    rw[W,cI (by omega),T,en];rfl
   have bW:m[A.length]?=y (.box [.func 98 [] [.ptr l.length 0]] 77 .rw):=by rw[W,en];rfl
   have bX:nZ m (.func 98 [] [.ptr l.length 0]) ((ea s).ag.flatMap fI):=ahZ bV aN.rs af.fU
   have aO:∀x∈(ea s).ag.flatMap fI,fv x s.az.length:=by rw[<-bs];exact xB af
   have bY:nZ m (.func 95 [] [.ptr A.length 0]) (fw ((ea s).ag.flatMap fI)):=
    T5 (qa bW) bX (λp ah=>by have:=aO p ah;have:=b.fU.az;unfold fv at *;omega)
   have b0:ab M 1 (.ptr k 11) m=y (k6 .az):=ez bv (lE _ _)
   have bw:=fA (aN.rs .az)
   have b1:(ao k6 (ea s) .az).length=s.az.length:=by rw[<-bs];simp [ao]
   rw[b1]at bw
   have b2:=GD bY (xA aO) b.fU.az
   have b4:c8 (dG (fw ((ea s).ag.flatMap fI)) s.az.length) (ea s).az.length:=lH (xA aO)
   obtain⟨⟨cg,ch⟩,b6,bx,ci,aR,aT,b7,b8⟩:=TQ (s:=ea s) aN bv (by omega) b4 af.fU (λaE=>by rw[bT,br]at aE;cases aE) af.keys
   simp only at bx aR aT b7 b8
   subst bx
   rw[<-jY]at aR aT
   obtain⟨f1,G,f2,f3,f4,f5⟩:=Vg aR aZ q aT
   simp only[aU,↓aI,aV,aX,ak,uC s ax,xN,iW,ay,fg,bn,bh,a_,<-ai,a0,<-Y,bp,a3,aG,an,sg,<-K,aF,ap,a',bb,bd,be,aq,ar,<-D,au,aA,bi,bj,hd,Gz,br,aB,Q,aD,aJ,bU,bt,<-T,bu,<-W,b0,bw,b2,b6,f1,f2,f3,f4]
   exact eG.of rfl (.inl ⟨ay,_,rfl,f5⟩)
end Go.aM.X
namespace Go.aM.X
open Go.bF Go.aM
theorem Vh{H:Z}{b:Nat}(af:b<H.length)(x:b3)(X:Z):(H++X).set b x=H.set b x++X:=by
 rw[List.set_append,aP af]
theorem LF{H:Z}{b:Nat}{x:b3}(e:H[b]?=y x)(X:Z):(H++X)[b]?=y x:=by
 rw[cI (List.getElem?_eq_some_iff.1 e).1];exact e
theorem Vi{cs:List fs}{X:Z}(a6:∀(vs:List U) (H b4:Z) (ws:List U),gk cs vs H=y (ws,b4)->gk cs vs (H++X)=y (ws,b4++X)):
 ∀(rs:List (List U)) (H b4:Z) (ws:List (List U)),mr cs rs H=y (ws,b4)->mr cs rs (H++X)=y (ws,b4++X)
 |[],H,b4,ws,h=>by
  simp only[mr,sw,Prod.mk.injEq]at h|-
  obtain⟨rfl,rfl⟩:=h
  exact⟨rfl,rfl⟩
 |r::rs,H,b4,ws,h=>by
  simp only[mr]at h|-
  obtain⟨⟨w,c'⟩,h1,h2⟩:=Option.bind_eq_some_iff.1 h
  obtain⟨⟨cU,cx⟩,ak,aJ⟩:=Option.map_eq_some_iff.1 h2
  cases aJ
  rw[a6 _ _ _ _ h1,dy]
  simp only
  rw[Vi a6 rs _ _ _ ak];rfl
mutual
theorem Vj(X:Z):∀(uj:fs) (v:U) (H b4:Z) (w:U),cC uj v H=y (w,b4)->cC uj v (H++X)=y (w,b4++X)
 |.aj,v,H,b4,w,h=>by
  have e:∀G,cC .aj v G=y (v,G):=λG=>by rw[cC]
  rw[e]at h|-
  cases h;rfl
 |.raw,v,H,b4,w,h=>by
  cases v<;>(simp only[cC]at h |-;cases h;rfl)
 |.flat sz,v,H,b4,w,h=>by
  cases v with
  |a7=>simp only[cC]at h |-;cases h;rfl
  |emp=>simp only[cC]at h |-;cases h;rfl
  |bE a b=>simp only[cC]at h |-;cases h;rfl
  |ref b lo n ver sz'=>
   simp only[cC]at h|-
   by_cases aA:n=0
   ·rw[aP aA]at h |-;cases h;rfl
   ·rw[aW aA]at h|-
    cases e:H[b]? with
    |none=>rw[e]at h;cases h
    |some blk=>
     rw[e]at h
     rw[LF e X]
     cases blk with
     |log rows eB t md=>
      cases md with
      |rw=>
       simp only at h|-
       split at h
       ·rename_i aa
        cases h
        rw[aP aa,Vh (List.getElem?_eq_some_iff.1 e).1]
       ·cases h
      |ou=>cases h
      |ro=>
       simp only at h|-
       split at h
       ·rename_i aa
        cases h
        rw[aP aa]
       ·cases h
     |_=>cases h
  |_=>simp only[cC]at h;cases h
 |.bZ sz cs,v,H,b4,w,h=>by
  have a6:=Vi (X:=X) (λvs H b4 ws=>LG X cs vs H b4 ws)
  cases v with
  |a7=>simp only[cC]at h |-;cases h;rfl
  |emp=>simp only[cC]at h |-;cases h;rfl
  |bE a b=>simp only[cC]at h |-;cases h;rfl
  |ref b lo n ver sz'=>
   simp only[cC]at h|-
   by_cases aA:n=0
   ·rw[aP aA]at h |-;cases h;rfl
   ·rw[aW aA]at h|-
    cases e:H[b]? with
    |none=>rw[e]at h;cases h
    |some blk=>
     rw[e]at h
     rw[LF e X]
     cases blk with
     |log rows eB t md=>
      cases md with
      |rw=>
       simp only at h|-
       split at h
       ·rename_i aa
        obtain⟨⟨bC,c'⟩,h1,h2⟩:=Option.bind_eq_some_iff.1 h
        rw[aP aa,Vh (List.getElem?_eq_some_iff.1 e).1,a6 _ _ _ _ h1,dy]
        simp only at h2|-
        split at h2
        ·rename_i jc
         cases h2
         rw[aP jc]
        ·cases h2
       ·cases h
      |ou=>cases h
      |ro=>
       simp only at h|-
       split at h
       ·rename_i aa
        obtain⟨⟨bC,c'⟩,h1,h2⟩:=Option.bind_eq_some_iff.1 h
        rw[aP aa,a6 _ _ _ _ h1,dy]
        simp only at h2|-
        split at h2
        ·rename_i jc
         cases h2
         rw[aP jc]
        ·cases h2
       ·cases h
     |_=>cases h
  |_=>simp only[cC]at h;cases h
 |.agg cs,v,H,b4,w,h=>by
  cases v with
  |agg vs=>
   simp only[cC]at h|-
   obtain⟨⟨cU,cx⟩,ak,aJ⟩:=Option.map_eq_some_iff.1 h
   cases aJ
   rw[LG X cs vs _ _ _ ak];rfl
  |_=>simp only[cC]at h;cases h
theorem LG(X:Z):∀(e6:List fs) (vs:List U) (H b4:Z) (ws:List U),gk e6 vs H=y (ws,b4)->gk e6 vs (H++X)=y (ws,b4++X)
 |[],[],H,b4,ws,h=>by
  simp only[gk,sw,Prod.mk.injEq]at h|-
  obtain⟨rfl,rfl⟩:=h
  exact⟨rfl,rfl⟩
 |s::e6,v::vs,H,b4,ws,h=>by
  simp only[gk]at h|-
  obtain⟨⟨w,c'⟩,h1,h2⟩:=Option.bind_eq_some_iff.1 h
  obtain⟨⟨cU,cx⟩,ak,aJ⟩:=Option.map_eq_some_iff.1 h2
  cases aJ
  rw[Vj X s v _ _ _ h1,dy]
  simp only
  rw[LG X e6 vs _ _ _ ak];rfl
 |[],_::_,H,b4,ws,h=>by simp only[gk]at h;cases h
 |_::_,[],H,b4,ws,h=>by simp only[gk]at h;cases h
end
theorem cD.base{av mR H b4:Z}{A:aS->U}{s:aH}(own:cD av db H A s)(ax:mR.length=av.length)(c:H.length<=b4.length)(aE:∀b,b<av.length->b4[b]?=mR[b]?)(aB:∀b,av.length<=b->b<H.length->b4[b]?=H[b]?):cD mR db b4 A s where
 len:=by have:=own.len;omega
 cJ:=λb af=>aE b (by omega)
 fi:=by
  rw[xh,xi,ax]
  exact own.new.same λb h1 h2 _=>aB b h1 h2
 rd:=λk ad=>by cases ad
theorem Vk{h1 G X H:Z}{A bL:aS->U}{s aZ:aH}(e:cD h1 db G A s)(g:cD (G++X) db H bL aZ):
 (∃c' cx,cC (.agg fp) (.agg (aQ A s)) H=y (.agg s.cs,c')/\cC (.agg fp) (.agg (aQ bL aZ)) c'=y (.agg aZ.cs,cx)/\cx.length=H.length/\∀b,b<h1.length->cx[b]?=H[b]?)/\
 ∃c' cx,cC (.agg fp) (.agg (aQ bL aZ)) H=y (.agg aZ.cs,c')/\cC (.agg fp) (.agg (aQ A s)) c'=y (.agg s.cs,cx):=by
 obtain⟨l,e5⟩:=GL g.len g.cJ
 have c:H=G++(X++l):=by rw[e5,eb]
 constructor
 ·obtain⟨h,aG,n1,f1⟩:=Au e
  have i:=Vj (X++l) _ _ _ _ _ aG
  rw[<-c]at i
  have j:cD (h++X) db (h++(X++l)) bL aZ:=g.base (by simp [n1]) (by rw[c];simp [n1]) (λb af=>by
   rw[<-eb]
   exact cI (by rw[dV]at af |-;omega)) (λb h1 h2=>by
   rw[dV]at h1
   rw[c,lN (show h.length<=b by omega),lN (show G.length<=b by omega),n1])
  obtain⟨cx,aF,n2,f2⟩:=Au j
  refine⟨_,cx,i,aF,by rw[n2,c];simp [n1],λb af=>?_⟩
  have m:=e.len
  rw[f2 b (by rw[dV];omega),cI (by omega),f1 b af,c,cI (by omega)]
 ·obtain⟨c',aG,n1,f1⟩:=Au g
  have k:cD h1 db c' A s:=e.base rfl (by rw[n1,c];simp) (λb af=>by
   have:=e.len
   rw[f1 b (by rw[dV];omega),c,cI (by omega),e.cJ b af]) (λb h2 ak=>by
   rw[f1 b (by rw[dV];omega),c,cI ak])
  obtain⟨cx,aF,_⟩:=Au k
  exact⟨c',cx,aG,aF⟩
end Go.aM.X
namespace Go.aM.X
open Go.bF Go.aM
attribute [local congr] mZ m0 m5 m6 oE q4 q5 r3
theorem LH{h H:Z}(ah:∃l,H=h++l){b:Bool}{k:IntKind}{n:Int}:aN [.aj,.aj] h H [.bool b,.int k n]=y (.tuple [.bool b,.int k n],h):=by
 obtain⟨l,rfl⟩:=ah
 exact ajr
theorem LI(H:Z):bf 13 (.ptr H.length 0) (.agg ix) (H++[b3.box ix 27 .rw])=y (H++[b3.box ix 27 .rw]):=by
 rw[wF];rfl
theorem Av{av H:Z}{A:aS->U}{s:aH}(own:cD av db H A s):bf 13 (.ptr H.length 0) (.agg (aQ A s)) (H++[b3.box ix 27 .rw])=y (H++[b3.box (aQ A s) 27 .rw]):=by
 unfold ix
 rw[wF,K_,tk own.rs];rfl
theorem LJ:bf 13 (.ptr 0 0) (.agg ix) [b3.box ix 27 .rw]=y [b3.box ix 27 .rw]:=ca rfl
theorem Aw{av H:Z}{A:aS->U}{s:aH}(own:cD av db H A s):bf 13 (.ptr 0 0) (.agg (aQ A s)) [b3.box ix 27 .rw]=y [b3.box (aQ A s) 27 .rw]:=by
 unfold ix
 rw[K_,tk own.rs];rfl
theorem l8{a b c:Z}(h1:∃l,b=a++l)(h2:∃l,c=b++l):∃l,c=a++l:=by
 obtain⟨l,rfl⟩:=h1
 obtain⟨m,rfl⟩:=h2
 exact⟨l++m,eb ..⟩
theorem cD.pre{av H:Z}{A:aS->U}{s:aH}(own:cD av db H A s):∃l,H=av++l:=GL own.len own.cJ
theorem l9{a b:Z}(h:∃l,b=a++l){k:Nat}{x:b3}(e:a[k]?=y x):b[k]?=y x:=by
 obtain⟨l,rfl⟩:=h
 exact LF e l
theorem JL(a b:aH)(ha:gW a)(af:gW b)(h:Z):aL 9 [.agg a.cs,.agg b.cs] h=y (GQ a b,h):=by
 refine cu (F:=Co) (by kernel_rfl) 1 ?_
 rw[aaS];unfold OG GQ
 have z:((0:Int) !=0)=M:=rfl
 have A:((1:Int) !=0)=V:=rfl
 obtain⟨ak,e⟩:∃ak,ak=h++[b3.box a.cs 27 .rw,.box b.cs 27 .rw]:=⟨_,rfl⟩
 have B:∃l,ak=h++l:=⟨_,e⟩
 have G:ak[h.length]?=y (.box a.cs 27 .rw):=by rw[e,en];rfl
 have cL:ak[h.length+1]?=y (.box b.cs 27 .rw):=by rw[e,gg];rfl
 have t:ab V 13 (.ptr h.length 0) ak=y (.agg a.cs):=iw (vs:=a.cs) G rfl
 obtain⟨⟨R,c'⟩,bw,n1⟩:=Hg a ha (iY a) ak (Gd ak a) (Vf ak a)
 rw[Gc]at bw
 rcases n1 with⟨oJ,A1,bI,g⟩|⟨oJ,bI⟩
 ·simp only at bI g
  subst bI
  have gB:=Av g
  have e4:=Aw g
  obtain⟨cx,i⟩:∃cx,cx=c'++[b3.box (aQ A1 (dv a)) 27 .rw]:=⟨_,rfl⟩
  have C:∃l,cx=c'++l:=⟨_,i⟩
  have D:=l8 B (l8 g.pre C)
  rw[<-i]at gB
  have H:cx[h.length+1]?=y (.box b.cs 27 .rw):=l9 (l8 g.pre C) cL
  have aG:ab V 13 (.ptr (h.length+1) 0) cx=y (.agg b.cs):=iw (vs:=b.cs) H rfl
  obtain⟨⟨S,p⟩,bD,n2⟩:=Hg b af (iY b) cx (Gd cx b) (Vf cx b)
  rw[Gc]at bD
  rcases n2 with⟨u,q,b0,j⟩|⟨u,b0⟩
  ·simp only at b0 j
   subst b0
   have mE:=Av j
   have m:=Aw j
   obtain⟨c,o⟩:∃c,c=p++[b3.box (aQ q (dv b)) 27 .rw]:=⟨_,rfl⟩
   have E:∃l,c=p++l:=⟨_,o⟩
   rw[<-o]at mE
   have I:=l8 D (l8 j.pre E)
   have J:c[c'.length]?=y (.box (aQ A1 (dv a)) 27 .rw):=l9 (l8 j.pre E) (by rw[i,en];rfl)
   have K:c[p.length]?=y (.box (aQ q (dv b)) 27 .rw):=by rw[o,en];rfl
   have aF:ab V 13 (.ptr c'.length 0) c=y (.agg (aQ A1 (dv a))):=iw J rfl
   have L:ab V 13 (.ptr p.length 0) c=y (.agg (aQ q (dv b))):=iw K rfl
   have N:cD (c'++[b3.box (aQ A1 (dv a)) 27 .rw]) db c q (dv b):=by rw[<-i,o];exact j.app _
   obtain⟨⟨T,O,f1,f2,a8,P⟩,-⟩:=Vk g N
   have aA:=UZ ha oJ
   have Q:∃l,O=h++l:=by
    obtain⟨U,zK⟩:=I
    have W:h.length<=ak.length:=by rw[e];simp
    refine GL (by rw[a8,zK];simp) λk ad=>?_
    rw[P k (by omega),zK,cI ad]
   rw[aP ⟨oJ,u⟩]
   unfold ix at gB mE e4 m
   simp only[aU,↓aI,aV,<-e,t,bw,oF,oG,gB,e4,<-i,z,bn,bh,aG,bD,mE,m,<-o,aF,L,f1,f2,ajm (dv a) (dv b) aA,LH Q]
  ·cases b0
   have mE:=LI cx
   have m:=LJ
   have w:∃l,cx++[b3.box ix 27 .rw]=h++l:=l8 D ⟨_,rfl⟩
   have cC:=LH (b:=M) (k:=.i64) (n:=1) w
   rw[aW (λx=>by have:=x.2;unfold xH at this;rw[u]at this;cases this)]
   unfold ix at gB mE e4 m cC bD
   simp only[aU,↓aI,aV,<-e,t,bw,oF,oG,gB,e4,<-i,z,A,bn,bh,a_,aG,bD,mE,m,cC]
 ·cases bI
  have gB:=LI ak
  have e4:=LJ
  have w:∃l,ak++[b3.box ix 27 .rw]=h++l:=l8 B ⟨_,rfl⟩
  have cC:=LH (b:=M) (k:=.i64) (n:=1) w
  rw[aW (λx=>by have:=x.1;unfold xH at this;rw[oJ]at this;cases this)]
  unfold ix at gB e4 cC bw
  simp only[aU,↓aI,aV,<-e,t,bw,oF,oG,gB,e4,A,a_,cC]
theorem Vl{av H:Z}{A:aS->U}{s:aH}(own:cD av db H A s){k k':aS}(ad:k≠k')(rows:List (List U)):dM (wr H (A k') (dQ k') (hn k') rows) (dQ k) (A k) (ao A s k):=
 pB (own.rs k) λb af _=>pC λe=>ad (own.new.inj k k' b af e)
def Ax(c:Cell):Cell:={ c with note:=99 }
def n_(p:d_):d_:=(p.1,p.2.map Ax)
def l_(s:aH)(i:Nat):aH:={ s with aw:=s.aw.mapIdx λj p=>if j<i then n_ p else p }
def tI(s:aH):aH:={ s with aw:=s.aw.map n_ }
theorem ajR(s:aH):l_ s 0=s:=by
 unfold l_
 have:(s.aw.mapIdx λj p=>if j<0 then n_ p else p)=s.aw:=by
  apply fx
  intro j
  rw[fQ]
  cases s.aw[j]?<;>simp
 rw[this]
theorem ajS(s:aH):l_ s s.aw.length=tI s:=by
 unfold l_ tI
 congr 1
 exact qw λj p e=>aP (List.getElem?_eq_some_iff.1 e).1
theorem Ay{s:aH}{n j:Nat}{x:d_}(h:s.aw[j]?=y x):(l_ s n).aw[j]?=y (if j<n then n_ x else x):=by
 unfold l_
 rw[fQ,h];rfl
theorem Vm{s:aH}{n j:Nat}(h:s.aw[j]?=none):(l_ s n).aw[j]?=none:=by
 unfold l_
 rw[fQ,h];rfl
theorem Vn(A:aS->U)(s:aH)(n:Nat):ao A (l_ s n) .aw=ao A s .aw:=by
 show((s.aw.mapIdx _).mapIdx _)=_
 rw[Hx]
 show _=s.aw.mapIdx _
 congr 1
 funext i x
 show e9 (if i<n then n_ x else x) _=_
 split<;>rfl
structure rD(av ds H:Z)(A:aS->U)(s:aH):Prop where
 own:cD av db H A s
 bx:ff ds H
 len:H.length=ds.length
theorem rD.next{av ds H:Z}{A:aS->U}{s:aH}{i:Nat}{p:d_}(q:rD av ds H A (l_ s i))(ah:s.aw[i]?=y p):rD av ds (wr H (A (.bN i)) 6 41 ((n_ p).2.map Cell.cs)) A (l_ s (i+1)):=by
 have de:ao A (l_ s i) (.bN i)=p.2.map Cell.cs:=by
  simp only[ao,Ay ah];rw[aW (by omega)]
 have o:cY H av.length 6 41 (A (.bN i)) (p.2.map Cell.cs):=by rw[<-de];exact q.own.at (k:=.bN i) rfl
 have w:=q.own.new.wr (.bN i) (rows:=(n_ p).2.map Cell.cs) (by rw[de];simp [n_])
 refine⟨q.own.of w (by rw[eo];exact cj _) (λb af=>qx o af) (λk _=>⟨rfl,?_⟩) (λk ad=>by cases ad),q.bx.trans (ff.wr o _),by rw[eo];exact q.len⟩
 by_cases e:k=.bN i
 ·subst e
  rw[fu]
  simp only[ao,Ay ah]
  rw[aP (by omega)]
 ·rw[cE _ _ e]
  cases k with
  |aw=>rw[Vn,Vn]
  |bN j=>
   have h:j≠i:=λaF=>e (by rw[aF])
   simp only[ao]
   cases c:s.aw[j]? with
   |none=>rw[Vm c,Vm c]
   |some au=>
    rw[Ay c,Ay c]
    by_cases g:j<i
    ·rw[aP g,aP (by omega)]
    ·rw[aW g,aW (by omega)]
  |_=>rfl
def lK(l:List Cell)(m:Nat):List (List U):=(l.mapIdx λj c=>if j<m then Ax c else c).map Cell.cs
theorem ajT(l:List Cell)(m:Nat):(lK l m).length=l.length:=by simp [lK]
theorem ajU(l:List Cell):lK l 0=l.map Cell.cs:=by
 unfold lK
 congr 1
 apply fx
 intro j
 rw[fQ]
 cases l[j]?<;>simp
theorem ajV(p:d_):lK p.2 p.2.length=(n_ p).2.map Cell.cs:=by
 unfold lK n_
 congr 1
 exact qw λj c e=>aP (List.getElem?_eq_some_iff.1 e).1
theorem Vo{l:List Cell}{m:Nat}{c:Cell}(h:l[m]?=y c):(lK l m)[m]?=y c.cs:=by
 unfold lK
 rw[iM,fQ,h];simp
theorem ajW{l:List Cell}{m:Nat}{c:Cell}(h:l[m]?=y c):lK l (m+1)=(lK l m).set m (Ax c).cs:=by
 unfold lK
 rw[<-vq]
 congr 1
 exact oO h (λj b _ g=>by
  by_cases e:j<m
  ·rw[aP e,aP (by omega)]
  ·rw[aW e,aW (by omega)]) (by rw[aP (by omega)])
theorem ajX(c:Cell):cF c.cs 0 [J E 99]=y (Ax c).cs:=ca rfl
theorem ajY{N:Nat}{av H:Z}{A:aS->U}{s:aH}{k:Nat}{t:a1}{i m:Nat}{p:d_}{j:List U->Z->bl}(own:cD av db H A s)(af:H[k]?=y (.box (aQ A s) t .rw))(ah:s.aw[i]?=y p)(hm:m<p.2.length)(ax:p.2.length<=70000)(K:List U->Z->bl):
 zm aL N (.ptr k 0) [J E (i:Int)] H (J E p.2.length) j K [J E (m:Int)] (wr H (A (.bN i)) 6 41 (lK p.2 m))=K [J E ((m+1:Nat):Int)] (wr H (A (.bN i)) 6 41 (lK p.2 (m+1))):=by
 obtain⟨c,aa⟩:=cR hm
 have aB:m<9223372036854775807:=by omega
 have de:ao A s (.bN i)=p.2.map Cell.cs:=by simp only[ao,ah]
 have o:cY H av.length 6 41 (A (.bN i)) (p.2.map Cell.cs):=by rw[<-de];exact own.at (k:=.bN i) rfl
 have b:=jk o (rows':=lK p.2 m) (by rw[ajT,c9])
 have aG:ab M 1 (.ptr k 10) (wr H (A (.bN i)) 6 41 (lK p.2 m))=y (A .aw):=ez (jM o af) (j_ A s)
 have e:=pE (A:=A) ah
 have g:=Vl own (k:=.aw) (k':=.bN i) (by simp) (lK p.2 m)
 have aF:=eM g .i64 e
 have h:ab M 1 (di (A .aw) (e9 p (A (.bN i))) i 1) (wr H (A (.bN i)) 6 41 (lK p.2 m))=y (A (.bN i)):=eZ g e _ _ _
 have l:=eM (ft b) .i64 (Vo aa)
 have st:=ij b (Vo aa) (n:=1) (x:=J E 99) (f:=0) rfl (by decide) (ajX c)
 rw[kR,<-ajW aa]at st
 simp only[dQ]at aF
 unfold zm
 simp only[aU,↓aI,aV,cQ hm,cr,a_,aG,aF,ih,h,l,st,cO aB]
 exact cZ (K _) (hf _ (by simp [eo]))
theorem ajZ{N:Nat}(C:70000<N){av ds H:Z}{A:aS->U}{s:aH}{k:Nat}{t:a1}{i:Nat}{p:d_}{j:List U->Z->bl}(q:rD av ds H A (l_ s i))(af:H[k]?=y (.box (aQ A s) t .rw))(ah:s.aw[i]?=y p)(c:kA s)(K:List U->Z->bl):
 Ck aL N (.ptr k 0) ds (J E s.aw.length) j K [J E (i:Int)] H=K [J E ((i+1:Nat):Int)] (wr H (A (.bN i)) 6 41 ((n_ p).2.map Cell.cs)):=by
 have m:=(List.getElem?_eq_some_iff.1 ah).1
 have u:=c A .aw
 have e:=c A (.bN i)
 simp only[ao,km,ah,c9]at u e
 have aB:i<9223372036854775807:=by omega
 have b:(l_ s i).aw[i]?=y p:=by rw[Ay ah,aW (by omega)]
 have rs:=q.own.rs
 have g:=pE (A:=A) b
 have de:ao A (l_ s i) (.bN i)=p.2.map Cell.cs:=by simp only[ao,b]
 have o:cY H av.length 6 41 (A (.bN i)) (p.2.map Cell.cs):=by rw[<-de];exact q.own.at (k:=.bN i) rfl
 have aG:ab M 1 (.ptr k 10) H=y (A .aw):=ez af (j_ A s)
 have aF:=eM (rs .aw) .i64 g
 have w:ab M 1 (di (A .aw) (e9 p (A (.bN i))) i 1) H=y (A (.bN i)):=eZ (rs .aw) g _ _ _
 have l:=fA (rs (.bN i))
 rw[de,c9]at l
 have x:H[k]?=y (.box (aQ A (l_ s i)) t .rw):=af
 have z:∀jj,cv (zm aL N (.ptr k 0) [J E (i:Int)] H (J E p.2.length) jj) N [J E 0] H=jj [] (wr H (A (.bN i)) 6 41 ((n_ p).2.map Cell.cs)):=λjj=>by
  refine hx (λn=>[J E (n:Int)]) (λn=>wr H (A (.bN i)) 6 41 (lK p.2 n)) p.2.length (by omega) rfl (by rw[ajU,qu o]) (λn aA K=>?_) λK=>?_
  ·have h:=ajY (N:=N) (j:=jj) q.own x b aA e K
   exact h
  ·have aE:((p.2.length:Int)<(p.2.length:Int))=False:=dI (by omega)
   unfold zm
   simp only[aU,↓aI,aV,aE,c4,bn,bh]
   rw[ajV]
 simp only[dQ]at aF
 unfold Ck
 simp only[aU,↓aI,aV,cQ m,cr,a_,aG,aF,ih,w,l,z,cO aB]
 exact cZ (K _) (hf _ (by rw[eo];exact q.len))
def qA(x:ey):ey:={ x with data:=x.data.map λ_=>99 }
def np(s:aH)(i:Nat):aH:={ s with az:=s.az.mapIdx λj p=>if j<i then qA p else p }
theorem aj0(s:aH):np s 0=s:=by
 unfold np
 have:(s.az.mapIdx λj p=>if j<0 then qA p else p)=s.az:=by
  apply fx
  intro j
  rw[fQ]
  cases s.az[j]?<;>simp
 rw[this]
theorem Az{s:aH}{n j:Nat}{x:ey}(h:s.az[j]?=y x):(np s n).az[j]?=y (if j<n then qA x else x):=by
 unfold np
 rw[fQ,h];rfl
theorem Vp{s:aH}{n j:Nat}(h:s.az[j]?=none):(np s n).az[j]?=none:=by
 unfold np
 rw[fQ,h];rfl
theorem Vq(A:aS->U)(s:aH)(n:Nat):ao A (np s n) .az=ao A s .az:=by
 show((s.az.mapIdx _).mapIdx _)=_
 rw[Hx]
 show _=s.az.mapIdx _
 congr 1
 funext i x
 show j9 (if i<n then qA x else x) _=_
 split<;>rfl
theorem rD.aj1{av ds H:Z}{A:aS->U}{s:aH}{i:Nat}{p:ey}(q:rD av ds H A (np s i))(ah:s.az[i]?=y p):rD av ds (wr H (A (.b5 i)) 1 3 ((qA p).data.map bA)) A (np s (i+1)):=by
 have de:ao A (np s i) (.b5 i)=p.data.map bA:=by
  simp only[ao,Az ah];rw[aW (by omega)]
 have o:cY H av.length 1 3 (A (.b5 i)) (p.data.map bA):=by rw[<-de];exact q.own.at (k:=.b5 i) rfl
 have w:=q.own.new.wr (.b5 i) (rows:=(qA p).data.map bA) (by rw[de];simp [qA])
 refine⟨q.own.of w (by rw[eo];exact cj _) (λb af=>qx o af) (λk _=>⟨rfl,?_⟩) (λk ad=>by cases ad),q.bx.trans (ff.wr o _),by rw[eo];exact q.len⟩
 by_cases e:k=.b5 i
 ·subst e
  rw[fu]
  simp only[ao,Az ah]
  rw[aP (by omega)]
 ·rw[cE _ _ e]
  cases k with
  |az=>rw[Vq,Vq]
  |b5 j=>
   have h:j≠i:=λaF=>e (by rw[aF])
   simp only[ao]
   cases c:s.az[j]? with
   |none=>rw[Vp c,Vp c]
   |some au=>
    rw[Az c,Az c]
    by_cases g:j<i
    ·rw[aP g,aP (by omega)]
    ·rw[aW g,aW (by omega)]
  |_=>rfl
def lL(l:List Int)(m:Nat):List (List U):=(l.mapIdx λj c=>if j<m then 99 else c).map bA
theorem aj2(l:List Int)(m:Nat):(lL l m).length=l.length:=by simp [lL]
theorem aj3(l:List Int):lL l 0=l.map bA:=by
 unfold lL
 congr 1
 apply fx
 intro j
 rw[fQ]
 cases l[j]?<;>simp
theorem aj4(p:ey):lL p.data p.data.length=(qA p).data.map bA:=by
 unfold lL qA
 congr 1
 exact qw λj c e=>aP (List.getElem?_eq_some_iff.1 e).1
theorem Vr{l:List Int}{m:Nat}{c:Int}(h:l[m]?=y c):(lL l m)[m]?=y (bA c):=by
 unfold lL
 rw[iM,fQ,h];simp
theorem aj5{l:List Int}{m:Nat}{c:Int}(h:l[m]?=y c):lL l (m+1)=(lL l m).set m (bA 99):=by
 unfold lL
 rw[<-vq]
 congr 1
 exact oO h (λj b _ g=>by
  by_cases e:j<m
  ·rw[aP e,aP (by omega)]
  ·rw[aW e,aW (by omega)]) (by rw[aP (by omega)])
theorem aj6{N:Nat}{av H:Z}{A:aS->U}{s:aH}{k:Nat}{t:a1}{i m:Nat}{p:ey}{j:List U->Z->bl}(own:cD av db H A s)(af:H[k]?=y (.box (aQ A s) t .rw))(ah:s.az[i]?=y p)(hm:m<p.data.length)(ax:p.data.length<=70000)(K:List U->Z->bl):
 zl aL N (.ptr k 0) [J E (i:Int)] H (J E p.data.length) j K [J E (m:Int)] (wr H (A (.b5 i)) 1 3 (lL p.data m))=K [J E ((m+1:Nat):Int)] (wr H (A (.b5 i)) 1 3 (lL p.data (m+1))):=by
 obtain⟨c,aa⟩:=cR hm
 have aB:m<9223372036854775807:=by omega
 have de:ao A s (.b5 i)=p.data.map bA:=by simp only[ao,ah]
 have o:cY H av.length 1 3 (A (.b5 i)) (p.data.map bA):=by rw[<-de];exact own.at (k:=.b5 i) rfl
 have b:=jk o (rows':=lL p.data m) (by rw[aj2,c9])
 have aG:ab M 1 (.ptr k 11) (wr H (A (.b5 i)) 1 3 (lL p.data m))=y (A .az):=ez (jM o af) (lE A s)
 have e:=uZ (A:=A) ah
 have g:=Vl own (k:=.az) (k':=.b5 i) (by simp) (lL p.data m)
 have aF:=eM g .i64 e
 have h:ab M 1 (di (A .az) (j9 p (A (.b5 i))) i 1) (wr H (A (.b5 i)) 1 3 (lL p.data m))=y (A (.b5 i)):=eZ g e _ _ _
 have l:=eM (ft b) .i64 (Vr aa)
 have st:=ij b (Vr aa) (n:=1) (x:=J E 99) (f:=0) rfl (by decide) (xr c 99)
 rw[kR,<-aj5 aa]at st
 simp only[dQ]at aF
 unfold zl
 simp only[aU,↓aI,aV,cQ hm,cr,a_,aG,aF,ih,h,l,st,cO aB]
 exact cZ (K _) (hf _ (by simp [eo]))
theorem aj7{N:Nat}(C:70000<N){av ds H:Z}{A:aS->U}{s:aH}{k:Nat}{t:a1}{i:Nat}{p:ey}{j:List U->Z->bl}(q:rD av ds H A (np s i))(af:H[k]?=y (.box (aQ A s) t .rw))(ah:s.az[i]?=y p)(c:kA s)(K:List U->Z->bl):
 Ch aL N (.ptr k 0) ds (J E s.az.length) j K [J E (i:Int)] H=K [J E ((i+1:Nat):Int)] (wr H (A (.b5 i)) 1 3 ((qA p).data.map bA)):=by
 have m:=(List.getElem?_eq_some_iff.1 ah).1
 have u:=c A .az
 have e:=c A (.b5 i)
 simp only[ao,km,ah,c9]at u e
 have aB:i<9223372036854775807:=by omega
 have b:(np s i).az[i]?=y p:=by rw[Az ah,aW (by omega)]
 have rs:=q.own.rs
 have g:=uZ (A:=A) b
 have de:ao A (np s i) (.b5 i)=p.data.map bA:=by simp only[ao,b]
 have o:cY H av.length 1 3 (A (.b5 i)) (p.data.map bA):=by rw[<-de];exact q.own.at (k:=.b5 i) rfl
 have aG:ab M 1 (.ptr k 11) H=y (A .az):=ez af (lE A s)
 have aF:=eM (rs .az) .i64 g
 have w:ab M 1 (di (A .az) (j9 p (A (.b5 i))) i 1) H=y (A (.b5 i)):=eZ (rs .az) g _ _ _
 have l:=fA (rs (.b5 i))
 rw[de,c9]at l
 have x:H[k]?=y (.box (aQ A (np s i)) t .rw):=af
 have z:∀jj,cv (zl aL N (.ptr k 0) [J E (i:Int)] H (J E p.data.length) jj) N [J E 0] H=jj [] (wr H (A (.b5 i)) 1 3 ((qA p).data.map bA)):=λjj=>by
  refine hx (λn=>[J E (n:Int)]) (λn=>wr H (A (.b5 i)) 1 3 (lL p.data n)) p.data.length (by omega) rfl (by rw[aj3,qu o]) (λn aA K=>?_) λK=>?_
  ·have h:=aj6 (N:=N) (j:=jj) q.own x b aA e K
   exact h
  ·have aE:((p.data.length:Int)<(p.data.length:Int))=False:=dI (by omega)
   unfold zl
   simp only[aU,↓aI,aV,aE,c4,bn,bh]
   rw[aj4]
 simp only[dQ]at aF
 unfold Ch
 simp only[aU,↓aI,aV,cQ m,cr,a_,aG,aF,ih,w,l,z,cO aB]
 exact cZ (K _) (hf _ (by rw[eo];exact q.len))
def lf{α:Type}(f:α->Nat)(l:List α):Nat:=l.foldl (λn x=>n+f x) 0
theorem LK{α:Type}(f:α->Nat):∀(l:List α) (a:Nat),l.foldl (λn x=>n+f x) a=a+lf f l
 |[],a=>rfl
 |x::l,a=>by
  unfold lf
  rw[ve,ve,LK f l,LK f l (0+f x)]
  omega
theorem tJ{α:Type}(f:α->Nat)(x:α)(l:List α):lf f (x::l)=f x+lf f l:=by
 have:=LK f l (0+f x)
 unfold lf at this|-
 rw[ve,this];omega
theorem Hh{α:Type}(f:α->Nat):∀(l:List α) (x:α),x∈l->f x<=lf f l
 |au::l,x,h=>by
  rw[tJ]
  rcases List.mem_cons.1 h with rfl|h
  ·omega
  ·have:=Hh f l x h;omega
theorem Hi{α:Type}(f:α->Nat)(h:∀x,1<=f x):∀l:List α,l.length<=lf f l
 |[]=>hO _
 |x::l=>by
  have:=Hi f h l
  have:=h x
  rw[tJ,jS];omega
def tK(p:d_):Nat:=1+p.2.length
def ss(x:ey):Nat:=1+x.data.length+x.name.size
def su(x:c5):Nat:=1+x.keys.length+x.bq.dk.length+x.bm.dk.length+x.bo.dk.length+x.name.size
def sv(s:aH):Nat:=s.bk.length+s.cy.length+s.name.size+lf tK s.aw+lf ss s.az+lf su s.ag
theorem oW{n:Int}(h:0<=n/\n<4611686018427387904):l3 n=n:=wrap64 (by unfold dB;omega)
theorem Hj{α:Type}{g:Int->α->Int}{f:α->Nat}:∀(l:List α) (a:Nat),(∀x∈l,f x<4611686018427387904->∀n:Nat,n+f x<4611686018427387904->g n x=((n+f x:Nat):Int))->a+lf f l<4611686018427387904->l.foldl g (a:Int)=((a+lf f l:Nat):Int)
 |[],a,_,_=>rfl
 |x::l,a,bG,h=>by
  rw[tJ]at h
  rw[ve,bG x (List.mem_cons_self ..) (by omega) a (by omega),Hj l (a+f x) (λau ba=>bG au (L8 _ ba)) (by omega),tJ,Nat.add_assoc]
theorem aj8{s:aH}(h:sv s<4611686018427387904):zU s=(sv s:Int):=by
 unfold sv at h|-
 unfold zU
 have b:l3 (l3 ((s.bk.length:Int)+s.cy.length)+s.name.size)=((s.bk.length+s.cy.length+s.name.size:Nat):Int):=by
  rw[oW (n:=(s.bk.length:Int)+s.cy.length) (by omega),oW (by omega)];omega
 rw[b,Hj (f:=tK) s.aw _ (λx _ ae n aA=>?_) (by omega),Hj (f:=ss) s.az _ (λx _ ae n aA=>?_) (by omega),Hj (f:=su) s.ag _ (λx _ ae n aA=>?_) (by omega)]
 ·unfold su at ae aA|-
  rw[oW (n:=1+(x.keys.length:Int)) (by omega),oW (n:=1+(x.keys.length:Int)+x.bq.dk.length) (by omega),oW (n:=1+(x.keys.length:Int)+x.bq.dk.length+x.bm.dk.length) (by omega),oW (n:=1+(x.keys.length:Int)+x.bq.dk.length+x.bm.dk.length+x.bo.dk.length) (by omega),oW (n:=1+(x.keys.length:Int)+x.bq.dk.length+x.bm.dk.length+x.bo.dk.length+x.name.size) (by omega),oW (by omega)]
  omega
 ·unfold ss at ae aA|-
  rw[oW (n:=1+(x.data.length:Int)) (by omega),oW (n:=1+(x.data.length:Int)+x.name.size) (by omega),oW (by omega)]
  omega
 ·unfold tK at ae aA|-
  rw[oW (n:=1+(x.2.length:Int)) (by omega),oW (by omega)]
  omega
theorem aj9{s:aH}(h:sv s<=60000):gX s:=by
 unfold sv at h
 have h1:=Hi tK (λx=>by unfold tK;omega) s.aw
 have h2:=Hi ss (λx=>by unfold ss;omega) s.az
 have ak:=Hi su (λx=>by unfold su;omega) s.ag
 refine⟨by omega,by omega,by omega,by omega,by omega,λp ah=>?_,λx ae=>?_,λx ae=>?_⟩
 ·have e:tK p=1+p.2.length:=rfl
  have:=Hh tK _ _ ah;omega
 ·have e:ss x=1+x.data.length+x.name.size:=rfl
  have:=Hh ss _ _ ae;omega
 ·have e:su x=1+x.keys.length+x.bq.dk.length+x.bm.dk.length+x.bo.dk.length+x.name.size:=rfl
  have:=Hh su _ _ ae;omega
theorem aj_:gW l4 where
 name:=by decide
 bk:=by decide
 cy:=by decide
 aw:=by decide
 cells:=λp ah=>by cases ah
 az:=by decide
 lz:=λp ah=>by cases ah
 ag:=by decide
 ins:=λp ah=>by cases ah
theorem Vs{h H:Z}(ah:∃l,H=h++l)(b:Bool):aN [.aj] h H [.bool b]=y (.bool b,h):=by
 obtain⟨l,rfl⟩:=ah
 exact dJ
theorem aj'(b:Bool)(k:IntKind)(n:Int):mX (.tuple [.bool b,.int k n])=V:=ca rfl
theorem Vt(s:aH)(H:Z):bf 13 (.ptr H.length 0) (.agg s.cs) (H++[b3.box ix 27 .rw])=y (H++[b3.box s.cs 27 .rw]):=by
 unfold ix
 rw[wF];rfl
theorem Vu(s:aH):bf 13 (.ptr 0 0) (.agg s.cs) [b3.box ix 27 .rw]=y [b3.box s.cs 27 .rw]:=ca rfl
theorem l'{H:Z}{k:Nat}{vs:List U}{t:a1}{md:ep}(e:H[k]?=y (.box vs t md))(ax:vs.length=13):ab V 13 (.ptr k 0) H=y (.agg vs):=iw e ax
theorem sr.at{av H X:Z}{A:aS->U}{s:aH}(own:cD av db H A s)(ah:∃l,X=H++l):∃b4,cC (.agg fp) (.agg (aQ A s)) X=y (.agg s.cs,b4):=by
 obtain⟨l,rfl⟩:=ah
 exact LD own l
theorem lY(s:aH)(ax:gW s)(a9:sv s<4611686018427387904)(h:Z):aL 4 [.agg s.cs] h=y (.bool V,h):=by
 have goal:eG (aL 4 [.agg s.cs] h) (λq=>q=(.bool V,h)):=by
  obtain⟨N,aK⟩:∃N:Nat,70000<N:=⟨_,fC _⟩
  refine eG.body (F:=k6) (by kernel_rfl) N ?_
  rw[aaP];unfold wh
  have a':=aj8 a9
  cases R:decide (zU s<=60000)with
  |false=>
   simp only[aU,↓aI,aV,ly,uB s ax,R,gN,a_,r6,dJ]
   exact eG.of rfl rfl
  |true=>
   have fm:sv s<=60000:=by rw[eJ,a']at R;omega
   have fU:=aj9 fm
   have e6:rB s s=V:=Lu s
   have ba:((0:Int) !=0)=M:=rfl
   have bb:((1:Int) !=1)=M:=rfl
   have bc:((1:Int) !=0)=V:=rfl
   obtain⟨h1,S⟩:∃h1,h1=h++[b3.box s.cs 27 .rw]:=⟨_,rfl⟩
   have bd:∃l,h1=h++l:=⟨_,S⟩
   have aM:h1[h.length]?=y (.box s.cs 27 .rw):=by rw[S,en];rfl
   have aN:ab V 13 (.ptr h.length 0) h1=y (.agg s.cs):=l' aM rfl
   obtain⟨⟨bO,c'⟩,al,T,bI,U,-⟩:=lX s (iY s) h1 (Gd h1 s) fU.small
   rw[Gc]at al
   simp only at bI U
   subst bI
   have gB:=Av U
   have W:=Aw U
   obtain⟨b,D⟩:∃b,b=c'++[b3.box (aQ T s) 27 .rw]:=⟨_,rfl⟩
   rw[<-D]at gB
   have w:cD h1 db b T s:=by rw[D];exact U.app _
   have aO:∃l,b=h++l:=l8 bd w.pre
   have Y:b[c'.length]?=y (.box (aQ T s) 27 .rw):=by rw[D,en];rfl
   have x:b[h.length]?=y (.box s.cs 27 .rw):=l9 w.pre aM
   have aR:ab V 13 (.ptr c'.length 0) b=y (.agg (aQ T s)):=l' Y rfl
   have aS:=aiW s ax
   obtain⟨⟨bP,cx⟩,am,be⟩:=Hg s ax T b w.rs (LD w)
   rcases be with⟨v,A,b0,t⟩|⟨v,b0⟩
   ·have an:xC s=.tuple [.agg (dv s).cs,J E 0]:=by unfold xC;rw[aP v]
    obtain⟨aa,rh⟩:=Ve (U3 v)
    have aA:=UZ ax v
    have bf:=fB.oQ aa.ok
    have aT:rB (dv s) (dv s)=V:=Lu _
    simp only at b0 t
    subst b0
    have mE:=Av t
    have H:=Aw t
    obtain⟨g,k⟩:∃X,X=cx++[b3.box (aQ A (dv s)) 27 .rw]:=⟨_,rfl⟩
    rw[<-k]at mE
    have p19:∃l,g=cx++l:=⟨_,k⟩
    have ap:ab V 13 (.ptr h.length 0) g=y (.agg s.cs):=l' (l9 (l8 t.pre p19) x) rfl
    have e4:=Vt (dv s) g
    have L:=Vu (dv s)
    obtain⟨c,m⟩:∃X,X=g++[b3.box (dv s).cs 27 .rw]:=⟨_,rfl⟩
    rw[<-m]at e4
    have u:∃l,c=cx++l:=l8 p19 ⟨_,m⟩
    have ac:∃l,c=b++l:=l8 t.pre u
    have z:c[cx.length]?=y (.box (aQ A (dv s)) 27 .rw):=l9 ⟨_,m⟩ (by rw[k,en];rfl)
    have aq:c[g.length]?=y (.box (dv s).cs 27 .rw):=by rw[m,en];rfl
    have ad:ab V 13 (.ptr cx.length 0) c=y (.agg (aQ A (dv s))):=l' z rfl
    have ar:ab V 13 (.ptr g.length 0) c=y (.agg (dv s).cs):=l' aq rfl
    have au:ab V 13 (.ptr h.length 0) c=y (.agg s.cs):=l' (l9 ac x) rfl
    have av:ab V 13 (.ptr c'.length 0) c=y (.agg (aQ T s)):=l' (l9 ac Y) rfl
    obtain⟨bQ,ae⟩:=sr.at t u
    obtain⟨bg,ay⟩:=sr.at w ac
    have aX:cD b db c A (dv s):=by
     obtain⟨l,e5⟩:=u
     rw[e5];exact t.app l
    obtain⟨⟨bR,aY⟩,bi,bj⟩:=Hg (dv s) aA A c aX.rs (LD aX)
    rcases bj with⟨aB,C,aC,O⟩|⟨aB,-⟩
    ·rw[rh]at aC O
     simp only at aC O
     subst aC
     have aD:=Av O
     have aZ:=Aw O
     obtain⟨n,af⟩:∃X,X=aY++[b3.box (aQ C (dv s)) 27 .rw]:=⟨_,rfl⟩
     rw[<-af]at aD
     have a0:cD c db n C (dv s):=by rw[af];exact O.app _
     have P:∃l,n=c++l:=a0.pre
     have a1:∃l,n=cx++l:=l8 u P
     have bl:∃l,n=b++l:=l8 ac P
     have bp:ab V 13 (.ptr cx.length 0) n=y (.agg (aQ A (dv s))):=l' (l9 P z) rfl
     have br:ab V 13 (.ptr h.length 0) n=y (.agg s.cs):=l' (l9 bl x) rfl
     have bs:ab V 13 (.ptr aY.length 0) n=y (.agg (aQ C (dv s))):=l' (by rw[af,en];rfl) rfl
     obtain⟨bS,bt⟩:=sr.at t a1
     have bu:=λX=>JL (dv s) s aA ax X
     have oJ:xH (dv s)=V:=aa.Lz
     have vs:xH s=V:=v
     have bv:GQ (dv s) s=.tuple [.bool V,J E 0]:=by
      unfold GQ
      rw[aP ⟨oJ,vs⟩,rh,aT]
     have bw:=λX=>uC (dv s) aA X
     have bz:=aa.Lz
     have bA:cD (cx++([b3.box (aQ A (dv s)) 27 .rw]++[b3.box (dv s).cs 27 .rw])) db n C (dv s):=by
      rw[<-eb,<-k,<-m];exact a0
     obtain⟨-,bT,bU,f1,f2⟩:=Vk t bA
     have bB:ab M 1 (.ptr cx.length 10) n=y (A .aw):=ez (l9 P z) (j_ _ _)
     have a2:cD b db n A (dv s):=by
      obtain⟨l,e5⟩:=a1
      rw[e5];exact t.app l
     have a3:=fA (a2.rs .aw)
     have bC:(ao A (dv s) .aw).length=(dv s).aw.length:=by simp [ao]
     rw[bC]at a3
     have o:=bf.fU
     have a4:n[cx.length]?=y (.box (aQ A (dv s)) 27 .rw):=l9 P z
     unfold ix at gB W mE H e4 L aD aZ
     simp only[aU,↓aI,aV,ly,uB s ax,R,fg,bn,bh,<-S,aN,al,gB,W,<-D,aR,am,oF,oG,mE,H,<-k,ap,aS,an,e4,L,<-m,ba,B4,ad,ar,ae,uD (dv s) (dv s) aA,aT,xN,iW,au,av,ay,uD s s ax,e6,bi,aD,aZ,<-af,bp,br,bt,bu,bv,aj',bw,bz,bs,f1,f2,bB,a3]
     refine nW (λi G=>rD b n G A (l_ (dv s) i)) (dv s).aw.length (by have:=o.aw;omega) ⟨by rw[ajR];exact a2,ff.refl _,rfl⟩ (λi G ai q=>?_) λG q K=>?_
     ·obtain⟨p,ah⟩:=cR ai
      exact⟨_,q.next ah,λK=>by
       have aF:=ajZ (N:=N) (j:=?jj) aK q (q.bx _ _ _ _ a4) ah o.small K
       exact aF⟩
     have aE:(((dv s).aw.length:Int)<((dv s).aw.length:Int))=False:=dI (by omega)
     have aG:=q.own
     rw[ajS]at aG
     have a5:G[cx.length]?=y (.box (aQ A (tI (dv s))) 27 .rw):=q.bx _ _ _ _ a4
     have bD:ab M 1 (.ptr cx.length 11) G=y (A .az):=ez a5 (lE _ _)
     have a6:=fA (aG.rs .az)
     have bF:(ao A (tI (dv s)) .az).length=(dv s).az.length:=by simp [ao,tI]
     rw[bF]at a6
     have bG:gX (tI (dv s)):=⟨o.bk,o.cy,by show((dv s).aw.map n_).length<=70000;rw[c9];exact o.aw,o.az,o.ag,λp ah=>by
      obtain⟨a8,cd,rfl⟩:=List.mem_map.1 (show p∈(dv s).aw.map n_ from ah)
      show(a8.2.map Ax).length<=70000
      rw[c9];exact o.bN a8 cd,o.b5,o.ins⟩
     unfold Ck
     simp only[aU,↓aI,aV,aE,c4,bn,bh,bD,a6]
     refine nW (λi F=>rD b G F A (np (tI (dv s)) i)) (dv s).az.length (by have:=o.az;omega) ⟨by rw[aj0];exact aG,ff.refl _,rfl⟩ (λi F ai Q=>?_) λF Q K=>?_
     ·obtain⟨p,ah⟩:=cR (l:=(tI (dv s)).az) ai
      exact⟨_,Q.aj1 ah,λK=>by
       have aF:=aj7 (N:=N) (j:=?jj2) aK Q (Q.bx _ _ _ _ a5) ah bG.small K
       exact aF⟩
     have bH:(((dv s).az.length:Int)<((dv s).az.length:Int))=False:=dI (by omega)
     have ak:∃l,F=b++l:=Q.own.pre
     have bJ:ab V 13 (.ptr h.length 0) F=y (.agg s.cs):=l' (l9 ak x) rfl
     have bK:ab V 13 (.ptr c'.length 0) F=y (.agg (aQ T s)):=l' (l9 ak Y) rfl
     obtain⟨bV,bL⟩:=sr.at w ak
     have aJ:=Vs (l8 aO ak) V
     unfold Ch
     simp only[aU,↓aI,aV,bH,c4,bn,bh,bJ,bK,bL,uD s s ax,e6,xN,iW,zg,r6,aJ]
     exact eG.of rfl rfl
    ·rw[aa.Lz]at aB;cases aB
   ·have an:xC s=.tuple [.agg l4.cs,J E 1]:=by unfold xC;rw[aW (by rw[v];decide)]
    have bM:rB l4 l4=V:=Lu _
    cases b0
    have mE:=LI b
    have H:=LJ
    obtain⟨g,k⟩:∃X,X=b++[b3.box ix 27 .rw]:=⟨_,rfl⟩
    have bW:=k
    rw[<-k]at mE
    have p19:∃l,g=b++l:=⟨_,k⟩
    have ap:ab V 13 (.ptr h.length 0) g=y (.agg s.cs):=l' (l9 p19 x) rfl
    have e4:=Vt l4 g
    have L:=Vu l4
    obtain⟨c,m⟩:∃X,X=g++[b3.box l4.cs 27 .rw]:=⟨_,rfl⟩
    rw[<-m]at e4
    have u:∃l,c=b++l:=l8 p19 ⟨_,m⟩
    have z:c[b.length]?=y (.box ix 27 .rw):=l9 ⟨_,m⟩ (by rw[k,en];rfl)
    have aq:c[g.length]?=y (.box l4.cs 27 .rw):=by rw[m,en];rfl
    have ad:ab V 13 (.ptr b.length 0) c=y (.agg ix):=l' z rfl
    have ar:ab V 13 (.ptr g.length 0) c=y (.agg l4.cs):=l' aq rfl
    have au:ab V 13 (.ptr h.length 0) c=y (.agg s.cs):=l' (l9 u x) rfl
    have av:ab V 13 (.ptr c'.length 0) c=y (.agg (aQ T s)):=l' (l9 u Y) rfl
    obtain⟨bg,ay⟩:=sr.at w u
    have ae:=ajO c
    have aJ:=Vs (l8 aO u) V
    unfold ix at gB W mE H e4 L ad ae am k
    simp only[aU,↓aI,aV,ly,uB s ax,R,fg,bn,bh,a_,<-S,aN,al,gB,W,<-D,aR,am,oF,oG,mE,H,<-k,ap,aS,an,e4,L,<-m,bb,bc,B4,ad,ar,ae,uD l4 l4 aj_,bM,xN,iW,au,av,ay,uD s s ax,e6,r6,aJ]
    exact eG.of rfl rfl
 obtain⟨q,e,rfl⟩:=goal
 exact e
end Go.aM.X
namespace Go.aM.X
open Go.bF Go.aM
theorem tL{α:Type}{f:α->List dY}{g:α->Nat}(h:∀a,1+hY (f a)=g a):∀l:List α,kp (l.map f)=lf g l
 |[]=>rfl
 |a::l=>by rw[me,kp,tL h l,tJ,h]
theorem AA{α:Type}:∀l:List α,lf (λ_=>1) l=l.length
 |[]=>rfl
 |a::l=>by rw[tJ,AA l,jS];omega
theorem Hk{α β:Type}(g:β->Nat)(f:α->β):∀l:List α,lf g (l.map f)=lf (λa=>g (f a)) l
 |[]=>rfl
 |a::l=>by rw[me,tJ,tJ,Hk g f l]
theorem Vv(l:List Int):kp (l.map qR)=l.length:=(tL (g:=λ_=>1) (λ_=>rfl) l).trans (AA l)
theorem aka(l:List gY):kp (l.map gY.b5)=l.length:=(tL (g:=λ_=>1) (λ_=>rfl) l).trans (AA l)
theorem akb(l:List hg):kp (l.map hg.b5)=l.length:=(tL (g:=λ_=>1) (λ_=>rfl) l).trans (AA l)
theorem akc(l:List eW):kp (l.map eW.b5)=l.length:=(tL (g:=λ_=>1) (λ_=>rfl) l).trans (AA l)
theorem akd(l:List gi):kp (l.map gi.b5)=lf tK (l.map gi.to):=by
 rw[Hk]
 refine tL (λa=>?_) l
 show 1+hY [.v _,.bZ (a.Cells.map gY.b5)]=1+(a.Cells.map gY.to).length
 simp only[hY,qQ,aka,c9]
 omega
theorem ake(l:List gE):kp (l.map gE.b5)=lf ss (l.map gE.to):=by
 rw[Hk]
 refine tL (λa=>?_) l
 unfold gE.b5 ss gE.to
 simp only[hY,qQ,Vv]
 omega
theorem akf(l:List fP):kp (l.map fP.b5)=lf su (l.map fP.to):=by
 rw[Hk]
 refine tL (λa=>?_) l
 simp only[fP.b5,su,fP.to,n9.to,hY,qQ,akb,akc,c9]
 omega
theorem akg(t:hU):sv t.to=hY t.b5:=by
 unfold hU.b5 sv hU.to
 simp only[hY,qQ,Vv,akd,ake,akf]
 omega
theorem akh{t:hU}(h:t.ok)(aB:hY t.b5<=1048576)(ah:Z):aL 4 [.agg t.eP] ah=y (.bool V,ah):=by
 rw[<-t.Am]
 exact lY t.to (hU.Lx h) (by rw[akg];omega) ah
end Go.aM.X
