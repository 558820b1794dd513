import Derived.Test.YtffennknofmjoaaGreatP1
import Derived.Below
import Derived.Deep.SlicePairs
import Derived.ChangeShapes
import Derived.OpenShut
set_option linter.unusedSimpArgs false
set_option linter.unusedVariables false
open Array renaming all_eq_true_iff_forall_mem->akk,ext'->mL,getD_eq_getD_getElem?->nt,getElem?_eq_getElem->lh,getElem?_setIfInBounds_ne->x1,getElem?_setIfInBounds_self_of_lt->Vz,length_toList->pL,replicate->AK,toList_map->LQ
open BitVec renaming ofInt->kC
open Bool renaming and_eq_true->dn,or_eq_true->mM,false->M,true->V
open Classical renaming byContradiction->qB,choose->L2
open Go renaming FuncId->dU,TypeId->a1,maxLen->pO,wpIn_mono->tO,wpOpIn->oY
open Go.IntKind renaming bits->xZ,signed->x0
open List renaming append_nil->fD,cons_append->js,drop_drop->vb,drop_length_add_append->VA,drop_take->x4,drop_zero->oZ,eq_nil_of_length_eq_zero->gF,ext_getElem?->fx,filter_congr->LY,filter_cons->AJ,flatten_append->AM,flatten_cons->mh,foldl_cons->ve,getD_eq_getElem?_getD->iN,getElem?_append_left->cI,getElem?_append_right->lN,getElem?_concat_length->AF,getElem?_drop->pK,getElem?_eq_getElem->fJ,getElem?_eq_none->eE,getElem?_map->iM,getElem?_set_ne->hP,getElem?_set_self->fK,getElem?_take->Hr,length_append->dV,length_cons->jS,length_drop->xR,length_map->c9,length_range->Hs,length_replicate->vn,length_set->iz,length_take->kD,map_append->jt,map_cons->me,mem_append->lO,mem_filter->L1,mem_map->ju,mem_of_getElem?->dN,mem_of_mem_drop->sB,mem_of_mem_take->o0,mem_range->tN,mem_replicate->AN,nil_append->hV,prefix_refl->nu,range->fj,range_succ->x3,replicate->dF,take_append_drop->rG,take_left->vm,take_length->iy,take_of_length_le->vh,take_take->sx,take_zero->x5
open Nat renaming add_mul->iL,add_zero->vc,beq->cM,beq_refl->qF,blt->fX,eq_of_beq_eq_true->hW,le_of_ble_eq_true->sA,le_of_lt->x2,le_refl->cj,le_trans->ma,lt_of_lt_of_le->h4,min->gn,min_eq_left->ns,mul_le_mul_right->qD,zero_add->hh,zero_le->hO,zero_mul->nq
open Ne renaming symm->oa
open Option renaming bind_eq_some_iff->cX,bind_some->dy,getD_some->ob,map_eq_some_iff->du,map_some->dw,some->y
open Option.some renaming inj->jU,injEq->sw
open Prod.mk renaming inj->vk
open Go.Region renaming binds->jr,ready->LZ,wanted->vj
open Go.Result renaming andThen_ok->et
open Go.Sem renaming run_bind->eN,run_pure->gx
open Go.World renaming cell?->xP,putObj->vi,putObj_heap_other->L3
namespace Go.bF
variable {P : Program}
section
variable {F : Fence} {n N : Nat} {Γ : Callee} {ops : Array Oper} {a8 : List c6} {rs : List ht} {S0 eh : bP} {av h2 : aX} {bL : List Nat} {Q : Exit -> Act -> World -> Prop} {ei : Ren} {a0 : Act} {w0 : World}
theorem WJ{f:c6}{r:ht}(e:qO Γ f r)(g:r.hJ=V)(b:o7 f.op=V):∃elem zero,f.op=.new elem zero/\zero.all iP=V/\r.v=iO r.h.length 0/\r.h'=r.h++[.cells zero elem V]:=by
 obtain⟨bG,ad⟩:=e.run g
 cases c:f.op with
 |new elem zero=>
  rw[c]at ad b
  simp only[dh]at ad
  obtain⟨aG,aF⟩:=vk (jU ad)
  exact⟨elem,zero,rfl,b,aG.symm,aF.symm⟩
 |_=>rw[c]at b;cases b
theorem WK{f:c6}{r:ht}(i:qO Γ f r)(j:r.hJ=V)(g:qL f.op=V):∃elem cells,∃c:Nat->Value,(∀H,dh Γ f.op r.e H (λv h'=>y (v,h'))=y (c H.length,H++[.cells cells elem V]))/\(c=(λb=>iO b 0)\/∃n,c=λb=>.slice (y ⟨b,0,none⟩) n n):=by
 obtain⟨bG,ad⟩:=i.run j
 cases h:f.op with
 |new elem zero=>exact⟨elem,zero,_,λH=>rfl,.inl rfl⟩
 |box elem x=>exact⟨elem,_,_,λH=>rfl,.inl rfl⟩
 |buildSlice elem zero n parts=>
  rw[h]at ad
  simp only[dh,cX]at ad|-
  obtain⟨l,ax,_⟩:=ad
  exact⟨elem,l,_,λH=>⟨l,ax,rfl⟩,.inr ⟨n,rfl⟩⟩
 |_=>rw[h]at g;cases g
theorem WL{h h':aX}(ax:h.length<=h'.length)(bG:∀b,b<h.length->h'[b]?=h[b]?):h <+: h':=by
 refine List.prefix_iff_eq_take.2 (fx λi=>?_)
 rw[Hr]
 split
 ·rename_i ai;exact(bG i ai).symm
 ·rename_i ai;exact eE (by omega)
theorem H9{o:fY}{s:Nat}{e:bP}{h h':aX}{v:Value}(ha:o8 o=y s)(ad:dh Γ o e h (λv h'=>y (v,h'))=y (v,h')):
 h <+: h'\/∃a n c,e s=.slice (y a) n c/\¬(n=0/\c=0)/\¬(n=0/\c=eQ)/\(∀b,b<h.length->b≠a.block->h'[b]?=h[b]?)/\(h'[a.block]?=y .dead\/∃n2 ej,v=.slice (y a) n2 ej/\¬(n2=0/\ej=0)):=by
 cases o with
 |append t size x au=>
  cases x with
  |tmp q=>
   cases ha
   simp only[dh,cX,sF]at ad
   obtain⟨⟨v1,h1⟩,⟨m,_,new,_,aa⟩,ad⟩:=ad
   obtain⟨rfl,rfl⟩:=vk (jU ad)
   have p:(0:Nat)≠eQ:=by decide
   unfold mN at aa
   split at aa
   ·rename_i hk n c g
    have g:e s=.slice hk n c:=g
    split at aa
    ·rename_i i
     split at aa
     ·rename_i b
      split at aa
      ·cases aa;exact .inl (nu _)
      ·split at aa
       ·rename_i vs u af
        split at aa
        ·rename_i w
         cases aa
         have k:=(List.getElem?_eq_some_iff.1 af).1
         refine .inr ⟨_,n,c,g,λaA=>p (by rw[<-aA.2];exact i),λaA=>by omega,λbj l j=>?_,.inl ?_⟩
         ·rw[cI (by rw[iz];exact l),hP (oa j)]
         ·rw[cI (by rw[iz];exact k),fK k]
        ·cases aa
       ·cases aa
     ·cases aa
    ·rename_i i
     split at aa
     ·split at aa
      ·rename_i a
       by_cases hm:m=0
       ·rw[aP hm]at aa
        cases aa
        exact .inl (nu _)
       ·rw[aW hm,du]at aa
        obtain⟨ak,cb,aa⟩:=aa
        obtain⟨rfl,rfl⟩:=vk aa
        unfold og at cb
        split at cb
        ·split at cb
         ·cases cb
          refine .inr ⟨_,n,c,g,by omega,λaA=>i aA.2,λbj l j=>by rw[hP (oa j)],.inr ⟨_,_,rfl,by omega⟩⟩
         ·cases cb
        ·cases cb
      ·split at aa
       ·cases aa;exact .inl (nu _)
       ·cases aa
     ·split at aa
      ·rw[du]at aa
       obtain⟨e1,_,aa⟩:=aa
       obtain⟨rfl,rfl⟩:=vk aa
       exact .inl (List.prefix_append _ _)
      ·cases aa
   ·cases aa
  |_=>cases ha
 |_=>cases ha
theorem M6(k:hQ P Γ ops a8 rs S0 eh av h2 bL ei a0 w0 N){i aZ:Nat}{f iR:c6}(aE:a8[i]?=y f)(B:a8[aZ]?=y iR)(O:¬Calm rs h2 aZ)(l:tX a8 aZ i=V):∃m blk blk',m<aZ/\m≠i/\(o7 f.op=V\/i<m)/\bT rs h2 (m+1)=bT rs h2 m++[blk]/\bT rs h2 (aZ+1)=(bT rs h2 aZ).set (bT rs h2 m).length blk':=by
 have bz:=p0 k.jx
 unfold tX L9 at l
 rw[B,aE]at l
 simp only[dn]at l
 obtain⟨_,l⟩:=l
 cases w:iR.op with
 |store n x v=>
  rw[w]at l
  cases x with
  |tmp t=>
   simp only[List.any_eq_true,dn,mM]at l
   obtain⟨m,hm,⟨q,z⟩,bG⟩:=l
   have C:m<aZ:=List.mem_range.1 hm
   have q:m≠i:=by
    rintro rfl
    rw[qF]at q
    cases q
   have z:o7 f.op=V\/i<m:=z.imp (λh=>h) λh=>by simpa [Nat.blt_eq]using h
   cases u:a8[m]? with
   |none=>rw[u]at bG;cases bG
   |some g=>
    rw[u]at bG
    simp only[dn,i']at bG
    obtain⟨⟨Q,D⟩,R⟩:=bG
    obtain⟨o,S,E,_,F,T⟩:=pd k.jx m g u
    have U:o.hJ=V:=by
     cases an:o.hJ with
     |true=>rfl
     |false=>
      obtain⟨⟨s,b,aB,_⟩,_⟩:=E.skip an
      rw[aB]at D;cases D
    obtain⟨e5,ab,_,_,G,H⟩:=WJ E U Q
    rw[F]at G
    rw[F,T]at H
    obtain⟨gd,ac,I,W,J,K⟩:=pd k.jx aZ iR B
    have X:gd.hJ=V:=by
     cases an:gd.hJ with
     |true=>rfl
     |false=>
      exfalso
      apply O
      unfold Calm
      rw[<-J,<-K,(I.skip an).2.2]
      exact nu _
    obtain⟨_,p⟩:=I.run X
    rw[w]at p
    simp only[dh,cX]at p
    obtain⟨aJ,c,p⟩:=p
    have Y:aJ=gd.h':=(vk (jU p)).2
    subst Y
    have Z:val gd.e (.tmp t)=o.v:=by
     have pa:=(yQ (L:=λj=>decide (j<aZ)) (t:=t) a8 rs 0 S0 bz (λi j f bX aa ai A=>k.ord.uc i j f bX t aa ai A)).1 m g o u S (by simpa using C) R
     rcases W t with aO|aO
     ·show gd.e t=o.v
      rw[aO];exact pa
     ·exfalso
      have A:val gd.e (.tmp t)=dR:=aO
      rw[A]at c
      cases c
    rw[Z,G,J,K]at c
    simp only[sE,iO]at c
    split at c
    ·unfold og at c
     split at c
     ·split at c
      ·exact⟨m,_,_,C,q,z,H,(jU c).symm⟩
      ·cases c
     ·cases c
    ·cases c
  |_=>cases l
 |_=>rw[w]at l;cases l
theorem M7(k:hQ P Γ ops a8 rs S0 eh av h2 bL ei a0 w0 N){L:Nat->Bool}{μ:Ren}{q:Nat}{a:Act}{w:World}(h:kZ P a8 rs S0 av h2 ei a0 w0 N L μ q a w)(aa:mS ops L){i aZ:Nat}{f:c6}(o:L i=M)(aE:a8[i]?=y f)
 (A:kF f.op=V) (p:mm f.op=M) (t:i<aZ) (j:aZ<q) (e:¬Calm rs h2 aZ):(∃m blk blk',m<aZ/\m≠i/\(o7 f.op=V\/i<m)/\bT rs h2 (m+1)=bT rs h2 m++[blk]/\bT rs h2 (aZ+1)=(bT rs h2 aZ).set (bT rs h2 m).length blk')\/
   (qL f.op=V/\∃hk:Nat,(∀b,b<(bT rs h2 aZ).length->b≠hk->(bT rs h2 (aZ+1))[b]?=(bT rs h2 aZ)[b]?)/\((bT rs h2 i).length<(bT rs h2 (i+1)).length->hk≠(bT rs h2 i).length)):=by
 have bz:=p0 k.jx
 have B:=h.done aZ j e
 have u:aZ<a8.length:=h4 j h.le
 obtain⟨iR,g,C,D⟩:=k.yR u e
 have E:aZ<ops.size:=by rw[<-k.len];exact u
 have x:ops[aZ]?=y ops[aZ]:=lh E
 rcases(k.ord.wr aZ iR g C D i f aE A).2 t with af|c|c|c
 ·have:=we k.ord aa aZ aZ (cj _) _ x (aa aZ _ x B) i af
  rw[o]at this
  cases this
 ·exact .inl (M6 k aE g e c)
 ·obtain⟨_,_,_,ak,_⟩:=M0 c
  rw[MY ak]at p
  cases p
 ·unfold yA at c
  rw[dn,Option.isSome_iff_exists]at c
  obtain⟨F,s,aB⟩:=c
  obtain⟨gd,G,z,K,l,n⟩:=pd k.jx aZ iR g
  have H:gd.hJ=V:=by
   cases an:gd.hJ with
   |true=>rfl
   |false=>
    exfalso;apply e;unfold Calm
    rw[<-l,<-n,(z.skip an).2.2]
    exact nu _
  rcases H9 aB (z.run H).2 with I|⟨hk,n1,c2,f1,f2,J,f3,_⟩
  ·exfalso;apply e;unfold Calm;rw[<-l,<-n];exact I
  ·rw[l,n]at f3
   exact .inr ⟨F,hk.block,f3,λbG=>h.kill aZ iR gd j g G e s aB hk n1 c2 f1 f2 J i t o bG⟩
theorem WM(k:hQ P Γ ops a8 rs S0 eh av h2 bL ei a0 w0 N){L:Nat->Bool}{μ:Ren}{q:Nat}{a:Act}{w:World}(e:kZ P a8 rs S0 av h2 ei a0 w0 N L μ q a w)(aa:mS ops L){i:Nat}{f:c6}(n:L i=M)(aE:a8[i]?=y f)
 (o:kF f.op=V) (p:mm f.op=M) {blk:iB} (b:bT rs h2 (i+1)=bT rs h2 i++[blk]):∀aZ,i+1<=aZ->aZ<=q->(bT rs h2 aZ)[(bT rs h2 i).length]?=y blk:=by
 intro aZ
 induction aZ with
 |zero=>intro h;omega
 |succ aZ a6=>
  intro h1 ak
  by_cases t:aZ=i
  ·subst t;rw[b,AF]
  ·have a6:=a6 (by omega) (by omega)
   have g:=(List.getElem?_eq_some_iff.1 a6).1
   by_cases l:Calm rs h2 aZ
   ·rw[p1 l g];exact a6
   ·rcases M7 k e aa n aE o p (by omega) (by omega) l with⟨m,blk1,B,C,D,_,u,x⟩|⟨_,hk,z,c⟩
    rotate_left
    ·rw[z _ g (oa (c (by rw[b];simp)))];exact a6
    have nD:m<a8.length:=by have:=e.le;omega
    have c:(bT rs h2 m).length≠(bT rs h2 i).length:=by
     rcases Nat.lt_or_ge m i with A|E
     ·have bt:=k.k0 (i:=m+1) (j:=i) A (x2 (List.getElem?_eq_some_iff.1 aE).1)
      rw[u]at bt
      simp at bt;omega
     ·have bt:=k.k0 (i:=i+1) (j:=m) (by omega) (x2 nD)
      rw[b]at bt
      simp at bt;omega
    rw[x,hP c]
    exact a6
theorem WN(k:hQ P Γ ops a8 rs S0 eh av h2 bL ei a0 w0 N){L:Nat->Bool}{μ:Ren}{q:Nat}{a:Act}{w:World}(e:kZ P a8 rs S0 av h2 ei a0 w0 N L μ q a w)(aa:mS ops L){i:Nat}{f:c6}(n:L i=M)(aE:a8[i]?=y f)
 (o:kF f.op=V) (p:mm f.op=M) (c:qL f.op=M):∀aZ,i+1<=aZ->aZ<=q->bT rs h2 (i+1) <+: bT rs h2 aZ:=by
 intro aZ
 induction aZ with
 |zero=>intro h;omega
 |succ aZ a6=>
  intro h1 ak
  by_cases t:aZ=i
  ·subst t;exact nu _
  ·have a6:=a6 (by omega) (by omega)
   by_cases g:Calm rs h2 aZ
   ·exact a6.trans g
   ·rcases M7 k e aa n aE o p (by omega) (by omega) g with⟨m,blk1,A,B,C,u,D,x⟩|⟨l,_⟩
    rotate_left
    ·rw[c]at l;cases l
    have z:i<m:=u.resolve_left (λh=>by rw[WH h]at c;cases c)
    have bt:=k.k0 (i:=i+1) (j:=m) z (by have:=e.le;omega)
    rw[x]
    refine WL (by rw[iz];exact a6.length_le) λb af=>?_
    rw[hP (by omega),p1 a6 af]
theorem WO(aq:kH F)(k:hQ P Γ ops a8 rs S0 eh av h2 bL ei a0 w0 N){L:Nat->Bool}{μ:Ren}{q:Nat}{a:Act}{w:World}(g:kZ P a8 rs S0 av h2 ei a0 w0 N L μ q a w)(aa:mS ops L){i:Nat}{o:Oper}
 (Y:ops[i]?=y o) (D:L i=M) (he:∀e∈o.after.toList,jr .any e=V->L e.on=V) {f:c6} (aE:a8[i]?=y f) (m:pZ P ops o f) {r:ht} (an:rs[i]?=y r) (ar:qO Γ f r) (Z:iQ r.e (fy (λj=>decide (j<i)) 0 a8 rs S0))
 (aC:r.h=bT rs h2 i) (aD:r.h'=bT rs h2 (i+1)) (aH:r.hJ=V) (aI:kF f.op=V) (aK:mm f.op=M) (J:i<q) (aL:qL f.op=M):oY F n P ops Q i (λa' b'=>∃aY aM,kZ P a8 rs S0 av h2 ei a0 w0 N (fZ L i) aY aM a' b') a w:=by
 have R:=k.seen aa Y aE Z D he g.qP g.size
 have aN:f∈a8:=dN aE
 have bz:=p0 k.jx
 have S:i<a8.length:=(List.getElem?_eq_some_iff.1 aE).1
 have rQ:bT rs h2 i <+: bT rs h2 (i+1):=by
  apply qB
  intro aA
  have:=g.done i J aA
  rw[D]at this
  cases this
 have E:bT rs h2 (i+1) <+: bT rs h2 q:=WN k g aa D aE aI aK aL q J (cj _)
 have ah:bT rs h2 i <+: bT rs h2 q:=rQ.trans E
 have bc:(bT rs h2 i).length<=(bT rs h2 (i+1)).length:=k.M4 S
 have ab:(bT rs h2 (i+1)).length<=(bT rs h2 q).length:=k.k0 J g.le
 obtain⟨jZ,at_,bd,aQ,st,xt⟩:=k.text i (x2 S)
 have aS:cS P (om μ (bT rs h2 i).length) (bT rs h2 i) w:=by
  refine⟨λb l e=>wb e,λb l blk e af aA=>?_,λb bj l cK e e' e5 ax K=>?_,λb l e=>g.hv.lt b l (sP _ _ _ _ e)⟩
  ·have aT:=wb e
   obtain⟨o',G,H⟩:=g.hv.rel b l blk (sP _ _ _ _ e) (by rw[p1 ah aT];exact af) aA
   refine⟨o',G,?_⟩
   obtain⟨T,U⟩:∃T,jZ b=y T:=by
    by_cases A:b<av.length
    ·rw[xt.e1 b A,<-g.ext.e1 b A];exact⟨l,sP _ _ _ _ e⟩
    ·exact xt.pX b (by omega) ⟨blk,af,aA⟩
   obtain⟨be,bf,aU⟩:=st.rel b T blk U af aA
   exact aU.restrict st.cl H
  ·exact g.hv.inj b bj l cK (sP _ _ _ _ e) (sP _ _ _ _ e') e5 ((mn ah (wb e)).2 ax) ((mn ah (wb e')).2 K)
 have aV:g_ (om μ (bT rs h2 i).length) (only r.e (hj f)) a N:=by
  refine⟨R.size,λt=>?_⟩
  have ak:=R.rel t
  unfold only at ak|-
  split
  ·rename_i aR
   rw[aP aR]at ak
   exact bp.restrict st.cl ((aQ.lS Z).rel t) ak
  ·exact .dR _
 obtain⟨bG,ad⟩:=ar.run aH
 rw[yP (e':=only r.e (hj f)) (λt aR=>(oo (by simp [hj,aR])).symm),aC]at ad
 unfold oY
 simp only[Y]
 rw[yM m R (by
  rcases bG with bG|⟨s,b,bG,aB⟩
  ·exact .inl bG
  ·exact .inr ⟨s,b,bG,by rw[oo (by simp [hj,bG])];exact aB⟩)]
 simp only[a_]
 refine yL aq m.op k.callee aV.op aS ad (λv' bC μ1 ay aB ae=>?_)
 rw[m.dst]
 rw[aD]at aB ae
 let aY:Ren:=λb=>if(bT rs h2 i).length<=b/\b<(bT rs h2 (i+1)).length then μ1 b else μ b
 have C:∀b,(bT rs h2 i).length<=b->b<(bT rs h2 (i+1)).length->aY b=μ1 b:=λb ak aJ=>aP ⟨ak,aJ⟩
 have W:∀b,b<(bT rs h2 i).length->aY b=μ b:=λb ak=>aW (by omega)
 have aX:∀b,(bT rs h2 (i+1)).length<=b->aY b=μ b:=λb ak=>aW (by omega)
 have ac:∀b,b<(bT rs h2 i).length->μ1 b=μ b:=λb ak=>(ae.e1 b ak).trans (wa ak)
 have ai:ev μ1 aY:=by
  intro b l e
  have af:=aB.cl b l e
  by_cases p:b<(bT rs h2 i).length
  ·rw[W b p,<-ac b p];exact e
  ·rw[C b (by omega) af];exact e
 have fm:ev μ aY:=by
  intro b l e
  by_cases p:(bT rs h2 i).length<=b/\b<(bT rs h2 (i+1)).length
  ·rw[g.free i J D b p.1 p.2]at e;cases e
  ·have:aY b=μ b:=aW p
   rw[this];exact e
 have al:∀b l,(bT rs h2 i).length<=b->μ1 b=y l->w.heap.size<=l.blk:=by
  intro b l af e
  rcases ae.new b l af e with ak|⟨cm,fa,ak,aJ,aO,bt,ct⟩
  ·exact ak
  ·exact absurd ((mn rQ ak.lt).2 ak) ct
 obtain⟨ak,aJ⟩:=Bv (μ1:=aY) (S0:=S0) bz k.ord.uc aE an (k.dst f aN) g.size D g.qP (λx au h=>h.mono fm) (ay.mono ai)
 refine⟨aY,q,g.le,λj z aA=>?_,λbr=>⟨(g.next br).1,?_⟩,λj bX z a1 ax a2=>?_,λaZ iR gd h1 h2 ak aJ s aO hk n c bt ct a3 j z u bG=>g.kill aZ iR gd h1 h2 ak aJ s aO hk n c bt ct a3 j z (yS u) bG,?_,?_,λj z u b B I am=>?_,λj z u b B I=>?_,ak,aJ,?_⟩
 ·have:=g.done j z aA
  unfold fZ;split<;>first|rfl|exact this
 ·unfold fZ;rw[aW (by omega)];exact(g.next br).2
 ·unfold fZ;rw[aW (by omega)];exact g.ud j bX z a1 ax a2
 ·
  refine⟨λb l e=>?_,λb l blk e af aA=>?_,λb bj l cK e e' e5 ax K=>?_,λb l e=>?_⟩
  ·by_cases p:(bT rs h2 i).length<=b/\b<(bT rs h2 (i+1)).length
   ·omega
   ·have:aY b=μ b:=aW p
    rw[this]at e
    exact g.hv.cl b l e
  ·by_cases a4:(bT rs h2 (i+1)).length<=b
   ·rw[aX b a4]at e
    obtain⟨o',G,H⟩:=g.hv.rel b l blk e af aA
    refine⟨o',?_,H.mono fm⟩
    rw[ae.frame l.blk (g.hv.lt b l e) ?_]
    ·exact G
    ·intro a5 a6 ab aF O
     have aO:=g.hv.inj b a5 l a6 e (sP _ _ _ _ aF) O.symm ⟨blk,af,aA⟩ ((mn ah (wb aF)).2 ab)
     have:=wb aF
     omega
   ·have B:(bT rs h2 (i+1))[b]?=y blk:=by rw[<-p1 E (by omega)];exact af
    have aG:μ1 b=y l:=by
     by_cases p:b<(bT rs h2 i).length
     ·rw[ac b p,<-W b p];exact e
     ·rw[<-C b (by omega) (by omega)];exact e
    obtain⟨o',G,H⟩:=aB.rel b l blk aG B aA
    exact⟨o',G,H.mono ai⟩
  ·
   have ao:∀b l,aY b=y l->((bT rs h2 i).length<=b/\b<(bT rs h2 (i+1)).length/\μ1 b=y l/\w.heap.size<=l.blk)\/(μ b=y l/\l.blk<w.heap.size):=by
    intro b l e
    by_cases p:(bT rs h2 i).length<=b/\b<(bT rs h2 (i+1)).length
    ·rw[C b p.1 p.2]at e;exact .inl ⟨p.1,p.2,e,al b l p.1 e⟩
    ·have:aY b=μ b:=aW p
     rw[this]at e
     exact .inr ⟨e,g.hv.lt b l e⟩
   rcases ao b l e with⟨cL,cN,dT,fO⟩|⟨cL,cN⟩<;>rcases ao bj cK e' with⟨bw,bD,da,c1⟩|⟨bw,bD⟩
   ·exact aB.inj b bj l cK dT da e5 ((mn E cN).1 ax) ((mn E bD).1 K)
   ·omega
   ·omega
   ·exact g.hv.inj b bj l cK cL bw e5 ax K
  ·by_cases p:(bT rs h2 i).length<=b/\b<(bT rs h2 (i+1)).length
   ·rw[C b p.1 p.2]at e;exact aB.lt b l e
   ·have:aY b=μ b:=aW p
    rw[this]at e
    exact h4 (g.hv.lt b l e) ae.size
 ·
  have bg:av.length<=(bT rs h2 i).length:=xt.le
  have a9:∀c,c<w0.heap.size->(∀b l,live av b->ei b=y l->l.blk≠c)->∀b l,live (bT rs h2 i) b->om μ (bT rs h2 i).length b=y l->l.blk≠c:=by
   intro c aa aA b l ax e O
   have e':=sP _ _ _ _ e
   by_cases A:b<av.length
   ·rw[g.ext.e1 b A]at e'
    by_cases ap:live av b
    ·exact aA b l ap e' O
    ·exact xt.dead b A ap ax
   ·rcases g.ext.new b l (by omega) e' with aO|⟨cm,fa,aO,_,bt,ct,_⟩
    ·omega
    ·exact aA cm fa aO bt (ct.trans O)
  refine⟨g.ext.le,λb af=>?_,ma g.ext.size ae.size,λc aa aA=>?_,λb l e an=>?_,g.ext.pW,λb l af e=>?_,g.ext.dead,g.ext.out.trans ae.out⟩
  ·rw[W b (by omega)];exact g.ext.e1 b af
  ·rw[ae.frame c (h4 aa g.ext.size) (a9 c aa aA),g.ext.frame c aa aA]
  ·have A:=k.hv.cl b l e
   have e':om μ (bT rs h2 i).length b=y l:=by rw[wa (by omega),g.ext.e1 b A];exact e
   rw[ae.ro b l e' (xt.yD an),g.ext.ro b l e an]
  ·by_cases p:(bT rs h2 i).length<=b/\b<(bT rs h2 (i+1)).length
   ·rw[C b p.1 p.2]at e
    exact .inl (ma g.ext.size (al b l p.1 e))
   ·have:aY b=μ b:=aW p
    rw[this]at e
    exact g.ext.new b l af e
 ·unfold fZ at u
  split at u
  ·rename_i X
   subst X
   rw[C b B I]
   exact ae.pX b B ((mn E I).1 am)
  ·obtain⟨l,e⟩:=g.mapped j z u b B I am
   exact⟨l,fm b l e⟩
 ·have X:j≠i:=by rintro rfl;unfold fZ at u;rw[aP rfl]at u;cases u
  have ba:L j=M:=by unfold fZ at u;rw[aW X]at u;exact u
  have bb:¬((bT rs h2 i).length<=b/\b<(bT rs h2 (i+1)).length):=by
   rintro⟨aO,bt⟩
   by_cases U:j<i
   ·have:=k.k0 (i:=j+1) (j:=i) U (x2 S)
    omega
   ·have:=k.k0 (i:=i+1) (j:=j) (by omega) (by have:=g.le;omega)
    omega
  have:aY b=μ b:=aW bb
  rw[this]
  exact g.free j z ba b B I
 ·rw[show(a.put f.dst v').defers=a.defers from by cases f.dst<;>rfl];exact g.defers
theorem WQ(aq:kH F)(k:hQ P Γ ops a8 rs S0 eh av h2 bL ei a0 w0 N){L:Nat->Bool}{μ:Ren}{q:Nat}{a:Act}{w:World}(g:kZ P a8 rs S0 av h2 ei a0 w0 N L μ q a w)(aa:mS ops L){i:Nat}{o:Oper}
 (X:ops[i]?=y o) (G:L i=M) (he:∀e∈o.after.toList,jr .any e=V->L e.on=V) {f:c6} (aE:a8[i]?=y f) (m:pZ P ops o f) {r:ht} (an:rs[i]?=y r) (O:qO Γ f r) (ar:iQ r.e (fy (λj=>decide (j<i)) 0 a8 rs S0))
 (Y:r.h=bT rs h2 i) (aC:r.h'=bT rs h2 (i+1)) (R:r.hJ=V) (aD:kF f.op=V) (S:i<q) (Z:qL f.op=V):oY F n P ops Q i (λa' b'=>∃aY aF,kZ P a8 rs S0 av h2 ei a0 w0 N (fZ L i) aY aF a' b') a w:=by
 have ab:=k.seen aa X aE ar G he g.qP g.size
 have aH:f∈a8:=dN aE
 have bz:=p0 k.jx
 have T:i<a8.length:=(List.getElem?_eq_some_iff.1 aE).1
 obtain⟨elem,cells,bf,ac,aI⟩:=WK O R Z
 have ah:=(O.run R).2
 rw[ac]at ah
 obtain⟨H,C⟩:=vk (jU ah)
 have H:=H.symm
 have C:=C.symm
 rw[Y,aC]at C
 rw[Y]at H
 have aK:mm f.op=M:=WI Z
 have ai:=WM k g aa G aE aD aK C q S (cj _)
 have aL:=(List.getElem?_eq_some_iff.1 ai).1
 have bg:(bT rs h2 (i+1)).length=(bT rs h2 i).length+1:=by rw[C];simp
 obtain⟨jZ,at_,bh,bi,st,xt⟩:=k.text i (x2 T)
 have aM:av.length<=(bT rs h2 i).length:=xt.le
 have aN:μ (bT rs h2 i).length=none:=g.free i S G _ (cj _) (by omega)
 obtain⟨bG,_⟩:=O.run R
 unfold oY
 simp only[X]
 rw[yM m ab (by
  rcases bG with bG|⟨s,b,bG,aB⟩
  ·exact .inl bG
  ·exact .inr ⟨s,b,bG,by rw[oo (by simp [hj,bG])];exact aB⟩)]
 simp only[a_]
 have ad:=ac (bT rs h2 q)
 rw[yP (e':=only r.e (hj f)) (λt aR=>(oo (by simp [hj,aR])).symm)]at ad
 obtain⟨μs,bl,ws,eR,e6,xs⟩:=k.text (i+1) T
 refine yL aq m.op k.callee ab.op g.hv ad (λv' bC μ1 ay aB ae=>?_)
 rw[m.dst]
 obtain⟨⟨c,K⟩,aG⟩:=ae.pX (bT rs h2 q).length (cj _) ⟨_,AF ..,by simp⟩
 ·let aY:Ren:=λb=>if b=(bT rs h2 i).length then y ⟨c,K⟩else μ b
  have B:aY (bT rs h2 i).length=y ⟨c,K⟩:=aP rfl
  have z:∀b,b≠(bT rs h2 i).length->aY b=μ b:=λb af=>aW af
  have fm:ev μ aY:=λb l e=>by
   rw[z b (by rintro rfl;rw[aN]at e;cases e)];exact e
  have aQ:w.heap.size<=c:=by
   rcases ae.new _ _ (cj _) aG with ak|⟨cm,fa,ak,aJ,aO,bt,ct⟩
   ·exact ak
   ·exact absurd ((Bk ak.lt).2 ak) ct
  obtain⟨ak,aJ⟩:=Bv (μ1:=aY) (S0:=S0) bz k.ord.uc aE an (k.dst f aH) g.size G g.qP (λx au h=>h.mono fm) (show bp aY r.v v' by
   rw[H]
   rcases aI with rfl|⟨aS,rfl⟩
   ·cases ay with
    |ptr h=>rw[aG]at h;cases h;exact .ptr B
   ·generalize aT:aS=bn at ay
    simp only[aT]
    cases ay with
    |bZ h hm=>rw[aG]at h;cases h;exact .bZ B hm
    |hs=>exact .hs _ _)
  refine⟨aY,q,g.le,λj A aA=>?_,λbr=>⟨(g.next br).1,?_⟩,λj bX A aU ax aV=>?_,λaZ iR gd h1 h2 ak aJ s aO hk n c bt ct aX j A u bG=>g.kill aZ iR gd h1 h2 ak aJ s aO hk n c bt ct aX j A (yS u) bG,?_,?_,λj A u b E U a1=>?_,λj A u b E U=>?_,ak,aJ,?_⟩
  ·have:=g.done j A aA
   unfold fZ;split<;>first|rfl|exact this
  ·unfold fZ;rw[aW (by omega)];exact(g.next br).2
  ·unfold fZ;rw[aW (by omega)];exact g.ud j bX A aU ax aV
  ·refine⟨λb l e=>?_,λb l blk e af aA=>?_,λb bj l cK e e' e5 ax a2=>?_,λb l e=>?_⟩
   ·by_cases p:b=(bT rs h2 i).length
    ·subst p;exact aL
    ·rw[z b p]at e;exact g.hv.cl b l e
   ·by_cases p:b=(bT rs h2 i).length
    ·subst p
     rw[ai]at af
     cases af
     rw[B]at e
     cases e
     obtain⟨o',a3,a4⟩:=aB.rel _ _ _ aG (AF ..) (by simp)
     refine⟨o',a3,?_⟩
     have al:(bT rs h2 (i+1))[(bT rs h2 i).length]?=y (.cells cells elem V):=by rw[C,AF]
     obtain⟨ls,df⟩:=xs.pX (bT rs h2 i).length aM ⟨_,al,by simp⟩
     obtain⟨bs,_,a5⟩:=e6.rel _ _ _ df al (by simp)
     refine(a5.restrict e6.cl a4).mono λb l e=>?_
     have I:b<(bT rs h2 (i+1)).length:=by
      unfold om at e
      split at e
      ·assumption
      ·cases e
     have e:=sP _ _ _ _ e
     have a6:b<(bT rs h2 q).length:=h4 I (k.k0 S g.le)
     rw[ae.e1 b a6]at e
     exact fm b l e
    ·rw[z b p]at e
     obtain⟨bu,_,D⟩:=g.hv.rel b l blk e af aA
     have am:=g.hv.cl b l e
     obtain⟨a9,ba,E⟩:=aB.rel b l blk ((ae.e1 b am).trans e) (by rw[cI am];exact af) aA
     exact⟨a9,ba,(D.cut (ae.sM g.hv.cl) E).mono fm⟩
   ·by_cases p:b=(bT rs h2 i).length<;>by_cases J:bj=(bT rs h2 i).length
    ·rw[p,J]
    ·subst p
     rw[B]at e
     rw[z bj J]at e'
     cases e
     have:=g.hv.lt bj cK e'
     simp only at e5
     omega
    ·subst J
     rw[B]at e'
     rw[z b p]at e
     cases e'
     have:=g.hv.lt b l e
     simp only at e5
     omega
    ·rw[z b p]at e
     rw[z bj J]at e'
     exact g.hv.inj b bj l cK e e' e5 ax a2
   ·by_cases p:b=(bT rs h2 i).length
    ·subst p
     rw[B]at e
     cases e
     exact aB.lt _ _ aG
    ·rw[z b p]at e
     exact h4 (g.hv.lt b l e) ae.size
  ·have bb:∀d,d<w0.heap.size->(∀b l,live av b->ei b=y l->l.blk≠d)->∀b l,live (bT rs h2 q) b->μ b=y l->l.blk≠d:=by
    intro d hd aA b l ax e ao
    by_cases D:b<av.length
    ·rw[g.ext.e1 b D]at e
     by_cases I:live av b
     ·exact aA b l I e ao
     ·exact g.ext.dead b D I ax
    ·rcases g.ext.new b l (by omega) e with aO|⟨cm,fa,aO,_,bt,ct,_⟩
     ·omega
     ·exact aA cm fa aO bt (ct.trans ao)
   refine⟨g.ext.le,λb af=>?_,ma g.ext.size ae.size,λd hd aA=>?_,λb l e ap=>?_,g.ext.pW,λb l af e=>?_,g.ext.dead,g.ext.out.trans ae.out⟩
   ·rw[z b (by omega)];exact g.ext.e1 b af
   ·rw[ae.frame d (h4 hd g.ext.size) (bb d hd aA),g.ext.frame d hd aA]
   ·have D:=k.hv.cl b l e
    have e':μ b=y l:=by rw[g.ext.e1 b D];exact e
    rw[ae.ro b l e' (g.ext.yD ap),g.ext.ro b l e ap]
   ·by_cases p:b=(bT rs h2 i).length
    ·subst p
     rw[B]at e
     cases e
     exact .inl (ma g.ext.size aQ)
    ·rw[z b p]at e
     exact g.ext.new b l af e
  ·unfold fZ at u
   split at u
   ·rename_i W
    subst W
    have:b=(bT rs h2 j).length:=by omega
    subst this
    exact⟨_,B⟩
   ·obtain⟨l,e⟩:=g.mapped j A u b E U a1
    exact⟨l,fm b l e⟩
  ·have W:j≠i:=by rintro rfl;unfold fZ at u;rw[aP rfl]at u;cases u
   have bc:L j=M:=by unfold fZ at u;rw[aW W]at u;exact u
   have bd:b≠(bT rs h2 i).length:=by
    rintro rfl
    by_cases be:j<i
    ·have:=k.k0 (i:=j+1) (j:=i) be (x2 T)
     omega
    ·have:=k.k0 (i:=i+1) (j:=j) (by omega) (by have:=g.le;omega)
     omega
   rw[z b bd]
   exact g.free j A bc b E U
  ·rw[show(a.put f.dst v').defers=a.defers from by cases f.dst<;>rfl];exact g.defers
end
end Go.bF
namespace Go.bF
variable {P : Program}
section
variable {F : Fence} {n N : Nat} {Γ : Callee} {ops : Array Oper} {a8 : List c6} {rs : List ht} {S0 eh : bP} {av h2 : aX} {bL : List Nat} {Q : Exit -> Act -> World -> Prop} {ei : Ren} {a0 : Act} {w0 : World}
theorem ue(p:Nat->Prop):∀(d q m:Nat),m=q+d->p m->∃b,q<=b/\b<=m/\p b/\∀j,q<=j->j<b->¬p j
 |0,q,m,h,ah=>⟨q,cj _,by omega,by rw[show q=m from by omega];exact ah,λj h1 h2=>by omega⟩
 |d+1,q,m,h,ah=>by
  by_cases br:p q
  ·exact⟨q,cj _,by omega,br,λj h1 h2=>by omega⟩
  ·obtain⟨b,h1,h2,ak,aJ⟩:=ue p d (q+1) m (by omega) ah
   refine⟨b,by omega,h2,ak,λj aO bt=>?_⟩
   by_cases c:j=q
   ·subst c;exact br
   ·exact aJ j (by omega) bt
theorem hQ.soft(k:hQ P Γ ops a8 rs S0 eh av h2 bL ei a0 w0 N){j:Nat}{f:c6}(aE:a8[j]?=y f)(aB:kF f.op=M):bT rs h2 (j+1)=bT rs h2 j:=by
 obtain⟨r,an,b,_,e,g⟩:=pd k.jx j f aE
 rw[<-e,<-g]
 cases c:r.hJ with
 |false=>exact(b.skip c).2.2
 |true=>exact(H5 aB (b.run c).2).1
theorem M8{o:fY}(h:mm o=V):∃g n t,o=.load g n (.tmp t):=by
 cases o with
 |load g n x=>cases x<;>first|exact⟨_,_,_,rfl⟩|cases h
 |_=>cases h
theorem hQ.still(k:hQ P Γ ops a8 rs S0 eh av h2 bL ei a0 w0 N){j:Nat}{f:c6}(aE:a8[j]?=y f)(aB:mm f.op=V):bT rs h2 (j+1)=bT rs h2 j:=by
 obtain⟨r,an,b,_,e,h⟩:=pd k.jx j f aE
 rw[<-e,<-h]
 cases c:r.hJ with
 |false=>exact(b.skip c).2.2
 |true=>
  obtain⟨g,n,x,i⟩:=M8 aB
  have:=(b.run c).2
  rw[i]at this
  simp only[dh,cX]at this
  obtain⟨v,_,ay⟩:=this
  exact(vk (jU ay)).2.symm
theorem H_{e S:bP}{t:Nat}{v:Value}(h:iQ e S)(ay:e t=v)(b:v≠dR):S t=v:=by
 rcases h t with h1|h1
 ·rw[<-h1];exact ay
 ·exact absurd (ay.symm.trans h1) b
theorem WR(k:hQ P Γ ops a8 rs S0 eh av h2 bL ei a0 w0 N){L:Nat->Bool}{μ:Ren}{q:Nat}{a:Act}{w:World}(I:kZ P a8 rs S0 av h2 ei a0 w0 N L μ q a w)(aa:mS ops L){i:Nat}{o:Oper}
 (aA:ops[i]?=y o) (Z:L i=M) (he:∀e∈o.after.toList,jr .any e=V->L e.on=V) {f:c6} (aE:a8[i]?=y f) {r:ht} (an:rs[i]?=y r) (aB:qO Γ f r) (ab:iQ r.e (fy (λj=>decide (j<i)) 0 a8 rs S0))
 (a3:r.h=bT rs h2 i) (aC:r.hJ=V) {g:Bool} {n t:Nat} (J:f.op=.load g n (.tmp t)) {b off:Nat} (ah:r.e t=.pointer (y ⟨b,off,none⟩)) {vs:List Value} {ty:a1} {eK:Bool} (af:(bT rs h2 i)[b]?=y (.cells vs ty eK)) (aD:b<(bT rs h2 q).length):(bT rs h2 q)[b]?=y (.cells vs ty eK):=by
 have bz:=p0 k.jx
 have a4:i<a8.length:=(List.getElem?_eq_some_iff.1 aE).1
 have a5:b<(bT rs h2 i).length:=(List.getElem?_eq_some_iff.1 af).1
 have ac:loadAt f.op=y t:=by rw[J];rfl
 have ad:kF f.op=V:=by rw[J];rfl
 have D:=λ(t:Nat) (L:Nat->Bool)=>yQ (L:=L) (t:=t) a8 rs 0 S0 bz (λi j f bX al ai aH=>k.ord.uc i j f bX t al ai aH)
 rcases Nat.le_total q i with a9|aI
 ·
  have key:∀d aZ,aZ+d=i->q<=aZ->(bT rs h2 aZ)[b]?=y (.cells vs ty eK):=by
   intro d
   induction d with
   |zero=>intro aZ R _;rw[show aZ=i by omega];exact af
   |succ d a6=>
    intro aZ R am
    have h1:=a6 (aZ+1) (by omega) (by omega)
    have E:aZ<a8.length:=by omega
    have F:b<(bT rs h2 aZ).length:=h4 aD (k.k0 am (by omega))
    by_cases l:Calm rs h2 aZ
    ·rw[<-p1 l F];exact h1
    ·obtain⟨iR,u,G,S⟩:=k.yR E l
     have H:L aZ=M:=by
      rcases Nat.lt_or_eq_of_le am with aJ|heq
      ·exact I.ud aZ iR aJ u (MU G) (MX G)
      ·subst heq;exact(I.next E).2
     rcases(k.ord.wr aZ iR u G S i f aE ad).1 (by omega)with T|aK
     ·have:=we k.ord aa i i (cj _) o aA he aZ T
      rw[H]at this
      cases this
     ·obtain⟨s,ao,aL,cL,cN,dT,fO⟩:=MZ aK
      rw[ac]at dT
      cases dT
      obtain⟨gd,ap,C,aq,A,z⟩:=pd k.jx aZ iR u
      have K:gd.hJ=V:=by
       cases an:gd.hJ with
       |true=>rfl
       |false=>
        exfalso;apply l;unfold Calm
        rw[<-A,<-z,(C.skip an).2.2]
        exact nu _
      obtain⟨O,aM,aG,aF⟩:=M1 (aB.ef aC) fO
      rw[ah]at aG
      cases aG
      have hd:∀v,r.e ao=v->v≠dR->v=gd.v:=λv h1 h2=>by
       have:=H_ ab h1 h2
       rw[(D ao _).1 aZ iR gd u ap (by simp;omega) cN]at this
       exact this.symm
      have ar:∀a n c,Value.slice a n c≠dR:=λ_ _ _ h=>by cases h
      rcases H9 cL (C.run K).2 with U|⟨hk,n1,c2,f1,f2,aN,f3,f4⟩
      ·exfalso;apply l;unfold Calm;rw[<-A,<-z];exact U
      ·rw[A,z]at f3
       rw[z]at f4
       have W:b≠hk.block:=by
        rintro rfl
        rcases f4 with f4|⟨n2,ej,f4,f5⟩
        ·rw[f4]at h1;cases h1
        ·rcases aF with⟨x,aF⟩|⟨bj,o',aO,aP,aF,X⟩
         ·have:=hd _ aF (ar _ _ _)
          rw[f4]at this
          cases this
          exact f5 ⟨rfl,rfl⟩
         ·have:=hd _ aF (ar _ _ _)
          rw[f4]at this
          cases this
          exact X rfl
       rw[<-f3 b F W];exact h1
  exact key (i-q) q (by omega) (cj _)
 ·
  have key:∀aZ,i<=aZ->aZ<=q->(bT rs h2 aZ)[b]?=y (.cells vs ty eK):=by
   intro aZ
   induction aZ with
   |zero=>intro h _;rw[show 0=i by omega];exact af
   |succ aZ a6=>
    intro h1 ak
    by_cases R:aZ+1=i
    ·rw[R];exact af
    ·have a6:=a6 (by omega) (by omega)
     have F:=(List.getElem?_eq_some_iff.1 a6).1
     by_cases l:Calm rs h2 aZ
     ·rw[p1 l F];exact a6
     ·have E:aZ<a8.length:=h4 (by omega) I.le
      have H:=I.done aZ (by omega) l
      have a_:aZ≠i:=by rintro rfl;rw[Z]at H;cases H
      obtain⟨iR,u,G,S⟩:=k.yR E l
      have aQ:aZ<ops.size:=by rw[<-k.len];exact E
      have au:ops[aZ]?=y ops[aZ]:=lh aQ
      rcases(k.ord.wr aZ iR u G S i f aE ad).2 (by omega)with T|aR|aS|Y
      rotate_right
      ·unfold yA at Y
       rw[J]at Y
       cases Y
      ·have:=we k.ord aa aZ aZ (cj _) _ au (aa aZ _ au H) i T
       rw[Z]at this
       cases this
      ·obtain⟨m,blk1,a',ba,bb,aT,bc,aU⟩:=M6 k aE u l aR
       have bd:i<m:=aT.resolve_left (by rw[J];simp [o7])
       have bt:=k.k0 (i:=i) (j:=m) (by omega) (by omega)
       rw[aU,hP (by omega)]
       exact a6
      ·obtain⟨s,aL,cL,dT,fO,gZ⟩:=M0 aS
       rw[ac]at dT
       cases dT
       obtain⟨gd,ap,C,aq,A,z⟩:=pd k.jx aZ iR u
       have K:gd.hJ=V:=by
        cases an:gd.hJ with
        |true=>rfl
        |false=>
         exfalso;apply l;unfold Calm
         rw[<-A,<-z,(C.skip an).2.2]
         exact nu _
       obtain⟨O,aM,aG,aF⟩:=M1 (C.ef K) fO
       have aV:∀j bX,a8[j]?=y bX->i<=j->bX.dst≠y t:=λj bX p al hd=>by
        have hm:bX∈a8.drop i:=by
         refine dN (i:=j-i) ?_
         rw[pK,show i+(j-i)=j by omega];exact p
        have:=List.all_eq_true.1 gZ bX hm
        rw[hd]at this
        simp only at this
        rw[qF]at this
        cases this
       have aW:fy (λj=>decide (j<aZ)) 0 a8 rs S0 t=fy (λj=>decide (j<i)) 0 a8 rs S0 t:=by
        by_cases ae:∃j bX,a8[j]?=y bX/\j<i/\bX.dst=y t
        ·obtain⟨j,bX,p,Q,B⟩:=ae
         have aX:j<rs.length:=by rw[bz];exact(List.getElem?_eq_some_iff.1 p).1
         have ax:rs[j]?=y rs[j]:=fJ aX
         rw[(D t _).1 j bX _ p ax (by simp;omega) B,(D t _).1 j bX _ p ax (by simp;omega) B]
        ·rw[(D t _).2 (λj bX p ay B=>?_),(D t _).2 (λj bX p ay B=>?_)]
         ·exact ae ⟨j,bX,p,by simpa using ay,B⟩
         ·rcases Nat.lt_or_ge j i with Q|Q
          ·exact ae ⟨j,bX,p,Q,B⟩
          ·exact aV j bX p Q B
       have aY:O=b:=by
        have ct:=H_ aq aG (λh=>by cases h)
        have a2:=H_ ab ah (λh=>by cases h)
        rw[aW,a2]at ct
        cases ct
        rfl
       subst aY
       rcases H9 cL (C.run K).2 with U|⟨hk,n1,c2,f1,f2,aN,f3,f4⟩
       ·exfalso;apply l;unfold Calm;rw[<-A,<-z];exact U
       ·rw[A,z]at f3
        have W:O≠hk.block:=by
         rintro rfl
         rcases aF with⟨x,aF⟩|⟨bj,o',aO,aP,aF,X⟩
         ·rw[f1]at aF;cases aF;exact f2 ⟨rfl,rfl⟩
         ·rw[f1]at aF;cases aF;exact X rfl
        rw[f3 O F W];exact a6
  exact key q aI (cj _)
theorem WS{f:c6}{s:Nat}(h:o8 f.op=y s):s∈hj f:=by
 unfold hj
 cases b:f.op with
 |append t sz x au=>
  rw[b]at h
  cases x with
  |tmp c=>cases h;simp [yx,eu]
  |_=>cases h
 |_=>rw[b]at h;cases h
theorem WT(ai:kH F)(k:hQ P Γ ops a8 rs S0 eh av h2 bL ei a0 w0 N){L:Nat->Bool}{μ:Ren}{q:Nat}{a:Act}{w:World}(p:kZ P a8 rs S0 av h2 ei a0 w0 N L μ q a w)(aa:mS ops L){o:Oper}
 (R:ops[q]?=y o) (S:L q=M) (he:∀e∈o.after.toList,jr .any e=V->L e.on=V) {f:c6} (aE:a8[q]?=y f) (m:pZ P ops o f) {r:ht} (an:rs[q]?=y r) (al:qO Γ f r) (am:iQ r.e (fy (λj=>decide (j<q)) 0 a8 rs S0))
 (ao:r.h=bT rs h2 q) (ap:r.h'=bT rs h2 (q+1)) (aq:r.hJ=V):oY F n P ops Q q (λa' b'=>∃aY B,kZ P a8 rs S0 av h2 ei a0 w0 N (fZ L q) aY B a' b') a w:=by
 have K:=k.seen aa R aE am S he p.qP p.size
 have ar:f∈a8:=dN aE
 have bz:=p0 k.jx
 have aV:q<a8.length:=(List.getElem?_eq_some_iff.1 aE).1
 obtain⟨bG,ad⟩:=al.run aq
 rw[yP (e':=only r.e (hj f)) (λt aR=>(oo (by simp [hj,aR])).symm),ao]at ad
 unfold oY
 simp only[R]
 rw[yM m K (by
  rcases bG with bG|⟨s,b,bG,aB⟩
  ·exact .inl bG
  ·exact .inr ⟨s,b,bG,by rw[oo (by simp [hj,bG])];exact aB⟩)]
 simp only[a_]
 refine yL ai m.op k.callee K.op p.hv ad (λv' bC μ1 ay aB ae=>?_)
 rw[m.dst]
 rw[ap]at aB ae
 obtain⟨ak,aJ⟩:=Bv (μ1:=μ1) (S0:=S0) bz k.ord.uc aE an (k.dst f ar) p.size S p.qP (λx au h=>h.mono (ae.sM p.hv.cl)) ay
 obtain⟨B,T,U,aC,aD⟩:=ue (λj=>j=a8.length\/¬Calm rs h2 j) (a8.length-(q+1)) (q+1) a8.length (by omega) (.inl rfl)
 have O:∀j,q+1<=j->j<B->Calm rs h2 j:=λj aO bt=>qB λaA=>aD j aO bt (.inr aA)
 have ah:bT rs h2 (q+1) <+: bT rs h2 B:=M3 O T
 have z:=p.ext.trans ae.toExtP k.hv.cl
 have W:(bT rs h2 (q+1)).length<=(bT rs h2 B).length:=k.k0 T U
 have aF:∀j bX,q<j->a8[j]?=y bX->L j=V->bT rs h2 (j+1)=bT rs h2 j:=by
  intro j bX A C u
  cases ax:kF bX.op with
  |false=>exact k.soft C ax
  |true=>
   cases X:mm bX.op with
   |true=>exact k.still C X
   |false=>rw[p.ud j bX A C ax X]at u;cases u
 refine⟨μ1,B,U,λj A aA=>?_,λbr=>?_,λj bX A C ax aG=>?_,λaZ iR gd h1 h2 ak Y s aO hk n c bt ct I j A u bG=>?_,?_,?_,λj A u b J D Z=>?_,λj A u b J D=>?_,ak,aJ,?_⟩
 ·unfold fZ
  split
  ·rfl
  ·rename_i G
   by_cases E:j<q
   ·exact p.done j E aA
   ·exact absurd (O j (by omega) A) aA
 ·have aA:¬Calm rs h2 B:=aC.resolve_left (by omega)
  obtain⟨aH,aI,ab,_⟩:=k.yR br aA
  refine⟨aA,?_⟩
  unfold fZ
  rw[aW (by omega)]
  exact p.ud B aH (by omega) aI (MU ab) (MX ab)
 ·unfold fZ
  rw[aW (by omega)]
  exact p.ud j bX (by omega) C ax aG
 ·rcases Nat.lt_trichotomy aZ q with g|g|g
  ·exact p.kill aZ iR gd g h2 ak Y s aO hk n c bt ct I j A (yS u) bG
  ·subst g
   rw[aE]at h2
   cases h2
   rw[an]at ak
   cases ak
   have aB:s∈hj f:=WS aO
   have ay:=K.rel s
   rw[oo aB,bt]at ay
   generalize a.tmps.getD s undef=au at ay
   intro ac
   have aK:=p.free j A (yS u) (bT rs h2 j).length (cj _) bG
   cases ay with
   |bZ h _=>simp only at ac;rw[ac,aK]at h;cases h
   |gb=>exact I ⟨rfl,rfl⟩
   |hs=>exact ct ⟨rfl,rfl⟩
  ·exact absurd (O aZ (by omega) h1) Y
 ·refine⟨λb l e=>h4 (aB.cl b l e) W,λb l blk e af aA=>aB.rel b l blk e (by rw[<-p1 ah (aB.cl b l e)];exact af) aA,λb bj l cK e e' e5 ax aL=>aB.inj b bj l cK e e' e5 ((mn ah (aB.cl b l e)).1 ax) ((mn ah (aB.cl bj cK e')).1 aL),aB.lt⟩
 ·refine⟨ma z.le W,z.e1,z.size,z.frame,z.ro,λb an=>?_,λb l af e=>?_,λb af aA=>?_,z.out⟩
  ·rw[p1 ah (h4 an.live.lt z.le)];exact z.pW b an
  ·rcases z.new b l af e with aO|⟨cm,fa,aO,bt,ct,I,aM⟩
   ·exact .inl aO
   ·exact .inr ⟨cm,fa,aO,bt,ct,I,λax=>aM ((mn ah (h4 aO.lt z.le)).1 ax)⟩
  ·exact λax=>z.dead b af aA ((mn ah (h4 af z.le)).1 ax)
 ·unfold fZ at u
  split at u
  ·rename_i G
   subst G
   exact ae.pX b J ((mn ah D).1 Z)
  ·rename_i G
   by_cases E:j<q
   ·have H:b<(bT rs h2 q).length:=h4 D (k.k0 E p.le)
    have aN:b<(bT rs h2 (q+1)).length:=h4 H ae.le
    have aQ:=(mn ah aN).1 Z
    have aS:live (bT rs h2 q) b:=qB λaA=>ae.dead b H aA aQ
    obtain⟨l,e⟩:=p.mapped j E u b J D aS
    exact⟨l,(ae.e1 b H).trans e⟩
   ·obtain⟨bX,C⟩:∃bX,a8[j]?=y bX:=⟨_,fJ (by omega)⟩
    rw[aF j bX (by omega) C u]at D
    omega
 ·have G:j≠q:=by rintro rfl;unfold fZ at u;rw[aP rfl]at u;cases u
  have aT:L j=M:=by unfold fZ at u;rw[aW G]at u;exact u
  by_cases E:j<q
  ·have H:b<(bT rs h2 q).length:=h4 D (k.k0 E p.le)
   rw[ae.e1 b H]
   exact p.free j E aT b J D
  ·cases aU:μ1 b with
   |none=>rfl
   |some l=>
    have aO:=aB.cl b l aU
    have bt:=k.k0 (i:=q+1) (j:=j) (by omega) (by omega)
    omega
 ·rw[show(a.put f.dst v').defers=a.defers from by cases f.dst<;>rfl];exact p.defers
theorem WU(k:hQ P Γ ops a8 rs S0 eh av h2 bL ei a0 w0 N){L:Nat->Bool}{μ:Ren}{q:Nat}{a:Act}{w:World}(m:kZ P a8 rs S0 av h2 ei a0 w0 N L μ q a w)(aa:mS ops L){i:Nat}{o:Oper}
 (x:ops[i]?=y o) (z:L i=M) (he:∀e∈o.after.toList,jr .any e=V->L e.on=V) {f:c6} (aE:a8[i]?=y f) {r:ht} (an:rs[i]?=y r) (A:qO Γ f r) (B:iQ r.e (fy (λj=>decide (j<i)) 0 a8 rs S0))
 (C:r.h=bT rs h2 i) (D:r.hJ=V) (G:mm f.op=V):dh Γ f.op (only r.e (hj f)) (bT rs h2 q) (λv h'=>y (v,h'))=y (r.v,bT rs h2 q):=by
 obtain⟨g,n,t,u⟩:=M8 G
 have ad:=(A.run D).2
 rw[yP (e':=only r.e (hj f)) (λt aR=>(oo (by simp [hj,aR])).symm)]at ad
 have H:=k.seen aa x aE B z he m.qP m.size
 rw[u]at ad|-
 simp only[dh,cX]at ad
 obtain⟨v,ay,ad⟩:=ad
 obtain⟨rfl,_⟩:=vk (jU ad)
 have key:oh g n (val (only r.e (hj f)) (.tmp t)) (bT rs h2 q)=y r.v:=by
  rw[C]at ay
  have E:t∈hj f:=by unfold hj;rw[u];simp [yx,eu]
  have p:=H.rel t
  have I:val (only r.e (hj f)) (.tmp t)=r.e t:=oo E
  rw[oo E]at p
  rw[I]at ay|-
  unfold oh at ay|-
  split at ay
  ·rename_i hk ah
   rw[ah]at p
   generalize a.tmps.getD t undef=au at p
   cases p with
   |@ptr b c K o' J=>
    have O:=m.hv.cl b _ J
    have Q:∃vs ty eK,(bT rs h2 i)[b]?=y (.cells vs ty eK):=by
     cases g with
     |true=>
      simp only[du]at ay
      obtain⟨l,ax,_⟩:=ay
      unfold jX at ax
      split at ax
      ·rename_i vs ty eK af;exact⟨_,_,_,af⟩
      ·cases ax
     |false=>
      simp only at ay
      unfold pS at ay
      split at ay
      ·rename_i vs ty eK af;exact⟨_,_,_,af⟩
      ·cases ay
    obtain⟨vs,ty,eK,af⟩:=Q
    have F:=WR k m aa x z he aE an A B C D u ah af O
    cases g with
    |true=>
     simp only at ay|-
     unfold jX at ay|-
     rw[af]at ay
     rw[F]
     exact ay
    |false=>
     simp only at ay|-
     unfold pS at ay|-
     rw[af]at ay
     rw[F]
     exact ay
  ·cases ay
 show(oh g n (val (only r.e (hj f)) (.tmp t)) (bT rs h2 q)).bind _=_
 rw[key]
 rfl
theorem WV(t:kH F)(k:hQ P Γ ops a8 rs S0 eh av h2 bL ei a0 w0 N){L:Nat->Bool}{μ:Ren}{q:Nat}{a:Act}{w:World}(b:kZ P a8 rs S0 av h2 ei a0 w0 N L μ q a w)(aa:mS ops L){i:Nat}{o:Oper}
 (c:ops[i]?=y o) (l:L i=M) (he:∀e∈o.after.toList,jr .any e=V->L e.on=V):
 oY F n P ops Q i (λa' b'=>∃aY E,kZ P a8 rs S0 av h2 ei a0 w0 N (fZ L i) aY E a' b') a w:=by
 obtain⟨f,aE,m⟩:=k.H7 i o c
 obtain⟨r,an,g,p,u,z⟩:=pd k.jx i f aE
 by_cases A:q<a8.length/\i=q
 ·obtain⟨br,rfl⟩:=A
  have j:r.hJ=V:=by
   cases j:r.hJ with
   |true=>rfl
   |false=>
    exfalso
    apply(b.next br).1
    unfold Calm
    rw[<-u,<-z,(g.skip j).2.2]
    exact nu _
  exact WT t k b aa c l he aE m an g p u z j
 ·have B:q<a8.length->i≠q:=λh e=>A ⟨h,e⟩
  cases j:r.hJ with
  |false=>exact H8 t k b aa c l he aE m an g p (.inl j) B
  |true=>
   cases ax:kF f.op with
   |false=>exact H8 t k b aa c l he aE m an g p (.inr (.inl ax)) B
   |true=>
    cases x:mm f.op with
    |true=>exact H8 t k b aa c l he aE m an g p (.inr (.inr ⟨by rw[u,z];exact k.still aE x,x,WU k b aa c l he aE an g p u j x⟩)) B
    |false=>
     have C:i<q:=by
      apply qB
      intro aA
      by_cases br:q<i
      ·rw[k.M5 b aa c he aE br x]at ax;cases ax
      ·have x:=(List.getElem?_eq_some_iff.1 aE).1
       exact A ⟨by omega,by omega⟩
     cases D:qL f.op with
     |false=>exact WO t k b aa c l he aE m an g p u z j ax x C D
     |true=>exact WQ t k b aa c l he aE m an g p u z j ax C D
theorem M9{L:Nat->Bool}{i:Nat}(ai:L i=M):∀{l:List Nat},l.Nodup->i∈l->(l.filter λj=>!fZ L i j).length+1=(l.filter λj=>!L j).length
 |[],_,h=>by cases h
 |x::l,aA,h=>by
  rw[List.nodup_cons]at aA
  by_cases b:x=i
  ·subst b
   have:(l.filter λj=>!fZ L x j)=l.filter λj=>!L j:=by
    apply LY
    intro j c
    have:j≠x:=by rintro rfl;exact aA.1 c
    simp [fZ,this]
   rw[AJ,AJ,this]
   simp [fZ,ai]
  ·have e:i∈l:=by simpa [oa b]using h
   have a6:=M9 ai aA.2 e
   rw[AJ,AJ]
   have ae:fZ L i x=L x:=by simp [fZ,b]
   rw[ae]
   split
   ·simp only[jS];omega
   ·exact a6
theorem WW(ap:kH F)(k:hQ P Γ ops a8 rs S0 eh av h2 bL ei a0 w0 N){opsR:Array Oper}{σ τ:Nat->Nat}(c7:opsR.size=ops.size)(C:∀i,i<ops.size->τ i<ops.size/\σ (τ i)=i)(I:∀j,j<ops.size->σ j<ops.size/\τ (σ j)=j)(aq:∀j,¬j<ops.size->σ j=j)
 (ab:∀i o,opsR[i]?=y o->∃o',ops[τ i]?=y o'/\(∀K a w,oY F n P ops Q (τ i) K a w->oY F n P opsR Q i K a w)/\(∀e'∈o'.after.toList,jr .any e'=V->∃e∈o.after.toList,jr .any e=V/\e'.on=τ e.on/\e.on<ops.size)/\
   (∀e∈o.after.toList,jr .any e=V->e.on<ops.size/\∃e'∈o'.after.toList,jr .any e'=V/\e'.on=τ e.on))
 (iC:∀a w μ,g_ μ eh a N->cS P μ h2 w->Ext ei av w0 μ h2 w->a.defers=a0.defers->Q .normal a w):
 ∀(fuel:Nat) (c:Array Bool) (a:Act) (w:World) (μ:Ren) (q:Nat),c.size=ops.size->((fj ops.size).filter λj=>!c.getD j M).length=fuel->
  kZ P a8 rs S0 av h2 ei a0 w0 N (λj=>c.getD (σ j) M) μ q a w->mS ops (λj=>c.getD (σ j) M)->wpAnyIn F n P .any opsR Q fuel c a w:=by
 have ar:∀(L:Nat->Bool) (a:Act) (w:World) (μ:Ren) (q:Nat),(∀j,j<ops.size->L j=V)->kZ P a8 rs S0 av h2 ei a0 w0 N L μ q a w->Q .normal a w:=by
  intro L a w μ q B g
  have br:q=a8.length:=by
   apply qB
   intro aA
   have J:q<a8.length:=by have:=g.le;omega
   have:=(g.next J).2
   rw[B q (by rw[<-k.len];exact J)]at this
   cases this
  have ac:bT rs h2 q=h2:=by
   unfold bT
   rw[eE (by rw[p0 k.jx];omega)]
   rfl
  have au:fy L 0 a8 rs S0=eh:=MV k.jx (λi ai=>by rw[hh];exact B i (by rw[<-k.len];exact ai))
  have ad:=g.qP
  rw[au]at ad
  have aB:=g.hv
  have ae:=g.ext
  have ah:=g.mapped
  rw[ac]at aB ae ah
  refine iC a w μ ⟨g.size,ad⟩ aB ⟨ae,λb af ax=>?_⟩ g.defers
  have T:b<h2.length:=ax.lt
  obtain⟨i,ay,D,p,U⟩:=ue (λj=>b<(bT rs h2 (j+1)).length) (a8.length) 0 (a8.length) (by omega) (by
   have:bT rs h2 (a8.length+1)=h2:=by
    unfold bT
    rw[eE (by rw[p0 k.jx];omega)]
    rfl
   rw[this];exact T)
  have ak:(bT rs h2 i).length<=b:=by
   cases i with
   |zero=>rw[Bs k.jx];exact af
   |succ i=>
    have:=U i (hO _) (Nat.lt_succ_self _)
    omega
  have m:i<a8.length:=by
   apply qB
   intro aA
   have aC:i=a8.length:=by omega
   subst aC
   rw[<-br,ac]at ak
   omega
  exact ah i (by omega) (B i (by rw[<-k.len];exact m)) b ak p ax
 intro fuel
 induction fuel with
 |zero=>
  intro c a w μ q z O g aa
  have B:∀j,j<ops.size->c.getD j M=V:=by
   intro j u
   cases R:c.getD j M with
   |true=>rfl
   |false=>
    have:j∈(fj ops.size).filter λj=>!c.getD j M:=List.mem_filter.2 ⟨List.mem_range.2 u,by simp [R]⟩
    rw[gF O]at this
    cases this
  refine⟨?_,ar _ a w μ q (λj u=>B _ (I j u).1) g⟩
  refine List.eq_nil_iff_forall_not_mem.2 (λi ai=>?_)
  unfold LZ at ai
  rw[L1,tN,dn,c7]at ai
  have h1:=B i ai.1
  have h2:=ai.2.1
  have:c.getD i V=V:=by
   rw[nt]at h1|-
   rw[lh (by rw[z];exact ai.1)]at h1|-
   exact h1
  rw[this]at h2
  cases h2
 |succ fuel a6=>
  intro c a w μ q z O g aa
  refine⟨λan=>?_,λi ai=>?_⟩
  ·exfalso
   obtain⟨j,u⟩:∃j,j∈(fj ops.size).filter λj=>!c.getD j M:=by
    cases ax:(fj ops.size).filter λj=>!c.getD j M with
    |nil=>rw[ax]at O;cases O
    |cons x r=>exact⟨x,by simp⟩
   rw[L1,tN]at u
   obtain⟨A,ay,D,p,U⟩:=ue (λj=>c.getD (σ j) M=M) (τ j) 0 (τ j) (by omega) (by rw[(C j u.1).2];simpa using u.2)
   have E:A<ops.size:=by have:=(C j u.1).1;omega
   have m:=(I A E).1
   have G:opsR[σ A]?=y (opsR[σ A]'(by rw[c7];exact m)):=lh _
   obtain⟨o',H,_,_,aD⟩:=ab _ _ G
   rw[(I A E).2]at H
   have:σ A∈LZ .any opsR c:=by
    unfold LZ
    rw[L1,tN,dn]
    refine⟨by rw[c7];exact m,?_,?_⟩
    ·rw[nt]at p|-
     rw[lh (by rw[z];exact m)]at p|-
     simpa using p
    ·rw[G]
     simp only[dw,ob]
     rw[akk]
     intro e he
     cases af:jr .any e with
     |false=>rfl
     |true=>
      obtain⟨W,e',aE,aF,X⟩:=aD e (by simpa using he) af
      have J:=k.ord.Bu A o' H e' aE aF
      have:=U e'.on (hO _) J
      rw[X,(C _ W).2]at this
      simpa using this
   rw[an]at this
   cases this
  ·unfold LZ at ai
   rw[L1,tN,dn]at ai
   obtain⟨al,D,p⟩:=ai
   have m:i<ops.size:=by rw[<-c7];exact al
   have G:opsR[i]?=y opsR[i]:=lh al
   have am:c.getD i M=M:=by
    rw[nt]at D|-
    rw[lh (by rw[z];exact m)]at D|-
    simpa using D
   rw[G]at p
   simp only[dw,ob]at p
   rw[akk]at p
   obtain⟨o',H,aG,aH,_⟩:=ab _ _ G
   have ao:=(C i m).2
   have he:∀e'∈o'.after.toList,jr .any e'=V->c.getD (σ e'.on) M=V:=by
    intro e' S af
    obtain⟨e,he,T,X,W⟩:=aH e' S af
    have:=p e (by simpa using he)
    rw[T]at this
    rw[X,(C _ W).2]
    simpa using this
   have R:(λj=>(c.setIfInBounds i V).getD (σ j) M)=fZ (λj=>c.getD (σ j) M) (τ i):=by
    funext j
    unfold fZ
    rw[nt]
    by_cases t:j=τ i
    ·subst t
     rw[aP rfl,ao,Vz (by rw[z];exact m)]
     rfl
    ·rw[aW t,x1 (λh=>t ?_)]
     ·exact(nt ..).symm
     ·by_cases E:j<ops.size
      ·rw[h,(I j E).2]
      ·rw[aq j E]at h
       omega
   refine aG _ _ _ (wpOpIn_mono (λa' b' ⟨aY,aI,aJ⟩=>?_) (WV (n:=n) (Q:=Q) ap k g aa H (by show c.getD (σ (τ i)) M=M;rw[ao];exact am) he))
   refine a6 (c.setIfInBounds i V) a' b' aY aI (by simp [z]) ?_ (by rw[R];exact aJ) (by
    rw[R]
    intro j aK Y Z e S af
    unfold fZ at Z|-
    split at Z
    ·rename_i t
     subst t
     rw[H]at Y
     cases Y
     split
     ·rfl
     ·exact he e S af
    ·split
     ·rfl
     ·exact aa j aK Y Z e S af)
   have aM:=M9 (L:=λj=>c.getD j M) am (l:=fj ops.size) List.nodup_range (List.mem_range.2 m)
   have aL:((fj ops.size).filter λj=>!(c.setIfInBounds i V).getD j M)=(fj ops.size).filter λj=>!fZ (λj=>c.getD j M) i j:=by
    apply LY
    intro j _
    unfold fZ
    rw[nt]
    by_cases t:j=i
    ·subst t
     rw[aP rfl,Vz (by rw[z];exact m)]
     rfl
    ·rw[aW t,x1 (oa t)]
     rw[<-nt]
   rw[aL]
   omega
end
end Go.bF
namespace Go.bF
variable {P : Program}
theorem WX{ops:Array Oper}{a8:List c6}{bL:List Nat}(h:HN ops a8 bL=V):H6 ops a8 bL:=by
 simp only[HN,dn]at h
 obtain⟨⟨h1,h2⟩,ak⟩:=h
 have m:∀(i j:Nat) (f bX:c6),a8[i]?=y f->a8[j]?=y bX->(i=j\/HI f bX=M)/\(i<j->HH f bX=V->(bL.getD j 0).testBit i=V)/\
  (qK f.op=V->A' f.ef=M->kF bX.op=V->(i<j->(bL.getD j 0).testBit i=V\/yy f bX=V)/\(j<i->(bL.getD i 0).testBit j=V\/tX a8 i j=V\/yz a8 j f bX=V\/yA f bX=V)):=by
  intro i j f bX aE b
  have ai:=(List.getElem?_eq_some_iff.1 aE).1
  have k:=(List.getElem?_eq_some_iff.1 b).1
  have:=List.all_eq_true.1 (List.all_eq_true.1 ak i (List.mem_range.2 ai)) j (List.mem_range.2 k)
  rw[aE,b]at this
  simp only[dn,mM,Bool.not_eq_true',iA,i']at this
  obtain⟨⟨cL,cN⟩,dT⟩:=this
  refine⟨cL,λc n=>?_,λhm aa ax=>?_⟩
  ·rcases cN with(g|g)|g
   ·exact absurd c g
   ·rw[n]at g;cases g
   ·exact g
  ·rcases dT with((g|g)|g)|g
   ·rw[hm]at g;cases g
   ·rw[aa]at g;cases g
   ·rw[ax]at g;cases g
   ·exact⟨λc=>by
     rcases g.1 with(cN|cN)|cN
     ·exact absurd c cN
     ·exact .inl cN
     ·exact .inr cN,λp=>by
     rcases g.2 with(((cN|cN)|cN)|cN)|cN
     ·exact absurd p cN
     ·exact .inl cN
     ·exact .inr (.inl cN)
     ·exact .inr (.inr (.inl cN))
     ·exact .inr (.inr (.inr cN))⟩
 refine⟨λi o l e he af=>?_,λi j o l k=>?_,λi j f bX t c aE b hd q=>?_,λi j f bX t c aE b aa=>?_,λi f aE hm aa j bX b ax=>(m i j f bX aE b).2.2 hm aa ax⟩
 ·have ai:=(Array.getElem?_eq_some_iff.1 l).1
  have:=List.all_eq_true.1 h1 i (List.mem_range.2 ai)
  rw[l]at this
  have:=List.all_eq_true.1 this e he
  rw[af]at this
  simpa using this
 ·have ai:=(Array.getElem?_eq_some_iff.1 l).1
  have aJ:=List.all_eq_true.1 h2 i (List.mem_range.2 ai)
  simp only[dn,eJ]at aJ
  have u:j<ops.size:=by
   apply qB
   intro aA
   have:(bL.getD i 0).testBit j=M:=Nat.testBit_lt_two_pow (h4 aJ.1 (Nat.pow_le_pow_right (by omega) (by omega)))
   rw[this]at k
   cases k
  have aO:=List.all_eq_true.1 aJ.2 j (List.mem_range.2 u)
  rw[k,l]at aO
  simp only[Bool.not_true,Bool.false_or,List.any_eq_true,dn,mM,i']at aO
  obtain⟨e,he,af,aa⟩:=aO
  exact⟨e,he,af,aa⟩
 ·have:=(m i j f bX aE b).1.resolve_left c
  unfold HI at this
  rw[hd,q]at this
  simp at this
 ·refine(m i j f bX aE b).2.1 c ?_
  unfold HH
  rcases aa with⟨hd,aR⟩|⟨hd,aR⟩
  ·rw[hd];simp [aR]
  ·rw[hd];simp [aR]
theorem M_{a8:List c6}{N:Nat}(h:(a8.all λf=>f.dst.toList.all λd=>decide (d<N))=V):∀f∈a8,∀d,f.dst=y d->d<N:=by
 intro f aE d hd
 have:=List.all_eq_true.1 h f aE
 rw[hd]at this
 simpa using this
theorem M'{ops:Array Oper}{b:Nat->lk}{a8:List c6}(c:sK P ops b ops.toList 0=y a8):a8.length=ops.size/\∀(j:Nat) (o:Oper),ops[j]?=y o->∃f,a8[j]?=y f/\pZ P ops o f:=by
 obtain⟨h1,h2⟩:=MP c
 refine⟨by simpa using h1,λj o e=>?_⟩
 obtain⟨f,aE,hm,_⟩:=h2 j o (by simpa using e)
 exact⟨f,aE,hm⟩
theorem Na{F:Fence}{n N:Nat}{Γ:Callee}{id:Nat}{ops opsR:Array Oper}{C a8:List c6}{e aF:bP}{h h2:aX}{μ:Ren}{a:Act}{w:World}{Q:Exit->Act->World->Prop}{σ τ:Nat->Nat}
 (D:kH F) (E:P.follows .mixedOrders=V) (G:jd P Γ) (c7:opsR.size=ops.size) (H:∀i,i<ops.size->τ i<ops.size/\σ (τ i)=i) (I:∀j,j<ops.size->σ j<ops.size/\τ (σ j)=j) (J:∀j,¬j<ops.size->σ j=j)
 (L:∀i o,opsR[i]?=y o->∃o',ops[τ i]?=y o'/\(∀K a w,oY F n P ops Q (τ i) K a w->oY F n P opsR Q i K a w)/\((∀e'∈o'.after.toList,jr .any e'=V->e'.on<ops.size)->(∀e'∈o'.after.toList,jr .any e'=V->∃e∈o.after.toList,jr .any e=V/\e'.on=τ e.on/\e.on<ops.size)/\
   (∀e∈o.after.toList,jr .any e=V->e.on<ops.size/\∃e'∈o'.after.toList,jr .any e'=V/\e'.on=τ e.on)))
 (aa:vS P N ops C=y a8) (t:kY Γ a8 e h aF h2) (cJ:g_ μ e a N) (s:cS P μ h w)
 (iC:∀a' b' aY,g_ aY aF a' N->cS P aY h2 b'->Ext μ h w aY h2 b'->a'.defers=a.defers->Q .normal a' b'):(Code.region id opsR V).wpIn F n P Q a w:=by
 unfold vS at aa
 split at aa
 ·rename_i ac O
  split at aa
  ·rename_i hd
   cases aa
   obtain⟨bz,hm⟩:=M' O
   obtain⟨rs,eh,p,R⟩:=WD t e (iQ.refl e)
   let w0:World:={ w with drawn:=w.drawn+1 }
   have c:cS P μ h w0:=⟨s.cl,s.rel,s.inj,s.lt⟩
   have k:hQ P Γ ops a8 rs e eh h h2 (o6 ops) μ a w0 N:=⟨p,WX hd.2,G,bz,hm,M_ hd.1,cJ,c⟩
   refine wpIn_region_draw λt=>?_
   simp only[Region.schedule,E,Bool.true_or,a_]
   refine wpAnyIn_sound opsR.size t _ a w0 ?_
   rw[c7]
   have g:∀j,(AK ops.size M).getD j M=M:=by
    intro j
    rw[nt]
    by_cases z:j<ops.size
    ·rw[lh (by simpa using z)];simp
    ·rw[Array.getElem?_eq_none (by simpa using z)];rfl
   obtain⟨q,_,S,T,U⟩:=ue (λj=>j=a8.length\/¬Calm rs h2 j) a8.length 0 a8.length (by omega) (.inl rfl)
   have u:∀j,0<=j->j<q->Calm rs h2 j:=λj aO bt=>qB λaA=>U j aO bt (.inr aA)
   have ah:h <+: bT rs h2 q:=by
    have:=M3 (h2:=h2) u (hO _)
    rwa [Bs p]at this
   have A:h.length<=(bT rs h2 q).length:=ah.length_le
   refine WW (n:=n) (Q:=Q) D k c7 H I J (λi o B=>?_) (λa' b' aY ak aJ aO bt=>iC a' b' aY (ak.lS R) aJ ⟨⟨aO.le,aO.e1,aO.size,aO.frame,aO.ro,aO.pW,aO.new,aO.dead,aO.out⟩,aO.pX⟩ bt) ops.size _ a w0 μ q (by simp) ?_ ?_ (by
    intro i o B x
    have m:(AK ops.size M).getD (σ i) M=V:=x
    rw[g]at m
    cases m)
   ·obtain⟨o',cL,cN,dT⟩:=L i o B
    obtain⟨fO,gZ⟩:=dT λe' W X=>by
     have:=k.ord.Bu _ _ cL e' W X
     have:=(Array.getElem?_eq_some_iff.1 cL).1
     omega
    exact⟨o',cL,cN,fO,gZ⟩
   ·have:((fj ops.size).filter λj=>!(AK ops.size M).getD j M)=fj ops.size:=by
     rw[List.filter_eq_self]
     intro j _
     rw[g]
     rfl
    rw[this,Hs]
   ·refine⟨S,λi ai aA=>absurd (u i (hO _) ai) aA,λbr=>⟨T.resolve_left (by omega),g _⟩,λi f _ _ _ _=>g _,λaZ _ _ Y _ _ aA=>absurd (u aZ (hO _) Y) aA,?_,?_,λi _ x=>?_,λi ai _ b ad ae=>?_,cJ.size,λt=>?_,rfl⟩
    ·exact⟨λb l e=>h4 (c.cl b l e) A,λb l blk e af aA=>c.rel b l blk e (by rw[<-p1 ah (c.cl b l e)];exact af) aA,λb bj l cK e e' e5 ax Z=>c.inj b bj l cK e e' e5 ((mn ah (c.cl b l e)).1 ax) ((mn ah (c.cl bj cK e')).1 Z),c.lt⟩
    ·exact⟨A,λ_ _=>rfl,cj _,λ_ _ _=>rfl,λ_ _ _ _=>rfl,λb an=>p1 ah an.live.lt,λb l af e=>absurd (c.cl b l e) (by omega),λb af aA ax=>aA ((mn ah af).1 ax),kG.rfl⟩
    ·have m:(AK ops.size M).getD (σ i) M=V:=x
     rw[g]at m;cases m
    ·cases ab:μ b with
     |none=>rfl
     |some l=>
      have aO:=c.cl b l ab
      have bt:=k.k0 (i:=0) (j:=i) (hO _) (by omega)
      rw[Bs p]at bt
      omega
    ·rw[Bt _ _ _ _ (λi _=>g _)]
     exact cJ.rel t
  ·cases aa
 ·cases aa
theorem Nb{l:List Nat}{i:Nat}(h:mO l i<l.length):l[mO l i]?=y i:=by
 unfold mO at h|-
 have:=List.findIdx_getElem (w:=h)
 rw[fJ h,hW this]
theorem WY{F:Fence}{n:Nat}{o:Oper}{a:Act}{w:World}{K:Act->World->Prop}{Q:Exit->Act->World->Prop}(σ:List Nat)(h:(yB σ o).wpIn F n P a w K Q):o.wpIn F n P a w K Q:=h
theorem WZ{F:Fence}{n N:Nat}{Γ:Callee}{id:Nat}{ops:Array Oper}{nx:Bool}{a8:List c6}{e aF:bP}{h h2:aX}{μ:Ren}{a:Act}{w:World}{Q:Exit->Act->World->Prop}
 (u:kH F) (B:P.follows .mixedOrders=V) (x:jd P Γ) (aa:Ba P N ops nx=y a8) (t:kY Γ a8 e h aF h2) (cJ:g_ μ e a N) (s:cS P μ h w)
 (iC:∀a' b' aY,g_ aY aF a' N->cS P aY h2 b'->Ext μ h w aY h2 b'->a'.defers=a.defers->Q .normal a' b'):(Code.region id ops nx).wpIn F n P Q a w:=by
 cases nx with
 |false=>
  unfold Ba at aa
  simp only[]at aa
  split at aa
  ·rename_i R H
   split at aa
   ·rename_i hd
    cases aa
    obtain⟨bz,hm⟩:=M' H
    refine wpIn_region ?_
    have:=WC (n:=n) (Q:=Q) u x bz hm (M_ hd) t 0 a w μ (by simp) cJ s iC
    rw[bz]at this
    rw[List.range_eq_range']
    exact this
   ·cases aa
  ·cases aa
 |true=>
  have same:∀{q},vS P N ops q=y a8->(Code.region id ops V).wpIn F n P Q a w:=λI=>
   Na (σ:=λi=>i) (τ:=λi=>i) u B x rfl (λi ai=>⟨ai,rfl⟩) (λi ai=>⟨ai,rfl⟩) (λ_ _=>rfl) (λi o c=>⟨o,c,λ_ _ _ h=>h,λaf=>⟨λe he m=>⟨e,he,m,rfl,af e he m⟩,λe he m=>⟨af e he m,e,he,m,rfl⟩⟩⟩) I t cJ s iC
  unfold Ba at aa
  simp only[]at aa
  split at aa
  ·rename_i q _
   split at aa
   ·exact same aa
   ·rename_i S _
    cases ah:HM ops (vR ops.size (targets q (o6 ops)) (o6 ops))with
    |false=>
     rw[ah]at aa
     exact same aa
    |true=>
     rw[ah]at aa
     simp only[gG]at aa
     generalize vR ops.size (targets q (o6 ops)) (o6 ops)=b at ah aa
     split at aa
     ·rename_i T _
      simp only[HM,dn,eJ]at ah
      obtain⟨⟨⟨ax,z⟩,g⟩,A⟩:=ah
      have z:∀i∈b,i<ops.size:=λi ai=>by simpa using List.all_eq_true.1 z i ai
      have g:∀i,i<ops.size->mO b i<ops.size/\mO b (b.getD i 0)=i:=λi ai=>by
       have:=List.all_eq_true.1 g i (List.mem_range.2 ai)
       simp only[dn,eJ]at this
       exact⟨this.1,hW this.2⟩
      have A:∀o∈ops.toList,o.guard=none/\∀e∈o.after.toList,e.on<ops.size:=λo c=>by
       have:=List.all_eq_true.1 A o c
       simp only[dn]at this
       exact⟨by simpa using this.1,λe he=>by simpa using List.all_eq_true.1 this.2 e he⟩
      have k:(rO ops b).size=ops.size:=by simp [rO,ax]
      have J:∀i o,ops[i]?=y o->(rO ops b)[mO b i]?=y (yB b o):=λi o c=>by
       have ai:=(Array.getElem?_eq_some_iff.1 c).1
       have:=Nb (l:=b) (i:=i) (by rw[ax];exact(g i ai).1)
       unfold rO
       rw[List.getElem?_toArray,iM,this,dw,nt,c]
       rfl
      refine Na (ops:=rO ops b) (opsR:=ops) (σ:=λj=>(b[j]?).getD j) (τ:=mO b) u B x k.symm (λi ai=>?_) (λj p=>?_) (λj p=>?_) (λi o c=>?_) aa t cJ s iC
      ·rw[k]at ai|-
       refine⟨(g i ai).1,?_⟩
       show(b[mO b i]?).getD _=i
       rw[Nb (by rw[ax];exact(g i ai).1)]
       rfl
      ·rw[k]at p|-
       have C:j<b.length:=by rw[ax];exact p
       have bG:b[j]?=y b[j]:=fJ C
       have hd:b.getD j 0=b[j]:=by rw[iN,bG];rfl
       have h2:=(g j p).2
       rw[hd]at h2
       show(b[j]?).getD j<ops.size/\mO b ((b[j]?).getD j)=j
       rw[bG]
       exact⟨z _ (List.getElem_mem C),h2⟩
      ·rw[k]at p
       show(b[j]?).getD j=j
       rw[eE (by rw[ax];omega)]
       rfl
      ·have D:=J i o c
       obtain⟨E,G⟩:=A o (by rw[Array.getElem?_eq_some_iff]at c;obtain⟨h,rfl⟩:=c;simp)
       refine⟨_,D,λK a w h=>?_,λ_=>⟨λe' L O=>?_,λe he af=>?_⟩⟩
       ·unfold oY at h|-
        rw[D]at h
        rw[c]
        have bC:vj (yB b o) (yielded (rO ops b) a.tmps)=V:=by
         have:(yB b o).guard=none:=E
         unfold vj
         rw[this]
        have cU:vj o (yielded ops a.tmps)=V:=by unfold vj;rw[E]
        simp only[bC,a_]at h
        simp only[cU,a_]
        exact WY b h
       ·have hm:e'∈(o.after.map λe=>{ e with on:=mO b e.on }).toList:=L
        simp only[LQ,ju]at hm
        obtain⟨e,he,rfl⟩:=hm
        exact⟨e,he,O,rfl,by rw[k];exact G e he⟩
       ·refine⟨by rw[k];exact G e he,{ e with on:=mO b e.on },?_,af,rfl⟩
        show _∈(o.after.map λe=>{ e with on:=mO b e.on }).toList
        rw[LQ]
        exact List.mem_map_of_mem he
     ·cases aa
  ·cases aa
end Go.bF
namespace Go.bF
variable {P : Program}
theorem Bw{a b:List Nat}(h:yC a b=V):∀i∈a,i∈b:=λi ai=>Bo (List.all_eq_true.1 h i ai)
theorem H'{e aG:bP}:∀{l:List Nat} {t:Nat},fM e l (getMany aG l) t=if t∈l then aG t else e t
 |[],t=>by simp [getMany,fM]
 |i::l,t=>by
  simp only[getMany,fM]
  by_cases h:i=t
  ·subst h;rw[pb];simp
  ·rw[cE _ _ h]
   show fM e l (getMany aG l) t=_
   rw[H']
   have:t≠i:=oa h
   simp [this]
theorem wg{e aG:bP}{mod tmp:List Nat}(h:∀t,t∉mod++tmp->aG t=e t):iQ (fM (kn e tmp) mod (getMany aG mod)) aG:=by
 intro t
 rw[H']
 split
 ·left;rfl
 ·rename_i hm
  by_cases aR:t∈tmp
  ·right;exact H2 aR
  ·left;rw[v8 aR];exact(h t (by simp [hm,aR])).symm
theorem yT{e:bP}{mod tmp:List Nat}{vs:List Value}{t:Nat}(h:t∉mod++tmp):fM (kn e tmp) mod vs t=e t:=by
 simp only[lO,not_or]at h
 have:∀(l:List Nat) (vs:List Value) (e:bP),t∉l->fM e l vs t=e t:=by
  intro l
  induction l with
  |nil=>intros;simp [fM]
  |cons i l a6=>
   intro vs e aA
   simp only[List.mem_cons,not_or]at aA
   simp only[fM];rw[cE _ _ (oa aA.1)];exact a6 _ e aA.2
 rw[this mod vs _ h.1,v8 h.2]
def Ia:fN->Exit
 |.normal=>.normal
 |.exit i=>.exit i
 |.ret=>.ret
variable {μ : Ren} {w : World}
def nF(lo:Nat)(μ:Ren)(h:aX)(w:World)(d0 d:List Deferred):Prop:=
 ∃rs:List Nat,d=rs.map (λr=>{ target:=.collected r,args:=#[] })++d0/\rs.Nodup/\∀r∈rs,lo<=r/\w.heap[r]?=y (.deferred (y []))/\∀b l,live h b->μ b=y l->l.blk≠r
theorem nF.rfl{lo:Nat}{h:aX}{d:List Deferred}:nF lo μ h w d d:=⟨[],by simp,by simp,λr an=>by cases an⟩
theorem Bx{aY:Ren}{h h':aX}{b':World}(x:Ext μ h w aY h' b'){r:Nat}(h1:w.heap[r]?=y (.deferred (y [])))(h2:∀b l,live h b->μ b=y l->l.blk≠r):
 b'.heap[r]?=y (.deferred (y []))/\∀b l,live h' b->aY b=y l->l.blk≠r:=by
 have an:r<w.heap.size:=(Array.getElem?_eq_some_iff.1 h1).1
 refine⟨by rw[x.frame r an h2];exact h1,λb l af e=>?_⟩
 by_cases c:b<h.length
 ·have ax:live h b:=qB λaA=>x.dead b c aA af
  exact h2 b l ax ((x.e1 b c).symm.trans e)
 ·rcases x.new b l (by omega) e with ak|⟨cm,fa,g,_,i,aG,_⟩
  ·omega
  ·rw[<-aG];exact h2 cm fa g i
theorem nF.trans{lo:Nat}{aY:Ren}{h h':aX}{b':World}{d0 c e:List Deferred}(a:nF lo μ h w d0 c)(x:Ext μ h w aY h' b')(b:nF w.heap.size aY h' b' c e)(k:lo<=w.heap.size):nF lo aY h' b' d0 e:=by
 obtain⟨g,aG,n1,bw⟩:=a
 obtain⟨i,aF,n2,bD⟩:=b
 refine⟨i++g,by rw[aF,aG];simp,?_,λr an=>?_⟩
 ·refine List.nodup_append.2 ⟨n2,n1,λr an dO gQ j=>?_⟩
  subst j
  have:=(bD r an).1
  have ak:=(Array.getElem?_eq_some_iff.1 (bw r gQ).2.1).1
  omega
 ·rcases List.mem_append.1 an with an|an
  ·exact⟨by have:=(bD r an).1;omega,(bD r an).2⟩
  ·exact⟨(bw r an).1,Bx x (bw r an).2.1 (bw r an).2.2⟩
def yU{R:Type}(P:Program)(K:fN->bP->aX->Option R)(r:R)(wr:List Nat)(e:bP)(μ:Ren)(h:aX)(w:World)(a:Act)(N:Nat):Exit->Act->World->Prop:=
 λx a' b'=>∃o e' h' aY,Ia o=x/\K o e' h'=y r/\(∀t,t∉wr->e' t=e t)/\g_ aY e' a' N/\cS P aY h' b'/\Ext μ h w aY h' b'/\nF w.heap.size aY h' b' a.defers a'.defers
noncomputable def yV(p:Nat->Prop):Nat:=open Classical in if H:∃n,p n then L2 (show ∃n,p n/\∀k,k<n->¬p k by
 obtain⟨m,hm⟩:=H
 obtain⟨q,_,_,ak,aJ⟩:=ue p m 0 m (by omega) hm
 exact⟨q,ak,λk ad=>aJ k (hO _) ad⟩)else 0
theorem Nc{p:Nat->Prop}{m:Nat}(h:p m):p (yV p)/\yV p<=m:=by
 have H:∃n,p n:=⟨m,h⟩
 unfold yV
 rw[dif_pos H]
 generalize aa:L2 _=c
 have aB:=Classical.choose_spec (show ∃n,p n/\∀k,k<n->¬p k by
  obtain⟨m,hm⟩:=H
  obtain⟨q,_,_,ak,aJ⟩:=ue p m 0 m (by omega) hm
  exact⟨q,ak,λk ad=>aJ k (hO _) ad⟩)
 rw[aa]at aB
 refine⟨aB.1,?_⟩
 apply qB
 intro aA
 exact aB.2 m (by omega) h
theorem W0{h:aX}{b:Nat}{o:Option fN}(c:vL b h=y o):∃dg e g i j st,h[b]?=y (.loop dg e g i j st o)/\st≠.busy:=by
 unfold vL at c
 split at c
 ·cases c;exact⟨_,_,_,_,_,_,by assumption,by simp⟩
 ·cases c;exact⟨_,_,_,_,_,_,by assumption,by simp⟩
 ·cases c
theorem W1{Γ:Callee}{f:Value}{args:List Value}{h:aX}{r:Value×aX}(ah:sH Γ f args h=y r):∃g xs ys,f=.func (.func g) xs ys/\fX g dX=V/\Γ g (xs.toList++args++ys.toList) h=y r:=by
 unfold sH at ah
 split at ah
 ·rename_i g xs ys
  cases b:fX g dX with
  |false=>rw[b]at ah;cases ah
  |true=>rw[b]at ah;exact⟨g,xs,ys,rfl,b,ah⟩
 ·cases ah
theorem W2{R:Type}{F:Fence}{n N:Nat}{dd bH:List Nat}{u z:ln}{g:Operand}{K:fN->bP->aX->Option R}{e:bP}{h h2:aX}{r:R}{a:Act}{cU j:World}{c:Ren}{v:Value}{o:Option fN}{blk:iB}
 (s:cS P μ h w) (aC:Ext μ h w μ h (w.alloc (.deferred (y [])))) (b6:Ext μ h (w.alloc (.deferred (y []))) (grow μ h.length (w.heap.size+1) 0) (h++[blk]) cU) (gH:Ext (grow μ h.length (w.heap.size+1) 0) (h++[blk]) cU c h2 j)
 (A:∀b l,μ b=y l->b<h.length) (L:∀b l,grow μ h.length (w.heap.size+1) 0 b=y l->b<(h++[blk]).length) (B:cS P c h2 j)
 (ad:(match o with|none=>K .normal e (h2.set h.length .dead)|some x=>K x e (h2.set h.length .dead))=y r) (M:vL h.length h2=y o) (cJ:g_ μ e a N):
 rangePost F n P (w.heap.size+1) (yU P K r (nB (.jW g dd bH u z)) e μ h w a N) { a with defers:=[{ target:=.collected w.heap.size,args:=#[] }]++a.defers } (.returned v) j:=by
 have C:c h.length=y ⟨w.heap.size+1,0⟩:=(gH.e1 h.length (by simp)).trans (pY _ _ _)
 obtain⟨dg,Y,Z,aa,ab,st,q,O⟩:=W0 M
 obtain⟨ac,Q,k,rfl,S,T,_⟩:=B.rel _ _ _ C q (by simp)
 have U:¬lp h2 h.length:=by rintro⟨vs,ae,aF⟩;rw[q]at aF;cases aF
 obtain⟨wh,D⟩:=B.Wo (o':=.loop { k with state:=.exhausted }) C q (by simp) U
 have m:Ext μ h w c (h2.set h.length .dead) (j.putObj (w.heap.size+1) (.loop { k with state:=.exhausted })):=aC.trans (b6.trans (gH.trans D L) A) A
 have V:(w.alloc (.deferred (y []))).heap[w.heap.size]?=y (.deferred (y [])):=Mk w _
 have E:=Bx b6 V (λb l _ aF=>by have:=s.lt b l aF;omega)
 have G:=Bx gH E.1 E.2
 have W:=Bx D G.1 G.2
 have t:nF w.heap.size c (h2.set h.length .dead) (j.putObj (w.heap.size+1) (.loop { k with state:=.exhausted })) a.defers ([{ target:=.collected w.heap.size,args:=#[] }]++a.defers):=
  ⟨[w.heap.size],rfl,by simp,λr an=>by rw[List.mem_singleton]at an;subst an;exact⟨cj _,W⟩⟩
 have H:g_ c e { a with defers:=[{ target:=.collected w.heap.size,args:=#[] }]++a.defers } N:=⟨cJ.size,λi=>(cJ.rel i).mono (m.sM s.cl)⟩
 have I:=run_endLoop (P:=P) Q (by rw[S];cases st<;>first|exact absurd rfl O|simp [L_])
 generalize j.putObj (w.heap.size+1) (.loop { k with state:=.exhausted })=J at I wh m t
 refine⟨k.pending,J,I,?_⟩
 rw[T]
 cases o with
 |none=>exact⟨.normal,e,_,c,rfl,ad,λ_ _=>rfl,H,wh,m,t⟩
 |some x=>
  have br:∀p:fN,K p e (h2.set h.length .dead)=y r->yU P K r (nB (.jW g dd bH u z)) e μ h w a N (Ia p) { a with defers:=[{ target:=.collected w.heap.size,args:=#[] }]++a.defers } J:=
   λp X=>⟨p,e,_,c,rfl,X,λ_ _=>rfl,H,wh,m,t⟩
  cases x with
  |normal=>exact wpIn_skip (br .normal ad)
  |exit i=>exact wpIn_exit (br (.exit i) ad)
  |ret=>exact wpIn_ret (br .ret ad)
theorem W3{R:Type}{F:Fence}{n N fuel:Nat}{Γ:Callee}(k:kH F)(u:jd P Γ){g:Operand}{dd:List Nat}{b:Array Tmp}{c j:ln}{as l:Code}{K:fN->bP->aX->Option R}{e:bP}{h:aX}{r:R}{a:Act}
 (c2:(b.toList.all λp=>decide (p<N))=V) (ej:b.toList.Nodup) (h1:Bb P N c as) (h2:Bb P N j l) (ae:nA g=V) (x:F.round=none)
 (ad:hX Γ fuel (.jW g dd b.toList c j) K e h=y r) (cJ:g_ μ e a N) (s:cS P μ h w):
 (Code.rangeFunc g b as l).wpIn F n P (yU P K r (nB (.jW g dd b.toList c j)) e μ h w a N) a w:=by
 simp only[hX,cX]at ad
 obtain⟨⟨v,H⟩,ah,o,t,ad⟩:=ad
 simp only at t ad
 obtain⟨f,xs,ys,aE,z,ah⟩:=W1 ah
 have m:=cJ.op g ae
 rw[aE]at m
 generalize ba:a.eval g=au at m
 cases m with
 |@func _ _ _ fh e2 bI b0=>
  obtain⟨A,B⟩:=u.fn f z _ _ _ _ ah
  refine wpIn_rangeFunc (λfn I=>?_)
  rw[x]
  obtain⟨s1,aC⟩:=s.spare (.deferred (y []))
  have C:(w.alloc (.deferred (y []))).heap.size=w.heap.size+1:=yJ _ _
  have D:∀i,bp (grow μ h.length (w.alloc (.deferred (y []))).heap.size 0) (fM (λ_=>dR) dd (getMany e dd) i) (a.tmps.getD i undef):=λi=>by
   rw[H']
   split
   ·exact(cJ.rel i).mono (sN s1 _ _)
   ·exact .dR _
  obtain⟨q,b6⟩:=s1.alloc (w0:=w.alloc (.deferred (y []))) rfl kG.rfl (K:=0) (blk:=.loop (getMany e dd) dd b.toList c j .ready none)
   (o:=.loop { state:=.ready,pending:=none,fn:=fn,tmps:=a.tmps,params:=b,assign:=as,body:=l,defers:=w.heap.size })
   ⟨_,rfl,rfl,rfl,rfl,by rw[cJ.size];exact c2,ej,by rw[cJ.size];exact h1,by rw[cJ.size];exact h2,D⟩
  rw[C]at q b6
  have fm:ev μ (grow μ h.length (w.heap.size+1) 0):=sN s1 _ _
  have E:cB (grow μ h.length (w.heap.size+1) 0) (xs.toList++[Value.func (.yield h.length) ⟨[]⟩ ⟨[]⟩]++ys.toList) (fh.toList++[Value.func (.yield (w.heap.size+1)) ⟨[]⟩ ⟨[]⟩]++e2.toList):=
   ((bI.mono fm).append (.cons (.yield (pY _ _ _)) .nil)).append (b0.mono fm)
  refine⟨w.heap.size+1,_,_,_,_,f,(fh.toList++[Value.func (.yield (w.heap.size+1)) ⟨[]⟩ ⟨[]⟩]++e2.toList).toArray,_,run_enterLoop_outer _ _ _ _ _,MG rfl ba,λbX _=>k.1 bX,?_,λhd=>(by rw[k.2]at hd;cases hd),
   (B _ _ _ q E F (n-1) k).mono ?_⟩
  ·have hm:fh++(rangeCall g (w.heap.size+1)).args.map a.eval++e2=(fh.toList++[Value.func (.yield (w.heap.size+1)) ⟨[]⟩ ⟨[]⟩]++e2.toList).toArray:=mL (by simp [rangeCall,Act.eval])
   simp only[invoke,hm]
   exact A _ _
  ·rintro e' J ⟨v',L,rfl,ay,G,gH⟩
   exact W2 s aC b6 gH s1.cl q.cl G ad t cJ
theorem Ib{R:Type}{F:Fence}{n N fuel:Nat}{Γ:Callee}(Y:kH F)(al:P.follows .mixedOrders=V)(Z:jd P Γ):
 ∀(ac:ln) (c:Code) (K:fN->bP->aX->Option R) (e:bP) (h:aX) (r:R) (a:Act) (w:World) (μ:Ren),dW P N c=y (dH ac)->lQ ac=V->(F.round=none\/mP (dH ac)=V)->hX Γ fuel ac K e h=y r->
  g_ μ e a N->cS P μ h w->c.wpIn F n P (yU P K r (nB ac) e μ h w a N) a w:=by
 intro ac
 induction ac with
 |skip=>
  intro c K e h r a w μ aa q B ad cJ s
  have ab:yU P K r (nB .skip) e μ h w a N .normal a w:=⟨.normal,e,h,μ,rfl,ad,λ_ _=>rfl,cJ,s,Ext.refl _ _ _ s.cl,nF.rfl⟩
  cases c with
  |skip=>exact wpIn_skip ab
  |label l=>exact wpIn_label ab
  |region _ _ _=>simp only[dW,dH]at aa;split at aa<;>cases aa
  |seq _ _=>simp only[dW,dH]at aa;split at aa<;>cases aa
  |cond _ _ _=>simp only[dW,dH]at aa;split at aa<;>cases aa
  |block _ _=>simp only[dW,dH]at aa;split at aa<;>cases aa
  |loop _=>simp only[dW,dH]at aa;split at aa<;>cases aa
  |rangeFunc _ _ _ _=>simp only[dW,dH]at aa;split at aa<;>first|cases aa|(split at aa<;>cases aa)
  |_=>cases aa
 |region nx st=>
  intro c K e h r a w μ aa q B ad cJ s
  cases c with
  |region id ops aD=>
   simp only[dW,dH]at aa
   split at aa
   ·rename_i a8 am
    cases aa
    obtain⟨aF,h2,aR,m,cb⟩:=Br st [] none none _ e h r q (λc b bG=>by cases bG) ad
    exact WZ Y al Z am aR cJ s (λa' b' aY ak aJ aO bt=>⟨.normal,aF,h2,aY,rfl,m,cb,ak,aJ,aO,by rw[bt];exact nF.rfl⟩)
   ·cases aa
  |seq _ _=>simp only[dW,dH]at aa;split at aa<;>cases aa
  |cond _ _ _=>simp only[dW,dH]at aa;split at aa<;>cases aa
  |block _ _=>simp only[dW,dH]at aa;split at aa<;>cases aa
  |loop _=>simp only[dW,dH]at aa;split at aa<;>cases aa
  |rangeFunc _ _ _ _=>simp only[dW,dH]at aa;split at aa<;>first|cases aa|(split at aa<;>cases aa)
  |_=>cases aa
 |seq x au an E=>
  intro c K e h r a w μ aa q B ad cJ s
  simp only[lQ,dn]at q
  cases c with
  |seq c2 ej=>
   simp only[dW,dH]at aa
   split at aa
   ·rename_i f1 f2 h1 h2
    cases aa
    refine wpIn_seq (tO (an c2 _ e h r a w μ h1 q.1 (B.imp (λh=>h) λh=>by simp only[mP,dH,dn]at h;exact h.1) ad cJ s) ?_)
    rintro aC C bC ⟨o,aG,hI,μ1,rfl,m,D,u,s1,aC,hd⟩
    cases o with
    |normal=>
     refine tO (E ej K aG hI r C bC μ1 h2 q.2 (B.imp (λh=>h) λh=>by simp only[mP,dH,dn]at h;exact h.2) m u s1) ?_
     rintro b6 T cU ⟨ao,aF,I,J,rfl,ap,aq,L,O,b6,Q⟩
     exact⟨ao,aF,I,J,rfl,ap,λt aR=>by
      simp only[nB,lO,not_or]at aR
      rw[aq t aR.2,D t aR.1],L,O,aC.trans b6 s.cl,hd.trans b6 Q aC.size⟩
    |exit i=>exact⟨.exit i,aG,hI,μ1,rfl,m,λt aR=>D t (λh=>aR (by simp [nB,h])),u,s1,aC,hd⟩
    |ret=>exact⟨.ret,aG,hI,μ1,rfl,m,λt aR=>D t (λh=>aR (by simp [nB,h])),u,s1,aC,hd⟩
   ·cases aa
  |region _ _ _=>simp only[dW,dH]at aa;split at aa<;>cases aa
  |cond _ _ _=>simp only[dW,dH]at aa;split at aa<;>cases aa
  |block _ _=>simp only[dW,dH]at aa;split at aa<;>cases aa
  |loop _=>simp only[dW,dH]at aa;split at aa<;>cases aa
  |rangeFunc _ _ _ _=>simp only[dW,dH]at aa;split at aa<;>first|cases aa|(split at aa<;>cases aa)
  |_=>cases aa
 |cond x mod tmp au z E ar=>
  intro c K e h r a w μ aa q B ad cJ s
  simp only[lQ,dn]at q
  obtain⟨⟨⟨o9,av⟩,ay⟩,aA⟩:=q
  cases c with
  |cond aE c2 ej=>
   simp only[dW,dH]at aa
   split at aa
   ·rename_i f1 f2 ae h1 h2
    cases aa
    simp only[hX,sI,A3]at ad
    have U:=cJ.op x ae
    split at ad
    ·rename_i t aR
     rw[aR]at U
     generalize ba:a.eval x=c_ at U
     cases U
     refine wpIn_cond ba ?_
     cases t with
     |true=>
      rw[aP rfl]at ad
      refine tO (E c2 _ e h r a w μ h1 ay (B.imp (λh=>h) λh=>by simp only[mP,dH,dn]at h;exact h.1) ad cJ s) ?_
      rintro aC C bC ⟨o,aG,hI,μ1,rfl,m,D,u,s1,aC,hd⟩
      have A:∀t,t∉mod++tmp->aG t=e t:=λt aR=>D t (λh=>aR (Bw o9 t h))
      cases o with
      |normal=>exact⟨.normal,_,hI,μ1,rfl,m,λt aR=>yT aR,u.lS (wg A),s1,aC,hd⟩
      |exit i=>exact⟨.exit i,aG,hI,μ1,rfl,m,A,u,s1,aC,hd⟩
      |ret=>exact⟨.ret,aG,hI,μ1,rfl,m,A,u,s1,aC,hd⟩
     |false=>
      rw[aW (by simp)]at ad
      refine tO (ar ej _ e h r a w μ h2 aA (B.imp (λh=>h) λh=>by simp only[mP,dH,dn]at h;exact h.2) ad cJ s) ?_
      rintro aC C bC ⟨o,aG,hI,μ1,rfl,m,D,u,s1,aC,hd⟩
      have A:∀t,t∉mod++tmp->aG t=e t:=λt aR=>D t (λh=>aR (Bw av t h))
      cases o with
      |normal=>exact⟨.normal,_,hI,μ1,rfl,m,λt aR=>yT aR,u.lS (wg A),s1,aC,hd⟩
      |exit i=>exact⟨.exit i,aG,hI,μ1,rfl,m,A,u,s1,aC,hd⟩
      |ret=>exact⟨.ret,aG,hI,μ1,rfl,m,A,u,s1,aC,hd⟩
    ·cases ad
   ·cases aa
  |region _ _ _=>simp only[dW,dH]at aa;split at aa<;>cases aa
  |seq _ _=>simp only[dW,dH]at aa;split at aa<;>cases aa
  |block _ _=>simp only[dW,dH]at aa;split at aa<;>cases aa
  |loop _=>simp only[dW,dH]at aa;split at aa<;>cases aa
  |rangeFunc _ _ _ _=>simp only[dW,dH]at aa;split at aa<;>first|cases aa|(split at aa<;>cases aa)
  |_=>cases aa
 |block id mod tmp au E=>
  intro c K e h r a w μ aa q B ad cJ s
  simp only[lQ,dn]at q
  cases c with
  |block aH c2=>
   simp only[dW,dH]at aa
   split at aa
   ·rename_i f1 h1
    cases aa
    simp only[hX,sI]at ad
    refine wpIn_block (tO (E c2 _ e h r a w μ h1 q.2 (B.imp (λh=>h) λh=>h) ad cJ s) ?_)
    rintro aC C bC ⟨o,aG,hI,μ1,rfl,m,D,u,s1,aC,hd⟩
    have A:∀t,t∉mod++tmp->aG t=e t:=λt aR=>D t (λh=>aR (Bw q.1 t h))
    cases o with
    |normal=>exact⟨.normal,_,hI,μ1,rfl,m,λt aR=>yT aR,u.lS (wg A),s1,aC,hd⟩
    |exit i=>
     simp only[Ia,Exit.inBlock]
     split
     ·rename_i ai
      subst ai
      have:cM i i=V:=qF i
      simp only[this,gG]at m
      exact⟨.normal,_,hI,μ1,rfl,m,λt aR=>yT aR,u.lS (wg A),s1,aC,hd⟩
     ·rename_i ai
      have:cM i id=M:=by
       cases af:cM i id with
       |false=>rfl
       |true=>exact absurd (hW af) ai
      simp only[this,mg]at m
      exact⟨.exit i,aG,hI,μ1,rfl,m,A,u,s1,aC,hd⟩
    |ret=>exact⟨.ret,aG,hI,μ1,rfl,m,A,u,s1,aC,hd⟩
   ·cases aa
  |region _ _ _=>simp only[dW,dH]at aa;split at aa<;>cases aa
  |seq _ _=>simp only[dW,dH]at aa;split at aa<;>cases aa
  |cond _ _ _=>simp only[dW,dH]at aa;split at aa<;>cases aa
  |loop _=>simp only[dW,dH]at aa;split at aa<;>cases aa
  |rangeFunc _ _ _ _=>simp only[dW,dH]at aa;split at aa<;>first|cases aa|(split at aa<;>cases aa)
  |_=>cases aa
 |loop mod tmp au E=>
  intro c K e h r a w μ aa q B ad cJ s
  simp only[lQ,dn]at q
  cases c with
  |loop c2=>
   simp only[dW,dH]at aa
   split at aa
   ·rename_i f1 h1
    cases aa
    simp only[hX]at ad
    generalize jG:(λ(cont:List Value->aX->Option R) (vs:List Value) (h:aX)=>hX Γ fuel au (λo e h=>match o with|.normal=>cont (getMany e mod) h|.exit i=>K (.exit i) e h|.ret=>K .ret e h) (fM (kn e tmp) mod vs) h)=bL at ad
    let G:Nat->Act->World->Prop:=λk C bC=>∃vs h1 μ1,o4 bL k vs h1=y r/\g_ μ1 (fM (kn e tmp) mod vs) C N/\cS P μ1 h1 bC/\Ext μ h w μ1 h1 bC/\nF w.heap.size μ1 h1 bC a.defers C.defers
    refine wpIn_loop (λC bC=>∃k,G k C bC) (λC bC=>yV λk=>G k C bC) ⟨fuel,getMany e mod,h,μ,ad,cJ.lS (wg (λt _=>rfl)),s,Ext.refl _ _ _ s.cl,nF.rfl⟩ ?_
    rintro C bC ⟨aI,aB⟩
    obtain⟨ax,_⟩:=Nc (p:=λk=>G k C bC) aB
    generalize yV (λk=>G k C bC)=k at ax|-
    obtain⟨vs,hI,μ1,H,u,s1,aC,W⟩:=ax
    cases k with
    |zero=>cases H
    |succ k=>
     simp only[o4]at H
     rw[<-jG]at H
     simp only at H
     rw[jG]at H
     refine tO (E c2 _ _ hI r C bC μ1 h1 q.2 (B.imp (λh=>h) λh=>h) H u s1) ?_
     rintro b6 T cU ⟨o,aF,I,J,rfl,m,D,L,O,b6,Q⟩
     have A:∀t,t∉mod++tmp->aF t=e t:=λt aR=>(D t (λh=>aR (Bw q.1 t h))).trans (yT aR)
     have X:=aC.trans b6 s.cl
     cases o with
     |normal=>
      have ah:G k T cU:=⟨getMany aF mod,I,J,m,L.lS (wg A),O,X,W.trans b6 Q aC.size⟩
      exact⟨⟨k,ah⟩,Nat.lt_succ_of_le (Nc (p:=λk=>G k T cU) ah).2⟩
     |exit i=>exact⟨.exit i,aF,I,J,rfl,m,A,L,O,X,W.trans b6 Q aC.size⟩
     |ret=>exact⟨.ret,aF,I,J,rfl,m,A,L,O,X,W.trans b6 Q aC.size⟩
   ·cases aa
  |region _ _ _=>simp only[dW,dH]at aa;split at aa<;>cases aa
  |seq _ _=>simp only[dW,dH]at aa;split at aa<;>cases aa
  |cond _ _ _=>simp only[dW,dH]at aa;split at aa<;>cases aa
  |block _ _=>simp only[dW,dH]at aa;split at aa<;>cases aa
  |rangeFunc _ _ _ _=>simp only[dW,dH]at aa;split at aa<;>first|cases aa|(split at aa<;>cases aa)
  |_=>cases aa
 |exit i=>
  intro c K e h r a w μ aa q B ad cJ s
  cases c with
  |exit j=>cases aa;exact wpIn_exit ⟨.exit i,e,h,μ,rfl,ad,λ_ _=>rfl,cJ,s,Ext.refl _ _ _ s.cl,nF.rfl⟩
  |region _ _ _=>simp only[dW,dH]at aa;split at aa<;>cases aa
  |seq _ _=>simp only[dW,dH]at aa;split at aa<;>cases aa
  |cond _ _ _=>simp only[dW,dH]at aa;split at aa<;>cases aa
  |block _ _=>simp only[dW,dH]at aa;split at aa<;>cases aa
  |loop _=>simp only[dW,dH]at aa;split at aa<;>cases aa
  |rangeFunc _ _ _ _=>simp only[dW,dH]at aa;split at aa<;>first|cases aa|(split at aa<;>cases aa)
  |_=>cases aa
 |ret=>
  intro c K e h r a w μ aa q B ad cJ s
  cases c with
  |ret=>exact wpIn_ret ⟨.ret,e,h,μ,rfl,ad,λ_ _=>rfl,cJ,s,Ext.refl _ _ _ s.cl,nF.rfl⟩
  |region _ _ _=>simp only[dW,dH]at aa;split at aa<;>cases aa
  |seq _ _=>simp only[dW,dH]at aa;split at aa<;>cases aa
  |cond _ _ _=>simp only[dW,dH]at aa;split at aa<;>cases aa
  |block _ _=>simp only[dW,dH]at aa;split at aa<;>cases aa
  |loop _=>simp only[dW,dH]at aa;split at aa<;>cases aa
  |rangeFunc _ _ _ _=>simp only[dW,dH]at aa;split at aa<;>first|cases aa|(split at aa<;>cases aa)
  |_=>cases aa
 |jW g dd bH aK aL aM aN=>
  intro c K e h r a w μ aa q B ad cJ s
  cases c with
  |rangeFunc g' aQ as aS=>
   simp only[lQ,dn]at q
   simp only[dW,dH]at aa
   split at aa
   ·rename_i aT aU ae h1 h2
    split at aa
    ·rename_i S
     cases aa
     exact W3 Y Z S.1 S.2.1 ⟨h1,q.1,S.2.2.1⟩ ⟨h2,q.2,S.2.2.2⟩ ae (B.resolve_right (by simp [mP,dH])) ad cJ s
    ·cases aa
   ·cases aa
  |region _ _ _=>simp only[dW,dH]at aa;split at aa<;>cases aa
  |seq _ _=>simp only[dW,dH]at aa;split at aa<;>cases aa
  |cond _ _ _=>simp only[dW,dH]at aa;split at aa<;>cases aa
  |block _ _=>simp only[dW,dH]at aa;split at aa<;>cases aa
  |loop _=>simp only[dW,dH]at aa;split at aa<;>cases aa
  |_=>cases aa
end Go.bF
namespace Go.bF
variable {P : Program}
def By(P:Program):ResultVar->Option tW
 |.tmp t=>y (.tmp t)
 |.cell a t=>match jb P t with
  |some (agg,n)=>y (.cell a agg n)
  |none=>none
structure Bz(P:Program)(f:dU)(fn:Func)(c:Code)(F:rK):Prop where
 at_:P.funcs[f]?=y fn
 body:fn.body=y c
 name : (fn.name == "runtime.NumGoroutine") = M
 code:dW P fn.ntmps c=y (dH F.code)
 ok:lQ F.code=V
 oi:F.oi<=fn.ntmps
 results:fn.results.toList.mapM (By P)=y F.results
theorem W4{α β:Type}{f:α->Option β}{x:α}{l:List α}{r:List β}(h:(x::l).mapM f=y r):∃au ys,f x=y au/\l.mapM f=y ys/\r=au::ys:=by
 rw[List.mapM_cons]at h
 cases ae:f x with
 |none=>rw[ae]at h;cases h
 |some au=>
  rw[ae]at h
  cases ax:l.mapM f with
  |none=>rw[ax]at h;cases h
  |some ys=>rw[ax]at h;cases h;exact⟨au,ys,rfl,rfl,rfl⟩
theorem W5{R:Type}{μ:Ren}{e:bP}{h:aX}{w:World}{tmps:Array Value}(s:cS P μ h w)(j:∀i,bp μ (e i) (tmps.getD i undef)):
 ∀(b:List ResultVar) (rs:List tW) (k:List Value->Option R) (r:R),b.mapM (By P)=y rs->pU rs e h k=y r->
  ∃vs ck,k vs=y r/\cB μ vs ck/\∀f:ResultVar->Sem Value,(∀t,f (.tmp t)=pure (tmps.getD t undef))->(∀a t,f (.cell a t)=(do loadVar t (<-asAddr (tmps.getD a undef))))->(b.mapM f).run P w=.ok ck w:=by
 intro b
 induction b with
 |nil=>
  intro rs k r aa ad
  cases aa
  exact⟨[],[],ad,.nil,λ_ _ _=>rfl⟩
 |cons x b a6=>
  intro rs k r aa ad
  obtain⟨au,ys,ae,ax,rfl⟩:=W4 aa
  cases x with
  |tmp t=>
   cases ae
   simp only[pU]at ad
   obtain⟨vs,ck,h1,h2,ak⟩:=a6 ys _ r ax ad
   refine⟨_,_,h1,.cons (j t) h2,λf c g=>?_⟩
   rw[List.mapM_cons]
   simp only[c,eN,gx,et,ak f c g]
  |cell t ty=>
   simp only[By]at ae
   split at ae
   ·rename_i agg n p
    cases ae
    simp only[pU,cX]at ad
    obtain⟨v,ay,ad⟩:=ad
    obtain⟨vs,ck,h1,h2,ak⟩:=a6 ys _ r ax ad
    obtain⟨d,i,hd,ai,ha,aA,av⟩:=nE p
    obtain⟨v',m,q⟩:=Ml s (j t) ay hd ai ha aA
    refine⟨_,_,h1,.cons q h2,λf c g=>?_⟩
    rw[List.mapM_cons]
    have o:(do loadVar ty (<-asAddr (tmps.getD t undef)):Sem Value).run P w=.ok v' w:=by
     have l:=j t
     unfold oh at ay
     split at ay
     ·rename_i heq
      rw[heq]at l
      generalize ba:tmps.getD t undef=Bc at l m
      cases l with
      |ptr af=>
       simpa only[Instr.loadAt,Instr.sureAddr,asAddr,eN,gx,et]using m
     ·cases ay
    simp only[g,eN,gx,et]at o|-
    rw[o]
    simp only[ak f c g,et]
   ·cases ae
theorem W6{μ aY:Ren}{h h':aX}{w b':World}{r v:Value}(s:cS P μ h w)(ay:bp aY r v)(b:cS P aY h' b')(x:Ext μ h w aY h' b'):
 ∃μ1,bp μ1 r v/\cS P μ1 (gc r h h') b'/\Ext μ h w μ1 (gc r h h') b':=by
 exact⟨aY,ay,b,x⟩
theorem W7{μ:Ren}{vs ck:List Value}(h:cB μ vs ck):bp μ (single vs) (if h:ck.toArray.size=1 then ck.toArray[0]else .tuple ck.toArray):=by
 cases h with
 |nil=>exact .tuple .nil
 |cons h aB=>
  cases aB with
  |nil=>exact h
  |cons h' b=>
   simp only[single,List.size_toArray,jS]
   rw[dif_neg (by omega)]
   exact .tuple (.cons h (.cons h' b))
theorem Ie {f : dU} {fn : Func} {c : Code} {xs : Array Value} {w : World} (h1 : P.funcs[f]? = y fn) (h2 : fn.body = y c) (ak : (fn.name == "runtime.NumGoroutine") = M) :
 (callFunc f xs).run P w=.ok (.enter f xs) w:=by
 have b : ¬ fn.name = "runtime.NumGoroutine" := by simpa using ak
 simp [callFunc,go_sem,h1,h2,b]
theorem cS.Ig{μ:Ren}{h:aX}{w:World}(s:cS P μ h w){r:Nat}(o:Obj)(c:∀b l,live h b->μ b=y l->l.blk≠r):cS P μ h (w.putObj r o):=
 ⟨s.cl,λb l blk e af aA=>by
  obtain⟨o',g,i⟩:=s.rel b l blk e af aA
  exact⟨o',by rw[L3 (c b l ⟨_,af,aA⟩ e)];exact g,i⟩,s.inj,λb l e=>by have:=s.lt b l e;simpa [vi]using this⟩
theorem Ext.Ig{μ aY:Ren}{h h':aX}{w b':World}(s:cS P μ h w)(x:Ext μ h w aY h' b'){r:Nat}(o:Obj)(an:w.heap.size<=r):Ext μ h w aY h' (b'.putObj r o):=
 ⟨⟨x.le,x.e1,by have:=x.size;simpa [vi]using this,λc aa aA=>by rw[L3 (by omega)];exact x.frame c aa aA,λb l e g=>by
   have:=s.lt b l e
   rw[L3 (by omega)];exact x.ro b l e g,x.pW,x.new,x.dead,⟨x.out.1,x.out.2.1,x.out.2.2⟩⟩,x.pX⟩
theorem Nd{F:Fence}{n:Nat}{fn:Func}{tmps:Array Value}{Q:Ending->World->Prop}{ei μ:Ren}{av h:aX}{w0:World}(c:cS P ei av w0)
 (iC:∀b',cS P μ h b'->Ext ei av w0 μ h b'->∃v,(results fn tmps).run P b'=.ok v b'/\Q (.returned v) b'):
 ∀(rs:List Nat) (w:World),cS P μ h w->Ext ei av w0 μ h w->rs.Nodup->(∀r∈rs,w0.heap.size<=r/\w.heap[r]?=y (.deferred (y []))/\∀b l,live h b->μ b=y l->l.blk≠r)->
  LeavesInM F n P fn tmps Q (rs.map λr=>{ target:=.collected r,args:=#[] }) .returning w:=by
 intro rs
 induction rs with
 |nil=>intro w s x _ _;exact iC w s x
 |cons r rs a6=>
  intro w s x aA an
  obtain⟨bw,bD,da⟩:=an r (by simp)
  refine⟨by simp,.inl ⟨r,_,rfl,run_takeDeferred bD,a6 _ (s.Ig _ da) (x.Ig c _ bw) (List.nodup_cons.1 aA).2 λdO gQ=>?_⟩⟩
  obtain⟨g,i,j3⟩:=an dO (by simp [gQ])
  have j:dO≠r:=λe=>(List.nodup_cons.1 aA).1 (by rw[<-e];exact gQ)
  exact⟨g,by rw[L3 j];exact i,j3⟩
theorem W8{f:dU}{fn:Func}{c:Code}{g:rK}{Γ:Callee}{fuel:Nat}(A:P.follows .mixedOrders=V)(ok:Bz P f fn c g)(B:jd P Γ)
 {args:List Value} {h h1:aX} {r:Value} (ad:rL Γ fuel g args h=y (r,h1)):
 (∀(xs:Array Value) (w:World),(callFunc f xs).run P w=.ok (.enter f xs) w)/\
 ∀(μ:Ren) (w:World) (b:List Value),cS P μ h w->cB μ args b->∀(F:Fence) (n:Nat),kH F->
  CallsIn F n P f b.toArray w λe b'=>∃v μ1,e=.returned v/\bp μ1 r v/\cS P μ1 h1 b'/\Ext μ h w μ1 h1 b':=by
 refine⟨λxs w=>Ie ok.at_ ok.body ok.name,λμ w b s q F n t=>?_⟩
 show CallsIn F.plain n P f b.toArray w _
 unfold rL at ad
 cases aA:cM args.length g.oi with
 |false=>rw[aA]at ad;cases ad
 |true=>
  rw[aA]at ad
  simp only[gG]at ad
  have bz:=hW aA
  have C:=q.length
  have D:=ok.oi
  refine callsIn_of_wp_marks ok.at_ ok.body (t.1 f) ?_ rfl
  refine tO (Ib (F:=F.plain) (n:=n) (N:=fn.ntmps) (fuel:=fuel) t A B g.code c _ (yt args) h (r,h1) _ w μ ok.code ok.ok (.inl rfl) ad ⟨?_,?_⟩ s) ?_
  ·simp only[Array.size_append,Array.size_replicate,List.size_toArray]
   omega
  ·intro i
   simp only[yt]
   by_cases ai:i<args.length
   ·have l:i<b.length:=by omega
    have bG:(b.toArray++AK (fn.ntmps-b.toArray.size) undef).getD i undef=b[i]:=by
     rw[nt,Array.getElem?_append_left (by simpa using l)]
     simp [l]
    rw[bG]
    obtain⟨au,ba,an⟩:=q.get (fJ ai)
    rw[fJ l]at ba
    cases ba
    rw[iN,fJ ai]
    exact an
   ·have bG:(b.toArray++AK (fn.ntmps-b.toArray.size) undef).getD i undef=undef:=by
     rw[nt,Array.getElem?_append_right (by simp;omega),Array.getElem?_replicate]
     split<;>rfl
    rw[bG,iN,eE (by omega)]
    exact .undef
  ·have fin:∀{e':bP} {h':aX} {aY:Ren} {a':Act} {b':World},(pU g.results e' h' λvs=>y (single vs,gc (single vs) h h'))=y (r,h1)->g_ aY e' a' fn.ntmps->cS P aY h' b'->Ext μ h w aY h' b'->
    ∃v,(results fn a'.tmps).run P b'=.ok v b'/\∃v' μ1,Ending.returned v=.returned v'/\bp μ1 r v'/\cS P μ1 h1 b'/\Ext μ h w μ1 h1 b':=by
    intro e' h' aY a' b' j cJ s1 aC
    obtain⟨vs,ck,h2,ak,aJ⟩:=W5 s1 cJ.rel _ _ _ _ ok.results j
    cases h2
    obtain⟨μ1,aO,bt,ct⟩:=W6 s (W7 ak) s1 aC
    refine⟨_,?_,_,μ1,rfl,aO,bt,ct⟩
    unfold results
    rw[Array.mapM_eq_mapM_toList]
    rw[eN,Sem.run_map,aJ _ (λ_=>rfl) (λ_ _=>rfl)]
    simp only[gx,et]
   rintro aC u bC ⟨o,aG,hI,μ1,rfl,j,E,k,s1,aC,rs,hd,x,z⟩
   rw[fD]at hd
   cases o with
   |normal=>
    show LeavesInM _ _ _ _ _ _ u.defers .returning bC
    rw[hd]
    exact Nd s (λb' m p=>fin j ⟨k.size,k.rel⟩ m p) rs bC s1 aC x z
   |ret=>
    show LeavesInM _ _ _ _ _ _ u.defers .returning bC
    rw[hd]
    exact Nd s (λb' m p=>fin j ⟨k.size,k.rel⟩ m p) rs bC s1 aC x z
   |exit i=>cases j
theorem Nf{e e':bP}:∀{l:List Nat} {vs:List Value} {i:Nat},e i=e' i->fM e l vs i=fM e' l vs i
 |[],_,_,h=>h
 |p::l,vs,i,h=>by
  simp only[fM,bQ]
  rw[Nf h]
theorem Ng{e:bP}:∀{l:List Nat} {vs:List Value} {i:Nat},i∉l->fM e l vs i=e i
 |[],_,_,_=>rfl
 |p::l,vs,i,h=>by
  simp only[fM]
  rw[cE _ _ (λe=>h (by simp [e])),Ng (λhm=>h (by simp [hm]))]
theorem Nh{μ:Ren}:∀(bH:List Nat) (vs ck:List Value) (e:bP) (tmps:Array Value),cB μ vs ck->bH.length=vs.length->bH.Nodup->(∀p∈bH,p<tmps.size)->(∀i,bp μ (e i) (tmps.getD i undef))->
 ∀i,bp μ (fM e bH vs i) (((bH.zip ck).foldl (λtmps x=>tmps.setIfInBounds x.1 x.2) tmps).getD i undef)
 |[],vs,ck,e,tmps,ay,_,_,_,an,i=>by simpa [fM]using an i
 |p::bH,[],ck,e,tmps,ay,ax,_,_,an,i=>by simp at ax
 |p::bH,v::vs,ck,e,tmps,ay,ax,aA,af,an,i=>by
  cases ay with
  |@cons _ au _ ys h1 h2=>
   have c:=List.nodup_cons.1 aA
   have g:p<tmps.size:=af p (by simp)
   have a6:=Nh bH vs ys (bQ e p v) (tmps.setIfInBounds p au) h2 (by simpa using ax) c.2 (λq br=>by rw[Array.size_setIfInBounds];exact af q (by simp [br])) (λj=>by
    by_cases b:j=p
    ·subst b
     rw[pb]
     simp only[nt,Vz g,ob]
     exact h1
    ·rw[cE _ _ (λh=>b h.symm)]
     have:=an j
     simp only[nt]at this|-
     rw[x1 (λh=>b h.symm)]
     exact this) i
   simp only[List.zip_cons_cons,ve]
   have aG:fM e (p::bH) (v::vs) i=fM (bQ e p v) bH vs i:=by
    simp only[fM,List.tail_cons,List.headD_cons]
    by_cases ai:i=p
    ·subst ai
     rw[pb,Ng c.1,pb]
    ·rw[cE _ _ (λh=>ai h.symm)]
     exact Nf (by rw[cE _ _ (λh=>ai h.symm)])
   rw[aG]
   exact a6
theorem Ni:∀(l:List (Nat×Value)) (tmps:Array Value),(l.foldl (λtmps x=>tmps.setIfInBounds x.1 x.2) tmps).size=tmps.size
 |[],_=>rfl
 |x::l,tmps=>by rw[ve,Ni l,Array.size_setIfInBounds]
theorem W9{μ:Ren}{h h1:aX}{w:World}{b c K:Nat}{o:fN}{r:Value}(s:cS P μ h w)(e:μ b=y ⟨c,K⟩)(ad:endRound b o h=y (r,h1)):
 ∃v b',(Instr.endRound c (match o with|.normal=>none|.exit i=>y (.exit i)|.ret=>y .ret)).run P w=.ok v b'/\bp μ r v/\cS P μ h1 b'/\Ext μ h w μ h1 b':=by
 unfold endRound at ad
 split at ad
 ·rename_i dg dd bH g j eg af
  obtain⟨q,k,l,rfl,bw,bD,da,c1,fE,m,gI,n⟩:=s.rel _ _ _ e af (by simp)
  have p:¬lp h b:=by rintro⟨vs,t,aF⟩;rw[af]at aF;cases aF
  cases o with
  |normal=>
   cases ad
   obtain⟨bI,b0⟩:=s.vX (blk':=.loop dg dd bH g j .ready none) (o':=.loop { l with state:=.ready,pending:=none }) e af (by simp) p (by simp) (by simp) ⟨_,rfl,rfl,rfl,da,c1,fE,m,gI,n⟩
   exact⟨_,_,run_endRound none k,.bool _,bI,b0⟩
  |exit i=>
   cases ad
   obtain⟨bI,b0⟩:=s.vX (blk':=.loop dg dd bH g j .done (y (.exit i))) (o':=.loop { l with state:=.done,pending:=y (.exit i) }) e af (by simp) p (by simp) (by simp) ⟨_,rfl,rfl,rfl,da,c1,fE,m,gI,n⟩
   exact⟨_,_,run_endRound (y (.exit i)) k,.bool _,bI,b0⟩
  |ret=>
   cases ad
   obtain⟨bI,b0⟩:=s.vX (blk':=.loop dg dd bH g j .done (y .ret)) (o':=.loop { l with state:=.done,pending:=y .ret }) e af (by simp) p (by simp) (by simp) ⟨_,rfl,rfl,rfl,da,c1,fE,m,gI,n⟩
   exact⟨_,_,run_endRound (y .ret) k,.bool _,bI,b0⟩
 ·cases ad
theorem W_{Γ:Callee}{fuel:Nat}(C:P.follows .mixedOrders=V)(D:jd P Γ){b:Nat}{args:List Value}{h h1:aX}{r:Value}(ad:qI Γ fuel (iO b 0::args) h=y (r,h1)):
 ∀(μ:Ren) (w:World) (j:List Value) (c K:Nat),cS P μ h w->cB μ args j->μ b=y ⟨c,K⟩->
  ∃fn tmps as E,(Instr.yield c j.toArray).run P w=.ok (.round c fn tmps as E) w/\∀(F:Fence) (n:Nat),kH F->
   RoundIn F n P c fn tmps as E w λe b'=>∃v μ1,e=.returned v/\bp μ1 r v/\cS P μ1 h1 b'/\Ext μ h w μ1 h1 b':=by
 intro μ w j c K s G e
 unfold qI iO at ad
 simp only at ad
 split at ad
 ·rename_i dg dd bH L O eg af
  cases aA:cM args.length bH.length with
  |false=>rw[aA]at ad;cases ad
  |true=>
   rw[aA]at ad
   simp only[gG]at ad
   have bz:=hW aA
   obtain⟨ay,Q,g,rfl,bw,bD,da,c1,fE,u,gI,R⟩:=s.rel _ _ _ e af (by simp)
   have H:g.params=bH.toArray:=mL (by simpa using da)
   have aB:=G.length
   have c7:j.toArray.size=g.params.size:=by rw[H];simp;omega
   refine⟨_,_,_,_,run_yield Q c7,λF n I=>roundIn_of_wpIn (I.1 _) ?_⟩
   have bu:((g.params.zip j.toArray).foldl (λtmps (t,a)=>tmps.setIfInBounds t a) g.tmps)=((bH.zip j).foldl (λtmps x=>tmps.setIfInBounds x.1 x.2) g.tmps):=by
    rw[H]
    simp [<-Array.foldl_toList]
   rw[bu]
   have J:kH (F.inRound c):=I
   have S:g_ μ (fM (fM (λ_=>dR) dd dg) bH args) { tmps:=(bH.zip j).foldl (λtmps x=>tmps.setIfInBounds x.1 x.2) g.tmps,defers:=[] } g.tmps.size:=
    ⟨Ni _ _,Nh bH args j _ _ G bz.symm fE (λp ah=>by simpa using List.all_eq_true.1 c1 p ah) R⟩
   refine tO (Ib (F:=F.inRound c) (n:=n) (N:=g.tmps.size) (fuel:=fuel) J C D L g.assign _ _ h (r,h1) _ w μ u.1 u.2.1 (.inr u.2.2) ad S s) ?_
   rintro aC aD bC ⟨o,aG,hI,μ1,rfl,k,aE,T,s1,aC,hd⟩
   cases o with
   |exit i=>cases k
   |ret=>cases k
   |normal=>
    simp only[cX]at k
    obtain⟨h2,l,k⟩:=k
    unfold beginRound at l
    split at l
    ·rename_i U W X Y Z aa z
     cases l
     have m:μ1 b=y ⟨c,K⟩:=(aC.e1 b (s.cl b _ e)).trans e
     obtain⟨aH,ab,ac,rfl,ae,ai,j3,al,am,an,ao,ap⟩:=s1.rel _ _ _ m z (by simp)
     have aq:¬lp hI b:=by rintro⟨vs,aI,aF⟩;rw[z]at aF;cases aF
     obtain⟨bI,b0⟩:=s1.vX (blk':=.loop U W X Y Z .busy aa) (o':=.loop { ac with state:=.busy }) m z (by simp) aq (by simp) (by simp) ⟨_,rfl,rfl,ai,j3,al,am,an,ao,ap⟩
     refine⟨_,run_beginRound ab ae,?_⟩
     refine tO (Ib (F:=F.inRound c) (n:=n) (N:=g.tmps.size) (fuel:=fuel) J C D O g.body _ _ _ (r,h1) _ _ μ1 gI.1 gI.2.1 (.inr gI.2.2) k T bI) ?_
     rintro gH a3 aJ ⟨ar,aK,ak,q,rfl,au,aL,aM,av,gH,aN⟩
     have ax:q b=y ⟨c,K⟩:=(gH.e1 b (by have:=s1.cl b _ m;simpa using this)).trans m
     obtain⟨v,A,cL,cN,dT,fO⟩:=W9 av ax au
     have B:=aC.trans (b0.trans (gH.trans fO bI.cl) s1.cl) s.cl
     cases ar with
     |normal=>exact⟨v,A,cL,v,q,rfl,cN,dT,B⟩
     |exit i=>exact⟨v,A,cL,v,q,rfl,cN,dT,B⟩
     |ret=>exact⟨v,A,cL,v,q,rfl,cN,dT,B⟩
    ·cases l
 ·cases ad
def rR(P:Program)(T:jF):Prop:=∀f b,T.get f=y b->∃fn c,Bz P f fn c b
theorem W':rR P []:=λf b h=>by cases h
theorem Xa{g:dU}{F:rK}{T:jF}{fn:Func}{c:Code}(h:Bz P g fn c F)(aR:rR P T):rR P ((g,F)::T):=by
 intro f b aE
 unfold jF.get at aE
 cases af:cM g f with
 |true=>
  rw[af]at aE
  cases aE
  have:=hW af
  subst this
  exact⟨fn,c,h⟩
 |false=>rw[af]at aE;exact aR f b aE
theorem Nj{f:dU}(h:fX f dX=V):cM f dX=M:=by
 cases af:cM f dX with
 |false=>rfl
 |true=>
  have:=hW af
  subst this
  exact absurd h (by decide)
theorem BA{aL:Callee}{T:jF}(e:P.follows .mixedOrders=V)(g:rR P T)(av:jd P aL):∀n,jd P (iq aL T n)
 |0=>⟨λf aE args h r h1 ad=>by
   unfold iq at ad
   rw[Nj aE]at ad
   simp only[mg]at ad
   split at ad
   ·cases ad
   ·exact av.fn f aE args h r h1 ad,
  λb args h r h1 ad=>by
   unfold iq at ad
   rw[qF]at ad
   cases ad⟩
 |n+1=>⟨λf aE args h r h1 ad=>by
   unfold iq at ad
   rw[Nj aE]at ad
   simp only[mg]at ad
   split at ad
   ·rename_i F i
    obtain⟨fn,c,ok⟩:=g f F i
    exact W8 e ok (BA e g av n) ad
   ·exact av.fn f aE args h r h1 ad,
  λb args h r h1 ad=>by
   unfold iq at ad
   rw[qF]at ad
   exact W_ e (BA e g av n) ad⟩
theorem Ih{aL:Callee}{T:jF}{f:dU}{args:List Value}{h:aX}{r:Value×aX}(ad:run aL T f args h=y r):∃n,iq aL T n f args h=y r:=by
 unfold run at ad
 split at ad
 ·exact⟨_,ad⟩
 ·cases ad
theorem Xb{aL:Callee}{T:jF}(c:P.follows .mixedOrders=V)(e:rR P T)(av:jd P aL):jd P (run aL T):=by
 refine⟨λf aE args h r h1 ad=>?_,λb args h r h1 ad=>?_⟩
 ·obtain⟨n,aA⟩:=Ih ad
  exact(BA c e av n).fn f aE args h r h1 aA
 ·obtain⟨n,aA⟩:=Ih ad
  exact(BA c e av n).yield b args h r h1 aA
end Go.bF
namespace Go.bF
def cT{α:Type}(xs:Nat->Option α)(x:Option α):Prop:=∀r,x=y r->∃m,∀k,m<=k->xs k=y r
theorem cT.const{α:Type}(x:Option α):cT (λ_=>x) x:=λr h=>⟨0,λ_ _=>h⟩
theorem cT.bind{α β:Type}{xs:Nat->Option α}{x:Option α}{eR:Nat->α->Option β}{f:α->Option β}(h:cT xs x)(aE:∀a,cT (λk=>eR k a) (f a)):
 cT (λk=>(xs k).bind (eR k)) (x.bind f):=by
 intro r an
 rw[cX]at an
 obtain⟨a,ha,an⟩:=an
 obtain⟨m1,h1⟩:=h a ha
 obtain⟨m2,h2⟩:=aE a r an
 refine⟨max m1 m2,λk ad=>?_⟩
 show(xs k).bind (eR k)=y r
 rw[h1 k (by omega)]
 exact h2 k (by omega)
variable {R : Type}
theorem Xc{b:Nat->Callee}{Γ:Callee}(c:∀f args h,cT (λk=>b k f args h) (Γ f args h))(f:Value)(args:List Value)(h:aX):cT (λk=>o3 (b k) f args h) (o3 Γ f args h):=by
 unfold o3
 split
 ·rename_i g xs ys
  cases fX g dX
  ·exact cT.const _
  ·exact c _ _ _
 ·exact c _ _ _
 ·exact cT.const _
theorem Xd{b:Nat->Callee}{Γ:Callee}(c:∀f args h,cT (λk=>b k f args h) (Γ f args h))(f:Value)(args:List Value)(h:aX):cT (λk=>sH (b k) f args h) (sH Γ f args h):=by
 unfold sH
 split
 ·rename_i g xs ys
  cases fX g dX
  ·exact cT.const _
  ·exact c _ _ _
 ·exact cT.const _
theorem Xe{b:Nat->Callee}{Γ:Callee}(c:∀f args h,cT (λk=>b k f args h) (Γ f args h))(o:fY)(e:bP)(h:aX)
 {dc:Nat->Value->aX->Option R} {k:Value->aX->Option R} (ad:∀v h,cT (λi=>dc i v h) (k v h)):cT (λi=>dh (b i) o e h (dc i)) (dh Γ o e h k):=by
 cases o with
 |call f args=>exact(c f _ h).bind λp=>ad _ _
 |im f args=>
  simp only[dh]
  exact(Xc c _ _ _).bind λp=>ad _ _
 |_=>
  simp only[dh]
  first
   |exact ad _ _
   |exact(cT.const _).bind λv=>ad _ _
   |exact cT.const _
theorem Xf(ef:lk)(e:bP)(h h':aX){b:Nat->Option R}{m:Option R}(hm:cT b m):cT (λk=>nz ef e h h' (b k)) (nz ef e h h' m):=by
 cases ef with
 |no=>exact hm
 |calm=>
  simp only[nz,yo]
  split
  ·exact hm
  ·exact cT.const _
 |hH bH=>
  simp only[nz]
  split
  ·exact hm
  ·exact cT.const _
theorem Xg{g:Nat->Callee}{Γ:Callee}(j:∀f args h,cT (λk=>g k f args h) (Γ f args h)):
 ∀(s:mi) {Ks:Nat->bP->aX->Option R} {K:bP->aX->Option R},(∀e h,cT (λk=>Ks k e h) (K e h))->∀(e:bP) (h:aX),cT (λk=>kE (g k) s (Ks k) e h) (kE Γ s K e h):=by
 intro s
 induction s with
 |nil=>intro Ks K b e h;exact b e h
 |op dst o ef rest a6=>
  intro Ks K b e h
  exact Xe j o e h λv h'=>Xf ef e h h' (a6 b _ _)
 |ll dst c hi tmp body au rest l i=>
  intro Ks K b e h
  simp only[kE,A0,A2]
  split
  ·split
   ·exact l (λe' h'=>i b _ _) _ _
   ·exact i b _ _
  ·exact cT.const _
theorem Nk{e:Nat->(List Value->aX->Option R)->List Value->aX->Option R}{bL:(List Value->aX->Option R)->List Value->aX->Option R}
 (jG:∀(cs:Nat->List Value->aX->Option R) (c:List Value->aX->Option R),(∀vs h,cT (λk=>cs k vs h) (c vs h))->∀vs h,cT (λk=>e k (cs k) vs h) (bL c vs h)):
 ∀(n:Nat) (b:Nat->Nat),(∃m,∀k,m<=k->n<=b k)->∀vs h,cT (λk=>o4 (e k) (b k) vs h) (o4 bL n vs h)
 |0,b,g,vs,h=>by intro r an;cases an
 |n+1,b,⟨m,hm⟩,vs,h=>by
  intro r an
  obtain⟨m2,h2⟩:=jG (λk=>o4 (e k) (b k-1)) (o4 bL n) (λvs h=>Nk jG n (λk=>b k-1) ⟨m,λk ad=>by have:=hm k ad;omega⟩ vs h) vs h r an
  refine⟨max m m2,λk ad=>?_⟩
  have ak:=hm k (by omega)
  obtain⟨j,g⟩:∃j,b k=j+1:=⟨b k-1,by omega⟩
  show o4 (e k) (b k) vs h=y r
  rw[g]
  have aJ:e k (o4 (e k) (b k-1)) vs h=y r:=h2 k (by omega)
  rw[g]at aJ
  exact aJ
theorem Ii{q:Nat->Callee}{Γ:Callee}(t:∀f args h,cT (λk=>q k f args h) (Γ f args h))(n:Nat):
 ∀(c:ln) {Ks:Nat->fN->bP->aX->Option R} {K:fN->bP->aX->Option R},(∀o e h,cT (λk=>Ks k o e h) (K o e h))->∀(e:bP) (h:aX),cT (λk=>hX (q k) k c (Ks k) e h) (hX Γ n c K e h):=by
 intro c
 induction c with
 |skip=>intro Ks K j e h;exact j _ _ _
 |region d s=>intro Ks K j e h;exact Xg t s (λe h=>j _ _ _) e h
 |seq a b l m=>
  intro Ks K j e h
  refine l (λo e h=>?_) e h
  cases o with
  |normal=>exact m j e h
  |exit i=>exact j _ _ _
  |ret=>exact j _ _ _
 |cond c mod tmp a b l m=>
  intro Ks K j e h
  simp only[hX,sI,A3]
  split
  ·split
   ·refine l (λo e h=>?_) e h
    cases o with
    |normal=>exact j _ _ _
    |exit i=>exact j _ _ _
    |ret=>exact j _ _ _
   ·refine m (λo e h=>?_) e h
    cases o with
    |normal=>exact j _ _ _
    |exit i=>exact j _ _ _
    |ret=>exact j _ _ _
  ·exact cT.const _
 |block id mod tmp c a6=>
  intro Ks K j e h
  simp only[hX,sI]
  refine a6 (λo e h=>?_) e h
  cases o with
  |normal=>exact j _ _ _
  |exit i=>simp only[];cases cM i id<;>exact j _ _ _
  |ret=>exact j _ _ _
 |loop mod tmp c a6=>
  intro Ks K j e h
  simp only[hX]
  refine Nk (λcs c aa vs h=>?_) n (λk=>k) ⟨n,λk ad=>ad⟩ _ _
  refine a6 (λo e h=>?_) _ _
  cases o with
  |normal=>exact aa _ _
  |exit i=>exact j _ _ _
  |ret=>exact j _ _ _
 |exit i=>intro Ks K j e h;exact j _ _ _
 |ret=>intro Ks K j e h;exact j _ _ _
 |jW g dd bH u w l m=>
  intro Ks K j e h
  simp only[hX]
  refine(Xd t _ _ _).bind λp=>(cT.const _).bind λo=>?_
  cases o with
  |none=>exact j _ _ _
  |some x=>exact j _ _ _
theorem Nl{b:Nat->Callee}{Γ:Callee}(c:∀f args h,cT (λk=>b k f args h) (Γ f args h))(n:Nat)(args:List Value)(h:aX):cT (λk=>qI (b k) k args h) (qI Γ n args h):=by
 unfold qI
 split
 ·split
  ·rename_i cm vs x dg dd bH g j eg af
   cases cM vs.length bH.length with
   |false=>exact cT.const _
   |true=>
    simp only[gG]
    refine Ii c n g (λo e h1=>?_) _ _
    cases o with
    |normal=>exact(cT.const _).bind λh2=>Ii (Ks:=λ_ o _ ak=>endRound cm o ak) (K:=λo _ ak=>endRound cm o ak) c n j (λo _ ak=>cT.const _) e h2
    |exit i=>exact cT.const _
    |ret=>exact cT.const _
  ·exact cT.const _
 ·exact cT.const _
theorem Nn{b:Nat->Callee}{Γ:Callee}(c:∀f args h,cT (λk=>b k f args h) (Γ f args h))(n:Nat)(F:rK)(args:List Value)(h:aX):cT (λk=>rL (b k) k F args h) (rL Γ n F args h):=by
 simp only[rL]
 cases cM args.length F.oi with
 |false=>exact cT.const _
 |true=>
  simp only[gG]
  refine Ii c n F.code (λo e h'=>?_) _ _
  exact cT.const _
theorem yW{aL:Callee}{T:jF}:∀(n:Nat) (f:dU) (args:List Value) (h:aX),cT (λk=>iq aL T k f args h) (iq aL T n f args h)
 |0,f,args,h=>by
  intro r an
  unfold iq at an
  cases aE:cM f dX with
  |true=>rw[aE]at an;cases an
  |false=>
   rw[aE]at an
   simp only[mg]at an
   split at an
   ·cases an
   ·rename_i b
    refine⟨0,λk _=>?_⟩
    cases k<;>(simp only[iq,aE,mg,b];exact an)
 |n+1,f,args,h=>by
  intro r an
  unfold iq at an
  cases aE:cM f dX with
  |true=>
   rw[aE]at an
   simp only[gG]at an
   obtain⟨m,hm⟩:=Nl (yW n) n args h r an
   refine⟨m+1,λk ad=>?_⟩
   obtain⟨j,rfl⟩:∃j,k=j+1:=⟨k-1,by omega⟩
   simp only[iq,aE,gG]
   exact hm j (by omega)
  |false=>
   rw[aE]at an
   simp only[mg]at an
   split at an
   ·rename_i F b
    obtain⟨m,hm⟩:=Nn (yW n) n F args h r an
    refine⟨m+1,λk ad=>?_⟩
    obtain⟨j,rfl⟩:∃j,k=j+1:=⟨k-1,by omega⟩
    simp only[iq,aE,mg,b]
    exact hm j (by omega)
   ·rename_i b
    refine⟨0,λk _=>?_⟩
    cases k<;>(simp only[iq,aE,mg,b];exact an)
theorem No{aL:Callee}{T:jF}{n:Nat}{f:dU}{args:List Value}{h:aX}{r:Value×aX}(ad:iq aL T n f args h=y r):run aL T f args h=y r:=by
 have H:∃n,(iq aL T n f args h).isSome=V:=⟨n,by rw[ad];rfl⟩
 unfold run
 rw[dif_pos H]
 cases aa:iq aL T (L2 H) f args h with
 |none=>have:=Classical.choose_spec H;rw[aa]at this;cases this
 |some dO=>
  obtain⟨m1,h1⟩:=yW n f args h r ad
  obtain⟨m2,h2⟩:=yW _ f args h dO aa
  have aG:=h1 (max m1 m2) (by omega)
  have aF:=h2 (max m1 m2) (by omega)
  rw[<-aG,<-aF]
theorem Np{aL:Callee}{T:jF}(f:dU)(args:List Value)(h:aX):cT (λk=>iq aL T k f args h) (run aL T f args h):=by
 intro r an
 obtain⟨n,aA⟩:=Ih an
 exact yW n f args h r aA
theorem Xh{aL:Callee}{T:jF}{f:dU}{F:rK}(b:T.get f=y F)(n:Nat){args:List Value}{h:aX}{r:Value×aX}(ad:rL (run aL T) n F args h=y r)(aE:cM f dX=M:=by rfl):run aL T f args h=y r:=by
 obtain⟨m,hm⟩:=Nn Np n F args h r ad
 refine No (n:=m+1) ?_
 simp only[iq,aE,mg,b]
 exact hm m (cj _)
theorem Xi{aL:Callee}{T:jF}(n:Nat){args:List Value}{h:aX}{r:Value×aX}(ad:qI (run aL T) n args h=y r):run aL T dX args h=y r:=by
 obtain⟨m,hm⟩:=Nl Np n args h r ad
 refine No (n:=m+1) ?_
 simp only[iq,qF,gG]
 exact hm m (cj _)
end Go.bF
namespace Go.bF
abbrev Xj:=Option (Value×aX)
noncomputable def fin(av h:aX)(vs:List Value):Xj:=y (single vs,gc (single vs) av h)
def BB{R:Type}(o:Option fN)(a:Option R)(x:Nat->Option R)(r:Option R):Option R:=
 match o with
 |none=>a
 |some .normal=>a
 |some (.exit i)=>x i
 |some .ret=>r
theorem Xk{Γ:Callee}{n b:Nat}{dg vs:List Value}{dd bH:List Nat}{c g:ln}{eg:Option fN}{h:aX}(af:h[b]?=y (.loop dg dd bH c g .ready eg))(ax:cM vs.length bH.length=V):
 qI Γ n (iO b 0::vs) h=hX Γ n c (λo e h1=>match o with
  |.normal=>(beginRound b h1).bind λh2=>hX Γ n g (λo _ ak=>endRound b o ak) e h2
  |_=>none) (fM (fM (λ_=>dR) dd dg) bH vs) h:=by
 unfold qI iO
 simp only[af,ax,gG]
 congr 1
variable {P : Program}
def k1(W:World):Ren:=λb=>if b<W.heap.size then y ⟨b,0⟩else none
open Classical in
noncomputable def BC(W:World)(v:Value):Value:=if bp (k1 W) v v then v else dR
noncomputable def Ij(W:World):Obj->iB
 |.cells c elem _=>.cells (c.toList.map (BC W)) elem M
 |_=>.dead
noncomputable def kI(W:World):aX:=W.heap.toList.map (Ij W)
theorem Xl(W:World)(v:Value):bp (k1 W) (BC W v) v:=by
 unfold BC
 split
 ·assumption
 ·exact .dR v
theorem Xm{W:World}{v:Value}(h:bp (k1 W) v v):BC W v=v:=aP h
theorem wi{W:World}{b:Nat}{l:Loc}(h:k1 W b=y l):b<W.heap.size/\l=⟨b,0⟩:=by
 unfold k1 at h
 split at h
 ·cases h;exact⟨by assumption,rfl⟩
 ·cases h
theorem Ik(W:World)(b:Nat):(kI W)[b]?=(W.heap[b]?).map (Ij W):=by
 unfold kI
 rw[iM,Array.getElem?_toList]
theorem Xn(W:World):(kI W).length=W.heap.size:=by unfold kI;simp
theorem Xo(W:World):cS P (k1 W) (kI W) W where
 cl b l h:=by rw[Xn];exact(wi h).1
 rel b l blk h af hd:=by
  obtain⟨h1,rfl⟩:=wi h
  rw[Ik,du]at af
  obtain⟨o,g,rfl⟩:=af
  refine⟨o,g,?_⟩
  cases o with
  |cells c elem cJ=>
   refine⟨c,cJ,rfl,by simp,?_,(λh=>by cases h),by simp⟩
   rw[c9,iy]
   refine cB.VI (by simp) λi x au ae ba=>?_
   rw[iM,ba]at ae
   cases ae
   exact Xl W au
  |_=>exact absurd rfl hd
 inj b bj l cK h h' e _ _:=by
  obtain⟨_,rfl⟩:=wi h
  obtain⟨_,rfl⟩:=wi h'
  exact e
 lt b l h:=by
  obtain⟨h1,rfl⟩:=wi h
  exact h1
theorem Xp{W:World}{b:Nat}(h:live (kI W) b):lp (kI W) b:=by
 obtain⟨blk,af,hd⟩:=h
 have e:=af
 rw[Ik,du]at e
 obtain⟨o,g,rfl⟩:=e
 cases o with
 |cells c elem cJ=>exact⟨_,_,af⟩
 |_=>exact absurd rfl hd
theorem Xq{W c:World}{aY:Ren}{h':aX}(x:Ext (k1 W) (kI W) W aY h' c):RowKit.Below W.heap.size W c:=by
 refine⟨x.out.1,x.out.2.1,x.out.2.2,x.size,λk ad=>?_⟩
 by_cases ax:live (kI W) k
 ·exact x.ro k ⟨k,0⟩ (by unfold k1;rw[aP ad]) (Xp ax)
 ·refine x.frame k ad λb l g e aa=>?_
  obtain⟨_,rfl⟩:=wi e
  simp only at aa
  subst aa
  exact ax g
theorem Xr{Γ:Callee}(b:jd P Γ){f:dU}{args:List Value}{W:World}{r:Value}{h1:aX}(ad:Γ f args (kI W)=y (r,h1))(c:cB (k1 W) args args)(aA:yr r=V)(aE:fX f dX=V:=by rfl):
 Calls P f args.toArray W λe g=>e=.returned r/\RowKit.Below W.heap.size W g:=by
 refine callsIn_wide (n:=0).1 (((b.fn f aE args _ r h1 ad).2 (k1 W) W args (Xo W) c Fence.wide 0 ⟨λ_=>trivial,rfl⟩).mono ?_)
 rintro e b' ⟨v,μ1,rfl,ay,_,ae⟩
 rw[bp.Bg aA ay]
 exact⟨rfl,Xq ae⟩
theorem Xs{W:World}{b o:Nat}{v:Value}(h:W.cell? ⟨b,o,none⟩=y v)(ay:bp (k1 W) v v):pS (kI W) b o=y v:=by
 unfold xP at h
 unfold pS
 rw[Ik]
 simp only at h
 split at h
 ·rename_i c _ _ af
  rw[af]
  simp only[Option.isSome_none,Bool.false_eq_true,bh]at h
  simp [Ij,h,Xm ay]
 ·cases h
theorem Xt{W:World}{a:Addr}{v:Value}(h:W.cell? a=y v):a.block<W.heap.size/\a.spot=none:=by
 unfold xP at h
 split at h
 ·rename_i c _ _ af
  refine⟨(Array.getElem?_eq_some_iff.1 af).1,?_⟩
  split at h
  ·cases h
  ·rename_i aB
   cases b:a.spot with
   |none=>rfl
   |some x=>rw[b]at aB;exact absurd rfl aB
 ·cases h
theorem Xu{h:aX}{b o:Nat}{vs:List Value}(ay:∀i v,vs[i]?=y v->pS h b (o+i)=y v)(c:vs≠[]):jX h b o vs.length=y vs:=by
 unfold pS at ay
 unfold jX
 cases af:h[b]? with
 |none=>cases vs with
  |nil=>exact absurd rfl c
  |cons v r=>have:=ay 0 v rfl;rw[af]at this;cases this
 |some blk=>
  cases blk with
  |cells cs t eK=>
   rw[af]at ay
   simp only at ay|-
   have ax:o+vs.length<=cs.length:=by
    have e:vs.length-1<vs.length:=by cases vs with|nil=>exact absurd rfl c|cons=>simp
    have:=ay (vs.length-1) _ (fJ e)
    have:=(List.getElem?_eq_some_iff.1 this).1
    omega
   rw[aP ax]
   congr 1
   refine fx λi=>?_
   rw[Hr]
   split
   ·rename_i ai
    rw[pK,ay i _ (fJ ai),fJ ai]
   ·rename_i ai
    rw[eE (by omega)]
  |_=>cases vs with
   |nil=>exact absurd rfl c
   |cons v r=>have:=ay 0 v rfl;rw[af]at this;cases this
theorem Xv{W:World}{b:Nat}(h:b<W.heap.size):k1 W b=y ⟨b,0⟩:=by unfold k1;rw[aP h]
theorem Nq:pO<eQ:=by decide
end Go.bF
namespace Go.bF
open Go.ChangeShapes Go.WideShapes
variable {P : Program} {H : Type} {enc : a1 × Value -> H}
def dB(n:Int):Prop:=-9223372036854775808<=n/\n<=9223372036854775807
theorem Xw{n:Int}(h:(Lit.int .i64 n).wf=V):dB n:=by
 simp [Lit.wf,IntKind.min,IntKind.max,xZ,x0]at h
 unfold dB
 omega
end Go.bF
namespace Go.bF
theorem wrap64{n:Int}(h:dB n):IntKind.i64.wrap n=n:=by
 unfold dB at h
 simp [IntKind.wrap,xZ,x0]
 split<;>omega
theorem eT(v:Value)(vs:List Value):x_ (v::vs) 0=v:=rfl
theorem yX(v w:Value)(vs:List Value):x_ (v::w::vs) 1=w:=rfl
theorem yY(v w x:Value)(vs:List Value):x_ (v::w::x::vs) 2=x:=rfl
theorem BD(v w x au:Value)(vs:List Value):x_ (v::w::x::au::vs) 3=au:=rfl
theorem aks(size b o n c:Nat)(i:Nat)(h:i<n):vy size (.slice (y ⟨b,o,none⟩) n c) (.int .i64 i)=y (iO b (o+i*size)):=by
 simp only[vy]
 rw[aP (by omega)]
 simp
theorem yZ(n b o:Nat)(h:aX):oh M n (iO b o) h=pS h b o:=rfl
theorem akt{h h':aX}(ah:h <+: h'){b o n:Nat}{l:List Value}(an:jX h b o n=y l):jX h' b o n=y l:=by
 unfold jX at an|-
 split at an
 ·rename_i vs t r af
  rw[p1 ah (List.getElem?_eq_some_iff.1 af).1,af]
  exact an
 ·cases an
open Go.ChangeShapes Go.WideShapes
inductive dY where
 |v (x:Value)
 |bZ (rows:List (List dY))
mutual
inductive R(S:Nat->Prop)(h:aX):Value->dY->Prop
 |v {x:Value} (ae:iP x=V):R S h x (.v x)
 |nil:R S h (.slice none 0 0) (.bZ [])
 |gb (a:Addr) (c:Nat):R S h (.slice (y a) 0 c) (.bZ [])
 |bZ {b o c n:Nat} {vs:List Value} {rows:List (List dY)} (aA:n=rows.length) (af:S b) (aa:n<=c) (an:jX h b o vs.length=y vs) (aB:hK S h vs rows.flatten):R S h (.slice (y ⟨b,o,none⟩) n c) (.bZ rows)
inductive hK(S:Nat->Prop)(h:aX):List Value->List dY->Prop
 |nil:hK S h [] []
 |cons {x:Value} {d:dY} {xs:List Value} {dS:List dY} (ae:R S h x d) (aB:hK S h xs dS):hK S h (x::xs) (d::dS)
end
mutual
theorem R.mono{S y0:Nat->Prop}{h h':aX}(hm:∀b,S b->y0 b/\h'[b]?=h[b]?){x:Value}{d:dY}:R S h x d->R y0 h' x d
 |.v ae=>.v ae
 |.nil=>.nil
 |.gb a c=>.gb a c
 |.bZ aA af aa an aB=>.bZ aA (hm _ af).1 aa (by unfold jX at an |-;rw[(hm _ af).2];exact an) (hK.mono hm aB)
theorem hK.mono{S y0:Nat->Prop}{h h':aX}(hm:∀b,S b->y0 b/\h'[b]?=h[b]?){xs:List Value}{dS:List dY}:hK S h xs dS->hK y0 h' xs dS
 |.nil=>.nil
 |.cons ae aB=>.cons (R.mono hm ae) (hK.mono hm aB)
end
theorem hK.length{S:Nat->Prop}{h:aX}{xs:List Value}{dS:List dY}(r:hK S h xs dS):xs.length=dS.length:=by
 induction xs generalizing dS with
 |nil=>cases r;rfl
 |cons x xs a6=>cases r with|cons _ aB=>simp [a6 aB]
theorem hK.append{S:Nat->Prop}{h:aX}{xs ys:List Value}{dS df:List dY}(r:hK S h xs dS)(q:hK S h ys df):hK S h (xs++ys) (dS++df):=by
 induction xs generalizing dS with
 |nil=>cases r;exact q
 |cons x xs a6=>cases r with|cons ae aB=>exact .cons ae (a6 aB)
theorem hK.drop{S:Nat->Prop}{h:aX}{xs:List Value}{dS:List dY}(r:hK S h xs dS)(n:Nat):hK S h (xs.drop n) (dS.drop n):=by
 induction n generalizing xs dS with
 |zero=>exact r
 |succ n a6=>cases r with
  |nil=>exact .nil
  |cons ae aB=>exact a6 aB
theorem hK.take{S:Nat->Prop}{h:aX}{xs:List Value}{dS:List dY}(r:hK S h xs dS)(n:Nat):hK S h (xs.take n) (dS.take n):=by
 induction n generalizing xs dS with
 |zero=>exact .nil
 |succ n a6=>cases r with
  |nil=>exact .nil
  |cons ae aB=>exact .cons ae (a6 aB)
theorem Xx{α:Type}{rows:List (List α)}{size:Nat}(aB:∀r∈rows,r.length=size):rows.flatten.length=rows.length*size:=by
 induction rows with
 |nil=>simp
 |cons r rows a6=>simp [aB r (by simp),a6 λq br=>aB q (by simp [br]),iL,Nat.add_comm]
theorem Xy{α:Type}{rows:List (List α)}{size:Nat}(aB:∀r∈rows,r.length=size){i:Nat}{r:List α}(ai:rows[i]?=y r):(rows.flatten.drop (i*size)).take size=r:=by
 induction rows generalizing i with
 |nil=>cases ai
 |cons q rows a6=>
  cases i with
  |zero=>
   have e:q=r:=by simpa using ai
   subst e
   have:=aB q (by simp)
   rw[nq,oZ,mh,<-this,vm]
  |succ i=>
   have br:=aB q (by simp)
   rw[mh,show(i+1)*size=q.length+i*size by rw[iL];omega,VA]
   exact a6 (λq br=>aB q (by simp [br])) ai
inductive gR where
 |int (k:IntKind)
 |bool
 |str
 |bZ (cells:List gR)
mutual
inductive dC:gR->dY->Prop
 |int {k:IntKind} {n:Int} (cb:(Lit.int k n).wf=V):dC (.int k) (.v (.int k n))
 |bool (b:Bool):dC .bool (.v (.bool b))
 |str {s:ByteArray} (aB:s.size<=pO):dC .str (.v (.string s))
 |bZ {s:List gR} {rows:List (List dY)} (ax:rows.length<=pO) (an:∀r∈rows,cP s r):dC (.bZ s) (.bZ rows)
inductive cP:List gR->List dY->Prop
 |nil:cP [] []
 |cons {s:gR} {d:dY} {e6:List gR} {dS:List dY} (hd:dC s d) (aB:cP e6 dS):cP (s::e6) (d::dS)
end
theorem cP.append{s1 b:List gR}{dS df:List dY}(r:cP s1 dS)(q:cP b df):cP (s1++b) (dS++df):=by
 induction s1 generalizing dS with
 |nil=>cases r;exact q
 |cons x xs a6=>cases r with|cons ae aB=>exact .cons ae (a6 aB)
section
variable (P : Program)
def BE(rec:a1->Option (List gR)):Nat->List Field->Option (List gR)
 |_,[]=>y []
 |off,f::r=>match rec f.type with
  |some s=>bif cM f.offset off&&cM s.length (P.cellsOf f.type)then(match BE rec (off+s.length) r with|some q=>y (s++q)|none=>none)else none
  |none=>none
def y1:Nat->a1->Option (List gR)
 |0,_=>none
 |n+1,t=>match P.underlying t with
  |some .bool=>y [.bool]
  |some (.int k)=>y [.int k]
  |some .string=>y [.str]
  |some (.slice e)=>match y1 n e with
   |some s=>bif cM s.length (P.cellsOf e)&&Nat.ble 1 s.length then y [.bZ s]else none
   |none=>none
  |some (.struct eR)=>match BE P (y1 n) 0 eR.toList with
   |some s=>bif cM s.length (P.cellsOf t)then y s else none
   |none=>none
  |_=>none
end
section
variable {P : Program} {H : Type} {enc : a1 × Value -> H} {W : World}
def S0(W:World):Nat->Prop:=λb=>b<W.heap.size
mutual
def qQ:dY->Nat
 |.v (.string b)=>b.size
 |.v _=>0
 |.bZ rows=>kp rows
def hY:List dY->Nat
 |[]=>0
 |d::r=>qQ d+hY r
def kp:List (List dY)->Nat
 |[]=>0
 |r::rs=>1+hY r+kp rs
end
mutual
def jH{H:Type}:DataW H->Nat
 |.lit (.string bytes)=>bytes.length+1
 |.lit _=>1
 |.nil=>1
 |.slice Xz _=>mo Xz+1
 |.agg parts=>mo parts+1
 |_=>0
def mo{H:Type}:List (DataW H)->Nat
 |[]=>0
 |d::r=>jH d+mo r
end
theorem Nr:∀a b:List dY,hY (a++b)=hY a+hY b
 |[],b=>by simp [hY]
 |d::a,b=>by rw[js,hY,hY,Nr a b];omega
theorem Ns:∀a b:List (List dY),kp (a++b)=kp a+kp b
 |[],b=>by simp [kp]
 |d::a,b=>by rw[js,kp,kp,Ns a b];omega
theorem Nt:∀a b:List (DataW H),mo (a++b)=mo a+mo b
 |[],b=>by simp [mo]
 |d::a,b=>by rw[js,mo,mo,Nt a b];omega
theorem Nu(G:Nat->List dY)(D:Nat->DataW H):∀k:Nat,(∀i,i<k->1+hY (G i)<=jH (D i))->kp ((fj k).map G)<=mo ((fj k).map D)
 |0,_=>by simp [kp]
 |k+1,h=>by
  have h1:=Nu G D k λi ai=>h i (by omega)
  have h2:=h k (by omega)
  rw[x3,jt,jt,Ns,Nt]
  simp only[me,List.map_nil,kp,mo]
  omega
theorem XA{n:Nat}{xs:List (DataW H×List MemPlace)}{cs:List Value}{rec:a1->Option (List gR)}
 (a6:∀(t:a1) (cs:List Value) (x:DataW H×List MemPlace) (s:List gR),DataW.trod enc P W 0 (λ_=>V) V n t cs=y x->rec t=y s->∃dS,hK (S0 W) (kI W) cs dS/\cP s dS/\cB (k1 W) cs cs/\1+hY dS<=jH x.1):
 ∀(eR:List Field) (off k:Nat) (s:List gR),BE P rec off eR=y s->(∀(i:Nat) (f:Field),eR[i]?=y f->∃x,xs[k+i]?=y x/\DataW.trod enc P W 0 (λ_=>V) V n f.type ((cs.drop f.offset).take (P.cellsOf f.type))=y x)->
  off+s.length=cs.length->∃dS,hK (S0 W) (kI W) (cs.drop off) dS/\cP s dS/\cB (k1 W) (cs.drop off) (cs.drop off)/\hY dS<=mo ((xs.drop k).map (·.1)):=by
 intro eR
 induction eR with
 |nil=>
  intro off k s aB _ ax
  cases aB
  refine⟨[],?_,.nil,?_,hO _⟩<;>rw[List.drop_eq_nil_of_le (by simp at ax;omega)]
  ·exact .nil
  ·exact .nil
 |cons f eR c=>
  intro off k s aB aE ax
  unfold BE at aB
  split at aB
  ·rename_i s1 h1
   cases aa:(cM f.offset off&&cM s1.length (P.cellsOf f.type))with
   |false=>rw[aa]at aB;cases aB
   |true=>
    rw[aa]at aB
    simp only[gG,dn]at aB aa
    obtain⟨c2,ej⟩:=aa
    have c2:=hW c2
    have ej:=hW ej
    split at aB
    ·rename_i q br
     cases aB
     obtain⟨x,b,ae⟩:=aE 0 f rfl
     rw[c2]at ae
     obtain⟨h,j,bw,v1,cH⟩:=a6 _ _ _ _ ae h1
     rw[dV]at ax
     obtain⟨l,m,bD,v2,p⟩:=c (off+s1.length) (k+1) q br (λi g bG=>by have:=aE (i+1) g bG;rwa [show k+(i+1)=k+1+i by omega]at this) (by omega)
     have e:cs.drop off=(cs.drop off).take (P.cellsOf f.type)++cs.drop (off+s1.length):=by
      rw[ej,<-vb,rG]
     refine⟨h++l,?_,bw.append bD,?_,?_⟩
     ·rw[e];exact j.append m
     ·rw[e];exact v1.append v2
     ·rw[vc]at b
      obtain⟨ad,o⟩:=List.getElem?_eq_some_iff.1 b
      rw[Nr,List.drop_eq_getElem_cons ad,me,mo,o]
      omega
    ·cases aB
  ·cases aB
theorem XB(b:ByteArray):1+hY [.v (.string b)]<=jH (DataW.lit (.string b.data.toList):DataW H):=by
 have:b.data.toList.length=b.size:=pL
 simp only[hY,qQ,jH]
 omega
theorem XC:∀(m n:Nat) (t:a1) (cs:List Value) (x:DataW H×List MemPlace) (s:List gR),DataW.trod enc P W 0 (λ_=>V) V n t cs=y x->y1 P m t=y s->
 ∃dS,hK (S0 W) (kI W) cs dS/\cP s dS/\cB (k1 W) cs cs/\1+hY dS<=jH x.1:=by
 intro m
 induction m with
 |zero=>intro n t cs x s _ h;cases h
 |succ m a6=>
  intro n t cs x s ae aB
  unfold y1 at aB
  split at aB
  ·rename_i aR
   cases aB
   obtain⟨b,rfl,rfl⟩:=DataW.trod_bool aR ae
   exact⟨[.v (.bool b)],.cons (.v rfl) .nil,.cons (.bool b) .nil,.cons (.bool b) .nil,by simp [hY,qQ,jH]⟩
  ·rename_i k aR
   cases aB
   obtain⟨z,rfl,rfl,cb⟩:=DataW.trod_int aR ae
   exact⟨[.v (.int k z)],.cons (.v rfl) .nil,.cons (.int cb) .nil,.cons (.int k z) .nil,by simp [hY,qQ,jH]⟩
  ·rename_i aR
   cases aB
   obtain⟨b,rfl,rfl,ax⟩:=DataW.trod_string aR ae
   exact⟨[.v (.string b)],.cons (.v rfl) .nil,.cons (.str ax) .nil,.cons (.string b) .nil,XB b⟩
  ·rename_i e aR
   split at aB
   ·rename_i s1 o9
    cases aa:(cM s1.length (P.cellsOf e)&&Nat.ble 1 s1.length)with
    |false=>rw[aa]at aB;cases aB
    |true=>
     rw[aa]at aB
     cases aB
     simp only[dn]at aa
     have c2:=hW aa.1
     have ej:=sA aa.2
     rcases Deep.open_slice aR ae with⟨rfl,rfl⟩|⟨a,len,cap,m1,n1,D,ab,rfl,_,ax,ac,hm,rfl,L⟩
     ·exact⟨[.bZ []],.cons .nil .nil,.cons (.bZ (hO _) λr an=>by cases an) .nil,.cons .mQ .nil,by simp [hY,qQ,kp,jH]⟩
     ·simp only[a_]at hm
      subst hm
      have w:∀i,∃p:List Value×List dY,i<m1->hK (S0 W) (kI W) p.1 p.2/\cP s1 p.2/\cB (k1 W) p.1 p.1/\p.1.length=s1.length/\(∀j,j<s1.length->W.cell? ((a.add (i*s1.length)).add j)=p.1[j]?)/\1+hY p.2<=jH (D i):=by
       intro i
       by_cases ai:i<m1
       ·obtain⟨G,h1,h2⟩:=L i ai
        obtain⟨dS,l,A,q,B⟩:=a6 _ _ _ _ _ h2 o9
        obtain⟨_,aJ,aO⟩:=World.cells?_some h1
        exact⟨(G,dS),λ_=>⟨l,A,q,by show G.length=_;omega,λj N=>by rw[<-c2]at aO;exact aO j N,B⟩⟩
       ·exact⟨([],[]),λh=>absurd h ai⟩
      obtain⟨F,c⟩:=Classical.axiomOfChoice w
      have O:=Nq
      have I:0<m1->∃b o,a=⟨b,o,none⟩/\b<W.heap.size:=by
       intro av
       obtain⟨_,_,_,dj,C,_⟩:=c 0 av
       have g:=C 0 (by omega)
       rw[fJ (by omega)]at g
       obtain⟨b,o,J⟩:=a
       have Q:((⟨b,o,J⟩:Addr).add (0*s1.length)).add 0=⟨b,o,J⟩:=by simp [Addr.add]
       rw[Q]at g
       obtain⟨af,K⟩:=Xt g
       simp only at K af
       exact⟨b,o,by rw[K],af⟩
      refine⟨[.bZ ((fj len).map λi=>(F i).2)],.cons ?_ .nil,.cons (.bZ (by simp;omega) λr an=>?_) .nil,.cons ?_ .nil,?_⟩
      ·by_cases av:len=0
       ·subst av
        exact .gb _ _
       ·obtain⟨b,o,rfl,af⟩:=I (by omega)
        have R:∀k,k<=len->hK (S0 W) (kI W) ((fj k).map λi=>(F i).1).flatten ((fj k).map λi=>(F i).2).flatten:=by
         intro k
         induction k with
         |zero=>intro _;exact .nil
         |succ k S=>
          intro ad
          rw[x3,jt,jt,AM,AM]
          refine(S (by omega)).append ?_
          simpa using(c k (by omega)).1
        have c7:∀r∈((fj len).map λi=>(F i).1),r.length=s1.length:=by
         intro r an
         rw[ju]at an
         obtain⟨i,ai,rfl⟩:=an
         exact(c i (by have:=List.mem_range.1 ai;omega)).2.2.2.1
        have E:=Xx c7
        rw[c9,Hs]at E
        refine .bZ (vs:=((fj len).map λi=>(F i).1).flatten) (by simp) af (by omega) ?_ (R len (cj _))
        refine Xu (λi v ay=>?_) ?_
        ·have ai:=(List.getElem?_eq_some_iff.1 ay).1
         rw[E]at ai
         have br:i / s1.length<len:=(Nat.div_lt_iff_lt_mul (by omega)).2 ai
         have an:i%s1.length<s1.length:=Nat.mod_lt _ (by omega)
         have u:((fj len).map λi=>(F i).1)[i / s1.length]?=y (F (i / s1.length)).1:=by
          rw[iM,List.getElem?_range br];rfl
         have w:=Xy c7 u
         have aG:(F (i / s1.length)).1[i%s1.length]?=y v:=by
          rw[<-w,Hr,aP an,pK,Nat.mul_comm (i / s1.length),Nat.div_add_mod]
          exact ay
         obtain⟨_,_,b0,dj,C,_⟩:=c (i / s1.length) (by omega)
         have g:=C _ an
         rw[aG]at g
         obtain⟨au,ba,T⟩:=b0.get aG
         have U:au=v:=by rw[aG]at ba;exact(jU ba).symm
         subst U
         refine Xs ?_ T
         rw[<-g]
         have X:i / s1.length*s1.length+i%s1.length=i:=Nat.div_add_mod' i _
         rw[Deep.add_add,nC,X]
        ·intro Y
         have:=cZ List.length Y
         rw[E]at this
         rcases Nat.mul_eq_zero.1 this with h|h<;>omega
      ·rw[ju]at an
       obtain⟨i,ai,rfl⟩:=an
       exact(c i (by have:=List.mem_range.1 ai;omega)).2.1
      ·by_cases Z:m1=0
       ·subst Z
        have:len=0:=by omega
        subst this
        exact .hs _ _
       ·obtain⟨b,o,rfl,af⟩:=I (by omega)
        exact .bZ (Xv af) (.inl ⟨by omega,rfl⟩)
      ·have:=Nu (λi=>(F i).2) D len λi ai=>(c i (by omega)).2.2.2.2.2
       simp only[hY,qQ,jH]
       omega
   ·cases aB
  ·rename_i eR aR
   split at aB
   ·rename_i s1 o9
    cases aa:cM s1.length (P.cellsOf t)with
    |false=>rw[aa]at aB;cases aB
    |true=>
     rw[aa]at aB
     cases aB
     have c2:=hW aa
     obtain⟨xs,k,_,rfl,ax,ah,aE⟩:=DataW.trod_struct aR ae
     have:=XA (xs:=xs) (cs:=cs) (λt cs x s h1 h2=>a6 k t cs x s h1 h2) eR.toList 0 0 s o9 (λi f ai=>by
      have u:eR[i]?=y f:=by simpa using ai
      have O:i<eR.size:=(Array.getElem?_eq_some_iff.1 u).1
      exact⟨_,by rw[hh];exact fJ (by omega),(aE i f u).trans (fJ _)⟩) (by omega)
     obtain⟨dS,l,A,q,B⟩:=this
     rw[oZ]at l q B
     refine⟨dS,l,A,q,?_⟩
     simp only[jH]
     omega
   ·cases aB
  ·cases aB
theorem XD{t:a1}{eR:Array Field}{v:Value}{d:DataW H}{bH:List MemPlace}{m:Nat}{s:List gR}{r:Reach}{cm:Nat}(aR:P.underlying t=y (.struct eR))(aB:y1 P m t=y s)(b:Value.okWide P W r cm t v)(h:DataW.Trod enc P W 0 (λ_=>V) V t v d bH):
 ∃(cs:List Value) (dS:List dY),v=.agg cs.toArray/\hK (S0 W) (kI W) cs dS/\cP s dS/\bp (k1 W) v v/\hY dS<=jH d:=by
 obtain⟨cs,rfl,_⟩:=okWide_struct aR b
 obtain⟨n,aA⟩:=h
 obtain⟨dS,c,e,g,i⟩:=XC m n t _ _ _ aA aB
 exact⟨cs.toList,dS,by simp,c,e,.agg g,by show hY dS<=jH (d,bH).1;omega⟩
end
theorem XE{α:Type}{f:α->List dY}{ok:α->Prop}{rows:List (List dY)}(h:∀r∈rows,∃a,r=f a/\ok a):∃l:List α,rows=l.map f/\∀a∈l,ok a:=by
 induction rows with
 |nil=>exact⟨[],rfl,λa ha=>by cases ha⟩
 |cons r rows a6=>
  obtain⟨a,rfl,ha⟩:=h r (by simp)
  obtain⟨l,rfl,ax⟩:=a6 λq br=>h q (by simp [br])
  exact⟨a::l,rfl,λb af=>by
   rcases List.mem_cons.1 af with rfl|af
   ·exact ha
   ·exact ax b af⟩
theorem p2{α:Type}{s:List gR}{d:dY}{f:α->List dY}{ok:α->Prop}(h:dC (.bZ s) d)(br:∀r,cP s r->∃a,r=f a/\ok a):
 ∃(l:List α),d=.bZ (l.map f)/\(l.length<=pO/\∀a∈l,ok a):=by
 cases h with
 |bZ ax an=>
  obtain⟨l,rfl,h1⟩:=XE λr h=>br r (an r h)
  exact⟨l,rfl,by simpa using ax,h1⟩
def qR(n:Int):List dY:=[.v (.int .i64 n)]
def p3{α:Type}(ok:α->Prop)(l:List α):Prop:=l.length<=pO/\∀a∈l,ok a
theorem cP.cons_inv{s:gR}{e6:List gR}{dS:List dY}(h:cP (s::e6) dS):∃d r,dS=d::r/\dC s d/\cP e6 r:=by
 cases h with|cons h1 h2=>exact⟨_,_,rfl,h1,h2⟩
theorem cP.sR{dS:List dY}(h:cP [] dS):dS=[]:=by cases h;rfl
theorem dC.fo{d:dY}(h:dC (.int .i64) d):∃n,d=.v (.int .i64 n)/\dB n:=by cases h with|int cb=>exact⟨_,rfl,Xw cb⟩
theorem dC.qS{d:dY}(h:dC .bool d):∃b,d=.v (.bool b):=by cases h with|bool b=>exact⟨b,rfl⟩
theorem dC.Il{d:dY}(h:dC .str d):∃s:ByteArray,d=.v (.string s)/\s.size<=pO:=by cases h with|str aB=>exact⟨_,rfl,aB⟩
theorem Im{r:List dY}(h:cP [.int .i64] r):∃n,r=qR n/\dB n:=by
 obtain⟨d,q,rfl,h1,h2⟩:=cP.cons_inv h
 obtain rfl:=cP.sR h2
 obtain⟨n,rfl,aA⟩:=dC.fo h1
 exact⟨n,rfl,aA⟩
end Go.bF
namespace Go.aM
open Go.bF
inductive U where
 |dR
 |int (k:IntKind) (n:Int)
 |bool (b:Bool)
 |str (s:ByteArray)
 |a7|pe|oq|mT|pf
  |emp
  |bE (sz:Nat) (rows:List (List U))
  |fz (row:List U) (off:Nat)
 |ptr (b o:Nat)
  |ref (b lo n ver sz:Nat)
 |gS (b i off ver sz:Nat)
 |map (b:Nat)
 |func (f:dU) (xs ys:List U)
 |yield (b:Nat)
 |iface (t:a1) (v:U)
 |agg (cs:List U)
 |tuple (cs:List U)
def je:U:=.tuple []
def gy:Value->U
 |.bool b=>.bool b
 |.int k n=>.int k n
 |.string s=>.str s
 |.pointer none=>.pe
 |.slice none 0 0=>.a7
 |.map none=>.oq
 |.nilFunc=>.mT
 |.nilIface=>.pf
 |_=>.dR
def uf:Value->U
 |.agg cs=>.agg (cs.toList.map gy)
 |.iface t v=>.iface t (gy v)
 |v=>gy v
abbrev eA:=Nat->U
def nG(e:eA)(i:Nat)(v:U):eA:=λj=>bif cM i j then v else e j
def ot(e:eA)(d:Option Nat)(v:U):eA:=match d with|some i=>nG e i v|none=>e
def rS(e:eA):List Nat->eA
 |[]=>e
 |i::r=>nG (rS e r) i .dR
def pg(e:eA):List Nat->List U->eA
 |[],_=>e
 |i::r,vs=>nG (pg e r vs.tail) i (vs.headD je)
def mU(e:eA):List Nat->List U
 |[]=>[]
 |i::r=>e i::mU e r
def aK(vs:List U):Nat->U
 |0=>vs.headD je
 |k+1=>aK vs.tail k
inductive ep where
 |rw|ou|ro
inductive fs where
 |aj
  |raw
 |flat (sz:Nat)
 |bZ (sz:Nat) (cells:List fs)
 |agg (cells:List fs)
inductive wj where
 |a (o:fY)
  |sS (elem:a1) (sz:Nat)
  |wk (o7:Bool) (t:a1) (elem:a1) (sz:Nat)
  |mq (elem:a1) (zero:List Value) (n:Nat) (parts:List (Nat×Nat×Operand))
inductive ew where
 |nil
 |op (dst:Option Nat) (o:wj) (ef:lk) (rest:ew)
 |ll (dst:Nat) (c:Nat) (hi:Bool) (tmp:List Nat) (body:ew) (au:Operand) (rest:ew)
  |cC (t:Nat) (s:fs) (rest:ew)
  |ov (kJ:List (Nat×fs)) (dst:Option Nat) (o:wj) (ef:lk) (rest:ew)
  |BF (t:Nat) (e5:a1) (sz:Nat) (rest:ew)
inductive hZ where
 |skip
 |region (nx:Bool) (s:ew)
 |seq (a b:hZ)
 |cond (c:Operand) (mod tmp:List Nat) (a b:hZ)
 |block (id:Nat) (mod tmp:List Nat) (c:hZ)
 |loop (mod tmp:List Nat) (c:hZ)
 |exit (id:Nat)
 |ret
 |jW (g:Operand) (dd bH:List Nat) (assign body:hZ)
def Io:wj->fY
 |.a o=>o
 |.sS _ _=>.move (.const (.slice none 0 0))
 |.wk M t _ _=>.box t (.const (.slice none 0 0))
 |.wk V t _ _=>.new t [.slice none 0 0]
 |.mq t z n bH=>.buildSlice t z n bH
def k2:ew->mi
 |.nil=>.nil
 |.op d o c r=>.op d (Io o) c (k2 r)
 |.ll d c i tmp b au r=>.ll d c i tmp (k2 b) au (k2 r)
 |.cC _ _ r=>k2 r
 |.ov _ d o c r=>.op d (Io o) c (k2 r)
 |.BF _ _ _ r=>k2 r
def h8:hZ->ln
 |.skip=>.skip
 |.region d s=>.region d (k2 s)
 |.seq a b=>.seq (h8 a) (h8 b)
 |.cond c m t a b=>.cond c m t (h8 a) (h8 b)
 |.block i m t c=>.block i m t (h8 c)
 |.loop m t c=>.loop m t (h8 c)
 |.exit i=>.exit i
 |.ret=>.ret
 |.jW g dd bH a b=>.jW g dd bH (h8 a) (h8 b)
inductive b3 where
 |box (vs:List U) (t:a1) (md:ep)
 |log (rows:List (List U)) (sz:Nat) (elem:a1) (md:ep)
 |map (df:List (U×U)) (md:ep)
 |loop (dg:List U) (dd bH:List Nat) (assign body:hZ) (st:tU) (eg:Option fN) (md:ep)
 |dead
abbrev Z:=List b3
def fR:U->Bool
 |.int _ _|.bool _|.str _|.a7|.pe|.oq|.mT|.pf|.bE _ _=>V
 |_=>M
def dt:U->Bool
 |.agg _|.tuple _|.dR=>M
 |_=>V
def cn:U->List U
 |.agg cs=>cs
 |.dR=>[]
 |v=>[v]
def ar(op:BinOp)(x au:U):Option U:=
 match x,au with
 |.int k a,.int k' b=>
  match op with
  |.shl=>if b<0 then none else y (.int k (k.wrap (a*2 ^ (min b.toNat k.bits))))
  |.shr=>if b<0 then none else y (.int k (a.fdiv (2 ^ (min b.toNat k.bits))))
  |op=>
   if k=k' then
    match op with
    |.add=>y (.int k (k.wrap (a+b)))
    |.sub=>y (.int k (k.wrap (a-b)))
    |.mul=>y (.int k (k.wrap (a*b)))
    |.quo=>if b=0 then none else y (.int k (k.wrap (a.tdiv b)))
    |.rem=>if b=0 then none else y (.int k (a.tmod b))
    |.and=>y (.int k (k.wrap (kC k.bits a &&& kC k.bits b).toNat))
    |.or=>y (.int k (k.wrap (kC k.bits a ||| BitVec.ofInt k.bits b).toNat))
    |.xor=>y (.int k (k.wrap (kC k.bits a ^^^ kC k.bits b).toNat))
    |.andNot=>y (.int k (k.wrap (kC k.bits a &&& ~~~(kC k.bits b)).toNat))
    |.eql=>y (.bool (a==b))
    |.neq=>y (.bool (a !=b))
    |.lss=>y (.bool (decide (a<b)))
    |.leq=>y (.bool (decide (a<=b)))
    |.gtr=>y (.bool (decide (a>b)))
    |.geq=>y (.bool (decide (a>=b)))
    |_=>none
   else none
 |.str a,.str b=>
  match op with
  |.add=>if a.size+b.size<=4611686018427387904 then y (.str (a++b))else none
  |.eql=>y (.bool (a.toList==b.toList))
  |.neq=>y (.bool !(a.toList==b.toList))
  |_=>none
 |_,_=>none
def p4(neg:Bool)(x au:U):Option U:=
 match x,au with
 |.bool a,.bool b=>y (.bool (neg !=(a==b)))
 |_,_=>none
def Ip(k:qH)(neg:Bool)(x:U):Option U:=
 match k,x with
 |.slice,.a7=>y (.bool (neg !=V))
 |.slice,.bE _ (_::_)=>y (.bool (neg !=M))
 |.slice,.ref _ _ (_+1) _ _=>y (.bool (neg !=M))
 |.pointer,.pe=>y (.bool (neg !=V))
 |.pointer,.ptr _ _=>y (.bool (neg !=M))
 |.pointer,.fz _ _=>y (.bool (neg !=M))
 |.map,.oq=>y (.bool (neg !=V))
 |.map,.map _=>y (.bool (neg !=M))
 |.func,.mT=>y (.bool (neg !=V))
 |.func,.func _ _ _=>y (.bool (neg !=M))
 |.iface,.pf=>y (.bool (neg !=V))
 |.iface,.iface _ _=>y (.bool (neg !=M))
 |_,_=>none
def Iq(k:qH)(x:U):Bool:=
 match k,x with
 |.slice,.bE _ []=>V
 |.slice,.emp=>V
 |.slice,.ref _ _ 0 _ _=>V
 |_,_=>M
open Classical in
noncomputable def both{R:Type}(a b:Option R):Option R:=if a=b then a else none
noncomputable def nH{R:Type}(t:qH)(neg:Bool)(x:U)(k:U->Option R):Option R:=
 match Iq t x with
 |true=>both (k (.bool V)) (k (.bool M))
 |false=>(Ip t neg x).bind k
def kq:List fk->List U->List U->Option Bool
 |[],[],[]=>y V
 |.int::dc,.int k a::xs,.int k' b::ys=>if k=k' then(kq dc xs ys).map (λr=>(a==b)&&r)else none
 |.bool::dc,.bool a::xs,.bool b::ys=>(kq dc xs ys).map (λr=>(a==b)&&r)
 |.str::dc,.str a::xs,.str b::ys=>(kq dc xs ys).map (λr=>(a==b)&&r)
 |_,_,_=>none
def lT(dc:List fk)(neg:Bool)(x au:U):Option U:=
 match x,au with
 |.agg xs,.agg ys=>(kq dc xs ys).map λr=>.bool (neg !=r)
 |_,_=>none
def dq(op:UnOp)(x:U):Option U:=
 match op,x with
 |.neg,.int k n=>y (.int k (k.wrap (0-n)))
 |.not,.bool b=>y (.bool !b)
 |.xor,.int k n=>y (.int k (k.wrap (kC k.bits (if k.signed then -1 else k.max) ^^^ kC k.bits n).toNat))
 |_,_=>none
def Ir(x:U):Option U:=
 match x with
 |.str s=>y (.str s)
 |_=>none
def mV(k:IntKind)(x:U):Option U:=
 match x with
 |.int _ n=>y (.int k (k.wrap n))
 |_=>none
def bB(str:Bool)(x:U):Option U:=
 match str,x with
 |true,.str s=>y (.int .i64 s.size)
 |false,.a7=>y (.int .i64 0)
 |false,.emp=>y (.int .i64 0)
 |false,.bE _ rows=>y (.int .i64 rows.length)
 |false,.ref _ _ n _ _=>y (.int .i64 n)
 |_,_=>none
def Is(c x au:U):Option U:=
 match c with
 |.bool b=>y (if b then x else au)
 |_=>none
def ek(x:U)(i:Nat):Option U:=
 match x with
 |.tuple vs=>vs[i]?
 |_=>none
def e7(agg:Bool)(off size:Nat)(cs:List U):Option U:=
 match agg with
 |true=>if off+size<=cs.length then y (.agg ((cs.drop off).take size))else none
 |false=>cs[off]?
def wm(agg:Bool)(off size:Nat)(x:U):Option U:=
 match x with
 |.agg cs=>e7 agg off size cs
 |_=>none
def rT(n:Nat)(agg:Bool)(size:Nat)(x i:U):Option U:=
 match x,i with
 |.agg cs,.int _ j=>if 0<=j/\j<n then e7 agg (j.toNat*size) size cs else none
 |_,_=>none
def mW(x i:U):Option U:=
 match x,i with
 |.str s,.int _ j=>if 0<=j then(s.data[j.toNat]?).map λb=>.int .u8 b.toNat else none
 |_,_=>none
def aq(off:Nat)(x:U):Option U:=
 match x with
 |.ptr b o=>y (.ptr b (o+off))
 |.fz row o=>y (.fz row (o+off))
 |.gS b i o ver sz=>y (.gS b i (o+off) ver sz)
 |_=>none
def bY(size:Nat)(x i:U):Option U:=
 match x,i with
 |.bE sz rows,.int _ j=>if 0<=j/\sz=size then(rows[j.toNat]?).map λrow=>.fz row 0 else none
 |.ref b lo n ver sz,.int _ j=>if 0<=j/\j<n/\sz=size then y (.gS b (lo+j.toNat) 0 ver sz)else none
 |_,_=>none
def It(n size:Nat)(x i:U):Option U:=
 match i with
 |.int _ j=>if 0<=j/\j<n then aq (j.toNat*size) x else none
 |_=>none
def fS(x:U):Option U:=
 match x with
 |.ptr b o=>y (.ptr b o)
 |.fz row o=>y (.fz row o)
 |.gS b i o ver sz=>y (.gS b i o ver sz)
 |.func f xs ys=>y (.func f xs ys)
 |_=>none
def k3(d:Nat)(x:Option U)(gO:Nat):Option Nat:=
 match x with
 |none=>y d
 |some (.int _ j)=>if 0<=j/\j<=gO then y j.toNat else none
 |_=>none
def rU(size:Nat)(x:U)(lo ai mx:Option U):Option U:=
 match x with
 |.a7=>(k3 0 mx 0).bind λ_=>(k3 0 ai 0).bind λ_=>(k3 0 lo 0).bind λ_=>y .a7
 |.emp=>(k3 0 mx 0).bind λ_=>(k3 0 ai 0).bind λ_=>(k3 0 lo 0).bind λ_=>y .emp
 |.bE sz rows=>
  if sz=size then
   match mx with
   |none=>(k3 rows.length ai rows.length).bind λh=>(k3 0 lo h).bind λl=>y (.bE sz ((rows.take h).drop l))
   |some m=>match ai with
    |some ai=>(k3 0 (y m) rows.length).bind λm=>(k3 0 (y ai) m).bind λh=>(k3 0 lo h).bind λl=>
     y (if m=l then .emp else .bE sz ((rows.take h).drop l))
    |none=>none
  else none
 |.ref b c n ver sz=>
  if sz=size then
   match mx with
   |none=>(k3 n ai n).bind λh=>(k3 0 lo h).bind λl=>y (if h=l then .bE sz []else .ref b (c+l) (h-l) ver sz)
   |some _=>none
  else none
 |_=>none
def Iu(x:U)(lo ai:Option U):Option U:=
 match x with
 |.str s=>(k3 s.size ai s.size).bind λh=>(k3 0 lo h).bind λl=>y (.str (s.extract l h))
 |_=>none
def Iv(x au:U):Option U:=
 match x,au with
 |.int k a,.int k' b=>if k=k' then y (.int k (if b>a then b else a))else none
 |_,_=>none
def Iw(x au:U):Option U:=
 match x,au with
 |.int k a,.int k' b=>if k=k' then y (.int k (if b<a then b else a))else none
 |_,_=>none
def BG(f:U->U->Option U)(x:U):List U->Option U
 |[]=>y x
 |au::r=>(f x au).bind λz=>BG f z r
def Ix(f:U->U->Option U):List U->Option U
 |[]=>none
 |x::r=>BG f x r
def cV(cells:List U):List (Nat×Nat×U)->Option (List U)
 |[]=>y cells
 |(off,size,v)::r=>
  if(cn v).length=size/\0<size/\off+size<=cells.length then cV (cells.take off++cn v++cells.drop (off+size)) r else none
def kr(h:Z)(b:Nat):Option (List U):=
 match h[b]? with
 |some (.box vs _ _)=>y vs
 |_=>none
def sT(h:Z)(b ver sz:Nat):Option (List (List U)):=
 match h[b]? with
 |some (.log rows sz' _ _)=>bif cM rows.length ver&&cM sz' sz then y rows else none
 |_=>none
def ab(agg:Bool)(n:Nat)(x:U)(h:Z):Option U:=
 match x with
 |.ptr b o=>(kr h b).bind λvs=>e7 agg o n vs
 |.fz row o=>e7 agg o n row
 |.gS b i o ver sz=>(sT h b ver sz).bind λrows=>(rows[i]?).bind λrow=>e7 agg o n row
 |_=>none
def cF(vs:List U)(o:Nat)(l:List U):Option (List U):=
 if o+l.length<=vs.length/\l.all dt=V then y (vs.take o++l++vs.drop (o+l.length))else none
def bf(n:Nat)(x v:U)(h:Z):Option Z:=
 bif cM (cn v).length n&&fX 0 n then
  match x with
  |.ptr b o=>match h[b]? with
   |some (.box vs t .rw)=>(cF vs o (cn v)).map λck=>h.set b (.box ck t .rw)
   |_=>none
  |.gS b i o ver sz=>match h[b]? with
   |some (.log rows sz' t .rw)=>if rows.length=ver/\sz'=sz then
    (rows[i]?).bind λrow=>(cF row o (cn v)).map λrow'=>h.set b (.log (rows.set i row') sz' t .rw)else none
   |_=>none
  |_=>none
 else none
def kK(sz:Nat)(x:U)(h:Z):Option (List (List U)):=
 match x with
 |.a7=>y []
 |.emp=>y []
 |.bE sz' rows=>if sz'=sz then y rows else none
 |.ref b lo n ver sz'=>if n=0 then y []else if sz'=sz then(sT h b ver sz).bind λrows=>if lo+n<=rows.length then y ((rows.drop lo).take n)else none else none
 |.str s=>if sz=1 then y (s.data.toList.map λb=>[.int .u8 b.toNat])else none
 |_=>none
def rV(elem:a1)(sz:Nat)(s:U)(new:List (List U))(h:Z):Option (U×Z):=
 if new.length<=dp/\0<sz/\new.flatten.all dt=V then
  match s with
  |.a7=>if new.length=0 then y (.a7,h)else y (.ref h.length 0 new.length new.length sz,h++[.log new sz elem .rw])
  |.emp=>if new.length=0 then y (.emp,h)else y (.ref h.length 0 new.length new.length sz,h++[.log new sz elem .rw])
  |.ref b lo n ver sz'=>match h[b]? with
   |some (.log rows eB t .rw)=>
    if lo=0/\n=ver/\rows.length=ver/\sz'=sz/\eB=sz/\t=elem/\ver+new.length<=dp then
     y (.ref b 0 (ver+new.length) (ver+new.length) sz,h.set b (.log (rows++new) sz elem .rw))
    else none
   |_=>none
  |_=>none
 else none
def eC(elem:a1)(sz:Nat)(s x:U)(h:Z):Option (U×Z):=(kK sz x h).bind λnew=>rV elem sz s new h
def Iy(elem:a1)(sz:Nat)(zero:List U)(s k:U)(h:Z):Option (U×Z):=
 match k with
 |.int .i64 l=>if 0<=l/\l<=dp/\zero.length=sz then rV elem sz s (dF l.toNat zero) h else none
 |_=>none
def rW(sz:Nat)(d s:U)(h:Z):Option (U×Z):=
 (kK sz s h).bind λsrc=>
   match d with
   |.a7=>y (.int .i64 0,h)
   |.emp=>y (.int .i64 0,h)
   |.ref b lo n ver sz'=>
    if ver=0 then y (.int .i64 0,h)else
    match h[b]? with
    |some (.log rows eB t .rw)=>
     if rows.length=ver/\sz'=sz/\eB=sz/\lo+n<=ver/\0<n/\src.flatten.all dt=V then
      y (.int .i64 (gn src.length n),h.set b (.log (rows.take lo++src.take n++rows.drop (lo+gn src.length n)) eB t .rw))
     else none
    |_=>none
   |_=>none
def Iz(zero:List U)(x:U)(h:Z):Option (U×Z):=
 match x with
 |.a7=>y (je,h)
 |.emp=>y (je,h)
 |.ref b lo n ver sz=>
  match h[b]? with
  |some (.log rows eB t .rw)=>
   if rows.length=ver/\zero.length=sz/\eB=sz/\lo+n<=ver/\0<n/\zero.all dt=V then
    y (je,h.set b (.log (rows.take lo++dF n zero++rows.drop (lo+n)) eB t .rw))
   else none
  |_=>none
 |_=>none
def p5(elem:a1)(zero:List U)(n c:U)(h:Z):Option (U×Z):=
 match n,c with
 |.int .i64 n,.int .i64 c=>
  if 0<=n/\n<=c/\c<=dp then y (.ref h.length 0 n.toNat n.toNat zero.length,h++[.log (dF n.toNat zero) zero.length elem .rw])else none
 |_,_=>none
def h9(sz:Nat):Nat->List U->List (List U)
 |0,_=>[]
 |n+1,l=>l.take sz::h9 sz n (l.drop sz)
def ug(k:fk)(x au:U):Option Bool:=
 match k,x,au with
 |.int,.int k a,.int k' b=>if k=k' then y (a==b)else none
 |.bool,.bool a,.bool b=>y (a==b)
 |.str,.str a,.str b=>y (a==b)
 |_,_,_=>none
def uh(k:fk)(x:U):List (U×U)->Option (Option U)
 |[]=>y none
 |(au,v)::r=>match ug k x au with
  |some V=>y (y v)
  |some M=>uh k x r
  |none=>none
def qT(k:fk)(x v:U):List (U×U)->Option (List (U×U))
 |[]=>y [(x,v)]
 |(au,aZ)::r=>match ug k x au with
  |some V=>y ((x,v)::r)
  |some M=>(qT k x v r).map λq=>(au,aZ)::q
  |none=>none
def wo(x:U)(h:Z):Option (List (U×U)):=
 match x with
 |.oq=>y []
 |.map b=>match h[b]? with
  |some (.map df _)=>y df
  |_=>none
 |_=>none
def rX(k:fk)(zero:U)(ok:Bool)(x i:U)(h:Z):Option U:=
 (wo x h).bind λdf=>(uh k i df).map λr=>
   match r,ok with
   |some v,V=>.tuple [v,.bool V]
   |some v,M=>v
   |none,V=>.tuple [zero,.bool M]
   |none,M=>zero
def p6(k:fk)(x i v:U)(h:Z):Option Z:=
 match x with
 |.map b=>match h[b]? with
  |some (.map df .rw)=>(qT k i v df).map λq=>h.set b (.map q .rw)
  |_=>none
 |_=>none
def IA(x:U)(h:Z):Option U:=(wo x h).map λdf=>.int .i64 df.length
def BH:List (List U)->Option (List UInt8)
 |[]=>y []
 |[.int .u8 n]::r=>(BH r).map λl=>UInt8.ofNat n.toNat::l
 |_=>none
def IB(x:U)(h:Z):Option U:=
 match x with
 |.str _=>none
 |x=>(kK 1 x h).bind λrows=>(BH rows).map λb=>.str ⟨b.toArray⟩
mutual
def cC:fs->U->Z->Option (U×Z)
 |.aj,v,h=>y (v,h)
 |.raw,v,h=>match v with
  |.a7=>y (.emp,h)
  |v=>y (v,h)
 |.flat sz,v,h=>match v with
  |.a7=>y (.bE sz [],h)
  |.emp=>y (.bE sz [],h)
  |.bE sz' rows=>y (.bE sz' rows,h)
  |.ref b lo n ver sz=>if n=0 then y (.bE sz [],h)else match h[b]? with
   |some (.log rows sz' t .rw)=>if rows.length=ver/\sz'=sz/\lo+n<=ver/\((rows.drop lo).take n).flatten.all fR=V then y (.bE sz ((rows.drop lo).take n),h.set b (.log rows sz' t .ro))else none
   |some (.log rows sz' t .ro)=>if rows.length=ver/\sz'=sz/\lo+n<=ver/\((rows.drop lo).take n).flatten.all fR=V then y (.bE sz ((rows.drop lo).take n),h)else none
   |_=>none
  |_=>none
 |.bZ sz cs,v,h=>match v with
  |.a7=>y (.bE sz [],h)
  |.emp=>y (.bE sz [],h)
  |.bE sz' rows=>y (.bE sz' rows,h)
  |.ref b lo n ver sz=>if n=0 then y (.bE sz [],h)else match h[b]? with
   |some (.log rows sz' t .rw)=>if rows.length=ver/\sz'=sz/\lo+n<=ver then
    (mr cs ((rows.drop lo).take n) (h.set b (.log rows sz' t .ro))).bind λq=>if q.1.flatten.all fR=V then y (.bE sz q.1,q.2)else none
    else none
   |some (.log rows sz' t .ro)=>if rows.length=ver/\sz'=sz/\lo+n<=ver then
    (mr cs ((rows.drop lo).take n) h).bind λq=>if q.1.flatten.all fR=V then y (.bE sz q.1,q.2)else none
    else none
   |_=>none
  |_=>none
 |.agg cs,v,h=>match v with
  |.agg vs=>(gk cs vs h).map λq=>(.agg q.1,q.2)
  |_=>none
def gk:List fs->List U->Z->Option (List U×Z)
 |[],[],h=>y ([],h)
 |s::e6,v::vs,h=>(cC s v h).bind λq=>(gk e6 vs q.2).map λr=>(q.1::r.1,r.2)
 |_,_,_=>none
def mr(cs:List fs):List (List U)->Z->Option (List (List U)×Z)
 |[],h=>y ([],h)
 |r::rs,h=>(gk cs r h).bind λq=>(mr cs rs q.2).map λp=>(q.1::p.1,p.2)
end
def bM(n:Nat):U->Prop
 |.ptr b _=>b<n
 |.ref b _ _ _ _=>b<n
 |.gS b _ _ _ _=>b<n
 |.map b=>b<n
 |.yield b=>b<n
 |.func _ xs ys=>(∀x∈xs,bM n x)/\(∀au∈ys,bM n au)
 |.iface _ v=>bM n v
 |.agg cs=>∀x∈cs,bM n x
 |.tuple cs=>∀x∈cs,bM n x
 |_=>True
def j0(n:Nat):b3->Prop
 |.box vs _ _=>∀x∈vs,bM n x
 |.log rows _ _ _=>∀x∈rows.flatten,bM n x
 |.map df _=>∀x∈df,bM n x.1/\bM n x.2
 |.loop dg _ _ _ _ _ _ _=>∀x∈dg,bM n x
 |.dead=>True
open Classical in
noncomputable def trim(av:Z)(roots:List U)(h:Z):Z:=
 if(∀v∈roots,bM av.length v)/\(∀b,b<av.length->h[b]?=av[b]?\/∃blk,h[b]?=y blk/\j0 av.length blk)then h.take av.length else h
def ow:b3->b3
 |.box vs t .rw=>.box vs t .ou
 |.log rows sz t .rw=>.log rows sz t .ou
 |.map df .rw=>.map df .ou
 |.loop dg dd bH a b st eg .rw=>.loop dg dd bH a b st eg .ou
 |b=>b
def lock(h:Z):Z:=h.map ow
open Classical in
noncomputable def d'{R:Type}(h h':Z)(k:Z->Option R):Option R:=if lock h <+: h' then k (h++h'.drop h.length)else none
def ee(e:eA):Operand->U
 |.tmp t=>e t
 |.const v=>uf v
 |.global _=>.dR
 |.func f=>.func f [] []
def sU(e:eA):List Operand->List U
 |[]=>[]
 |x::r=>ee e x::sU e r
def wq(e:eA):Option Operand->Option U
 |none=>none
 |some x=>y (ee e x)
def wu(e:eA):List (Nat×Nat×Operand)->List (Nat×Nat×U)
 |[]=>[]
 |(i,n,x)::r=>(i,n,ee e x)::wu e r
abbrev aT:=dU->List U->Z->Option (U×Z)
section
variable {R : Type}
def gz(Γ:aT)(f:U)(args:List U)(h:Z):Option (U×Z):=
 match f with
 |.func g xs ys=>bif fX g dX then Γ g (xs++args++ys) h else none
 |.yield b=>Γ dX (.ptr b 0::args) h
 |_=>none
def p7(Γ:aT)(f:U)(args:List U)(h:Z):Option (U×Z):=
 match f with
 |.func g xs ys=>bif fX g dX then Γ g (xs++args++ys) h else none
 |_=>none
def p8(zero:List Value):List U:=zero.map gy
def h_(zero:List U):Nat->List U
 |0=>[]
 |n+1=>zero++h_ zero n
noncomputable def gT(Γ:aT)(o:wj)(e:eA)(h:Z)(k:U->Z->Option R):Option R:=
 match o with
 |.sS t sz=>if 0<sz then k (.ref h.length 0 0 0 sz) (h++[.log [] sz t .rw])else none
 |.wk _ t e5 sz=>if 0<sz then k (.ptr (h.length+1) 0) (h++[.log [] sz e5 .rw,.box [.ref h.length 0 0 0 sz] t .rw])else none
 |.mq t zero n parts=>if 0<zero.length/\0<n/\n<=dp then(cV (h_ (p8 zero) n) (wu e parts)).bind λl=>if l.all fR=V then k (.bE zero.length (h9 zero.length n l)) h else none else none
 |.a o=>match o with
  |.move x=>k (ee e x) h
  |.pick c a b=>(Is (ee e c) (ee e a) (ee e b)).bind λv=>k v h
  |.bin op x au=>(ar op (ee e x) (ee e au)).bind λv=>k v h
  |.o2 neg x au=>(p4 neg (ee e x) (ee e au)).bind λv=>k v h
  |.isNil t neg x=>nH t neg (ee e x) λv=>k v h
  |.od dc neg x au=>(lT dc neg (ee e x) (ee e au)).bind λv=>k v h
  |.un op x=>(dq op (ee e x)).bind λv=>k v h
  |.conv t x=>(mV t (ee e x)).bind λv=>k v h
  |.yh x=>(Ir (ee e x)).bind λv=>k v h
  |.len str x=>(bB str (ee e x)).bind λv=>k v h
  |.extract x i=>(ek (ee e x) i).bind λv=>k v h
  |.field agg off size x=>(wm agg off size (ee e x)).bind λv=>k v h
  |.rJ n agg size x i=>(rT n agg size (ee e x) (ee e i)).bind λv=>k v h
  |.nw x i=>(mW (ee e x) (ee e i)).bind λv=>k v h
  |.fieldAddr off x=>(aq off (ee e x)).bind λv=>k v h
  |.indexAddr size x i=>(bY size (ee e x) (ee e i)).bind λv=>k v h
  |.yi n size x i=>(It n size (ee e x) (ee e i)).bind λv=>k v h
  |.nilCheck x=>(fS (ee e x)).bind λv=>k v h
  |.slice size x lo ai mx=>(rU size (ee e x) (wq e lo) (wq e ai) (wq e mx)).bind λv=>k v h
  |.yj x lo ai=>(Iu (ee e x) (wq e lo) (wq e ai)).bind λv=>k v h
  |.yk _ _ _ _ _ _=>none
  |.max xs=>(Ix Iv (sU e xs)).bind λv=>k v h
  |.min xs=>(Ix Iw (sU e xs)).bind λv=>k v h
  |.build zero parts=>(cV (p8 zero) (wu e parts)).bind λl=>k (.agg l) h
  |.ko f first oe=>k (.func f (sU e first) (sU e oe)) h
  |.tT t x=>k (.iface t (ee e x)) h
  |.box t x=>k (.ptr h.length 0) (h++[.box (cn (ee e x)) t .rw])
  |.new t zero=>k (.ptr h.length 0) (h++[.box (p8 zero) t .rw])
  |.buildSlice t zero n parts=>if 0<zero.length/\0<n/\n<=dp then(cV (h_ (p8 zero) n) (wu e parts)).bind λl=>k (.ref h.length 0 n n zero.length) (h++[.log (h9 zero.length n l) zero.length t .rw])
   else match n,parts with
    |0,[]=>k .emp h
    |_,_=>none
  |.mkSlice t zero n c=>if 0<zero.length then(p5 t (p8 zero) (ee e n) (ee e c) h).bind λp=>k p.1 p.2 else none
  |.load agg n x=>(ab agg n (ee e x) h).bind λv=>k v h
  |.store n x v=>(bf n (ee e x) (ee e v) h).bind λh'=>k je h'
  |.append t size s x=>(eC t size (ee e s) (ee e x) h).bind λp=>k p.1 p.2
  |.copy size d s=>(rW size (ee e d) (ee e s) h).bind λp=>k p.1 p.2
  |.clear zero x=>(Iz (p8 zero) (ee e x) h).bind λp=>k p.1 p.2
  |.vB t size zero s n=>(Iy t size (p8 zero) (ee e s) (ee e n) h).bind λp=>k p.1 p.2
  |.mkMap=>k (.map h.length) (h++[.map [] .rw])
  |.lookup t zero ok x i=>(rX t (uf zero) ok (ee e x) (ee e i) h).bind λv=>k v h
  |.pR t x i v=>(p6 t (ee e x) (ee e i) (ee e v) h).bind λh'=>k je h'
  |.vC x=>(IA (ee e x) h).bind λv=>k v h
  |.vD x=>(IB (ee e x) h).bind λv=>k v h
  |.call f args=>(Γ f (sU e args) h).bind λp=>k p.1 p.2
  |.im f args=>(gz Γ (ee e f) (sU e args) h).bind λp=>k p.1 p.2
  |.fail=>none
def bc(k:U->Z->Option R)(b:(U->Z->Option R)->Option R):Option R:=b k
def aD(k:List U->Z->Option R)(b:(List U->Z->Option R)->Option R):Option R:=b k
def bd(v:U)(hi:Bool)(a b:Option R):Option R:=
 match v with
 |.bool t=>if t=hi then a else b
 |_=>none
def bb(v:U)(a b:Option R):Option R:=
 match v with
 |.bool t=>if t=V then a else b
 |_=>none
def BI:U->Bool
 |.int _ _|.bool _|.str _=>V
 |_=>M
def mX:U->Bool
 |.tuple cs=>cs.all BI
 |v=>BI v
def qU:List (Nat×fs)->eA->Z->(eA->Z->Option R)->Option R
 |[],e,h,k=>k e h
 |p::r,e,h,k=>(cC p.2 (e p.1) h).bind λq=>qU r (nG e p.1 q.1) q.2 k
def IC(v:U)(e5:a1)(sz:Nat)(h:Z):Option (U×Z):=
 match v with
 |.a7=>if 0<sz then y (.ref h.length 0 0 0 sz,h++[.log [] sz e5 .rw])else none
 |v=>y (v,h)
def jy(s p:U)(h:Z):Bool:=
 match s,p with
 |.a7,.ptr _ _=>V
 |.emp,.ptr _ _=>V
 |.ref b _ _ ver _,.ptr bj _=>match h[b]?,h[bj]? with
  |some (.log rows _ _ _),y (.box _ _ _)=>cM rows.length ver
  |_,_=>M
 |.a7,.gS _ _ _ _ _=>V
 |.emp,.gS _ _ _ _ _=>V
 |.ref b _ _ ver _,.gS bj _ _ c _=>match h[b]?,h[bj]? with
  |some (.log rows _ _ _),y (.log rows' _ _ _)=>cM rows.length ver&&(cM rows'.length c&&!Nat.beq b bj)
  |_,_=>M
 |_,_=>M
def BJ:List (Nat×Nat)->eA->Z->Bool
 |[],_,_=>V
 |p::r,e,h=>jy (e p.1) (e p.2) h&&BJ r e h
def hb{R:Type}(b:Bool)(m:Option R):Option R:=if b=V then m else none
noncomputable def iS(Γ:aT):ew->(eA->Z->Option R)->eA->Z->Option R
 |.nil,K,e,h=>K e h
 |.op d o .no rest,K,e,h=>gT Γ o e h λv h'=>iS Γ rest K (ot e d v) h'
 |.op d o (.hH bH) rest,K,e,h=>hb (BJ bH e h) (gT Γ o e h λv h'=>iS Γ rest K (ot e d v) h')
 |.op d o .calm rest,K,e,h=>gT Γ o e (lock h) λv h'=>d' h h' λh2=>iS Γ rest K (ot e d v) h2
 |.ll d c hi tmp body au rest,K,e,h=>
  bc (λv h=>iS Γ rest K (nG (rS e tmp) d v) h) λj=>
   bd (e c) hi (iS Γ body (λe' h'=>j (ee e' au) h') e h) (j (.bool !hi) h)
 |.cC t s rest,K,e,h=>(cC s (e t) h).bind λq=>iS Γ rest K (nG e t q.1) q.2
 |.ov _ _ _ (.hH _) _,_,_,_=>none
 |.ov kJ d o .no rest,K,e,h=>qU kJ e h λaG h1=>gT Γ o aG (lock h1) λv _=>if mX v=V then iS Γ rest K (ot e d v) h else none
 |.ov kJ d o .calm rest,K,e,h=>qU kJ e h λaG h1=>gT Γ o aG (lock h1) λv _=>if mX v=V then iS Γ rest K (ot e d v) h else none
 |.BF t e5 sz rest,K,e,h=>(IC (e t) e5 sz h).bind λq=>iS Γ rest K (nG e t q.1) q.2
def cv(bL:(List U->Z->Option R)->List U->Z->Option R):Nat->List U->Z->Option R
 |0,_,_=>none
 |n+1,vs,h=>bL (cv bL n) vs h
def rY(b:Nat)(h:Z):Option (Option fN):=
 match h[b]? with
 |some (.loop _ _ _ _ _ .ready eg .rw)=>y eg
 |some (.loop _ _ _ _ _ .done eg .rw)=>y eg
 |_=>none
def nI(b:Nat)(o:fN)(h:Z):Option (U×Z):=
 match h[b]? with
 |some (.loop dg dd bH c e .busy _ .rw)=>match o with
  |.normal=>y (.bool V,h.set b (.loop dg dd bH c e .ready none .rw))
  |.exit i=>y (.bool M,h.set b (.loop dg dd bH c e .done (y (.exit i)) .rw))
  |.ret=>y (.bool M,h.set b (.loop dg dd bH c e .done (y .ret) .rw))
 |_=>none
def qV(b:Nat)(h:Z):Option Z:=
 match h[b]? with
 |some (.loop dg dd bH c e .ready eg .rw)=>y (h.set b (.loop dg dd bH c e .busy eg .rw))
 |_=>none
noncomputable def jz(Γ:aT)(n:Nat):hZ->(fN->eA->Z->Option R)->eA->Z->Option R
 |.skip,K,e,h=>K .normal e h
 |.region _ s,K,e,h=>iS Γ s (λe h=>K .normal e h) e h
 |.seq a b,K,e,h=>jz Γ n a (λo e h=>match o with|.normal=>jz Γ n b K e h|.exit i=>K (.exit i) e h|.ret=>K .ret e h) e h
 |.cond c mod tmp a b,K,e,h=>
  aD (λvs h=>K .normal (pg (rS e tmp) mod vs) h) λj=>
   bb (ee e c)
    (jz Γ n a (λo e h=>match o with|.normal=>j (mU e mod) h|.exit i=>K (.exit i) e h|.ret=>K .ret e h) e h)
    (jz Γ n b (λo e h=>match o with|.normal=>j (mU e mod) h|.exit i=>K (.exit i) e h|.ret=>K .ret e h) e h)
 |.block id mod tmp c,K,e,h=>
  aD (λvs h=>K .normal (pg (rS e tmp) mod vs) h) λj=>
   jz Γ n c (λo e h=>match o with
    |.normal=>j (mU e mod) h
    |.exit i=>bif cM i id then j (mU e mod) h else K (.exit i) e h
    |.ret=>K .ret e h) e h
 |.loop mod tmp c,K,e,h=>
  cv (λcont vs h1=>jz Γ n c (λo e h2=>match o with|.normal=>cont (mU e mod) (trim h (mU e mod) h2)|.exit i=>K (.exit i) e h2|.ret=>K .ret e h2) (pg (rS e tmp) mod vs) h1) n (mU e mod) h
 |.exit i,K,e,h=>K (.exit i) e h
 |.ret,K,e,h=>K .ret e h
 |.jW g dd bH k l,K,e,h=>
  (p7 Γ (ee e g) [.yield h.length] (h++[.loop (mU e dd) dd bH k l .ready none .rw])).bind λp=>
    (rY h.length p.2).bind λo=>match o with
      |none=>K .normal e (trim h [] (p.2.set h.length .dead))
      |some x=>K x e (trim h [] (p.2.set h.length .dead))
structure b2 where
 oi:Nat
 ntmps:Nat
 code:hZ
 results:List tW
 ph:List fs
def b2.erase(F:b2):rK:=⟨F.oi,F.ntmps,h8 F.code,F.results⟩
def sV:List tW->eA->Z->(List U->Option R)->Option R
 |[],_,_,k=>k []
 |.tmp t::r,e,h,k=>sV r e h λvs=>k (e t::vs)
 |.cell t agg n::r,e,h,k=>(ab agg n (e t) h).bind λv=>sV r e h λvs=>k (v::vs)
def BK:List U->U
 |[v]=>v
 |vs=>.tuple vs
end
def ID(args:List U):eA:=λi=>args.getD i je
noncomputable def aN(ph:List fs)(h h':Z)(vs:List U):Option (U×Z):=(gk ph vs h').map λq=>(BK q.1,trim h q.1 q.2)
noncomputable def b7(Γ:aT)(n:Nat)(F:b2)(args:List U)(h:Z):Option (U×Z):=
 bif cM args.length F.oi then
  jz Γ n F.code (λo e h'=>match o with
   |.normal=>sV F.results e h' λvs=>aN F.ph h h' vs
   |.ret=>sV F.results e h' λvs=>aN F.ph h h' vs
   |.exit _=>none) (ID args) h
 else none
noncomputable def ox(Γ:aT)(n:Nat)(args:List U)(h:Z):Option (U×Z):=
 match args with
 |.ptr b 0::vs=>
  match h[b]? with
  |some (.loop dg dd bH c g .ready _ _)=>
   bif cM vs.length bH.length then
    jz Γ n c (λo e h1=>match o with
     |.normal=>(qV b h1).bind λh2=>jz Γ n g (λo _ ak=>(nI b o ak).map λq=>(q.1,trim h [] q.2)) e h2
     |_=>none) (pg (pg (λ_=>.dR) dd dg) bH vs) h
   else none
  |_=>none
 |_=>none
abbrev iT:=List (dU×b2)
def iT.get(T:iT)(f:dU):Option b2:=
 match T with
 |[]=>none
 |(g,F)::r=>bif cM g f then y F else iT.get r f
def iT.erase:iT->jF
 |[]=>[]
 |(g,F)::r=>(g,F.erase)::iT.erase r
noncomputable def iU(aL:aT)(T:iT):Nat->aT
 |0,f,args,h=>bif cM f dX then none else match T.get f with
  |some _=>none
  |none=>aL f args h
 |n+1,f,args,h=>bif cM f dX then ox (iU aL T n) n args h else match T.get f with
  |some F=>b7 (iU aL T n) n F args h
  |none=>aL f args h
open Classical in
noncomputable def nJ(aL:aT)(T:iT):aT:=λf args h=>
 if H:∃n,(iU aL T n f args h).isSome=V then iU aL T (L2 H) f args h else none
abbrev Ren:=Nat->Nat->Option (Option bF.Loc)
abbrev dD:=Nat->Option iB
mutual
inductive bs(μ:Ren)(φ:dD):U->Value->Prop
 |dR (v:Value):bs μ φ .dR v
 |int (k:IntKind) (n:Int):bs μ φ (.int k n) (.int k n)
 |bool (b:Bool):bs μ φ (.bool b) (.bool b)
 |str (s:ByteArray):bs μ φ (.str s) (.string s)
 |a7:bs μ φ .a7 (.slice none 0 0)
 |pe:bs μ φ .pe (.pointer none)
 |oq:bs μ φ .oq (.map none)
 |mT:bs μ φ .mT .nilFunc
 |pf:bs μ φ .pf .nilIface
 |emp (a:Option Addr):bs μ φ .emp (.slice a 0 0)
 |nK (sz:Nat):bs μ φ (.bE sz []) (.slice none 0 0)
 |mu (sz:Nat) (a:Addr) (c:Nat):bs μ φ (.bE sz []) (.slice (y a) 0 c)
 |bE {rows:List (List U)} {sz a o n c:Nat} {vs:List Value} {t:a1} {rw:Bool} (aA:n=rows.length) (aa:n<=c/\n<eQ) (c7:∀r∈rows,r.length=sz) (mv:φ a=y (.cells vs t rw))
  (ax:o+n*sz<=vs.length) (ah:rows.flatten.all fR=V) (an:bU μ φ rows.flatten ((vs.drop o).take (n*sz))):bs μ φ (.bE sz rows) (.slice (y ⟨a,o,none⟩) n c)
 |fz {row:List U} {off a o:Nat} {vs:List Value} {t:a1} {rw:Bool} (mv:φ a=y (.cells vs t rw)) (ax:o+row.length<=vs.length) (ah:row.all fR=V)
  (an:bU μ φ row ((vs.drop o).take row.length)):bs μ φ (.fz row off) (.pointer (y ⟨a,o+off,none⟩))
 |ptr {b o:Nat} {l:bF.Loc} (h:μ b 0=y (y l)):bs μ φ (.ptr b o) (.pointer (y ⟨l.blk,o,none⟩))
 |j1 {b:Nat} (sz:Nat) (a:Option Addr) (h:μ b 0=y none):bs μ φ (.ref b 0 0 0 sz) (.slice a 0 0)
 |ref {b lo n ver sz c:Nat} {l:bF.Loc} (h:μ b ver=y (y l)) (aA:lo+n<=ver) (aa:(c=eQ/\0<n)\/(c<eQ/\n<=c/\lo+c<=l.K)):bs μ φ (.ref b lo n ver sz) (.slice (y ⟨l.blk,lo*sz,none⟩) n c)
 |gS {b i off ver sz:Nat} {l:bF.Loc} (h:μ b ver=y (y l)):bs μ φ (.gS b i off ver sz) (.pointer (y ⟨l.blk,i*sz+off,none⟩))
 |map {b:Nat} {l:bF.Loc} (h:μ b 0=y (y l)):bs μ φ (.map b) (.map (y l.blk))
 |func (f:dU) {xs ys:List U} {fh e2:List Value} (ae:bU μ φ xs fh) (ba:bU μ φ ys e2):bs μ φ (.func f xs ys) (.func (.func f) fh.toArray e2.toArray)
 |yield {b:Nat} {l:bF.Loc} (h:μ b 0=y (y l)):bs μ φ (.yield b) (.func (.yield l.blk) ⟨[]⟩ ⟨[]⟩)
 |iface (t:a1) {v:U} {v':Value} (h:bs μ φ v v'):bs μ φ (.iface t v) (.iface t v')
 |agg {xs:List U} {ys:List Value} (h:bU μ φ xs ys):bs μ φ (.agg xs) (.agg ys.toArray)
 |tuple {xs:List U} {ys:List Value} (h:bU μ φ xs ys):bs μ φ (.tuple xs) (.tuple ys.toArray)
inductive bU(μ:Ren)(φ:dD):List U->List Value->Prop
 |nil:bU μ φ [] []
 |cons {x:U} {au:Value} {xs:List U} {ys:List Value} (h:bs μ φ x au) (aB:bU μ φ xs ys):bU μ φ (x::xs) (au::ys)
end
def ev(μ aY:Ren):Prop:=∀b k l,μ b k=y l->aY b k=y l
def gA(φ bJ:dD):Prop:=∀a blk,φ a=y blk->bJ a=y blk
theorem ev.refl(μ:Ren):ev μ μ:=λ_ _ _ h=>h
theorem gA.refl(φ:dD):gA φ φ:=λ_ _ h=>h
theorem ev.trans{a b c:Ren}(h:ev a b)(h':ev b c):ev a c:=λx au z e=>h' x au z (h x au z e)
theorem gA.trans{a b c:dD}(h:gA a b)(h':gA b c):gA a c:=λx au e=>h' x au (h x au e)
mutual
theorem bs.mono{μ aY:Ren}{φ bJ:dD}(hm:ev μ aY)(aE:gA φ bJ){x:U}{au:Value}:bs μ φ x au->bs aY bJ x au
 |.dR v=>.dR v
 |.int k n=>.int k n
 |.bool b=>.bool b
 |.str s=>.str s
 |.a7=>.a7
 |.pe=>.pe
 |.oq=>.oq
 |.mT=>.mT
 |.pf=>.pf
 |.emp a=>.emp a
 |.nK sz=>.nK sz
 |.mu sz a c=>.mu sz a c
 |.bE h1 h2 ak aJ aO bt ct=>.bE h1 h2 ak (aE _ _ aJ) aO bt (bU.mono hm aE ct)
 |.fz aJ aO bt ct=>.fz (aE _ _ aJ) aO bt (bU.mono hm aE ct)
 |.ptr h=>.ptr (hm _ _ _ h)
 |.j1 sz a h=>.j1 sz a (hm _ _ _ h)
 |.ref h h1 h2=>.ref (hm _ _ _ h) h1 h2
 |.gS h=>.gS (hm _ _ _ h)
 |.map h=>.map (hm _ _ _ h)
 |.func f h h'=>.func f (bU.mono hm aE h) (bU.mono hm aE h')
 |.yield h=>.yield (hm _ _ _ h)
 |.iface t h=>.iface t (bs.mono hm aE h)
 |.agg h=>.agg (bU.mono hm aE h)
 |.tuple h=>.tuple (bU.mono hm aE h)
theorem bU.mono{μ aY:Ren}{φ bJ:dD}(hm:ev μ aY)(aE:gA φ bJ){xs:List U}{ys:List Value}:bU μ φ xs ys->bU aY bJ xs ys
 |.nil=>.nil
 |.cons h aB=>.cons (bs.mono hm aE h) (bU.mono hm aE aB)
end
def cut(μ:Ren)(n:Nat):Ren:=λb k=>if b<n then μ b k else none
theorem rZ{μ:Ren}{n b k:Nat}(h:b<n):cut μ n b k=μ b k:=aP h
theorem XF(μ:Ren)(n:Nat):ev (cut μ n) μ:=λb k l h=>by
 unfold cut at h
 split at h
 ·exact h
 ·cases h
mutual
theorem bs.under{μ:Ren}{φ:dD}{n:Nat}{x:U}{au:Value}(ax:bM n x):bs μ φ x au->bs (cut μ n) φ x au
 |.dR v=>.dR v
 |.int k n=>.int k n
 |.bool b=>.bool b
 |.str s=>.str s
 |.a7=>.a7
 |.pe=>.pe
 |.oq=>.oq
 |.mT=>.mT
 |.pf=>.pf
 |.emp a=>.emp a
 |.nK sz=>.nK sz
 |.mu sz a c=>.mu sz a c
 |.bE h1 h2 ak aJ aO bt ct=>.bE h1 h2 ak aJ aO bt (bU.under (λx ae=>by
  have:=List.all_eq_true.1 bt x ae
  cases x<;>simp [fR,bM]at this |-) ct)
 |.fz aJ aO bt ct=>.fz aJ aO bt (bU.under (λx ae=>by
  have:=List.all_eq_true.1 bt x ae
  cases x<;>simp [fR,bM]at this |-) ct)
 |.ptr h=>.ptr (by rw[rZ (by simpa [bM]using ax)];exact h)
 |.j1 sz a h=>.j1 sz a (by rw[rZ (by simpa [bM]using ax)];exact h)
 |.ref h h1 h2=>.ref (by rw[rZ (by simpa [bM]using ax)];exact h) h1 h2
 |.gS h=>.gS (by rw[rZ (by simpa [bM]using ax)];exact h)
 |.map h=>.map (by rw[rZ (by simpa [bM]using ax)];exact h)
 |.func f h h'=>by unfold bM at ax;exact .func f (bU.under ax.1 h) (bU.under ax.2 h')
 |.yield h=>.yield (by rw[rZ (by simpa [bM]using ax)];exact h)
 |.iface t h=>by unfold bM at ax;exact .iface t (bs.under ax h)
 |.agg h=>by unfold bM at ax;exact .agg (bU.under ax h)
 |.tuple h=>by unfold bM at ax;exact .tuple (bU.under ax h)
theorem bU.under{μ:Ren}{φ:dD}{n:Nat}{xs:List U}{ys:List Value}(ax:∀x∈xs,bM n x):bU μ φ xs ys->bU (cut μ n) φ xs ys
 |.nil=>.nil
 |.cons h aB=>.cons (bs.under (ax _ (by simp)) h) (bU.under (λx ae=>ax x (by simp [ae])) aB)
end
mutual
theorem bs.lt{μ:Ren}{φ:dD}{n:Nat}(hd:∀b k l,μ b k=y l->b<n){aY:Ren}{bJ:dD}{x:U}{au c_:Value}(h':bs aY bJ x c_):bs μ φ x au->bs (cut aY n) bJ x c_
 |.dR v=>.dR _
 |.int k n=>h'.under (by simp [bM])
 |.bool b=>h'.under (by simp [bM])
 |.str s=>h'.under (by simp [bM])
 |.a7=>h'.under (by simp [bM])
 |.pe=>h'.under (by simp [bM])
 |.oq=>h'.under (by simp [bM])
 |.mT=>h'.under (by simp [bM])
 |.pf=>h'.under (by simp [bM])
 |.emp a=>h'.under (by simp [bM])
 |.nK sz=>h'.under (by simp [bM])
 |.mu sz a c=>h'.under (by simp [bM])
 |.bE ..=>h'.under (by simp [bM])
 |.fz ..=>h'.under (by simp [bM])
 |.ptr h=>h'.under (by simpa [bM]using hd _ _ _ h)
 |.j1 sz a h=>h'.under (by simpa [bM]using hd _ _ _ h)
 |.ref h h1 h2=>h'.under (by simpa [bM]using hd _ _ _ h)
 |.gS h=>h'.under (by simpa [bM]using hd _ _ _ h)
 |.map h=>h'.under (by simpa [bM]using hd _ _ _ h)
 |.func f h1 h2=>by
  cases h' with
  |func _ ak aJ=>exact .func f (bU.lt hd ak h1) (bU.lt hd aJ h2)
 |.yield h=>h'.under (by simpa [bM]using hd _ _ _ h)
 |.iface t h=>by
  cases h' with
  |iface _ ak=>exact .iface t (bs.lt hd ak h)
 |.agg h=>by
  cases h' with
  |agg ak=>exact .agg (bU.lt hd ak h)
 |.tuple h=>by
  cases h' with
  |tuple ak=>exact .tuple (bU.lt hd ak h)
theorem bU.lt{μ:Ren}{φ:dD}{n:Nat}(hd:∀b k l,μ b k=y l->b<n){aY:Ren}{bJ:dD}{xs:List U}{ys e2:List Value}(h':bU aY bJ xs e2):bU μ φ xs ys->bU (cut aY n) bJ xs e2
 |.nil=>by cases h';exact .nil
 |.cons h aB=>by
  cases h' with
  |cons ak aJ=>exact .cons (bs.lt hd ak h) (bU.lt hd aJ aB)
end
theorem bU.length{μ:Ren}{φ:dD}{xs:List U}{ys:List Value}(h:bU μ φ xs ys):xs.length=ys.length:=by
 induction xs generalizing ys with
 |nil=>cases h;rfl
 |cons x xs a6=>cases h with|cons _ aB=>simp [a6 aB]
theorem bU.get{μ:Ren}{φ:dD}{xs:List U}{ys:List Value}(h:bU μ φ xs ys){i:Nat}{x:U}(ae:xs[i]?=y x):∃au,ys[i]?=y au/\bs μ φ x au:=by
 induction xs generalizing ys i with
 |nil=>simp at ae
 |cons z xs a6=>
  cases h with
  |cons av aB=>
   cases i with
   |zero=>simp only[List.getElem?_cons_zero,sw]at ae;subst ae;exact⟨_,rfl,av⟩
   |succ i=>simp only[List.getElem?_cons_succ]at ae |-;exact a6 aB ae
theorem bU.append{μ:Ren}{φ:dD}{xs fh:List U}{ys e2:List Value}(h:bU μ φ xs ys)(h':bU μ φ fh e2):bU μ φ (xs++fh) (ys++e2):=by
 induction xs generalizing ys with
 |nil=>cases h;exact h'
 |cons x xs a6=>cases h with|cons av aB=>exact .cons av (a6 aB)
theorem bU.take{μ:Ren}{φ:dD}{xs:List U}{ys:List Value}(h:bU μ φ xs ys)(n:Nat):bU μ φ (xs.take n) (ys.take n):=by
 induction xs generalizing ys n with
 |nil=>cases h;simpa using bU.nil
 |cons x xs a6=>
  cases h with
  |cons av aB=>cases n with
   |zero=>exact .nil
   |succ n=>exact .cons av (a6 aB n)
theorem bU.drop{μ:Ren}{φ:dD}{xs:List U}{ys:List Value}(h:bU μ φ xs ys)(n:Nat):bU μ φ (xs.drop n) (ys.drop n):=by
 induction xs generalizing ys n with
 |nil=>cases h;simpa using bU.nil
 |cons x xs a6=>
  cases h with
  |cons av aB=>cases n with
   |zero=>exact .cons av aB
   |succ n=>exact a6 aB n
theorem bU.HQ{μ:Ren}{φ:dD}{xs fh:List U}{ys e2:List Value}(h:bU μ φ xs ys)(h':bU μ φ fh e2)(o:Nat):bU μ φ (xs.take o++fh++xs.drop (o+fh.length)) (ys.take o++e2++ys.drop (o+e2.length)):=by
 rw[h'.length]
 exact((h.take o).append h').append (h.drop _)
def k4:b3->Prop
 |.box _ _ .rw=>True
 |.log _ _ _ .rw=>True
 |.map _ .rw=>True
 |.loop _ _ _ _ _ _ _ .rw=>True
 |_=>False
def pj:ep->Bool
 |.ro=>M
 |_=>V
def oy:b3->Prop
 |.box _ _ md=>pj md=V
 |.log _ _ _ md=>pj md=V
 |.map _ md=>pj md=V
 |.loop _ _ _ _ _ _ _ md=>pj md=V
 |.dead=>False
theorem k4.own{b:b3}(h:k4 b):oy b:=by
 unfold k4 at h
 split at h<;>first|trivial|cases h|(simp [oy,pj])
theorem k4.live{b:b3}(h:k4 b):b≠.dead:=by rintro rfl;exact h
def ver:b3->Nat
 |.log rows _ _ _=>rows.length
 |_=>0
def fr(μ:Ren)(φ:dD)(K:Nat):b3->iB->Prop
 |.box vs t md,blk=>∃ck rw,blk=.cells ck t rw/\vs.length<=ck.length/\bU μ φ vs (ck.take vs.length)/\(pj md=V->rw=V)
 |.log rows sz t md,blk=>∃ck rw,blk=.cells ck t rw/\rows.length*sz<=ck.length/\bU μ φ rows.flatten (ck.take (rows.length*sz))/\(∀r∈rows,r.length=sz)/\K*sz<=ck.length/\(pj md=V->rw=V)/\rows.length<=dp
 |.map df _,blk=>∃b,blk=.map b/\bU μ φ (df.map (·.1)) (b.map (·.1))/\bU μ φ (df.map (·.2)) (b.map (·.2))
 |.loop dg dd bH e g st eg _,blk=>∃c,blk=.loop c dd bH (h8 e) (h8 g) st eg/\bU μ φ dg c
 |.dead,_=>True
theorem fr.mono{μ aY:Ren}{φ bJ:dD}(hm:ev μ aY)(aE:gA φ bJ){K:Nat}{b:b3}{a:iB}(h:fr μ φ K b a):fr aY bJ K b a:=by
 cases b with
 |box vs t md=>obtain⟨v,r,h1,h2,ak,aJ⟩:=h;exact⟨v,r,h1,h2,ak.mono hm aE,aJ⟩
 |log rows sz t md=>obtain⟨v,r,h1,h2,ak,aJ,aO,bt⟩:=h;exact⟨v,r,h1,h2,ak.mono hm aE,aJ,aO,bt⟩
 |map df=>obtain⟨e,h1,h2,ak⟩:=h;exact⟨e,h1,h2.mono hm aE,ak.mono hm aE⟩
 |loop=>obtain⟨e,h1,h2⟩:=h;exact⟨e,h1,h2.mono hm aE⟩
 |dead=>trivial
def XG(μ:Ren)(φ:dD)(ha:aX)(b:Nat)(blk:b3):Prop:=
 (μ b (ver blk)=y none/\∃sz t md,blk=.log [] sz t md)\/∃l blk',μ b (ver blk)=y (y l)/\ha[l.blk]?=y blk'/\fr μ φ l.K blk blk'
structure c3(μ:Ren)(φ:dD)(ah:Z)(ha:aX):Prop where
 cl:∀b k o,μ b k=y o->b<ah.length/\∀l,o=y l->l.blk<ha.length
 rel:∀b blk,ah[b]?=y blk->blk≠.dead->XG μ φ ha b blk
 inj:∀b bj blk blk' l cK,ah[b]?=y blk->blk≠.dead->ah[bj]?=y blk'->blk'≠.dead->μ b (ver blk)=y (y l)->μ bj (ver blk')=y (y cK)->l.blk=cK.blk->b=bj
 sep:∀b blk l,ah[b]?=y blk->oy blk->μ b (ver blk)=y (y l)->φ l.blk=none
 bE:∀a blk,φ a=y blk->ha[a]?=y blk
 top:∀b blk k o,ah[b]?=y blk->blk≠.dead->μ b k=y o->k<=ver blk
structure Ext(μ:Ren)(φ:dD)(ah:Z)(ha:aX)(aY:Ren)(bJ:dD)(cd:Z)(cp:aX):Prop where
 le:ah.length<=cd.length
 nL:ha.length<=cp.length
 hR:ev μ aY
 ia:gA φ bJ
 frame:∀a,a<ha.length->(∀b blk l,ah[b]?=y blk->k4 blk->μ b (ver blk)=y (y l)->l.blk≠a)->cp[a]?=ha[a]?
 wv:∀b blk' cK,cd[b]?=y blk'->k4 blk'->aY b (ver blk')=y (y cK)->ha.length<=cK.blk\/∃cm blk l,ah[cm]?=y blk/\k4 blk/\μ cm (ver blk)=y (y l)/\l.blk=cK.blk
theorem Ext.refl(μ:Ren)(φ:dD)(ah:Z)(ha:aX):Ext μ φ ah ha μ φ ah ha:=
 ⟨cj _,cj _,ev.refl _,gA.refl _,λ_ _ _=>rfl,λb blk l h1 h2 ak=>.inr ⟨b,blk,l,h1,h2,ak,rfl⟩⟩
theorem Ext.trans{μ1 i j:Ren}{oz nM k:dD}{m n o:Z}{p q a3:aX}(x:Ext μ1 oz m p i nM n q)(au:Ext i nM n q j k o a3):Ext μ1 oz m p j k o a3 where
 le:=ma x.le au.le
 nL:=ma x.nL au.nL
 hR:=x.hR.trans au.hR
 ia:=x.ia.trans au.ia
 frame a h aA:=by
  rw[au.frame a (h4 h x.nL) ?_,x.frame a h aA]
  intro b blk l h1 h2 ak e
  rcases x.wv b blk l h1 h2 ak with aJ|⟨cm,c,fa,bI,b0,dj,g⟩
  ·omega
  ·exact aA cm c fa bI b0 dj (g.trans e)
 wv b blk l h1 h2 ak:=by
  rcases au.wv b blk l h1 h2 ak with aJ|⟨cm,c,fa,bI,b0,dj,g⟩
  ·exact .inl (ma x.nL aJ)
  ·rcases x.wv cm c fa bI b0 dj with aJ|⟨cH,blk1,t,u,w,y,z⟩
   ·exact .inl (by omega)
   ·exact .inr ⟨cH,blk1,t,u,w,y,z.trans g⟩
theorem c3.step{μ aY:Ren}{φ bJ:dD}{ah cd:Z}{ha cp:aX}(s:c3 μ φ ah ha)(cm:Nat)(blk1:b3)(fm:ah.length<=cd.length)(w:ha.length<=cp.length)(hm:ev μ aY)(aE:gA φ bJ)
 (j:cd[cm]?=y blk1) (i:∀b,b≠cm->cd[b]?=ah[b]?) (c:∀b k,b≠cm->aY b k=μ b k) (x:∀k l,aY cm k=y (y l)->l.blk<cp.length)
 (z:∀b blk l,b≠cm->ah[b]?=y blk->blk≠.dead->μ b (ver blk)=y (y l)->cp[l.blk]?=ha[l.blk]?)
 (mv:∀a blk,bJ a=y blk->cp[a]?=y blk)
 (A:∀b blk l,b≠cm->oy blk->ah[b]?=y blk->μ b (ver blk)=y (y l)->bJ l.blk=none)
 (B:∀k o,blk1≠.dead->aY cm k=y o->k<=ver blk1)
 (h1:blk1≠.dead->(aY cm (ver blk1)=y none/\∃sz t md,blk1=.log [] sz t md)\/∃l blk',aY cm (ver blk1)=y (y l)/\cp[l.blk]?=y blk'/\fr aY bJ l.K blk1 blk'/\(oy blk1->bJ l.blk=none)/\
   ∀b blk q,b≠cm->ah[b]?=y blk->blk≠.dead->μ b (ver blk)=y (y q)->q.blk≠l.blk):c3 aY bJ cd cp where
 cl b k o h:=by
  by_cases af:b=cm
  ·subst af
   exact⟨(List.getElem?_eq_some_iff.1 j).1,λl e=>x k l (e▸h)⟩
  ·rw[c b k af]at h
   obtain⟨bI,b0⟩:=s.cl b k o h
   exact⟨h4 bI fm,λl e=>h4 (b0 l e) w⟩
 rel b blk h hd:=by
  by_cases af:b=cm
  ·subst af
   rw[j]at h
   cases h
   rcases h1 hd with h2|⟨l,blk',bI,b0,dj,_⟩
   ·exact .inl h2
   ·exact .inr ⟨l,blk',bI,b0,dj⟩
  ·rw[i b af]at h
   rcases s.rel b blk h hd with⟨bI,b0⟩|⟨l,blk',bI,b0,dj⟩
   ·exact .inl ⟨by rw[c b _ af];exact bI,b0⟩
   ·exact .inr ⟨l,blk',by rw[c b _ af];exact bI,by rw[z b blk l af h hd bI];exact b0,dj.mono hm aE⟩
 inj b bj blk blk' l cK h hd h' m e e' e5:=by
  by_cases af:b=cm
  ·by_cases g:bj=cm
   ·rw[af,g]
   ·subst af
    rw[j]at h
    cases h
    rw[i bj g]at h'
    rw[c bj _ g]at e'
    rcases h1 hd with⟨bI,_⟩|⟨u,_,bI,_,_,_,n⟩
    ·rw[bI]at e;cases e
    ·rw[bI]at e
     cases e
     exact absurd e5.symm (n bj blk' cK g h' m e')
  ·by_cases g:bj=cm
   ·subst g
    rw[j]at h'
    cases h'
    rw[i b af]at h
    rw[c b _ af]at e
    rcases h1 m with⟨bI,_⟩|⟨u,_,bI,_,_,_,n⟩
    ·rw[bI]at e';cases e'
    ·rw[bI]at e'
     cases e'
     exact absurd e5 (n b blk l af h hd e)
   ·rw[i b af]at h
    rw[i bj g]at h'
    rw[c b _ af]at e
    rw[c bj _ g]at e'
    exact s.inj b bj blk blk' l cK h hd h' m e e' e5
 sep b blk l h p e:=by
  by_cases af:b=cm
  ·subst af
   rw[j]at h
   cases h
   rcases h1 (by rintro rfl;exact p)with⟨bI,_⟩|⟨u,_,bI,_,_,C,_⟩
   ·rw[bI]at e;cases e
   ·rw[bI]at e
    cases e
    exact C p
  ·rw[i b af]at h
   rw[c b _ af]at e
   exact A b blk l af p h e
 bE:=mv
 top b blk k o h hd e:=by
  by_cases af:b=cm
  ·subst af
   rw[j]at h
   cases h
   exact B k o hd e
  ·rw[i b af]at h
   rw[c b _ af]at e
   exact s.top b blk k o h hd e
theorem Ext.step{μ aY:Ren}{φ bJ:dD}{ah cd:Z}{ha cp:aX}(cm:Nat)(blk1:b3)(fm:ah.length<=cd.length)(c:ha.length<=cp.length)(hm:ev μ aY)(aE:gA φ bJ)
 (e:cd[cm]?=y blk1) (g:∀b,b≠cm->cd[b]?=ah[b]?) (h:∀b k,b≠cm->aY b k=μ b k)
 (i:∀a,a<ha.length->(∀blk l,ah[cm]?=y blk->k4 blk->μ cm (ver blk)=y (y l)->l.blk≠a)->cp[a]?=ha[a]?)
 (cb:∀cK,k4 blk1->aY cm (ver blk1)=y (y cK)->ha.length<=cK.blk\/∃blk l,ah[cm]?=y blk/\k4 blk/\μ cm (ver blk)=y (y l)/\l.blk=cK.blk):Ext μ φ ah ha aY bJ cd cp:=
 ⟨fm,c,hm,aE,λa h1 h2=>i a h1 λblk l bI b0 dj=>h2 cm blk l bI b0 dj,λb blk l h1 h2 ak=>by
  by_cases af:b=cm
  ·subst af
   rw[e]at h1
   cases h1
   rcases cb l h2 ak with aJ|⟨blk,fa,q⟩
   ·exact .inl aJ
   ·exact .inr ⟨b,blk,fa,q⟩
  ·rw[g b af]at h1
   rw[h b _ af]at ak
   exact .inr ⟨b,blk,l,h1,h2,ak,rfl⟩⟩
def put(μ:Ren)(b k:Nat)(o:Option bF.Loc):Ren:=λbj k'=>if bj=b/\k'=k then y o else μ bj k'
theorem jI(μ:Ren)(b k:Nat)(o:Option bF.Loc):put μ b k o b k=y o:=aP ⟨rfl,rfl⟩
theorem sW{μ:Ren}{b k:Nat}{o:Option bF.Loc}{bj k':Nat}(h:bj≠b):put μ b k o bj k'=μ bj k':=aW λq=>h q.1
theorem y2{μ:Ren}{b k:Nat}{o:Option bF.Loc}(h:∀o',μ b k=y o'->o'=o):ev μ (put μ b k o):=λbj k' l e=>by
 unfold put
 split
 ·rename_i q
  obtain⟨rfl,rfl⟩:=q
  rw[h _ e]
 ·exact e
theorem c3.fresh{μ:Ren}{φ:dD}{ah:Z}{ha:aX}(s:c3 μ φ ah ha)(k:Nat):μ ah.length k=none:=by
 cases h:μ ah.length k with
 |none=>rfl
 |some o=>exact absurd (s.cl _ _ _ h).1 (by omega)
theorem qW{μ:Ren}{φ:dD}{ah:Z}{ha:aX}(s:c3 μ φ ah ha)(k:Nat)(o:Option bF.Loc):ev μ (put μ ah.length k o):=y2 λo' e=>by rw[s.fresh]at e;cases e
theorem BL{α:Type}{l:List α}{x:α}{b:Nat}(h:b≠l.length):(l++[x])[b]?=l[b]?:=by
 by_cases af:b<l.length
 ·rw[cI af]
 ·rw[eE (by simp;omega),eE (by omega)]
theorem nN{α:Type}{l:List α}{i:Nat}{x:α}(h:l[i]?=y x):i<l.length:=(List.getElem?_eq_some_iff.1 h).1
theorem c3.push{μ:Ren}{φ:dD}{ah:Z}{ha:aX}(s:c3 μ φ ah ha)(blk:b3)(blk':iB)(K:Nat)(af:fr (put μ ah.length (ver blk) (y ⟨ha.length,K⟩)) φ K blk blk'):
 c3 (put μ ah.length (ver blk) (y ⟨ha.length,K⟩)) φ (ah++[blk]) (ha++[blk'])/\Ext μ φ ah ha (put μ ah.length (ver blk) (y ⟨ha.length,K⟩)) φ (ah++[blk]) (ha++[blk']):=by
 have hm:=qW s (ver blk) (y ⟨ha.length,K⟩)
 have c:∀a blk,φ a=y blk->a<ha.length:=λa blk e=>nN (s.bE a blk e)
 constructor
 ·refine s.step ah.length blk (by simp) (by simp) hm (gA.refl _) (by simp) (λb af=>BL af) (λb k af=>sW af) (λk l e=>?_) (λb blk l af h1 h2 ak=>?_) (λa blk e=>?_) (λb blk l af h1 h2 ak=>s.sep b blk l h2 h1 ak) (λk o _ e=>?_) (λ_=>.inr ⟨_,_,jI _ _ _ _,by simp,af,λ_=>?_,λb blk l af h1 h2 ak=>?_⟩)
  ·unfold put at e
   split at e
   ·cases e;simp
   ·rw[s.fresh]at e;cases e
  ·rw[cI ((s.cl _ _ _ ak).2 l rfl)]
  ·rw[cI (c a blk e)];exact s.bE a blk e
  ·unfold put at e
   split at e
   ·rename_i q;omega
   ·rw[s.fresh]at e;cases e
  ·cases h:φ ha.length with
   |none=>rfl
   |some x=>exact absurd (c _ _ h) (by omega)
  ·have:=(s.cl _ _ _ ak).2 l rfl
   simp only
   omega
 ·refine Ext.step ah.length blk (by simp) (by simp) hm (gA.refl _) (by simp) (λb af=>BL af) (λb k af=>sW af) (λa h1 _=>cI h1) (λl h1 h2=>.inl ?_)
  rw[jI]at h2
  cases h2
  exact cj _
theorem c3.ghost{μ:Ren}{φ:dD}{ah:Z}{ha:aX}(s:c3 μ φ ah ha)(sz:Nat)(t:a1)(md:ep):
 c3 (put μ ah.length 0 none) φ (ah++[.log [] sz t md]) ha/\Ext μ φ ah ha (put μ ah.length 0 none) φ (ah++[.log [] sz t md]) ha:=by
 have hm:=qW s 0 none
 constructor
 ·refine s.step ah.length (.log [] sz t md) (by simp) (cj _) hm (gA.refl _) (by simp) (λb af=>BL af) (λb k af=>sW af) (λk l e=>?_) (λb blk l af h1 h2 ak=>rfl) s.bE (λb blk l af h1 h2 ak=>s.sep b blk l h2 h1 ak) (λk o _ e=>?_) (λ_=>.inl ⟨jI _ _ _ _,_,_,_,rfl⟩)
  ·unfold put at e
   split at e
   ·cases e
   ·rw[s.fresh]at e;cases e
  ·unfold put at e
   split at e
   ·rename_i q;omega
   ·rw[s.fresh]at e;cases e
 ·refine Ext.step ah.length (.log [] sz t md) (by simp) (cj _) hm (gA.refl _) (by simp) (λb af=>BL af) (λb k af=>sW af) (λa h1 _=>rfl) (λl h1 h2=>?_)
  have:put μ ah.length 0 none ah.length 0=y (y l):=h2
  rw[jI]at this
  cases this
theorem mw{α:Type}{l:List α}{x:α}{b bj:Nat}(h:bj≠b):(l.set b x)[bj]?=l[bj]?:=by rw[hP (λe=>h e.symm)]
theorem qX{α:Type}{l:List α}{x:α}{b:Nat}(h:b<l.length):(l.set b x)[b]?=y x:=by rw[fK h]
theorem c3.write{μ:Ren}{φ:dD}{ah:Z}{ha:aX}(s:c3 μ φ ah ha){b:Nat}{blk blk1:b3}{l:bF.Loc}{blk':iB}(af:ah[b]?=y blk)(cb:k4 blk)(e:μ b (ver blk)=y (y l))
 (ad:∀o,μ b (ver blk1)=y o->o=y l) (m:ver blk<=ver blk1) (n:fr (put μ b (ver blk1) (y l)) φ l.K blk1 blk'):
 c3 (put μ b (ver blk1) (y l)) φ (ah.set b blk1) (ha.set l.blk blk')/\Ext μ φ ah ha (put μ b (ver blk1) (y l)) φ (ah.set b blk1) (ha.set l.blk blk'):=by
 have hm:ev μ (put μ b (ver blk1) (y l)):=y2 ad
 have c:=nN af
 have g:=(s.cl _ _ _ e).2 l rfl
 have i:=s.sep b blk l af cb.own e
 have j:∀bj blk' cK,bj≠b->ah[bj]?=y blk'->blk'≠.dead->μ bj (ver blk')=y (y cK)->cK.blk≠l.blk:=λbj blk' cK h1 h2 ak aJ aO=>h1 (s.inj bj b blk' blk cK l h2 ak af cb.live aJ e aO)
 constructor
 ·refine s.step b blk1 (by simp) (by simp) hm (gA.refl _) (qX c) (λbj h=>mw h) (λbj k h=>sW h) (λk cK h=>?_) (λbj blk' cK h1 h2 ak aJ=>mw (j bj blk' cK h1 h2 ak aJ)) (λa x h=>?_) (λbj blk cK p h1 h2 ak=>s.sep bj blk cK h2 h1 ak) (λk o _ h=>?_)
   (λ_=>.inr ⟨l,blk',jI _ _ _ _,qX g,n,λ_=>i,j⟩)
  ·rw[iz]
   unfold put at h
   split at h
   ·cases h;exact g
   ·exact(s.cl _ _ _ h).2 cK rfl
  ·rw[mw (by rintro rfl;rw[i]at h;cases h)]
   exact s.bE a x h
  ·unfold put at h
   split at h
   ·rename_i q;omega
   ·exact ma (s.top _ _ _ _ af cb.live h) m
 ·refine Ext.step b blk1 (by simp) (by simp) hm (gA.refl _) (qX c) (λbj h=>mw h) (λbj k h=>sW h) (λa h1 h2=>mw λh=>h2 blk l af cb e h.symm) (λcK h1 h2=>.inr ⟨blk,l,af,cb,e,?_⟩)
  rw[jI]at h2
  cases h2
  rfl
theorem XH{μ:Ren}{b k:Nat}{o:Option bF.Loc}(h:μ b k=y o):put μ b k o=μ:=by
 funext bj k'
 unfold put
 split
 ·rename_i q
  rw[q.1,q.2,h]
 ·rfl
theorem c3.sX{μ:Ren}{φ:dD}{ah:Z}{ha:aX}(s:c3 μ φ ah ha){b:Nat}{blk blk1:b3}{l:bF.Loc}{blk':iB}(af:ah[b]?=y blk)(cb:k4 blk)(e:μ b (ver blk)=y (y l))
 (ay:ver blk1=ver blk) (c:fr μ φ l.K blk1 blk'):c3 μ φ (ah.set b blk1) (ha.set l.blk blk')/\Ext μ φ ah ha μ φ (ah.set b blk1) (ha.set l.blk blk'):=by
 have cd:put μ b (ver blk1) (y l)=μ:=XH (by rw[ay];exact e)
 have:=s.write (blk1:=blk1) (blk':=blk') af cb e (λo h=>by rw[ay,e]at h;cases h;rfl) (by omega) (by rw[cd];exact c)
 rw[cd]at this
 exact this
theorem c3.grow{μ:Ren}{φ:dD}{ah:Z}{ha c:aX}(s:c3 μ φ ah ha){b:Nat}{blk blk1:b3}{K:Nat}{blk':iB}(af:ah[b]?=y blk)(cb:k4 blk)(ad:ver blk<ver blk1)
 (bz:c.length=ha.length) (t:∀a,(∀l,μ b (ver blk)=y (y l)->l.blk≠a)->c[a]?=ha[a]?) (u:fr (put μ b (ver blk1) (y ⟨ha.length,K⟩)) φ K blk1 blk'):
 c3 (put μ b (ver blk1) (y ⟨ha.length,K⟩)) φ (ah.set b blk1) (c++[blk'])/\Ext μ φ ah ha (put μ b (ver blk1) (y ⟨ha.length,K⟩)) φ (ah.set b blk1) (c++[blk']):=by
 have hm:ev μ (put μ b (ver blk1) (y ⟨ha.length,K⟩)):=y2 λo h=>by have:=s.top _ _ _ _ af cb.live h;omega
 have j:=nN af
 have m:∀a blk,φ a=y blk->a<ha.length:=λa blk e=>nN (s.bE a blk e)
 have i:∀a,a<ha.length->(∀l,μ b (ver blk)=y (y l)->l.blk≠a)->(c++[blk'])[a]?=ha[a]?:=λa h1 h2=>by rw[cI (by omega)];exact t a h2
 constructor
 ·refine s.step b blk1 (by simp) (by simp [bz]) hm (gA.refl _) (qX j) (λbj h=>mw h) (λbj k h=>sW h) (λk cK h=>?_) (λn p g h1 h2 ak aJ=>?_) (λa x h=>?_) (λbj blk cK w h1 h2 ak=>s.sep bj blk cK h2 h1 ak) (λk o _ h=>?_)
   (λ_=>.inr ⟨_,blk',jI _ _ _ _,by simp only;rw[<-bz];simp,u,λ_=>?_,λn p g h1 h2 ak aJ=>?_⟩)
  ·unfold put at h
   split at h
   ·cases h;simp [bz]
   ·have:=(s.cl _ _ _ h).2 cK rfl;simp;omega
  ·exact i _ ((s.cl _ _ _ aJ).2 g rfl) λl e he=>h1 (s.inj n b p blk g l h2 ak af cb.live aJ e he.symm)
  ·rw[i a (m a x h) λl e he=>?_]
   ·exact s.bE a x h
   ·have:=s.sep b blk l af cb.own e
    rw[he,h]at this
    cases this
  ·unfold put at h
   split at h
   ·rename_i q;omega
   ·have:=s.top _ _ _ _ af cb.live h;omega
  ·cases h:φ ha.length with
   |none=>rfl
   |some x=>exact absurd (m _ _ h) (by omega)
  ·have:=(s.cl _ _ _ aJ).2 g rfl
   simp only
   omega
 ·refine Ext.step b blk1 (by simp) (by simp [bz]) hm (gA.refl _) (qX j) (λbj h=>mw h) (λbj k h=>sW h) (λa h1 h2=>i a h1 λl e=>h2 blk l af cb e) (λcK h1 h2=>.inl ?_)
  rw[jI]at h2
  cases h2
  exact cj _
theorem c3.freeze{μ:Ren}{φ:dD}{ah:Z}{ha:aX}(s:c3 μ φ ah ha){b:Nat}{blk blk1:b3}{l:bF.Loc}{blk':iB}(af:ah[b]?=y blk)(cb:k4 blk)(e:μ b (ver blk)=y (y l))(cp:ha[l.blk]?=y blk')
 (ay:ver blk1=ver blk) (n:¬oy blk1) (hd:blk1≠.dead) (u:∀bJ,gA φ bJ->fr μ bJ l.K blk1 blk'):∃bJ,bJ l.blk=y blk'/\c3 μ bJ (ah.set b blk1) ha/\Ext μ φ ah ha μ bJ (ah.set b blk1) ha:=by
 have p:=nN af
 have w:=s.sep b blk l af cb.own e
 obtain⟨bJ,q⟩:∃bJ:dD,bJ=λa=>if a=l.blk then y blk' else φ a:=⟨_,rfl⟩
 have t:bJ l.blk=y blk':=by rw[q];exact aP rfl
 have m:∀a,a≠l.blk->bJ a=φ a:=λa h=>by rw[q];exact aW h
 have aE:gA φ bJ:=λa x h=>by
  by_cases c:a=l.blk
  ·subst c;rw[w]at h;cases h
  ·rw[m a c];exact h
 refine⟨bJ,t,?_,?_⟩
 ·refine s.step b blk1 (by simp) (cj _) (ev.refl _) aE (qX p) (λbj h=>mw h) (λbj k h=>rfl) (λk cK h=>(s.cl _ _ _ h).2 cK rfl) (λ_ _ _ _ _ _ _=>rfl) (λa x h=>?_) (λg i j h1 h2 ak aJ=>?_)
   (λk o _ h=>by rw[ay];exact s.top _ _ _ _ af cb.live h)
   (λ_=>.inr ⟨l,blk',by rw[ay];exact e,cp,u bJ aE,λh=>absurd h n,λg i j h1 h2 ak aJ aO=>h1 (s.inj g b i blk j l h2 ak af cb.live aJ e aO)⟩)
  ·by_cases c:a=l.blk
   ·subst c;rw[t]at h;cases h;exact cp
   ·rw[m a c]at h;exact s.bE a x h
  ·rw[m _ λaO=>h1 (s.inj g b i blk j l ak (by rintro rfl;exact h2) af cb.live aJ e aO)]
   exact s.sep g i j ak h2 aJ
 ·exact Ext.step b blk1 (by simp) (cj _) (ev.refl _) aE (qX p) (λbj h=>mw h) (λbj k h=>rfl) (λ_ _ _=>rfl) (λcK h1 h2=>absurd h1.own n)
variable {μ : Ren} {φ : dD}
theorem bs.gy(v:Value):bs μ φ (aM.gy v) v:=by
 unfold aM.gy
 split<;>constructor
theorem bU.gy(l:List Value):bU μ φ (l.map aM.gy) l:=by
 induction l with
 |nil=>exact .nil
 |cons v l a6=>exact .cons (bs.gy v) a6
theorem bs.uf(v:Value):bs μ φ (aM.uf v) v:=by
 unfold aM.uf
 split
 ·rename_i cs
  have:=bs.agg (bU.gy (μ:=μ) (φ:=φ) cs.toList)
  simpa using this
 ·exact .iface _ (bs.gy _)
 ·exact bs.gy _
theorem bs.undef:bs μ φ je undef:=.tuple .nil
theorem bs.cells{v:U}{au:Value}(h:bs μ φ v au)(aA:(cn v).length≠0):bU μ φ (cn v) (kU au):=by
 cases h with
 |dR=>exact absurd rfl aA
 |agg h=>simpa [cn,kU]using h
 |_=>exact .cons (by constructor<;>assumption) .nil
theorem bs.kV{v:U}{au:Value}(h:bs μ φ v au)(b:dt v=V):bF.kV au=V:=by
 cases h<;>first|rfl|(simp [dt]at b)
theorem bU.kV{vs:List U}{ys:List Value}(h:bU μ φ vs ys)(b:vs.all dt=V):ys.all bF.kV=V:=by
 induction vs generalizing ys with
 |nil=>cases h;rfl
 |cons v vs a6=>
  cases h with
  |cons h aB=>
   simp only[List.all_cons,dn]at b|-
   exact⟨h.kV b.1,a6 aB b.2⟩
theorem XI(op:BinOp)(k k':IntKind)(a b:Int):ar op (.int k a) (.int k' b)=(sD op (.int k a) (.int k' b)).map gy:=by
 unfold ar sD
 cases op<;>simp only[]<;>(repeat' split)<;>rfl
theorem XJ(op:BinOp)(a b:ByteArray):ar op (.str a) (.str b)=(sD op (.string a) (.string b)).map gy:=by
 unfold ar sD
 cases op<;>simp only[]<;>(repeat' split)<;>rfl
theorem XK{op:BinOp}{x au v:U}{b c_:Value}(ae:bs μ φ x b)(ba:bs μ φ au c_)(h:ar op x au=y v):∃v',sD op b c_=y v'/\bs μ φ v v':=by
 have av:=h
 unfold ar at av
 split at av
 ·clear av
  cases ae
  cases ba
  rw[XI,du]at h
  obtain⟨v',h1,rfl⟩:=h
  exact⟨v',h1,bs.gy v'⟩
 ·clear av
  cases ae
  cases ba
  rw[XJ,du]at h
  obtain⟨v',h1,rfl⟩:=h
  exact⟨v',h1,bs.gy v'⟩
 ·cases av
theorem XL{neg:Bool}{x au v:U}{b c_:Value}(ae:bs μ φ x b)(ba:bs μ φ au c_)(h:p4 neg x au=y v):∃v',AU neg b c_=y v'/\bs μ φ v v':=by
 unfold p4 at h
 split at h
 ·cases ae;cases ba;cases h;exact⟨_,rfl,.bool _⟩
 ·cases h
theorem XM{k:qH}{neg:Bool}{x v:U}{b:Value}(ae:bs μ φ x b)(h:Ip k neg x=y v):∃v',vu k neg b=y v'/\bs μ φ v v':=by
 unfold Ip at h
 split at h<;>first|(cases h;cases ae<;>exact⟨_,rfl,.bool _⟩)|cases h
theorem XN{k:qH}{neg:Bool}{x:U}{c:Value}(ae:bs μ φ x c)(h:Iq k x=V):∃b,vu k neg c=y (.bool b):=by
 unfold Iq at h
 split at h
 ·cases ae<;>exact⟨_,rfl⟩
 ·cases ae with|emp a=>cases a<;>exact⟨_,rfl⟩
 ·cases ae with
  |j1 _ a=>cases a<;>exact⟨_,rfl⟩
  |ref=>exact⟨_,rfl⟩
 ·cases h
theorem XO:∀{dc:List fk} {xs ys:List U} {fh e2:List Value} {r:Bool},bU μ φ xs fh->bU μ φ ys e2->kq dc xs ys=y r->hG dc fh e2=y r:=by
 intro dc
 induction dc with
 |nil=>
  intro xs ys fh e2 r ae ba h
  cases ae with
  |nil=>cases ba with
   |nil=>exact h
   |cons ak aJ=>simp [kq]at h
  |cons h1 h2=>simp [kq]at h
 |cons k dc a6=>
  intro xs ys fh e2 r ae ba h
  cases ae with
  |nil=>cases k<;>simp [kq]at h
  |cons h1 h2=>
   cases ba with
   |nil=>cases k<;>(cases h1<;>simp [kq]at h)
   |cons ak aJ=>
    cases k with
    |int=>
     cases h1<;>first|(simp [kq]at h;done)|skip
     cases ak<;>first|(simp [kq]at h;done)|skip
     simp only[kq]at h
     split at h
     ·rename_i ad
      rw[du]at h
      obtain⟨q,br,rfl⟩:=h
      simp only[hG,aP ad,a6 h2 aJ br,dw]
     ·cases h
    |bool=>
     cases h1<;>first|(simp [kq]at h;done)|skip
     cases ak<;>first|(simp [kq]at h;done)|skip
     simp only[kq,du]at h
     obtain⟨q,br,rfl⟩:=h
     simp only[hG,a6 h2 aJ br,dw]
    |str=>
     cases h1<;>first|(simp [kq]at h;done)|skip
     cases ak<;>first|(simp [kq]at h;done)|skip
     simp only[kq,du]at h
     obtain⟨q,br,rfl⟩:=h
     simp only[hG,a6 h2 aJ br,dw]
theorem XP{dc:List fk}{neg:Bool}{x au v:U}{b c_:Value}(ae:bs μ φ x b)(ba:bs μ φ au c_)(h:lT dc neg x au=y v):∃v',ya dc neg b c_=y v'/\bs μ φ v v':=by
 unfold lT at h
 split at h
 ·rw[du]at h
  obtain⟨r,an,rfl⟩:=h
  cases ae with|agg ae=>cases ba with|agg ba=>
   refine⟨_,?_,.bool _⟩
   simp only[ya,XO ae ba an,dw]
 ·cases h
theorem XQ{op:UnOp}{x v:U}{b:Value}(ae:bs μ φ x b)(h:dq op x=y v):∃v',AV op b=y v'/\bs μ φ v v':=by
 unfold dq at h
 split at h<;>first|(cases h;cases ae;exact⟨_,rfl,by constructor⟩)|cases h
theorem XR{x v:U}{b:Value}(ae:bs μ φ x b)(h:Ir x=y v):∃v',AW b=y v'/\bs μ φ v v':=by
 unfold Ir at h
 split at h<;>first|(cases h;cases ae;exact⟨_,rfl,by constructor⟩)|cases h
theorem XS{k:IntKind}{x v:U}{b:Value}(ae:bs μ φ x b)(h:mV k x=y v):∃v',AX k b=y v'/\bs μ φ v v':=by
 unfold mV at h
 split at h<;>first|(cases h;cases ae;exact⟨_,rfl,by constructor⟩)|cases h
theorem XT{str:Bool}{x v:U}{b:Value}(ae:bs μ φ x b)(h:bB str x=y v):∃v',AY str b=y v'/\bs μ φ v v':=by
 unfold bB at h
 split at h
 ·cases h;cases ae;exact⟨_,rfl,.int _ _⟩
 ·cases h;cases ae;exact⟨_,rfl,.int _ _⟩
 ·cases h;cases ae;exact⟨_,rfl,.int _ _⟩
 ·cases h
  cases ae with
  |nK=>exact⟨_,rfl,.int _ _⟩
  |mu=>exact⟨_,rfl,.int _ _⟩
  |bE aA=>subst aA;exact⟨_,rfl,.int _ _⟩
 ·cases h
  cases ae with
  |j1=>exact⟨_,rfl,.int _ _⟩
  |ref=>exact⟨_,rfl,.int _ _⟩
 ·cases h
theorem XU{c x au v:U}{e g c_:Value}(aa:bs μ φ c e)(ae:bs μ φ x g)(ba:bs μ φ au c_)(h:Is c x au=y v):∃v',vv e g c_=y v'/\bs μ φ v v':=by
 unfold Is at h
 split at h
 ·rename_i b
  cases h
  cases aa
  refine⟨_,rfl,?_⟩
  cases b
  ·exact ba
  ·exact ae
 ·cases h
theorem XV{x v:U}{i:Nat}{b:Value}(ae:bs μ φ x b)(h:ek x i=y v):∃v',yb b i=y v'/\bs μ φ v v':=by
 unfold ek at h
 split at h
 ·cases ae with|tuple ae=>
   obtain⟨au,h1,h2⟩:=ae.get h
   exact⟨au,by simpa [yb]using h1,h2⟩
 ·cases h
theorem Nv{agg:Bool}{off size:Nat}{cs:List U}{v:U}{b:List Value}(ae:bU μ φ cs b)(h:e7 agg off size cs=y v):∃v',vw agg off size b=y v'/\bs μ φ v v':=by
 unfold e7 at h
 cases agg with
 |true=>
  simp only at h
  split at h
  ·rename_i fm
   cases h
   rw[ae.length]at fm
   exact⟨_,by unfold vw;simp only;rw[aP fm],.agg ((ae.drop _).take _)⟩
  ·cases h
 |false=>
  obtain⟨au,h1,h2⟩:=ae.get h
  exact⟨au,h1,h2⟩
theorem XW{agg:Bool}{off size:Nat}{x v:U}{b:Value}(ae:bs μ φ x b)(h:wm agg off size x=y v):∃v',AZ agg off size b=y v'/\bs μ φ v v':=by
 unfold wm at h
 split at h
 ·cases ae with|agg ae=>exact Nv ae h
 ·cases h
theorem XX{n:Nat}{agg:Bool}{size:Nat}{x i v:U}{b c:Value}(ae:bs μ φ x b)(ai:bs μ φ i c)(h:rT n agg size x i=y v):∃v',yc n agg size b c=y v'/\bs μ φ v v':=by
 unfold rT at h
 split at h
 ·cases ae with|agg ae=>
   cases ai
   split at h
   ·rename_i e
    simp only[yc]
    rw[aP e]
    exact Nv ae h
   ·cases h
 ·cases h
theorem XY{x i v:U}{c e:Value}(ae:bs μ φ x c)(ai:bs μ φ i e)(h:mW x i=y v):∃v',yd c e=y v'/\bs μ φ v v':=by
 unfold mW at h
 split at h
 ·cases ae;cases ai
  split at h
  ·rename_i g
   rw[du]at h
   obtain⟨b,h1,rfl⟩:=h
   refine⟨_,?_,.int _ _⟩
   simp only[yd]
   rw[aP g,h1]
   rfl
  ·cases h
 ·cases h
theorem Nw{off:Nat}{x v:U}{b:Value}(ae:bs μ φ x b)(h:aq off x=y v):∃v',vx off b=y v'/\bs μ φ v v':=by
 unfold aq at h
 split at h
 ·cases h;cases ae with|ptr h1=>exact⟨_,rfl,.ptr h1⟩
 ·cases h;cases ae with|fz h1 h2 ak aJ=>exact⟨_,rfl,by rw[Nat.add_assoc];exact .fz h1 h2 ak aJ⟩
 ·cases h;cases ae with|gS h1=>exact⟨_,rfl,by rw[Nat.add_assoc];exact .gS h1⟩
 ·cases h
theorem my{α:Type}{rows:List (List α)}{size:Nat}(aB:∀r∈rows,r.length=size):rows.flatten.length=rows.length*size:=by
 induction rows with
 |nil=>simp
 |cons r rows a6=>simp [aB r (by simp),a6 λq br=>aB q (by simp [br]),iL,Nat.add_comm]
theorem XZ{α:Type}{rows:List (List α)}{size:Nat}(aB:∀r∈rows,r.length=size){i:Nat}{r:List α}(ai:rows[i]?=y r):(rows.flatten.drop (i*size)).take size=r:=by
 induction rows generalizing i with
 |nil=>cases ai
 |cons q rows a6=>
  cases i with
  |zero=>
   have e:q=r:=by simpa using ai
   subst e
   have:=aB q (by simp)
   rw[nq,oZ,mh,<-this,vm]
  |succ i=>
   have br:=aB q (by simp)
   rw[mh,show(i+1)*size=q.length+i*size by rw[iL];omega,VA]
   exact a6 (λq br=>aB q (by simp [br])) ai
theorem wx{α:Type}{rows:List (List α)}{size:Nat}(aB:∀r∈rows,r.length=size)(k:Nat):(rows.take k).flatten=rows.flatten.take (k*size):=by
 induction rows generalizing k with
 |nil=>simp
 |cons r rows a6=>
  cases k with
  |zero=>simp
  |succ k=>
   have an:=aB r (by simp)
   rw[List.take_succ_cons,mh,mh,a6 (λq br=>aB q (by simp [br])),List.take_append,show(k+1)*size-r.length=k*size by rw[iL];omega,vh (l:=r) (by rw[iL];omega)]
theorem BM{α:Type}{rows:List (List α)}{size:Nat}(aB:∀r∈rows,r.length=size)(k:Nat):(rows.drop k).flatten=rows.flatten.drop (k*size):=by
 induction rows generalizing k with
 |nil=>simp
 |cons r rows a6=>
  cases k with
  |zero=>simp
  |succ k=>
   have an:=aB r (by simp)
   rw[List.drop_succ_cons,mh,a6 (λq br=>aB q (by simp [br])),List.drop_append,show(k+1)*size-r.length=k*size by rw[iL];omega,List.drop_of_length_le (l:=r) (by rw[iL];omega),hV]
theorem BN{n size i:Nat}(ai:i<n):i*size+size<=n*size:=by
 have:=qD size (show i+1<=n by omega)
 rw[iL]at this;omega
theorem bU.row{rows:List (List U)}{sz:Nat}{vs:List Value}{o:Nat}(c7:∀r∈rows,r.length=sz)(an:bU μ φ rows.flatten ((vs.drop o).take (rows.length*sz))){i:Nat}{row:List U}(ai:rows[i]?=y row):
 bU μ φ row ((vs.drop (o+i*sz)).take sz):=by
 have:=(an.drop (i*sz)).take sz
 rw[XZ c7 ai,x4,sx,vb,ns (by have:=BN (size:=sz) (nN ai);omega)]at this
 exact this
theorem X0{size:Nat}{x i v:U}{g m:Value}(ae:bs μ φ x g)(ai:bs μ φ i m)(h:bY size x i=y v):∃v',vy size g m=y v'/\bs μ φ v v':=by
 unfold bY at h
 split at h
 ·rename_i wy rows k j
  cases ai
  split at h
  ·rename_i e
   obtain⟨e,rfl⟩:=e
   rw[du]at h
   obtain⟨row,h1,rfl⟩:=h
   have p:=nN h1
   cases ae with
   |nK=>cases h1
   |mu=>cases h1
   |@bE _ sz a o n c vs t eK aA aa c7 mv ax ah an=>
    subst aA
    have aG:=c7 row (dN h1)
    have fm:=BN (size:=wy) p
    refine⟨iO a (o+j.toNat*wy),?_,?_⟩
    ·simp only[vy]
     rw[aP (by omega)]
    ·have q:=bU.row c7 an h1
     have:=bs.fz (off:=0) mv (o:=o+j.toNat*wy) (row:=row) (μ:=μ) (by omega) (List.all_eq_true.2 λz bu=>List.all_eq_true.1 ah z (List.mem_flatten.2 ⟨row,dN h1,bu⟩)) (by rw[aG];exact q)
     exact this
  ·cases h
 ·rename_i b lo n ver sz k j
  cases ai
  split at h
  ·rename_i e
   obtain⟨h1,h2,ak⟩:=e
   cases h
   subst ak
   cases ae with
   |j1=>omega
   |@ref _ _ _ _ _ c l hm aA aa=>
    refine⟨iO l.blk (lo*sz+j.toNat*sz),?_,?_⟩
    ·simp only[vy]
     rw[aP ⟨h1,h2⟩]
    ·rw[<-iL]
     exact .gS (off:=0) hm
  ·cases h
 ·cases h
theorem X1(n size:Nat)(x:Value)(k:IntKind)(j:Int)(b:0<=j/\j<n):vz n size x (.int k j)=vx (j.toNat*size) x:=by
 unfold vz vx
 cases x with
 |pointer a=>
  cases a with
  |none=>rfl
  |some a=>simp only;rw[aP b]
 |_=>rfl
theorem X2{n size:Nat}{x i v:U}{b c:Value}(ae:bs μ φ x b)(ai:bs μ φ i c)(h:It n size x i=y v):∃v',vz n size b c=y v'/\bs μ φ v v':=by
 unfold It at h
 split at h
 ·cases ai
  split at h
  ·rename_i e
   rw[X1 _ _ _ _ _ e]
   exact Nw ae h
  ·cases h
 ·cases h
theorem X3{x v:U}{b:Value}(ae:bs μ φ x b)(h:fS x=y v):∃v',HB b=y v'/\bs μ φ v v':=by
 unfold fS at h
 split at h
 ·cases h;cases ae with|ptr h1=>exact⟨_,rfl,.ptr h1⟩
 ·cases h;cases ae with|fz h1 h2 ak aJ=>exact⟨_,rfl,.fz h1 h2 ak aJ⟩
 ·cases h;cases ae with|gS h1=>exact⟨_,rfl,.gS h1⟩
 ·cases h;cases ae with|func _ h1 h2=>exact⟨_,rfl,.func _ h1 h2⟩
 ·cases h
inductive h7(μ:Ren)(φ:dD):Option U->Option Value->Prop
 |none:h7 μ φ none none
 |some {x:U} {au:Value} (h:bs μ φ x au):h7 μ φ (y x) (y au)
theorem mY{d:Nat}{x:Option U}{b:Option Value}{gO n:Nat}(ae:h7 μ φ x b)(h:k3 d x gO=y n):il d b gO=y n:=by
 unfold k3 at h
 split at h
 ·cases ae;exact h
 ·cases ae with|some ae=>cases ae;exact h
 ·cases h
theorem mz{d:Nat}{x:Option Value}{gO n:Nat}(h:il d x gO=y n)(hd:d<=gO):n<=gO:=by
 unfold il at h
 split at h
 ·cases h;exact hd
 ·split at h
  ·cases h;omega
  ·cases h
 ·cases h
theorem qY{d b:Nat}{x:Option Value}{m fl n:Nat}(h:il d x m=y n)(hm:m<=fl)(hd:x=none->b=d):il b x fl=y n:=by
 unfold il at h|-
 split at h
 ·cases h;rw[hd rfl]
 ·split at h
  ·cases h;rw[aP (by omega)]
  ·cases h
 ·cases h
theorem IE{rows:List (List U)}{sz a o:Nat}{vs:List Value}{t:a1}{eK:Bool}(c7:∀r∈rows,r.length=sz)(mv:φ a=y (.cells vs t eK))(ax:o+rows.length*sz<=vs.length)(ah:rows.flatten.all fR=V)
 (an:bU μ φ rows.flatten ((vs.drop o).take (rows.length*sz))) {l h:Nat} (b:l<=h) (e:h<=rows.length) (g:rows.length<eQ) {c:Nat} (aa:h-l<=c):bs μ φ (.bE sz ((rows.take h).drop l)) (.slice (y ⟨a,o+l*sz,none⟩) (h-l) c):=by
 have bz:((rows.take h).drop l).length=h-l:=by simp;omega
 have fm:l*sz+(h-l)*sz<=rows.length*sz:=by rw[<-iL];exact qD _ (by omega)
 refine .bE (sz:=sz) bz.symm ⟨aa,by omega⟩ (λr an=>c7 r (o0 (sB an))) mv (by omega) (List.all_eq_true.2 λz bu=>?_) ?_
 ·obtain⟨r,h1,h2⟩:=List.mem_flatten.1 bu
  exact List.all_eq_true.1 ah z (List.mem_flatten.2 ⟨r,o0 (sB h1),h2⟩)
 ·have h1:=(an.drop (l*sz)).take ((h-l)*sz)
  rw[BM (size:=sz) (λr an=>c7 r (o0 an)),wx c7,x4]
  rw[x4,sx,vb,ns (by omega)]at h1
  rw[show h*sz-l*sz=(h-l)*sz by rw[Nat.sub_mul]]
  exact h1
theorem none_or(x:Option Value):x=none\/∃au,x=y au:=by cases x<;>simp
theorem IF{size n h l:Nat}{a:Option Addr}{lo ai:Option Value}(aF:il n ai n=y h)(b:il 0 lo h=y l):
 o1 size (.slice a n eQ) lo ai none=y (.slice (a.map λa=>⟨a.block,a.off+l*size,none⟩) (h-l) eQ):=by
 have aG:il n (none:Option Value) n=y n:=rfl
 simp only[o1,a_,aG,dy,aF,b]
theorem Nx{size n m h l:Nat}{a:Option Addr}{lo ai:Option Value}{mx:Value}(aG:il n (y mx) n=y m)(aF:il n ai m=y h)(b:il 0 lo h=y l)(aA:n<eQ):
 o1 size (.slice a n eQ) lo ai (y mx)=y (.slice (if m=l then a else a.map λa=>⟨a.block,a.off+l*size,none⟩) (h-l) (m-l)):=by
 have c:=mz aG (cj _)
 simp only[o1,a_,aG,dy,aF,b]
 rw[aP (by omega)]
theorem qZ{size n c m h l:Nat}{a:Option Addr}{lo ai mx:Option Value}(aa:c≠eQ)(aG:il c mx c=y m)(aF:il n ai m=y h)(b:il 0 lo h=y l):
 o1 size (.slice a n c) lo ai mx=y (.slice (if m=l then a else a.map λa=>⟨a.block,a.off+l*size,none⟩) (h-l) (m-l)):=by
 simp only[o1,aW aa,aG,dy,aF,b]
theorem y3(sz:Nat)(a:Option Addr)(c:Nat)(h:a=none->c=0):bs μ φ (.bE sz []) (.slice a 0 c):=by
 cases a with
 |none=>rw[h rfl];exact .nK sz
 |some a=>exact .mu sz a c
theorem X4{α:Type}{l:List α}{h b:Nat}(e:h=b):(l.take h).drop b=[]:=by subst e;rw[List.drop_eq_nil_of_le];simp;omega
theorem X5{size:Nat}{x v:U}{lo ai mx:Option U}{D:Value}{A E mx':Option Value}(ae:bs μ φ x D)(j:h7 μ φ lo A)(k:h7 μ φ ai E)(p:h7 μ φ mx mx')
 (h:rU size x lo ai mx=y v):∃v',o1 size D A E mx'=y v'/\bs μ φ v v':=by
 have u:(0:Nat)≠eQ:=by decide
 unfold rU at h
 split at h
 ·simp only[cX]at h
  obtain⟨m,h1,a,h2,b,ak,aJ⟩:=h
  cases aJ
  cases ae
  have aG:=mY p h1
  have aF:=mY k h2
  have g:=mY j ak
  obtain rfl:m=0:=by have:=mz aG (cj _);omega
  obtain rfl:a=0:=by have:=mz aF (cj _);omega
  obtain rfl:b=0:=by have:=mz g (cj _);omega
  exact⟨_,qZ u aG aF g,.a7⟩
 ·simp only[cX]at h
  obtain⟨m,h1,a,h2,b,ak,aJ⟩:=h
  cases aJ
  cases ae with
  |emp hk=>
   have aG:=mY p h1
   have aF:=mY k h2
   have g:=mY j ak
   obtain rfl:m=0:=by have:=mz aG (cj _);omega
   obtain rfl:a=0:=by have:=mz aF (cj _);omega
   obtain rfl:b=0:=by have:=mz g (cj _);omega
   exact⟨_,qZ u aG aF g,.emp _⟩
 ·rename_i sz rows
  split at h
  ·rename_i B
   subst B
   split at h
   ·simp only[cX]at h
    obtain⟨a,h2,b,ak,aJ⟩:=h
    cases aJ
    cases p
    have aF:=mY k h2
    have g:=mY j ak
    have i:=mz aF (cj _)
    have w:=mz g (hO _)
    cases ae with
    |nK=>
     obtain rfl:a=0:=by simpa using i
     obtain rfl:b=0:=by omega
     exact⟨_,qZ u (m:=0) rfl aF g,.nK _⟩
    |mu _ hk c=>
     obtain rfl:a=0:=by simpa using i
     obtain rfl:b=0:=by omega
     by_cases aa:c=eQ
     ·subst aa
      exact⟨_,IF aF g,.mu _ _ _⟩
     ·refine⟨_,qZ aa (m:=c) rfl (qY aF (hO _) λ_=>rfl) g,?_⟩
      split<;>exact .mu _ _ _
    |@bE _ _ hk o n c vs t eK aA aa c7 mv ax ah an=>
     subst aA
     by_cases z:c=eQ
     ·subst z
      exact⟨_,IF aF g,IE c7 mv ax ah an w i aa.2 (by omega)⟩
     ·refine⟨_,qZ z (m:=c) rfl (qY aF aa.1 λ_=>rfl) g,?_⟩
      split
      ·rename_i M
       have e:a=b:=by omega
       rw[X4 e,show a-b=0 by omega]
       exact .mu _ _ _
      ·exact IE c7 mv ax ah an w i aa.2 (by omega)
   ·rename_i sO
    split at h
    case h_2=>cases h
    rename_i ay
    simp only[cX]at h
    obtain⟨m,h1,a,h2,b,ak,aJ⟩:=h
    cases aJ
    cases p with|@some _ F J=>
    cases k with|@some _ G K=>
    have aG:=mY (h7.some J) h1
    have aF:=mY (h7.some K) h2
    have g:=mY j ak
    have H:=mz aG (hO _)
    have w:=mz g (hO _)
    cases ae with
    |nK=>
     obtain rfl:m=0:=by simpa using H
     have i:=mz aF (cj _)
     obtain rfl:a=0:=by simpa using i
     obtain rfl:b=0:=by omega
     exact⟨_,qZ u (qY aG (cj _) λh=>by cases h) aF g,.emp _⟩
    |mu _ hk c=>
     obtain rfl:m=0:=by simpa using H
     have i:=mz aF (cj _)
     obtain rfl:a=0:=by simpa using i
     obtain rfl:b=0:=by omega
     by_cases aa:c=eQ
     ·subst aa
      exact⟨_,Nx (qY aG (cj _) λh=>by cases h) aF g (by decide),.emp _⟩
     ·exact⟨_,qZ aa (qY aG (hO _) λh=>by cases h) aF g,.emp _⟩
    |@bE _ _ hk o n c vs t eK aA aa c7 mv ax ah an=>
     subst aA
     have ks:∀(q:Value),o1 sz (.slice (y ⟨hk,o,none⟩) rows.length c) A (y G) (y F)=y (.slice (if m=b then y ⟨hk,o,none⟩else(y (⟨hk,o,none⟩:Addr)).map λa=>⟨a.block,a.off+b*sz,none⟩) (a-b) (m-b))->
      a<=m->∃v',o1 sz (.slice (y ⟨hk,o,none⟩) rows.length c) A (y G) (y F)=y v'/\bs μ φ (if m=b then .emp else .bE sz ((rows.take a).drop b)) v':=by
      intro _ aB C
      refine⟨_,aB,?_⟩
      split
      ·rename_i N
       rw[show a-b=0 by omega,show m-b=0 by omega]
       exact .emp _
      ·exact IE c7 mv ax ah an w (by omega) aa.2 (by omega)
     have C:a<=m:=mz aF (hO _)
     by_cases z:c=eQ
     ·subst z
      exact ks (.int .i64 0) (Nx (qY aG (cj _) λh=>by cases h) (qY aF (cj _) λh=>by cases h) g aa.2) C
     ·exact ks (.int .i64 0) (qZ z (qY aG aa.1 λh=>by cases h) (qY aF (cj _) λh=>by cases h) g) C
  ·cases h
 ·rename_i cm I n j2 sz
  split at h
  ·rename_i B
   subst B
   split at h
   ·simp only[cX]at h
    obtain⟨a,h2,b,ak,aJ⟩:=h
    cases aJ
    cases p
    have aF:=mY k h2
    have g:=mY j ak
    have i:=mz aF (cj _)
    have w:=mz g (hO _)
    cases ae with
    |j1 _ hk hm=>
     obtain rfl:a=0:=by omega
     obtain rfl:b=0:=by omega
     rw[aP rfl]
     exact⟨_,qZ u (m:=0) rfl aF g,y3 _ _ _ λ_=>rfl⟩
    |@ref _ _ _ _ _ c l hm aA aa=>
     rcases aa with⟨rfl,aa⟩|⟨O,jc,P⟩
     ·refine⟨_,IF aF g,?_⟩
      split
      ·rename_i L
       rw[show a-b=0 by omega]
       exact .mu _ _ _
      ·show bs μ φ _ (.slice (y ⟨l.blk,I*sz+b*sz,none⟩) _ _)
       rw[<-iL]
       exact .ref hm (by omega) (.inl ⟨rfl,by omega⟩)
     ·refine⟨_,qZ (by omega) (m:=c) rfl (qY aF jc λ_=>rfl) g,?_⟩
      split
      ·rename_i L
       rw[show a-b=0 by omega]
       exact y3 _ _ _ λh=>by split at h<;>cases h
      ·rw[aW (by omega)]
       show bs μ φ _ (.slice (y ⟨l.blk,I*sz+b*sz,none⟩) _ _)
       rw[<-iL]
       exact .ref hm (by omega) (.inr ⟨by omega,by omega,by omega⟩)
   ·cases h
  ·cases h
 ·cases h
theorem X6{x v:U}{lo ai:Option U}{c:Value}{e g:Option Value}(ae:bs μ φ x c)(i:h7 μ φ lo e)(j:h7 μ φ ai g)(h:Iu x lo ai=y v):∃v',ye c e g=y v'/\bs μ φ v v':=by
 unfold Iu at h
 split at h
 ·cases ae
  rw[cX]at h
  obtain⟨a,h1,h⟩:=h
  rw[cX]at h
  obtain⟨b,h2,h⟩:=h
  cases h
  refine⟨_,?_,.str _⟩
  simp only[ye,mY j h1,mY i h2,dy]
 ·cases h
theorem X7{x au v:U}{b c_:Value}(ae:bs μ φ x b)(ba:bs μ φ au c_)(h:Iv x au=y v):∃v',yf b c_=y v'/\bs μ φ v v':=by
 unfold Iv at h
 split at h
 ·cases ae;cases ba
  split at h
  ·rename_i ad;cases h;exact⟨_,by simp only[yf];rw[aP ad],.int _ _⟩
  ·cases h
 ·cases h
theorem X8{x au v:U}{b c_:Value}(ae:bs μ φ x b)(ba:bs μ φ au c_)(h:Iw x au=y v):∃v',yg b c_=y v'/\bs μ φ v v':=by
 unfold Iw at h
 split at h
 ·cases ae;cases ba
  split at h
  ·rename_i ad;cases h;exact⟨_,by simp only[yg];rw[aP ad],.int _ _⟩
  ·cases h
 ·cases h
theorem X9{f:U->U->Option U}{g:Value->Value->Option Value}(c:∀x au v b c_,bs μ φ x b->bs μ φ au c_->f x au=y v->∃v',g b c_=y v'/\bs μ φ v v'):
 ∀{l:List U} {cK:List Value} {x v:U} {b:Value},bU μ φ l cK->bs μ φ x b->BG f x l=y v->∃v',vA g b cK=y v'/\bs μ φ v v':=by
 intro l
 induction l with
 |nil=>intro cK x v b ax ae h;cases ax;cases h;exact⟨_,rfl,ae⟩
 |cons au r a6=>
  intro cK x v b ax ae h
  cases ax with|cons h1 h2=>
   simp only[BG,cX]at h
   obtain⟨z,bu,h⟩:=h
   obtain⟨e,bw,bD⟩:=c _ _ _ _ _ ae h1 bu
   obtain⟨v',da,c1⟩:=a6 h2 bD h
   exact⟨v',by simp only[vA,bw,dy,da],c1⟩
theorem Ny{f:U->U->Option U}{g:Value->Value->Option Value}(c:∀x au v b c_,bs μ φ x b->bs μ φ au c_->f x au=y v->∃v',g b c_=y v'/\bs μ φ v v')
 {l:List U} {cK:List Value} {v:U} (ax:bU μ φ l cK) (h:Ix f l=y v):∃v',HD g cK=y v'/\bs μ φ v v':=by
 cases ax with
 |nil=>cases h
 |cons h1 h2=>exact X9 c h2 h1 h
inductive y4(μ:Ren)(φ:dD):List (Nat×Nat×U)->List (Nat×Nat×Value)->Prop
 |nil:y4 μ φ [] []
 |cons {i n:Nat} {x:U} {au:Value} {xs:List (Nat×Nat×U)} {ys:List (Nat×Nat×Value)} (h:bs μ φ x au) (aB:y4 μ φ xs ys):y4 μ φ ((i,n,x)::xs) ((i,n,au)::ys)
theorem IG:∀{bH:List (Nat×Nat×U)} {b:List (Nat×Nat×Value)} {cs:List U} {c:List Value} {r:List U},bU μ φ cs c->y4 μ φ bH b->cV cs bH=y r->∃dO,pQ c b=y dO/\bU μ φ r dO:=by
 intro bH
 induction bH with
 |nil=>intro b cs c r aa ah h;cases ah;cases h;exact⟨_,rfl,aa⟩
 |cons p bH a6=>
  intro b cs c r aa ah h
  cases ah with
  |@cons i n x au _ ys h1 h2=>
   simp only[cV]at h
   split at h
   ·rename_i ad
    obtain⟨bw,bD,da⟩:=ad
    have e:=h1.cells (by omega)
    obtain⟨dO,c1,fE⟩:=a6 ((((aa.take i).append e)).append (aa.drop (i+n))) h2 h
    refine⟨dO,?_,fE⟩
    simp only[pQ]
    rw[aP ⟨by rw[<-e.length];exact bw,by rw[<-aa.length];exact da⟩]
    exact c1
   ·cases h
end Go.aM
namespace Go.aM
open Go.bF
variable {μ : Ren} {φ : dD} {ah : Z} {ha : aX}
def y5(μ:Ren)(φ:dD)(ha:aX)(a o:Nat)(row:List U):Prop:=∃vs t rw,ha[a]?=y (.cells vs t rw)/\o+row.length<=vs.length/\bU μ φ row ((vs.drop o).take row.length)
theorem y5.load{a o:Nat}{row:List U}(w:y5 μ φ ha a o row){agg:Bool}{off n:Nat}{v:U}(h:e7 agg off n row=y v):∃v',oh agg n (.pointer (y ⟨a,o+off,none⟩)) ha=y v'/\bs μ φ v v':=by
 obtain⟨vs,t,eK,h1,h2,ak⟩:=w
 unfold e7 at h
 cases agg with
 |true=>
  simp only at h
  split at h
  ·rename_i fm
   cases h
   have aJ:=(ak.drop off).take n
   rw[x4,sx,vb,ns (by omega)]at aJ
   refine⟨.agg ((vs.drop (o+off)).take n).toArray,?_,.agg aJ⟩
   simp only[oh,jX,h1]
   rw[aP (by omega)]
   rfl
  ·cases h
 |false=>
  simp only at h
  obtain⟨au,bw,bD⟩:=ak.get h
  refine⟨au,?_,bD⟩
  rw[Hr,aP (nN h),pK]at bw
  simp only[oh,pS,h1]
  exact bw
theorem X_{b:Nat}{vs:List U}{t:a1}{md:ep}{l:bF.Loc}(s:c3 μ φ ah ha)(af:ah[b]?=y (.box vs t md))(e:μ b 0=y (y l)):y5 μ φ ha l.blk 0 vs:=by
 rcases s.rel b _ af (by simp)with⟨_,_,_,_,h⟩|⟨cK,blk',h1,h2,ak⟩
 ·cases h
 ·have:μ b 0=y (y cK):=h1
  rw[e]at this
  cases this
  obtain⟨ck,eK,rfl,bw,bD,da⟩:=ak
  exact⟨ck,t,eK,h2,by omega,by simpa using bD⟩
theorem r0{b:Nat}{rows:List (List U)}{sz:Nat}{t:a1}{md:ep}{l:bF.Loc}(s:c3 μ φ ah ha)(af:ah[b]?=y (.log rows sz t md))(e:μ b rows.length=y (y l)):
 ∃vs rw,ha[l.blk]?=y (.cells vs t rw)/\rows.length*sz<=vs.length/\bU μ φ rows.flatten (vs.take (rows.length*sz))/\(∀r∈rows,r.length=sz)/\l.K*sz<=vs.length/\(pj md=V->rw=V)/\rows.length<=dp:=by
 rcases s.rel b _ af (by simp)with⟨h,_⟩|⟨cK,blk',h1,h2,ak⟩
 ·have:μ b rows.length=y none:=h
  rw[e]at this
  cases this
 ·have:μ b rows.length=y (y cK):=h1
  rw[e]at this
  cases this
  obtain⟨ck,eK,rfl,bw,bD,da,c1,fE,c⟩:=ak
  exact⟨ck,eK,h2,bw,bD,da,c1,fE,c⟩
theorem X'{b i:Nat}{rows:List (List U)}{row:List U}{sz:Nat}{t:a1}{md:ep}{l:bF.Loc}(s:c3 μ φ ah ha)(af:ah[b]?=y (.log rows sz t md))(e:μ b rows.length=y (y l))(ai:rows[i]?=y row):y5 μ φ ha l.blk (i*sz) row:=by
 obtain⟨vs,eK,h1,h2,ak,aJ,_⟩:=r0 s af e
 have an:=bU.row (o:=0) aJ (by simpa using ak) ai
 have aG:=aJ row (dN ai)
 have:=BN (size:=sz) (nN ai)
 exact⟨vs,t,eK,h1,by omega,by rw[aG];simpa using an⟩
theorem Nz(s:c3 μ φ ah ha){agg:Bool}{n:Nat}{x v:U}{c:Value}(ae:bs μ φ x c)(h:ab agg n x ah=y v):∃v',oh agg n c ha=y v'/\bs μ φ v v':=by
 unfold ab at h
 split at h
 ·rename_i b o
  simp only[cX]at h
  obtain⟨vs,h1,h2⟩:=h
  cases ae with|@ptr _ _ l hm=>
   unfold kr at h1
   split at h1
   ·rename_i af
    cases h1
    have:=(X_ s af hm).load h2
    rwa [hh]at this
   ·cases h1
 ·cases ae with|fz h1 h2 ak aJ=>exact y5.load ⟨_,_,_,s.bE _ _ h1,h2,aJ⟩ h
 ·rename_i b i off j2 sz
  simp only[cX]at h
  obtain⟨rows,h1,row,h2,ak⟩:=h
  cases ae with|@gS _ _ _ _ _ l hm=>
   unfold sT at h1
   split at h1
   ·rename_i e sz' _ _ af
    cases aa:(cM e.length j2&&cM sz' sz)with
    |false=>rw[aa]at h1;cases h1
    |true=>
     rw[aa]at h1
     cases h1
     rw[dn]at aa
     obtain rfl:=hW aa.1
     obtain rfl:=hW aa.2
     exact(X' s af hm h2).load ak
   ·cases h1
 ·cases h
theorem Ya{α:Type}{a l:List α}{o n:Nat}(h1:o+l.length<=n)(h2:n<=a.length):(a.take o++l++a.drop (o+l.length)).take n=(a.take n).take o++l++(a.take n).drop (o+l.length):=by
 rw[List.take_append,vh (l:=a.take o++l) (by simp;omega),sx,ns (by omega),x4]
 congr 2
 simp
 omega
theorem bU.put{vs l:List U}{ck cK:List Value}{o:Nat}(h:bU μ φ vs (ck.take vs.length))(ax:vs.length<=ck.length)(h':bU μ φ l cK)(b:o+l.length<=vs.length):
 bU μ φ (vs.take o++l++vs.drop (o+l.length)) ((ck.take o++cK++ck.drop (o+cK.length)).take vs.length):=by
 have e:=h'.length
 rw[Ya (by omega) ax]
 exact h.HQ h' o
theorem q0{α:Type}{vs l:List α}{o:Nat}(b:o+l.length<=vs.length):(vs.take o++l++vs.drop (o+l.length)).length=vs.length:=by simp;omega
theorem Yb{α:Type}{rows:List (List α)}{sz i o:Nat}{row l:List α}(aB:∀r∈rows,r.length=sz)(ai:rows[i]?=y row)(b:o+l.length<=row.length):
 (rows.set i (row.take o++l++row.drop (o+l.length))).flatten=rows.flatten.take (i*sz+o)++l++rows.flatten.drop (i*sz+o+l.length):=by
 induction rows generalizing i with
 |nil=>cases ai
 |cons r rows a6=>
  have an:=aB r (by simp)
  cases i with
  |zero=>
   have e:r=row:=by simpa using ai
   subst e
   rw[List.set_cons_zero,mh,mh,nq,hh,List.take_append_of_le_length (by omega),List.drop_append_of_le_length (by omega)]
   simp
  |succ i=>
   rw[List.set_cons_succ,mh,mh,a6 (λq br=>aB q (by simp [br])) (by simpa using ai)]
   rw[show(i+1)*sz+o=r.length+(i*sz+o)by rw[iL];omega,List.take_length_add_append,Nat.add_assoc r.length,VA]
   simp
theorem wz{vs l:List Value}{t:a1}{a o:Nat}(h1:ha[a]?=y (.cells vs t V))(h2:o+l.length<=vs.length)(ak:l.all bF.kV=V):og ha a o l=y (ha.set a (.cells (vs.take o++l++vs.drop (o+l.length)) t V)):=by
 unfold og
 rw[h1]
 show(if _ then y _ else none)=_
 rw[aP ⟨h2,ak⟩]
theorem NA{v:Value}{a o n:Nat}{cp:aX}(h1:(kU v).length=n)(h2:og ha a o (kU v)=y cp):sE n (.pointer (y ⟨a,o,none⟩)) v ha=y cp:=by
 simp only[sE]
 rw[aP h1]
 exact h2
theorem Yc(s:c3 μ φ ah ha){n:Nat}{x v:U}{j v':Value}{cd:Z}(ae:bs μ φ x j)(ay:bs μ φ v v')(h:bf n x v ah=y cd):∃cp,sE n j v' ha=y cp/\c3 μ φ cd cp/\Ext μ φ ah ha μ φ cd cp:=by
 unfold bf at h
 cases aA:(cM (cn v).length n&&fX 0 n)with
 |false=>rw[aA]at h;cases h
 |true=>
  rw[aA]at h
  simp only[gG]at h
  rw[dn]at aA
  have n1:=hW aA.1
  have n2:0<n:=sA aA.2
  have c:=ay.cells (by omega)
  split at h
  ·rename_i b o
   split at h
   ·rename_i vs t af
    rw[du]at h
    obtain⟨ck,h1,rfl⟩:=h
    unfold cF at h1
    split at h1
    ·rename_i aa
     cases h1
     cases ae with|@ptr _ _ l hm=>
      obtain⟨e,eK,bw,bD,da,c1⟩:∃e eK,ha[l.blk]?=y (.cells e t eK)/\vs.length<=e.length/\bU μ φ vs (e.take vs.length)/\eK=V:=by
       rcases s.rel b _ af (by simp)with⟨_,_,_,_,h⟩|⟨cK,blk',h1,h2,ak⟩
       ·cases h
       ·have:μ b 0=y (y cK):=h1
        rw[hm]at this
        cases this
        obtain⟨ck,eK,rfl,bw,bD,da⟩:=ak
        exact⟨ck,eK,h2,bw,bD,da rfl⟩
      subst c1
      have bz:=c.length
      refine⟨_,NA (by omega) (wz bw (by omega) (c.kV aa.2)),?_⟩
      have k:=q0 aa.1
      refine s.sX af trivial hm rfl ⟨_,V,rfl,?_,?_,λ_=>rfl⟩
      ·rw[k,q0 (by omega)];exact bD
      ·rw[k];exact da.put bD c aa.1
    ·cases h1
   ·cases h
  ·rename_i b i o j2 sz
   split at h
   ·rename_i rows sz' t af
    split at h
    ·rename_i aa
     obtain⟨rfl,rfl⟩:=aa
     simp only[cX,du]at h
     obtain⟨row,h1,row',h2,rfl⟩:=h
     unfold cF at h2
     split at h2
     ·rename_i aa
      cases h2
      cases ae with|@gS _ _ _ _ _ l hm=>
       obtain⟨vs,eK,bw,bD,da,c1,fE,m,gI⟩:=r0 s af hm
       obtain rfl:=m rfl
       have bz:=c.length
       have aG:=c1 row (dN h1)
       have fm:=BN (size:=sz') (nN h1)
       refine⟨_,NA (by omega) (wz bw (by omega) (c.kV aa.2)),?_⟩
       have g:=my c1
       have ay:ver (.log (rows.set i (row.take o++cn v++row.drop (o+(cn v).length))) sz' t .rw)=ver (.log rows sz' t .rw):=by simp [ver]
       refine s.sX af trivial hm ay ⟨_,V,rfl,?_,?_,?_,?_,λ_=>rfl,?_⟩
       ·rw[q0 (by omega),iz];exact bD
       ·rw[Yb c1 h1 aa.1,iz]
        have:=bU.put (o:=i*sz'+o) (by rw[g];exact da) (by rw[g];exact bD) c (by rw[g];omega)
        rw[g]at this
        exact this
       ·intro r an
        rcases List.mem_or_eq_of_mem_set an with h|rfl
        ·exact c1 r h
        ·rw[q0 aa.1];exact aG
       ·rw[q0 (by omega)];exact fE
       ·rw[iz];exact gI
     ·cases h2
    ·cases h
   ·cases h
  ·cases h
theorem Yd(l:List UInt8):bU μ φ (l.map λb=>[U.int .u8 b.toNat]).flatten (l.map λb=>Value.int .u8 b.toNat):=by
 induction l with
 |nil=>exact .nil
 |cons b l a6=>exact .cons (.int _ _) a6
theorem IH(s:c3 μ φ ah ha){sz:Nat}{x:U}{m:Value}{rows:List (List U)}(ae:bs μ φ x m)(h:kK sz x ah=y rows):
 lenOf m=y rows.length/\(∀r∈rows,r.length=sz)/\∀k,k<=rows.length->∃l,lP sz k m ha=y l/\bU μ φ (rows.take k).flatten l:=by
 unfold kK at h
 split at h
 ·cases h;cases ae
  refine⟨rfl,λr an=>(by cases an),λk ad=>?_⟩
  obtain rfl:k=0:=by simpa using ad
  exact⟨[],rfl,.nil⟩
 ·cases h;cases ae
  refine⟨rfl,λr an=>(by cases an),λk ad=>?_⟩
  obtain rfl:k=0:=by simpa using ad
  rename_i a
  cases a<;>exact⟨[],rfl,.nil⟩
 ·rename_i sz rows'
  split at h
  ·rename_i aB
   subst aB
   cases h
   cases ae with
   |nK=>
    refine⟨rfl,λr an=>(by cases an),λk ad=>?_⟩
    obtain rfl:k=0:=by simpa using ad
    exact⟨[],rfl,.nil⟩
   |mu=>
    refine⟨rfl,λr an=>(by cases an),λk ad=>?_⟩
    obtain rfl:k=0:=by simpa using ad
    exact⟨[],rfl,.nil⟩
   |@bE _ _ a o n c vs t eK aA aa c7 mv ax ah an=>
    subst aA
    refine⟨rfl,c7,λk ad=>?_⟩
    by_cases i:k=0
    ·subst i
     exact⟨[],by simp [lP],.nil⟩
    ·have fm:k*sz<=rows.length*sz:=qD _ ad
     have h1:=an.take (k*sz)
     rw[sx,ns fm,<-wx c7]at h1
     refine⟨_,?_,h1⟩
     simp only[lP]
     rw[aW i,aP ad]
     unfold jX
     rw[s.bE _ _ mv]
     show(if _ then y _ else none)=_
     rw[aP (by omega)]
  ·cases h
 ·rename_i b lo n j2 sz'
  split at h
  ·rename_i aA
   cases h
   subst aA
   have:∃a c,m=.slice a 0 c:=by cases ae<;>exact⟨_,_,rfl⟩
   obtain⟨a,c,rfl⟩:=this
   refine⟨rfl,λr an=>(by cases an),λk ad=>?_⟩
   obtain rfl:k=0:=by simpa using ad
   cases a<;>exact⟨[],rfl,.nil⟩
  ·rename_i aA
   split at h
   ·rename_i aB
    subst aB
    simp only[cX]at h
    obtain⟨q,h1,h2⟩:=h
    split at h2
    ·rename_i fm
     cases h2
     cases ae with
     |j1=>exact absurd rfl aA
     |@ref _ _ _ _ _ c l hm A aa=>
      unfold sT at h1
      split at h1
      ·rename_i u g B C af
       cases j:(cM u.length j2&&cM g sz')with
       |false=>rw[j]at h1;cases h1
       |true=>
        rw[j]at h1
        cases h1
        rw[dn]at j
        obtain rfl:=hW j.1
        obtain rfl:=hW j.2
        obtain⟨vs,eK,bw,bD,da,c1,fE,D,gI⟩:=r0 s af hm
        have bz:((q.drop lo).take n).length=n:=by simp;omega
        refine⟨by rw[bz];rfl,λr an=>c1 r (sB (o0 an)),λk ad=>?_⟩
        rw[bz]at ad
        by_cases i:k=0
        ·subst i
         exact⟨[],by simp [lP],.nil⟩
        ·have E:lo*g+k*g<=q.length*g:=by rw[<-iL];exact qD _ (by omega)
         have h1:=(da.drop (lo*g)).take (k*g)
         rw[<-BM c1,<-wx (size:=g) (λr an=>c1 r (sB an)),x4,sx,ns (by omega)]at h1
         refine⟨_,?_,by rw[sx,ns ad];exact h1⟩
         simp only[lP]
         rw[aW i,aP ad]
         unfold jX
         rw[bw]
         show(if _ then y _ else none)=_
         rw[aP (by omega)]
      ·cases h1
    ·cases h2
   ·cases h
 ·rename_i p
  split at h
  ·rename_i aB
   subst aB
   cases h
   cases ae with|str _=>
    refine⟨?_,λr an=>?_,λk ad=>?_⟩
    ·simp only[lenOf,c9,pL];rfl
    ·obtain⟨z,_,rfl⟩:=List.mem_map.1 an;rfl
    ·simp only[c9,pL]at ad
     have w:k<=p.size:=ad
     refine⟨(((p.extract 0 k).data.toList).map λb=>.int .u8 b.toNat),?_,?_⟩
     ·simp only[lP]
      rw[aP ⟨trivial,w⟩]
     ·have e:(p.extract 0 k).data.toList=p.data.toList.take k:=by
       rw[ByteArray.data_extract,Array.toList_extract]
       simp [List.extract]
      rw[e,<-List.map_take]
      exact Yd _
  ·cases h
 ·cases h
theorem wA{α:Type}{l:List α}{i:Nat}{x:α}(h:l[i]?=y x):l.set i x=l:=by
 refine fx λj=>?_
 by_cases b:j=i
 ·subst b;rw[qX (nN h),h]
 ·rw[mw b]
theorem II{aY:Ren}{rows:List (List U)}{vs:List Value}{sz:Nat}{t:a1}(h:bU μ φ rows.flatten vs)(hm:ev μ aY)(aB:∀r∈rows,r.length=sz)(ax:rows.length<=dp):fr aY φ 0 (.log rows sz t .rw) (.cells vs t V):=by
 have e:=h.length
 rw[my aB]at e
 exact⟨vs,V,rfl,by omega,by rw[e,iy];exact h.mono hm (gA.refl _),aB,by omega,λ_=>rfl,ax⟩
theorem IJ{new:List (List U)}{elem:a1}(b sz a:Nat)(h:0<new.length){sz':Nat}{md:ep}:bs (put μ b (ver (.log new sz' elem md)) (y ⟨a,0⟩)) φ (.ref b 0 new.length new.length sz) (.slice (y ⟨a,0,none⟩) (0+new.length) eQ):=by
 have:=bs.ref (μ:=put μ b new.length (y ⟨a,0⟩)) (φ:=φ) (b:=b) (lo:=0) (n:=new.length) (ver:=new.length) (sz:=sz) (c:=eQ) (jI _ _ _ _) (by omega) (.inl ⟨rfl,h⟩)
 rw[nq]at this
 rw[hh]
 exact this
theorem NB(s:c3 μ φ ah ha){elem:a1}{sz:Nat}{x v:U}{u:Value}{new:List (List U)}{j4:List Value}{cd:Z}(ae:bs μ φ x u)(g:bU μ φ new.flatten j4)(c7:∀r∈new,r.length=sz)
 (h:rV elem sz x new ah=y (v,cd)):∃v' cp aY,mN elem sz u new.length j4 ha=y (v',cp)/\bs aY φ v v'/\c3 aY φ cd cp/\Ext μ φ ah ha aY φ cd cp:=by
 unfold rV at h
 split at h
 ·rename_i E
  obtain⟨nD,R,F⟩:=E
  have G:=g.length
  rw[my c7]at G
  have w:=g.kV F
  have S:dp<eQ:=by decide
  have z:(0:Nat)≠eQ:=by decide
  have fresh:∀(a:Option Addr),0<new.length->mN elem sz (.slice a 0 0) new.length j4 ha=y (.slice (y ⟨ha.length,0,none⟩) (0+new.length) eQ,ha++[.cells ([]++j4) elem V]):=by
   intro a A
   simp only[mN]
   rw[aW z,aW (by omega),aP (by omega)]
   have:lP sz 0 (.slice a 0 0) ha=y []:=by cases a<;>rfl
   rw[this]
   rfl
  have same:∀(a:Option Addr),new.length=0->mN elem sz (.slice a 0 0) new.length j4 ha=y (.slice a 0 0,ha):=by
   intro a bu
   simp only[mN,bu]
   rw[aW z,aP (cj _)]
   cases a<;>rfl
  split at h
  ·cases ae
   split at h
   ·rename_i bu
    cases h
    exact⟨_,_,_,same none bu,.a7,s,Ext.refl _ _ _ _⟩
   ·rename_i bu
    cases h
    have ay:ver (.log new sz elem .rw)=new.length:=rfl
    obtain⟨bI,b0⟩:=s.push (.log new sz elem .rw) (.cells j4 elem V) 0 (II g (qW s _ _) c7 nD)
    refine⟨_,_,_,fresh none (by omega),?_,bI,b0⟩
    exact IJ ah.length sz ha.length (by omega)
  ·cases ae with|emp a=>
   split at h
   ·rename_i bu
    cases h
    exact⟨_,_,_,same a bu,.emp _,s,Ext.refl _ _ _ _⟩
   ·rename_i bu
    cases h
    obtain⟨bI,b0⟩:=s.push (.log new sz elem .rw) (.cells j4 elem V) 0 (II g (qW s _ _) c7 nD)
    refine⟨_,_,_,fresh a (by omega),?_,bI,b0⟩
    exact IJ ah.length sz ha.length (by omega)
  ·rename_i b lo n j2 sz'
   split at h
   ·rename_i rows eB t af
    split at h
    ·rename_i aa
     obtain⟨rfl,rfl,m,rfl,rfl,rfl,T⟩:=aa
     cases h
     have cb:k4 (.log rows eB t .rw):=trivial
     have B:∀r∈rows++new,(∀r∈rows,r.length=eB)->r.length=eB:=λr h k=>by
      rcases List.mem_append.1 h with h|h
      ·exact k r h
      ·exact c7 r h
     have j:0<new.length->ver (.log rows eB t .rw)<ver (.log (rows++new) eB t .rw):=λh=>by simp [ver];omega
     have p:∀(e1:List Value) (i:aX) (k:Nat),k=rows.length->0<new.length->bU μ φ rows.flatten e1->(∀r∈rows,r.length=eB)->i.length=ha.length->(∀a,(∀l,μ b rows.length=y (y l)->l.blk≠a)->i[a]?=ha[a]?)->
      ∃aY,bs aY φ (.ref b 0 (k+new.length) (k+new.length) eB) (.slice (y ⟨ha.length,0,none⟩) (k+new.length) eQ)/\c3 aY φ (ah.set b (.log (rows++new) eB t .rw)) (i++[.cells (e1++j4) t V])/\
       Ext μ φ ah ha aY φ (ah.set b (.log (rows++new) eB t .rw)) (i++[.cells (e1++j4) t V]):=by
      intro e1 i k ad A H ui bz I
      have J:=j A
      have fm:ev μ (put μ b (ver (.log (rows++new) eB t .rw)) (y ⟨ha.length,0⟩)):=y2 λo h=>by have:=s.top _ _ _ _ af cb.live h;omega
      obtain⟨bI,b0⟩:=s.grow (blk1:=.log (rows++new) eB t .rw) (K:=0) af cb J bz I (II (by rw[AM];exact H.append g) fm (λr h=>B r h ui) (by rw[dV,m];omega))
      refine⟨_,?_,bI,b0⟩
      have:=IJ (μ:=μ) (φ:=φ) (new:=rows++new) (elem:=t) b eB ha.length (by simp;omega) (sz':=eB) (md:=.rw)
      rw[dV,<-ad,hh]at this
      exact this
     cases ae with
     |j1 _ a hm=>
      have L:rows=[]:=gF m
      subst L
      by_cases bu:new.length=0
      ·have:new=[]:=gF bu
       subst this
       refine⟨_,_,μ,same a bu,.j1 _ _ hm,?_,?_⟩
       ·rw[fD,wA af];exact s
       ·rw[fD,wA af];exact Ext.refl _ _ _ _
      ·obtain⟨aY,bI,b0,dj⟩:=p [] ha 0 rfl (by omega) .nil (λr h=>by cases h) rfl (λ_ _=>rfl)
       exact⟨_,_,aY,fresh a (by omega),bI,b0,dj⟩
     |@ref _ _ _ _ _ c l hm aA aa=>
      subst m
      obtain⟨vs,eK,bw,bD,da,c1,fE,M,gI⟩:=r0 s af hm
      obtain rfl:=M rfl
      rw[nq]
      by_cases bu:new.length=0
      ·have:new=[]:=gF bu
       subst this
       rw[fD,wA af]
       refine⟨.slice (y ⟨l.blk,0,none⟩) rows.length c,ha,μ,?_,?_,s,Ext.refl _ _ _ _⟩
       ·rcases aa with⟨rfl,aa⟩|⟨C,jc,D⟩
        ·simp [mN]
        ·simp only[mN,List.length_nil,vc]
         rw[aW (by omega),aP jc]
         rfl
       ·have:=bs.ref (φ:=φ) (sz:=eB) hm (by omega) aa
        rw[nq]at this
        exact this
      ·have ui:=c1
       rcases aa with⟨rfl,aa⟩|⟨C,jc,D⟩
       ·obtain⟨aY,bI,b0,dj⟩:=p (vs.take (rows.length*eB)) (ha.set l.blk .dead) rows.length rfl (by omega) da c1 (by simp) (λa h=>mw λe=>h l hm e.symm)
        refine⟨_,_,aY,?_,bI,b0,dj⟩
        simp only[mN,a_,bw]
        rw[aW bu,aP ⟨bD,by omega,trivial,aa,w⟩]
       ·by_cases q:rows.length+new.length<=c
        ·have N:rows.length*eB+new.length*eB<=vs.length:=by
          rw[<-iL]
          exact ma (qD _ (by omega)) fE
         have O:=wz (ha:=ha) (l:=j4) (o:=rows.length*eB) bw (by omega) w
         have P:ev μ (put μ b (ver (.log (rows++new) eB t .rw)) (y l)):=y2 λo h=>by have:=s.top _ _ _ _ af cb.live h;have:=j (by omega);omega
         have W:=my c1
         have Q:fr (put μ b (ver (.log (rows++new) eB t .rw)) (y l)) φ l.K (.log (rows++new) eB t .rw) (.cells (vs.take (rows.length*eB)++j4++vs.drop (rows.length*eB+j4.length)) t V):=by
          refine⟨_,V,rfl,?_,?_,λr h=>B r h c1,?_,λ_=>rfl,by rw[dV];omega⟩
          ·rw[q0 (by omega),dV,iL];exact N
          ·have e:(vs.take (rows.length*eB)++j4++vs.drop (rows.length*eB+j4.length)).take ((rows++new).length*eB)=vs.take (rows.length*eB)++j4:=by
            have aF:(rows++new).length*eB=(vs.take (rows.length*eB)++j4).length:=by rw[dV,dV,kD,iL];omega
            rw[aF,vm]
           rw[e,AM]
           exact(da.append g).mono P (gA.refl _)
          ·rw[q0 (by omega)];exact fE
         obtain⟨bI,b0⟩:=s.write (blk1:=.log (rows++new) eB t .rw) af cb hm (λo h=>by have:=s.top _ _ _ _ af cb.live h;have:=j (by omega);omega) (by have:=j (by omega);omega) Q
         refine⟨.slice (y ⟨l.blk,0,none⟩) (rows.length+new.length) c,_,_,?_,?_,bI,b0⟩
         ·simp only[mN,hh]
          rw[aW (by omega),aP q,aW bu,O]
          rfl
         ·have:=bs.ref (μ:=put μ b (ver (.log (rows++new) eB t .rw)) (y l)) (φ:=φ) (sz:=eB) (lo:=0) (n:=rows.length+new.length) (c:=c) (jI _ _ _ _) (by simp [ver]) (.inr ⟨C,q,D⟩)
          rw[nq]at this
          simpa [ver]using this
        ·obtain⟨aY,bI,b0,dj⟩:=p (vs.take (rows.length*eB)) ha rows.length rfl (by omega) da c1 rfl (λ_ _=>rfl)
         refine⟨_,_,aY,?_,bI,b0,dj⟩
         simp only[mN]
         rw[aW (by omega),aW q,aP (by omega)]
         have:lP eB rows.length (.slice (y ⟨l.blk,0,none⟩) rows.length c) ha=y (vs.take (rows.length*eB)):=by
          simp only[lP]
          by_cases av:rows.length=0
          ·rw[aP av,av];simp
          ·rw[aW av,aP (cj _)]
           unfold jX
           rw[bw]
           simp only[hh,oZ]
           rw[aP bD]
         rw[this]
         rfl
    ·cases h
   ·cases h
  ·cases h
 ·cases h
theorem Ye(s:c3 μ φ ah ha){elem:a1}{sz:Nat}{x au v:U}{b c_:Value}{cd:Z}(ae:bs μ φ x b)(ba:bs μ φ au c_)(h:eC elem sz x au ah=y (v,cd)):
 ∃v' cp aY,sF elem sz b c_ ha=y (v',cp)/\bs aY φ v v'/\c3 aY φ cd cp/\Ext μ φ ah ha aY φ cd cp:=by
 unfold eC at h
 rw[cX]at h
 obtain⟨new,h1,h2⟩:=h
 obtain⟨bw,bD,da⟩:=IH s ba h1
 obtain⟨j4,c1,fE⟩:=da new.length (cj _)
 rw[iy]at fE
 obtain⟨v',cp,aY,bI,q⟩:=NB s ae fE bD h2
 exact⟨v',cp,aY,by simp only[sF,bw,dy,c1,bI],q⟩
theorem y6{zero:List U}{b:List Value}(h:bU μ φ zero b)(n:Nat):bU μ φ (dF n zero).flatten (rep b n):=by
 induction n with
 |zero=>exact .nil
 |succ n a6=>rw[List.replicate_succ,mh];exact h.append a6
theorem Yf(s:c3 μ φ ah ha){elem:a1}{sz:Nat}{zero:List U}{b:List Value}{x au v:U}{c c_:Value}{cd:Z}(bu:bU μ φ zero b)(ae:bs μ φ x c)(ba:bs μ φ au c_)(h:Iy elem sz zero x au ah=y (v,cd)):
 ∃v' cp aY,vE elem sz b c c_ ha=y (v',cp)/\bs aY φ v v'/\c3 aY φ cd cp/\Ext μ φ ah ha aY φ cd cp:=by
 unfold Iy at h
 split at h
 ·split at h
  ·rename_i aa
   cases ba
   obtain⟨v',cp,aY,bI,q⟩:=NB s ae (y6 bu _) (λr an=>by rw[AN]at an;rw[an.2];exact aa.2.2) h
   rw[vn]at bI
   refine⟨v',cp,aY,?_,q⟩
   simp only[vE]
   rw[aP ⟨aa.1,aa.2.1⟩]
   exact bI
  ·cases h
 ·cases h
theorem Yg(s:c3 μ φ ah ha){elem:a1}{zero:List U}{e:List Value}{x au v:U}{g c_:Value}{cd:Z}(bu:bU μ φ zero e)(ae:bs μ φ x g)(ba:bs μ φ au c_)(h:p5 elem zero x au ah=y (v,cd)):
 ∃v' cp aY,tV elem e g c_ ha=y (v',cp)/\bs aY φ v v'/\c3 aY φ cd cp/\Ext μ φ ah ha aY φ cd cp:=by
 unfold p5 at h
 split at h
 ·rename_i n c
  split at h
  ·rename_i aa
   cases ae;cases ba
   cases h
   have i:(rep e c.toNat).length=c.toNat*zero.length:=by
    have:=(y6 bu c.toNat).length
    rw[my (size:=zero.length) (λr an=>by rw[AN]at an;rw[an.2]),vn]at this
    omega
   have fm:n.toNat*zero.length<=c.toNat*zero.length:=qD _ (by omega)
   have j:bU μ φ (dF n.toNat zero).flatten ((rep e c.toNat).take (n.toNat*zero.length)):=by
    have h1:=(y6 bu c.toNat).take (n.toNat*zero.length)
    rw[<-wx (size:=zero.length) (λr an=>by rw[AN]at an;rw[an.2]),List.take_replicate,ns (by omega)]at h1
    exact h1
   obtain⟨bI,b0⟩:=s.push (.log (dF n.toNat zero) zero.length elem .rw) (.cells (rep e c.toNat) elem V) c.toNat
    ⟨_,V,rfl,by rw[i,vn];exact fm,by rw[vn];exact j.mono (qW s _ _) (gA.refl _),λr an=>by rw[AN]at an;rw[an.2],by rw[i];exact cj _,λ_=>rfl,by rw[vn];omega⟩
   refine⟨.slice (y ⟨ha.length,0,none⟩) n.toNat c.toNat,_,_,?_,?_,bI,b0⟩
   ·simp only[tV]
    rw[aP aa]
   ·have k:dp<eQ:=by decide
    have:=bs.ref (μ:=put μ ah.length (ver (.log (dF n.toNat zero) zero.length elem .rw)) (y ⟨ha.length,c.toNat⟩)) (φ:=φ) (b:=ah.length) (lo:=0) (n:=n.toNat) (sz:=zero.length) (c:=c.toNat) (jI _ _ _ _) (by simp [ver]) (.inr ⟨by omega,by omega,by simp⟩)
    rw[nq]at this
    simpa [ver]using this
  ·cases h
 ·cases h
theorem IK{rows:List (List U)}{l:bF.Loc}{sz:Nat}{t:a1}{vs:List Value}{lo:Nat}{src:List (List U)}{src':List Value}(bD:rows.length*sz<=vs.length)(da:bU μ φ rows.flatten (vs.take (rows.length*sz)))(c1:∀r∈rows,r.length=sz)(fE:l.K*sz<=vs.length)(gI:rows.length<=dp)
 (aB:bU μ φ src.flatten src') (c7:∀r∈src,r.length=sz) (fm:lo+src.length<=rows.length):
 fr μ φ l.K (.log (rows.take lo++src++rows.drop (lo+src.length)) sz t .rw) (.cells (vs.take (lo*sz)++src'++vs.drop (lo*sz+src'.length)) t V)/\(rows.take lo++src++rows.drop (lo+src.length)).length=rows.length/\lo*sz+src'.length<=vs.length:=by
 have aG:=aB.length
 rw[my c7]at aG
 have aF:lo*sz+src.length*sz<=rows.length*sz:=by rw[<-iL];exact qD _ fm
 have b:=q0 (vs:=rows) (l:=src) (o:=lo) fm
 have c:=my c1
 refine⟨⟨_,V,rfl,?_,?_,λr an=>?_,?_,λ_=>rfl,by rw[b];exact gI⟩,b,by omega⟩
 ·rw[b,q0 (by omega)];exact bD
 ·rw[b,AM,AM,wx c1,BM c1,iL]
  have:=bU.put (o:=lo*sz) (by rw[c];exact da) (by rw[c];exact bD) aB (by rw[c,my c7];omega)
  rw[c,my c7]at this
  exact this
 ·rcases List.mem_append.1 an with an|an
  ·rcases List.mem_append.1 an with an|an
   ·exact c1 r (o0 an)
   ·exact c7 r an
  ·exact c1 r (sB an)
 ·rw[q0 (by omega)];exact fE
theorem Yh(s:c3 μ φ ah ha){sz:Nat}{x au v:U}{g c_:Value}{cd:Z}(ae:bs μ φ x g)(ba:bs μ φ au c_)(h:rW sz x au ah=y (v,cd)):
 ∃v' cp,pT sz g c_ ha=y (v',cp)/\bs μ φ v v'/\c3 μ φ cd cp/\Ext μ φ ah ha μ φ cd cp:=by
 unfold rW at h
 rw[cX]at h
 obtain⟨src,h1,h2⟩:=h
 obtain⟨cL,cN,dT⟩:=IH s ba h1
 have e:lP sz 0 c_ ha=y []:=by
  obtain⟨l,bw,bD⟩:=dT 0 (hO _)
  rw[x5]at bD
  cases bD
  exact bw
 split at h2
 ·cases h2;cases ae
  refine⟨.int .i64 0,ha,?_,.int _ _,s,Ext.refl _ _ _ _⟩
  simp [pT,cL,e,Nat.min_def]
 ·cases h2;cases ae with|emp a=>
  refine⟨.int .i64 0,ha,?_,.int _ _,s,Ext.refl _ _ _ _⟩
  cases a<;>simp [pT,cL,e,Nat.min_def]
 ·rename_i b lo n j2 sz'
  by_cases i:j2=0
  ·subst i
   rw[aP rfl]at h2
   cases h2
   cases ae with
   |j1 _ a _=>
    refine⟨.int .i64 0,ha,?_,.int _ _,s,Ext.refl _ _ _ _⟩
    cases a<;>simp [pT,cL,e,Nat.min_def]
   |@ref _ _ _ _ _ c l hm aA aa=>
    obtain rfl:n=0:=by omega
    refine⟨.int .i64 0,ha,?_,.int _ _,s,Ext.refl _ _ _ _⟩
    simp [pT,cL,e,Nat.min_def]
  rw[aW i]at h2
  split at h2
  ·rename_i rows eB t af
   split at h2
   ·rename_i aa
    obtain⟨u,rfl,rfl,c2,ej,w⟩:=aa
    cases h2
    cases ae with
    |j1=>omega
    |@ref _ _ _ _ _ c l hm aA aa=>
     subst u
     obtain⟨vs,eK,bw,bD,da,c1,fE,A,gI⟩:=r0 s af hm
     obtain rfl:=A rfl
     have j:gn src.length n<=src.length:=Nat.min_le_left _ _
     have F:gn src.length n<=n:=Nat.min_le_right _ _
     obtain⟨src',k,m⟩:=dT (gn src.length n) j
     have p:src.take n=src.take (gn src.length n):=by
      rw[show gn src.length n=min n src.length from Nat.min_comm _ _]
      rw[List.take_eq_take_min]
     have aG:(src.take (gn src.length n)).length=gn src.length n:=by rw[kD];exact ns j
     have q:=IK (μ:=μ) (φ:=φ) (l:=l) (sz:=eB) (t:=t) (lo:=lo) (src:=src.take (gn src.length n)) bD da c1 fE gI m (λr an=>cN r (o0 an)) (by rw[aG];omega)
     rw[aG]at q
     obtain⟨cH,B,C⟩:=q
     have D:src'.all bF.kV=V:=m.kV (List.all_eq_true.2 λz bu=>List.all_eq_true.1 w z (by
      obtain⟨r,an,bu⟩:=List.mem_flatten.1 bu
      exact List.mem_flatten.2 ⟨r,o0 an,bu⟩))
     have E:=wz (ha:=ha) (l:=src') (o:=lo*eB) bw C D
     by_cases bu:gn src.length n=0
     ·refine⟨.int .i64 (gn src.length n:Nat),ha,?_,.int _ _,?_⟩
      ·simp only[pT,cL,dy,k]
       rw[aP bu]
       rfl
      ·rw[p,bu,x5,fD,vc,rG,wA af]
       exact⟨s,Ext.refl _ _ _ _⟩
     ·refine⟨.int .i64 (gn src.length n:Nat),ha.set l.blk (.cells (vs.take (lo*eB)++src'++vs.drop (lo*eB+src'.length)) t V),?_,.int _ _,?_⟩
      ·simp only[pT,cL,dy,k]
       rw[aW bu,E]
       rfl
      ·rw[p]
       exact s.sX af trivial hm (by simp only[ver];exact B) cH
   ·cases h2
  ·cases h2
 ·cases h2
theorem Yi(s:c3 μ φ ah ha){zero:List U}{e:List Value}{x v:U}{g:Value}{cd:Z}(bu:bU μ φ zero e)(ae:bs μ φ x g)(h:Iz zero x ah=y (v,cd)):
 ∃v' cp,vF e g ha=y (v',cp)/\bs μ φ v v'/\c3 μ φ cd cp/\Ext μ φ ah ha μ φ cd cp:=by
 unfold Iz at h
 split at h
 ·cases h;cases ae
  exact⟨_,_,rfl,bs.undef,s,Ext.refl _ _ _ _⟩
 ·cases h;cases ae with|emp a=>
  exact⟨undef,ha,by cases a<;>rfl,bs.undef,s,Ext.refl _ _ _ _⟩
 ·rename_i b lo n j2 sz
  split at h
  ·rename_i rows eB t af
   split at h
   ·rename_i aa
    obtain⟨j,rfl,rfl,c2,ej,k⟩:=aa
    cases h
    cases ae with
    |j1=>omega
    |@ref _ _ _ _ _ c l hm aA aa=>
     subst j
     obtain⟨vs,eK,bw,bD,da,c1,fE,m,gI⟩:=r0 s af hm
     obtain rfl:=m rfl
     have i:=IK (μ:=μ) (φ:=φ) (l:=l) (sz:=zero.length) (t:=t) (lo:=lo) (src:=dF n zero) bD da c1 fE gI (y6 bu n) (λr an=>by rw[AN]at an;rw[an.2]) (by simpa using c2)
     rw[vn]at i
     obtain⟨cH,p,q⟩:=i
     have u:(rep e n).all bF.kV=V:=(y6 bu n).kV (List.all_eq_true.2 λz bu=>by
      obtain⟨r,an,bu⟩:=List.mem_flatten.1 bu
      rw[AN]at an
      rw[an.2]at bu
      exact List.all_eq_true.1 k z bu)
     have w:=wz (ha:=ha) (l:=rep e n) (o:=lo*zero.length) bw q u
     refine⟨undef,_,?_,bs.undef,s.sX af trivial hm (by simp only[ver];exact p) cH⟩
     simp only[vF]
     rw[aW (by omega),w]
     rfl
   ·cases h
  ·cases h
 ·cases h
end Go.aM
namespace Go.aM
open Go.bF
variable {μ : Ren} {φ : dD} {ah : Z} {ha : aX}
theorem BO{k:fk}{x au:U}{b c_:Value}{r:Bool}(ae:bs μ φ x b)(ba:bs μ φ au c_)(h:ug k x au=y r):sG k b c_=y r:=by
 unfold ug at h
 split at h<;>first|(cases ae;cases ba;exact h)|cases h
theorem Yj{k:fk}{x:U}{c:Value}(ae:bs μ φ x c):∀{df:List (U×U)} {b:List (Value×Value)} {r:Option U},bU μ φ (df.map (·.1)) (b.map (·.1))->bU μ φ (df.map (·.2)) (b.map (·.2))->uh k x df=y r->
 ∃dO,vG k c b=y dO/\h7 μ φ r dO:=by
 intro df
 induction df with
 |nil=>
  intro b r h1 h2 h
  cases b with
  |nil=>cases h;exact⟨_,rfl,.none⟩
  |cons=>cases h1
 |cons p df a6=>
  intro b r h1 h2 h
  cases b with
  |nil=>cases h1
  |cons g b=>
   obtain⟨au,v⟩:=p
   obtain⟨c_,v'⟩:=g
   cases h1 with|cons e i=>cases h2 with|cons cH j=>
    simp only[uh]at h
    simp only[vG]
    split at h
    ·rename_i ad
     cases h
     rw[BO ae e ad]
     exact⟨_,rfl,.some cH⟩
    ·rename_i ad
     rw[BO ae e ad]
     exact a6 i j h
    ·cases h
theorem Yk{k:fk}{x v:U}{g v':Value}(ae:bs μ φ x g)(ay:bs μ φ v v'):∀{df q:List (U×U)} {b:List (Value×Value)},bU μ φ (df.map (·.1)) (b.map (·.1))->bU μ φ (df.map (·.2)) (b.map (·.2))->qT k x v df=y q->
 ∃c,vH k g v' b=y c/\bU μ φ (q.map (·.1)) (c.map (·.1))/\bU μ φ (q.map (·.2)) (c.map (·.2)):=by
 intro df
 induction df with
 |nil=>
  intro q b h1 h2 h
  cases b with
  |nil=>cases h;exact⟨_,rfl,.cons ae .nil,.cons ay .nil⟩
  |cons=>cases h1
 |cons p df a6=>
  intro q b h1 h2 h
  cases b with
  |nil=>cases h1
  |cons l b=>
   obtain⟨au,aZ⟩:=p
   obtain⟨c_,m⟩:=l
   cases h1 with|cons e i=>cases h2 with|cons cH j=>
    simp only[qT]at h
    simp only[vH]
    split at h
    ·rename_i ad
     cases h
     rw[BO ae e ad]
     exact⟨_,rfl,.cons ae i,.cons ay j⟩
    ·rename_i ad
     rw[BO ae e ad]
     rw[du]at h
     obtain⟨r,an,rfl⟩:=h
     obtain⟨dO,bw,bD,da⟩:=a6 i j an
     exact⟨(c_,m)::dO,by rw[bw];rfl,.cons e bD,.cons cH da⟩
    ·cases h
theorem NC{b:Nat}{df:List (U×U)}{md:ep}{l:bF.Loc}(s:c3 μ φ ah ha)(af:ah[b]?=y (.map df md))(e:μ b 0=y (y l)):∃c,ha[l.blk]?=y (.map c)/\bU μ φ (df.map (·.1)) (c.map (·.1))/\bU μ φ (df.map (·.2)) (c.map (·.2)):=by
 rcases s.rel b _ af (by simp)with⟨_,_,_,_,h⟩|⟨cK,blk',h1,h2,ak⟩
 ·cases h
 ·have:μ b 0=y (y cK):=h1
  rw[e]at this
  cases this
  obtain⟨c,rfl,bw,bD⟩:=ak
  exact⟨c,h2,bw,bD⟩
theorem ND(s:c3 μ φ ah ha){x:U}{e:Value}{df:List (U×U)}(ae:bs μ φ x e)(h:wo x ah=y df):∃c,vI e ha=y c/\bU μ φ (df.map (·.1)) (c.map (·.1))/\bU μ φ (df.map (·.2)) (c.map (·.2)):=by
 unfold wo at h
 split at h
 ·cases h;cases ae;exact⟨[],rfl,.nil,.nil⟩
 ·rename_i b
  split at h
  ·rename_i g md af
   cases h
   cases ae with|@map _ l hm=>
    obtain⟨c,bw,bD,da⟩:=NC s af hm
    exact⟨c,by simp only[vI,bw],bD,da⟩
  ·cases h
 ·cases h
theorem Yl(s:c3 μ φ ah ha){k:fk}{zero x i v:U}{ok:Bool}{b c e:Value}(bu:bs μ φ zero b)(ae:bs μ φ x c)(ai:bs μ φ i e)(h:rX k zero ok x i ah=y v):∃v',yl k b ok c e ha=y v'/\bs μ φ v v':=by
 unfold rX at h
 simp only[cX,du]at h
 obtain⟨df,h1,r,h2,ak⟩:=h
 obtain⟨j,bw,bD,da⟩:=ND s ae h1
 obtain⟨dO,c1,fE⟩:=Yj ai bD da h2
 simp only[yl,bw,dy,c1,dw]
 cases fE with
 |none=>cases ok with
  |false=>subst ak;exact⟨_,rfl,bu⟩
  |true=>subst ak;exact⟨_,rfl,.tuple (ys:=[b,.bool M]) (.cons bu (.cons (.bool _) .nil))⟩
 |@some _ g an=>cases ok with
  |false=>subst ak;exact⟨_,rfl,an⟩
  |true=>subst ak;exact⟨_,rfl,.tuple (ys:=[g,.bool V]) (.cons an (.cons (.bool _) .nil))⟩
theorem Ym(s:c3 μ φ ah ha){k:fk}{x i v:U}{c e v':Value}{cd:Z}(ae:bs μ φ x c)(ai:bs μ φ i e)(ay:bs μ φ v v')(h:p6 k x i v ah=y cd):
 ∃cp,vJ k c e v' ha=y cp/\c3 μ φ cd cp/\Ext μ φ ah ha μ φ cd cp:=by
 unfold p6 at h
 split at h
 ·rename_i b
  split at h
  ·rename_i df af
   rw[du]at h
   obtain⟨q,h1,rfl⟩:=h
   cases ae with|@map _ l hm=>
    obtain⟨m,bw,bD,da⟩:=NC s af hm
    obtain⟨g,c1,fE,j⟩:=Yk ai ay bD da h1
    exact⟨_,by simp only[vJ,bw,c1,dw],s.sX af trivial hm rfl ⟨g,rfl,fE,j⟩⟩
  ·cases h
 ·cases h
theorem Yn(s:c3 μ φ ah ha){x v:U}{b:Value}(ae:bs μ φ x b)(h:IA x ah=y v):∃v',ym b ha=y v'/\bs μ φ v v':=by
 unfold IA at h
 rw[du]at h
 obtain⟨df,h1,rfl⟩:=h
 obtain⟨c,bw,bD,da⟩:=ND s ae h1
 have:=bD.length
 simp only[c9]at this
 exact⟨.int .i64 c.length,by simp only[ym,bw,dw],by rw[this];exact .int _ _⟩
theorem Yo:∀{rows:List (List U)} {l:List Value} {b:List UInt8},bU μ φ rows.flatten l->BH rows=y b->vK l=y b:=by
 intro rows
 induction rows with
 |nil=>intro l b h1 h;cases h1;exact h
 |cons r rows a6=>
  intro l b h1 h
  unfold BH at h
  split at h
  ·rename_i e;cases e
  ·rename_i n i e
   cases e
   rw[du]at h
   obtain⟨q,br,rfl⟩:=h
   simp only[mh,js,hV]at h1
   cases h1 with|cons c g=>
    cases c
    simp only[vK,a6 g br,dw]
  ·cases h
theorem Yp(s:c3 μ φ ah ha){x v:U}{b:Value}(ae:bs μ φ x b)(h:IB x ah=y v):∃v',yn b ha=y v'/\bs μ φ v v':=by
 unfold IB at h
 split at h
 ·cases h
 ·rename_i e
  simp only[cX,du]at h
  obtain⟨rows,h1,i,h2,rfl⟩:=h
  obtain⟨bw,bD,da⟩:=IH s ae h1
  obtain⟨l,c1,fE⟩:=da rows.length (cj _)
  rw[iy]at fE
  have ak:=Yo fE h2
  have g:(∃a n c,b=.slice a n c):=by
   unfold kK at h1
   cases ae<;>first|exact⟨_,_,_,rfl⟩|(simp at h1;done)|skip
   exact absurd rfl (e _)
  obtain⟨a,n,c,rfl⟩:=g
  have aA:n=rows.length:=jU bw
  subst aA
  cases a with
  |none=>
   simp only[lP]at c1
   split at c1
   ·cases c1
    cases ak
    exact⟨_,rfl,.str _⟩
   ·cases c1
  |some a=>
   simp only[lP]at c1
   simp only[yn]
   split at c1
   ·rename_i bu
    cases c1
    cases ak
    rw[aP bu]
    exact⟨_,rfl,.str _⟩
   ·rename_i bu
    rw[aP (cj _),Nat.mul_one]at c1
    rw[aW bu,c1]
    exact⟨_,by simp only[dy,ak,dw],.str _⟩
theorem BP{lo n sz:Nat}{rows:List (List U)}{rows':List (List U)}{t:a1}{l:bF.Loc}{vs:List Value}{eK:Bool}{c:Nat}(mv:φ l.blk=y (.cells vs t eK))(bD:rows.length*sz<=vs.length)(c1:∀r∈rows,r.length=sz)(gI:rows.length<=dp)
 (aA:lo+n<=rows.length) (aa:n<=c) (bz:rows'.length=n) (c7:∀r∈rows',r.length=sz) (cd:rows'.flatten.all fR=V) (an:bU μ φ rows'.flatten ((vs.drop (lo*sz)).take (n*sz))):bs μ φ (.bE sz rows') (.slice (y ⟨l.blk,lo*sz,none⟩) n c):=by
 have b:dp<eQ:=by decide
 have fm:lo*sz+n*sz<=rows.length*sz:=by rw[<-iL];exact qD _ aA
 exact .bE bz.symm ⟨aa,by omega⟩ c7 mv (by omega) cd an
theorem BQ{rows:List (List U)}{sz lo n:Nat}{vs:List Value}(da:bU μ φ rows.flatten (vs.take (rows.length*sz)))(c1:∀r∈rows,r.length=sz)(aA:lo+n<=rows.length):bU μ φ ((rows.drop lo).take n).flatten ((vs.drop (lo*sz)).take (n*sz)):=by
 have fm:lo*sz+n*sz<=rows.length*sz:=by rw[<-iL];exact qD _ aA
 have h1:=(da.drop (lo*sz)).take (n*sz)
 rw[<-BM c1,<-wx (size:=sz) (λr an=>c1 r (sB an)),x4,sx,ns (by omega)]at h1
 exact h1
theorem NF(s:c3 μ φ ah ha){b sz:Nat}{rows:List (List U)}{t:a1}{l:bF.Loc}(af:ah[b]?=y (.log rows sz t .rw))(hm:μ b rows.length=y (y l)):
 ∃bJ vs eK,bJ l.blk=y (.cells vs t eK)/\c3 μ bJ (ah.set b (.log rows sz t .ro)) ha/\Ext μ φ ah ha μ bJ (ah.set b (.log rows sz t .ro)) ha/\rows.length*sz<=vs.length/\bU μ φ rows.flatten (vs.take (rows.length*sz))/\(∀r∈rows,r.length=sz)/\rows.length<=dp:=by
 obtain⟨vs,eK,bw,bD,da,c1,fE,c,gI⟩:=r0 s af hm
 obtain⟨bJ,bI,b0,dj⟩:=s.freeze (blk1:=.log rows sz t .ro) af trivial hm bw rfl (λh=>by simp [oy,pj]at h) (by simp) (λbJ aE=>⟨vs,eK,rfl,bD,da.mono (ev.refl _) aE,c1,fE,(λh=>by simp [pj]at h),gI⟩)
 exact⟨bJ,vs,eK,bI,b0,dj,bD,da,c1,gI⟩
theorem NG(s:c3 μ φ ah ha){b sz:Nat}{rows:List (List U)}{t:a1}{l:bF.Loc}(af:ah[b]?=y (.log rows sz t .ro))(hm:μ b rows.length=y (y l)):
 ∃bJ vs eK,bJ l.blk=y (.cells vs t eK)/\c3 μ bJ ah ha/\Ext μ φ ah ha μ bJ ah ha/\rows.length*sz<=vs.length/\bU μ φ rows.flatten (vs.take (rows.length*sz))/\(∀r∈rows,r.length=sz)/\rows.length<=dp:=by
 obtain⟨vs,eK,bw,bD,da,c1,fE,o,gI⟩:=r0 s af hm
 obtain⟨bJ,j⟩:∃bJ:dD,bJ=λa=>if a=l.blk then y (.cells vs t eK)else φ a:=⟨_,rfl⟩
 have g:bJ l.blk=y (.cells vs t eK):=by rw[j];exact aP rfl
 have i:∀a,a≠l.blk->bJ a=φ a:=λa h=>by rw[j];exact aW h
 have aE:gA φ bJ:=λa x h=>by
  by_cases c:a=l.blk
  ·subst c
   rw[g,<-s.bE _ _ h,bw]
  ·rw[i a c];exact h
 refine⟨bJ,vs,eK,g,⟨s.cl,λb blk h1 h2=>?_,s.inj,λk m n h1 h2 ak=>?_,λa x h=>?_,s.top⟩,⟨cj _,cj _,ev.refl _,aE,λ_ _ _=>rfl,λb blk l h1 h2 ak=>.inr ⟨b,blk,l,h1,h2,ak,rfl⟩⟩,bD,da,c1,gI⟩
 ·rcases s.rel b blk h1 h2 with h|⟨cK,blk',bI,b0,dj⟩
  ·exact .inl h
  ·exact .inr ⟨cK,blk',bI,b0,dj.mono (ev.refl _) aE⟩
 ·rw[i _ λe=>?_]
  ·exact s.sep k m n h1 h2 ak
  ·have:=s.inj k b m _ n l h1 (by rintro rfl;exact h2) af (by simp) ak hm e
   subst this
   rw[af]at h1
   cases h1
   simp [oy,pj]at h2
 ·by_cases c:a=l.blk
  ·subst c;rw[g]at h;cases h;exact bw
  ·rw[i a c]at h;exact s.bE a x h
def Yq(μ:Ren)(φ:dD)(ah:Z)(ha:aX)(v:U)(v':Value)(q:U×Z):Prop:=∃bJ,bs μ bJ q.1 v'/\c3 μ bJ q.2 ha/\Ext μ φ ah ha μ bJ q.2 ha
theorem NH{b lo n j2 sz:Nat}{v':Value}(h:bs μ φ (.ref b lo n j2 sz) v'):(n=0/\∃a c,v'=.slice a 0 c/\(a=none->c=0))\/(0<n/\∃l c,μ b j2=y (y l)/\lo+n<=j2/\(c=eQ\/n<=c)/\v'=.slice (y ⟨l.blk,lo*sz,none⟩) n c):=by
 cases h with
 |j1 _ a h=>exact .inl ⟨rfl,a,0,rfl,λ_=>rfl⟩
 |@ref _ _ _ _ _ c l h aA aa=>
  by_cases av:n=0
  ·subst av;exact .inl ⟨rfl,_,c,rfl,λh=>by cases h⟩
  ·refine .inr ⟨by omega,l,c,h,aA,?_,rfl⟩
   rcases aa with⟨rfl,_⟩|⟨_,h,_⟩
   ·exact .inl rfl
   ·exact .inr h
theorem bU.split{xs ys:List U}{b:List Value}(h:bU μ φ (xs++ys) b):∃c e,b=c++e/\bU μ φ xs c/\bU μ φ ys e:=by
 refine⟨b.take xs.length,b.drop xs.length,(rG _ _).symm,?_,?_⟩
 ·have:=h.take xs.length;rwa [vm]at this
 ·have:=h.drop xs.length;rwa [List.drop_left]at this
theorem BR{v:U}{v':Value}{sz:Nat}(h:bs μ φ v v')(ay:v=.a7\/v=.emp):bs μ φ (.bE sz []) v':=by
 rcases ay with rfl|rfl
 ·cases h;exact .nK _
 ·cases h with|emp a=>exact y3 _ _ _ λ_=>rfl
theorem BS{n c k:Nat}(h:c=eQ\/n<=c)(aA:n<=k)(ad:k<=dp):n<=c:=by
 rcases h with rfl|h
 ·have:dp<eQ:=by decide
  omega
 ·exact h
mutual
theorem IL:∀(f:fs) {φ:dD} {ah:Z} {v:U} {v':Value} {q:U×Z},c3 μ φ ah ha->bs μ φ v v'->cC f v ah=y q->Yq μ φ ah ha v v' q
 |.aj,φ,ah,v,v',q,s,ay,h=>by
  unfold cC at h
  cases h
  exact⟨φ,ay,s,Ext.refl _ _ _ _⟩
 |.raw,φ,ah,v,v',q,s,ay,h=>by
  unfold cC at h
  split at h
  ·cases h
   cases ay
   exact⟨φ,.emp none,s,Ext.refl _ _ _ _⟩
  ·cases h
   exact⟨φ,ay,s,Ext.refl _ _ _ _⟩
 |.flat wy,φ,ah,v,v',q,s,ay,h=>by
  unfold cC at h
  split at h
  ·cases h;exact⟨φ,BR ay (.inl rfl),s,Ext.refl _ _ _ _⟩
  ·cases h;exact⟨φ,BR ay (.inr rfl),s,Ext.refl _ _ _ _⟩
  ·cases h;exact⟨φ,ay,s,Ext.refl _ _ _ _⟩
  ·rename_i b lo n j2 sz
   rcases NH ay with⟨rfl,a,c,rfl,aa⟩|⟨av,l,c,hm,aA,aa,rfl⟩
   ·rw[aP rfl]at h
    cases h
    exact⟨φ,y3 _ _ _ aa,s,Ext.refl _ _ _ _⟩
   ·rw[aW (by omega)]at h
    split at h
    ·rename_i rows sz' t af
     split at h
     ·rename_i jc
      obtain⟨rfl,rfl,c2,ej⟩:=jc
      cases h
      obtain⟨bJ,vs,eK,bI,b0,dj,bD,da,c1,gI⟩:=NF s af hm
      exact⟨bJ,BP bI bD c1 gI c2 (BS aa (by omega) gI) (by simp;omega) (λr an=>c1 r (sB (o0 an))) ej ((BQ da c1 c2).mono (ev.refl _) dj.ia),b0,dj⟩
     ·cases h
    ·rename_i rows sz' t af
     split at h
     ·rename_i jc
      obtain⟨rfl,rfl,c2,ej⟩:=jc
      cases h
      obtain⟨bJ,vs,eK,bI,b0,dj,bD,da,c1,gI⟩:=NG s af hm
      exact⟨bJ,BP bI bD c1 gI c2 (BS aa (by omega) gI) (by simp;omega) (λr an=>c1 r (sB (o0 an))) ej ((BQ da c1 c2).mono (ev.refl _) dj.ia),b0,dj⟩
     ·cases h
    ·cases h
  ·cases h
 |.bZ wy cs,φ,ah,v,v',q,s,ay,h=>by
  unfold cC at h
  split at h
  ·cases h;exact⟨φ,BR ay (.inl rfl),s,Ext.refl _ _ _ _⟩
  ·cases h;exact⟨φ,BR ay (.inr rfl),s,Ext.refl _ _ _ _⟩
  ·cases h;exact⟨φ,ay,s,Ext.refl _ _ _ _⟩
  ·rename_i b lo n j2 sz
   rcases NH ay with⟨rfl,a,c,rfl,aa⟩|⟨av,l,c,hm,aA,aa,rfl⟩
   ·rw[aP rfl]at h
    cases h
    exact⟨φ,y3 _ _ _ aa,s,Ext.refl _ _ _ _⟩
   ·rw[aW (by omega)]at h
    split at h
    ·rename_i rows sz' t af
     split at h
     ·rename_i jc
      obtain⟨rfl,rfl,c2⟩:=jc
      rw[cX]at h
      obtain⟨r,h1,h2⟩:=h
      split at h2
      ·rename_i y7
       cases h2
       obtain⟨bJ,vs,eK,bI,b0,dj,bD,da,c1,gI⟩:=NF s af hm
       obtain⟨nM,cL,cN,dT,fO,gZ⟩:=IM cs ((rows.drop lo).take n) b0 ((BQ da c1 c2).mono (ev.refl _) dj.ia) h1
       refine⟨nM,BP (dT.ia _ _ bI) bD c1 gI c2 (BS aa (by omega) gI) (by rw[fO];simp;omega) (gZ _ λr an=>c1 r (sB (o0 an))) y7 cL,cN,dj.trans dT⟩
      ·cases h2
     ·cases h
    ·rename_i rows sz' t af
     split at h
     ·rename_i jc
      obtain⟨rfl,rfl,c2⟩:=jc
      rw[cX]at h
      obtain⟨r,h1,h2⟩:=h
      split at h2
      ·rename_i y7
       cases h2
       obtain⟨bJ,vs,eK,bI,b0,dj,bD,da,c1,gI⟩:=NG s af hm
       obtain⟨nM,cL,cN,dT,fO,gZ⟩:=IM cs ((rows.drop lo).take n) b0 ((BQ da c1 c2).mono (ev.refl _) dj.ia) h1
       refine⟨nM,BP (dT.ia _ _ bI) bD c1 gI c2 (BS aa (by omega) gI) (by rw[fO];simp;omega) (gZ _ λr an=>c1 r (sB (o0 an))) y7 cL,cN,dj.trans dT⟩
      ·cases h2
     ·cases h
    ·cases h
  ·cases h
 |.agg cs,φ,ah,v,v',q,s,ay,h=>by
  unfold cC at h
  split at h
  ·rw[du]at h
   obtain⟨r,h1,rfl⟩:=h
   cases ay with|agg ay=>
    obtain⟨bJ,cL,cN,dT⟩:=BT cs s ay h1
    exact⟨bJ,.agg cL,cN,dT⟩
  ·cases h
theorem BT:∀(f:List fs) {φ:dD} {ah:Z} {vs:List U} {ck:List Value} {q:List U×Z},c3 μ φ ah ha->bU μ φ vs ck->gk f vs ah=y q->∃bJ,bU μ bJ q.1 ck/\c3 μ bJ q.2 ha/\Ext μ φ ah ha μ bJ q.2 ha
 |[],φ,ah,vs,ck,q,s,ay,h=>by
  cases ay with
  |nil=>unfold gk at h;cases h;exact⟨φ,.nil,s,Ext.refl _ _ _ _⟩
  |cons=>unfold gk at h;cases h
 |f::eR,φ,ah,vs,ck,q,s,ay,h=>by
  cases ay with
  |nil=>unfold gk at h;cases h
  |cons h1 h2=>
   unfold gk at h
   simp only[cX,du]at h
   obtain⟨a,oA,r,an,rfl⟩:=h
   obtain⟨oz,cL,cN,dT⟩:=IL f s h1 oA
   obtain⟨nM,bw,bD,da⟩:=BT eR cN (h2.mono dT.hR dT.ia) an
   exact⟨nM,.cons (cL.mono da.hR da.ia) bw,bD,dT.trans da⟩
theorem IM:∀(f:List fs) (rows:List (List U)) {φ:dD} {ah:Z} {ws:List Value} {q:List (List U)×Z},c3 μ φ ah ha->bU μ φ rows.flatten ws->mr f rows ah=y q->
 ∃bJ,bU μ bJ q.1.flatten ws/\c3 μ bJ q.2 ha/\Ext μ φ ah ha μ bJ q.2 ha/\q.1.length=rows.length/\∀sz,(∀r∈rows,r.length=sz)->∀r∈q.1,r.length=sz
 |f,[],φ,ah,ws,q,s,ay,h=>by
  unfold mr at h
  cases h
  exact⟨φ,ay,s,Ext.refl _ _ _ _,rfl,λ_ h=>h⟩
 |f,r::rows,φ,ah,ws,q,s,ay,h=>by
  unfold mr at h
  simp only[cX,du]at h
  obtain⟨a,oA,p,rQ,rfl⟩:=h
  rw[mh]at ay
  obtain⟨bC,cU,rfl,h1,h2⟩:=ay.split
  obtain⟨oz,cL,cN,dT⟩:=BT f s h1 oA
  obtain⟨nM,bw,bD,da,c1,fE⟩:=IM f rows cN (h2.mono dT.hR dT.ia) rQ
  refine⟨nM,?_,bD,dT.trans da,by simp [c1],λsz aB dO gQ=>?_⟩
  ·rw[mh];exact(cL.mono da.hR da.ia).append bw
  ·rcases List.mem_cons.1 gQ with rfl|gQ
   ·have aG:=cL.length
    have aF:=h1.length
    have:=aB r (by simp)
    omega
   ·exact fE sz (λr an=>aB r (by simp [an])) dO gQ
end
theorem fr.cut{aY:Ren}{bJ:dD}{K c n:Nat}{b:b3}{a a0:iB}(hd:∀b k l,μ b k=y l->b<n)(av:fr μ φ c b a0)(h:fr aY bJ K b a):fr (aM.cut aY n) bJ K b a:=by
 cases b with
 |box vs t md=>
  obtain⟨_,_,_,_,g,_⟩:=av
  obtain⟨v,r,h1,h2,ak,aJ⟩:=h
  exact⟨v,r,h1,h2,bU.lt hd ak g,aJ⟩
 |log rows sz t md=>
  obtain⟨_,_,_,_,g,_⟩:=av
  obtain⟨v,r,h1,h2,ak,aJ,aO,bt⟩:=h
  exact⟨v,r,h1,h2,bU.lt hd ak g,aJ,aO,bt⟩
 |map df=>
  obtain⟨_,_,cL,cN⟩:=av
  obtain⟨e,h1,h2,ak⟩:=h
  exact⟨e,h1,bU.lt hd h2 cL,bU.lt hd ak cN⟩
 |loop=>
  obtain⟨_,_,g⟩:=av
  obtain⟨e,h1,h2⟩:=h
  exact⟨e,h1,bU.lt hd h2 g⟩
 |dead=>trivial
theorem fr.under{K n:Nat}{b:b3}{a:iB}(ax:j0 n b)(h:fr μ φ K b a):fr (aM.cut μ n) φ K b a:=by
 cases b with
 |box vs t md=>obtain⟨v,r,h1,h2,ak,aJ⟩:=h;exact⟨v,r,h1,h2,ak.under ax,aJ⟩
 |log rows sz t md=>obtain⟨v,r,h1,h2,ak,aJ,aO,bt⟩:=h;exact⟨v,r,h1,h2,ak.under ax,aJ,aO,bt⟩
 |map df=>
  obtain⟨e,h1,h2,ak⟩:=h
  exact⟨e,h1,h2.under (λx ae=>by obtain⟨au,ba,rfl⟩:=List.mem_map.1 ae;exact(ax au ba).1),ak.under (λx ae=>by obtain⟨au,ba,rfl⟩:=List.mem_map.1 ae;exact(ax au ba).2)⟩
 |loop=>obtain⟨e,h1,h2⟩:=h;exact⟨e,h1,h2.under ax⟩
 |dead=>trivial
theorem BU{ei:Ren}{g:dD}{av:Z}{i:aX}(j:c3 ei g av i)(s:c3 μ φ ah ha)(x:Ext ei g av i μ φ ah ha){roots:List U}{roots':List Value}(an:bU μ φ roots roots'):
 ∃aY,bU aY φ roots roots'/\c3 aY φ (trim av roots ah) ha/\Ext ei g av i aY φ (trim av roots ah) ha:=by
 unfold trim
 split
 ·rename_i aa
  obtain⟨c2,ej⟩:=aa
  have hd:∀b k l,ei b k=y l->b<av.length:=λb k l h=>(j.cl b k l h).1
  have c:∀b blk,(ah.take av.length)[b]?=y blk->b<av.length/\ah[b]?=y blk:=λb blk h=>by
   have:=nN h
   rw[kD]at this
   refine⟨by omega,?_⟩
   rwa [Hr,aP (by omega)]at h
  have e:∀{b k o},cut μ av.length b k=y o->μ b k=y o:=λh=>XF _ _ _ _ _ h
  refine⟨cut μ av.length,an.under c2,⟨λb k o h=>?_,λb blk h m=>?_,λb bj blk blk' l cK h1 h2 ak aJ aO bt ct=>?_,λb blk l h1 h2 ak=>?_,s.bE,λb blk k o h1 h2 ak=>?_⟩,⟨?_,x.nL,λb k l h=>?_,x.ia,x.frame,λb blk l h1 h2 ak=>?_⟩⟩
  ·have h1:=e h
   obtain⟨bI,b0⟩:=s.cl b k o h1
   refine⟨?_,b0⟩
   unfold cut at h
   split at h
   ·rw[kD];omega
   ·cases h
  ·obtain⟨af,h⟩:=c b blk h
   rcases s.rel b blk h m with⟨bI,b0⟩|⟨l,blk',bI,b0,dj⟩
   ·exact .inl ⟨by rw[rZ af];exact bI,b0⟩
   ·refine .inr ⟨l,blk',by rw[rZ af];exact bI,b0,?_⟩
    rcases ej b af with aO|⟨p,aO,bt⟩
    ·rw[h]at aO
     rcases j.rel b blk aO.symm m with⟨_,_,_,_,rfl⟩|⟨fa,q,_,_,n⟩
     ·exact dj.under (λx ae=>by simp at ae)
     ·exact fr.cut hd n dj
    ·rw[h]at aO
     cases aO
     exact dj.under bt
  ·exact s.inj b bj blk blk' l cK (c b blk h1).2 h2 (c bj blk' ak).2 aJ (e aO) (e bt) ct
  ·exact s.sep b blk l (c b blk h1).2 h2 (e ak)
  ·exact s.top b blk k o (c b blk h1).2 h2 (e ak)
  ·rw[kD];have:=x.le;omega
  ·rw[rZ (hd _ _ _ h)];exact x.hR _ _ _ h
  ·exact x.wv b blk l (c b blk h1).2 h2 (e ak)
 ·exact⟨μ,an,s,x⟩
theorem kL(h:Z):(lock h).length=h.length:=by simp [lock]
theorem sY{h:Z}{b:Nat}{blk:b3}(e:(lock h)[b]?=y blk):∃c,h[b]?=y c/\blk=ow c:=by
 unfold lock at e
 rw[iM,du]at e
 obtain⟨cm,h1,h2⟩:=e
 exact⟨cm,h1,h2.symm⟩
theorem wB(b:b3):ver (ow b)=ver b:=by
 unfold ow
 split<;>rfl
theorem y8{b:b3}:ow b=.dead↔b=.dead:=by
 unfold ow
 split<;>simp
theorem NI{b:b3}:oy (ow b)↔oy b:=by
 unfold ow
 split<;>simp [oy,pj]
theorem IN(b:b3):¬k4 (ow b):=by
 intro h
 unfold ow at h
 split at h<;>first|exact h|skip
 rename_i b h1 h2 ak aJ
 unfold k4 at h
 split at h
 ·exact h1 _ _ rfl
 ·exact h2 _ _ _ rfl
 ·exact ak _ rfl
 ·exact aJ _ _ _ _ _ _ _ rfl
 ·exact h
theorem Yr{K:Nat}{b:b3}{a:iB}(h:fr μ φ K b a):fr μ φ K (ow b) a:=by
 unfold ow
 split
 ·obtain⟨v,r,h1,h2,ak,aJ⟩:=h;exact⟨v,r,h1,h2,ak,λ_=>aJ rfl⟩
 ·obtain⟨v,r,h1,h2,ak,aJ,aO,bt,ct⟩:=h;exact⟨v,r,h1,h2,ak,aJ,aO,λ_=>bt rfl,ct⟩
 ·exact h
 ·exact h
 ·exact h
theorem NJ(s:c3 μ φ ah ha):c3 μ φ (lock ah) ha where
 cl b k o h:=by rw[kL];exact s.cl b k o h
 rel b blk h hd:=by
  obtain⟨cm,h1,rfl⟩:=sY h
  rcases s.rel b cm h1 (λe=>hd (y8.2 e))with⟨bI,sz,t,md,rfl⟩|⟨l,blk',bI,b0,dj⟩
  ·refine .inl ⟨by rw[wB];exact bI,?_⟩
   cases md<;>exact⟨_,_,_,rfl⟩
  ·exact .inr ⟨l,blk',by rw[wB];exact bI,b0,Yr dj⟩
 inj b bj blk blk' l cK h1 h2 ak aJ aO bt ct:=by
  obtain⟨cm,bw,rfl⟩:=sY h1
  obtain⟨cH,bD,rfl⟩:=sY ak
  rw[wB]at aO bt
  exact s.inj b bj cm cH l cK bw (λe=>h2 (y8.2 e)) bD (λe=>aJ (y8.2 e)) aO bt ct
 sep b blk l h1 h2 ak:=by
  obtain⟨cm,bw,rfl⟩:=sY h1
  rw[wB]at ak
  exact s.sep b cm l bw (NI.1 h2) ak
 bE:=s.bE
 top b blk k o h1 h2 ak:=by
  obtain⟨cm,bw,rfl⟩:=sY h1
  rw[wB]
  exact s.top b cm k o bw (λe=>h2 (y8.2 e)) ak
theorem Ys{aY:Ren}{bJ:dD}{cd:Z}{cp:aX}(x:Ext μ φ (lock ah) ha aY bJ cd cp):∀a,a<ha.length->cp[a]?=ha[a]?:=λa h=>x.frame a h λb blk l h1 h2 ak=>by
 obtain⟨cm,bw,rfl⟩:=sY h1
 exact absurd h2 (IN cm)
theorem Yt{α:Type}{a b:List α}(ax:a.length<=b.length)(h:∀i,i<a.length->b[i]?=a[i]?):a <+: b:=by
 refine⟨b.drop a.length,fx λi=>?_⟩
 by_cases ai:i<a.length
 ·rw[cI ai,h i ai]
 ·rw[lN (by omega),pK];congr 1;omega
theorem Yu{aY:Ren}{bJ:dD}{cd:Z}{cp:aX}(s:c3 μ φ ah ha)(i:c3 aY bJ cd cp)(x:Ext μ φ (lock ah) ha aY bJ cd cp)(w:lock ah <+: cd):
 ha <+: cp/\c3 aY bJ (ah++cd.drop ah.length) cp/\Ext μ φ ah ha aY bJ (ah++cd.drop ah.length) cp:=by
 have q:=Ys x
 obtain⟨t,aR⟩:=w
 have bz:ah.length<=cd.length:=by rw[<-aR,dV,kL];omega
 have z:∀b,b<ah.length->(ah++cd.drop ah.length)[b]?=ah[b]?:=λb af=>cI af
 have A:∀b,ah.length<=b->(ah++cd.drop ah.length)[b]?=cd[b]?:=λb af=>by
  rw[lN af,pK];congr 1;omega
 have B:∀b blk,b<ah.length->ah[b]?=y blk->cd[b]?=y (ow blk):=λb blk af h=>by
  rw[<-aR,cI (by rw[kL];exact af)]
  unfold lock
  rw[iM,h]
  rfl
 have j:∀b blk,(ah++cd.drop ah.length)[b]?=y blk->∃blk',cd[b]?=y blk'/\ver blk'=ver blk/\(blk'=.dead↔blk=.dead)/\(oy blk'↔oy blk)/\(b<ah.length/\ah[b]?=y blk\/ah.length<=b/\blk'=blk):=λb blk h=>by
  by_cases af:b<ah.length
  ·rw[z b af]at h
   exact⟨_,B b blk af h,wB _,y8,NI,.inl ⟨af,h⟩⟩
  ·rw[A b (by omega)]at h
   exact⟨blk,h,rfl,Iff.rfl,Iff.rfl,.inr ⟨by omega,rfl⟩⟩
 refine⟨Yt x.nL q,⟨λb k o h=>?_,λb blk h hd=>?_,λb bj blk blk' l cK h1 h2 ak aJ aO bt ct=>?_,λb blk l h1 h2 ak=>?_,i.bE,λb blk k o h1 h2 ak=>?_⟩,⟨by simp,x.nL,x.hR,x.ia,λa h1 h2=>q a h1,λb blk l h1 h2 ak=>?_⟩⟩
 ·obtain⟨bI,b0⟩:=i.cl b k o h
  exact⟨by rw[dV,xR];omega,b0⟩
 ·obtain⟨blk',bw,bD,da,c1,fE⟩:=j b blk h
  rcases fE with⟨af,fE⟩|⟨af,rfl⟩
  ·rcases s.rel b blk fE hd with⟨bI,b0⟩|⟨l,u,bI,b0,dj⟩
   ·exact .inl ⟨x.hR _ _ _ bI,b0⟩
   ·exact .inr ⟨l,u,x.hR _ _ _ bI,by rw[q _ ((s.cl _ _ _ bI).2 l rfl)];exact b0,dj.mono x.hR x.ia⟩
  ·exact i.rel b _ bw hd
 ·obtain⟨c2,c,m,n,p,g⟩:=j b blk h1
  obtain⟨ej,aG,aF,C,D,E⟩:=j bj blk' ak
  exact i.inj b bj c2 ej l cK c (λe=>h2 (n.1 e)) aG (λe=>aJ (C.1 e)) (by rw[m];exact aO) (by rw[aF];exact bt) ct
 ·obtain⟨c2,c,m,n,p,g⟩:=j b blk h1
  exact i.sep b c2 l c (p.2 h2) (by rw[m];exact ak)
 ·obtain⟨c2,c,m,n,p,g⟩:=j b blk h1
  have:=i.top b c2 k o c (λe=>h2 (n.1 e)) ak
  omega
 ·obtain⟨c2,c,m,n,p,g⟩:=j b blk h1
  rcases g with⟨af,g⟩|⟨af,rfl⟩
  ·rcases s.rel b blk g h2.live with⟨bI,b0⟩|⟨fa,u,bI,b0,dj⟩
   ·have:=x.hR _ _ _ bI
    rw[ak]at this
    cases this
   ·have:=x.hR _ _ _ bI
    rw[ak]at this
    cases this
    exact .inr ⟨b,blk,l,g,h2,bI,rfl⟩
  ·rcases x.wv b c2 l c h2 ak with aJ|⟨cm,F,fa,bI,b0,_⟩
   ·exact .inl aJ
   ·obtain⟨cH,_,rfl⟩:=sY bI
    exact absurd b0 (IN _)
end Go.aM
namespace Go.aM
open Go.bF
variable {μ : Ren} {φ : dD} {ah : Z} {ha : aX}
def f_(μ:Ren)(φ:dD)(e:eA)(b:bP):Prop:=∀i,bs μ φ (e i) (b i)
theorem f_.mono{aY:Ren}{bJ:dD}{e:eA}{b:bP}(h:f_ μ φ e b)(hm:ev μ aY)(aE:gA φ bJ):f_ aY bJ e b:=λi=>(h i).mono hm aE
theorem f_.bQ{e:eA}{b:bP}(h:f_ μ φ e b){v:U}{v':Value}(ay:bs μ φ v v')(i:Nat):f_ μ φ (nG e i v) (bF.bQ b i v'):=λj=>by
 unfold nG bF.bQ
 cases cM i j
 ·exact h j
 ·exact ay
theorem f_.hr{e:eA}{b:bP}(h:f_ μ φ e b){v:U}{v':Value}(ay:bs μ φ v v')(d:Option Nat):f_ μ φ (ot e d v) (bF.hr b d v'):=by
 cases d with
 |none=>exact h
 |some i=>exact h.bQ ay i
theorem f_.dR{e:eA}{b:bP}(h:f_ μ φ e b)(l:List Nat):f_ μ φ (rS e l) (kn b l):=by
 induction l with
 |nil=>exact h
 |cons i r a6=>exact a6.bQ (.dR _) i
theorem Yv{vs:List U}{ck:List Value}(h:bU μ φ vs ck):bs μ φ (vs.headD je) (ck.headD Go.undef):=by
 cases h with
 |nil=>exact bs.undef
 |cons h _=>exact h
theorem Yw{vs:List U}{ck:List Value}(h:bU μ φ vs ck):bU μ φ vs.tail ck.tail:=by
 cases h with
 |nil=>exact .nil
 |cons _ h=>exact h
theorem f_.fM{e:eA}{b:bP}:∀(l:List Nat) {vs:List U} {ck:List Value},f_ μ φ e b->bU μ φ vs ck->f_ μ φ (pg e l vs) (bF.fM b l ck)
 |[],_,_,h,_=>h
 |i::r,_,_,h,ay=>(f_.fM r h (Yw ay)).bQ (Yv ay) i
theorem f_.getMany{e:eA}{b:bP}(h:f_ μ φ e b):∀(l:List Nat),bU μ φ (mU e l) (bF.getMany b l)
 |[]=>.nil
 |i::r=>.cons (h i) (f_.getMany h r)
theorem f_.val{e:eA}{b:bP}(h:f_ μ φ e b)(x:Operand):bs μ φ (ee e x) (bF.val b x):=by
 cases x with
 |tmp t=>exact h t
 |const v=>exact bs.uf v
 |global g=>exact .dR _
 |func f=>exact .func f .nil .nil
theorem f_.dg{e:eA}{b:bP}(h:f_ μ φ e b):∀(l:List Operand),bU μ φ (sU e l) (bF.dg b l)
 |[]=>.nil
 |x::r=>.cons (h.val x) (f_.dg h r)
theorem f_.ja{e:eA}{b:bP}(h:f_ μ φ e b)(x:Option Operand):h7 μ φ (wq e x) (bF.ja b x):=by
 cases x with
 |none=>exact .none
 |some x=>exact .some (h.val x)
theorem f_.ny{e:eA}{b:bP}(h:f_ μ φ e b):∀(l:List (Nat×Nat×Operand)),y4 μ φ (wu e l) (bF.ny b l)
 |[]=>.nil
 |(i,n,x)::r=>.cons (h.val x) (f_.ny h r)
def jA(Γ:aT)(c:bF.Callee):Prop:=∀f args ah r cd,Γ f args ah=y (r,cd)->∀μ φ ha b,c3 μ φ ah ha->bU μ φ args b->
 ∃dO cp aY bJ,c f b ha=y (dO,cp)/\bs aY bJ r dO/\c3 aY bJ cd cp/\Ext μ φ ah ha aY bJ cd cp
theorem Yx{b:Nat}{args:List U}{c:List Value}{l:bF.Loc}(h:μ b 0=y (y l))(ha:bU μ φ args c):bU μ φ (.ptr b 0::args) (iO l.blk 0::c):=.cons (.ptr h) ha
theorem Yy{Γ:aT}{c:bF.Callee}(e:jA Γ c)(s:c3 μ φ ah ha){f:U}{bX:Value}{args:List U}{i:List Value}{r:U}{cd:Z}(aE:bs μ φ f bX)(j:bU μ φ args i)(h:gz Γ f args ah=y (r,cd)):
 ∃dO cp aY bJ,o3 c bX i ha=y (dO,cp)/\bs aY bJ r dO/\c3 aY bJ cd cp/\Ext μ φ ah ha aY bJ cd cp:=by
 unfold gz at h
 split at h
 ·rename_i g xs ys
  cases aE with|@func _ _ _ fh e2 ae ba=>
   cases af:fX g dX with
   |false=>rw[af]at h;cases h
   |true=>
    rw[af]at h
    obtain⟨dO,cp,aY,bJ,bI,q⟩:=e _ _ _ _ _ h μ φ ha _ s ((ae.append j).append ba)
    exact⟨dO,cp,aY,bJ,by unfold o3;simp only[af,gG];exact bI,q⟩
 ·rename_i b
  cases aE with|@yield _ l hm=>
   obtain⟨dO,cp,aY,bJ,bI,q⟩:=e _ _ _ _ _ h μ φ ha _ s (Yx hm j)
   exact⟨dO,cp,aY,bJ,bI,q⟩
 ·cases h
theorem Yz{Γ:aT}{b:bF.Callee}(e:jA Γ b)(s:c3 μ φ ah ha){f:U}{bX:Value}{args:List U}{c:List Value}{r:U}{cd:Z}(aE:bs μ φ f bX)(i:bU μ φ args c)(h:p7 Γ f args ah=y (r,cd)):
 ∃dO cp aY bJ,sH b bX c ha=y (dO,cp)/\bs aY bJ r dO/\c3 aY bJ cd cp/\Ext μ φ ah ha aY bJ cd cp:=by
 unfold p7 at h
 split at h
 ·rename_i g xs ys
  cases aE with|@func _ _ _ fh e2 ae ba=>
   cases af:fX g dX with
   |false=>rw[af]at h;cases h
   |true=>
    rw[af]at h
    obtain⟨dO,cp,aY,bJ,bI,q⟩:=e _ _ _ _ _ h μ φ ha _ s ((ae.append i).append ba)
    exact⟨dO,cp,aY,bJ,by unfold sH;simp only[af,gG];exact bI,q⟩
 ·cases h
theorem NK{zero:List U}{b:List Value}(h:bU μ φ zero b)(n:Nat):bU μ φ (h_ zero n) (rep b n):=by
 induction n with
 |zero=>exact .nil
 |succ n a6=>exact h.append a6
theorem NL(zero:List U)(n:Nat):(h_ zero n).length=n*zero.length:=by
 induction n with
 |zero=>simp [h_]
 |succ n a6=>rw[h_,dV,a6,iL];omega
theorem NM:∀{bH:List (Nat×Nat×U)} {cs r:List U},cV cs bH=y r->r.length=cs.length:=by
 intro bH
 induction bH with
 |nil=>intro cs r h;cases h;rfl
 |cons p bH a6=>
  intro cs r h
  obtain⟨off,size,v⟩:=p
  simp only[cV]at h
  split at h
  ·rename_i aa
   have:=a6 h
   rw[this]
   simp
   omega
  ·cases h
theorem NN(sz n:Nat)(l:List U):(h9 sz n l).length=n:=by
 induction n generalizing l with
 |zero=>rfl
 |succ n a6=>simp [h9,a6]
theorem IP(sz n:Nat)(l:List U)(h:l.length=n*sz):(h9 sz n l).flatten=l:=by
 induction n generalizing l with
 |zero=>rw[nq]at h;rw[gF h];rfl
 |succ n a6=>
  rw[iL]at h
  rw[h9,mh,a6 _ (by rw[xR];omega),rG]
theorem NO(sz n:Nat)(l:List U)(h:l.length=n*sz):∀r∈h9 sz n l,r.length=sz:=by
 induction n generalizing l with
 |zero=>intro r an;cases an
 |succ n a6=>
  rw[iL]at h
  intro r an
  rcases List.mem_cons.1 an with rfl|an
  ·rw[kD];omega
  ·exact a6 _ (by rw[xR];omega) r an
theorem c3.NP(s:c3 μ φ ah ha)(blk':iB):∃bJ,bJ ha.length=y blk'/\gA φ bJ/\c3 μ bJ ah (ha++[blk'])/\Ext μ φ ah ha μ bJ ah (ha++[blk']):=by
 have g:∀a blk,φ a=y blk->a<ha.length:=λa blk e=>nN (s.bE a blk e)
 obtain⟨bJ,i⟩:∃bJ:dD,bJ=λa=>if a=ha.length then y blk' else φ a:=⟨_,rfl⟩
 have j:bJ ha.length=y blk':=by rw[i];exact aP rfl
 have c:∀a,a≠ha.length->bJ a=φ a:=λa h=>by rw[i];exact aW h
 have aE:gA φ bJ:=λa x h=>by rw[c a (by have:=g a x h;omega)];exact h
 refine⟨bJ,j,aE,⟨λb k o h=>?_,λb blk h hd=>?_,s.inj,λb blk l h1 h2 ak=>?_,λa x h=>?_,s.top⟩,⟨cj _,by simp,ev.refl _,aE,λa h _=>cI h,λb blk l h1 h2 ak=>.inr ⟨b,blk,l,h1,h2,ak,rfl⟩⟩⟩
 ·obtain⟨bI,b0⟩:=s.cl b k o h
  exact⟨bI,λl e=>by rw[dV];have:=b0 l e;omega⟩
 ·rcases s.rel b blk h hd with h|⟨l,n,bI,b0,dj⟩
  ·exact .inl h
  ·exact .inr ⟨l,n,bI,by rw[cI ((s.cl _ _ _ bI).2 l rfl)];exact b0,dj.mono (ev.refl _) aE⟩
 ·rw[c _ (by have:=(s.cl _ _ _ ak).2 l rfl;omega)]
  exact s.sep b blk l h1 h2 ak
 ·by_cases m:a=ha.length
  ·subst m;rw[j]at h;cases h;simp
  ·rw[c a m]at h
   rw[cI (g a x h)]
   exact s.bE a x h
section
variable {R mA : Type} {Q : R -> mA -> Prop}
def NQ(Q:R->mA->Prop)(μ:Ren)(φ:dD)(ah:Z)(ha:aX)(k:U->Z->Option R)(ka:Value->aX->Option mA):Prop:=
 ∀v cd r v' cp aY bJ,k v cd=y r->bs aY bJ v v'->c3 aY bJ cd cp->Ext μ φ ah ha aY bJ cd cp->∃b,ka v' cp=y b/\Q r b
theorem jf{x:Option U}{au:Option Value}{k:U->Z->Option R}{ka:Value->aX->Option mA}(s:c3 μ φ ah ha)(ad:NQ Q μ φ ah ha k ka)(c:∀v,x=y v->∃v',au=y v'/\bs μ φ v v'){r:R}(h:(x.bind λv=>k v ah)=y r):
 ∃b,(au.bind λv=>ka v ha)=y b/\Q r b:=by
 rw[cX]at h
 obtain⟨v,h1,h2⟩:=h
 obtain⟨v',ak,aJ⟩:=c v h1
 obtain⟨b,aO,bt⟩:=ad v ah r v' ha μ φ h2 aJ s (Ext.refl _ _ _ _)
 exact⟨b,by rw[ak];exact aO,bt⟩
theorem BV{Γ:aT}{q:bF.Callee}(w:jA Γ q)(o:wj){e:eA}{p:bP}(he:f_ μ φ e p)(s:c3 μ φ ah ha){k:U->Z->Option R}{ka:Value->aX->Option mA}(ad:NQ Q μ φ ah ha k ka){r:R}(h:gT Γ o e ah k=y r):
 ∃g,dh q (Io o) p ha ka=y g/\Q r g:=by
 cases o with
 |sS t sz=>
  simp only[gT]at h
  split at h
  ·obtain⟨bI,b0⟩:=s.ghost sz t .rw
   exact ad _ _ _ _ _ _ _ h (.j1 _ none (jI _ _ _ _)) bI b0
  ·cases h
 |wk o7 t e5 sz=>
  simp only[gT]at h
  split at h
  ·obtain⟨bI,b0⟩:=s.ghost sz e5 .rw
   have an:bs (put μ ah.length 0 none) φ (.ref ah.length 0 0 0 sz) (.slice none 0 0):=.j1 _ none (jI _ _ _ _)
   obtain⟨cL,cN⟩:=bI.push (.box [.ref ah.length 0 0 0 sz] t .rw) (.cells [.slice none 0 0] t V) 0 ⟨_,V,rfl,by simp,.cons (an.mono (qW bI _ _) (gA.refl _)) .nil,λ_=>rfl⟩
   have bz:(ah++[b3.log [] sz e5 .rw]).length=ah.length+1:=by simp
   rw[bz]at cL cN
   have aG:ah++[b3.log [] sz e5 .rw]++[b3.box [.ref ah.length 0 0 0 sz] t .rw]=ah++[b3.log [] sz e5 .rw,b3.box [.ref ah.length 0 0 0 sz] t .rw]:=by simp
   rw[aG]at cL cN
   cases o7
   ·exact ad _ _ _ (iO ha.length 0) _ _ _ h (.ptr (jI _ _ _ _)) cL (b0.trans cN)
   ·exact ad _ _ _ (iO ha.length 0) _ _ _ h (.ptr (jI _ _ _ _)) cL (b0.trans cN)
  ·cases h
 |mq t zero n parts=>
  simp only[gT]at h
  split at h
  ·rename_i aa
   rw[cX]at h
   obtain⟨l,h1,h2⟩:=h
   split at h2
   ·rename_i y7
    obtain⟨cK,ak,aJ⟩:=IG (NK (bU.gy zero) n) (he.ny parts) h1
    obtain⟨bJ,bI,b0,dj,j⟩:=s.NP (.cells cK t V)
    have ax:l.length=n*zero.length:=by rw[NM h1,NL];simp [p8]
    have u:=aJ.length
    have z:dp<eQ:=by decide
    obtain⟨g,bw,bD⟩:=ad _ _ _ (.slice (y ⟨ha.length,0,none⟩) n n) _ _ _ h2 (.bE (vs:=cK) (t:=t) (rw:=V) (NN _ _ _).symm ⟨cj _,by omega⟩ (NO _ _ _ ax) bI (by omega) (by rw[IP _ _ _ ax];exact y7) (by
     rw[IP _ _ _ ax,oZ,<-ax,u,iy];exact aJ.mono (ev.refl _) b0)) dj j
    refine⟨g,?_,bD⟩
    show((pQ _ _).bind _)=_
    rw[ak]
    exact bw
   ·cases h2
  ·cases h
 |a o=>
  cases o with
  |move x=>exact ad _ _ _ _ _ _ _ h (he.val x) s (Ext.refl _ _ _ _)
  |pick c a b=>exact jf s ad (λv h=>XU (he.val _) (he.val _) (he.val _) h) h
  |bin op x au=>exact jf s ad (λv h=>XK (he.val _) (he.val _) h) h
  |o2 neg x au=>exact jf s ad (λv h=>XL (he.val _) (he.val _) h) h
  |isNil t neg x=>
   simp only[gT,nH]at h
   split at h
   ·rename_i A
    obtain⟨b,af⟩:=XN (neg:=neg) (he.val x) A
    unfold both at h
    split at h
    ·rename_i B
     have h':k (.bool b) ah=y r:=by
      cases b
      ·rw[<-B];exact h
      ·exact h
     obtain⟨g,bw,bD⟩:=ad _ _ _ _ _ _ _ h' (.bool b) s (Ext.refl _ _ _ _)
     exact⟨g,by show((vu _ _ _).bind _)=_;rw[af];exact bw,bD⟩
    ·cases h
   ·exact jf s ad (λv h=>XM (he.val _) h) h
  |od dc neg x au=>exact jf s ad (λv h=>XP (he.val _) (he.val _) h) h
  |un op x=>exact jf s ad (λv h=>XQ (he.val _) h) h
  |conv t x=>exact jf s ad (λv h=>XS (he.val _) h) h
  |yh x=>exact jf s ad (λv h=>XR (he.val _) h) h
  |len str x=>exact jf s ad (λv h=>XT (he.val _) h) h
  |extract x i=>exact jf s ad (λv h=>XV (he.val _) h) h
  |field agg off size x=>exact jf s ad (λv h=>XW (he.val _) h) h
  |rJ n agg size x i=>exact jf s ad (λv h=>XX (he.val _) (he.val _) h) h
  |nw x i=>exact jf s ad (λv h=>XY (he.val _) (he.val _) h) h
  |fieldAddr off x=>exact jf s ad (λv h=>Nw (he.val _) h) h
  |indexAddr size x i=>exact jf s ad (λv h=>X0 (he.val _) (he.val _) h) h
  |yi n size x i=>exact jf s ad (λv h=>X2 (he.val _) (he.val _) h) h
  |nilCheck x=>exact jf s ad (λv h=>X3 (he.val _) h) h
  |slice size x lo ai mx=>exact jf s ad (λv h=>X5 (he.val _) (he.ja _) (he.ja _) (he.ja _) h) h
  |yj x lo ai=>exact jf s ad (λv h=>X6 (he.val _) (he.ja _) (he.ja _) h) h
  |yk=>cases h
  |max xs=>exact jf s ad (λv h=>Ny (λ_ _ _ _ _=>X7) (he.dg _) h) h
  |min xs=>exact jf s ad (λv h=>Ny (λ_ _ _ _ _=>X8) (he.dg _) h) h
  |build zero parts=>
   simp only[gT,cX]at h
   obtain⟨l,h1,h2⟩:=h
   obtain⟨cK,ak,aJ⟩:=IG (bU.gy zero) (he.ny parts) h1
   obtain⟨g,bw,bD⟩:=ad _ _ _ _ _ _ _ h2 (.agg aJ) s (Ext.refl _ _ _ _)
   exact⟨g,by show((pQ _ _).bind _)=_;rw[ak];exact bw,bD⟩
  |ko f first oe=>exact ad _ _ _ _ _ _ _ h (.func f (he.dg _) (he.dg _)) s (Ext.refl _ _ _ _)
  |tT t x=>exact ad _ _ _ _ _ _ _ h (.iface t (he.val x)) s (Ext.refl _ _ _ _)
  |box t x=>
   by_cases aA:(cn (ee e x)).length=0
   ·have C:cn (ee e x)=[]:=gF aA
    simp only[gT,C]at h
    obtain⟨bI,b0⟩:=s.push (.box [] t .rw) (.cells (kU (bF.val p x)) t V) 0 ⟨_,V,rfl,by simp,.nil,λ_=>rfl⟩
    exact ad _ _ _ (iO ha.length 0) _ _ _ h (.ptr (jI _ _ _ _)) bI b0
   ·have m:=(he.val x).cells aA
    obtain⟨bI,b0⟩:=s.push (.box (cn (ee e x)) t .rw) (.cells (kU (bF.val p x)) t V) 0 ⟨_,V,rfl,by rw[m.length];exact cj _,by rw[m.length,iy];exact m.mono (qW s _ _) (gA.refl _),λ_=>rfl⟩
    exact ad _ _ _ (iO ha.length 0) _ _ _ h (.ptr (jI _ _ _ _)) bI b0
  |new t zero=>
   have m:bU μ φ (p8 zero) zero:=bU.gy zero
   obtain⟨bI,b0⟩:=s.push (.box (p8 zero) t .rw) (.cells zero t V) 0 ⟨_,V,rfl,by rw[m.length];exact cj _,by rw[m.length,iy];exact m.mono (qW s _ _) (gA.refl _),λ_=>rfl⟩
   exact ad _ _ _ (iO ha.length 0) _ _ _ h (.ptr (jI _ _ _ _)) bI b0
  |buildSlice t zero n parts=>
   simp only[gT]at h
   split at h
   ·rename_i aa
    rw[cX]at h
    obtain⟨l,h1,h2⟩:=h
    obtain⟨cK,ak,aJ⟩:=IG (NK (bU.gy zero) n) (he.ny parts) h1
    have ax:l.length=n*zero.length:=by rw[NM h1,NL];simp [p8]
    have u:=aJ.length
    have z:dp<eQ:=by decide
    have m:=NN zero.length n l
    have D:=IP zero.length n l ax
    obtain⟨bI,b0⟩:=s.push (.log (h9 zero.length n l) zero.length t .rw) (.cells cK t V) n ⟨_,V,rfl,by rw[m];omega,by rw[m,D,<-ax,u,iy];exact aJ.mono (qW s _ _) (gA.refl _),NO _ _ _ ax,by omega,λ_=>rfl,by rw[m];exact aa.2.2⟩
    obtain⟨g,bw,bD⟩:=ad _ _ _ (.slice (y ⟨ha.length,0,none⟩) n n) _ _ _ h2 (by
     have:=bs.ref (μ:=put μ ah.length (ver (.log (h9 zero.length n l) zero.length t .rw)) (y ⟨ha.length,n⟩)) (φ:=φ) (b:=ah.length) (lo:=0) (n:=n) (sz:=zero.length) (c:=n) (jI _ _ _ _) (by simp [ver,m]) (.inr ⟨by omega,by omega,by simp⟩)
     rw[nq]at this
     simpa [ver,m]using this) bI b0
    exact⟨g,by show((pQ _ _).bind _)=_;rw[ak];exact bw,bD⟩
   ·split at h
    ·obtain⟨bJ,bI,b0,dj,j⟩:=s.NP (.cells [] t V)
     exact ad _ _ _ (.slice (y ⟨ha.length,0,none⟩) 0 0) _ _ _ h (.emp _) dj j
    ·cases h
  |mkSlice t zero n c=>
   simp only[gT]at h
   split at h
   ·rw[cX]at h
    obtain⟨⟨v,cd⟩,h1,h2⟩:=h
    obtain⟨v',cp,aY,bI,b0,dj,j⟩:=Yg s (bU.gy zero) (he.val n) (he.val c) h1
    obtain⟨g,bw,bD⟩:=ad _ _ _ _ _ _ _ h2 b0 dj j
    exact⟨g,by show((tV _ _ _ _ _).bind _)=_;rw[bI];exact bw,bD⟩
   ·cases h
  |load agg n x=>exact jf s ad (λv h=>Nz s (he.val _) h) h
  |store n x v=>
   simp only[gT,cX]at h
   obtain⟨cd,h1,h2⟩:=h
   obtain⟨cp,bI,b0,dj⟩:=Yc s (he.val x) (he.val v) h1
   obtain⟨g,bw,bD⟩:=ad _ _ _ _ _ _ _ h2 bs.undef b0 dj
   exact⟨g,by show((sE _ _ _ _).bind _)=_;rw[bI];exact bw,bD⟩
  |append t size x au=>
   simp only[gT,cX]at h
   obtain⟨⟨v,cd⟩,h1,h2⟩:=h
   obtain⟨v',cp,aY,bI,b0,dj,j⟩:=Ye s (he.val x) (he.val au) h1
   obtain⟨g,bw,bD⟩:=ad _ _ _ _ _ _ _ h2 b0 dj j
   exact⟨g,by show((sF _ _ _ _ _).bind _)=_;rw[bI];exact bw,bD⟩
  |copy size d x=>
   simp only[gT,cX]at h
   obtain⟨⟨v,cd⟩,h1,h2⟩:=h
   obtain⟨v',cp,bI,b0,dj,j⟩:=Yh s (he.val d) (he.val x) h1
   obtain⟨g,bw,bD⟩:=ad _ _ _ _ _ _ _ h2 b0 dj j
   exact⟨g,by show((pT _ _ _ _).bind _)=_;rw[bI];exact bw,bD⟩
  |clear zero x=>
   simp only[gT,cX]at h
   obtain⟨⟨v,cd⟩,h1,h2⟩:=h
   obtain⟨v',cp,bI,b0,dj,j⟩:=Yi s (bU.gy zero) (he.val x) h1
   obtain⟨g,bw,bD⟩:=ad _ _ _ _ _ _ _ h2 b0 dj j
   exact⟨g,by show((vF _ _ _).bind _)=_;rw[bI];exact bw,bD⟩
  |vB t size zero x au=>
   simp only[gT,cX]at h
   obtain⟨⟨v,cd⟩,h1,h2⟩:=h
   obtain⟨v',cp,aY,bI,b0,dj,j⟩:=Yf s (bU.gy zero) (he.val x) (he.val au) h1
   obtain⟨g,bw,bD⟩:=ad _ _ _ _ _ _ _ h2 b0 dj j
   exact⟨g,by show((vE _ _ _ _ _ _).bind _)=_;rw[bI];exact bw,bD⟩
  |mkMap=>
   obtain⟨bI,b0⟩:=s.push (.map [] .rw) (.map []) 0 ⟨[],rfl,.nil,.nil⟩
   exact ad _ _ _ (.map (y ha.length)) _ _ _ h (.map (jI _ _ _ _)) bI b0
  |lookup t zero ok x i=>exact jf s ad (λv h=>Yl s (bs.uf zero) (he.val _) (he.val _) h) h
  |pR t x i v=>
   simp only[gT,cX]at h
   obtain⟨cd,h1,h2⟩:=h
   obtain⟨cp,bI,b0,dj⟩:=Ym s (he.val x) (he.val i) (he.val v) h1
   obtain⟨g,bw,bD⟩:=ad _ _ _ _ _ _ _ h2 bs.undef b0 dj
   exact⟨g,by show((vJ _ _ _ _ _).bind _)=_;rw[bI];exact bw,bD⟩
  |vC x=>exact jf s ad (λv h=>Yn s (he.val _) h) h
  |vD x=>exact jf s ad (λv h=>Yp s (he.val _) h) h
  |call f args=>
   simp only[gT,cX]at h
   obtain⟨⟨v,cd⟩,h1,h2⟩:=h
   obtain⟨v',cp,aY,bJ,bI,b0,dj,j⟩:=w _ _ _ _ _ h1 μ φ ha _ s (he.dg args)
   obtain⟨g,bw,bD⟩:=ad _ _ _ _ _ _ _ h2 b0 dj j
   exact⟨g,by show((q _ _ _).bind _)=_;rw[bI];exact bw,bD⟩
  |im f args=>
   simp only[gT,cX]at h
   obtain⟨⟨v,cd⟩,h1,h2⟩:=h
   obtain⟨v',cp,aY,bJ,bI,b0,dj,j⟩:=Yy w s (he.val f) (he.dg args) h1
   obtain⟨g,bw,bD⟩:=ad _ _ _ _ _ _ _ h2 b0 dj j
   exact⟨g,by show((o3 _ _ _ _).bind _)=_;rw[bI];exact bw,bD⟩
  |fail=>cases h
end
end Go.aM
