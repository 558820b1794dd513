import Derived.Test.YtffennknofmjoaaGreatP4
import Derived.Shelf.Sort.AssemblyIn
import Derived.Shelf.Slices.In.SortNone
import Derived.Test.YtffennknofmjoaaGreatChecked
set_option linter.unusedSimpArgs false
set_option linter.unusedVariables false
set_option maxRecDepth 20000
open BitVec renaming ofInt->kC
open Bool renaming and_eq_true->dn,and_true->jT,false_eq_true->bn,false_or->sy,not_eq_false'->L7,not_eq_true'->mf,not_false->gN,not_true->fg,or_eq_false_iff->rE,or_eq_true->mM,true_and->hq,false->M,true->V
open Go renaming FuncId->dU,TypeId->a1
open Go.IntKind renaming i64->E,bits->xZ,signed->x0
open Int renaming mul_le_mul->xW,toNat_natCast->mc
open List.Nodup renaming length_le_of_subset->L5
open List renaming all_cons->n',all_eq_true->AP,all_nil->vp,append_assoc->eb,append_nil->fD,cons_append->js,drop_zero->oZ,eq_nil_of_length_eq_zero->gF,ext_getElem?->fx,filter_append->AS,flatMap_append->vr,flatMap_singleton->AT,foldl_append->AO,getD_eq_getElem?_getD->iN,getElem?_append_left->cI,getElem?_append_right->lN,getElem?_cons_succ->mK,getElem?_cons_zero->ki,getElem?_eq_getElem->fJ,getElem?_eq_none->eE,getElem?_map->iM,getElem?_mapIdx->fQ,getElem?_replicate->Hy,getElem?_set->AQ,getElem?_set_ne->hP,getElem?_set_self->fK,getElem?_take_of_lt->mb,getElem_idxOf->AR,getElem_mem->pM,idxOf_append->Hz,idxOf_lt_length_of_mem->L6,length->tP,length_append->dV,length_cons->jS,length_map->c9,length_mapIdx->km,length_range->Hs,length_replicate->vn,length_set->iz,length_take->kD,mapIdx_mapIdx->Hx,map_append->jt,map_cons->me,map_set->vq,mem_append->lO,mem_append_left->oc,mem_cons->hF,mem_map->ju,mem_mapIdx->tR,mem_of_getElem?->dN,mem_range->tN,mem_singleton->hp,nil_append->hV,not_mem_nil->ik,range->fj,range_succ->x3,replicate->dF,set_set->lj,take_append_drop->rG,take_left->vm,take_length->iy
open Nat renaming add_zero->vc,beq->cM,beq_refl->qF,blt->fX,le_of_ble_eq_true->sA,le_refl->cj,lt_succ_self->fC,min->gn,min_eq_left->ns,reduceAdd->aV,zero_add->hh,zero_le->hO
open Ne renaming symm->oa
open Option renaming bind_some->dy,getD_some->ob,map_some->dw,some->y
open Option.some renaming inj->jU
open Go.aM.U renaming int->J
namespace Go.aM.X
open Go.bF Go.aM
attribute [local congr] mZ m0 m5 m6 oE q4 q5 r3
theorem zW(a b c d e f g i j k l m n:U)(x:ByteArray)(au z h p q:Int)(w:Bool)(o:U)(t:dt o=V):cF [a,b,c,d,e,f,g,i,j,k,l,m,n] 0 [.str x,J E au,J E z,o,J E 0,J E h,J E p,J E q,.bool w,.a7,.a7,.a7,.a7]=y [.str x,J E au,J E z,o,J E 0,J E h,J E p,J E q,.bool w,.a7,.a7,.a7,.a7]:=ib rfl (by simp only[n',t,vp,jT,hq];rfl)
theorem agv(a b c d e f g i j k l m n:U)(x:ByteArray)(au z:Int)(w:Bool)(o:U)(C:dt o=V)(h p q t u A t2 t3 t4 t5:Nat):cF [a,b,c,d,e,f,g,i,j,k,l,m,n] 0 [.str x,J E au,J E z,o,J E 0,J E 6,J E 125,J E 128,.bool w,.ref h p q t u,.ref A t2 t3 t4 t5,.a7,.a7]=y [.str x,J E au,J E z,o,J E 0,J E 6,J E 125,J E 128,.bool w,.ref h p q t u,.ref A t2 t3 t4 t5,.a7,.a7]:=ib rfl (by simp only[n',C,vp,jT,hq];rfl)
theorem zX:dt .a7=V:=rfl
theorem agw(a b c d e:Nat):dt (.ref a b c d e)=V:=rfl
theorem Kp{h l:Z}{n:Int}:aN [.agg fp,.aj] h (h++l) [.agg [.str ⟨#[]⟩,J E 0,J E 0,.a7,J E 0,J E 0,J E 0,J E 0,.bool M,.a7,.a7,.a7,.a7],J E n]=y (.tuple [.agg l4.cs,J E n],h):=by
 refine q8 (ws:=[.agg l4.cs,J E n]) (l:=l) ?_ ?_
 ·rw[iV,um]
  unfold fp
  simp only[iV,jK,kN,b8,qf,N8,I0]
  rfl
 ·intro v ay
  simp only[hF,ik,h6]at ay
  rcases ay with rfl|rfl
  ·exact j5 rfl
  ·exact j5 rfl
def Sw(d ch n:Int):U:=
 if ic d≠0 then .tuple [.agg l4.cs,J E (ic d)]
 else if(!b9 ch 1 (f' d 1)||!b9 n 1 32)=V then .tuple [.agg l4.cs,J E 5]
 else .tuple [.agg (F6 d ch.toNat n.toNat).cs,J E 0]
theorem Sx(d:Int):f' d 1<=16:=px (λr=>l2 r 1<=16) (by decide) (by decide) (by decide) (by decide) (by decide) (by decide) (by decide) d
theorem agx:f' 1 1=4:=by decide
theorem agy{h:Z}{d:Int}{ch n:Nat}(h1:1<=ch)(aA:1<=n)(cm:b3)(r:Z){b:Bool}(af:b=eL d 8):
 aN [.agg fp,.aj] h (h++cm::.box (dm d) 83 .rw::na d ch b (.ref (h.length+6) 0 n n 1) (.ref (h.length+3) 0 ch ch 1) (.ref (h.length+5) 0 n n 2)::.log ((kz d ch).map bA) 1 3 .rw::.box (dL (gK ch)) 39 .rw::.log (dF n (dL (gK ch))) 2 39 .rw::.log ((cG n).map bA) 1 3 .rw::r)
  [.agg [.str ⟨#[]⟩,J E d,J E ch,.ref (h.length+6) 0 n n 1,J E 0,J E 6,J E 125,J E 128,.bool b,.ref (h.length+3) 0 ch ch 1,.ref (h.length+5) 0 n n 2,.a7,.a7],J E 0]
  = y (.tuple [.agg (F6 d ch n).cs,J E 0],h):=by
 subst af
 generalize o:na d ch (eL d 8) (.ref (h.length+6) 0 n n 1) (.ref (h.length+3) 0 ch ch 1) (.ref (h.length+5) 0 n n 2)=S
 have g:((dF n (dL (gK ch))).length)=n:=by simp
 have i:cC (.flat 1) (.ref (h.length+6) 0 n n 1) (h++cm::.box (dm d) 83 .rw::S::.log ((kz d ch).map bA) 1 3 .rw::.box (dL (gK ch)) 39 .rw::.log (dF n (dL (gK ch))) 2 39 .rw::.log ((cG n).map bA) 1 3 .rw::r)=y (dz (cG n),h++cm::.box (dm d) 83 .rw::S::.log ((kz d ch).map bA) 1 3 .rw::.box (dL (gK ch)) 39 .rw::.log (dF n (dL (gK ch))) 2 39 .rw::.log ((cG n).map bA) 1 3 .ro::r):=by
  have e:=zj (h:=h) (l:=cm::.box (dm d) 83 .rw::S::.log ((kz d ch).map bA) 1 3 .rw::.box (dL (gK ch)) 39 .rw::.log (dF n (dL (gK ch))) 2 39 .rw::.log ((cG n).map bA) 1 3 .rw::r) (k:=6) (s:=1) rfl (by rw[F8];omega) (nP (f:=bA) (λc=>rfl) _)
  rw[F8]at e
  exact e
 have j:∀m:ep,cC (.flat 1) (.ref (h.length+3) 0 ch ch 1) (h++cm::.box (dm d) 83 .rw::S::.log ((kz d ch).map bA) 1 3 .rw::.box (dL (gK ch)) 39 .rw::.log (dF n (dL (gK ch))) 2 39 .rw::.log ((cG n).map bA) 1 3 m::r)=y (dz (kz d ch),h++cm::.box (dm d) 83 .rw::S::.log ((kz d ch).map bA) 1 3 .ro::.box (dL (gK ch)) 39 .rw::.log (dF n (dL (gK ch))) 2 39 .rw::.log ((cG n).map bA) 1 3 m::r):=λm=>by
  have e:=zj (h:=h) (l:=cm::.box (dm d) 83 .rw::S::.log ((kz d ch).map bA) 1 3 .rw::.box (dL (gK ch)) 39 .rw::.log (dF n (dL (gK ch))) 2 39 .rw::.log ((cG n).map bA) 1 3 m::r) (k:=3) (s:=1) rfl (by rw[F7];omega) (nP (f:=bA) (λc=>rfl) _)
  rw[F7]at e
  exact e
 have z3:∀m fl:ep,cC (.bZ 2 [.aj,.flat 6]) (.ref (h.length+5) 0 n n 2) (h++cm::.box (dm d) 83 .rw::S::.log ((kz d ch).map bA) 1 3 m::.box (dL (gK ch)) 39 .rw::.log (dF n (dL (gK ch))) 2 39 .rw::.log ((cG n).map bA) 1 3 fl::r)=y (l1 (dF n (gK ch)),h++cm::.box (dm d) 83 .rw::S::.log ((kz d ch).map bA) 1 3 m::.box (dL (gK ch)) 39 .rw::.log (dF n (dL (gK ch))) 2 39 .ro::.log ((cG n).map bA) 1 3 fl::r):=λm fl=>by
  have e:=Zs (h:=h) (l:=cm::.box (dm d) 83 .rw::S::.log ((kz d ch).map bA) 1 3 m::.box (dL (gK ch)) 39 .rw::.log (dF n (dL (gK ch))) 2 39 .rw::.log ((cG n).map bA) 1 3 fl::r) (k:=5) (s:=2) (cs:=[.aj,.flat 6]) rfl (by rw[g];omega) (λr an=>by rw[List.eq_of_mem_replicate an];rfl) (by rw[<-List.map_replicate];exact nP (f:=dL) (λc=>rfl) _)
  rw[g]at e
  unfold l1
  rw[List.map_replicate]
  exact e
 refine q8 (ws:=[.agg (F6 d ch n).cs,J E 0]) (l:=cm::.box (dm d) 83 .rw::S::.log ((kz d ch).map bA) 1 3 .ro::.box (dL (gK ch)) 39 .rw::.log (dF n (dL (gK ch))) 2 39 .ro::.log ((cG n).map bA) 1 3 .ro::r) ?_ ?_
 ·rw[iV,um]
  unfold fp
  simp only[iV,jK,kN,b8,qf,i,j,z3,I0]
  rfl
 ·intro v ay
  simp only[hF,ik,h6]at ay
  rcases ay with rfl|rfl
  ·exact j5 rfl
  ·exact j5 rfl
theorem agz(d ch n:Int)(h:Z):aL 17 [J E d,J E ch,J E n] h=y (Sw d ch n,h):=by
 obtain⟨N,x⟩:∃N:Nat,40<N:=⟨_,fC _⟩
 refine cu (F:=CD) (by kernel_rfl) N ?_
 rw[aaZ];unfold ON Sw
 have br:=xa d (vs:=e8) rfl
 by_cases e:ic d=0
 ·have b:(ic d !=0)=M:=by rw[e];rfl
  rw[aW (by rw[e];simp)]
  by_cases an:(!b9 ch 1 (f' d 1)||!b9 n 1 32)=V
  ·rw[aP an]
   simp only[aU,↓aI,aV,uA,uU,br,b,bn,bh,FW,q9,an,a_,lr,xf,zW _ _ _ _ _ _ _ _ _ _ _ _ _ _ _ _ _ _ _ _ _ zX,zV,Kp]
  ·rw[aW an]
   rw[mM,not_or]at an
   simp only[mf,Bool.not_eq_false,b9,dn,eJ]at an
   have z:=Sx d
   have l:b9 ch 1 (f' d 1)=V:=by unfold b9;simp only[dn,eJ];omega
   have o:b9 n 1 32=V:=by unfold b9;simp only[dn,eJ];omega
   obtain⟨c,rfl⟩:∃c:Nat,ch=(c:Int):=⟨ch.toNat,by omega⟩
   obtain⟨m,rfl⟩:∃m:Nat,n=(m:Int):=⟨n.toNat,by omega⟩
   have aJ:d=1->c<=4:=λk=>by
    have:=an.1.2
    rw[k,agx]at this
    omega
   have g:1<=c:=by omega
   have jc:c<=16:=by omega
   have p:1<=m:=by omega
   have q:m<=32:=by omega
   rw[mc,mc]
   simp only[aU,↓aI,aV,uA,uU,br,b,bn,bh,FW,q9,l,o,fg,Bool.or_false,J3,agk,xf,zW _ _ _ _ _ _ _ _ _ _ _ _ _ _ _ _ _ _ _ _ _ zX]
   refine hx (λi=>[J E (i:Int)]) (rp h d c (eL d 8) .a7) c (by omega) rfl rfl (λi ai K=>agn ai jc aJ K) λK=>?_
   have t:((c:Int)<(c:Int))=False:=dI (by omega)
   have u:rp h d c (eL d 8) .a7 c=iC h d c (eL d 8) 0:=by
    obtain⟨j,rfl⟩:∃j,c=j+1:=⟨c-1,by omega⟩
    rfl
   rw[u]
   unfold zq
   simp only[aU,↓aI,aV,t,c4,bn,bh]
   refine hx (λi=>[J E (i:Int)]) (iC h d c (eL d 8)) m (by omega) rfl rfl (λi ai K=>agu ai q g jc K) λK=>?_
   have w:((m:Int)<(m:Int))=False:=dI (by omega)
   obtain⟨fl,rfl⟩:∃fl,m=fl+1:=⟨m-1,by omega⟩
   unfold CE
   simp only[iC,eD,na,aU,↓aI,aV,w,c4,bn,bh,zV,xf,agv _ _ _ _ _ _ _ _ _ _ _ _ _ _ _ _ _ _ (agw _ _ _ _ _)]
   exact agy g p _ _ rfl
 ·have b:(ic d !=0)=V:=by simpa using e
  rw[aP e]
  simp only[aU,↓aI,aV,uA,uU,br,b,a_,lr,xf,zW _ _ _ _ _ _ _ _ _ _ _ _ _ _ _ _ _ _ _ _ _ zX,zV,Kp]
end Go.aM.X
namespace Go.aM.X
open Go.bF Go.aM
def blank:aH:={ name:=⟨#[]⟩,bO:=1,ch:=4,bk:=[0],rest:=0,hy:=6,hz:=125,hA:=128,gq:=M,cy:=[0,256,256,0],aw:=[(64,dF 256 rn)],az:=[],ag:=[] }
def F':aH:={ blank with gq:=V }
def Sy:d_:=(64,dF 256 rn)
theorem agA:F6 1 4 1=blank:=by kernel_rfl
theorem agB(h:Z):aL 17 [J E 1,J E 4,J E 1] h=y (.tuple [.agg blank.cs,J E 0],h):=by
 rw[agz,<-agA]
 rfl
end Go.aM.X
namespace Go.aM.X
open Go.bF Go.aM
attribute [local congr] mZ m0 m5 m6 oE q4 q5 r3
theorem agC(s:aH)(vs:List U)(t:a1)(l:Z):bf 13 (.ptr 0 0) (.agg s.cs) (.box vs t .rw::l)=(cF vs 0 s.cs).map λck=>.box ck t .rw::l:=jh rfl (by decide)
theorem agD(s:aH)(a b c d e f g i j k l m n:U):cF [a,b,c,d,e,f,g,i,j,k,l,m,n] 0 s.cs=y s.cs:=ib rfl rfl
theorem agE(b:Bool)(o:Nat)(vs:List U)(t:a1)(l:Z):bf 1 (.ptr 0 o) (.bool b) (.box vs t .rw::l)=(cF vs o [.bool b]).map λck=>.box ck t .rw::l:=gB rfl o vs t l
theorem agF:cF blank.cs 8 [.bool V]=y F'.cs:=ca rfl
theorem agG:bY 1 (dz blank.cy) (J E 1)=y (.fz (bA 256) 0):=ca rfl
theorem Sz:gW blank where
 name:=by decide
 bk:=by decide
 cy:=by decide
 aw:=by decide
 cells:=λp ah=>by
  have:p=Sy:=by simpa [blank,Sy]using ah
  subst this
  show(dF 256 rn).length<_
  rw[vn];decide
 az:=by decide
 lz:=λp ah=>by cases ah
 ag:=by decide
 ins:=λp ah=>by cases ah
theorem agH:gW F' where
 name:=by decide
 bk:=by decide
 cy:=by decide
 aw:=by decide
 cells:=Sz.cells
 az:=by decide
 lz:=λp ah=>by cases ah
 ag:=by decide
 ins:=λp ah=>by cases ah
theorem agI:k_ blank=F2:=by kernel_rfl
theorem agJ:k_ F'=(⟨#[108,105,110,101,97,114]⟩,0,6):=by kernel_rfl
theorem r6(h:Z):aL 8 [] h=y (.bool V,h):=by
 refine cu (F:=Cn) (by kernel_rfl) 1 ?_
 rw[aaR];unfold OF
 simp only[aU,↓aI,aV,agB,agC,agD,ly,agE,agF,Sc F' agH,agJ,w',I4,I5,I6,uC blank Sz,agI,w4,lV,agG,uV,ako,dJ]
 have aG:(F2.2.2==0)=V:=rfl
 have aF:((blank.cy.length:Int)==4)=V:=rfl
 simp only[aG,aF,pN,Bool.and_self]
end Go.aM.X
namespace Go.aM.X
open Go.bF Go.aM
structure sd(s:aH):Prop where
 name:k8 s.name=V
 bO:b9 s.bO 1 6=V
 ch:b9 s.ch 1 (f' s.bO 1)=V
 pA:b9 s.aw.length 1 (f' s.bO 2)=V
 aw:∀p∈s.aw,kx s p=0
 th:b9 s.bk.length 1 64=V
 bk:∀o∈s.bk,k9 s o=M
 rest:b9 s.rest 0 (IntKind.i64.wrap ((s.bk.length:Int)-1))=V
 hy:b9 s.hy 1 31=V
 hz:b9 s.hz 32 255=V
 hA:b9 s.hA 0 128=V
 gq:(!s.gq||eL s.bO 8)=V
 ti:(s.cy.length:Int)=s.ch
 cy:∀p∈s.cy,b9 p 0 256=V
 qt:(s.az.length:Int)<=31
 az:∀x∈s.az,kP x=V
 rq:(s.ag.length:Int)<=31
 ag:∀x∈s.ag,ky s x=0
theorem nb{ok:Bool}{part:ByteArray}{e:Int}(he:e≠0)(h:gJ (hM ok part e)=M):ok=V:=by
 cases ok with
 |true=>rfl
 |false=>
  have h2:(e !=0)=M:=h
  rw[bne_eq_false_iff_eq]at h2
  exact absurd h2 he
theorem zY{α:Type}{part:ByteArray}{code:α->Int}{l:List α}(h:gJ (jC part code l)=M):∀a∈l,code a=0:=by
 unfold jC at h
 cases ai:l.findIdx? (λa=>code a !=0)with
 |none=>
  intro a ha
  have:=List.findIdx?_eq_none_iff.1 ai a ha
  rwa [bne_eq_false_iff_eq]at this
 |some i=>
  rw[ai]at h
  obtain⟨a,h1,h2⟩:=Kj ai
  simp only[h1,dw,ob]at h
  have ak:(code a !=0)=M:=h
  rw[h2]at ak
  cases ak
theorem Ga{l:List fc}{f:fc}(h:l.find? gJ=y f):(f.2.2==0)=M:=by
 have:=List.find?_some h
 unfold gJ at this
 rw[jV]
 rwa [kl]at this
theorem Gb{s:aH}(h:((k_ s).2.2==0)=V):sd s:=by
 rw[Km]at h
 unfold xd at h
 cases h1:(mF s).find? gJ with
 |some f=>
  rw[h1]at h
  simp only[Ga h1]at h
  cases h
 |none=>
  rw[h1]at h
  simp only at h
  cases h2:(m' s).find? gJ with
  |some f=>
   rw[h2]at h
   simp only[Ga h2]at h
   cases h
  |none=>
   have cL:=List.find?_eq_none.1 h1
   have cN:=List.find?_eq_none.1 h2
   have m1:∀f∈mF s,gJ f=M:=λf aE=>by simpa using cL f aE
   have m2:∀f∈m' s,gJ f=M:=λf aE=>by simpa using cN f aE
   unfold mF at m1
   unfold m' at m2
   simp only[List.forall_mem_cons]at m1 m2
   obtain⟨g,i,a3,_⟩:=m1
   obtain⟨cH,j,k,l,m,n,p,q,t,u,w,x,z,A,B,_⟩:=m2
   have bD:=nb (by decide) i
   have c:=nb (by decide) x
   have e:=nb (by decide) A
   simp only[dn,eJ]at c e
   exact {
    name:=nb (by decide) g
    bO:=by
     have:=bD
     unfold ic at this
     cases hd:b9 s.bO 1 6 with
     |true=>rfl
     |false=>rw[hd]at this;cases this
    ch:=nb (by decide) a3
    pA:=nb (by decide) cH
    aw:=zY j
    th:=nb (by decide) k
    bk:=λo b=>by
     have:=zY l o b
     cases af:k9 s o with
     |false=>rfl
     |true=>rw[af]at this;cases this
    rest:=nb (by decide) m
    hy:=nb (by decide) n
    hz:=nb (by decide) p
    hA:=nb (by decide) q
    gq:=nb (by decide) t
    ti:=by
     have:=nb (by decide) u
     rwa [i']at this
    cy:=λo b=>by
     have:=zY w o b
     cases af:b9 o 0 256 with
     |true=>rfl
     |false=>rw[af]at this;cases this
    qt:=c.1
    az:=λo b=>by
     have:=zY z o b
     cases af:kP o with
     |true=>rfl
     |false=>rw[af]at this;cases this
    rq:=e.1
    ag:=zY B }
end Go.aM.X
namespace Go.Proofs
open Go.Shelf
def Tryz.SA:Go.Shelf.Ren:=⟨fun|189=>144|125=>169|257=>168|128=>186|129=>187|294=>177|295=>178|296=>179|297=>180|298=>181|299=>182|216=>183|300=>184|301=>185|328=>196|329=>197|330=>198|331=>199|332=>200|215=>201|343=>202|n=>n,fun|28=>22|3=>3|46=>150|0=>0|51=>172|53=>175|4=>4|183=>190|182=>189|131=>194|5=>5|9=>9|218=>199|222=>203|228=>205|229=>48|n=>n,fun|n=>n⟩
theorem Tryz.SB:Go.Proofs.Lays.n189 Tryz.prog Tryz.SA:={
 mixed:=by kernel_rfl
 f125:=Tryz.func169.trans (cZ y (by kernel_rfl))
 f128:=Tryz.func186.trans (cZ y (by kernel_rfl))
 f129:=Tryz.func187.trans (cZ y (by kernel_rfl))
 f189:=Tryz.func144.trans (cZ y (by kernel_rfl))
 f215:=Tryz.func201.trans (cZ y (by kernel_rfl))
 f216:=Tryz.func183.trans (cZ y (by kernel_rfl))
 f257:=Tryz.func168.trans (cZ y (by kernel_rfl))
 f294:=Tryz.func177.trans (cZ y (by kernel_rfl))
 f295:=Tryz.func178.trans (cZ y (by kernel_rfl))
 f296:=Tryz.func179.trans (cZ y (by kernel_rfl))
 f297:=Tryz.func180.trans (cZ y (by kernel_rfl))
 f298:=Tryz.func181.trans (cZ y (by kernel_rfl))
 f299:=Tryz.func182.trans (cZ y (by kernel_rfl))
 f300:=Tryz.func184.trans (cZ y (by kernel_rfl))
 f301:=Tryz.func185.trans (cZ y (by kernel_rfl))
 f328:=Tryz.func196.trans (cZ y (by kernel_rfl))
 f329:=Tryz.func197.trans (cZ y (by kernel_rfl))
 f330:=Tryz.func198.trans (cZ y (by kernel_rfl))
 f331:=Tryz.func199.trans (cZ y (by kernel_rfl))
 f332:=Tryz.func200.trans (cZ y (by kernel_rfl))
 f343:=Tryz.func202.trans (cZ y (by kernel_rfl))
 t0:=Tryz.underlying0
 a0:=Tryz.isAgg0
 z0:=Tryz.sizeOf0
 v0:=Tryz.zeroValue0
 t3:=Tryz.underlying3
 a3:=Tryz.isAgg3
 z3:=Tryz.sizeOf3
 v3:=Tryz.zeroValue3
 t4:=Tryz.underlying4
 a4:=Tryz.isAgg4
 z4:=Tryz.sizeOf4
 v4:=Tryz.zeroValue4
 t5:=Tryz.underlying5
 a5:=Tryz.isAgg5
 z5:=Tryz.sizeOf5
 v5:=Tryz.zeroValue5
 t9:=Tryz.underlying9
 a9:=Tryz.isAgg9
 z9:=Tryz.sizeOf9
 v9:=Tryz.zeroValue9
 t28:=Tryz.underlying22
 a28:=Tryz.isAgg22
 z28:=Tryz.sizeOf22
 v28:=Tryz.zeroValue22
 t46:=Tryz.underlying150
 a46:=Tryz.isAgg150
 z46:=Tryz.sizeOf150
 v46:=Tryz.zeroValue150
 t51:=Tryz.underlying172
 a51:=Tryz.isAgg172
 z51:=Tryz.sizeOf172
 v51:=Tryz.zeroValue172
 t53:=Tryz.underlying175
 a53:=Tryz.isAgg175
 z53:=Tryz.sizeOf175
 v53:=Tryz.zeroValue175
 t131:=Tryz.underlying194
 a131:=Tryz.isAgg194
 z131:=Tryz.sizeOf194
 v131:=Tryz.zeroValue194
 t182:=Tryz.underlying189
 a182:=Tryz.isAgg189
 z182:=Tryz.sizeOf189
 v182:=Tryz.zeroValue189
 t183:=Tryz.underlying190
 a183:=Tryz.isAgg190
 z183:=Tryz.sizeOf190
 v183:=Tryz.zeroValue190
 t218:=Tryz.underlying199
 a218:=Tryz.isAgg199
 z218:=Tryz.sizeOf199
 v218:=Tryz.zeroValue199
 t222:=Tryz.underlying203
 a222:=Tryz.isAgg203
 z222:=Tryz.sizeOf203
 v222:=Tryz.zeroValue203
 t228:=Tryz.underlying205
 a228:=Tryz.isAgg205
 z228:=Tryz.sizeOf205
 v228:=Tryz.zeroValue205
 t229:=Tryz.underlying48
 a229:=Tryz.isAgg48
 z229:=Tryz.sizeOf48
 v229:=Tryz.zeroValue48 }
end Go.Proofs
namespace Go.aM.X
open Go.bF Go.aM Go.Proofs
theorem agK:∀(xs:Array Value) (w:World),(callFunc 144 xs).run Tryz.prog w=.ok (.enter 144 xs) w:=λxs w=>Ie Tryz.func144 rfl (by kernel_rfl)
theorem agL:jd Tryz.prog (qi 144):=ZD (L:=[144,Tryz.SA.f 191,168,169,177,178,179,180,181,182,183,184,185,187,196,197,198,199,200,201,202]) agK (λD blk off cap b w c af ax=>AnyS.slices_Sort_int_in Tryz.SB D blk off cap b w c af ax) (λD p cap w=>AnyS.slices_Sort_int_none_in Tryz.SB D p cap w) rfl
theorem agM:jd Tryz.prog (qj (q2 171) (qi 144)):=ZE aeC agL
def di(v:U)(row:List U)(i o:Nat):U:=match v with|.ref b _ _ ver sz=>.gS b i o ver sz|_=>.fz row o
inductive dM(h:Z)(sz:Nat):U->List (List U)->Prop
 |bE (rows:List (List U)):dM h sz (.bE sz rows) rows
 |emp:dM h sz .emp []
 |ref (b n:Nat) (t:a1) (md:ep) (rows:List (List U)) (e:h[b]?=y (.log rows sz t md)) (aA:n=rows.length):dM h sz (.ref b 0 n n sz) rows
def j8:U->Option Nat
 |.ref b _ _ _ _=>y b
 |_=>none
theorem fA{h:Z}{sz:Nat}{v:U}{rows:List (List U)}(r:dM h sz v rows):bB M v=y (J E rows.length):=by
 cases r with
 |bE=>rfl
 |emp=>rfl
 |ref b n t md _ e aA=>subst aA;rfl
theorem eM{h:Z}{sz:Nat}{v:U}{rows:List (List U)}(r:dM h sz v rows){i:Nat}{row:List U}(k:IntKind)(ai:rows[i]?=y row):bY sz v (.int k i)=y (di v row i 0):=by
 have c:=(List.getElem?_eq_some_iff.1 ai).1
 cases r with
 |bE=>
  simp only[bY]
  rw[aP ⟨by omega,trivial⟩,mc,ai];rfl
 |emp=>cases c
 |ref b n t md _ e aA=>
  simp only[bY]
  rw[aP ⟨by omega,by omega,trivial⟩,mc,hh];rfl
theorem ih(v:U)(row:List U)(i o f:Nat):aq f (di v row i o)=y (di v row i (o+f)):=by
 cases v<;>rfl
theorem xg(v:U)(row:List U)(i o:Nat):fS (di v row i o)=y (di v row i o):=by
 cases v<;>rfl
theorem eZ{h:Z}{sz:Nat}{v:U}{rows:List (List U)}(r:dM h sz v rows){i:Nat}{row:List U}(ai:rows[i]?=y row)(agg:Bool)(n o:Nat):ab agg n (di v row i o) h=e7 agg o n row:=by
 cases r with
 |bE=>rfl
 |emp=>simp at ai
 |ref b c t md _ e aA=>
  subst aA
  simp only[di,ab,BZ e,dy,ai]
theorem l5{h:Z}{sz:Nat}{v:U}{rows:List (List U)}(r:dM h sz v rows):kK sz v h=y rows:=by
 cases r with
 |bE=>simp [kK]
 |emp=>rfl
 |ref b n t md _ e aA=>
  subst aA
  simp only[kK]
  by_cases av:rows.length=0
  ·rw[aP av,gF av]
  ·rw[aW av,aP trivial,BZ e,dy,aP (by omega),oZ,iy]
theorem pB{h h':Z}{sz:Nat}{v:U}{rows:List (List U)}(r:dM h sz v rows)(aB:∀b,j8 v=y b->b<h.length->h'[b]?=h[b]?):dM h' sz v rows:=by
 cases r with
 |bE=>exact .bE _
 |emp=>exact .emp
 |ref b n t md _ e aA=>exact .ref b n t md _ ((aB b rfl (List.getElem?_eq_some_iff.1 e).1).trans e) aA
theorem iv{h:Z}{sz:Nat}{v:U}{rows:List (List U)}(r:dM h sz v rows)(l:Z):dM (h++l) sz v rows:=
 pB r λb _ af=>cI af
theorem se{h:Z}{sz:Nat}{v:U}{rows:List (List U)}(r:dM h sz v rows):bM h.length v:=by
 cases r with
 |bE=>simp only[bM]
 |emp=>simp only[bM]
 |ref b n t md _ e aA=>simp only[bM];exact(List.getElem?_eq_some_iff.1 e).1
theorem agN{h:Z}{sz:Nat}{v:U}{rows:List (List U)}(r:dM h sz v rows):cn v=[v]:=by cases r<;>rfl
theorem kQ{h:Z}{sz:Nat}{v:U}{rows:List (List U)}(r:dM h sz v rows):dt v=V:=by cases r<;>rfl
inductive cY(h:Z)(base sz:Nat)(t:a1):U->List (List U)->Prop
 |emp:cY h base sz t .emp []
 |ref (b n:Nat) (rows:List (List U)) (af:base<=b) (e:h[b]?=y (.log rows sz t .rw)) (aA:n=rows.length):cY h base sz t (.ref b 0 n n sz) rows
theorem ft{h:Z}{base sz:Nat}{t:a1}{v:U}{rows:List (List U)}(o:cY h base sz t v rows):dM h sz v rows:=by
 cases o with
 |emp=>exact .emp
 |ref b n _ af e aA=>exact .ref b n t .rw _ e aA
theorem lA{h:Z}{base sz:Nat}{t:a1}{v:U}{rows:List (List U)}(o:cY h base sz t v rows){b:Nat}(af:j8 v=y b):base<=b/\b<h.length/\h[b]?=y (.log rows sz t .rw):=by
 cases o with
 |emp=>cases af
 |ref bj n _ c e aA=>cases af;exact⟨c,(List.getElem?_eq_some_iff.1 e).1,e⟩
theorem jL{h h':Z}{base sz:Nat}{t:a1}{v:U}{rows:List (List U)}(o:cY h base sz t v rows)(aB:∀b,j8 v=y b->b<h.length->h'[b]?=h[b]?):cY h' base sz t v rows:=by
 cases o with
 |emp=>exact .emp
 |ref b n _ af e aA=>exact .ref b n _ af ((aB b rfl (List.getElem?_eq_some_iff.1 e).1).trans e) aA
theorem Kq{h:Z}{base c sz:Nat}{t:a1}{v:U}{rows:List (List U)}(o:cY h base sz t v rows)(af:c<=base):cY h c sz t v rows:=by
 cases o with
 |emp=>exact .emp
 |ref b n _ g e aA=>exact .ref b n _ (by omega) e aA
def wr(h:Z)(v:U)(sz:Nat)(t:a1)(rows:List (List U)):Z:=match v with|.ref b _ _ _ _=>h.set b (.log rows sz t .rw)|_=>h
theorem eo(h:Z)(v:U)(sz:Nat)(t:a1)(rows:List (List U)):(wr h v sz t rows).length=h.length:=by
 cases v<;>simp [wr]
theorem pC{h:Z}{v:U}{sz:Nat}{t:a1}{rows:List (List U)}{b:Nat}(af:j8 v≠y b):(wr h v sz t rows)[b]?=h[b]?:=by
 cases v with
 |ref bj=>exact hP (λe=>af (by rw[<-e];rfl))
 |_=>rfl
theorem kR(h:Z)(v:U)(sz sz':Nat)(t b:a1)(r dO:List (List U)):wr (wr h v sz t r) v sz' b dO=wr h v sz' b dO:=by
 cases v<;>simp [wr]
theorem qu{h:Z}{base sz:Nat}{t:a1}{v:U}{rows:List (List U)}(o:cY h base sz t v rows):wr h v sz t rows=h:=by
 cases o with
 |emp=>rfl
 |ref b n _ af e aA=>
  show h.set b _=h
  exact wA e
theorem jk{h:Z}{base sz:Nat}{t:a1}{v:U}{rows rows':List (List U)}(o:cY h base sz t v rows)(ax:rows'.length=rows.length):cY (wr h v sz t rows') base sz t v rows':=by
 cases o with
 |emp=>rw[gF ax];exact .emp
 |ref b n _ af e aA=>
  refine .ref b n _ af ?_ (by omega)
  show(h.set b _)[b]?=_
  rw[fK (List.getElem?_eq_some_iff.1 e).1]
theorem ij{h:Z}{base sz:Nat}{t:a1}{v:U}{rows:List (List U)}(o:cY h base sz t v rows){i:Nat}{row row':List U}(ai:rows[i]?=y row){n f:Nat}{x:U}(aA:(cn x).length=n)(av:0<n)(ah:cF row f (cn x)=y row'):
 bf n (di v row i f) x h=y (wr h v sz t (rows.set i row')):=by
 cases o with
 |emp=>simp at ai
 |ref b g _ af e c=>
  subst c
  unfold bf di
  have aG:(cM (cn x).length n&&fX 0 n)=V:=by subst aA;simp [fX];exact av
  rw[aG]
  simp only[gG,e,ai,dy,ah,dw,and_self,a_]
  rfl
def bV(n sz:Nat)(rows:List (List U)):U:=if rows.length=0 then .emp else .ref n 0 rows.length rows.length sz
def cq(sz:Nat)(t:a1)(rows:List (List U)):Z:=if rows.length=0 then []else [.log rows sz t .rw]
theorem lB{h:Z}{sz:Nat}{t:a1}{x:U}{rows:List (List U)}(an:kK sz x h=y rows)(av:0<sz)(ah:rows.flatten.all dt=V)(hm:rows.length<=dp):eC t sz .emp x h=y (bV h.length sz rows,h++cq sz t rows):=by
 unfold eC bV cq
 rw[an,dy]
 unfold rV
 rw[aP ⟨hm,av,ah⟩]
 show(if rows.length=0 then _ else _)=_
 split<;>simp
theorem zZ(h:Z)(sz:Nat)(t:a1)(rows:List (List U)):cY (h++cq sz t rows) h.length sz t (bV h.length sz rows) rows:=by
 unfold bV cq
 split
 ·rename_i bu
  rw[gF bu];exact .emp
 ·exact .ref _ _ _ (cj _) (by rw[en];rfl) rfl
theorem Kr{n sz:Nat}{rows:List (List U)}{b:Nat}(af:j8 (bV n sz rows)=y b):b=n:=by
 unfold bV at af
 split at af
 ·cases af
 ·cases af;rfl
theorem sf(n sz:Nat)(rows:List (List U)):cn (bV n sz rows)=[bV n sz rows]:=by unfold bV;split<;>rfl
theorem SC(n sz:Nat)(rows:List (List U)):dt (bV n sz rows)=V:=by unfold bV;split<;>rfl
theorem tj(h:Z)(sz:Nat)(t:a1)(rows:List (List U)):aN [.raw] h (h++cq sz t rows) [bV h.length sz rows]=y (bV h.length sz rows,h++cq sz t rows):=by
 unfold bV cq
 rw[mC]
 split
 ·simp only[gk,cC,dy,dw,fD,jJ];rfl
 ·simp only[gk,cC,dy,dw]
  unfold trim
  rw[aW]
  ·rfl
  ·intro b
   have:=b.1 _ (List.mem_singleton.2 rfl)
   simp [bM]at this
theorem qv{h:Z}{sz:Nat}{v:U}{rows:List (List U)}(r:dM h sz v rows):dM (lock h) sz v rows:=by
 cases r with
 |bE=>exact .bE _
 |emp=>exact .emp
 |ref b n t md _ e aA=>
  cases md with
  |rw=>exact .ref b n t .ou _ (by unfold lock;rw[iM,e];rfl) aA
  |ou=>exact .ref b n t .ou _ (by unfold lock;rw[iM,e];rfl) aA
  |ro=>exact .ref b n t .ro _ (by unfold lock;rw[iM,e];rfl) aA
theorem uX{R:Type}{h:Z}{sz:Nat}{v:U}{rows:List (List U)}(r:dM h sz v rows){k:U->Option R}{q:Option R}(h1:rows=[]->k (.bool V)=q)(h2:k (.bool M)=q):nH .slice M v k=q:=by
 cases r with
 |bE=>exact YY h1 h2
 |emp=>first|exact h2|(show both _ _=_;rw[h1 rfl,h2];unfold both;simp)
 |ref b n t md _ e aA=>
  cases n with
  |zero=>
   show both _ _=_
   rw[h1 (gF aA.symm),h2];unfold both;simp
  |succ n=>exact h2
structure iX{K:Type}(h:Z)(base:Nat)(sz:K->Nat)(ty:K->a1)(A:K->U)(R:K->List (List U)):Prop where
 fi:∀k,cY h base (sz k) (ty k) (A k) (R k)
 inj:∀k k' b,j8 (A k)=y b->j8 (A k')=y b->k=k'
section
variable {K : Type} {h : Z} {base : Nat} {sz : K -> Nat} {ty : K -> a1} {A : K -> U} {R : K -> List (List U)}
theorem iX.app(o:iX h base sz ty A R)(l:Z):iX (h++l) base sz ty A R:=
 ⟨λk=>jL (o.fi k) λb _ af=>cI af,o.inj⟩
theorem iX.same(o:iX h base sz ty A R){h':Z}(aB:∀b,base<=b->b<h.length->(∃r s t,h[b]?=y (.log r s t .rw))->h'[b]?=h[b]?):iX h' base sz ty A R:=
 ⟨λk=>jL (o.fi k) λb af ax=>aB b (lA (o.fi k) af).1 ax ⟨_,_,_,(lA (o.fi k) af).2.2⟩,o.inj⟩
variable [DecidableEq K]
def bQ{α:Type}(f:K->α)(k:K)(x:α):K->α:=λk'=>if k'=k then x else f k'
theorem fu{α:Type}(f:K->α)(k:K)(x:α):bQ f k x k=x:=aP rfl
theorem cE{α:Type}(f:K->α){k k':K}(x:α)(ad:k'≠k):bQ f k x k'=f k':=aW ad
theorem iX.wr(o:iX h base sz ty A R)(k:K){rows:List (List U)}(ax:rows.length=(R k).length):iX (wr h (A k) (sz k) (ty k) rows) base sz ty A (bQ R k rows):=by
 refine⟨λk'=>?_,o.inj⟩
 by_cases ad:k'=k
 ·subst ad
  rw[fu]
  exact jk (o.fi k') ax
 ·rw[cE _ _ ad]
  exact jL (o.fi k') λb af _=>pC λe=>ad (o.inj _ _ _ af e)
theorem iX.add(o:iX h base sz ty A R)(af:base<=h.length)(k:K)(rows:List (List U)):iX (h++cq (sz k) (ty k) rows) base sz ty (bQ A k (bV h.length (sz k) rows)) (bQ R k rows):=by
 constructor
 ·intro k'
  by_cases ad:k'=k
  ·subst ad
   rw[fu,fu]
   exact Kq (zZ _ _ _ _) af
  ·rw[cE _ _ ad,cE _ _ ad]
   exact jL (o.fi k') λb _ af=>cI af
 ·intro bw bD b h1 h2
  by_cases aG:bw=k
  ·subst aG
   rw[fu]at h1
   by_cases aF:bD=bw
   ·exact aF.symm
   ·rw[cE _ _ aF]at h2
    have:=(lA (o.fi bD) h2).2.1
    have:=Kr h1
    omega
  ·rw[cE _ _ aG]at h1
   by_cases aF:bD=k
   ·subst aF
    rw[fu]at h2
    have:=(lA (o.fi bw) h1).2.1
    have:=Kr h2
    omega
   ·rw[cE _ _ aF]at h2
    exact o.inj _ _ _ h1 h2
end
def eG{R:Type}(m:Option R)(Q:R->Prop):Prop:=∃r,m=y r/\Q r
theorem eG.of{R:Type}{m:Option R}{Q:R->Prop}{r:R}(h:m=y r)(q:Q r):eG m Q:=⟨r,h,q⟩
theorem eG.body{f:dU}{F:b2}(b:T.get f=y F)(fuel:Nat){args:List U}{h:Z}{Q:U×Z->Prop}(ad:eG (b7 aL fuel F args h) Q)(aE:cM f dX=M:=by rfl):eG (aL f args h) Q:=by
 obtain⟨r,h1,h2⟩:=ad
 exact⟨r,cu b fuel h1 aE,h2⟩
theorem nW{R:Type}{bL:(List U->Z->Option R)->List U->Z->Option R}{Q:R->Prop}{n:Nat}{av:Z}(Inv:Nat->Z->Prop)(len:Nat)(aA:len<n)(b:Inv 0 av)
 (c:∀i h,i<len->Inv i h->∃h',Inv (i+1) h'/\∀K,bL K [J E (i:Int)] h=K [J E ((i+1:Nat):Int)] h')
 (e:∀h,Inv len h->∀K,eG (bL K [J E (len:Int)] h) Q):eG (cv bL n [J E 0] av) Q:=by
 have key:∀(n i:Nat) (h:Z),i<=len->len<n+i->Inv i h->eG (cv bL n [J E (i:Int)] h) Q:=by
  intro n
  induction n with
  |zero=>intro i h h1 h2;omega
  |succ n a6=>
   intro i h h1 h2 ai
   show eG (bL (cv bL n) _ h) Q
   by_cases ax:i=len
   ·subst ax
    exact e h ai _
   ·obtain⟨h',bw,bD⟩:=c i h (by omega) ai
    rw[bD]
    exact a6 (i+1) h' (by omega) (by omega) bw
 exact key n 0 av (hO _) (by omega) b
inductive aS where
 |bk|cy|aw|az|ag
 |bN (i:Nat)|b5 (i:Nat)|key (i:Nat)|bq (i:Nat)|bm (i:Nat)|bo (i:Nat)
 deriving DecidableEq
def dQ:aS->Nat
 |.bk|.cy|.b5 _=>1
 |.aw|.key _|.bq _|.bm _|.bo _=>2
 |.az=>13
 |.ag=>33
 |.bN _=>6
def hn:aS->a1
 |.bk|.cy|.b5 _=>3
 |.aw=>39
 |.az=>43
 |.ag=>57
 |.bN _=>41
 |.key _=>89
 |.bq _|.bm _|.bo _=>120
def e9(p:d_)(c:U):List U:=[J E p.1,c]
def j9(x:ey)(d:U):List U:=[.str x.name,d,J E x.bits,J E x.pt,J E x.bq,J E x.bm,J E x.ks,J E x.lo,J E x.st,J E x.jY,J E x.uI,J E x.uJ,J E x.uK]
def ga(e:bP)(p:U):List U:=[.bool e.on,p,.bool e.uN,J E e.e6,J E e.uO,.bool e.m9,J E e.ls,J E e.le]
def b1(x:c5)(k v p q:U):List U:=[.str x.name,k]++(ga x.bq v++(ga x.bm p++(ga x.bo q++[J E x.uP,J E x.rh,J E x.dup,J E x.uQ,J E x.uR,J E x.cut,J E x.res])))
def ao(A:aS->U)(s:aH):aS->List (List U)
 |.bk=>s.bk.map bA
 |.cy=>s.cy.map bA
 |.aw=>s.aw.mapIdx λi p=>e9 p (A (.bN i))
 |.az=>s.az.mapIdx λi x=>j9 x (A (.b5 i))
 |.ag=>s.ag.mapIdx λi x=>b1 x (A (.key i)) (A (.bq i)) (A (.bm i)) (A (.bo i))
 |.bN i=>match s.aw[i]? with|some p=>p.2.map Cell.cs|none=>[]
 |.b5 i=>match s.az[i]? with|some x=>x.data.map bA|none=>[]
 |.key i=>match s.ag[i]? with|some x=>x.keys.map cW|none=>[]
 |.bq i=>match s.ag[i]? with|some x=>x.bq.dk.map jB|none=>[]
 |.bm i=>match s.ag[i]? with|some x=>x.bm.dk.map jB|none=>[]
 |.bo i=>match s.ag[i]? with|some x=>x.bo.dk.map jB|none=>[]
def aQ(A:aS->U)(s:aH):List U:=[.str s.name,J E s.bO,J E s.ch,A .bk,J E s.rest,J E s.hy,J E s.hz,J E s.hA,.bool s.gq,A .cy,A .aw,A .az,A .ag]
def gr(h:Z)(A:aS->U)(s:aH):Prop:=∀k,dM h (dQ k) (A k) (ao A s k)
theorem gr.app{h:Z}{A:aS->U}{s:aH}(r:gr h A s)(l:Z):gr (h++l) A s:=λk=>iv (r k) l
theorem gr.lock{h:Z}{A:aS->U}{s:aH}(r:gr h A s):gr (Go.aM.lock h) A s:=λk=>qv (r k)
def iY(s:aH):aS->U
 |.bk=>dz s.bk
 |.cy=>dz s.cy
 |.aw=>l1 s.aw
 |.az=>lx s.az
 |.ag=>nV s.ag
 |.bN i=>match s.aw[i]? with|some p=>ie p.2|none=>.emp
 |.b5 i=>match s.az[i]? with|some x=>dz x.data|none=>.emp
 |.key i=>match s.ag[i]? with|some x=>j7 x.keys|none=>.emp
 |.bq i=>match s.ag[i]? with|some x=>ig x.bq.dk|none=>.emp
 |.bm i=>match s.ag[i]? with|some x=>ig x.bm.dk|none=>.emp
 |.bo i=>match s.ag[i]? with|some x=>ig x.bo.dk|none=>.emp
theorem qw{α β:Type}{l:List α}{f:Nat->α->β}{g:α->β}(h:∀i a,l[i]?=y a->f i a=g a):l.mapIdx f=l.map g:=by
 apply fx
 intro i
 rw[fQ,iM]
 cases e:l[i]? with
 |none=>rfl
 |some a=>rw[dw,dw,h i a e]
theorem agO(s:aH):(s.aw.mapIdx λi p=>e9 p (iY s (.bN i)))=s.aw.map dL:=qw λi p e=>by
 show e9 p (match s.aw[i]? with|some p=>ie p.2|none=>.emp)=_
 rw[e];rfl
theorem agP(s:aH):(s.az.mapIdx λi x=>j9 x (iY s (.b5 i)))=s.az.map ey.cs:=qw λi p e=>by
 show j9 p (match s.az[i]? with|some x=>dz x.data|none=>.emp)=_
 rw[e];rfl
theorem agQ(s:aH):(s.ag.mapIdx λi x=>b1 x (iY s (.key i)) (iY s (.bq i)) (iY s (.bm i)) (iY s (.bo i)))=s.ag.map c5.cs:=qw λi p e=>by
 show b1 p (match s.ag[i]? with|some x=>j7 x.keys|none=>.emp) (match s.ag[i]? with|some x=>ig x.bq.dk|none=>.emp) (match s.ag[i]? with|some x=>ig x.bm.dk|none=>.emp) (match s.ag[i]? with|some x=>ig x.bo.dk|none=>.emp)=_
 rw[e];rfl
theorem Gc(s:aH):aQ (iY s) s=s.cs:=rfl
theorem Gd(h:Z)(s:aH):gr h (iY s) s:=by
 intro k
 cases k with
 |bk=>exact .bE _
 |cy=>exact .bE _
 |aw=>show dM h 2 (l1 s.aw) (s.aw.mapIdx λi p=>e9 p (iY s (.bN i)));rw[agO];exact .bE _
 |az=>show dM h 13 (lx s.az) (s.az.mapIdx λi x=>j9 x (iY s (.b5 i)));rw[agP];exact .bE _
 |ag=>show dM h 33 (nV s.ag) (s.ag.mapIdx λi x=>b1 x (iY s (.key i)) (iY s (.bq i)) (iY s (.bm i)) (iY s (.bo i)));rw[agQ];exact .bE _
 |bN i=>simp only[iY,ao];cases s.aw[i]?<;>first|exact .emp|exact .bE _
 |b5 i=>simp only[iY,ao];cases s.az[i]?<;>first|exact .emp|exact .bE _
 |key i=>simp only[iY,ao];cases s.ag[i]?<;>first|exact .emp|exact .bE _
 |bq i=>simp only[iY,ao];cases s.ag[i]?<;>first|exact .emp|exact .bE _
 |bm i=>simp only[iY,ao];cases s.ag[i]?<;>first|exact .emp|exact .bE _
 |bo i=>simp only[iY,ao];cases s.ag[i]?<;>first|exact .emp|exact .bE _
def nX(D:aS->Bool)(A:aS->U):aS->U:=λk=>if D k=V then A k else .emp
def lC(D:aS->Bool)(R:aS->List (List U)):aS->List (List U):=λk=>if D k=V then R k else []
structure cD(av:Z)(D:aS->Bool)(H:Z)(A:aS->U)(s:aH):Prop where
 len:av.length<=H.length
 cJ:∀b,b<av.length->H[b]?=av[b]?
 fi:iX H av.length dQ hn (nX D A) (lC D (ao A s))
 rd:∀k,D k=M->dM av (dQ k) (A k) (ao A s k)
def db:aS->Bool:=λ_=>V
theorem xh(A:aS->U):nX db A=A:=by funext k;rfl
theorem xi(A:aS->List (List U)):lC db A=A:=by funext k;rfl
theorem cD.at{av H:Z}{D:aS->Bool}{A:aS->U}{s:aH}(o:cD av D H A s){k:aS}(ad:D k=V):cY H av.length (dQ k) (hn k) (A k) (ao A s k):=by
 have:=o.fi.fi k
 unfold nX lC at this
 rwa [aP ad,aP ad]at this
theorem cD.rs{av H:Z}{D:aS->Bool}{A:aS->U}{s:aH}(o:cD av D H A s):gr H A s:=by
 intro k
 cases ad:D k with
 |true=>exact ft (o.at ad)
 |false=>exact pB (o.rd k ad) λb _ af=>o.cJ b af
theorem cD.app{av H:Z}{D:aS->Bool}{A:aS->U}{s:aH}(o:cD av D H A s)(l:Z):cD av D (H++l) A s where
 len:=by have:=o.len;rw[dV];omega
 cJ:=λb af=>by rw[cI (by have:=o.len;omega)];exact o.cJ b af
 fi:=o.fi.app l
 rd:=o.rd
theorem cD.new{av H:Z}{A:aS->U}{s:aH}(o:cD av db H A s):iX H av.length dQ hn A (ao A s):=by
 have:=o.fi
 rwa [xh,xi]at this
theorem cD.of{av H b4:Z}{D c:aS->Bool}{A e:aS->U}{s g:aH}{A1:aS->U}{R1:aS->List (List U)}(o:cD av D H A s)(w:iX b4 av.length dQ hn A1 R1)(ax:H.length<=b4.length)
 (aE:∀b,b<av.length->b4[b]?=H[b]?) (ha:∀k,c k=V->A1 k=e k/\R1 k=ao e g k) (hd:∀k,c k=M->D k=M/\e k=A k/\ao e g k=ao A s k):cD av c b4 e g where
 len:=by have:=o.len;omega
 cJ:=λb af=>(aE b af).trans (o.cJ b af)
 fi:=by
  constructor
  ·intro k
   unfold nX lC
   cases ad:c k with
   |true=>
    rw[aP rfl,aP rfl]
    have:=w.fi k
    rwa [(ha k ad).1,(ha k ad).2]at this
   |false=>rw[aW (by decide),aW (by decide)];exact .emp
  ·intro k k' b h1 h2
   unfold nX at h1 h2
   cases ad:c k with
   |false=>rw[ad,aW (by decide)]at h1;cases h1
   |true=>
    cases h:c k' with
    |false=>rw[h,aW (by decide)]at h2;cases h2
    |true=>
     rw[ad,aP rfl]at h1
     rw[h,aP rfl]at h2
     exact w.inj k k' b (by rw[(ha k ad).1];exact h1) (by rw[(ha k' h).1];exact h2)
 rd:=λk ad=>by
  obtain⟨h1,h2,ak⟩:=hd k ad
  rw[h2,ak];exact o.rd k h1
theorem qx{H:Z}{base sz:Nat}{t:a1}{v:U}{rows rows':List (List U)}(o:cY H base sz t v rows){b:Nat}(af:b<base):(wr H v sz t rows')[b]?=H[b]?:=pC λe=>by have:=(lA o e).1;omega
theorem jM{H:Z}{base sz:Nat}{t:a1}{v:U}{rows rows':List (List U)}(o:cY H base sz t v rows){b:Nat}{vs:List U}{c:a1}{md:ep}(af:H[b]?=y (.box vs c md)):(wr H v sz t rows')[b]?=y (.box vs c md):=by
 have g:j8 v≠y b:=λe=>by
  have:=(lA o e).2.2
  rw[af]at this;cases this
 rw[pC g,af]
end Go.aM.X
namespace Go.aM.X
open Go.bF Go.aM
attribute [local congr] mZ m0 m5 m6 oE q4 q5 r3
theorem pD{n m:Nat}(h:n<=m):∀v:U,bM n v->bM m v
 |.ptr b o,ay=>by simp only[bM]at ay |-;omega
 |.ref b lo k v sz,ay=>by simp only[bM]at ay |-;omega
 |.gS b i o v sz,ay=>by simp only[bM]at ay |-;omega
 |.map b,ay=>by simp only[bM]at ay |-;omega
 |.yield b,ay=>by simp only[bM]at ay |-;omega
 |.func f xs ys,ay=>by
  simp only[bM]at ay|-
  exact⟨λx ae=>pD h x (ay.1 x ae),λx ae=>pD h x (ay.2 x ae)⟩
 |.iface t v,ay=>by
  simp only[bM]at ay|-
  exact pD h v ay
 |.agg cs,ay=>by
  simp only[bM]at ay|-
  exact λx ae=>pD h x (ay x ae)
 |.tuple cs,ay=>by
  simp only[bM]at ay|-
  exact λx ae=>pD h x (ay x ae)
 |.dR,_=>by simp only[bM]
 |.int _ _,_=>by simp only[bM]
 |.bool _,_=>by simp only[bM]
 |.str _,_=>by simp only[bM]
 |.a7,_=>by simp only[bM]
 |.pe,_=>by simp only[bM]
 |.oq,_=>by simp only[bM]
 |.mT,_=>by simp only[bM]
 |.pf,_=>by simp only[bM]
 |.emp,_=>by simp only[bM]
 |.bE _ _,_=>by simp only[bM]
 |.fz _ _,_=>by simp only[bM]
theorem agR{n m:Nat}(h:n<=m):∀{b:b3},j0 n b->j0 m b
 |.box _ _ _,af=>λx ae=>pD h x (af x ae)
 |.log _ _ _ _,af=>λx ae=>pD h x (af x ae)
 |.map _ _,af=>λx ae=>⟨pD h _ (af x ae).1,pD h _ (af x ae).2⟩
 |.loop _ _ _ _ _ _ _ _,af=>λx ae=>pD h x (af x ae)
 |.dead,_=>trivial
theorem uY(h:Z):aN [.raw] h h [.a7]=y (.emp,h++[]):=by
 rw[mC,fD]
 simp only[gk,cC,dy,dw,jJ]
 rfl
theorem Kt{h:Z}{v:U}{rows:List (List U)}(r:dM h 1 v rows)(ah:rows.flatten.all dt=V)(hm:rows.length<=dp):aL 79 [v] h=y (bV h.length 1 rows,h++cq 1 3 rows):=by
 refine cu (F:=DJ) (by kernel_rfl) 1 ?_
 rw[abF];unfold Pu
 refine uX r (λe=>?_) ?_
 ·subst e
  simp only[↓aI,uq]
  exact uY h
 ·simp only[↓aI,s3,lB (l5 r) (by decide) ah hm,b8,tj]
theorem agS{h:Z}{v:U}{rows:List (List U)}(r:dM h 2 v rows)(ah:rows.flatten.all dt=V)(hm:rows.length<=dp):aL 80 [v] h=y (bV h.length 2 rows,h++cq 2 39 rows):=by
 refine cu (F:=DK) (by kernel_rfl) 1 ?_
 rw[abG];unfold Pv
 refine uX r (λe=>?_) ?_
 ·subst e
  simp only[↓aI,uq]
  exact uY h
 ·simp only[↓aI,s3,lB (l5 r) (by decide) ah hm,b8,tj]
theorem agT{h:Z}{v:U}{rows:List (List U)}(r:dM h 13 v rows)(ah:rows.flatten.all dt=V)(hm:rows.length<=dp):aL 81 [v] h=y (bV h.length 13 rows,h++cq 13 43 rows):=by
 refine cu (F:=DL) (by kernel_rfl) 1 ?_
 rw[abH];unfold Pw
 refine uX r (λe=>?_) ?_
 ·subst e
  simp only[↓aI,uq]
  exact uY h
 ·simp only[↓aI,s3,lB (l5 r) (by decide) ah hm,b8,tj]
theorem agU{h:Z}{v:U}{rows:List (List U)}(r:dM h 33 v rows)(ah:rows.flatten.all dt=V)(hm:rows.length<=dp):aL 82 [v] h=y (bV h.length 33 rows,h++cq 33 57 rows):=by
 refine cu (F:=DM) (by kernel_rfl) 1 ?_
 rw[abI];unfold Px
 refine uX r (λe=>?_) ?_
 ·subst e
  simp only[↓aI,uq]
  exact uY h
 ·simp only[↓aI,s3,lB (l5 r) (by decide) ah hm,b8,tj]
theorem agV{h:Z}{v:U}{rows:List (List U)}(r:dM h 6 v rows)(ah:rows.flatten.all dt=V)(hm:rows.length<=dp):aL 83 [v] h=y (bV h.length 6 rows,h++cq 6 41 rows):=by
 refine cu (F:=DN) (by kernel_rfl) 1 ?_
 rw[adb];unfold Pz
 refine uX r (λe=>?_) ?_
 ·subst e
  simp only[↓aI,uq]
  exact uY h
 ·simp only[↓aI,s3,lB (l5 r) (by decide) ah hm,b8,tj]
theorem agW{h:Z}{v:U}{rows:List (List U)}(r:dM h 2 v rows)(ah:rows.flatten.all dt=V)(hm:rows.length<=dp):aL 84 [v] h=y (bV h.length 2 rows,h++cq 2 89 rows):=by
 refine cu (F:=DO) (by kernel_rfl) 1 ?_
 rw[ade];unfold PA
 refine uX r (λe=>?_) ?_
 ·subst e
  simp only[↓aI,uq]
  exact uY h
 ·simp only[↓aI,s3,lB (l5 r) (by decide) ah hm,b8,tj]
theorem Ku{h:Z}{v:U}{rows:List (List U)}(r:dM h 2 v rows)(ah:rows.flatten.all dt=V)(hm:rows.length<=dp):aL 85 [v] h=y (bV h.length 2 rows,h++cq 2 120 rows):=by
 refine cu (F:=DP) (by kernel_rfl) 1 ?_
 rw[adf];unfold PB
 refine uX r (λe=>?_) ?_
 ·subst e
  simp only[↓aI,uq]
  exact uY h
 ·simp only[↓aI,s3,lB (l5 r) (by decide) ah hm,b8,tj]
theorem agX{h1 H:Z}{roots:List U}(ax:H.length=h1.length\/∃b blk1 blk,b<h1.length/\h1[b]?=y blk1/\j0 h1.length blk1/\H[b]?=y blk/\¬j0 h1.length blk):trim h1 roots H=H:=by
 rcases ax with ax|⟨b,blk1,blk,h2,ak,aJ,aO,bt⟩
 ·exact hf _ ax
 ·exact zi h2 aO (λe=>bt (by rw[ak]at e;cases e;exact aJ)) bt
theorem Ge{rows:List (List U)}(h:∀r∈rows,r.all dt=V):rows.flatten.all dt=V:=by
 rw[AP]
 intro x ae
 obtain⟨r,an,ae⟩:=List.mem_flatten.1 ae
 exact List.all_eq_true.1 (h r an) x ae
theorem SD{p:d_}{c:U}(h:dt c=V):(e9 p c).all dt=V:=by simp only[e9,n',vp,h,jT];rfl
theorem agY{x:ey}{d:U}(h:dt d=V):(j9 x d).all dt=V:=by simp only[j9,n',vp,h,jT];rfl
theorem SE{x:c5}{k v p q:U}(h1:dt k=V)(h2:dt v=V)(ak:dt p=V)(aJ:dt q=V):(b1 x k v p q).all dt=V:=by
 simp only[b1,ga,js,hV,n',vp,h1,h2,ak,aJ,jT,hq];rfl
theorem gr.one{h:Z}{A:aS->U}{s:aH}(r:gr h A s)(k:aS):(ao A s k).flatten.all dt=V:=by
 refine Ge λrow an=>?_
 have h1:∀k,dt (A k)=V:=λk=>kQ (r k)
 cases k with
 |bk=>simp only[ao,ju]at an;obtain⟨z,_,rfl⟩:=an;rfl
 |cy=>simp only[ao,ju]at an;obtain⟨z,_,rfl⟩:=an;rfl
 |aw=>simp only[ao,tR]at an;obtain⟨i,_,rfl⟩:=an;exact SD (h1 _)
 |az=>simp only[ao,tR]at an;obtain⟨i,_,rfl⟩:=an;exact agY (h1 _)
 |ag=>simp only[ao,tR]at an;obtain⟨i,_,rfl⟩:=an;exact SE (h1 _) (h1 _) (h1 _) (h1 _)
 |bN i=>
  simp only[ao]at an
  split at an
  ·simp only[ju]at an;obtain⟨z,_,rfl⟩:=an;rfl
  ·cases an
 |b5 i=>
  simp only[ao]at an
  split at an
  ·simp only[ju]at an;obtain⟨z,_,rfl⟩:=an;rfl
  ·cases an
 |key i=>
  simp only[ao]at an
  split at an
  ·simp only[ju]at an;obtain⟨z,_,rfl⟩:=an;rfl
  ·cases an
 |bq i=>
  simp only[ao]at an
  split at an
  ·simp only[ju]at an;obtain⟨z,_,rfl⟩:=an;rfl
  ·cases an
 |bm i=>
  simp only[ao]at an
  split at an
  ·simp only[ju]at an;obtain⟨z,_,rfl⟩:=an;rfl
  ·cases an
 |bo i=>
  simp only[ao]at an
  split at an
  ·simp only[ju]at an;obtain⟨z,_,rfl⟩:=an;rfl
  ·cases an
def kA(s:aH):Prop:=∀A k,(ao A s k).length<=70000
theorem kA.gO{s:aH}(h:kA s)(A:aS->U)(k:aS):(ao A s k).length<=dp:=Nat.le_trans (h A k) (by decide)
theorem child{av H:Z}{D:aS->Bool}{A:aS->U}{s:aH}(o:cD av D H A s)(c k:aS)(h:D c=V)(ad:D k=M){i f:Nat}{row row':List U}(n:(ao A s c)[i]?=y row)(p:cF row f [bV H.length (dQ k) (ao A s k)]=y row')
 (q:ao (bQ A k (bV H.length (dQ k) (ao A s k))) s c=(ao A s c).set i row') (l:∀k',k'≠c->ao (bQ A k (bV H.length (dQ k) (ao A s k))) s k'=ao A s k'):
 bf 1 (di (A c) row i f) (bV H.length (dQ k) (ao A s k)) (H++cq (dQ k) (hn k) (ao A s k))=y (wr (H++cq (dQ k) (hn k) (ao A s k)) (A c) (dQ c) (hn c) ((ao A s c).set i row'))/\
 cD av (bQ D k V) (wr (H++cq (dQ k) (hn k) (ao A s k)) (A c) (dQ c) (hn c) ((ao A s c).set i row')) (bQ A k (bV H.length (dQ k) (ao A s k))) s:=by
 have j:c≠k:=λe=>by rw[e,ad]at h;cases h
 have t:=(o.at h)
 have m:=jL (h':=H++cq (dQ k) (hn k) (ao A s k)) t λb _ af=>cI af
 have bC:=o.fi.add o.len k (ao A s k)
 have cU:=bC.wr c (rows:=(ao A s c).set i row') (by
  rw[iz,cE _ _ j]
  unfold lC;rw[aP h])
 rw[cE _ _ j]at cU
 have u:nX D A c=A c:=by unfold nX;rw[aP h]
 rw[u]at cU
 refine⟨ij m n (by rw[sf];rfl) (by decide) (by rw[sf];exact p),o.of cU (by rw[eo,dV];omega) (λb af=>?_) (λk' g=>?_) λk' g=>?_⟩
 ·rw[qx m af,cI (by have:=o.len;omega)]
 ·by_cases aG:k'=k
  ·subst aG
   rw[fu,fu,cE _ _ j.symm,fu,l k' j.symm]
   exact⟨rfl,rfl⟩
  ·rw[cE _ _ aG]at g
   rw[cE _ _ aG,cE _ _ aG]
   refine⟨by unfold nX;rw[aP g],?_⟩
   by_cases aF:k'=c
   ·subst aF
    rw[fu,q]
   ·rw[cE _ _ aF,cE _ _ aG,l k' aF]
    unfold lC;rw[aP g]
 ·by_cases aG:k'=k
  ·subst aG
   rw[fu]at g;cases g
  ·rw[cE _ _ aG]at g
   have aF:k'≠c:=λe=>by rw[e,h]at g;cases g
   exact⟨g,cE _ _ aG,l k' aF⟩
theorem pE{A:aS->U}{s:aH}{i:Nat}{p:d_}(h:s.aw[i]?=y p):(ao A s .aw)[i]?=y (e9 p (A (.bN i))):=by
 simp only[ao,fQ,h,dw]
theorem uZ{A:aS->U}{s:aH}{i:Nat}{p:ey}(h:s.az[i]?=y p):(ao A s .az)[i]?=y (j9 p (A (.b5 i))):=by
 simp only[ao,fQ,h,dw]
theorem la{A:aS->U}{s:aH}{i:Nat}{p:c5}(h:s.ag[i]?=y p):(ao A s .ag)[i]?=y (b1 p (A (.key i)) (A (.bq i)) (A (.bm i)) (A (.bo i))):=by
 simp only[ao,fQ,h,dw]
theorem oO{α β:Type}{l:List α}{f g:Nat->α->β}{i:Nat}{a:α}{au:β}(ai:l[i]?=y a)(h1:∀j b,l[j]?=y b->j≠i->g j b=f j b)(h2:g i a=au):l.mapIdx g=(l.mapIdx f).set i au:=by
 apply fx
 intro j
 rw[fQ,AQ,fQ,km]
 by_cases e:i=j
 ·subst e
  rw[aP rfl,aP (List.getElem?_eq_some_iff.1 ai).1,ai,dw,h2]
 ·rw[aW e]
  cases c:l[j]? with
  |none=>rfl
  |some b=>rw[dw,dw,h1 j b c (oa e)]
theorem gr.lt{h:Z}{A:aS->U}{s:aH}(r:gr h A s){n:Nat}(aA:h.length<=n)(k:aS):∀x∈(ao A s k).flatten,bM n x:=by
 intro x ae
 obtain⟨row,an,ae⟩:=List.mem_flatten.1 ae
 have h1:∀k,bM n (A k):=λk=>pD aA _ (se (r k))
 have b:∀(z:Int),bM n (J E z):=λz=>by simp only[bM]
 have jG:∀(z:Bool),bM n (.bool z):=λz=>by simp only[bM]
 have j:∀(z:ByteArray),bM n (.str z):=λz=>by simp only[bM]
 have l:∀(c:Cell),∀x∈c.cs,bM n x:=λc x ae=>by
  simp only[Cell.cs,hF,ik,h6]at ae
  rcases ae with rfl|rfl|rfl|rfl|rfl|rfl<;>exact b _
 have e:∀(c:Int×Int),∀x∈jB c,bM n x:=λc x ae=>by
  simp only[jB,hF,ik,h6]at ae
  rcases ae with rfl|rfl<;>exact b _
 have g:∀(c:Int),∀x∈bA c,bM n x:=λc x ae=>by
  simp only[bA,hF,ik,h6]at ae
  subst ae;exact b _
 cases k with
 |bk=>simp only[ao,ju]at an;obtain⟨z,_,rfl⟩:=an;exact g _ _ ae
 |cy=>simp only[ao,ju]at an;obtain⟨z,_,rfl⟩:=an;exact g _ _ ae
 |aw=>
  simp only[ao,tR]at an;obtain⟨i,_,rfl⟩:=an
  simp only[e9,hF,ik,h6]at ae
  rcases ae with rfl|rfl
  ·exact b _
  ·exact h1 _
 |az=>
  simp only[ao,tR]at an;obtain⟨i,_,rfl⟩:=an
  simp only[j9,hF,ik,h6]at ae
  rcases ae with rfl|rfl|rfl|rfl|rfl|rfl|rfl|rfl|rfl|rfl|rfl|rfl|rfl<;>first|exact h1 _|exact b _|exact j _
 |ag=>
  simp only[ao,tR]at an;obtain⟨i,_,rfl⟩:=an
  simp only[b1,ga,js,hV,hF,ik,h6]at ae
  rcases ae with rfl|rfl|rfl|rfl|rfl|rfl|rfl|rfl|rfl|rfl|rfl|rfl|rfl|rfl|rfl|rfl|rfl|rfl|rfl|rfl|rfl|rfl|rfl|rfl|rfl|rfl|rfl|rfl|rfl|rfl|rfl|rfl|rfl<;>first|exact h1 _|exact b _|exact jG _|exact j _
 |bN i=>
  simp only[ao]at an
  split at an
  ·simp only[ju]at an;obtain⟨z,_,rfl⟩:=an;exact l _ _ ae
  ·cases an
 |b5 i=>
  simp only[ao]at an
  split at an
  ·simp only[ju]at an;obtain⟨z,_,rfl⟩:=an;exact g _ _ ae
  ·cases an
 |key i=>
  simp only[ao]at an
  split at an
  ·simp only[ju]at an;obtain⟨z,_,rfl⟩:=an;exact e _ _ ae
  ·cases an
 |bq i=>
  simp only[ao]at an
  split at an
  ·simp only[ju]at an;obtain⟨z,_,rfl⟩:=an;exact e _ _ ae
  ·cases an
 |bm i=>
  simp only[ao]at an
  split at an
  ·simp only[ju]at an;obtain⟨z,_,rfl⟩:=an;exact e _ _ ae
  ·cases an
 |bo i=>
  simp only[ao]at an
  split at an
  ·simp only[ju]at an;obtain⟨z,_,rfl⟩:=an;exact e _ _ ae
  ·cases an
theorem nc{h1 H:Z}{roots:List U}{base sz:Nat}{t:a1}{v:U}{rows g:List (List U)}(o:cY H base sz t v rows)(h:cY h1 base sz t v g)(i:∀x∈g.flatten,bM h1.length x)
 (ax:H.length=h1.length\/∃c n1 n2 n3 n4,.ref c n1 n2 n3 n4∈rows.flatten/\h1.length<=c):trim h1 roots H=H:=by
 refine agX ?_
 rcases ax with ax|⟨c,n1,n2,n3,n4,hm,aa⟩
 ·exact .inl ax
 ·right
  cases o with
  |emp=>cases hm
  |ref b n _ af e aA=>
   obtain⟨_,h2,ak⟩:=lA h (b:=b) rfl
   refine⟨b,_,_,h2,ak,i,e,λk=>?_⟩
   have:=k _ hm
   simp only[bM]at this
   omega
def iZ:aS->Bool
 |.bk|.cy|.aw|.az|.ag=>V
 |_=>M
def fq(A:aS->U)(s:aH)(n1 n2 n3 n4 n5:Nat):aS->U
 |.bk=>bV n1 1 (ao A s .bk)
 |.cy=>bV n2 1 (ao A s .cy)
 |.aw=>bV n3 2 (ao A s .aw)
 |.az=>bV n4 13 (ao A s .az)
 |.ag=>bV n5 33 (ao A s .ag)
 |.bN i=>A (.bN i)|.b5 i=>A (.b5 i)|.key i=>A (.key i)|.bq i=>A (.bq i)|.bm i=>A (.bm i)|.bo i=>A (.bo i)
theorem SF(A:aS->U)(s:aH)(n1 n2 n3 n4 n5:Nat)(k:aS):ao (fq A s n1 n2 n3 n4 n5) s k=ao A s k:=by cases k<;>rfl
theorem SG{h P:Z}(A:aS->U)(s:aH)(af:h.length<=P.length){n1 n2 n3 n4 n5:Nat}(aG:n1=P.length)(aF:n2=(P++cq 1 3 (ao A s .bk)).length)(c:n3=(P++cq 1 3 (ao A s .bk)++cq 1 3 (ao A s .cy)).length)
 (e:n4=(P++cq 1 3 (ao A s .bk)++cq 1 3 (ao A s .cy)++cq 2 39 (ao A s .aw)).length) (g:n5=(P++cq 1 3 (ao A s .bk)++cq 1 3 (ao A s .cy)++cq 2 39 (ao A s .aw)++cq 13 43 (ao A s .az)).length):
 iX (P++cq 1 3 (ao A s .bk)++cq 1 3 (ao A s .cy)++cq 2 39 (ao A s .aw)++cq 13 43 (ao A s .az)++cq 33 57 (ao A s .ag)) h.length dQ hn (nX iZ (fq A s n1 n2 n3 n4 n5)) (lC iZ (ao A s)):=by
 have w0:iX P h.length dQ hn (λ_=>.emp) (λ_=>[]):=⟨λ_=>.emp,λk k' b af=>by cases af⟩
 have bC:=w0.add af .bk (ao A s .bk)
 have cU:=bC.add (by simp only[dV];omega) .cy (ao A s .cy)
 have i:=cU.add (by simp only[dV];omega) .aw (ao A s .aw)
 have j:=i.add (by simp only[dV];omega) .az (ao A s .az)
 have l:=j.add (by simp only[dV];omega) .ag (ao A s .ag)
 subst aG aF c e g
 refine cast (congr (cZ _ ?_) ?_) l
 ·funext k;cases k<;>simp [bQ,nX,iZ,fq]<;>rfl
 ·funext k;cases k<;>simp [bQ,lC,iZ]
def cl(s:aH):aS->Bool
 |.bN i=>decide (i<s.aw.length)
 |.b5 i=>decide (i<s.az.length)
 |.key i|.bq i|.bm i|.bo i=>decide (i<s.ag.length)
 |_=>V
theorem SH{s:aH}{k:aS}(h:cl s k=M)(A:aS->U):ao A s k=[]:=by
 cases k<;>simp only[cl,iA]at h<;>first|(cases h;done)|(simp only[ao];rw[eE (by omega)])
def norm(s:aH)(A:aS->U):aS->U:=λk=>if cl s k=V then A k else .emp
theorem agZ(s:aH)(A:aS->U)(k:aS):ao (norm s A) s k=ao A s k:=by
 cases k with
 |aw=>refine fx λi=>?_;simp only[ao,fQ];cases e:s.aw[i]? with
  |none=>rfl
  |some a=>have:cl s (.bN i)=V:=by simp only[cl,eJ];exact(List.getElem?_eq_some_iff.1 e).1
           simp only[dw,norm,this,a_]
 |az=>refine fx λi=>?_;simp only[ao,fQ];cases e:s.az[i]? with
  |none=>rfl
  |some a=>have:cl s (.b5 i)=V:=by simp only[cl,eJ];exact(List.getElem?_eq_some_iff.1 e).1
           simp only[dw,norm,this,a_]
 |ag=>refine fx λi=>?_;simp only[ao,fQ];cases e:s.ag[i]? with
  |none=>rfl
  |some a=>have h1:cl s (.key i)=V:=by simp only[cl,eJ];exact(List.getElem?_eq_some_iff.1 e).1
           have h2:cl s (.bq i)=V:=h1
           have ak:cl s (.bm i)=V:=h1
           have aJ:cl s (.bo i)=V:=h1
           simp only[dw,norm,h1,h2,ak,aJ,a_]
 |_=>rfl
theorem SI(s:aH)(A:aS->U):aQ (norm s A) s=aQ A s:=rfl
theorem gr.norm{h:Z}{A:aS->U}{s:aH}(r:gr h A s):gr h (Go.aM.X.norm s A) s:=by
 intro k
 rw[agZ]
 unfold Go.aM.X.norm
 cases hd:cl s k with
 |true=>rw[aP rfl];exact r k
 |false=>rw[aW (by decide),SH hd A];exact .emp
theorem SJ{s:aH}(A:aS->U){k:aS}(h:cl s k=M):norm s A k=.emp:=by unfold norm;rw[h];rfl
theorem cD.all{av H:Z}{D:aS->Bool}{A:aS->U}{s:aH}(o:cD av D H A s)(h:∀k,D k=M->cl s k=M)(c:∀k,cl s k=M->A k=.emp):cD av db H A s:=
 o.of (A1:=nX D A) (R1:=lC D (ao A s)) o.fi (cj _) (λb _=>rfl) (λk _=>by
  unfold nX lC
  cases ad:D k with
  |true=>exact⟨rfl,rfl⟩
  |false=>rw[c k (h k ad),SH (h k ad)];exact⟨rfl,rfl⟩) λk ad=>by cases ad
theorem xj(n sz:Nat)(rows:List (List U)):bB M (bV n sz rows)=y (J E rows.length):=by
 unfold bV;split
 ·rename_i e;rw[e];rfl
 ·rfl
theorem Kv(n sz o:Nat)(rows:List (List U))(vs:List U)(t:a1)(l:Z):bf 1 (.ptr 0 o) (bV n sz rows) (.box vs t .rw::l)=(cF vs o [bV n sz rows]).map λck=>.box ck t .rw::l:=gB (sf n sz rows) o vs t l
theorem pF{o:Nat}{vs:List U}(x au:Nat)(rows:List (List U))(h:o<vs.length):cF vs o [bV x au rows]=y (vs.set o (bV x au rows)):=by
 unfold cF
 rw[aP ⟨by simp only[jS,List.length_nil];omega,by simp only[n',SC,vp,Bool.and_self]⟩,List.set_eq_take_append_cons_drop,aP h]
 simp
def kS(n:Nat):aS->Bool
 |.bN j=>decide (j<n)
 |k=>iZ k
def lD(s:aH)(n:Nat):aS->Bool
 |.bN j=>decide (j<s.aw.length)
 |.b5 j=>decide (j<n)
 |k=>iZ k
def ho(s:aH)(n:Nat):aS->Bool
 |.bN j=>decide (j<s.aw.length)
 |.b5 j=>decide (j<s.az.length)
 |.key j|.bq j|.bm j|.bo j=>decide (j<n)
 |k=>iZ k
theorem SK:kS 0=iZ:=by funext k;cases k<;>simp [kS,iZ]
theorem SL(n:Nat):bQ (kS n) (.bN n) V=kS (n+1):=by
 funext k
 cases k with
 |bN j=>simp only[bQ,kS,aS.bN.injEq];by_cases e:j=n<;>simp [e]<;>omega
 |_=>simp [bQ,kS]
theorem SM(s:aH):lD s 0=kS s.aw.length:=by funext k;cases k<;>simp [lD,kS,iZ]
theorem SN(s:aH)(n:Nat):bQ (lD s n) (.b5 n) V=lD s (n+1):=by
 funext k
 cases k with
 |b5 j=>simp only[bQ,lD,aS.b5.injEq];by_cases e:j=n<;>simp [e]<;>omega
 |_=>simp [bQ,lD]
theorem SO(s:aH):ho s 0=lD s s.az.length:=by funext k;cases k<;>simp [ho,lD,iZ]
structure iF(h:Z)(D:aS->Bool)(H:Z)(A fq:aS->U)(s:aH):Prop where
 own:cD h D H A s
 cm:H[h.length]?=y (.box (aQ A s) 27 .rw)
 cH:H[h.length+1]?=y eD
 top:∀k,iZ k=V->A k=fq k
 out:∀k,cl s k=M->A k=.emp
 emp:∀k,D k=V->ao A s k=[]->A k=.emp
theorem iF.child{h H:Z}{D:aS->Bool}{A fq:aS->U}{s:aH}(c:iF h D H A fq s)(g k:aS)(l:D g=V)(ad:D k=M)(aO:iZ k=M)(hd:cl s k=V){i f:Nat}{row row':List U}(o:(ao A s g)[i]?=y row)(p:cF row f [bV H.length (dQ k) (ao A s k)]=y row')
 (n:ao (bQ A k (bV H.length (dQ k) (ao A s k))) s g=(ao A s g).set i row') (m:∀k',k'≠g->ao (bQ A k (bV H.length (dQ k) (ao A s k))) s k'=ao A s k'):
 bf 1 (di (A g) row i f) (bV H.length (dQ k) (ao A s k)) (H++cq (dQ k) (hn k) (ao A s k))=y (wr (H++cq (dQ k) (hn k) (ao A s k)) (A g) (dQ g) (hn g) ((ao A s g).set i row'))/\
 iF h (bQ D k V) (wr (H++cq (dQ k) (hn k) (ao A s k)) (A g) (dQ g) (hn g) ((ao A s g).set i row')) (bQ A k (bV H.length (dQ k) (ao A s k))) fq s:=by
 obtain⟨h1,h2⟩:=Go.aM.X.child c.own g k l ad o p n m
 have q:=jL (h':=H++cq (dQ k) (hn k) (ao A s k)) (c.own.at l) λb _ af=>cI af
 have ay:aQ (bQ A k (bV H.length (dQ k) (ao A s k))) s=aQ A s:=by
  cases k<;>first|(cases aO;done)|(simp [aQ,bQ])
 have af:∀{b:Nat} {vs:List U} {t:a1} {md:ep},H[b]?=y (.box vs t md)->(wr (H++cq (dQ k) (hn k) (ao A s k)) (A g) (dQ g) (hn g) ((ao A s g).set i row'))[b]?=y (.box vs t md):=λe=>
  jM q (by rw[cI (List.getElem?_eq_some_iff.1 e).1];exact e)
 refine⟨h1,h2,?_,af c.cH,λk' j=>?_,λk' j=>?_,λk' j an=>?_⟩
 ·rw[ay];exact af c.cm
 ·rw[cE _ _ (λe=>by rw[e,aO]at j;cases j)];exact c.top k' j
 ·rw[cE _ _ (λe=>by rw[e,hd]at j;cases j)];exact c.out k' j
 ·by_cases e:k'=k
  ·subst e
   rw[fu]
   rw[m k' (λe=>by rw[e,l]at ad;cases ad)]at an
   unfold bV
   rw[aP (by rw[an];rfl)]
  ·rw[cE _ _ e]at j|-
   by_cases aF:k'=g
   ·subst aF
    rw[n]at an
    have:=cZ tP an
    rw[iz]at this
    exact c.emp k' j (gF this)
   ·rw[m k' aF]at an
    exact c.emp k' j an
theorem rr(p:d_)(c:U):(e9 p c)[1]?=y c:=ca rfl
theorem SP(p:d_)(c:U)(n sz:Nat)(rows:List (List U)):cF (e9 p c) 1 [bV n sz rows]=y (e9 p (bV n sz rows)):=pF _ _ _ (show 1<2 by decide)
theorem Gf(p:ey)(c:U):(j9 p c)[1]?=y c:=ca rfl
theorem SQ(p:ey)(c:U)(n sz:Nat)(rows:List (List U)):cF (j9 p c) 1 [bV n sz rows]=y (j9 p (bV n sz rows)):=pF _ _ _ (show 1<13 by decide)
theorem ez{g:Z}{k o:Nat}{vs:List U}{t:a1}{md:ep}{v:U}(e:g[k]?=y (.box vs t md))(ay:vs[o]?=y v):ab M 1 (.ptr k o) g=y v:=by
 rw[lU,qa e,dy]
 exact ay
theorem iw{g:Z}{k n:Nat}{vs:List U}{t:a1}{md:ep}(e:g[k]?=y (.box vs t md))(ay:vs.length=n):ab V n (.ptr k 0) g=y (.agg vs):=by
 rw[lU,qa e,dy]
 exact gh ay
theorem j_(A:aS->U)(s:aH):(aQ A s)[10]?=y (A .aw):=ca rfl
theorem lE(A:aS->U)(s:aH):(aQ A s)[11]?=y (A .az):=ca rfl
theorem i_(A:aS->U)(s:aH):(aQ A s)[12]?=y (A .ag):=ca rfl
theorem Gg{A:aS->U}{s:aH}{i:Nat}{p:d_}(ai:s.aw[i]?=y p)(v:U):ao (bQ A (.bN i) v) s .aw=(ao A s .aw).set i (e9 p v):=
 oO ai (λj b _ c=>by rw[cE _ _ (by simpa using c)]) (by rw[fu])
theorem SR{A:aS->U}{s:aH}{i:Nat}(v:U)(k:aS)(ad:k≠.aw):ao (bQ A (.bN i) v) s k=ao A s k:=by
 cases k<;>first|exact absurd rfl ad|(simp [ao,bQ])
theorem Gh{A:aS->U}{s:aH}{i:Nat}{p:ey}(ai:s.az[i]?=y p)(v:U):ao (bQ A (.b5 i) v) s .az=(ao A s .az).set i (j9 p v):=
 oO ai (λj b _ c=>by rw[cE _ _ (by simpa using c)]) (by rw[fu])
theorem SS{A:aS->U}{s:aH}{i:Nat}(v:U)(k:aS)(ad:k≠.az):ao (bQ A (.b5 i) v) s k=ao A s k:=by
 cases k<;>first|exact absurd rfl ad|(simp [ao,bQ])
def Nm(n:Nat)(H:Z)(rows:List (List U)):Prop:=H.length=n\/∃c n1 n2 n3 n4,U.ref c n1 n2 n3 n4∈rows.flatten/\n<=c
theorem Nm.step{n:Nat}{H:Z}{rows:List (List U)}{i f:Nat}{row row':List U}{sz:Nat}{t:a1}{r:List (List U)}(aA:n<=H.length)(x:Nm n H rows)(ai:rows[i]?=y row)(ah:row'=row.set f (bV H.length sz r))(aE:f<row.length)(h:∀c n1 n2 n3 n4,row[f]?=y (.ref c n1 n2 n3 n4)->c<n):Nm n (H++cq sz t r) (rows.set i row'):=by
 subst ah
 have g:=(List.getElem?_eq_some_iff.1 ai).1
 by_cases an:r.length=0
 ·have aG:cq sz t r=[]:=by unfold cq;rw[aP an]
  rw[aG,fD]
  rcases x with x|⟨c,n1,n2,n3,n4,hm,aa⟩
  ·exact .inl x
  ·right
   refine⟨c,n1,n2,n3,n4,?_,aa⟩
   obtain⟨k,l,ae⟩:=List.mem_flatten.1 hm
   obtain⟨j,b⟩:=List.mem_iff_getElem?.1 l
   by_cases e:i=j
   ·subst e
    rw[ai]at b;cases b
    obtain⟨q,br⟩:=List.mem_iff_getElem?.1 ae
    have m:f≠q:=λe=>by rw[<-e]at br;have:=h _ _ _ _ _ br;omega
    refine List.mem_flatten.2 ⟨row.set f (bV H.length sz r),List.mem_iff_getElem?.2 ⟨i,by rw[fK g]⟩,List.mem_iff_getElem?.2 ⟨q,?_⟩⟩
    rw[hP m,br]
   ·exact List.mem_flatten.2 ⟨k,List.mem_iff_getElem?.2 ⟨j,by rw[hP e,b]⟩,ae⟩
 ·right
  have aF:bV H.length sz r=.ref H.length 0 r.length r.length sz:=by unfold bV;rw[aW an]
  refine⟨H.length,0,r.length,r.length,sz,?_,aA⟩
  rw[<-aF]
  exact List.mem_flatten.2 ⟨row.set f (bV H.length sz r),List.mem_iff_getElem?.2 ⟨i,by rw[fK g]⟩,List.mem_iff_getElem?.2 ⟨f,by rw[fK aE]⟩⟩
theorem sg{R:Type}(h:Z)(l:Z)(k:Z->Option R):d' h (lock h++l) k=k (h++l):=Y' h l k
theorem ag0{N:Nat}{h b H:Z}{A fq cA:aS->U}{s:aH}{n:U}{j:List U->Z->bl}{i:Nat}{p:d_}(o:kA s)(ah:s.aw[i]?=y p)(ay:n=J E s.aw.length)
 (c:iF h (kS i) H A fq s) (q:cY b h.length 2 39 (fq .aw) (ao cA s .aw)) (D:∀x∈(ao cA s .aw).flatten,bM b.length x) (F:b.length<=H.length) (P:h.length<=b.length) (dA:Nm b.length H (ao A s .aw)):
 ∃b4 u,iF h (kS (i+1)) b4 u fq s/\Nm b.length b4 (ao u s .aw)/\b.length<=b4.length/\
  ∀K,C3 aL N (.ptr h.length 0) b n j K [J E (i:Int)] H=K [J E ((i+1:Nat):Int)] b4:=by
 subst ay
 have w:=(List.getElem?_eq_some_iff.1 ah).1
 have m:=pE (A:=A) ah
 have ad:kS i (.bN i)=M:=by simp [kS]
 have hd:cl s (.bN i)=V:=by simp [cl,w]
 obtain⟨st,g⟩:=c.child .aw (.bN i) rfl ad rfl hd m (SP p _ _ _ _) (Gg ah _) (λk ad=>SR _ k ad)
 rw[SL]at g
 have rs:=c.own.rs
 have t5:A .aw=fq .aw:=c.top .aw rfl
 have G:∀c n1 n2 n3 n4,(e9 p (A (.bN i)))[1]?=y (U.ref c n1 n2 n3 n4)->c<b.length:=λg n1 n2 n3 n4 e=>by
  rw[rr]at e
  have:=se (c.own.rd (.bN i) ad)
  rw[jU e]at this
  simp only[bM]at this
  omega
 have l:=Nm.step (t:=41) F dA m (row':=e9 p (bV H.length 6 (ao A s (.bN i)))) (f:=1) rfl (show 1<2 by decide) G
 rw[<-Gg ah]at l
 refine⟨_,_,g,?_,?_,λK=>?_⟩
 ·unfold Nm at l|-
  rw[eo];exact l
 ·rw[eo,dV];omega
 ·have aB:i<9223372036854775807:=by
   have:=o A .aw
   simp only[ao,km]at this
   omega
  have z:=g.own.at (k:=.aw) rfl
  rw[cE _ _ (show aS.aw≠aS.bN i from λe=>by cases e)]at z
  rw[<-t5]at q
  have C:=nc (h1:=b) (roots:=[J E ((i+1:Nat):Int)]) z q D (by
   unfold Nm at l
   rw[eo];exact l)
  have aG:ab M 1 (.ptr h.length 10) H=y (A .aw):=ez c.cm (j_ A s)
  have aF:=eM (rs .aw) .i64 m
  have L:ab M 1 (di (A .aw) (e9 p (A (.bN i))) i 1) H=y (A (.bN i)):=(eZ (rs .aw) m _ _ _).trans (rr _ _)
  have O:aL 83 [A (.bN i)] (lock H)=y (bV H.length 6 (ao A s (.bN i)),lock H++cq 6 41 (ao A s (.bN i))):=by
   have:=agV (qv (rs (.bN i))) (rs.one (.bN i)) (o.gO A (.bN i))
   rwa [kL]at this
  unfold C3
  simp only[dQ,hn]at aF st C g|-
  simp only[aU,↓aI,aV,cQ w,cr,a_,aG,aF,ih,L,O,sg,st,cO aB]
  exact cZ (K _) C
theorem ag1{N:Nat}{h b H:Z}{A fq cA:aS->U}{s:aH}{n:U}{j:List U->Z->bl}{i:Nat}{p:ey}(o:kA s)(ah:s.az[i]?=y p)(ay:n=J E s.az.length)
 (c:iF h (lD s i) H A fq s) (q:cY b h.length 13 43 (fq .az) (ao cA s .az)) (D:∀x∈(ao cA s .az).flatten,bM b.length x) (F:b.length<=H.length) (P:h.length<=b.length) (dA:Nm b.length H (ao A s .az)):
 ∃b4 u,iF h (lD s (i+1)) b4 u fq s/\Nm b.length b4 (ao u s .az)/\b.length<=b4.length/\
  ∀K,C2 aL N (.ptr h.length 0) b n j K [J E (i:Int)] H=K [J E ((i+1:Nat):Int)] b4:=by
 subst ay
 have w:=(List.getElem?_eq_some_iff.1 ah).1
 have m:=uZ (A:=A) ah
 have ad:lD s i (.b5 i)=M:=by simp [lD]
 have hd:cl s (.b5 i)=V:=by simp [cl,w]
 obtain⟨st,g⟩:=c.child .az (.b5 i) rfl ad rfl hd m (SQ p _ _ _ _) (Gh ah _) (λk ad=>SS _ k ad)
 rw[SN]at g
 have rs:=c.own.rs
 have t5:A .az=fq .az:=c.top .az rfl
 have G:∀c n1 n2 n3 n4,(j9 p (A (.b5 i)))[1]?=y (U.ref c n1 n2 n3 n4)->c<b.length:=λg n1 n2 n3 n4 e=>by
  rw[Gf]at e
  have:=se (c.own.rd (.b5 i) ad)
  rw[jU e]at this
  simp only[bM]at this
  omega
 have l:=Nm.step (t:=3) F dA m (row':=j9 p (bV H.length 1 (ao A s (.b5 i)))) (f:=1) rfl (show 1<13 by decide) G
 rw[<-Gh ah]at l
 refine⟨_,_,g,?_,?_,λK=>?_⟩
 ·unfold Nm at l|-
  rw[eo];exact l
 ·rw[eo,dV];omega
 ·have aB:i<9223372036854775807:=by
   have:=o A .az
   simp only[ao,km]at this
   omega
  have z:=g.own.at (k:=.az) rfl
  rw[cE _ _ (show aS.az≠aS.b5 i from λe=>by cases e)]at z
  rw[<-t5]at q
  have C:=nc (h1:=b) (roots:=[J E ((i+1:Nat):Int)]) z q D (by
   unfold Nm at l
   rw[eo];exact l)
  have aG:ab M 1 (.ptr h.length 11) H=y (A .az):=ez c.cm (lE A s)
  have aF:=eM (rs .az) .i64 m
  have L:ab M 1 (di (A .az) (j9 p (A (.b5 i))) i 1) H=y (A (.b5 i)):=(eZ (rs .az) m _ _ _).trans (Gf _ _)
  have O:aL 79 [A (.b5 i)] (lock H)=y (bV H.length 1 (ao A s (.b5 i)),lock H++cq 1 3 (ao A s (.b5 i))):=by
   have:=Kt (qv (rs (.b5 i))) (rs.one (.b5 i)) (o.gO A (.b5 i))
   rwa [kL]at this
  unfold C2
  simp only[dQ,hn]at aF st C g|-
  simp only[aU,↓aI,aV,cQ w,cr,a_,aG,aF,ih,L,O,sg,st,cO aB]
  exact cZ (K _) C
theorem j'(x:c5)(k v p q:U):(b1 x k v p q)[1]?=y k:=ca rfl
theorem Gi(x:c5)(k v p q:U):(b1 x k v p q)[3]?=y v:=ca rfl
theorem Gj(x:c5)(k v p q:U):(b1 x k v p q)[11]?=y p:=ca rfl
theorem Gk(x:c5)(k v p q:U):(b1 x k v p q)[19]?=y q:=ca rfl
theorem SU(x:c5)(k v p q:U)(n sz:Nat)(rows:List (List U)):cF (b1 x k v p q) 1 [bV n sz rows]=y (b1 x (bV n sz rows) v p q):=pF _ _ _ (show 1<33 by decide)
theorem SV(x:c5)(k v p q:U)(n sz:Nat)(rows:List (List U)):cF (b1 x k v p q) 3 [bV n sz rows]=y (b1 x k (bV n sz rows) p q):=pF _ _ _ (show 3<33 by decide)
theorem SW(x:c5)(k v p q:U)(n sz:Nat)(rows:List (List U)):cF (b1 x k v p q) 11 [bV n sz rows]=y (b1 x k v (bV n sz rows) q):=pF _ _ _ (show 11<33 by decide)
theorem SX(x:c5)(k v p q:U)(n sz:Nat)(rows:List (List U)):cF (b1 x k v p q) 19 [bV n sz rows]=y (b1 x k v p (bV n sz rows)):=pF _ _ _ (show 19<33 by decide)
theorem SY{A:aS->U}{s:aH}{i:Nat}{x:c5}(ai:s.ag[i]?=y x)(v:U):ao (bQ A (.key i) v) s .ag=(ao A s .ag).set i (b1 x v (A (.bq i)) (A (.bm i)) (A (.bo i))):=
 oO ai (λj b _ c=>by simp [bQ,c]) (by simp [bQ])
theorem Kw{A:aS->U}{s:aH}{i:Nat}(v:U)(k:aS)(ad:k≠.ag):ao (bQ A (.key i) v) s k=ao A s k:=by
 cases k<;>first|exact absurd rfl ad|(simp [ao,bQ])
theorem SZ{A:aS->U}{s:aH}{i:Nat}{x:c5}(ai:s.ag[i]?=y x)(v:U):ao (bQ A (.bq i) v) s .ag=(ao A s .ag).set i (b1 x (A (.key i)) v (A (.bm i)) (A (.bo i))):=
 oO ai (λj b _ c=>by simp [bQ,c]) (by simp [bQ])
theorem Kx{A:aS->U}{s:aH}{i:Nat}(v:U)(k:aS)(ad:k≠.ag):ao (bQ A (.bq i) v) s k=ao A s k:=by
 cases k<;>first|exact absurd rfl ad|(simp [ao,bQ])
theorem S1{A:aS->U}{s:aH}{i:Nat}{x:c5}(ai:s.ag[i]?=y x)(v:U):ao (bQ A (.bm i) v) s .ag=(ao A s .ag).set i (b1 x (A (.key i)) (A (.bq i)) v (A (.bo i))):=
 oO ai (λj b _ c=>by simp [bQ,c]) (by simp [bQ])
theorem Ky{A:aS->U}{s:aH}{i:Nat}(v:U)(k:aS)(ad:k≠.ag):ao (bQ A (.bm i) v) s k=ao A s k:=by
 cases k<;>first|exact absurd rfl ad|(simp [ao,bQ])
theorem S2{A:aS->U}{s:aH}{i:Nat}{x:c5}(ai:s.ag[i]?=y x)(v:U):ao (bQ A (.bo i) v) s .ag=(ao A s .ag).set i (b1 x (A (.key i)) (A (.bq i)) (A (.bm i)) v):=
 oO ai (λj b _ c=>by simp [bQ,c]) (by simp [bQ])
theorem S3{A:aS->U}{s:aH}{i:Nat}(v:U)(k:aS)(ad:k≠.ag):ao (bQ A (.bo i) v) s k=ao A s k:=by
 cases k<;>first|exact absurd rfl ad|(simp [ao,bQ])
theorem pG{H:Z}{base sz:Nat}{t:a1}{v:U}{rows:List (List U)}(o:cY H base sz t v rows)(l:Z)(sz':Nat)(c:a1)(r:List (List U)):wr (H++l) v sz' c r=wr H v sz' c r++l:=by
 cases o with
 |emp=>rfl
 |ref b n _ af e aA=>
  show(H++l).set b _=H.set b _++l
  rw[List.set_append_left _ _ (List.getElem?_eq_some_iff.1 e).1]
def hT(s:aH)(n q:Nat):aS->Bool
 |.bN j=>decide (j<s.aw.length)
 |.b5 j=>decide (j<s.az.length)
 |.key j=>decide (j<n\/j=n/\0<q)
 |.bq j=>decide (j<n\/j=n/\1<q)
 |.bm j=>decide (j<n\/j=n/\2<q)
 |.bo j=>decide (j<n\/j=n/\3<q)
 |k=>iZ k
theorem ag2(s:aH)(n:Nat):ho s n=hT s n 0:=by funext k;cases k<;>simp [ho,hT,iZ]
theorem ag3(s:aH)(n:Nat):hT s n 4=ho s (n+1):=by
 funext k
 cases k<;>simp only[ho,hT]<;>(try rfl)<;>(congr 1;apply propext;omega)
theorem ag4(s:aH)(n:Nat):bQ (hT s n 0) (.key n) V=hT s n 1:=by
 funext k
 cases k with
 |key j=>simp only[bQ,hT,aS.key.injEq];by_cases e:j=n<;>simp [e]
 |_=>simp [bQ,hT]
theorem ag5(s:aH)(n:Nat):bQ (hT s n 1) (.bq n) V=hT s n 2:=by
 funext k
 cases k with
 |bq j=>simp only[bQ,hT,aS.bq.injEq];by_cases e:j=n<;>simp [e]
 |_=>simp [bQ,hT]
theorem ag6(s:aH)(n:Nat):bQ (hT s n 2) (.bm n) V=hT s n 3:=by
 funext k
 cases k with
 |bm j=>simp only[bQ,hT,aS.bm.injEq];by_cases e:j=n<;>simp [e]
 |_=>simp [bQ,hT]
theorem ag7(s:aH)(n:Nat):bQ (hT s n 3) (.bo n) V=hT s n 4:=by
 funext k
 cases k with
 |bo j=>simp only[bQ,hT,aS.bo.injEq];by_cases e:j=n<;>simp [e]
 |_=>simp [bQ,hT]
theorem z1{h:Z}{n sz:Nat}{v w:U}{rows:List (List U)}(r:dM h sz v rows)(aA:h.length<=n)(e:y v=y w):∀c n1 n2 n3 n4,y v=y (U.ref c n1 n2 n3 n4)->c<n:=λc n1 n2 n3 n4 e=>by
 have:=se r
 rw[jU e]at this
 simp only[bM]at this
 omega
theorem Nm.wr{n:Nat}{H:Z}{rows:List (List U)}(x:Nm n H rows)(v:U)(sz:Nat)(t:a1)(r:List (List U)):Nm n (Go.aM.X.wr H v sz t r) rows:=by
 unfold Nm at x|-
 rw[eo];exact x
theorem Kz{H:Z}{base sz:Nat}{t:a1}{v:U}{rows:List (List U)}{i:Nat}{row:List U}(o:cY H base sz t v rows)(h:rows[i]?=y row)(r dO:List U)(f:Nat):di v r i f=di v dO i f:=by
 cases o with
 |emp=>cases h
 |ref=>rfl
theorem ag8{h H:Z}{A fq:aS->U}{s:aH}{i n:Nat}{x:c5}(ah:s.ag[i]?=y x)(c:iF h (ho s i) H A fq s)(aI:h.length<=n)(aJ:n<=H.length)(dA:Nm n H (ao A s .ag))
 (g:U) (aK:g=bV H.length 2 (ao A s (.key i))) (c':Z) (K:c'=wr (H++cq 2 89 (ao A s (.key i))) (A .ag) 33 57 ((ao A s .ag).set i (b1 x g (A (.bq i)) (A (.bm i)) (A (.bo i)))))
 (j:U) (B:j=bV c'.length 2 (ao A s (.bq i))) (cx:Z) (L:cx=c'++cq 2 120 (ao A s (.bq i)))
 (up:U) (C:up=bV cx.length 2 (ao A s (.bm i))) (m:Z) (N:m=cx++cq 2 120 (ao A s (.bm i)))
 (D:U) (E:D=bV m.length 2 (ao A s (.bo i))) (O:Z) (P:O=m++cq 2 120 (ao A s (.bo i)))
 (w:Z) (Q:w=wr O (A .ag) 33 57 ((ao A s .ag).set i (b1 x g j up D))):
 bf 1 (di (A .ag) (b1 x (A (.key i)) (A (.bq i)) (A (.bm i)) (A (.bo i))) i 1) g (H++cq 2 89 (ao A s (.key i)))=y c'/\
 dM c' 33 (A .ag) ((ao A s .ag).set i (b1 x g (A (.bq i)) (A (.bm i)) (A (.bo i))))/\
 (∃ak al,bf 1 (di (A .ag) (b1 x (A (.key i)) (A (.bq i)) (A (.bm i)) (A (.bo i))) i 3) j O=y ak/\bf 1 (di (A .ag) (b1 x (A (.key i)) (A (.bq i)) (A (.bm i)) (A (.bo i))) i 11) up ak=y al/\bf 1 (di (A .ag) (b1 x (A (.key i)) (A (.bq i)) (A (.bm i)) (A (.bo i))) i 19) D al=y w)/\
 (∀k,dM H (dQ k) (A k) (ao A s k))/\(∀k,k≠.ag->dM c' (dQ k) (A k) (ao A s k))/\
 ∃am,iF h (ho s (i+1)) w am fq s/\Nm n w (ao am s .ag)/\n<=w.length:=by
 have F:=(List.getElem?_eq_some_iff.1 ah).1
 have aL:cl s (.key i)=V:=by simp [cl,F]
 have aM:cl s (.bq i)=V:=by simp [cl,F]
 have aN:cl s (.bm i)=V:=by simp [cl,F]
 have aO:cl s (.bo i)=V:=by simp [cl,F]
 have R:h.length<=n:=aI
 rw[ag2]at c
 have f1:hT s i 0 (.key i)=M:=by simp [hT]
 have f2:hT s i 0 (.bq i)=M:=by simp [hT]
 have f3:hT s i 0 (.bm i)=M:=by simp [hT]
 have f4:hT s i 0 (.bo i)=M:=by simp [hT]
 have rs:=c.own.rs
 have an:=c.own.at (k:=.ag) rfl
 have Y:=la (A:=A) ah
 obtain⟨gB,c2⟩:=c.child .ag (.key i) rfl f1 rfl aL Y (SU _ _ _ _ _ _ _ _) (SY ah _) (λk ad=>Kw _ k ad)
 rw[ag4]at c2
 have ap:=Nm.step (t:=89) aJ dA Y (row':=b1 x (bV H.length 2 (ao A s (.key i))) (A (.bq i)) (A (.bm i)) (A (.bo i))) (f:=1) rfl (show 1<33 by decide) (by rw[j'];exact z1 (c.own.rd _ f1) R rfl)
 simp only[dQ,hn]at gB c2
 rw[<-aK]at gB c2 ap
 rw[<-K]at gB c2
 have aP:c'.length=(H++cq 2 89 (ao A s (.key i))).length:=by rw[K,eo]
 have a6:H.length<=c'.length:=by rw[aP,dV];omega
 have aQ:Nm n c' ((ao A s .ag).set i (b1 x g (A (.bq i)) (A (.bm i)) (A (.bo i)))):=by rw[K];exact ap.wr _ _ _ _
 obtain⟨A1,G⟩:∃A1,A1=bQ A (.key i) g:=⟨_,rfl⟩
 rw[<-G]at c2
 have l:∀k,k≠.key i->A1 k=A k:=λk ad=>by rw[G];exact cE _ _ ad
 have z:A1 (.key i)=g:=by rw[G,fu]
 have aa:∀k,k≠.ag->ao A1 s k=ao A s k:=λk ad=>by rw[G];exact Kw _ k ad
 have S:ao A1 s .ag=(ao A s .ag).set i (b1 x g (A (.bq i)) (A (.bm i)) (A (.bo i))):=by rw[G];exact SY ah _
 have aR:=la (A:=A1) ah
 obtain⟨_,ej⟩:=c2.child .ag (.bq i) rfl (by simp [hT]) rfl aM aR (SV _ _ _ _ _ _ _ _) (SZ ah _) (λk ad=>Kx _ k ad)
 rw[ag5]at ej
 simp only[dQ,hn]at ej
 rw[aa (.bq i) (by simp),<-B,l .ag (by simp),l (.bm i) (by simp),l (.bo i) (by simp),z,S,lj,<-L]at ej
 obtain⟨o,I⟩:∃o,o=bQ A1 (.bq i) j:=⟨_,rfl⟩
 rw[<-I]at ej
 have p:∀k,k≠.bq i->o k=A1 k:=λk ad=>by rw[I];exact cE _ _ ad
 have T:o (.bq i)=j:=by rw[I,fu]
 have aq:∀k,k≠.ag->ao o s k=ao A s k:=λk ad=>by rw[I,Kx _ k ad,aa k ad]
 have ar:ao o s .ag=(ao A s .ag).set i (b1 x g j (A (.bm i)) (A (.bo i))):=by
  rw[I,SZ ah,z,l (.bm i) (by simp),l (.bo i) (by simp),S,lj]
 obtain⟨W,ab⟩:∃W,W=wr cx (A .ag) 33 57 ((ao A s .ag).set i (b1 x g j (A (.bm i)) (A (.bo i)))):=⟨_,rfl⟩
 rw[<-ab]at ej
 have aT:W.length=cx.length:=by rw[ab,eo]
 have aU:=la (A:=o) ah
 obtain⟨_,q⟩:=ej.child .ag (.bm i) rfl (by simp [hT]) rfl aN aU (SW _ _ _ _ _ _ _ _) (S1 ah _) (λk ad=>Ky _ k ad)
 rw[ag6]at q
 simp only[dQ,hn]at q
 rw[aq (.bm i) (by simp),aT,<-C,p .ag (by simp),l .ag (by simp),p (.key i) (by simp),T,p (.bo i) (by simp),z,l (.bo i) (by simp),ar,lj]at q
 have au:cY cx h.length 33 57 (A .ag) ((ao A s .ag).set i (b1 x g (A (.bq i)) (A (.bm i)) (A (.bo i)))):=by
  have:=c2.own.at (k:=.ag) rfl
  rw[l .ag (by simp),S]at this
  rw[L]
  exact jL this λb _ af=>cI af
 have aV:wr (W++cq 2 120 (ao A s (.bm i))) (A .ag) 33 57 ((ao A s .ag).set i (b1 x g j up (A (.bo i))))=wr m (A .ag) 33 57 ((ao A s .ag).set i (b1 x g j up (A (.bo i)))):=by
  rw[ab,<-pG au,kR,<-N]
 rw[aV]at q
 obtain⟨u,J⟩:∃u,u=bQ o (.bm i) up:=⟨_,rfl⟩
 rw[<-J]at q
 have a3:∀k,k≠.bm i->u k=o k:=λk ad=>by rw[J];exact cE _ _ ad
 have av:u (.bm i)=up:=by rw[J,fu]
 have aW:∀k,k≠.ag->ao u s k=ao A s k:=λk ad=>by rw[J,Ky _ k ad,aq k ad]
 have aA:ao u s .ag=(ao A s .ag).set i (b1 x g j up (A (.bo i))):=by
  rw[J,S1 ah,T,p (.key i) (by simp),p (.bo i) (by simp),z,l (.bo i) (by simp),ar,lj]
 obtain⟨X,ac⟩:∃X,X=wr m (A .ag) 33 57 ((ao A s .ag).set i (b1 x g j up (A (.bo i)))):=⟨_,rfl⟩
 rw[<-ac]at q
 have aX:X.length=m.length:=by rw[ac,eo]
 have aY:=la (A:=u) ah
 obtain⟨_,lY⟩:=q.child .ag (.bo i) rfl (by simp [hT]) rfl aO aY (SX _ _ _ _ _ _ _ _) (S2 ah _) (λk ad=>S3 _ k ad)
 rw[ag7,ag3]at lY
 simp only[dQ,hn]at lY
 rw[aW (.bo i) (by simp),aX,<-E,a3 .ag (by simp),p .ag (by simp),l .ag (by simp),a3 (.key i) (by simp),a3 (.bq i) (by simp),av,p (.key i) (by simp),T,z,aA,lj]at lY
 have aB:cY m h.length 33 57 (A .ag) ((ao A s .ag).set i (b1 x g (A (.bq i)) (A (.bm i)) (A (.bo i)))):=by
  rw[N];exact jL au λb _ af=>cI af
 have ae:cY O h.length 33 57 (A .ag) ((ao A s .ag).set i (b1 x g (A (.bq i)) (A (.bm i)) (A (.bo i)))):=by
  rw[P];exact jL aB λb _ af=>cI af
 have aZ:wr (X++cq 2 120 (ao A s (.bo i))) (A .ag) 33 57 ((ao A s .ag).set i (b1 x g j up D))=w:=by
  rw[ac,<-pG aB,kR,<-P,<-Q]
 rw[aZ]at lY
 have bz:i<(ao A s .ag).length:=by simp [ao,F]
 have cL:((ao A s .ag).set i (b1 x g (A (.bq i)) (A (.bm i)) (A (.bo i))))[i]?=y (b1 x g (A (.bq i)) (A (.bm i)) (A (.bo i))):=fK bz
 have aC:=Nm.step (t:=120) (by omega) aQ cL (row':=b1 x g (bV c'.length 2 (ao A s (.bq i))) (A (.bm i)) (A (.bo i))) (f:=3) rfl (show 3<33 by decide) (by rw[Gi];exact z1 (c.own.rd _ f2) R rfl)
 rw[<-B,<-L,lj]at aC
 have a0:n<=cx.length:=by rw[L,dV];omega
 have aD:=Nm.step (t:=120) a0 aC (fK bz) (row':=b1 x g j (bV cx.length 2 (ao A s (.bm i))) (A (.bo i))) (f:=11) rfl (show 11<33 by decide) (by rw[Gj];exact z1 (c.own.rd _ f3) R rfl)
 rw[<-C,<-N,lj]at aD
 have a1:n<=m.length:=by rw[N,dV];omega
 have aE:=Nm.step (t:=120) a1 aD (fK bz) (row':=b1 x g j up (bV m.length 2 (ao A s (.bo i)))) (f:=19) rfl (show 19<33 by decide) (by rw[Gk];exact z1 (c.own.rd _ f4) R rfl)
 rw[<-E,<-P,lj]at aE
 have ai:∀(r:List U) f,di (A .ag) (b1 x (A (.key i)) (A (.bq i)) (A (.bm i)) (A (.bo i))) i f=di (A .ag) r i f:=λr f=>Kz an Y _ _ _
 have s1:=ij ae cL (n:=1) (x:=j) (f:=3) (by rw[B,sf];rfl) (by decide) (by rw[B,sf];exact SV _ _ _ _ _ _ _ _)
 rw[lj,<-ai,<-B]at s1
 have a2:=jk ae (rows':=(ao A s .ag).set i (b1 x g j (A (.bm i)) (A (.bo i)))) (by simp)
 have aF:=ij a2 (fK bz) (n:=1) (x:=up) (f:=11) (by rw[C,sf];rfl) (by decide) (by rw[C,sf];exact SW _ _ _ _ _ _ _ _)
 rw[lj,<-ai,kR,<-C]at aF
 have a4:=jk ae (rows':=(ao A s .ag).set i (b1 x g j up (A (.bo i)))) (by simp)
 have aG:=ij a4 (fK bz) (n:=1) (x:=D) (f:=19) (by rw[E,sf];rfl) (by decide) (by rw[E,sf];exact SX _ _ _ _ _ _ _ _)
 rw[lj,<-ai,kR,<-E,<-Q]at aG
 have a5:=c2.own.rs
 refine⟨gB,?_,⟨_,_,s1,aF,aG⟩,rs,λk ad=>?_,_,lY,?_,?_⟩
 ·have:=ft (c2.own.at (k:=.ag) rfl)
  rw[l .ag (by simp),S]at this
  exact this
 ·by_cases e:k=.key i
  ·subst e
   exact pB (rs _) λb af ax=>by
    rw[K,pC,cI ax]
    intro e
    have h1:=(lA (jL (h':=H++cq 2 89 (ao A s (.key i))) an λb _ af=>cI af) e).1
    have h2:=se (c.own.rd _ f1)
    cases ay:A (.key i)<;>rw[ay]at af<;>first|(cases af;done)|skip
    rw[ay]at h2
    cases af
    simp only[bM]at h2
    omega
  ·have:=a5 k
   rwa [l k e,aa k ad]at this
 ·rw[S2 ah,a3 (.key i) (by simp),a3 (.bq i) (by simp),av,p (.key i) (by simp),T,z,aA,lj,Q]
  exact aE.wr _ _ _ _
 ·rw[Q,eo,P,dV];omega
theorem ag9{N:Nat}{h g H:Z}{A fq cA:aS->U}{s:aH}{L:U}{j:List U->Z->bl}{i:Nat}{x:c5}(O:kA s)(ah:s.ag[i]?=y x)(ay:L=J E s.ag.length)
 (c:iF h (ho s i) H A fq s) (ad:cY g h.length 33 57 (fq .ag) (ao cA s .ag)) (ae:∀x∈(ao cA s .ag).flatten,bM g.length x) (af:g.length<=H.length) (ai:h.length<=g.length) (dA:Nm g.length H (ao A s .ag)):
 ∃b4 l,iF h (ho s (i+1)) b4 l fq s/\Nm g.length b4 (ao l s .ag)/\g.length<=b4.length/\
  ∀K,C1 aL N (.ptr h.length 0) g L j K [J E (i:Int)] H=K [J E ((i+1:Nat):Int)] b4:=by
 subst ay
 have P:=(List.getElem?_eq_some_iff.1 ah).1
 have z:=la (A:=A) ah
 obtain⟨b,Q⟩:∃b,b=bV H.length 2 (ao A s (.key i)):=⟨_,rfl⟩
 obtain⟨c',ak⟩:∃c',c'=wr (H++cq 2 89 (ao A s (.key i))) (A .ag) 33 57 ((ao A s .ag).set i (b1 x b (A (.bq i)) (A (.bm i)) (A (.bo i)))):=⟨_,rfl⟩
 obtain⟨m,R⟩:∃m,m=bV c'.length 2 (ao A s (.bq i)):=⟨_,rfl⟩
 obtain⟨cx,n⟩:∃cx,cx=c'++cq 2 120 (ao A s (.bq i)):=⟨_,rfl⟩
 obtain⟨up,S⟩:∃up,up=bV cx.length 2 (ao A s (.bm i)):=⟨_,rfl⟩
 obtain⟨e,p⟩:∃e,e=cx++cq 2 120 (ao A s (.bm i)):=⟨_,rfl⟩
 obtain⟨o,T⟩:∃o,o=bV e.length 2 (ao A s (.bo i)):=⟨_,rfl⟩
 obtain⟨q,W⟩:∃q,q=e++cq 2 120 (ao A s (.bo i)):=⟨_,rfl⟩
 obtain⟨t,al⟩:∃t,t=wr q (A .ag) 33 57 ((ao A s .ag).set i (b1 x b m up o)):=⟨_,rfl⟩
 obtain⟨gB,X,⟨aM,aN,s1,am,an⟩,rs,C,l,D,Y,ap⟩:=ag8 ah c ai af dA b Q c' ak m R cx n up S e p o T q W t al
 have aq:=c.own.at (k:=.ag) rfl
 have bz:i<(ao A s .ag).length:=by simp [ao,P]
 have F:((ao A s .ag).set i (b1 x b (A (.bq i)) (A (.bm i)) (A (.bo i))))[i]?=y (b1 x b (A (.bq i)) (A (.bm i)) (A (.bo i))):=fK bz
 have G:∀(r:List U) f,di (A .ag) (b1 x (A (.key i)) (A (.bq i)) (A (.bm i)) (A (.bo i))) i f=di (A .ag) r i f:=λr f=>Kz aq z _ _ _
 have u:∀k,(ao A s k).length<=dp:=λk=>O.gO A k
 have w:∀k,(ao A s k).flatten.all dt=V:=λk=>c.own.rs.one k
 refine⟨t,l,D,Y,ap,λK=>?_⟩
 have aB:i<9223372036854775807:=by
  have:=O A .ag
  omega
 have t5:l .ag=fq .ag:=D.top .ag rfl
 have aa:=D.own.at (k:=.ag) rfl
 rw[t5]at aa
 have ar:=nc (h1:=g) (roots:=[J E ((i+1:Nat):Int)]) aa ad ae Y
 have aG:ab M 1 (.ptr h.length 12) H=y (A .ag):=ez c.cm (i_ A s)
 have aF:=eM (rs .ag) .i64 z
 have au:ab M 1 (di (A .ag) (b1 x (A (.key i)) (A (.bq i)) (A (.bm i)) (A (.bo i))) i 1) H=y (A (.key i)):=(eZ (rs .ag) z _ _ _).trans (j' _ _ _ _ _)
 have av:aL 84 [A (.key i)] H=y (b,H++cq 2 89 (ao A s (.key i))):=by rw[Q];exact agW (rs (.key i)) (w _) (u _)
 have dd:ab M 1 (di (A .ag) (b1 x (A (.key i)) (A (.bq i)) (A (.bm i)) (A (.bo i))) i 3) c'=y (A (.bq i)):=by
  rw[G (b1 x b (A (.bq i)) (A (.bm i)) (A (.bo i)))];exact(eZ X F _ _ _).trans (Gi _ _ _ _ _)
 have ac:dM cx 33 (A .ag) ((ao A s .ag).set i (b1 x b (A (.bq i)) (A (.bm i)) (A (.bo i)))):=by rw[n];exact iv X _
 have ax:dM e 33 (A .ag) ((ao A s .ag).set i (b1 x b (A (.bq i)) (A (.bm i)) (A (.bo i)))):=by rw[p];exact iv ac _
 have m9:ab M 1 (di (A .ag) (b1 x (A (.key i)) (A (.bq i)) (A (.bm i)) (A (.bo i))) i 11) cx=y (A (.bm i)):=by
  rw[G (b1 x b (A (.bq i)) (A (.bm i)) (A (.bo i)))];exact(eZ ac F _ _ _).trans (Gj _ _ _ _ _)
 have aA:ab M 1 (di (A .ag) (b1 x (A (.key i)) (A (.bq i)) (A (.bm i)) (A (.bo i))) i 19) e=y (A (.bo i)):=by
  rw[G (b1 x b (A (.bq i)) (A (.bm i)) (A (.bo i)))];exact(eZ ax F _ _ _).trans (Gk _ _ _ _ _)
 have aC:aL 85 [A (.bq i)] (lock c')=y (m,lock c'++cq 2 120 (ao A s (.bq i))):=by
  have:=Ku (qv (C (.bq i) (by simp))) (w (.bq i)) (u (.bq i))
  rwa [kL,<-R]at this
 have aD:dM cx 2 (A (.bm i)) (ao A s (.bm i)):=by rw[n];exact iv (C (.bm i) (by simp)) _
 have aE:aL 85 [A (.bm i)] (lock cx)=y (up,lock cx++cq 2 120 (ao A s (.bm i))):=by
  have:=Ku (qv aD) (w (.bm i)) (u (.bm i))
  rwa [kL,<-S]at this
 have aJ:dM e 2 (A (.bo i)) (ao A s (.bo i)):=by rw[p,n];exact iv (iv (C (.bo i) (by simp)) _) _
 have aK:aL 85 [A (.bo i)] e=y (o,e++cq 2 120 (ao A s (.bo i))):=by
  have:=Ku aJ (w (.bo i)) (u (.bo i))
  rwa [<-T]at this
 simp only[dQ]at aF
 unfold C1
 simp only[aU,↓aI,aV,cQ P,cr,a_,aG,aF,xg,ih,au,av,gB,dd,aC,sg,<-n,m9,aE,<-p,aA,aK,<-W,s1,am,an,cO aB]
 exact cZ (K _) ar
theorem sh(A:aS->U)(s:aH):(aQ A s)[3]?=y (A .bk):=ca rfl
theorem S4(A:aS->U)(s:aH):(aQ A s)[9]?=y (A .cy):=ca rfl
theorem S5(A:aS->U)(s:aH)(n sz:Nat)(r:List (List U)):cF (aQ A s) 3 [bV n sz r]=y (aQ (bQ A .bk (bV n sz r)) s):=(pF _ _ _ (show 3<13 by decide)).trans (by simp [aQ,bQ])
theorem S6(A:aS->U)(s:aH)(n sz:Nat)(r:List (List U)):cF (aQ A s) 9 [bV n sz r]=y (aQ (bQ A .cy (bV n sz r)) s):=(pF _ _ _ (show 9<13 by decide)).trans (by simp [aQ,bQ])
theorem S7(A:aS->U)(s:aH)(n sz:Nat)(r:List (List U)):cF (aQ A s) 10 [bV n sz r]=y (aQ (bQ A .aw (bV n sz r)) s):=(pF _ _ _ (show 10<13 by decide)).trans (by simp [aQ,bQ])
theorem S8(A:aS->U)(s:aH)(n sz:Nat)(r:List (List U)):cF (aQ A s) 11 [bV n sz r]=y (aQ (bQ A .az (bV n sz r)) s):=(pF _ _ _ (show 11<13 by decide)).trans (by simp [aQ,bQ])
theorem S9(A:aS->U)(s:aH)(n sz:Nat)(r:List (List U)):cF (aQ A s) 12 [bV n sz r]=y (aQ (bQ A .ag (bV n sz r)) s):=(pF _ _ _ (show 12<13 by decide)).trans (by simp [aQ,bQ])
section
variable (A : aS -> U) (aZ w x au : U)
theorem S_:bQ (bQ A .bk aZ) .cy w .aw=A .aw:=by simp [bQ]
theorem S':bQ (bQ A .bk aZ) .cy w .az=A .az:=by simp [bQ]
theorem Ta:bQ (bQ A .bk aZ) .cy w .ag=A .ag:=by simp [bQ]
theorem Tb:bQ (bQ (bQ A .aw aZ) .az w) .ag x .aw=aZ:=by simp [bQ]
theorem Tc:bQ (bQ (bQ A .aw aZ) .az w) .ag x .az=w:=by simp [bQ]
theorem Td:bQ (bQ (bQ A .aw aZ) .az w) .ag x .ag=x:=by simp [bQ]
end
theorem Te{h H:Z}{A:aS->U}{s:aH}{b n sz:Nat}(e:A .aw=.ref b 0 n n sz)(af:h.length<=b):aN [.aj] h H [.agg (aQ A s)]=y (.agg (aQ A s),H):=by
 rw[mC]
 simp only[gk,cC,dy,dw]
 unfold trim
 rw[aW]
 ·rfl
 ·intro c
  have:=c.1 _ (List.mem_singleton.2 rfl)
  simp only[bM]at this
  have:=this (A .aw) (by simp [aQ])
  rw[e]at this
  simp only[bM]at this
  omega
theorem Gl{H:Z}{base sz:Nat}{t:a1}{v:U}{rows:List (List U)}(o:cY H base sz t v rows)(h:rows≠[]):∃b,v=.ref b 0 rows.length rows.length sz/\base<=b/\b<H.length:=by
 cases o with
 |emp=>exact absurd rfl h
 |ref b n _ af e aA=>subst aA;exact⟨b,rfl,af,(List.getElem?_eq_some_iff.1 e).1⟩
theorem Tf(h:Z)(a b:b3)(X:Z):(h++a::b::X).length=h.length+(2+X.length):=by simp only[dV,jS];omega
theorem KA{h:Z}{A:aS->U}{s:aH}(r:gr h A s):(aQ A s).all dt=V:=by
 have h1:∀k,dt (A k)=V:=λk=>kQ (r k)
 simp only[aQ,n',vp,h1,jT,hq];rfl
theorem tk{h:Z}{A:aS->U}{s:aH}(r:gr h A s)(a b c d e f g i j k l m n:U):cF [a,b,c,d,e,f,g,i,j,k,l,m,n] 0 (aQ A s)=y (aQ A s):=ib (cs:=aQ A s) rfl (KA r)
def Tg(h:Z)(s:aH)(q:U×Z):Prop:=∃b,q.1=.agg (aQ b s)/\cD h db q.2 b s/\(∀k,ao b s k=[]->b k=.emp)
theorem Jw(s:aH)(cA:aS->U)(h:Z)(ac:gr h cA s)(q:kA s)(ae:s.aw≠[]):eG (aL 37 [.agg (aQ cA s)] h) (Tg h s):=by
 obtain⟨N,aZ⟩:∃N:Nat,70000<N:=⟨_,fC _⟩
 rw[<-SI s cA]
 obtain⟨A,O⟩:∃A,A=norm s cA:=⟨_,rfl⟩
 have r:gr h A s:=by rw[O];exact ac.norm
 have ak:∀k,cl s k=M->A k=.emp:=λk ad=>by rw[O];exact SJ cA ad
 rw[<-O]
 refine eG.body (F:=C0) (by kernel_rfl) N ?_
 rw[aba];unfold O0
 have hm:∀k,(ao A s k).length<=dp:=λk=>q.gO A k
 have f3:∀X,aL 79 [A .bk] (lock (h++X))=y (bV (h++X).length 1 (ao A s .bk),lock (h++X)++cq 1 3 (ao A s .bk)):=λX=>by
  have:=Kt (qv (iv (r .bk) X)) (r.one _) (hm _)
  rwa [kL]at this
 have f9:∀X,aL 79 [A .cy] (h++X)=y (bV (h++X).length 1 (ao A s .cy),(h++X)++cq 1 3 (ao A s .cy)):=λX=>Kt (iv (r .cy) X) (r.one _) (hm _)
 have f10:∀X,aL 80 [A .aw] (lock (h++X))=y (bV (h++X).length 2 (ao A s .aw),lock (h++X)++cq 2 39 (ao A s .aw)):=λX=>by
  have:=agS (qv (iv (r .aw) X)) (r.one _) (hm _)
  rwa [kL]at this
 have f11:∀X,aL 81 [A .az] (lock (h++X))=y (bV (h++X).length 13 (ao A s .az),lock (h++X)++cq 13 43 (ao A s .az)):=λX=>by
  have:=agT (qv (iv (r .az) X)) (r.one _) (hm _)
  rwa [kL]at this
 have f12:∀X,aL 82 [A .ag] (h++X)=y (bV (h++X).length 33 (ao A s .ag),(h++X)++cq 33 57 (ao A s .ag)):=λX=>agU (iv (r .ag) X) (r.one _) (hm _)
 simp only[aU,↓aI,aV,sh,S4,j_,lE,i_,f3,f9,sg,Kv,S5,S6,S_,S',Ta,f10,f11,f12,S7,S8,S9,Tb,Tc,Td,xj,Tf]
 obtain⟨n1,aG⟩:∃n,n=h.length+(2+([]:Z).length):=⟨_,rfl⟩
 obtain⟨n2,aF⟩:∃n,n=h.length+(2+(cq 1 3 (ao A s .bk)).length):=⟨_,rfl⟩
 obtain⟨n3,R⟩:∃n,n=h.length+(2+(cq 1 3 (ao A s .bk)++cq 1 3 (ao A s .cy)).length):=⟨_,rfl⟩
 obtain⟨n4,S⟩:∃n,n=h.length+(2+(cq 1 3 (ao A s .bk)++(cq 1 3 (ao A s .cy)++cq 2 39 (ao A s .aw))).length):=⟨_,rfl⟩
 obtain⟨n5,T⟩:∃n,n=h.length+(2+(cq 1 3 (ao A s .bk)++(cq 1 3 (ao A s .cy)++(cq 2 39 (ao A s .aw)++cq 13 43 (ao A s .az)))).length):=⟨_,rfl⟩
 rw[<-aG,<-aF,<-R,<-S,<-T]
 obtain⟨bL,t⟩:∃bL,bL=fq A s n1 n2 n3 n4 n5:=⟨_,rfl⟩
 have al:aQ (bQ (bQ (bQ (bQ (bQ A .bk (bV n1 1 (ao A s .bk))) .cy (bV n2 1 (ao A s .cy))) .aw (bV n3 2 (ao A s .aw))) .az (bV n4 13 (ao A s .az))) .ag (bV n5 33 (ao A s .ag))) s=aQ bL s:=by
  rw[t];simp [aQ,bQ,fq]
 rw[al]
 obtain⟨o,u⟩:∃o,o=h++b3.box (aQ bL s) 27 ep.rw::eD::(cq 1 3 (ao A s .bk)++(cq 1 3 (ao A s .cy)++(cq 2 39 (ao A s .aw)++(cq 13 43 (ao A s .az)++cq 33 57 (ao A s .ag))))):=⟨_,rfl⟩
 have L:∀k,ao bL s k=ao A s k:=λk=>by rw[t];exact SF _ _ _ _ _ _ _ k
 have Q:cD h iZ o bL s:=by
  have w:=SG (h:=h) (P:=h++[b3.box (aQ bL s) 27 ep.rw,eD]) A s (by simp) (n1:=n1) (n2:=n2) (n3:=n3) (n4:=n4) (n5:=n5) (by rw[aG];simp) (by rw[aF];simp;omega) (by rw[R];simp;omega) (by rw[S];simp;omega) (by rw[T];simp;omega)
  have eq:h++[b3.box (aQ bL s) 27 ep.rw,eD]++cq 1 3 (ao A s .bk)++cq 1 3 (ao A s .cy)++cq 2 39 (ao A s .aw)++cq 13 43 (ao A s .az)++cq 33 57 (ao A s .ag)=o:=by rw[u];simp
  rw[eq,<-t]at w
  refine⟨by rw[u];simp,λb af=>by rw[u,cI af],?_,λk ad=>?_⟩
  ·have:lC iZ (ao bL s)=lC iZ (ao A s):=by unfold lC;funext k;rw[L]
   rw[this];exact w
  ·rw[L,t]
   cases k<;>first|(cases ad;done)|exact r _
 have am:iF h (kS 0) o bL bL s:=by
  rw[SK]
  refine⟨Q,by rw[u,en];rfl,by rw[u,gg];rfl,λk _=>rfl,λk ad=>?_,λk ad an=>?_⟩
  ·rw[t]
   cases k<;>first|(cases ad;done)|exact ak _ ad
  ·rw[L]at an
   rw[t]
   cases k<;>first|(cases ad;done)|(show bV _ _ _=_;unfold bV;rw[aP (by rw[an];rfl)])
 have ap:∀{n:Nat},h.length<=n->∀k,∀x∈(ao A s k).flatten,bM n x:=λaA k=>r.lt aA k
 have aq:(ao A s .aw).length=s.aw.length:=by simp [ao]
 have a0:(ao A s .az).length=s.az.length:=by simp [ao]
 have a1:(ao A s .ag).length=s.ag.length:=by simp [ao]
 have ar:s.aw.length<N:=by have:=q A .aw;omega
 have bZ:s.az.length<N:=by have:=q A .az;omega
 have au:s.ag.length<N:=by have:=q A .ag;omega
 rw[aq]
 have W:h.length<=o.length:=Q.len
 have av:cY o h.length 2 39 (bL .aw) (ao A s .aw):=by rw[<-L];exact Q.at (k:=.aw) rfl
 have Y:=u
 unfold eD at Y
 rw[<-Y]
 refine nW (λi H=>∃g,iF h (kS i) H g bL s/\Nm o.length H (ao g s .aw)/\o.length<=H.length) s.aw.length ar ⟨bL,am,.inl rfl,cj _⟩ (λi H ai j=>?_) λH j K=>?_
 ·obtain⟨g,c,dA,B⟩:=j
  obtain⟨p,ah⟩:=cR ai
  obtain⟨b4,C,D,E,I,J⟩:=ag0 q ah rfl c av (ap W .aw) B W dA
  exact⟨b4,⟨C,D,E,I⟩,J⟩
 obtain⟨A1,c2,-,-⟩:=j
 have ay:((s.aw.length:Int)<(s.aw.length:Int))=False:=dI (by omega)
 have aB:A1 .az=bL .az:=c2.top .az rfl
 have tl:=fA (c2.own.rs .az)
 have aC:(ao A1 s .az).length=s.az.length:=by simp [ao]
 rw[aC]at tl
 unfold C3
 simp only[aU,↓aI,aV,ay,c4,bn,bh,ez c2.cm (lE A1 s),tl]
 rw[<-SM]at c2
 have aD:cY H h.length 13 43 (bL .az) (ao A1 s .az):=by rw[<-aB];exact c2.own.at (k:=.az) rfl
 have aE:=c2.own.len
 have aJ:∀x∈(ao A1 s .az).flatten,bM H.length x:=c2.own.rs.lt (cj _) .az
 refine nW (λi G=>∃g,iF h (lD s i) G g bL s/\Nm H.length G (ao g s .az)/\H.length<=G.length) s.az.length bZ ⟨A1,c2,.inl rfl,cj _⟩ (λi G ai j=>?_) λG j K=>?_
 ·obtain⟨g,c,dA,B⟩:=j
  obtain⟨p,ah⟩:=cR ai
  obtain⟨b4,C,D,E,I,J⟩:=ag1 q ah rfl c aD aJ B aE dA
  exact⟨b4,⟨C,D,E,I⟩,J⟩
 obtain⟨z,ej,-,-⟩:=j
 have aK:((s.az.length:Int)<(s.az.length:Int))=False:=dI (by omega)
 have t2:z .ag=bL .ag:=ej.top .ag rfl
 have aa:=fA (ej.own.rs .ag)
 have aM:(ao z s .ag).length=s.ag.length:=by simp [ao]
 rw[aM]at aa
 unfold C2
 simp only[aU,↓aI,aV,aK,c4,bn,bh,ez ej.cm (i_ z s),aa]
 rw[<-SO]at ej
 have aN:cY G h.length 33 57 (bL .ag) (ao z s .ag):=by rw[<-t2];exact ej.own.at (k:=.ag) rfl
 have aO:=ej.own.len
 have aR:∀x∈(ao z s .ag).flatten,bM G.length x:=ej.own.rs.lt (cj _) .ag
 refine nW (λi F=>∃g,iF h (ho s i) F g bL s/\Nm G.length F (ao g s .ag)/\G.length<=F.length) s.ag.length au ⟨z,ej,.inl rfl,cj _⟩ (λi F ai j=>?_) λF j K=>?_
 ·obtain⟨g,c,dA,B⟩:=j
  obtain⟨p,ah⟩:=cR ai
  obtain⟨b4,C,D,E,I,J⟩:=ag9 q ah rfl c aN aR B aO dA
  exact⟨b4,⟨C,D,E,I⟩,J⟩
 obtain⟨l,m,-,-⟩:=j
 have aT:((s.ag.length:Int)<(s.ag.length:Int))=False:=dI (by omega)
 have aW:bf 13 (.ptr (h.length+1) 0) (.agg (aQ l s)) F=y (F.set (h.length+1) (.box (aQ l s) 27 .rw)):=by
  unfold bf
  rw[show(cM (cn (U.agg (aQ l s))).length 13&&fX 0 13)=V from rfl]
  simp only[gG,m.cH]
  show((cF _ 0 (aQ l s)).map _)=_
  rw[tk m.own.rs];rfl
 have aX:(F.set (h.length+1) (.box (aQ l s) 27 .rw))[h.length+1]?=y (.box (aQ l s) 27 .rw):=fK (List.getElem?_eq_some_iff.1 m.cH).1
 obtain⟨b,af,aY,-⟩:=Gl (m.own.at (k:=.aw) rfl) (λe=>ae (by
  have:(ao l s .aw).length=s.aw.length:=by simp [ao]
  rw[e]at this
  exact gF this.symm))
 unfold C1
 simp only[aU,↓aI,aV,aT,c4,bn,bh,iw m.cm (show(aQ l s).length=13 from rfl),aW,iw aX (show(aQ l s).length=13 from rfl),Te af aY]
 refine eG.of rfl ⟨l,rfl,?_⟩
 have ab:=m.own.all (λk ad=>by
  cases k<;>first|(cases ad;done)|exact ad) m.out
 refine⟨?_,λk an=>?_⟩
 rotate_left
 ·cases hd:ho s s.ag.length k with
  |true=>exact m.emp k hd an
  |false=>exact m.out k (by cases k<;>first|(cases hd;done)|exact hd)
 exact ab.of (ab.fi.same λb af ax bG=>hP (λe=>by
  obtain⟨_,_,_,bG⟩:=bG
  rw[<-e,m.cH]at bG
  cases bG)) (by simp) (λb af=>hP (by omega)) (λk _=>⟨by rw[xh],by rw[xi]⟩) λk ad=>by cases ad
def fV(o:Int)(n:Nat):List (Int×Int):=(fj n).map λ(m:Nat)=>((m:Int),o)
theorem Th(o:Int)(n:Nat):(fV o (n+1)).map cW=(fV o n).map cW++[[J E (n:Int),J E o]]:=by
 unfold fV
 rw[x3,jt,jt];rfl
theorem u0(o:Int)(n:Nat):((fV o n).map cW).length=n:=by simp [fV]
theorem Gm(o:Int)(n:Nat):(fV o n).length=n:=by simp [fV]
def pH(A:aS->U)(x:c5)(i c n:Nat):List U:=b1 x (if n=0 then A (.key i)else .ref c 0 n n 2) (A (.bq i)) (A (.bm i)) (A (.bo i))
def lb(H:Z)(A:aS->U)(R:List (List U))(x:c5)(i:Nat)(o:Int)(n:Nat):Z:=if n=0 then H else wr H (A .ag) 33 57 (R.set i (pH A x i H.length n))++[.log ((fV o n).map cW) 2 89 .rw]
theorem Gn(z w:U)(m n:Int):cV [z,w] [(0,1,J E m),(1,1,J E n)]=y [J E m,J E n]:=ca rfl
theorem Gp(z w a b:U):cV (h_ [z,w] 1) [(0,2,.agg [a,b])]=y [a,b]:=ca rfl
theorem Gq(m n:Int):[J E m,J E n].all fR=V:=ca rfl
theorem Gr(a b:U):h9 2 1 [a,b]=[[a,b]]:=ca rfl
theorem lF(b o:Nat):fS (.ptr b o)=y (.ptr b o):=ca rfl
theorem Gs{b o:Nat}{h:Z}:jy .emp (.ptr b o) h=V:=ca rfl
theorem Ti{h:Z}{b bj n sz o sz':Nat}{t c:a1}{md g:ep}{vs:List U}{rows:List (List U)}(e:h[b]?=y (.log rows sz' t md))(e':h[bj]?=y (.box vs c g))(aA:n=rows.length):jy (.ref b 0 n n sz) (.ptr bj o) h=V:=by
 subst aA
 unfold jy
 simp only[e,e']
 exact qF _
theorem Gt(x:c5)(k v p q:U)(b n sz:Nat):cF (b1 x k v p q) 1 [.ref b 0 n n sz]=y (b1 x (.ref b 0 n n sz) v p q):=ca rfl
theorem Tj{h:Z}{sz:Nat}{t:a1}{row:List U}(aB:0<sz)(ah:row.all dt=V):eC t sz .emp (.bE sz [row]) h=y (.ref h.length 0 1 1 sz,h++[.log [row] sz t .rw]):=by
 simp only[eC,kK,a_,dy,rV]
 rw[aP ⟨by simp [dp],aB,by simpa using ah⟩,aW (by simp)]
 rfl
theorem si(h h':Z):aN [] h h' []=y (je,trim h [] h'):=by
 rw[mC,jK,dw]
 rfl
theorem ag_{N:Nat}(O:120<N){H av:Z}{A:aS->U}{s:aH}{k i:Nat}{x:c5}{t:a1}(own:cD av db H A s)(af:H[k]?=y (.box (aQ A s) t .rw))(ah:s.ag[i]?=y x)(he:A (.key i)=.emp)(o:Int){j:List U->Z->bl}:
 cv (wM aL N (.ptr k 0) [J E (i:Int)] [J E o] H j) N [J E 0] H=j [] (lb H A (ao A s .ag) x i o 120):=by
 have rs:=own.rs
 have c:cY H av.length 33 57 (A .ag) (ao A s .ag):=own.at (k:=.ag) rfl
 have m:=la (A:=A) ah
 have P:=(List.getElem?_eq_some_iff.1 ah).1
 have bz:i<(ao A s .ag).length:=by simp [ao,P]
 obtain⟨R,p⟩:∃R,R=ao A s .ag:=⟨_,rfl⟩
 rw[<-p]at c m bz|-
 obtain⟨W,X,_,Y⟩:=Gl c (λe=>by rw[e]at bz;cases bz)
 have z:∀(a b:Int),([J E a,J E b]:List U).all dt=V:=λa b=>rfl
 refine hx (λn=>[J E (n:Int)]) (lb H A R x i o) 120 O rfl rfl (λn aA K=>?_) λK=>?_
 ·have C:((n:Int)<120)=True:=kk (by omega)
  have aB:n<9223372036854775807:=by omega
  have aa:k<H.length:=(List.getElem?_eq_some_iff.1 af).1
  cases n with
  |zero=>
   have aG:ab M 1 (.ptr k 12) H=y (A .ag):=ez af (i_ A s)
   have aF:=eM (ft c) .i64 m
   have q:ab M 1 (di (A .ag) (b1 x (A (.key i)) (A (.bq i)) (A (.bm i)) (A (.bo i))) i 1) H=y .emp:=by
    rw[<-he];exact(eZ (ft c) m _ _ _).trans (j' _ _ _ _ _)
   have D:cY (H++[.log [[J E ((0:Nat):Int),J E o]] 2 89 .rw]) av.length 33 57 (A .ag) R:=jL c λb _ af=>cI af
   have st:=ij D m (n:=1) (x:=.ref H.length 0 1 1 2) (f:=1) rfl (by decide) (Gt _ _ _ _ _ _ _ _)
   rw[pG c]at st
   have ad:=nc (h1:=H) (roots:=[J E ((0+1:Nat):Int)]) (jk D (rows':=R.set i (b1 x (.ref H.length 0 1 1 2) (A (.bq i)) (A (.bm i)) (A (.bo i)))) (by simp)) c (by rw[p];exact rs.lt (cj _) .ag) (.inr ⟨H.length,0,1,1,2,List.mem_flatten.2 ⟨_,List.mem_iff_getElem?.2 ⟨i,fK bz⟩,List.mem_iff_getElem?.2 ⟨1,j' _ _ _ _ _⟩⟩,cj _⟩)
   rw[pG c]at ad
   unfold wM
   simp only[lb,a_,aU,↓aI,aV,C,cr,lF,aG,aF,ih,q,Gn,Gp,Gq,iW,Gr,Gs,jT,Tj (sz:=2) (by decide) (z _ _),st,cO aB]
   refine cZ (K _) (ad.trans ?_)
   rw[aW (by omega)];rfl
  |succ n=>
   have bu:∀(au:Nat),(au+1=0)=False:=λau=>dI (by omega)
   obtain⟨G,g⟩:∃G,G=wr H (A .ag) 33 57 (R.set i (pH A x i H.length (n+1))):=⟨_,rfl⟩
   have Q:lb H A R x i o (n+1)=G++[.log ((fV o (n+1)).map cW) 2 89 .rw]:=by unfold lb;rw[aW (by omega),g]
   have F:G.length=H.length:=by rw[g,eo]
   have u:cY G av.length 33 57 (A .ag) (R.set i (pH A x i H.length (n+1))):=by rw[g];exact jk c (by simp)
   have S:pH A x i H.length (n+1)=b1 x (.ref H.length 0 (n+1) (n+1) 2) (A (.bq i)) (A (.bm i)) (A (.bo i)):=by unfold pH;rw[aW (by omega)]
   rw[S]at u
   have L:∀l,(G++l)[k]?=y (.box (aQ A s) t .rw):=λl=>by
    rw[cI (by omega),g];exact jM c af
   have bG:(R.set i (b1 x (.ref H.length 0 (n+1) (n+1) 2) (A (.bq i)) (A (.bm i)) (A (.bo i))))[i]?=y (b1 x (.ref H.length 0 (n+1) (n+1) 2) (A (.bq i)) (A (.bm i)) (A (.bo i))):=fK bz
   have w:∀l,cY (G++l) av.length 33 57 (A .ag) (R.set i (b1 x (.ref H.length 0 (n+1) (n+1) 2) (A (.bq i)) (A (.bm i)) (A (.bo i)))):=λl=>jL u λb _ af=>cI af
   have aG:∀l,ab M 1 (.ptr k 12) (G++l)=y (A .ag):=λl=>ez (L l) (i_ A s)
   have aF:=eM (ft (w [])) .i64 bG
   have q:∀l,ab M 1 (di (A .ag) (b1 x (.ref H.length 0 (n+1) (n+1) 2) (A (.bq i)) (A (.bm i)) (A (.bo i))) i 1) (G++l)=y (.ref H.length 0 (n+1) (n+1) 2):=λl=>(eZ (ft (w l)) bG _ _ _).trans (j' _ _ _ _ _)
   have st:=ij (w [.log ((fV o (n+1)).map cW++[[J E ((n+1:Nat):Int),J E o]]) 2 89 .rw]) bG (n:=1) (x:=.ref H.length 0 (n+1+1) (n+1+1) 2) (f:=1) rfl (by decide) (Gt _ _ _ _ _ _ _ _)
   rw[pG u,lj,g,kR,<-g]at st
   have hH:jy (.ref H.length 0 (n+1) (n+1) 2) (.ptr k 12) (G++[.log ((fV o (n+1)).map cW) 2 89 .rw])=V:=
    Ti (by rw[<-F,en];rfl) (L _) (u0 o (n+1)).symm
   have ap:eC 89 2 (.ref H.length 0 (n+1) (n+1) 2) (.bE 2 [[J E ((n+1:Nat):Int),J E o]]) (G++[.log ((fV o (n+1)).map cW) 2 89 .rw])=y (.ref H.length 0 (n+1+1) (n+1+1) 2,G++[.log ((fV o (n+1)).map cW++[[J E ((n+1:Nat):Int),J E o]]) 2 89 .rw]):=by
    have:=wC (h:=G) (k:=0) (l:=[.log ((fV o (n+1)).map cW) 2 89 .rw]) (t:=89) (sz:=2) (rows:=(fV o (n+1)).map cW) (row:=[J E ((n+1:Nat):Int),J E o]) rfl (by decide) (z _ _) (by rw[u0];unfold dp;omega)
    rw[u0,vc,F]at this
    exact this
   have ad:trim H [J E ((n+1+1:Nat):Int)] (wr H (A .ag) 33 57 (R.set i (b1 x (.ref H.length 0 (n+1+1) (n+1+1) 2) (A (.bq i)) (A (.bm i)) (A (.bo i))))++[.log ((fV o (n+1)).map cW++[[J E ((n+1:Nat):Int),J E o]]) 2 89 .rw])=wr H (A .ag) 33 57 (R.set i (b1 x (.ref H.length 0 (n+1+1) (n+1+1) 2) (A (.bq i)) (A (.bm i)) (A (.bo i))))++[.log ((fV o (n+1)).map cW++[[J E ((n+1:Nat):Int),J E o]]) 2 89 .rw]:=by
    have T:=jk c (rows':=R.set i (b1 x (.ref H.length 0 (n+1+1) (n+1+1) 2) (A (.bq i)) (A (.bm i)) (A (.bo i)))) (by simp)
    exact nc (jL (h':=_++_) T λb _ af=>cI af) c (by rw[p];exact rs.lt (cj _) .ag) (.inr ⟨H.length,0,n+1+1,n+1+1,2,List.mem_flatten.2 ⟨_,List.mem_iff_getElem?.2 ⟨i,fK bz⟩,List.mem_iff_getElem?.2 ⟨1,j' _ _ _ _ _⟩⟩,cj _⟩)
   rw[Q]
   unfold wM
   simp only[aU,↓aI,aV,C,cr,a_,lF,aG,aF,ih,q,Gn,Gp,Gq,iW,Gr,hH,jT,ap,st,cO aB]
   refine cZ (K _) (ad.trans ?_)
   unfold lb
   rw[aW (by omega),Th o (n+1)]
   unfold pH
   rw[aW (by omega)]
 ·have aE:(((120:Nat):Int)<120)=False:=dI (by decide)
  unfold wM
  simp only[aU,↓aI,aV,aE,c4,bn,bh]
theorem ag'{N:Nat}(O:120<N){H av:Z}{A:aS->U}{s:aH}{k i:Nat}{x:c5}{t:a1}(own:cD av db H A s)(af:H[k]?=y (.box (aQ A s) t .rw))(ah:s.ag[i]?=y x)(he:A (.key i)=.emp)(o:Int){j:List U->Z->bl}:
 cv (wP aL N (.ptr k 0) [J E (i:Int)] [J E o] H j) N [J E 0] H=j [] (lb H A (ao A s .ag) x i o 120):=by
 have rs:=own.rs
 have c:cY H av.length 33 57 (A .ag) (ao A s .ag):=own.at (k:=.ag) rfl
 have m:=la (A:=A) ah
 have P:=(List.getElem?_eq_some_iff.1 ah).1
 have bz:i<(ao A s .ag).length:=by simp [ao,P]
 obtain⟨R,p⟩:∃R,R=ao A s .ag:=⟨_,rfl⟩
 rw[<-p]at c m bz|-
 obtain⟨W,X,_,Y⟩:=Gl c (λe=>by rw[e]at bz;cases bz)
 have z:∀(a b:Int),([J E a,J E b]:List U).all dt=V:=λa b=>rfl
 refine hx (λn=>[J E (n:Int)]) (lb H A R x i o) 120 O rfl rfl (λn aA K=>?_) λK=>?_
 ·have C:((n:Int)<120)=True:=kk (by omega)
  have aB:n<9223372036854775807:=by omega
  have aa:k<H.length:=(List.getElem?_eq_some_iff.1 af).1
  cases n with
  |zero=>
   have aG:ab M 1 (.ptr k 12) H=y (A .ag):=ez af (i_ A s)
   have aF:=eM (ft c) .i64 m
   have q:ab M 1 (di (A .ag) (b1 x (A (.key i)) (A (.bq i)) (A (.bm i)) (A (.bo i))) i 1) H=y .emp:=by
    rw[<-he];exact(eZ (ft c) m _ _ _).trans (j' _ _ _ _ _)
   have D:cY (H++[.log [[J E ((0:Nat):Int),J E o]] 2 89 .rw]) av.length 33 57 (A .ag) R:=jL c λb _ af=>cI af
   have st:=ij D m (n:=1) (x:=.ref H.length 0 1 1 2) (f:=1) rfl (by decide) (Gt _ _ _ _ _ _ _ _)
   rw[pG c]at st
   have ad:=nc (h1:=H) (roots:=[J E ((0+1:Nat):Int)]) (jk D (rows':=R.set i (b1 x (.ref H.length 0 1 1 2) (A (.bq i)) (A (.bm i)) (A (.bo i)))) (by simp)) c (by rw[p];exact rs.lt (cj _) .ag) (.inr ⟨H.length,0,1,1,2,List.mem_flatten.2 ⟨_,List.mem_iff_getElem?.2 ⟨i,fK bz⟩,List.mem_iff_getElem?.2 ⟨1,j' _ _ _ _ _⟩⟩,cj _⟩)
   rw[pG c]at ad
   unfold wP
   simp only[lb,a_,aU,↓aI,aV,C,cr,lF,aG,aF,ih,q,Gn,Gp,Gq,iW,Gr,Gs,jT,Tj (sz:=2) (by decide) (z _ _),st,cO aB]
   refine cZ (K _) (ad.trans ?_)
   rw[aW (by omega)];rfl
  |succ n=>
   have bu:∀(au:Nat),(au+1=0)=False:=λau=>dI (by omega)
   obtain⟨G,g⟩:∃G,G=wr H (A .ag) 33 57 (R.set i (pH A x i H.length (n+1))):=⟨_,rfl⟩
   have Q:lb H A R x i o (n+1)=G++[.log ((fV o (n+1)).map cW) 2 89 .rw]:=by unfold lb;rw[aW (by omega),g]
   have F:G.length=H.length:=by rw[g,eo]
   have u:cY G av.length 33 57 (A .ag) (R.set i (pH A x i H.length (n+1))):=by rw[g];exact jk c (by simp)
   have S:pH A x i H.length (n+1)=b1 x (.ref H.length 0 (n+1) (n+1) 2) (A (.bq i)) (A (.bm i)) (A (.bo i)):=by unfold pH;rw[aW (by omega)]
   rw[S]at u
   have L:∀l,(G++l)[k]?=y (.box (aQ A s) t .rw):=λl=>by
    rw[cI (by omega),g];exact jM c af
   have bG:(R.set i (b1 x (.ref H.length 0 (n+1) (n+1) 2) (A (.bq i)) (A (.bm i)) (A (.bo i))))[i]?=y (b1 x (.ref H.length 0 (n+1) (n+1) 2) (A (.bq i)) (A (.bm i)) (A (.bo i))):=fK bz
   have w:∀l,cY (G++l) av.length 33 57 (A .ag) (R.set i (b1 x (.ref H.length 0 (n+1) (n+1) 2) (A (.bq i)) (A (.bm i)) (A (.bo i)))):=λl=>jL u λb _ af=>cI af
   have aG:∀l,ab M 1 (.ptr k 12) (G++l)=y (A .ag):=λl=>ez (L l) (i_ A s)
   have aF:=eM (ft (w [])) .i64 bG
   have q:∀l,ab M 1 (di (A .ag) (b1 x (.ref H.length 0 (n+1) (n+1) 2) (A (.bq i)) (A (.bm i)) (A (.bo i))) i 1) (G++l)=y (.ref H.length 0 (n+1) (n+1) 2):=λl=>(eZ (ft (w l)) bG _ _ _).trans (j' _ _ _ _ _)
   have st:=ij (w [.log ((fV o (n+1)).map cW++[[J E ((n+1:Nat):Int),J E o]]) 2 89 .rw]) bG (n:=1) (x:=.ref H.length 0 (n+1+1) (n+1+1) 2) (f:=1) rfl (by decide) (Gt _ _ _ _ _ _ _ _)
   rw[pG u,lj,g,kR,<-g]at st
   have hH:jy (.ref H.length 0 (n+1) (n+1) 2) (.ptr k 12) (G++[.log ((fV o (n+1)).map cW) 2 89 .rw])=V:=
    Ti (by rw[<-F,en];rfl) (L _) (u0 o (n+1)).symm
   have ap:eC 89 2 (.ref H.length 0 (n+1) (n+1) 2) (.bE 2 [[J E ((n+1:Nat):Int),J E o]]) (G++[.log ((fV o (n+1)).map cW) 2 89 .rw])=y (.ref H.length 0 (n+1+1) (n+1+1) 2,G++[.log ((fV o (n+1)).map cW++[[J E ((n+1:Nat):Int),J E o]]) 2 89 .rw]):=by
    have:=wC (h:=G) (k:=0) (l:=[.log ((fV o (n+1)).map cW) 2 89 .rw]) (t:=89) (sz:=2) (rows:=(fV o (n+1)).map cW) (row:=[J E ((n+1:Nat):Int),J E o]) rfl (by decide) (z _ _) (by rw[u0];unfold dp;omega)
    rw[u0,vc,F]at this
    exact this
   have ad:trim H [J E ((n+1+1:Nat):Int)] (wr H (A .ag) 33 57 (R.set i (b1 x (.ref H.length 0 (n+1+1) (n+1+1) 2) (A (.bq i)) (A (.bm i)) (A (.bo i))))++[.log ((fV o (n+1)).map cW++[[J E ((n+1:Nat):Int),J E o]]) 2 89 .rw])=wr H (A .ag) 33 57 (R.set i (b1 x (.ref H.length 0 (n+1+1) (n+1+1) 2) (A (.bq i)) (A (.bm i)) (A (.bo i))))++[.log ((fV o (n+1)).map cW++[[J E ((n+1:Nat):Int),J E o]]) 2 89 .rw]:=by
    have T:=jk c (rows':=R.set i (b1 x (.ref H.length 0 (n+1+1) (n+1+1) 2) (A (.bq i)) (A (.bm i)) (A (.bo i)))) (by simp)
    exact nc (jL (h':=_++_) T λb _ af=>cI af) c (by rw[p];exact rs.lt (cj _) .ag) (.inr ⟨H.length,0,n+1+1,n+1+1,2,List.mem_flatten.2 ⟨_,List.mem_iff_getElem?.2 ⟨i,fK bz⟩,List.mem_iff_getElem?.2 ⟨1,j' _ _ _ _ _⟩⟩,cj _⟩)
   rw[Q]
   unfold wP
   simp only[aU,↓aI,aV,C,cr,a_,lF,aG,aF,ih,q,Gn,Gp,Gq,iW,Gr,hH,jT,ap,st,cO aB]
   refine cZ (K _) (ad.trans ?_)
   unfold lb
   rw[aW (by omega),Th o (n+1)]
   unfold pH
   rw[aW (by omega)]
 ·have aE:(((120:Nat):Int)<120)=False:=dI (by decide)
  unfold wP
  simp only[aU,↓aI,aV,aE,c4,bn,bh]
def hB(s:aH)(i:Nat):Int:=if((i:Int)+1>(s.az.length:Int))then 0 else(i:Int)+1
def jD(s:aH)(i:Nat)(x:c5):c5:=if x.keys.length>0 then x else { x with keys:=fV (hB s i) 120 }
def fG(s:aH)(n:Nat):aH:={ s with ag:=s.ag.mapIdx λj x=>if j<n then jD s j x else x }
def fe(s:aH):aH:={ s with ag:=s.ag.mapIdx λj x=>jD s j x }
theorem aha(s:aH)(j:Nat)(x:c5)(a b c d:U):b1 (jD s j x) a b c d=b1 x a b c d:=by unfold jD;split<;>rfl
theorem Tk(s:aH)(j:Nat)(x:c5):(jD s j x).bq=x.bq:=by unfold jD;split<;>rfl
theorem Tl(s:aH)(j:Nat)(x:c5):(jD s j x).bm=x.bm:=by unfold jD;split<;>rfl
theorem Tm(s:aH)(j:Nat)(x:c5):(jD s j x).bo=x.bo:=by unfold jD;split<;>rfl
theorem Tn(s:aH):fG s 0=s:=by
 unfold fG
 have:(s.ag.mapIdx λj x=>if j<0 then jD s j x else x)=s.ag:=by
  apply fx
  intro j
  rw[fQ]
  cases s.ag[j]?<;>simp
 rw[this]
theorem To(s:aH):fG s s.ag.length=fe s:=by
 unfold fG fe
 congr 1
 apply fx
 intro j
 rw[fQ,fQ]
 cases e:s.ag[j]? with
 |none=>rfl
 |some x=>rw[dw,dw,aP (List.getElem?_eq_some_iff.1 e).1]
theorem xk{s:aH}{n j:Nat}{x:c5}(h:s.ag[j]?=y x):(fG s n).ag[j]?=y (if j<n then jD s j x else x):=by
 unfold fG
 rw[fQ,h];rfl
theorem KB{s:aH}{n j:Nat}(h:s.ag[j]?=none):(fG s n).ag[j]?=none:=by
 unfold fG
 rw[fQ,h];rfl
theorem KC(A:aS->U)(s:aH)(n:Nat):ao A (fG s n) .ag=s.ag.mapIdx λi x=>b1 x (A (.key i)) (A (.bq i)) (A (.bm i)) (A (.bo i)):=by
 show((s.ag.mapIdx _).mapIdx _)=_
 rw[Hx]
 congr 1
 funext i x
 show b1 (if i<n then jD s i x else x) _ _ _ _=_
 split
 ·exact aha _ _ _ _ _ _ _
 ·rfl
theorem xl(A:aS->U)(s:aH)(n j:Nat):ao A (fG s n) (.bq j)=ao A s (.bq j)/\ao A (fG s n) (.bm j)=ao A s (.bm j)/\ao A (fG s n) (.bo j)=ao A s (.bo j):=by
 simp only[ao]
 cases e:s.ag[j]? with
 |none=>rw[KB e];exact⟨rfl,rfl,rfl⟩
 |some x=>
  rw[xk e]
  simp only
  split
  ·rw[Tk,Tl,Tm];exact⟨rfl,rfl,rfl⟩
  ·exact⟨rfl,rfl,rfl⟩
def ff(H b4:Z):Prop:=∀(b:Nat) (vs:List U) (t:a1) (md:ep),H[b]?=y (b3.box vs t md)->b4[b]?=y (b3.box vs t md)
theorem ff.refl(H:Z):ff H H:=λ_ _ _ _ h=>h
theorem ff.trans{H G F:Z}(a:ff H G)(b:ff G F):ff H F:=λk vs t md h=>b k vs t md (a k vs t md h)
theorem ff.wr{H:Z}{base sz:Nat}{t:a1}{v:U}{rows:List (List U)}(o:cY H base sz t v rows)(rows':List (List U)):ff H (Go.aM.X.wr H v sz t rows'):=λb vs c md h=>jM o h
theorem ff.app(H l:Z):ff H (H++l):=λb vs t md h=>by rw[cI (List.getElem?_eq_some_iff.1 h).1];exact h
structure nY(av:Z)(ds H:Z)(cA A:aS->U)(s:aH)(n:Nat):Prop where
 own:cD av db H A (fG s n)
 bx:ff ds H
 top:∀k,iZ k=V->A k=cA k
 rest:∀j,n<=j->A (.key j)=cA (.key j)
 dA:Nm ds.length H (ao A (fG s n) .ag)
 len:ds.length<=H.length
theorem nY.next{av ds H:Z}{cA A:aS->U}{s:aH}{i:Nat}{x:c5}(q:nY av ds H cA A s i)(ah:s.ag[i]?=y x)(ae:x.keys.length>0):nY av ds H cA A s (i+1):=by
 have e:fG s (i+1)=fG s i:=by
  unfold fG
  congr 1
  apply fx
  intro j
  rw[fQ,fQ]
  cases b:s.ag[j]? with
  |none=>rfl
  |some au=>
   rw[dw,dw]
   congr 1
   by_cases aG:j=i
   ·subst aG
    rw[ah]at b;cases b
    rw[aP (by omega),aW (by omega)]
    unfold jD;rw[aP ae]
   ·by_cases aF:j<i
    ·rw[aP (by omega),aP aF]
    ·rw[aW (by omega),aW aF]
 exact⟨e▸q.own,q.bx,q.top,λj c=>q.rest j (by omega),e▸q.dA,q.len⟩
theorem nY.fill{av ds H:Z}{cA A:aS->U}{s:aH}{i:Nat}{x:c5}(q:nY av ds H cA A s i)(ah:s.ag[i]?=y x)(ae:¬x.keys.length>0):
 nY av ds (lb H A (ao A (fG s i) .ag) x i (hB s i) 120) cA (bQ A (.key i) (.ref H.length 0 120 120 2)) s (i+1):=by
 have m:=(List.getElem?_eq_some_iff.1 ah).1
 have g:cY H av.length 33 57 (A .ag) (ao A (fG s i) .ag):=q.own.at (k:=.ag) rfl
 have n:((fV (hB s i) 120).map cW).length=120:=u0 _ _
 have o:bV H.length 2 ((fV (hB s i) 120).map cW)=.ref H.length 0 120 120 2:=by unfold bV;rw[aW (by omega),n]
 have p:cq 2 89 ((fV (hB s i) 120).map cW)=[.log ((fV (hB s i) 120).map cW) 2 89 .rw]:=by unfold cq;rw[aW (by omega)]
 have bC:=q.own.new.add q.own.len (.key i) ((fV (hB s i) 120).map cW)
 simp only[dQ,hn]at bC
 rw[o,p]at bC
 have cU:=bC.wr .ag (rows:=(ao A (fG s i) .ag).set i (b1 x (.ref H.length 0 120 120 2) (A (.bq i)) (A (.bm i)) (A (.bo i)))) (by rw[iz,cE _ _ (by simp)])
 rw[cE _ _ (show aS.ag≠aS.key i by simp)]at cU
 simp only[dQ,hn]at cU
 rw[pG g]at cU
 have t:lb H A (ao A (fG s i) .ag) x i (hB s i) 120=wr H (A .ag) 33 57 ((ao A (fG s i) .ag).set i (b1 x (.ref H.length 0 120 120 2) (A (.bq i)) (A (.bm i)) (A (.bo i))))++[.log ((fV (hB s i) 120).map cW) 2 89 .rw]:=by
  unfold lb pH;rw[aW (by omega),aW (by omega)]
 rw[t]
 have l2:ao (bQ A (.key i) (.ref H.length 0 120 120 2)) (fG s (i+1)) .ag=(ao A (fG s i) .ag).set i (b1 x (.ref H.length 0 120 120 2) (A (.bq i)) (A (.bm i)) (A (.bo i))):=by
  rw[KC,KC]
  exact oO ah (λj b _ h=>by simp [bQ,h]) (by simp [bQ])
 have bz:i<(ao A (fG s i) .ag).length:=by rw[KC];simp [m]
 refine⟨q.own.of cU (by simp [eo]) (λb af=>?_) (λk _=>⟨?_,?_⟩) (λk ad=>by cases ad),?_,λk ad=>?_,λj h=>?_,?_,?_⟩
 ·rw[cI (by rw[eo];have:=q.own.len;omega),qx g af]
 ·rfl
 ·by_cases aG:k=.ag
  ·subst aG
   rw[fu,l2]
  ·rw[cE _ _ aG]
   by_cases aF:k=.key i
   ·subst aF
    rw[fu]
    simp only[ao,xk ah]
    rw[aP (by omega)]
    unfold jD;rw[aW ae]
   ·rw[cE _ _ aF]
    cases k with
    |ag=>exact absurd rfl aG
    |aw=>simp [ao,bQ,fG]
    |az=>simp [ao,bQ,fG]
    |key j=>
     have h:j≠i:=λe=>aF (by rw[e])
     simp only[ao]
     cases c:s.ag[j]? with
     |none=>rw[KB c,KB c]
     |some au=>
      rw[xk c,xk c]
      by_cases l:j<i
      ·rw[aP l,aP (by omega)]
      ·rw[aW l,aW (by omega)]
    |bq j=>rw[(xl _ s _ j).1,(xl _ s _ j).1];rfl
    |bm j=>rw[(xl _ s _ j).2.1,(xl _ s _ j).2.1];rfl
    |bo j=>rw[(xl _ s _ j).2.2,(xl _ s _ j).2.2];rfl
    |_=>rfl
 ·exact(q.bx.trans (ff.wr g _)).trans (ff.app _ _)
 ·rw[cE _ _ (λe=>by rw[e]at ad;cases ad)];exact q.top k ad
 ·rw[cE _ _ (by simp;omega)];exact q.rest j (by omega)
 ·right
  refine⟨H.length,0,120,120,2,?_,q.len⟩
  rw[l2]
  exact List.mem_flatten.2 ⟨_,List.mem_iff_getElem?.2 ⟨i,fK bz⟩,List.mem_iff_getElem?.2 ⟨1,j' _ _ _ _ _⟩⟩
 ·simp only[dV,eo];have:=q.len;omega
theorem ahb{N:Nat}(L:120<N){av ds H:Z}{cA A:aS->U}{s:aH}{k i:Nat}{x:c5}{t:a1}{v3:U}{j:List U->Z->bl}(q:nY av ds H cA A s i)(w:cD av db ds cA s)(af:ds[k]?=y (.box (aQ cA s) t .rw))(ah:s.ag[i]?=y x)(he:x.keys=[]->cA (.key i)=.emp)(z:kA s)(ay:v3=J E s.ag.length):
 ∃b4 O,nY av ds b4 cA O s (i+1)/\∀K,wN aL N (.ptr k 0) ds v3 j K [J E (i:Int)] H=K [J E ((i+1:Nat):Int)] b4:=by
 subst ay
 have e:=(List.getElem?_eq_some_iff.1 ah).1
 have P:=z A .ag
 have bZ:=z A .az
 simp only[ao,km]at P bZ
 have aB:i<9223372036854775807:=by omega
 have cb:IntKind.i64.wrap ((i:Int)+1)=(i:Int)+1:=wrap64 (by unfold dB;omega)
 have Q:aQ A (fG s i)=aQ cA s:=by
  have h1:=q.top .bk rfl
  have h2:=q.top .cy rfl
  have ak:=q.top .aw rfl
  have aJ:=q.top .az rfl
  have aO:=q.top .ag rfl
  unfold aQ
  rw[h1,h2,ak,aJ,aO];rfl
 have g:H[k]?=y (.box (aQ A (fG s i)) t .rw):=by rw[Q];exact q.bx _ _ _ _ af
 have h:(fG s i).ag[i]?=y x:=by rw[xk ah,aW (by omega)]
 have rs:=q.own.rs
 have C:=la (A:=A) h
 have l:cY H av.length 33 57 (A .ag) (ao A (fG s i) .ag):=q.own.at (k:=.ag) rfl
 have t5:A .ag=cA .ag:=q.top .ag rfl
 have os:cY ds av.length 33 57 (A .ag) (ao cA s .ag):=by rw[t5];exact w.at (k:=.ag) rfl
 have D:=w.rs.lt (cj _) .ag
 have aG:ab M 1 (.ptr k 12) H=y (A .ag):=ez g (i_ A _)
 have aF:=eM (ft l) .i64 C
 have m:ab M 1 (di (A .ag) (b1 x (A (.key i)) (A (.bq i)) (A (.bm i)) (A (.bo i))) i 1) H=y (A (.key i)):=(eZ (ft l) C _ _ _).trans (j' _ _ _ _ _)
 have de:ao A (fG s i) (.key i)=x.keys.map cW:=by simp only[ao,h]
 have b:=fA (rs (.key i))
 rw[de,c9]at b
 have F:ab M 1 (.ptr k 11) H=y (A .az):=ez g (lE A _)
 have n:=fA (rs .az)
 have R:(ao A (fG s i) .az).length=s.az.length:=by simp [ao,fG]
 rw[R]at n
 by_cases ae:x.keys.length>0
 ·refine⟨H,A,q.next ah ae,λK=>?_⟩
  have c:((x.keys.length:Int)>0)=True:=kk (by omega)
  have ad:=nc (roots:=[J E ((i+1:Nat):Int)]) l os D q.dA
  unfold wN
  simp only[aU,↓aI,aV,cQ e,cr,a_,lF,aG,aF,ih,m,b,c,cO aB]
  exact cZ (K _) ad
 ·have S:x.keys=[]:=gF (by omega)
  have T:A (.key i)=.emp:=by rw[q.rest i (cj _)];exact he S
  have p:=q.fill ah ae
  refine⟨_,_,p,λK=>?_⟩
  have c:((x.keys.length:Int)>0)=False:=dI (by omega)
  have V:cY (lb H A (ao A (fG s i) .ag) x i (hB s i) 120) av.length 33 57 (A .ag) _:=p.own.at (k:=.ag) rfl
  have ad:=nc (roots:=[J E ((i+1:Nat):Int)]) V os D p.dA
  have G:∀o j,cv (wM aL N (.ptr k 0) [J E (i:Int)] [J E o] H j) N [J E 0] H=j [] (lb H A (ao A (fG s i) .ag) x i o 120):=λo j=>ag_ L q.own g h T o
  by_cases aa:((i:Int)+1>(s.az.length:Int))
  ·have u:hB s i=0:=by unfold hB;rw[aP aa]
   rw[u]at ad|-
   unfold wN
   simp only[aU,↓aI,aV,cQ e,cr,a_,lF,aG,aF,ih,m,b,c,c4,bn,bh,cb,F,n,aa,G,cO aB]
   exact cZ (K _) ad
  ·have u:hB s i=(i:Int)+1:=by unfold hB;rw[aW aa]
   rw[u]at ad|-
   unfold wN
   simp only[aU,↓aI,aV,cQ e,cr,a_,lF,aG,aF,ih,m,b,c,c4,bn,bh,cb,F,n,aa,G,cO aB]
   exact cZ (K _) ad
theorem ahc{N:Nat}(L:120<N){av ds H:Z}{cA A:aS->U}{s:aH}{k i:Nat}{x:c5}{t:a1}{v3:U}{j:List U->Z->bl}(q:nY av ds H cA A s i)(w:cD av db ds cA s)(af:ds[k]?=y (.box (aQ cA s) t .rw))(ah:s.ag[i]?=y x)(he:x.keys=[]->cA (.key i)=.emp)(z:kA s)(ay:v3=J E s.ag.length):
 ∃b4 O,nY av ds b4 cA O s (i+1)/\∀K,wQ aL N (.ptr k 0) ds v3 j K [J E (i:Int)] H=K [J E ((i+1:Nat):Int)] b4:=by
 subst ay
 have e:=(List.getElem?_eq_some_iff.1 ah).1
 have P:=z A .ag
 have bZ:=z A .az
 simp only[ao,km]at P bZ
 have aB:i<9223372036854775807:=by omega
 have cb:IntKind.i64.wrap ((i:Int)+1)=(i:Int)+1:=wrap64 (by unfold dB;omega)
 have Q:aQ A (fG s i)=aQ cA s:=by
  have h1:=q.top .bk rfl
  have h2:=q.top .cy rfl
  have ak:=q.top .aw rfl
  have aJ:=q.top .az rfl
  have aO:=q.top .ag rfl
  unfold aQ
  rw[h1,h2,ak,aJ,aO];rfl
 have g:H[k]?=y (.box (aQ A (fG s i)) t .rw):=by rw[Q];exact q.bx _ _ _ _ af
 have h:(fG s i).ag[i]?=y x:=by rw[xk ah,aW (by omega)]
 have rs:=q.own.rs
 have C:=la (A:=A) h
 have l:cY H av.length 33 57 (A .ag) (ao A (fG s i) .ag):=q.own.at (k:=.ag) rfl
 have t5:A .ag=cA .ag:=q.top .ag rfl
 have os:cY ds av.length 33 57 (A .ag) (ao cA s .ag):=by rw[t5];exact w.at (k:=.ag) rfl
 have D:=w.rs.lt (cj _) .ag
 have aG:ab M 1 (.ptr k 12) H=y (A .ag):=ez g (i_ A _)
 have aF:=eM (ft l) .i64 C
 have m:ab M 1 (di (A .ag) (b1 x (A (.key i)) (A (.bq i)) (A (.bm i)) (A (.bo i))) i 1) H=y (A (.key i)):=(eZ (ft l) C _ _ _).trans (j' _ _ _ _ _)
 have de:ao A (fG s i) (.key i)=x.keys.map cW:=by simp only[ao,h]
 have b:=fA (rs (.key i))
 rw[de,c9]at b
 have F:ab M 1 (.ptr k 11) H=y (A .az):=ez g (lE A _)
 have n:=fA (rs .az)
 have R:(ao A (fG s i) .az).length=s.az.length:=by simp [ao,fG]
 rw[R]at n
 by_cases ae:x.keys.length>0
 ·refine⟨H,A,q.next ah ae,λK=>?_⟩
  have c:((x.keys.length:Int)>0)=True:=kk (by omega)
  have ad:=nc (roots:=[J E ((i+1:Nat):Int)]) l os D q.dA
  unfold wQ
  simp only[aU,↓aI,aV,cQ e,cr,a_,lF,aG,aF,ih,m,b,c,cO aB]
  exact cZ (K _) ad
 ·have S:x.keys=[]:=gF (by omega)
  have T:A (.key i)=.emp:=by rw[q.rest i (cj _)];exact he S
  have p:=q.fill ah ae
  refine⟨_,_,p,λK=>?_⟩
  have c:((x.keys.length:Int)>0)=False:=dI (by omega)
  have V:cY (lb H A (ao A (fG s i) .ag) x i (hB s i) 120) av.length 33 57 (A .ag) _:=p.own.at (k:=.ag) rfl
  have ad:=nc (roots:=[J E ((i+1:Nat):Int)]) V os D p.dA
  have G:∀o j,cv (wP aL N (.ptr k 0) [J E (i:Int)] [J E o] H j) N [J E 0] H=j [] (lb H A (ao A (fG s i) .ag) x i o 120):=λo j=>ag' L q.own g h T o
  by_cases aa:((i:Int)+1>(s.az.length:Int))
  ·have u:hB s i=0:=by unfold hB;rw[aP aa]
   rw[u]at ad|-
   unfold wQ
   simp only[aU,↓aI,aV,cQ e,cr,a_,lF,aG,aF,ih,m,b,c,c4,bn,bh,cb,F,n,aa,G,cO aB]
   exact cZ (K _) ad
  ·have u:hB s i=(i:Int)+1:=by unfold hB;rw[aW aa]
   rw[u]at ad|-
   unfold wQ
   simp only[aU,↓aI,aV,cQ e,cr,a_,lF,aG,aF,ih,m,b,c,c4,bn,bh,cb,F,n,aa,G,cO aB]
   exact cZ (K _) ad
def ahd(av ds:Z)(cA:aS->U)(s:aH)(q:U×Z):Prop:=q.1=je/\∃A,cD av db q.2 A (fe s)/\ff ds q.2/\(∀k,iZ k=V->A k=cA k)/\ds.length<=q.2.length
theorem Jr(s:aH)(cA:aS->U)(av H:Z)(k:Nat)(t:a1)(b:cD av db H cA s)(af:H[k]?=y (.box (aQ cA s) t .rw))(he:∀k,ao cA s k=[]->cA k=.emp)(g:kA s):eG (aL 38 [.ptr k 0] H) (ahd av H cA s):=by
 obtain⟨N,w⟩:∃N:Nat,70000<N:=⟨_,fC _⟩
 refine eG.body (F:=C4) (by kernel_rfl) N ?_
 rw[abb];unfold O1
 have m:=g cA .ag
 have h:(ao cA s .ag).length=s.ag.length:=by simp [ao]
 rw[h]at m
 have le:=fA (b.rs .ag)
 rw[h]at le
 simp only[aU,↓aI,aV,lF,ez af (i_ cA s),le]
 have n:nY av H H cA cA s 0:=⟨by rw[Tn];exact b,ff.refl _,λk _=>rfl,λj _=>rfl,.inl rfl,cj _⟩
 refine nW (λi G=>∃A,nY av H G cA A s i) s.ag.length (by omega) ⟨cA,n⟩ (λi G ai c=>?_) λG c K=>?_
 ·obtain⟨A,q⟩:=c
  obtain⟨x,ah⟩:=cR ai
  obtain⟨b4,o,p,u⟩:=ahb (N:=N) (by omega) q b af ah (λe=>he (.key i) (by simp only[ao,ah,e];rfl)) g rfl
  exact⟨b4,⟨o,p⟩,u⟩
 obtain⟨A,q⟩:=c
 have aE:((s.ag.length:Int)<(s.ag.length:Int))=False:=dI (by omega)
 have t5:A .ag=cA .ag:=q.top .ag rfl
 have os:cY H av.length 33 57 (A .ag) (ao cA s .ag):=by rw[t5];exact b.at (k:=.ag) rfl
 have ad:=nc (roots:=[]) (q.own.at (k:=.ag) rfl) os (b.rs.lt (cj _) .ag) q.dA
 unfold wN
 simp only[aU,↓aI,aV,aE,c4,bn,bh,si,ad]
 have l:=q.own
 rw[To]at l
 exact eG.of rfl ⟨rfl,A,l,q.bx,q.top,q.len⟩
theorem sj{g g' rest:Z}{r:List U}(ax:g'.length=g.length)(an:∀v∈r,bM g.length v)(ad:∀k,k<g.length->g'[k]?=g[k]?\/∃blk,g'[k]?=y blk/\j0 g.length blk):trim g r (g'++rest)=g':=by
 unfold trim
 have aa:(∀v∈r,bM g.length v)/\∀b,b<g.length->(g'++rest)[b]?=g[b]?\/∃blk,(g'++rest)[b]?=y blk/\j0 g.length blk:=⟨an,λb af=>by
  rw[cI (by omega)]
  exact ad b af⟩
 rw[aP aa,<-ax,vm]
def eH(to:List Int)(j:Nat):Nat:=to.idxOf (j:Int)
structure c8(to:List Int)(n:Nat):Prop where
 len:to.length=n
 tm:∀i,i<n->∃t,t<n/\to[i]?=y ((t:Nat):Int)/\eH to t=i
 eH:∀j,j<n->Go.aM.X.eH to j<n
theorem c8.to{to:List Int}{n:Nat}(p:c8 to n){j:Nat}(b:j<n):to[Go.aM.X.eH to j]?=y (j:Int):=by
 have h:=p.eH j b
 rw[<-p.len]at h
 unfold Go.aM.X.eH at h|-
 rw[fJ h,AR h]
theorem c8.inj{to:List Int}{n:Nat}(p:c8 to n){i j:Nat}(ai:i<n)(b:j<n)(h:Go.aM.X.eH to i=Go.aM.X.eH to j):i=j:=by
 have h1:=p.to ai
 have h2:=p.to b
 rw[h]at h1
 rw[h1]at h2
 have:=jU h2
 omega
def fH(to:List Int)(rows:List (List U))(z:List U)(i:Nat):List (List U):=(fj rows.length).map λj=>if eH to j<i then rows.getD (eH to j) z else z
theorem ru(to:List Int)(rows:List (List U))(z:List U)(i:Nat):(fH to rows z i).length=rows.length:=by simp [fH]
theorem xm{to:List Int}{rows:List (List U)}{z:List U}{i j:Nat}(h:j<rows.length):(fH to rows z i)[j]?=y (if eH to j<i then rows.getD (eH to j) z else z):=by simp [fH,h]
theorem KD(to:List Int)(rows:List (List U))(z:List U):fH to rows z 0=dF rows.length z:=by
 refine fx λj=>?_
 by_cases h:j<rows.length
 ·rw[xm h,Hy,aP h,aW (by omega)]
 ·rw[eE (by rw[ru];omega),eE (by simp;omega)]
theorem KE{to:List Int}{rows:List (List U)}{z row:List U}{i t:Nat}(p:c8 to rows.length)(ai:rows[i]?=y row)(aR:t<rows.length)(aB:eH to t=i):fH to rows z (i+1)=(fH to rows z i).set t row:=by
 refine fx λj=>?_
 by_cases h:j<rows.length
 ·rw[xm h,AQ,xm h]
  by_cases e:t=j
  ·subst e
   rw[aP (show eH to t<i+1 by omega),aP rfl,aP (by rw[ru];exact h),aB,iN,ai];rfl
  ·rw[aW e]
   have:eH to j≠i:=λaF=>e (p.inj aR h (by rw[aB,aF]))
   by_cases b:eH to j<i
   ·rw[aP b,aP (by omega)]
   ·rw[aW b,aW (by omega)]
 ·rw[eE (by rw[ru];omega),eE (by rw[iz,ru];omega)]
def eO{α:Type}(d:α)(l:List α)(to:List Int):List α:=(fj l.length).map λj=>l.getD (eH to j) d
theorem KF{to:List Int}{rows:List (List U)}{z:List U}(p:c8 to rows.length):fH to rows z rows.length=eO z rows to:=by
 unfold fH eO
 refine List.map_congr_left λj b=>?_
 rw[tN]at b
 rw[aP (p.eH j b)]
theorem iG{α:Type}(d:α)(l:List α)(to:List Int):(eO d l to).length=l.length:=by simp [eO]
theorem Tp{α:Type}{d:α}{l:List α}{to:List Int}{j:Nat}(h:j<l.length):(eO d l to)[j]?=y (l.getD (eH to j) d):=by simp [eO,h]
theorem ahe{rows:List (List U)}{z:List U}{to:List Int}{i:Nat}{r:List U}(h:r∈fH to rows z i):r∈rows\/r=z:=by
 simp only[fH,ju]at h
 obtain⟨j,_,rfl⟩:=h
 split
 ·rw[iN]
  cases e:rows[eH to j]? with
  |none=>exact .inr rfl
  |some x=>exact .inl (dN e)
 ·exact .inr rfl
def Rows(rows:List (List U))(sz n:Nat):Prop:=∀r∈rows,r.length=sz/\r.all dt=V/\∀x∈r,bM n x
theorem Rows.xn{rows:List (List U)}{sz n:Nat}(h:Rows rows sz n){z:List U}(bu:z.length=sz/\z.all dt=V/\∀x∈z,bM n x){to:List Int}{i:Nat}:Rows (fH to rows z i) sz n:=λr an=>by
 rcases ahe an with h1|rfl
 ·exact h r h1
 ·exact bu
theorem qy{l:List Int}{i:Nat}{x:Int}(k:IntKind)(h:l[i]?=y x):bY 1 (dz l) (.int k i)=y (.fz (bA x) 0):=r1 k h
theorem lG(x:Int):(bA x)[0]?=y (J E x):=ca rfl
theorem Gu{h l:Z}{k n v sz:Nat}:aN [.raw] h (h++l) [.ref h.length k n v sz]=y (.ref h.length k n v sz,h++l):=by
 rw[mC]
 simp only[gk,cC,dy,dw]
 unfold trim
 rw[aW]
 ·rfl
 ·intro b
  have:=b.1 (.ref h.length k n v sz) (by simp)
  simp only[bM]at this
  omega
theorem ahf{N:Nat}{H:Z}{v:U}{rows:List (List U)}{to:List Int}{z:List U}{j3:List U->Z->bl}(bu:z=[J E 0,.a7])(r:dM H 2 v rows)(an:Rows rows 2 (H.length+1))(p:c8 to rows.length)(aA:rows.length<=70000){i:Nat}(ai:i<rows.length)(K:List U->Z->bl):
 DR aL N v (dz to) (.ref H.length 0 rows.length rows.length 2,H++[.log (dF rows.length z) 2 39 .rw]) (J E rows.length) j3 K [J E (i:Int)] (H++[.log (fH to rows z i) 2 39 .rw])=K [J E ((i+1:Nat):Int)] (H++[.log (fH to rows z (i+1)) 2 39 .rw]):=by
 obtain⟨row,e⟩:=cR ai
 obtain⟨t,aR,u,w⟩:=p.tm i ai
 obtain⟨c,ro,Q⟩:=an row (dN e)
 have m:z.length=2/\z.all dt=V/\∀x∈z,bM (H.length+1) x:=by
  subst bu
  refine⟨rfl,rfl,λx ae=>?_⟩
  have:x=.a7\/(∃k n,x=.int k n)\/(∃b,x=.bool b)\/∃s,x=.str s:=by
   simp only[hF,ik,h6]at ae
   rcases ae with rfl|rfl<;>simp
  rcases this with rfl|⟨_,_,rfl⟩|⟨_,rfl⟩|⟨_,rfl⟩<;>simp only[bM]
 have o:∀(G l:Z) (rs:List (List U)),rs.length=rows.length->cY (H++.log rs 2 39 .rw::l) 0 2 39 (.ref H.length 0 rows.length rows.length 2) rs:=λG l rs ax=>.ref _ _ _ (hO _) (by rw[en];rfl) ax.symm
 have aB:i<9223372036854775807:=by omega
 have aG:=eM r .i64 e
 have aF:∀l,ab V 2 (di v row i 0) (H++l)=y (.agg row):=λl=>(eZ (iv r l) e _ _ _).trans (gh c)
 have A:∀(vs:List U) (l:Z),bf 2 (.ptr 0 0) (.agg row) (.box vs 39 .rw::l)=(cF vs 0 row).map λck=>.box ck 39 .rw::l:=λvs l=>jh c (by decide)
 have q:∀vs:List U,vs.length=2->cF vs 0 row=y row:=λvs ay=>ib (by rw[ay,c]) ro
 have C:=qy .i64 u
 have D:e7 V 0 2 row=y (.agg row):=gh c
 have h:(fH to rows z i)[t]?=y (if eH to t<i then rows.getD (eH to t) z else z):=xm aR
 obtain⟨j,F⟩:∃x,x=(if eH to t<i then rows.getD (eH to t) z else z):=⟨_,rfl⟩
 rw[<-F]at h
 have L:j.length=2:=((an.xn m) j (dN h)).1
 have M:=eM (ft (o H [] _ (ru to rows z i))) .i64 h
 have O:=λl=>ij (o H l _ (ru to rows z i)) h (n:=2) (x:=.agg row) (f:=0) c (by decide) (q j L)
 have P:∀l:Z,wr (H++.log (fH to rows z i) 2 39 .rw::l) (.ref H.length 0 rows.length rows.length 2) 2 39 ((fH to rows z i).set t row)=H++.log (fH to rows z (i+1)) 2 39 .rw::l:=λl=>by
  show(H++_).set H.length _=_
  rw[p',KE p e aR w];rfl
 have ad:trim (H++[.log (dF rows.length z) 2 39 .rw]) [J E ((i+1:Nat):Int)] (H++[.log (fH to rows z (i+1)) 2 39 .rw,.box row 39 .rw])=H++[.log (fH to rows z (i+1)) 2 39 .rw]:=by
  have:=sj (g:=H++[.log (dF rows.length z) 2 39 .rw]) (g':=H++[.log (fH to rows z (i+1)) 2 39 .rw]) (rest:=[.box row 39 .rw]) (r:=[J E ((i+1:Nat):Int)]) (by simp) (λv ay=>by rw[hp]at ay;subst ay;simp only[bM]) (λk ad=>by
   by_cases h1:k<H.length
   ·left
    rw[cI h1,cI h1]
   ·right
    have:k=H.length:=by simp at ad;omega
    subst this
    refine⟨.log (fH to rows z (i+1)) 2 39 .rw,by rw[en];rfl,λx ae=>?_⟩
    obtain⟨dO,gQ,ae⟩:=List.mem_flatten.1 ae
    have:=((an.xn m) dO gQ).2.2 x ae
    rw[show(H++[b3.log (dF rows.length z) 2 39 .rw]).length=H.length+1 by simp]
    exact this)
  simpa using this
 subst bu
 unfold DR
 simp only[aU,↓aI,aV,cQ ai,cr,a_,aG,aF,A,q _ (show([J E 0,.a7]:List U).length=2 from rfl),C,lG,D,M,O,P,cO aB]
 exact cZ (K _) ad
theorem ahg{N:Nat}{H:Z}{v:U}{rows:List (List U)}{to:List Int}{z:List U}{j3:List U->Z->bl}(bu:z=[.str ⟨#[]⟩,.a7,J E 0,J E 0,J E 0,J E 0,J E 0,J E 0,J E 0,J E 0,J E 0,J E 0,J E 0])(r:dM H 13 v rows)(an:Rows rows 13 (H.length+1))(p:c8 to rows.length)(aA:rows.length<=70000){i:Nat}(ai:i<rows.length)(K:List U->Z->bl):
 DU aL N v (dz to) (.ref H.length 0 rows.length rows.length 13,H++[.log (dF rows.length z) 13 43 .rw]) (J E rows.length) j3 K [J E (i:Int)] (H++[.log (fH to rows z i) 13 43 .rw])=K [J E ((i+1:Nat):Int)] (H++[.log (fH to rows z (i+1)) 13 43 .rw]):=by
 obtain⟨row,e⟩:=cR ai
 obtain⟨t,aR,u,w⟩:=p.tm i ai
 obtain⟨c,ro,Q⟩:=an row (dN e)
 have m:z.length=13/\z.all dt=V/\∀x∈z,bM (H.length+1) x:=by
  subst bu
  refine⟨rfl,rfl,λx ae=>?_⟩
  have:x=.a7\/(∃k n,x=.int k n)\/(∃b,x=.bool b)\/∃s,x=.str s:=by
   simp only[hF,ik,h6]at ae
   rcases ae with rfl|rfl|rfl|rfl|rfl|rfl|rfl|rfl|rfl|rfl|rfl|rfl|rfl<;>simp
  rcases this with rfl|⟨_,_,rfl⟩|⟨_,rfl⟩|⟨_,rfl⟩<;>simp only[bM]
 have o:∀(G l:Z) (rs:List (List U)),rs.length=rows.length->cY (H++.log rs 13 43 .rw::l) 0 13 43 (.ref H.length 0 rows.length rows.length 13) rs:=λG l rs ax=>.ref _ _ _ (hO _) (by rw[en];rfl) ax.symm
 have aB:i<9223372036854775807:=by omega
 have aG:=eM r .i64 e
 have aF:∀l,ab V 13 (di v row i 0) (H++l)=y (.agg row):=λl=>(eZ (iv r l) e _ _ _).trans (gh c)
 have A:∀(vs:List U) (l:Z),bf 13 (.ptr 0 0) (.agg row) (.box vs 43 .rw::l)=(cF vs 0 row).map λck=>.box ck 43 .rw::l:=λvs l=>jh c (by decide)
 have q:∀vs:List U,vs.length=13->cF vs 0 row=y row:=λvs ay=>ib (by rw[ay,c]) ro
 have C:=qy .i64 u
 have D:e7 V 0 13 row=y (.agg row):=gh c
 have h:(fH to rows z i)[t]?=y (if eH to t<i then rows.getD (eH to t) z else z):=xm aR
 obtain⟨j,F⟩:∃x,x=(if eH to t<i then rows.getD (eH to t) z else z):=⟨_,rfl⟩
 rw[<-F]at h
 have L:j.length=13:=((an.xn m) j (dN h)).1
 have M:=eM (ft (o H [] _ (ru to rows z i))) .i64 h
 have O:=λl=>ij (o H l _ (ru to rows z i)) h (n:=13) (x:=.agg row) (f:=0) c (by decide) (q j L)
 have P:∀l:Z,wr (H++.log (fH to rows z i) 13 43 .rw::l) (.ref H.length 0 rows.length rows.length 13) 13 43 ((fH to rows z i).set t row)=H++.log (fH to rows z (i+1)) 13 43 .rw::l:=λl=>by
  show(H++_).set H.length _=_
  rw[p',KE p e aR w];rfl
 have ad:trim (H++[.log (dF rows.length z) 13 43 .rw]) [J E ((i+1:Nat):Int)] (H++[.log (fH to rows z (i+1)) 13 43 .rw,.box row 43 .rw])=H++[.log (fH to rows z (i+1)) 13 43 .rw]:=by
  have:=sj (g:=H++[.log (dF rows.length z) 13 43 .rw]) (g':=H++[.log (fH to rows z (i+1)) 13 43 .rw]) (rest:=[.box row 43 .rw]) (r:=[J E ((i+1:Nat):Int)]) (by simp) (λv ay=>by rw[hp]at ay;subst ay;simp only[bM]) (λk ad=>by
   by_cases h1:k<H.length
   ·left
    rw[cI h1,cI h1]
   ·right
    have:k=H.length:=by simp at ad;omega
    subst this
    refine⟨.log (fH to rows z (i+1)) 13 43 .rw,by rw[en];rfl,λx ae=>?_⟩
    obtain⟨dO,gQ,ae⟩:=List.mem_flatten.1 ae
    have:=((an.xn m) dO gQ).2.2 x ae
    rw[show(H++[b3.log (dF rows.length z) 13 43 .rw]).length=H.length+1 by simp]
    exact this)
  simpa using this
 subst bu
 unfold DU
 simp only[aU,↓aI,aV,cQ ai,cr,a_,aG,aF,A,q _ (show([.str ⟨#[]⟩,.a7,J E 0,J E 0,J E 0,J E 0,J E 0,J E 0,J E 0,J E 0,J E 0,J E 0,J E 0]:List U).length=13 from rfl),C,lG,D,M,O,P,cO aB]
 exact cZ (K _) ad
theorem ahh{N:Nat}{H:Z}{v:U}{rows:List (List U)}{to:List Int}{z:List U}{j3:List U->Z->bl}(bu:z=iu)(r:dM H 33 v rows)(an:Rows rows 33 (H.length+1))(p:c8 to rows.length)(aA:rows.length<=70000){i:Nat}(ai:i<rows.length)(K:List U->Z->bl):
 DZ aL N v (dz to) (.ref H.length 0 rows.length rows.length 33,H++[.log (dF rows.length z) 33 57 .rw]) (J E rows.length) j3 K [J E (i:Int)] (H++[.log (fH to rows z i) 33 57 .rw])=K [J E ((i+1:Nat):Int)] (H++[.log (fH to rows z (i+1)) 33 57 .rw]):=by
 obtain⟨row,e⟩:=cR ai
 obtain⟨t,aR,u,w⟩:=p.tm i ai
 obtain⟨c,ro,Q⟩:=an row (dN e)
 have m:z.length=33/\z.all dt=V/\∀x∈z,bM (H.length+1) x:=by
  subst bu
  refine⟨rfl,rfl,λx ae=>?_⟩
  unfold iu at ae
  have:x=.a7\/(∃k n,x=.int k n)\/(∃b,x=.bool b)\/∃s,x=.str s:=by
   simp only[hF,ik,h6]at ae
   rcases ae with rfl|rfl|rfl|rfl|rfl|rfl|rfl|rfl|rfl|rfl|rfl|rfl|rfl|rfl|rfl|rfl|rfl|rfl|rfl|rfl|rfl|rfl|rfl|rfl|rfl|rfl|rfl|rfl|rfl|rfl|rfl|rfl|rfl<;>simp
  rcases this with rfl|⟨_,_,rfl⟩|⟨_,rfl⟩|⟨_,rfl⟩<;>simp only[bM]
 have o:∀(G l:Z) (rs:List (List U)),rs.length=rows.length->cY (H++.log rs 33 57 .rw::l) 0 33 57 (.ref H.length 0 rows.length rows.length 33) rs:=λG l rs ax=>.ref _ _ _ (hO _) (by rw[en];rfl) ax.symm
 have aB:i<9223372036854775807:=by omega
 have aG:=eM r .i64 e
 have aF:∀l,ab V 33 (di v row i 0) (H++l)=y (.agg row):=λl=>(eZ (iv r l) e _ _ _).trans (gh c)
 have A:∀(vs:List U) (l:Z),bf 33 (.ptr 0 0) (.agg row) (.box vs 57 .rw::l)=(cF vs 0 row).map λck=>.box ck 57 .rw::l:=λvs l=>jh c (by decide)
 have q:∀vs:List U,vs.length=33->cF vs 0 row=y row:=λvs ay=>ib (by rw[ay,c]) ro
 have C:=qy .i64 u
 have D:e7 V 0 33 row=y (.agg row):=gh c
 have h:(fH to rows z i)[t]?=y (if eH to t<i then rows.getD (eH to t) z else z):=xm aR
 obtain⟨j,F⟩:∃x,x=(if eH to t<i then rows.getD (eH to t) z else z):=⟨_,rfl⟩
 rw[<-F]at h
 have L:j.length=33:=((an.xn m) j (dN h)).1
 have M:=eM (ft (o H [] _ (ru to rows z i))) .i64 h
 have O:=λl=>ij (o H l _ (ru to rows z i)) h (n:=33) (x:=.agg row) (f:=0) c (by decide) (q j L)
 have P:∀l:Z,wr (H++.log (fH to rows z i) 33 57 .rw::l) (.ref H.length 0 rows.length rows.length 33) 33 57 ((fH to rows z i).set t row)=H++.log (fH to rows z (i+1)) 33 57 .rw::l:=λl=>by
  show(H++_).set H.length _=_
  rw[p',KE p e aR w];rfl
 have ad:trim (H++[.log (dF rows.length z) 33 57 .rw]) [J E ((i+1:Nat):Int)] (H++[.log (fH to rows z (i+1)) 33 57 .rw,.box row 57 .rw])=H++[.log (fH to rows z (i+1)) 33 57 .rw]:=by
  have:=sj (g:=H++[.log (dF rows.length z) 33 57 .rw]) (g':=H++[.log (fH to rows z (i+1)) 33 57 .rw]) (rest:=[.box row 57 .rw]) (r:=[J E ((i+1:Nat):Int)]) (by simp) (λv ay=>by rw[hp]at ay;subst ay;simp only[bM]) (λk ad=>by
   by_cases h1:k<H.length
   ·left
    rw[cI h1,cI h1]
   ·right
    have:k=H.length:=by simp at ad;omega
    subst this
    refine⟨.log (fH to rows z (i+1)) 33 57 .rw,by rw[en];rfl,λx ae=>?_⟩
    obtain⟨dO,gQ,ae⟩:=List.mem_flatten.1 ae
    have:=((an.xn m) dO gQ).2.2 x ae
    rw[show(H++[b3.log (dF rows.length z) 33 57 .rw]).length=H.length+1 by simp]
    exact this)
  simpa using this
 subst bu
 unfold DZ
 simp only[aU,↓aI,aV,cQ ai,cr,a_,aG,aF,A,q _ (show(iu:List U).length=33 from rfl),C,lG,D,M,O,P,cO aB]
 exact cZ (K _) ad
theorem Js{H:Z}{v:U}{rows:List (List U)}{to:List Int}(r:dM H 2 v rows)(an:Rows rows 2 (H.length+1))(p:c8 to rows.length)(aA:rows.length<=70000):
 aL 86 [v,dz to] H=y (.ref H.length 0 rows.length rows.length 2,H++[.log (eO [J E 0,.a7] rows to) 2 39 .rw]):=by
 obtain⟨N,c⟩:∃N:Nat,70000<N:=⟨_,fC _⟩
 refine cu (F:=DQ) (by kernel_rfl) N ?_
 rw[adg];unfold PC
 have b:([J E 0,.a7]:List U).length=2:=rfl
 simp only[aU,↓aI,aV,fA r,wG (show rows.length<=dp by unfold dp;omega),b]
 refine hx (λi=>[J E (i:Int)]) (λi=>H++[.log (fH to rows [J E 0,.a7] i) 2 39 .rw]) rows.length (by omega) rfl (by rw[KD]) (λi ai K=>?_) λK=>?_
 ·have h:=ahf (N:=N) (j3:=λe aO=>aN [fs.raw] H aO [U.ref H.length 0 rows.length rows.length 2]) (z:=[J E 0,.a7]) rfl r an p aA ai K
  exact h
 have aE:((rows.length:Int)<(rows.length:Int))=False:=dI (by omega)
 unfold DR
 simp only[aU,↓aI,aV,aE,c4,bn,bh]
 rw[KF p]
 exact Gu
theorem ahi{H:Z}{v:U}{rows:List (List U)}{to:List Int}(r:dM H 13 v rows)(an:Rows rows 13 (H.length+1))(p:c8 to rows.length)(aA:rows.length<=70000):
 aL 88 [v,dz to] H=y (.ref H.length 0 rows.length rows.length 13,H++[.log (eO [.str ⟨#[]⟩,.a7,J E 0,J E 0,J E 0,J E 0,J E 0,J E 0,J E 0,J E 0,J E 0,J E 0,J E 0] rows to) 13 43 .rw]):=by
 obtain⟨N,c⟩:∃N:Nat,70000<N:=⟨_,fC _⟩
 refine cu (F:=DT) (by kernel_rfl) N ?_
 rw[adi];unfold PE
 have b:([.str ⟨#[]⟩,.a7,J E 0,J E 0,J E 0,J E 0,J E 0,J E 0,J E 0,J E 0,J E 0,J E 0,J E 0]:List U).length=13:=rfl
 simp only[aU,↓aI,aV,fA r,wG (show rows.length<=dp by unfold dp;omega),b]
 refine hx (λi=>[J E (i:Int)]) (λi=>H++[.log (fH to rows [.str ⟨#[]⟩,.a7,J E 0,J E 0,J E 0,J E 0,J E 0,J E 0,J E 0,J E 0,J E 0,J E 0,J E 0] i) 13 43 .rw]) rows.length (by omega) rfl (by rw[KD]) (λi ai K=>?_) λK=>?_
 ·have h:=ahg (N:=N) (j3:=λe aO=>aN [fs.raw] H aO [U.ref H.length 0 rows.length rows.length 13]) (z:=[.str ⟨#[]⟩,.a7,J E 0,J E 0,J E 0,J E 0,J E 0,J E 0,J E 0,J E 0,J E 0,J E 0,J E 0]) rfl r an p aA ai K
  exact h
 have aE:((rows.length:Int)<(rows.length:Int))=False:=dI (by omega)
 unfold DU
 simp only[aU,↓aI,aV,aE,c4,bn,bh]
 rw[KF p]
 exact Gu
theorem ahj{H:Z}{v:U}{rows:List (List U)}{to:List Int}(r:dM H 33 v rows)(an:Rows rows 33 (H.length+1))(p:c8 to rows.length)(aA:rows.length<=70000):
 aL 91 [v,dz to] H=y (.ref H.length 0 rows.length rows.length 33,H++[.log (eO iu rows to) 33 57 .rw]):=by
 obtain⟨N,c⟩:∃N:Nat,70000<N:=⟨_,fC _⟩
 refine cu (F:=DY) (by kernel_rfl) N ?_
 rw[adl];unfold PH
 have b:(iu:List U).length=33:=rfl
 simp only[aU,↓aI,aV,fA r,wG (show rows.length<=dp by unfold dp;omega),b]
 refine hx (λi=>[J E (i:Int)]) (λi=>H++[.log (fH to rows iu i) 33 57 .rw]) rows.length (by omega) rfl (by rw[KD]) (λi ai K=>?_) λK=>?_
 ·have h:=ahh (N:=N) (j3:=λe aO=>aN [fs.raw] H aO [U.ref H.length 0 rows.length rows.length 33]) (z:=iu) rfl r an p aA ai K
  exact h
 have aE:((rows.length:Int)<(rows.length:Int))=False:=dI (by omega)
 unfold DZ
 simp only[aU,↓aI,aV,aE,c4,bn,bh]
 rw[KF p]
 exact Gu
theorem Tq(h:Z)(k:IntKind)(n:Int):aN [.aj] h h [.int k n]=y (.int k n,h):=by
 have:=Oi (h:=h) (l:=[]) (v:=.int k n) rfl
 rwa [fD]at this
def gu(n:Int)(to:List Int):Int:=if n=0 then 0 else to.getD (n-1).toNat 0+1
def fv(n:Int)(m:Nat):Prop:=n=0\/1<=n/\n<=m
theorem c8.sO{to:List Int}{m:Nat}(p:c8 to m){n:Int}(aA:1<=n/\n<=m):∃t:Nat,t<m/\to[(n-1).toNat]?=y (t:Int)/\gu n to=(t:Int)+1:=by
 obtain⟨t,aR,b,_⟩:=p.tm (n-1).toNat (by omega)
 refine⟨t,aR,b,?_⟩
 unfold gu
 rw[aW (by omega),iN,b];rfl
theorem Tr{to:List Int}{m:Nat}(p:c8 to m){n:Int}(aA:fv n m):fv (gu n to) m:=by
 rcases aA with rfl|aA
 ·left;rfl
 ·obtain⟨t,aR,_,e⟩:=p.sO aA
  right;rw[e];omega
theorem Ts{n:Int}{to:List Int}{m:Nat}(aA:fv n m)(p:c8 to m)(hm:m<=70000)(h:Z):aL 89 [J E n,dz to] h=y (J E (gu n to),h):=by
 refine cu (F:=DV) (by kernel_rfl) 1 ?_
 rw[adj];unfold PF
 rcases aA with rfl|aA
 ·have e:((0:Int)==0)=V:=rfl
  simp only[aU,↓aI,aV,e,a_,Tq]
  rfl
 ·obtain⟨t,aR,b,e⟩:=p.sO aA
  have c:(n==0)=M:=by rw[jV];omega
  have aG:IntKind.i64.wrap (n-1)=(((n-1).toNat:Nat):Int):=by rw[wrap64 (by unfold dB;omega)];omega
  have aF:IntKind.i64.wrap ((t:Int)+1)=(t:Int)+1:=wrap64 (by unfold dB;omega)
  simp only[aU,↓aI,aV,c,bn,bh,aG,qy .i64 b,lG,aF,e,Tq]
def gv(to:List Int)(p:d_):d_:=(p.1,p.2.map λc=>{ c with inst:=gu c.inst to })
def mG(s:aH)(to:List Int)(i:Nat):aH:={ s with aw:=s.aw.mapIdx λj p=>if j<i then gv to p else p }
def jl(s:aH)(to:List Int):aH:={ s with aw:=s.aw.map (gv to) }
theorem Tt(s:aH)(to:List Int):mG s to 0=s:=by
 unfold mG
 have:(s.aw.mapIdx λj p=>if j<0 then gv to p else p)=s.aw:=by
  apply fx
  intro j
  rw[fQ]
  cases s.aw[j]?<;>simp
 rw[this]
theorem Tu(s:aH)(to:List Int):mG s to s.aw.length=jl s to:=by
 unfold mG jl
 congr 1
 exact qw λj p e=>aP (List.getElem?_eq_some_iff.1 e).1
theorem xo{s:aH}{to:List Int}{n j:Nat}{x:d_}(h:s.aw[j]?=y x):(mG s to n).aw[j]?=y (if j<n then gv to x else x):=by
 unfold mG
 rw[fQ,h];rfl
theorem Tv{s:aH}{to:List Int}{n j:Nat}(h:s.aw[j]?=none):(mG s to n).aw[j]?=none:=by
 unfold mG
 rw[fQ,h];rfl
theorem Tw(A:aS->U)(s:aH)(to:List Int)(n:Nat):ao A (mG s to n) .aw=ao A s .aw:=by
 show((s.aw.mapIdx _).mapIdx _)=_
 rw[Hx]
 show _=s.aw.mapIdx _
 congr 1
 funext i x
 show e9 (if i<n then gv to x else x) _=_
 split<;>rfl
structure tn(av ds H:Z)(A:aS->U)(s:aH)(to:List Int)(i:Nat):Prop where
 own:cD av db H A (mG s to i)
 bx:ff ds H
 len:H.length=ds.length
 tp:∀b,b<ds.length->H[b]?=ds[b]?\/∃blk,H[b]?=y blk/\j0 ds.length blk
theorem ahk(n:Nat)(l:List Cell):∀x∈(l.map Cell.cs).flatten,bM n x:=by
 intro x ae
 obtain⟨r,an,ae⟩:=List.mem_flatten.1 ae
 obtain⟨c,_,rfl⟩:=List.mem_map.1 an
 simp only[Cell.cs,hF,ik,h6]at ae
 rcases ae with rfl|rfl|rfl|rfl|rfl|rfl<;>simp only[bM]
theorem tn.next{av ds H:Z}{A:aS->U}{s:aH}{to:List Int}{i:Nat}{p:d_}(q:tn av ds H A s to i)(ah:s.aw[i]?=y p):tn av ds (wr H (A (.bN i)) 6 41 ((gv to p).2.map Cell.cs)) A s to (i+1):=by
 have de:ao A (mG s to i) (.bN i)=p.2.map Cell.cs:=by
  simp only[ao,xo ah];rw[aW (by omega)]
 have o:cY H av.length 6 41 (A (.bN i)) (p.2.map Cell.cs):=by rw[<-de];exact q.own.at (k:=.bN i) rfl
 have w:=q.own.new.wr (.bN i) (rows:=(gv to p).2.map Cell.cs) (by rw[de];simp [gv])
 refine⟨q.own.of w (by rw[eo];exact cj _) (λb af=>qx o af) (λk _=>⟨rfl,?_⟩) (λk ad=>by cases ad),q.bx.trans (ff.wr o _),by rw[eo];exact q.len,λb af=>?_⟩
 ·by_cases e:k=.bN i
  ·subst e
   rw[fu]
   simp only[ao,xo ah]
   rw[aP (by omega)]
  ·rw[cE _ _ e]
   cases k with
   |aw=>rw[Tw,Tw]
   |bN j=>
    have l:j≠i:=λaF=>e (by rw[aF])
    simp only[ao]
    cases c:s.aw[j]? with
    |none=>rw[Tv c,Tv c]
    |some au=>
     rw[xo c,xo c]
     by_cases g:j<i
     ·rw[aP g,aP (by omega)]
     ·rw[aW g,aW (by omega)]
   |_=>rfl
 ·by_cases e:j8 (A (.bN i))=y b
  ·right
   have h:=jk o (rows':=(gv to p).2.map Cell.cs) (by simp [gv])
   exact⟨_,(lA h e).2.2,ahk _ _⟩
  ·rw[pC e]
   exact q.tp b af
def hC(to:List Int)(l:List Cell)(m:Nat):List (List U):=(l.mapIdx λj c=>if j<m then { c with inst:=gu c.inst to } else c).map Cell.cs
theorem Tx(to:List Int)(l:List Cell)(m:Nat):(hC to l m).length=l.length:=by simp [hC]
theorem Ty(to:List Int)(l:List Cell):hC to l 0=l.map Cell.cs:=by
 unfold hC
 congr 1
 apply fx
 intro j
 rw[fQ]
 cases l[j]?<;>simp
theorem Tz(to:List Int)(p:d_):hC to p.2 p.2.length=(gv to p).2.map Cell.cs:=by
 unfold hC gv
 congr 1
 exact qw λj c e=>aP (List.getElem?_eq_some_iff.1 e).1
theorem u1{to:List Int}{l:List Cell}{m:Nat}{c:Cell}(h:l[m]?=y c):(hC to l m)[m]?=y c.cs:=by
 unfold hC
 rw[iM,fQ,h];simp
theorem KG{to:List Int}{l:List Cell}{m:Nat}{c:Cell}(h:l[m]?=y c):hC to l (m+1)=(hC to l m).set m ({ c with inst:=gu c.inst to }:Cell).cs:=by
 unfold hC
 rw[<-vq]
 congr 1
 exact oO h (λj b _ g=>by
  by_cases e:j<m
  ·rw[aP e,aP (by omega)]
  ·rw[aW e,aW (by omega)]) (by rw[aP (by omega)])
theorem TA(c:Cell)(n:Int):cF c.cs 1 [J E n]=y ({ c with inst:=n }:Cell).cs:=ca rfl
theorem xp(c:Cell):c.cs[1]?=y (J E c.inst):=ca rfl
theorem TB(p:d_)(c a b:U)(aa:dt c=V):cF [a,b] 0 (e9 p c)=y (e9 p c):=ib rfl (SD aa)
theorem TC(p:d_)(c:U)(vs:List U)(t:a1)(l:Z):bf 2 (.ptr 0 0) (.agg (e9 p c)) (.box vs t .rw::l)=(cF vs 0 (e9 p c)).map λck=>.box ck t .rw::l:=jh rfl (by decide)
theorem ahl{N:Nat}{av H:Z}{v:U}{p:d_}{to:List Int}{m:Nat}{j:List U->Z->bl}(o:cY H av.length 6 41 v (p.2.map Cell.cs))(pm:c8 to m)(hm:m<=70000)(aa:∀c∈p.2,fv c.inst m)(ax:p.2.length<=70000){i:Nat}(ai:i<p.2.length)(K:List U->Z->bl):
 zA aL N (dz to) (.ptr H.length 0) (H++[.box (e9 p v) 39 .rw]) (J E p.2.length) j K [J E (i:Int)] (wr H v 6 41 (hC to p.2 i)++[.box (e9 p v) 39 .rw])=K [J E ((i+1:Nat):Int)] (wr H v 6 41 (hC to p.2 (i+1))++[.box (e9 p v) 39 .rw]):=by
 obtain⟨c,e⟩:=cR ai
 have aB:i<9223372036854775807:=by omega
 have k:=jk o (rows':=hC to p.2 i) (by rw[Tx,c9])
 have g:cY (wr H v 6 41 (hC to p.2 i)++[.box (e9 p v) 39 .rw]) av.length 6 41 v (hC to p.2 i):=jL k λb _ af=>cI af
 have l:(wr H v 6 41 (hC to p.2 i)).length=H.length:=eo _ _ _ _ _
 have aG:ab M 1 (.ptr H.length 1) (wr H v 6 41 (hC to p.2 i)++[.box (e9 p v) 39 .rw])=y v:=ez (by rw[<-l,en];rfl) (rr p v)
 have aF:=eM (ft g) .i64 (u1 e)
 have q:ab M 1 (di v c.cs i 1) (wr H v 6 41 (hC to p.2 i)++[.box (e9 p v) 39 .rw])=y (J E c.inst):=(eZ (ft g) (u1 e) _ _ _).trans (xp c)
 have t:=λh=>Ts (aa c (dN e)) pm hm h
 have st:=ij g (u1 e) (n:=1) (x:=J E (gu c.inst to)) (f:=1) rfl (by decide) (TA c _)
 rw[pG k,kR,<-KG e]at st
 unfold zA
 simp only[aU,↓aI,aV,cQ ai,cr,a_,aG,aF,ih,q,t,st,cO aB]
 exact cZ (K _) (hf _ (by simp [eo]))
theorem ahm{N:Nat}(D:70000<N){av ds H:Z}{A:aS->U}{s:aH}{to:List Int}{m i:Nat}{p:d_}{j:List U->Z->bl}(q:tn av ds H A s to i)(pm:c8 to m)(hm:m<=70000)(ah:s.aw[i]?=y p)(aa:∀c∈p.2,fv c.inst m)(b:kA s)(K:List U->Z->bl):
 DX aL N (dz to) ds (A .aw) (J E s.aw.length) j K [J E (i:Int)] H=K [J E ((i+1:Nat):Int)] (wr H (A (.bN i)) 6 41 ((gv to p).2.map Cell.cs)):=by
 have w:=(List.getElem?_eq_some_iff.1 ah).1
 have x:=b A .aw
 have e:=b A (.bN i)
 simp only[ao,km,ah,c9]at x e
 have aB:i<9223372036854775807:=by omega
 have g:(mG s to i).aw[i]?=y p:=by rw[xo ah,aW (by omega)]
 have rs:=q.own.rs
 have l:=pE (A:=A) g
 have de:ao A (mG s to i) (.bN i)=p.2.map Cell.cs:=by simp only[ao,g]
 have o:cY H av.length 6 41 (A (.bN i)) (p.2.map Cell.cs):=by rw[<-de];exact q.own.at (k:=.bN i) rfl
 have aG:=eM (rs .aw) .i64 l
 have aF:ab V 2 (di (A .aw) (e9 p (A (.bN i))) i 0) H=y (.agg (e9 p (A (.bN i)))):=(eZ (rs .aw) l _ _ _).trans (gh rfl)
 have t:=fA (rs (.bN i))
 rw[de,c9]at t
 have u:=q.next ah
 have ad:trim ds [J E ((i+1:Nat):Int)] (wr H (A (.bN i)) 6 41 ((gv to p).2.map Cell.cs)++[.box (e9 p (A (.bN i))) 39 .rw])=wr H (A (.bN i)) 6 41 ((gv to p).2.map Cell.cs):=
  sj u.len (λv ay=>by rw[hp]at ay;subst ay;simp only[bM]) u.tp
 have z:∀jj,cv (zA aL N (dz to) (.ptr H.length 0) (H++[.box (e9 p (A (.bN i))) 39 .rw]) (J E p.2.length) jj) N [J E 0] (H++[.box (e9 p (A (.bN i))) 39 .rw])=jj [] (wr H (A (.bN i)) 6 41 ((gv to p).2.map Cell.cs)++[.box (e9 p (A (.bN i))) 39 .rw]):=λjj=>by
  refine hx (λn=>[J E (n:Int)]) (λn=>wr H (A (.bN i)) 6 41 (hC to p.2 n)++[.box (e9 p (A (.bN i))) 39 .rw]) p.2.length (by omega) rfl (by rw[Ty,qu o]) (λn aA K=>?_) λK=>?_
  ·have h:=ahl (N:=N) (j:=jj) o pm hm aa e aA K
   exact h
  ·have aE:((p.2.length:Int)<(p.2.length:Int))=False:=dI (by omega)
   unfold zA
   simp only[aU,↓aI,aV,aE,c4,bn,bh]
   rw[Tz]
 have C:=kQ (rs (.bN i))
 simp only[dQ]at aG
 unfold DX
 simp only[aU,↓aI,aV,cQ w,cr,a_,aG,aF,TC,TB p _ _ _ C,rr,t,z,cO aB]
 exact cZ (K _) ad
def TD(av ds:Z)(A:aS->U)(s:aH)(q:U×Z):Prop:=q.1=je/\cD av db q.2 A s/\ff ds q.2/\q.2.length=ds.length/\∀b,b<ds.length->q.2[b]?=ds[b]?\/∃blk,q.2[b]?=y blk/\j0 ds.length blk
theorem Ci{s:aH}{A:aS->U}{av H:Z}{k m:Nat}{t:a1}{to:List Int}(own:cD av db H A s)(af:H[k]?=y (.box (aQ A s) t .rw))(pm:c8 to m)(hm:m<=70000)(aa:∀p∈s.aw,∀c∈p.2,fv c.inst m)(e:kA s):eG (aL 90 [.ptr k 0,dz to] H) (TD av H A (jl s to)):=by
 obtain⟨N,n⟩:∃N:Nat,70000<N:=⟨_,fC _⟩
 refine eG.body (F:=DW) (by kernel_rfl) N ?_
 rw[adk];unfold PG
 have o:=e A .aw
 have g:(ao A s .aw).length=s.aw.length:=by simp [ao]
 rw[g]at o
 have le:=fA (own.rs .aw)
 rw[g]at le
 simp only[aU,↓aI,aV,lF,ez af (j_ A s),le]
 have u:tn av H H A s to 0:=⟨by rw[Tt];exact own,ff.refl _,rfl,λb _=>.inl rfl⟩
 refine nW (λi G=>tn av H G A s to i) s.aw.length (by omega) u (λi G ai q=>?_) λG q K=>?_
 ·obtain⟨p,ah⟩:=cR ai
  exact⟨_,q.next ah,λK=>by
   have h:=ahm (N:=N) (j:=λw bt=>aN [] H bt []) n q pm hm ah (aa p (dN ah)) e K
   exact h⟩
 have aE:((s.aw.length:Int)<(s.aw.length:Int))=False:=dI (by omega)
 unfold DX
 simp only[aU,↓aI,aV,aE,c4,bn,bh,si,hf [] q.len]
 have l:=q.own
 rw[Tu]at l
 exact eG.of rfl ⟨rfl,l,q.bx,q.len,q.tp⟩
section
variable {K : Type} {h : Z} {base : Nat} {sz : K -> Nat} {ty : K -> a1} {A : K -> U} {R : K -> List (List U)}
theorem iX.perm(o:iX h base sz ty A R)(f:K->K)(aE:∀k k',f k=f k'->k=k')(h1:∀k,sz (f k)=sz k)(h2:∀k,ty (f k)=ty k):iX h base sz ty (λk=>A (f k)) (λk=>R (f k)):=
 ⟨λk=>by have:=o.fi (f k);rwa [h1,h2]at this,λk k' b aG aF=>aE _ _ (o.inj _ _ b aG aF)⟩
variable [DecidableEq K]
theorem iX.put(o:iX h base sz ty A R)(af:base<=h.length)(k:K)(rows:List (List U)):iX (h++[.log rows (sz k) (ty k) .rw]) base sz ty (bQ A k (.ref h.length 0 rows.length rows.length (sz k))) (bQ R k rows):=by
 constructor
 ·intro k'
  by_cases ad:k'=k
  ·subst ad
   rw[fu,fu]
   exact .ref _ _ _ af (by rw[en];rfl) rfl
  ·rw[cE _ _ ad,cE _ _ ad]
   exact jL (o.fi k') λb _ af=>cI af
 ·intro bw bD b h1 h2
  by_cases aG:bw=k
  ·subst aG
   rw[fu]at h1
   cases h1
   by_cases aF:bD=bw
   ·exact aF.symm
   ·rw[cE _ _ aF]at h2
    have:=(lA (o.fi bD) h2).2.1
    omega
  ·rw[cE _ _ aG]at h1
   by_cases aF:bD=k
   ·subst aF
    rw[fu]at h2
    cases h2
    have:=(lA (o.fi bw) h1).2.1
    omega
   ·rw[cE _ _ aF]at h2
    exact o.inj _ _ _ h1 h2
end
def xq:d_:=(0,[])
def iH(to:List Int)(n j:Nat):Nat:=if j<n then eH to j else j
theorem pI{to:List Int}{n:Nat}(p:c8 to n){i j:Nat}(h:iH to n i=iH to n j):i=j:=by
 unfold iH at h
 by_cases h1:i<n<;>by_cases h2:j<n
 ·rw[aP h1,aP h2]at h;exact p.inj h1 h2 h
 ·rw[aP h1,aW h2]at h;have:=p.eH i h1;omega
 ·rw[aW h1,aP h2]at h;have:=p.eH j h2;omega
 ·rw[aW h1,aW h2]at h;exact h
theorem jm{α:Type}{d:α}{l:List α}{to:List Int}{j:Nat}(h:¬j<l.length):(eO d l to)[j]?=none:=eE (by rw[iG];omega)
theorem jn{α:Type}{d:α}{l:List α}{to:List Int}(p:c8 to l.length){j:Nat}(h:j<l.length):(eO d l to)[j]?=l[eH to j]?:=by
 have:=p.eH j h
 rw[Tp h,iN,fJ this];rfl
def ld(s:aH)(to:List Int):aS->aS
 |.bN j=>.bN (iH to s.aw.length j)
 |k=>k
def nd(s:aH)(to:List Int):aH:={ s with aw:=eO xq s.aw to }
def sk(A:aS->U)(s:aH)(to:List Int)(n:Nat):aS->U:=bQ (λk=>A (ld s to k)) .aw (.ref n 0 s.aw.length s.aw.length 2)
theorem ahn{A:aS->U}{s:aH}{to:List Int}(p:c8 to s.aw.length)(n:Nat):ao (sk A s to n) (nd s to) .aw=eO [J E 0,.a7] (ao A s .aw) to:=by
 have ax:(ao A s .aw).length=s.aw.length:=by simp [ao]
 apply fx
 intro j
 show((eO xq s.aw to).mapIdx _)[j]?=_
 rw[fQ]
 by_cases b:j<s.aw.length
 ·rw[jn p b,jn (by rw[ax];exact p) (by rw[ax];exact b)]
  have aB:=p.eH j b
  obtain⟨x,ae⟩:=cR aB
  rw[ae,pE ae]
  simp [sk,bQ,ld,iH,b]
 ·rw[jm b,jm (by rw[ax];exact b)];rfl
theorem cD.nd{av H:Z}{A:aS->U}{s:aH}{to:List Int}(own:cD av db H A s)(p:c8 to s.aw.length):cD av db (H++[.log (eO [J E 0,.a7] (ao A s .aw) to) 2 39 .rw]) (sk A s to H.length) (Go.aM.X.nd s to):=by
 have ax:(ao A s .aw).length=s.aw.length:=by simp [ao]
 have bC:=own.new.perm (ld s to) (λk k' e=>by
  cases k<;>cases k'<;>simp only[ld]at e<;>first|(cases e;done)|(cases e;rfl)|exact cZ aS.bN (pI p (aS.bN.inj e))) (λk=>by cases k<;>rfl) (λk=>by cases k<;>rfl)
 have cU:=bC.put own.len .aw (eO [J E 0,.a7] (ao A s .aw) to)
 rw[iG,ax]at cU
 refine own.of cU (by simp) (λb af=>cI (by have:=own.len;omega)) (λk _=>⟨rfl,?_⟩) (λk ad=>by cases ad)
 by_cases e:k=.aw
 ·subst e
  rw[fu,ahn p]
 ·rw[cE _ _ e]
  cases k with
  |aw=>exact absurd rfl e
  |bN j=>
   simp only[ld,ao,Go.aM.X.nd,iH]
   by_cases c:j<s.aw.length
   ·rw[aP c,jn p c]
   ·rw[aW c,jm c,eE (by omega)]
  |az=>simp [ld,ao,sk,bQ,Go.aM.X.nd]
  |ag=>simp [ld,ao,sk,bQ,Go.aM.X.nd]
  |_=>rfl
theorem gr.rows{H:Z}{A:aS->U}{s:aH}(r:gr H A s){k:aS}(ad:iZ k=V):Rows (ao A s k) (dQ k) (H.length+1):=by
 intro row an
 have h1:=r.one k
 have h2:=r.lt (n:=H.length+1) (by omega) k
 refine⟨?_,List.all_eq_true.2 λx ae=>List.all_eq_true.1 h1 x (List.mem_flatten.2 ⟨row,an,ae⟩),λx ae=>h2 x (List.mem_flatten.2 ⟨row,an,ae⟩)⟩
 cases k with
 |bk=>simp only[ao,ju]at an;obtain⟨z,_,rfl⟩:=an;rfl
 |cy=>simp only[ao,ju]at an;obtain⟨z,_,rfl⟩:=an;rfl
 |aw=>simp only[ao,tR]at an;obtain⟨i,_,rfl⟩:=an;rfl
 |az=>simp only[ao,tR]at an;obtain⟨i,_,rfl⟩:=an;rfl
 |ag=>simp only[ao,tR]at an;obtain⟨i,_,rfl⟩:=an;rfl
 |_=>cases ad
theorem cD.box{av H:Z}{A:aS->U}{s:aH}(own:cD av db H A s){k:Nat}{vs:List U}{t:a1}{md:ep}(af:H[k]?=y (.box vs t md))(ad:av.length<=k)(b:b3):cD av db (H.set k b) A s:=
 own.of (own.new.same λc _ _ bG=>hP (λe=>by
  obtain⟨_,_,_,bG⟩:=bG
  rw[<-e,af]at bG;cases bG)) (by simp) (λc aa=>hP (by omega)) (λk _=>⟨rfl,rfl⟩) λk ad=>by cases ad
theorem KH{g:Z}{k o:Nat}{vs ck:List U}{t:a1}{v:U}(e:g[k]?=y (.box vs t .rw))(ay:cn v=[v])(ah:cF vs o [v]=y ck):bf 1 (.ptr k o) v g=y (g.set k (.box ck t .rw)):=by
 unfold bf
 rw[ay]
 simp only[e,ah,dw]
 rfl
def nf(k:Nat)(H b4:Z):Prop:=∀(b:Nat) (vs:List U) (t:a1) (md:ep),b≠k->H[b]?=y (b3.box vs t md)->b4[b]?=y (b3.box vs t md)
theorem ff.z{H b4:Z}(h:ff H b4)(k:Nat):nf k H b4:=λb vs t md _ e=>h b vs t md e
theorem nf.trans{k:Nat}{H G F:Z}(a:nf k H G)(b:nf k G F):nf k H F:=λc vs t md aa h=>b c vs t md aa (a c vs t md aa h)
theorem nf.set(H:Z)(k:Nat)(b:b3):nf k H (H.set k b):=λc vs t md aa h=>by rw[hP (oa aa)];exact h
def hN(to:List Int)(o:Int):Int:=if mark o=V then o else to.getD o.toNat 0
def iI(to:List Int)(l:List Int)(m:Nat):List (List U):=(l.mapIdx λj o=>if j<m then hN to o else o).map bA
theorem TE(to:List Int)(l:List Int)(m:Nat):(iI to l m).length=l.length:=by simp [iI]
theorem TF(to:List Int)(l:List Int):iI to l 0=l.map bA:=by
 unfold iI
 congr 1
 apply fx
 intro j
 rw[fQ]
 cases l[j]?<;>simp
theorem TG(to:List Int)(l:List Int):iI to l l.length=(l.map (hN to)).map bA:=by
 unfold iI
 congr 1
 exact qw λj c e=>aP (List.getElem?_eq_some_iff.1 e).1
theorem tq{to:List Int}{l:List Int}{m:Nat}{o:Int}(h:l[m]?=y o):(iI to l m)[m]?=y (bA o):=by
 unfold iI
 rw[iM,fQ,h];simp
theorem Gv{to:List Int}{l:List Int}{m:Nat}{o:Int}(h:l[m]?=y o):iI to l (m+1)=(iI to l m).set m (bA (hN to o)):=by
 unfold iI
 rw[<-vq]
 congr 1
 exact oO h (λj b _ c=>by
  by_cases e:j<m
  ·rw[aP e,aP (by omega)]
  ·rw[aW e,aW (by omega)]) (by rw[aP (by omega)])
theorem Gw{α:Type}{l:List α}{i:Nat}{a:α}(h:l[i]?=y a):l.set i a=l:=wA h
def gw(s:aH)(to:List Int):aH:={ s with aw:=eO xq s.aw to,bk:=s.bk.map (hN to) }
theorem cD.bk{av H:Z}{A:aS->U}{s:aH}{to:List Int}(own:cD av db H A (Go.aM.X.nd s to)):cD av db (wr H (A .bk) 1 3 ((s.bk.map (hN to)).map bA)) A (gw s to):=by
 have o:cY H av.length 1 3 (A .bk) (s.bk.map bA):=own.at (k:=.bk) rfl
 have w:=own.new.wr .bk (rows:=(s.bk.map (hN to)).map bA) (by simp [ao,Go.aM.X.nd])
 refine own.of w (by rw[eo];exact cj _) (λb af=>qx o af) (λk _=>⟨rfl,?_⟩) (λk ad=>by cases ad)
 by_cases e:k=.bk
 ·subst e
  rw[fu];rfl
 ·rw[cE _ _ e]
  cases k<;>first|exact absurd rfl e|rfl
theorem aho(A:aS->U)(s:aH)(b n sz:Nat):cF (aQ A s) 10 [.ref b 0 n n sz]=y [.str s.name,J E s.bO,J E s.ch,A .bk,J E s.rest,J E s.hy,J E s.hz,J E s.hA,.bool s.gq,A .cy,.ref b 0 n n sz,A .az,A .ag]:=ca rfl
theorem xr(a b:Int):cF (bA a) 0 [J E b]=y (bA b):=ca rfl
theorem xu{to:List Int}{n:Nat}(p:c8 to n){o:Int}(h:mark o=M)(c:0<=o/\o<n):∃(i t:Nat),o=(i:Int)/\to[i]?=y (t:Int)/\hN to o=(t:Int)/\t<n:=by
 obtain⟨t,aR,b,_⟩:=p.tm o.toNat (by omega)
 refine⟨o.toNat,t,by omega,b,?_,aR⟩
 unfold hN
 rw[h,aW (by decide),iN,b];rfl
theorem ahp{N:Nat}{av ds G:Z}{v:U}{l to:List Int}{k n:Nat}{t:a1}{vs:List U}{j:List U->Z->bl}(o:cY G av.length 1 3 v (l.map bA))(af:G[k]?=y (.box vs t .rw))(ay:vs[3]?=y v)(p:c8 to n)(g:∀o∈l,mark o=M->0<=o/\o<n)(ax:l.length<=70000)(h:ds=G){i:Nat}(ai:i<l.length)(K:List U->Z->bl):
 C5 aL N (.ptr k 0) (dz to) ds v (J E l.length) j K [J E (i:Int)] (wr G v 1 3 (iI to l i))=K [J E ((i+1:Nat):Int)] (wr G v 1 3 (iI to l (i+1))):=by
 subst h
 obtain⟨x,ae⟩:=cR ai
 have aB:i<9223372036854775807:=by omega
 have c:=jk o (rows':=iI to l i) (by rw[TE,c9])
 have aG:=eM (ft c) .i64 (tq ae)
 have aF:ab M 1 (di v (bA x) i 0) (wr ds v 1 3 (iI to l i))=y (J E x):=(eZ (ft c) (tq ae) _ _ _).trans (lG x)
 have m:ab M 1 (.ptr k 3) (wr ds v 1 3 (iI to l i))=y v:=ez (jM o af) ay
 unfold C5
 by_cases hm:mark x=V
 ·have b:hN to x=x:=by unfold hN;rw[aP hm]
  have:iI to l (i+1)=iI to l i:=by rw[Gv ae,b];exact Gw (tq ae)
  simp only[aU,↓aI,aV,cQ ai,cr,a_,aG,aF,FY,hm,fg,bn,bh,cO aB]
  rw[this]
  exact cZ (K _) (hf _ (by simp [eo]))
 ·have e:mark x=M:=by simpa using hm
  obtain⟨w,q,rfl,u,b,_⟩:=xu p e (g x (dN ae) e)
  have st:=ij c (tq ae) (n:=1) (x:=J E (q:Int)) (f:=0) rfl (by decide) (xr _ _)
  rw[kR,<-b,<-Gv ae,b]at st
  simp only[aU,↓aI,aV,cQ ai,cr,a_,aG,aF,FY,e,gN,lF,m,qy .i64 u,lG,st,cO aB]
  exact cZ (K _) (hf _ (by simp [eo]))
def KI(av H:Z)(k:Nat)(t:a1)(b:aH)(q:U×Z):Prop:=q.1=je/\∃c,cD av db q.2 c b/\q.2[k]?=y (.box (aQ c b) t .rw)/\nf k H q.2/\H.length<=q.2.length
theorem ahq{s:aH}{A:aS->U}{av H:Z}{k:Nat}{t:a1}{to:List Int}(own:cD av db H A s)(af:H[k]?=y (.box (aQ A s) t .rw))(ad:av.length<=k)(pm:c8 to s.aw.length)(w:kA s)(R:∀o∈s.bk,mark o=M->0<=o/\o<s.aw.length):
 eG (aL 39 [.ptr k 0,J E 0,dz to] H) (KI av H k t (gw s to)):=by
 obtain⟨N,ae⟩:∃N:Nat,70000<N:=⟨_,fC _⟩
 refine eG.body (F:=wO) (by kernel_rfl) N ?_
 rw[JD];unfold C7
 have S:=w A .aw
 have ol:=w A .bk
 have x:(ao A s .aw).length=s.aw.length:=by simp [ao]
 have on:s.bk.length<=70000:=by simpa [ao]using ol
 have rs:=own.rs
 have C:=(List.getElem?_eq_some_iff.1 af).1
 have q:=Js (rs .aw) (rs.rows (k:=.aw) rfl) (by rw[x];exact pm) S
 rw[x]at q
 obtain⟨L,u⟩:∃L,L=b3.log (eO [J E 0,.a7] (ao A s .aw) to) 2 39 .rw:=⟨_,rfl⟩
 rw[<-u]at q
 obtain⟨c,n⟩:∃c,c=sk A s to H.length:=⟨_,rfl⟩
 have D:(H++[L])[k]?=y (.box (aQ A s) t .rw):=by rw[cI C];exact af
 have T:[.str s.name,J E s.bO,J E s.ch,A .bk,J E s.rest,J E s.hy,J E s.hz,J E s.hA,.bool s.gq,A .cy,.ref H.length 0 s.aw.length s.aw.length 2,A .az,A .ag]=aQ c (gw s to):=by
  rw[n];simp [aQ,sk,bQ,ld,gw]
 obtain⟨G,g⟩:∃G,G=(H++[L]).set k (.box (aQ c (gw s to)) t .rw):=⟨_,rfl⟩
 have st:=KH D (v:=.ref H.length 0 s.aw.length s.aw.length 2) rfl (aho A s _ _ _)
 rw[T,<-g]at st
 have O:cD av db G c (nd s to):=by
  rw[g,u,n]
  exact(own.nd pm).box (by rw[<-u];exact D) ad _
 have p:G[k]?=y (.box (aQ c (gw s to)) t .rw):=by rw[g];exact fK (by simp;omega)
 have o:cY G av.length 1 3 (c .bk) (s.bk.map bA):=O.at (k:=.bk) rfl
 have le:=fA (ft o)
 rw[c9]at le
 have W:G.length=H.length+1:=by rw[g];simp
 have X:((0:Int)==0)=V:=rfl
 have aG:ab M 1 (.ptr k 10) H=y (A .aw):=ez af (j_ A s)
 have Y:ab M 1 (.ptr k 3) G=y (c .bk):=ez p (sh c _)
 simp only[aU,↓aI,aV,X,a_,lF,aG,q,st,Y,le]
 refine eG.of (r:=(je,wr G (c .bk) 1 3 ((s.bk.map (hN to)).map bA))) ?_ ⟨rfl,c,O.bk,jM o p,?_,?_⟩
 ·refine hx (λi=>[J E (i:Int)]) (λi=>wr G (c .bk) 1 3 (iI to s.bk i)) s.bk.length (by omega) rfl (by rw[TF,qu o]) (λi ai K=>?_) λK=>?_
  ·have h:=ahp (N:=N) (j:=λah aa=>aN [] H aa []) o p (sh c _) pm R on rfl ai K
   exact h
  ·have aE:((s.bk.length:Int)<(s.bk.length:Int))=False:=dI (by omega)
   unfold C5
   simp only[aU,↓aI,aV,aE,c4,bn,bh,si,TG]
   have ac:trim H [] (wr G (c .bk) 1 3 ((s.bk.map (hN to)).map bA))=wr G (c .bk) 1 3 ((s.bk.map (hN to)).map bA):=by
    refine zi C (jM o p) (λe=>?_) (Cd (b:=H.length) (lo:=0) (m:=s.aw.length) (v:=s.aw.length) (sz:=2) (by rw[n];simp [aQ,sk,bQ]) (cj _))
    rw[af]at e
    have aF:aQ A s=aQ c (gw s to):=(b3.box.inj (jU e)).1
    have P:=cZ (λl=>l[10]?) aF
    simp only[j_]at P
    have Q:=se (rs .aw)
    rw[jU P,n]at Q
    simp only[sk,fu,bM]at Q
    omega
   rw[ac]
 ·refine(nf.trans ((ff.app H [L]).z k) ?_).trans ((ff.wr o _).z k)
  rw[g]
  exact nf.set _ _ _
 ·rw[eo,W];omega
def pJ(to:List Int)(c:Int×Int):Int×Int:=(c.1,gu c.2 to)
def hD(to:List Int)(x:c5):c5:={ x with keys:=x.keys.map (pJ to) }
def jN(s:aH)(to:List Int)(i:Nat):aH:={ s with ag:=s.ag.mapIdx λj p=>if j<i then hD to p else p }
def h0(s:aH)(to:List Int):aH:={ s with ag:=s.ag.map (hD to) }
theorem TH(s:aH)(to:List Int):jN s to 0=s:=by
 unfold jN
 have:(s.ag.mapIdx λj p=>if j<0 then hD to p else p)=s.ag:=by
  apply fx
  intro j
  rw[fQ]
  cases s.ag[j]?<;>simp
 rw[this]
theorem TI(s:aH)(to:List Int):jN s to s.ag.length=h0 s to:=by
 unfold jN h0
 congr 1
 exact qw λj p e=>aP (List.getElem?_eq_some_iff.1 e).1
theorem tr{s:aH}{to:List Int}{n j:Nat}{x:c5}(h:s.ag[j]?=y x):(jN s to n).ag[j]?=y (if j<n then hD to x else x):=by
 unfold jN
 rw[fQ,h];rfl
theorem KJ{s:aH}{to:List Int}{n j:Nat}(h:s.ag[j]?=none):(jN s to n).ag[j]?=none:=by
 unfold jN
 rw[fQ,h];rfl
theorem TJ(A:aS->U)(s:aH)(to:List Int)(n:Nat):ao A (jN s to n) .ag=ao A s .ag:=by
 show((s.ag.mapIdx _).mapIdx _)=_
 rw[Hx]
 show _=s.ag.mapIdx _
 congr 1
 funext i x
 show b1 (if i<n then hD to x else x) _ _ _ _=_
 split<;>rfl
theorem xv(A:aS->U)(s:aH)(to:List Int)(n j:Nat):ao A (jN s to n) (.bq j)=ao A s (.bq j)/\ao A (jN s to n) (.bm j)=ao A s (.bm j)/\ao A (jN s to n) (.bo j)=ao A s (.bo j):=by
 simp only[ao]
 cases e:s.ag[j]? with
 |none=>rw[KJ e];exact⟨rfl,rfl,rfl⟩
 |some x=>
  rw[tr e]
  simp only
  split
  ·exact⟨rfl,rfl,rfl⟩
  ·exact⟨rfl,rfl,rfl⟩
structure rv(av ds H:Z)(A:aS->U)(s:aH)(to:List Int)(i:Nat):Prop where
 own:cD av db H A (jN s to i)
 bx:ff ds H
 len:H.length=ds.length
 tp:∀b,b<ds.length->H[b]?=ds[b]?\/∃blk,H[b]?=y blk/\j0 ds.length blk
theorem ahr(n:Nat)(l:List (Int×Int)):∀x∈(l.map cW).flatten,bM n x:=by
 intro x ae
 obtain⟨r,an,ae⟩:=List.mem_flatten.1 ae
 obtain⟨c,_,rfl⟩:=List.mem_map.1 an
 simp only[cW,hF,ik,h6]at ae
 rcases ae with rfl|rfl<;>simp only[bM]
theorem rv.next{av ds H:Z}{A:aS->U}{s:aH}{to:List Int}{i:Nat}{p:c5}(q:rv av ds H A s to i)(ah:s.ag[i]?=y p):rv av ds (wr H (A (.key i)) 2 89 ((hD to p).keys.map cW)) A s to (i+1):=by
 have de:ao A (jN s to i) (.key i)=p.keys.map cW:=by
  simp only[ao,tr ah];rw[aW (by omega)]
 have o:cY H av.length 2 89 (A (.key i)) (p.keys.map cW):=by rw[<-de];exact q.own.at (k:=.key i) rfl
 have w:=q.own.new.wr (.key i) (rows:=(hD to p).keys.map cW) (by rw[de];simp [hD])
 refine⟨q.own.of w (by rw[eo];exact cj _) (λb af=>qx o af) (λk _=>⟨rfl,?_⟩) (λk ad=>by cases ad),q.bx.trans (ff.wr o _),by rw[eo];exact q.len,λb af=>?_⟩
 ·by_cases e:k=.key i
  ·subst e
   rw[fu]
   simp only[ao,tr ah]
   rw[aP (by omega)]
  ·rw[cE _ _ e]
   cases k with
   |ag=>rw[TJ,TJ]
   |key j=>
    have l:j≠i:=λaF=>e (by rw[aF])
    simp only[ao]
    cases c:s.ag[j]? with
    |none=>rw[KJ c,KJ c]
    |some au=>
     rw[tr c,tr c]
     by_cases g:j<i
     ·rw[aP g,aP (by omega)]
     ·rw[aW g,aW (by omega)]
   |bq j=>rw[(xv _ s _ _ j).1,(xv _ s _ _ j).1]
   |bm j=>rw[(xv _ s _ _ j).2.1,(xv _ s _ _ j).2.1]
   |bo j=>rw[(xv _ s _ _ j).2.2,(xv _ s _ _ j).2.2]
   |_=>rfl
 ·by_cases e:j8 (A (.key i))=y b
  ·right
   have h:=jk o (rows':=(hD to p).keys.map cW) (by simp [hD])
   exact⟨_,(lA h e).2.2,ahr _ _⟩
  ·rw[pC e]
   exact q.tp b af
def h3(to:List Int)(l:List (Int×Int))(m:Nat):List (List U):=(l.mapIdx λj c=>if j<m then pJ to c else c).map cW
theorem TK(to:List Int)(l:List (Int×Int))(m:Nat):(h3 to l m).length=l.length:=by simp [h3]
theorem TL(to:List Int)(l:List (Int×Int)):h3 to l 0=l.map cW:=by
 unfold h3
 congr 1
 apply fx
 intro j
 rw[fQ]
 cases l[j]?<;>simp
theorem TM(to:List Int)(p:c5):h3 to p.keys p.keys.length=(hD to p).keys.map cW:=by
 unfold h3 hD
 congr 1
 exact qw λj c e=>aP (List.getElem?_eq_some_iff.1 e).1
theorem u2{to:List Int}{l:List (Int×Int)}{m:Nat}{c:Int×Int}(h:l[m]?=y c):(h3 to l m)[m]?=y (cW c):=by
 unfold h3
 rw[iM,fQ,h];simp
theorem KK{to:List Int}{l:List (Int×Int)}{m:Nat}{c:Int×Int}(h:l[m]?=y c):h3 to l (m+1)=(h3 to l m).set m (cW (pJ to c)):=by
 unfold h3
 rw[<-vq]
 congr 1
 exact oO h (λj b _ g=>by
  by_cases e:j<m
  ·rw[aP e,aP (by omega)]
  ·rw[aW e,aW (by omega)]) (by rw[aP (by omega)])
theorem TN(c:Int×Int)(to:List Int):cF (cW c) 1 [J E (gu c.2 to)]=y (cW (pJ to c)):=ca rfl
theorem z6(c:Int×Int):(cW c)[1]?=y (J E c.2):=ca rfl
theorem KL(p:c5)(k v w q:U){vs:List U}(ay:vs.length=33)(h1:dt k=V)(h2:dt v=V)(ak:dt w=V)(aJ:dt q=V):cF vs 0 (b1 p k v w q)=y (b1 p k v w q):=ib (by rw[ay];rfl) (SE h1 h2 ak aJ)
theorem KM(p:c5)(k v w q:U)(vs:List U)(t:a1)(l:Z):bf 33 (.ptr 0 0) (.agg (b1 p k v w q)) (.box vs t .rw::l)=(cF vs 0 (b1 p k v w q)).map λck=>.box ck t .rw::l:=jh rfl (by decide)
theorem KN:iu.length=33:=rfl
theorem ahs{N:Nat}{av H:Z}{v v2 v3 v4:U}{p:c5}{to:List Int}{m:Nat}{j:List U->Z->bl}(o:cY H av.length 2 89 v (p.keys.map cW))(pm:c8 to m)(hm:m<=70000)(aa:∀c∈p.keys,fv c.2 m)(ax:p.keys.length<=70000){i:Nat}(ai:i<p.keys.length)(K:List U->Z->bl):
 zs aL N (dz to) (.ptr H.length 0) (H++[.box (b1 p v v2 v3 v4) 57 .rw]) (J E p.keys.length) j K [J E (i:Int)] (wr H v 2 89 (h3 to p.keys i)++[.box (b1 p v v2 v3 v4) 57 .rw])=K [J E ((i+1:Nat):Int)] (wr H v 2 89 (h3 to p.keys (i+1))++[.box (b1 p v v2 v3 v4) 57 .rw]):=by
 obtain⟨c,e⟩:=cR ai
 have aB:i<9223372036854775807:=by omega
 have k:=jk o (rows':=h3 to p.keys i) (by rw[TK,c9])
 have g:cY (wr H v 2 89 (h3 to p.keys i)++[.box (b1 p v v2 v3 v4) 57 .rw]) av.length 2 89 v (h3 to p.keys i):=jL k λb _ af=>cI af
 have l:(wr H v 2 89 (h3 to p.keys i)).length=H.length:=eo _ _ _ _ _
 have aG:ab M 1 (.ptr H.length 1) (wr H v 2 89 (h3 to p.keys i)++[.box (b1 p v v2 v3 v4) 57 .rw])=y v:=ez (by rw[<-l,en];rfl) (j' p v v2 v3 v4)
 have aF:=eM (ft g) .i64 (u2 e)
 have q:ab M 1 (di v (cW c) i 1) (wr H v 2 89 (h3 to p.keys i)++[.box (b1 p v v2 v3 v4) 57 .rw])=y (J E c.2):=(eZ (ft g) (u2 e) _ _ _).trans (z6 c)
 have t:=λh=>Ts (aa c (dN e)) pm hm h
 have st:=ij g (u2 e) (n:=1) (x:=J E (gu c.2 to)) (f:=1) rfl (by decide) (TN c to)
 rw[pG k,kR,<-KK e]at st
 unfold zs
 simp only[aU,↓aI,aV,cQ ai,cr,a_,aG,aF,ih,q,t,st,cO aB]
 exact cZ (K _) (hf _ (by simp [eo]))
theorem aht{N:Nat}(D:70000<N){av ds H:Z}{A:aS->U}{s:aH}{to:List Int}{m i:Nat}{p:c5}{j:List U->Z->bl}(q:rv av ds H A s to i)(pm:c8 to m)(hm:m<=70000)(ah:s.ag[i]?=y p)(aa:∀c∈p.keys,fv c.2 m)(b:kA s)(K:List U->Z->bl):
 C6 aL N (dz to) ds (A .ag) (J E s.ag.length) j K [J E (i:Int)] H=K [J E ((i+1:Nat):Int)] (wr H (A (.key i)) 2 89 ((hD to p).keys.map cW)):=by
 have w:=(List.getElem?_eq_some_iff.1 ah).1
 have x:=b A .ag
 have e:=b A (.key i)
 simp only[ao,km,ah,c9]at x e
 have aB:i<9223372036854775807:=by omega
 have g:(jN s to i).ag[i]?=y p:=by rw[tr ah,aW (by omega)]
 have rs:=q.own.rs
 have l:=la (A:=A) g
 have de:ao A (jN s to i) (.key i)=p.keys.map cW:=by simp only[ao,g]
 have o:cY H av.length 2 89 (A (.key i)) (p.keys.map cW):=by rw[<-de];exact q.own.at (k:=.key i) rfl
 obtain⟨row,F⟩:∃row,row=b1 p (A (.key i)) (A (.bq i)) (A (.bm i)) (A (.bo i)):=⟨_,rfl⟩
 have aG:=eM (rs .ag) .i64 l
 have aF:ab V 33 (di (A .ag) (b1 p (A (.key i)) (A (.bq i)) (A (.bm i)) (A (.bo i))) i 0) H=y (.agg (b1 p (A (.key i)) (A (.bq i)) (A (.bm i)) (A (.bo i)))):=(eZ (rs .ag) l _ _ _).trans (gh rfl)
 have t:=fA (rs (.key i))
 rw[de,c9]at t
 have u:=q.next ah
 have ad:trim ds [J E ((i+1:Nat):Int)] (wr H (A (.key i)) 2 89 ((hD to p).keys.map cW)++[.box (b1 p (A (.key i)) (A (.bq i)) (A (.bm i)) (A (.bo i))) 57 .rw])=wr H (A (.key i)) 2 89 ((hD to p).keys.map cW):=
  sj u.len (λv ay=>by rw[hp]at ay;subst ay;simp only[bM]) u.tp
 have z:∀jj,cv (zs aL N (dz to) (.ptr H.length 0) (H++[.box (b1 p (A (.key i)) (A (.bq i)) (A (.bm i)) (A (.bo i))) 57 .rw]) (J E p.keys.length) jj) N [J E 0] (H++[.box (b1 p (A (.key i)) (A (.bq i)) (A (.bm i)) (A (.bo i))) 57 .rw])=jj [] (wr H (A (.key i)) 2 89 ((hD to p).keys.map cW)++[.box (b1 p (A (.key i)) (A (.bq i)) (A (.bm i)) (A (.bo i))) 57 .rw]):=λjj=>by
  refine hx (λn=>[J E (n:Int)]) (λn=>wr H (A (.key i)) 2 89 (h3 to p.keys n)++[.box (b1 p (A (.key i)) (A (.bq i)) (A (.bm i)) (A (.bo i))) 57 .rw]) p.keys.length (by omega) rfl (by rw[TL,qu o]) (λn aA K=>?_) λK=>?_
  ·have h:=ahs (N:=N) (j:=jj) (v2:=A (.bq i)) (v3:=A (.bm i)) (v4:=A (.bo i)) o pm hm aa e aA K
   exact h
  ·have aE:((p.keys.length:Int)<(p.keys.length:Int))=False:=dI (by omega)
   unfold zs
   simp only[aU,↓aI,aV,aE,c4,bn,bh]
   rw[TM]
 have C:=KL p (A (.key i)) (A (.bq i)) (A (.bm i)) (A (.bo i)) KN (kQ (rs (.key i))) (kQ (rs (.bq i))) (kQ (rs (.bm i))) (kQ (rs (.bo i)))
 simp only[dQ]at aG
 unfold C6
 simp only[aU,↓aI,aV,cQ w,cr,a_,aG,aF,KM,C,j',t,z,cO aB]
 exact cZ (K _) ad
def Gx:ey:=⟨⟨#[]⟩,[],0,0,0,0,0,0,0,0,0,0,0⟩
def KO:bP:=⟨M,[],M,0,0,M,0,0⟩
def Gy:c5:=⟨⟨#[]⟩,[],KO,KO,KO,0,0,0,0,0,0,0⟩
def l6(s:aH)(to:List Int):aS->aS
 |.b5 j=>.b5 (iH to s.az.length j)
 |k=>k
def ec(s:aH)(to:List Int):aH:={ s with az:=eO Gx s.az to }
def ts(A:aS->U)(s:aH)(to:List Int)(n:Nat):aS->U:=bQ (λk=>A (l6 s to k)) .az (.ref n 0 s.az.length s.az.length 13)
theorem ahu{A:aS->U}{s:aH}{to:List Int}(p:c8 to s.az.length)(n:Nat):ao (ts A s to n) (ec s to) .az=eO [.str ⟨#[]⟩,.a7,J E 0,J E 0,J E 0,J E 0,J E 0,J E 0,J E 0,J E 0,J E 0,J E 0,J E 0] (ao A s .az) to:=by
 have ax:(ao A s .az).length=s.az.length:=by simp [ao]
 apply fx
 intro j
 show((eO Gx s.az to).mapIdx _)[j]?=_
 rw[fQ]
 by_cases b:j<s.az.length
 ·rw[jn p b,jn (by rw[ax];exact p) (by rw[ax];exact b)]
  have aB:=p.eH j b
  obtain⟨x,ae⟩:=cR aB
  rw[ae,uZ ae]
  simp [ts,bQ,l6,iH,b]
 ·rw[jm b,jm (by rw[ax];exact b)];rfl
theorem cD.ec{av H:Z}{A:aS->U}{s:aH}{to:List Int}(own:cD av db H A s)(p:c8 to s.az.length):cD av db (H++[.log (eO [.str ⟨#[]⟩,.a7,J E 0,J E 0,J E 0,J E 0,J E 0,J E 0,J E 0,J E 0,J E 0,J E 0,J E 0] (ao A s .az) to) 13 43 .rw]) (ts A s to H.length) (Go.aM.X.ec s to):=by
 have ax:(ao A s .az).length=s.az.length:=by simp [ao]
 have bC:=own.new.perm (l6 s to) (λk k' e=>by
  cases k<;>cases k'<;>simp only[l6]at e<;>first|(cases e;done)|(cases e;rfl)|exact cZ aS.b5 (pI p (aS.b5.inj e))) (λk=>by cases k<;>rfl) (λk=>by cases k<;>rfl)
 have cU:=bC.put own.len .az (eO [.str ⟨#[]⟩,.a7,J E 0,J E 0,J E 0,J E 0,J E 0,J E 0,J E 0,J E 0,J E 0,J E 0,J E 0] (ao A s .az) to)
 rw[iG,ax]at cU
 refine own.of cU (by simp) (λb af=>cI (by have:=own.len;omega)) (λk _=>⟨rfl,?_⟩) (λk ad=>by cases ad)
 by_cases e:k=.az
 ·subst e
  rw[fu,ahu p]
 ·rw[cE _ _ e]
  cases k with
  |az=>exact absurd rfl e
  |b5 j=>
   simp only[l6,ao,Go.aM.X.ec,iH]
   by_cases c:j<s.az.length
   ·rw[aP c,jn p c]
   ·rw[aW c,jm c,eE (by omega)]
  |aw=>simp [l6,ao,ts,bQ,Go.aM.X.ec]
  |ag=>simp [l6,ao,ts,bQ,Go.aM.X.ec]
  |_=>rfl
def jO(s:aH)(to:List Int):aS->aS
 |.key j=>.key (iH to s.ag.length j)
 |.bq j=>.bq (iH to s.ag.length j)
 |.bm j=>.bm (iH to s.ag.length j)
 |.bo j=>.bo (iH to s.ag.length j)
 |k=>k
def gL(s:aH)(to:List Int):aH:={ s with ag:=eO Gy s.ag to }
def tt(A:aS->U)(s:aH)(to:List Int)(n:Nat):aS->U:=bQ (λk=>A (jO s to k)) .ag (.ref n 0 s.ag.length s.ag.length 33)
theorem ahv{A:aS->U}{s:aH}{to:List Int}(p:c8 to s.ag.length)(n:Nat):ao (tt A s to n) (gL s to) .ag=eO iu (ao A s .ag) to:=by
 have ax:(ao A s .ag).length=s.ag.length:=by simp [ao]
 apply fx
 intro j
 show((eO Gy s.ag to).mapIdx _)[j]?=_
 rw[fQ]
 by_cases b:j<s.ag.length
 ·rw[jn p b,jn (by rw[ax];exact p) (by rw[ax];exact b)]
  have aB:=p.eH j b
  obtain⟨x,ae⟩:=cR aB
  rw[ae,la ae]
  simp [tt,bQ,jO,iH,b]
 ·rw[jm b,jm (by rw[ax];exact b)];rfl
theorem cD.gL{av H:Z}{A:aS->U}{s:aH}{to:List Int}(own:cD av db H A s)(p:c8 to s.ag.length):cD av db (H++[.log (eO iu (ao A s .ag) to) 33 57 .rw]) (tt A s to H.length) (Go.aM.X.gL s to):=by
 have ax:(ao A s .ag).length=s.ag.length:=by simp [ao]
 have bC:=own.new.perm (jO s to) (λk k' e=>by
  cases k<;>cases k'<;>simp only[jO]at e<;>first|(cases e;done)|(cases e;rfl)|exact cZ aS.key (pI p (aS.key.inj e))|exact cZ aS.bq (pI p (aS.bq.inj e))|exact cZ aS.bm (pI p (aS.bm.inj e))|exact cZ aS.bo (pI p (aS.bo.inj e))) (λk=>by cases k<;>rfl) (λk=>by cases k<;>rfl)
 have cU:=bC.put own.len .ag (eO iu (ao A s .ag) to)
 rw[iG,ax]at cU
 refine own.of cU (by simp) (λb af=>cI (by have:=own.len;omega)) (λk _=>⟨rfl,?_⟩) (λk ad=>by cases ad)
 by_cases e:k=.ag
 ·subst e
  rw[fu,ahv p]
 ·rw[cE _ _ e]
  cases k with
  |ag=>exact absurd rfl e
  |key j=>
   simp only[jO,ao,Go.aM.X.gL,iH]
   by_cases c:j<s.ag.length
   ·rw[aP c,jn p c]
   ·rw[aW c,jm c,eE (by omega)]
  |bq j=>
   simp only[jO,ao,Go.aM.X.gL,iH]
   by_cases c:j<s.ag.length
   ·rw[aP c,jn p c]
   ·rw[aW c,jm c,eE (by omega)]
  |bm j=>
   simp only[jO,ao,Go.aM.X.gL,iH]
   by_cases c:j<s.ag.length
   ·rw[aP c,jn p c]
   ·rw[aW c,jm c,eE (by omega)]
  |bo j=>
   simp only[jO,ao,Go.aM.X.gL,iH]
   by_cases c:j<s.ag.length
   ·rw[aP c,jn p c]
   ·rw[aW c,jm c,eE (by omega)]
  |aw=>simp [jO,ao,tt,bQ,Go.aM.X.gL]
  |az=>simp [jO,ao,tt,bQ,Go.aM.X.gL]
  |_=>rfl
theorem TO(A:aS->U)(s:aH):(aQ A s)[1]?=y (J E s.bO):=ca rfl
theorem ahw{h l:Z}{d:Int}:aN [.aj] h (h++l) [.agg (dm d)]=y (.agg (dm d),h):=by
 refine q8 (ws:=[.agg (dm d)]) (l:=l) (by simp only[iV,jK,kN,dy,dw]) ?_
 intro v ay
 simp only[hp]at ay
 subst ay
 exact j5 (px (λr=>qh (.agg r)=V) rfl rfl rfl rfl rfl rfl rfl _)
theorem TP(A:aS->U)(s:aH)(h:Z):aL 45 [.agg (aQ A s)] h=y (.agg (dm s.bO),h):=by
 refine cu (F:=Db) (by kernel_rfl) 1 ?_
 rw[abh];unfold O8
 have br:=xa s.bO (vs:=e8) rfl
 have b:=xa s.bO (vs:=dm s.bO) (m7 _)
 simp only[aU,↓aI,aV,TO,uA,uU,br,b,Sb]
 exact ahw
theorem Gz(d:Int):wm M 6 1 (.agg (dm d))=y (.bool (eL d 6)):=by
 show e7 M 6 1 (dm d)=_
 rw[qg]
 exact zL d
theorem ahx(A:aS->U)(s:aH)(b n sz:Nat):cF (aQ A s) 11 [.ref b 0 n n sz]=y [.str s.name,J E s.bO,J E s.ch,A .bk,J E s.rest,J E s.hy,J E s.hz,J E s.hA,.bool s.gq,A .cy,A .aw,.ref b 0 n n sz,A .ag]:=ca rfl
theorem ahy(A:aS->U)(s:aH)(b n sz:Nat):cF (aQ A s) 12 [.ref b 0 n n sz]=y [.str s.name,J E s.bO,J E s.ch,A .bk,J E s.rest,J E s.hy,J E s.hz,J E s.hA,.bool s.gq,A .cy,A .aw,A .az,.ref b 0 n n sz]:=ca rfl
structure gX(s:aH):Prop where
 bk:s.bk.length<=70000
 cy:s.cy.length<=70000
 aw:s.aw.length<=70000
 az:s.az.length<=70000
 ag:s.ag.length<=70000
 bN:∀p∈s.aw,p.2.length<=70000
 b5:∀x∈s.az,x.data.length<=70000
 ins:∀x∈s.ag,x.keys.length<=70000/\x.bq.dk.length<=70000/\x.bm.dk.length<=70000/\x.bo.dk.length<=70000
theorem gX.small{s:aH}(h:gX s):kA s:=by
 intro A k
 cases k with
 |bk=>simp only[ao,c9];exact h.bk
 |cy=>simp only[ao,c9];exact h.cy
 |aw=>simp only[ao,km];exact h.aw
 |az=>simp only[ao,km];exact h.az
 |ag=>simp only[ao,km];exact h.ag
 |bN i=>simp only[ao];cases e:s.aw[i]? with
  |none=>simp
  |some p=>simp only[c9];exact h.bN p (dN e)
 |b5 i=>simp only[ao];cases e:s.az[i]? with
  |none=>simp
  |some p=>simp only[c9];exact h.b5 p (dN e)
 |key i=>simp only[ao];cases e:s.ag[i]? with
  |none=>simp
  |some p=>simp only[c9];exact(h.ins p (dN e)).1
 |bq i=>simp only[ao];cases e:s.ag[i]? with
  |none=>simp
  |some p=>simp only[c9];exact(h.ins p (dN e)).2.1
 |bm i=>simp only[ao];cases e:s.ag[i]? with
  |none=>simp
  |some p=>simp only[c9];exact(h.ins p (dN e)).2.2.1
 |bo i=>simp only[ao];cases e:s.ag[i]? with
  |none=>simp
  |some p=>simp only[c9];exact(h.ins p (dN e)).2.2.2
theorem oP{α:Type}{d:α}{l:List α}{to:List Int}(p:c8 to l.length){x:α}(h:x∈eO d l to):x∈l:=by
 obtain⟨j,b⟩:=List.mem_iff_getElem?.1 h
 have ax:=(List.getElem?_eq_some_iff.1 b).1
 rw[iG]at ax
 rw[jn p ax]at b
 exact dN b
theorem gX.ec{s:aH}{to:List Int}(h:gX s)(p:c8 to s.az.length):gX (Go.aM.X.ec s to):=
 ⟨h.bk,h.cy,h.aw,by show(eO _ _ _).length<=_;rw[iG];exact h.az,h.ag,h.bN,λq br=>h.b5 q (oP p br),h.ins⟩
theorem gX.gL{s:aH}{to:List Int}(h:gX s)(p:c8 to s.ag.length):gX (Go.aM.X.gL s to):=
 ⟨h.bk,h.cy,h.aw,h.az,by show(eO _ _ _).length<=_;rw[iG];exact h.ag,h.bN,h.b5,λq br=>h.ins q (oP p br)⟩
theorem gX.ahz{s:aH}{to:List Int}(h:gX s)(p:c8 to s.aw.length):gX (gw s to):=
 ⟨by show(s.bk.map _).length<=_;rw[c9];exact h.bk,h.cy,by show(eO _ _ _).length<=_;rw[iG];exact h.aw,h.az,h.ag,λq br=>h.bN q (oP p br),h.b5,h.ins⟩
theorem gX.jl{s:aH}(to:List Int)(h:gX s):gX (Go.aM.X.jl s to):=
 ⟨h.bk,h.cy,by show(s.aw.map _).length<=_;rw[c9];exact h.aw,h.az,h.ag,λq br=>by
  obtain⟨p,ah,rfl⟩:=List.mem_map.1 br
  simp only[gv,c9];exact h.bN p ah,h.b5,h.ins⟩
theorem gX.h0{s:aH}(to:List Int)(h:gX s):gX (Go.aM.X.h0 s to):=
 ⟨h.bk,h.cy,h.aw,h.az,by show(s.ag.map _).length<=_;rw[c9];exact h.ag,h.bN,h.b5,λq br=>by
  obtain⟨p,ah,rfl⟩:=List.mem_map.1 br
  simp only[hD,c9];exact h.ins p ah⟩
theorem gX.fe{s:aH}(h:gX s):gX (Go.aM.X.fe s):=
 ⟨h.bk,h.cy,h.aw,h.az,by show(s.ag.mapIdx _).length<=_;rw[km];exact h.ag,h.bN,h.b5,λq br=>by
  obtain⟨i,ai,rfl⟩:=List.mem_mapIdx.1 (show q∈s.ag.mapIdx _ from br)
  have:=h.ins _ (pM ai)
  rw[Tk,Tl,Tm]
  refine⟨?_,this.2⟩
  unfold jD
  split
  ·exact this.1
  ·show(fV _ 120).length<=_
   rw[Gm];decide⟩
theorem gr.KP{H:Z}{A:aS->U}{s:aH}(r:gr H A s):∀x∈aQ A s,bM H.length x:=by
 have h1:∀k,bM H.length (A k):=λk=>se (r k)
 intro x ae
 simp only[aQ,hF,ik,h6]at ae
 rcases ae with rfl|rfl|rfl|rfl|rfl|rfl|rfl|rfl|rfl|rfl|rfl|rfl|rfl<;>first|exact h1 _|simp only[bM]
theorem KQ{H F:Z}{k b n sz:Nat}{t c:a1}{vs ck:List U}{roots:List U}(g:k<H.length)(af:H[k]?=y (.box vs t .rw))(h:F[k]?=y (.box ck c .rw))(hm:U.ref b 0 n n sz∈ck)(i:H.length<=b)(j:∀x∈vs,bM H.length x):trim H roots F=F:=by
 refine zi g h (λe=>?_) (Cd hm i)
 rw[af]at e
 have aF:=(b3.box.inj (jU e)).1
 rw[<-aF]at hm
 have:=j _ hm
 simp only[bM]at this
 omega
def hE(s:aH)(to:List Int):aH:=jl (gL s to) to
def eI(s:aH)(to:List Int):aH:=if eL s.bO 6=V then h0 (ec s to) to else jl (h0 (ec s to) to) to
theorem ahA{s:aH}{A:aS->U}{av H:Z}{k:Nat}{t:a1}{to:List Int}(own:cD av db H A s)(af:H[k]?=y (.box (aQ A s) t .rw))(ad:av.length<=k)(pm:c8 to s.ag.length)(g:gX s)(aa:∀p∈s.aw,∀c∈p.2,fv c.inst s.ag.length):
 eG (aL 39 [.ptr k 0,J E 2,dz to] H) (KI av H k t (hE s to)):=by
 refine eG.body (F:=wO) (by kernel_rfl) 1 ?_
 rw[JD];unfold C7
 have m:(ao A s .ag).length=s.ag.length:=by simp [ao]
 have rs:=own.rs
 have o:=(List.getElem?_eq_some_iff.1 af).1
 have h:=ahj (rs .ag) (rs.rows (k:=.ag) rfl) (by rw[m];exact pm) (g.small A .ag)
 rw[m]at h
 obtain⟨L,i⟩:∃L,L=b3.log (eO iu (ao A s .ag) to) 33 57 .rw:=⟨_,rfl⟩
 rw[<-i]at h
 obtain⟨b,j⟩:∃b,b=tt A s to H.length:=⟨_,rfl⟩
 have q:(H++[L])[k]?=y (.box (aQ A s) t .rw):=by rw[cI o];exact af
 have D:[.str s.name,J E s.bO,J E s.ch,A .bk,J E s.rest,J E s.hy,J E s.hz,J E s.hA,.bool s.gq,A .cy,A .aw,A .az,.ref H.length 0 s.ag.length s.ag.length 33]=aQ b (gL s to):=by
  rw[j];simp [aQ,tt,bQ,jO,gL]
 obtain⟨G,e⟩:∃G,G=(H++[L]).set k (.box (aQ b (gL s to)) t .rw):=⟨_,rfl⟩
 have st:=KH q (v:=.ref H.length 0 s.ag.length s.ag.length 33) rfl (ahy A s _ _ _)
 rw[D,<-e]at st
 have K:cD av db G b (gL s to):=by
  rw[e,i,j]
  exact(own.gL pm).box (by rw[<-i];exact q) ad _
 have u:G[k]?=y (.box (aQ b (gL s to)) t .rw):=by rw[e];exact fK (by simp;omega)
 have N:G.length=H.length+1:=by rw[e];simp
 obtain⟨⟨S,F⟩,an,w,x,l,bz,-⟩:=Ci K u pm (g.ag) aa (g.gL pm).small
 simp only at w x l bz
 subst w
 have O:((2:Int)==0)=M:=rfl
 have P:((2:Int)==1)=M:=rfl
 have Q:((2:Int)==2)=V:=rfl
 have aG:ab M 1 (.ptr k 12) H=y (A .ag):=ez af (i_ A s)
 have C:=l _ _ _ _ u
 have R:=KQ (roots:=[]) (n:=s.ag.length) (sz:=33) o af C (by rw[j];simp [aQ,tt,bQ]) (cj _) rs.KP
 simp only[aU,↓aI,aV,O,P,Q,bn,bh,a_,lF,aG,h,st,an,si,R]
 refine eG.of rfl ⟨rfl,b,x,C,?_,by rw[bz,N];omega⟩
 refine(nf.trans ((ff.app H [L]).z k) ?_).trans (l.z k)
 rw[e]
 exact nf.set _ _ _
theorem TQ{s:aH}{A:aS->U}{av H:Z}{k:Nat}{t:a1}{to:List Int}(own:cD av db H A s)(af:H[k]?=y (.box (aQ A s) t .rw))(ad:av.length<=k)(pm:c8 to s.az.length)(g:gX s)(aa:eL s.bO 6=M->∀p∈s.aw,∀c∈p.2,fv c.inst s.az.length)(am:∀x∈s.ag,∀c∈x.keys,fv c.2 s.az.length):
 eG (aL 39 [.ptr k 0,J E 1,dz to] H) (KI av H k t (eI s to)):=by
 obtain⟨N,ap⟩:∃N:Nat,70000<N:=⟨_,fC _⟩
 refine eG.body (F:=wO) (by kernel_rfl) N ?_
 rw[JD];unfold C7
 have P:(ao A s .az).length=s.az.length:=by simp [ao]
 have rs:=own.rs
 have n:=(List.getElem?_eq_some_iff.1 af).1
 have o:=ahi (rs .az) (rs.rows (k:=.az) rfl) (by rw[P];exact pm) (g.small A .az)
 rw[P]at o
 obtain⟨L,u⟩:∃L,L=b3.log (eO [.str ⟨#[]⟩,.a7,J E 0,J E 0,J E 0,J E 0,J E 0,J E 0,J E 0,J E 0,J E 0,J E 0,J E 0] (ao A s .az) to) 13 43 .rw:=⟨_,rfl⟩
 rw[<-u]at o
 obtain⟨e,w⟩:∃e,e=ts A s to H.length:=⟨_,rfl⟩
 have Q:(H++[L])[k]?=y (.box (aQ A s) t .rw):=by rw[cI n];exact af
 have aq:[.str s.name,J E s.bO,J E s.ch,A .bk,J E s.rest,J E s.hy,J E s.hz,J E s.hA,.bool s.gq,A .cy,A .aw,.ref H.length 0 s.az.length s.az.length 13,A .ag]=aQ e (ec s to):=by
  rw[w];simp [aQ,ts,bQ,l6,ec]
 obtain⟨G,l⟩:∃G,G=(H++[L]).set k (.box (aQ e (ec s to)) t .rw):=⟨_,rfl⟩
 have st:=KH Q (v:=.ref H.length 0 s.az.length s.az.length 13) rfl (ahx A s _ _ _)
 rw[aq,<-l]at st
 have R:cD av db G e (ec s to):=by
  rw[l,u,w]
  exact(own.ec pm).box (by rw[<-u];exact Q) ad _
 have S:G[k]?=y (.box (aQ e (ec s to)) t .rw):=by rw[l];exact fK (by simp;omega)
 have ar:G.length=H.length+1:=by rw[l];simp
 have T:nf k H G:=by
  refine nf.trans ((ff.app H [L]).z k) ?_
  rw[l]
  exact nf.set _ _ _
 have W:U.ref H.length 0 s.az.length s.az.length 13∈aQ e (ec s to):=by rw[w];simp [aQ,ts,bQ]
 have au:((1:Int)==0)=M:=rfl
 have ax:((1:Int)==1)=V:=rfl
 have aG:ab M 1 (.ptr k 11) H=y (A .az):=ez af (lE A s)
 have aF:ab M 1 (.ptr k 12) G=y (e .ag):=ez S (i_ e _)
 have ay:(ao e (ec s to) .ag).length=s.ag.length:=by simp [ao,ec]
 have le:=fA (R.rs .ag)
 rw[ay]at le
 have aD:=g.ag
 simp only[aU,↓aI,aV,au,ax,bn,bh,a_,lF,aG,o,st,aF,le]
 have aA:rv av G G e (ec s to) to 0:=⟨by rw[TH];exact R,ff.refl _,rfl,λb _=>.inl rfl⟩
 refine nW (λi F=>rv av G F e (ec s to) to i) s.ag.length (by omega) aA (λi F ai q=>?_) λF q K=>?_
 ·obtain⟨p,ah⟩:=cR ai
  refine⟨_,q.next ah,λK=>?_⟩
  have h:=aht (N:=N) (j:=?jj) ap q pm g.az ah (am p (dN ah)) (g.ec pm).small K
  exact h
 have aE:((s.ag.length:Int)<(s.ag.length:Int))=False:=dI (by omega)
 have C:=q.own
 have aB:jN (ec s to) to s.ag.length=h0 (ec s to) to:=TI (ec s to) to
 rw[aB]at C
 have aC:=q.bx _ _ _ _ S
 have m:F[k]?=y (.box (aQ e (h0 (ec s to) to)) t .rw):=aC
 have X:ab V 13 (.ptr k 0) F=y (.agg (aQ e (h0 (ec s to) to))):=iw m rfl
 have Y:=λh=>TP e (h0 (ec s to) to) h
 have hd:(h0 (ec s to) to).bO=s.bO:=rfl
 have ac:H.length<=F.length:=by rw[q.len,ar];omega
 unfold C6
 cases br:eL s.bO 6 with
 |true=>
  have ah:eI s to=h0 (ec s to) to:=by unfold eI;rw[aP br]
  have D:=KQ (roots:=[]) n af m W (cj _) rs.KP
  simp only[aU,↓aI,aV,aE,c4,bn,bh,lF,X,Y,hd,Gz,br,fg,si,D]
  rw[ah]
  exact eG.of rfl ⟨rfl,e,C,m,T.trans (q.bx.z k),ac⟩
 |false=>
  have ah:eI s to=jl (h0 (ec s to) to) to:=by unfold eI;rw[aW (by rw[br];decide)]
  obtain⟨⟨aJ,aK⟩,an,ae,ak,O,bz,-⟩:=Ci C m pm g.az (aa br) ((g.ec pm).h0 to).small
  simp only at ae ak O bz
  subst ae
  have al:=O _ _ _ _ m
  have D:=KQ (roots:=[]) n af al W (cj _) rs.KP
  simp only[aU,↓aI,aV,aE,c4,bn,bh,lF,X,Y,hd,Gz,br,gN,a_,an,si,D]
  rw[ah]
  exact eG.of rfl ⟨rfl,e,ak,al,(T.trans (q.bx.z k)).trans (O.z k),by rw[bz];exact ac⟩
structure ry(b:Nat)(ok:List Int->Prop)(H:List Int->Z):Prop where
 len:∀L,(H L).length=(H []).length
 xw:∀L x rest,ok (L++[x])->aL dX [.ptr b 0,J E x] (H L++rest)=y (.bool V,H (L++[x])++rest)
 aj:∀L gM k,k<(H []).length->(H gM)[k]?=(H L)[k]?\/∃blk,(H gM)[k]?=y blk/\j0 (H []).length blk
 pre:∀A bL,ok (A++bL)->ok A
theorem ry.trim{b:Nat}{ok:List Int->Prop}{H:List Int->Z}(s:ry b ok H)(L gM:List Int){r:List U}(an:∀v∈r,bM (H []).length v)(rest:Z):Go.aM.trim (H L) r (H gM++rest)=H gM:=by
 have e:(H L).length=(H gM).length:=by rw[s.len L,s.len gM]
 have aa:(∀v∈r,bM (H L).length v)/\∀b,b<(H L).length->(H gM++rest)[b]?=(H L)[b]?\/∃blk,(H gM++rest)[b]?=y blk/\j0 (H L).length blk:=by
  have c:=s.len L
  refine⟨by rw[c];exact an,λb af=>?_⟩
  rw[cI (by omega),c]
  exact s.aj L gM b (by omega)
 unfold Go.aM.trim
 rw[aP aa,e,vm]
theorem z7(h h':Z):aN [] h h' []=y (je,trim h [] h'):=by
 rw[mC,jK,dw]
 rfl
def nZ(h:Z)(g:U)(c:List Int):Prop:=∀(b:Nat) (ok:List Int->Prop) (H:List Int->Z) (L:List Int),ry b ok H->(∀e k,k<h.length->(H e)[k]?=h[k]?)->ok (L++c)->p7 aL g [.yield b] (H L)=y (je,H (L++c))
theorem KR{g h:Z}{k:Nat}(e:g[k]?=h[k]?):kr g k=kr h k:=by unfold kr;rw[e]
theorem TR{g:Z}{k o:Nat}{vs:List U}{v:U}(e:kr g k=y vs)(ay:vs[o]?=y v):ab M 1 (.ptr k o) g=y v:=by
 rw[lU,e,dy]
 exact ay
theorem KS{g:Z}{k:Nat}{vs:List U}(e:kr g k=y vs):k<g.length:=by
 unfold kr at e
 cases h:g[k]? with
 |none=>rw[h]at e;cases e
 |some x=>exact(List.getElem?_eq_some_iff.1 h).1
theorem TS{g:Z}{k:Nat}{vs:List U}(e:kr g k=y vs)(l:Z):kr (g++l) k=y vs:=by
 rw[<-e]
 exact KR (cI (KS e))
theorem sl{α:Type}{P:List α->Prop}(av:P [])(h1:∀l a,P l->P (l++[a])):∀l,P l:=by
 intro l
 rw[<-List.reverse_reverse l]
 induction l.reverse with
 |nil=>exact av
 |cons a t a6=>rw[List.reverse_cons];exact h1 _ _ a6
def u3(b:List Int)(o:Int):List Int:=if(mark o||b.contains o)=V then b else b++[o]
def dA(l:List Int):List Int:=l.foldl u3 []
theorem z8(l:List Int)(o:Int):dA (l++[o])=u3 (dA l) o:=by unfold dA;rw[AO];rfl
theorem ahB(l cK:List Int):∃r,dA (l++cK)=dA l++r:=by
 refine sl (P:=λcK=>∃r,dA (l++cK)=dA l++r) ⟨[],by simp⟩ (λcK o a6=>?_) cK
 ·obtain⟨r,an⟩:=a6
  rw[<-eb,z8,an]
  unfold u3
  split
  ·exact⟨r,rfl⟩
  ·exact⟨r++[o],by rw[eb]⟩
theorem z_(l:List Int):∀o,o∈dA l↔o∈l/\mark o=M:=by
 refine sl (P:=λl=>∀o,o∈dA l↔o∈l/\mark o=M) (λo=>by simp [dA]) (λl x a6=>?_) l
 ·intro o
  rw[z8]
  unfold u3
  by_cases ae:(mark x||(dA l).contains x)=V
  ·rw[aP ae,a6,lO,hp]
   constructor
   ·rintro⟨h1,h2⟩;exact⟨.inl h1,h2⟩
   ·rintro⟨h1|rfl,h2⟩
    ·exact⟨h1,h2⟩
    ·rw[h2,sy,List.contains_iff_mem,a6]at ae
     exact ae
  ·rw[aW ae,lO,hp,a6,lO,hp]
   have hm:mark x=M:=by
    cases h:mark x with
    |false=>rfl
    |true=>rw[h]at ae;simp at ae
   constructor
   ·rintro(⟨h1,h2⟩|rfl)
    ·exact⟨.inl h1,h2⟩
    ·exact⟨.inr rfl,hm⟩
   ·rintro⟨h1|rfl,h2⟩
    ·exact .inl ⟨h1,h2⟩
    ·exact .inr rfl
def qz(l:List Int):List (U×U):=l.map λo=>(J E o,.bool V)
theorem TT(o:Int):∀l:List Int,uh .int (J E o) (qz l)=y (if l.contains o=V then y (.bool V)else none)
 |[]=>rfl
 |au::r=>by
  have a6:=TT o r
  unfold qz at a6|-
  rw[me,uh]
  simp only[ug,a_]
  by_cases h:o=au
  ·subst h;simp
  ·have h2:(o==au)=M:=by simpa using h
   rw[h2]
   simp only[a6,List.contains_cons,h2,sy]
theorem TU(o:Int):∀l:List Int,l.contains o=M->qT .int (J E o) (.bool V) (qz l)=y (qz (l++[o]))
 |[],_=>rfl
 |au::r,h=>by
  rw[List.contains_cons,rE]at h
  have a6:=TU o r h.2
  unfold qz at a6|-
  rw[js,me,me,qT]
  simp only[ug,a_,h.1,a6,dw]
theorem TV(g:Z)(x:b3)(n:Nat)(h:n=g.length):(g++[x])[n]?=y x:=by subst h;simp
theorem ahC{g:Z}{n:Nat}(h:n=g.length)(l:List Int)(o:Int)(md:ep):rX .int (.bool M) M (.map n) (J E o) (g++[.map (qz l) md])=y (.bool (l.contains o)):=by
 simp only[rX,wo,TV g _ n h,dy,TT,dw]
 cases l.contains o<;>rfl
theorem ahD{g:Z}{n:Nat}(h:n=g.length){l:List Int}{o:Int}(b:l.contains o=M):p6 .int (.map n) (J E o) (.bool V) (g++[.map (qz l) .rw])=y (g++[.map (qz (l++[o])) .rw]):=by
 subst h
 simp only[p6,TV g _ _ rfl,TU o l b,dw]
 congr 1
 rw[List.set_append_right _ _ (cj _),Nat.sub_self]
 rfl
theorem z'(b:Nat)(args:List U)(h:Z):gz aL (.yield b) args h=aL dX (.ptr b 0::args) h:=rfl
theorem KT{b lo n v:Nat}:bB M (.ref b lo n v 1)=y (J E (n:Int)):=by simp only[bB]
theorem ahE{b n v k:Nat}(ad:k<n):rU 1 (.ref b 0 n v 1) (y (J E (k:Int))) none none=y (.ref b k (n-k) v 1):=by
 simp only[rU,k3,a_,dy]
 rw[aP ⟨by omega,by omega⟩,dy,mc,aW (by omega),hh]
theorem ahF{b n v k:Nat}(av:0<k)(ad:k<=n):rU 1 (.ref b 0 n v 1) none (y (J E (k:Int))) none=y (.ref b 0 k v 1):=by
 simp only[rU,k3,a_,dy]
 rw[aP ⟨by omega,by omega⟩,dy,mc,aW (by omega),hh,Nat.sub_zero]
theorem TW(n:Nat)(L:List Int)(t:a1)(md:ep):j0 n (.log (L.map bA) 1 t md):=by
 intro x ae
 rw[List.mem_flatten]at ae
 obtain⟨r,an,ae⟩:=ae
 rw[ju]at an
 obtain⟨z,_,rfl⟩:=an
 have:x=J E z:=by simpa [bA]using ae
 subst this
 simp only[bM]
theorem TX{h a a':Z}(ax:a'.length=a.length)(af:∀blk∈a',j0 (h++a).length blk)(k:Nat)(ad:k<(h++a).length):(h++a')[k]?=(h++a)[k]?\/∃blk,(h++a')[k]?=y blk/\j0 (h++a).length blk:=by
 by_cases h1:k<h.length
 ·left
  rw[cI h1,cI h1]
 ·right
  rw[dV]at ad
  rw[lN (by omega)]
  obtain⟨blk,e⟩:∃blk,a'[k-h.length]?=y blk:=⟨_,fJ (by omega)⟩
  exact⟨blk,e,af _ (dN e)⟩
theorem KU{R:Type}(A:Option R)(X:Nat->Option R)(r:Option R):BB none A X r=A:=ca rfl
theorem ahG(n m:Nat)(dd bH:List Nat)(a b:hZ)(st:tU)(eg:Option fN)(md:ep)(h:m<n):j0 n (.loop [.ptr m 0] dd bH a b st eg md):=by
 intro x ae
 simp only[hp]at ae
 subst ae
 simp only[bM]
 exact h
theorem ahH(n m lo k v sz:Nat)(t:a1)(md:ep)(h:m<n):j0 n (.box [.ref m lo k v sz] t md):=by
 intro x ae
 simp only[hp]at ae
 subst ae
 simp only[bM]
 exact h
theorem Aa{n:Int}(h:0<=n/\n<18446744073709551616):IntKind.u64.wrap n=n:=by
 have:IntKind.u64.wrap n=n%18446744073709551616:=by simp [IntKind.wrap,xZ,x0]
 rw[this,Int.emod_eq_of_lt h.1 h.2]
theorem KV(n:Nat)(h:n<4294967296):ar .and (.int .u64 n) (.int .u64 4294967295)=y (.int .u64 n):=by
 have h1:(kC 64 (n:Int)).toNat=n:=by rw[BitVec.toNat_ofInt,Int.emod_eq_of_lt (by omega) (by omega)];omega
 have h2:(kC 64 (4294967295:Int)).toNat=2 ^ 32-1:=by decide
 simp only[ar,a_]
 show y (U.int .u64 (IntKind.u64.wrap ((kC 64 (n:Int) &&& kC 64 (4294967295:Int)).toNat)))=_
 rw[BitVec.toNat_and,h1,h2,Nat.and_two_pow_sub_one_eq_mod,Nat.mod_eq_of_lt (by omega),Aa (by omega)]
theorem KW(n:Nat)(h:n<4294967296):ar .shr (.int .u64 n) (.int .u64 32)=y (.int .u64 0):=by
 have:ar .shr (.int .u64 n) (.int .u64 32)=y (.int .u64 ((n:Int).fdiv (2 ^ 32))):=by
  simp only[ar];rfl
 rw[this,Int.fdiv_eq_ediv_of_nonneg _ (by decide),Int.ediv_eq_zero_of_lt (by omega) (by omega)]
theorem GA(a b:Int)(h:0<=a*b/\a*b<18446744073709551616):ar .mul (.int .u64 a) (.int .u64 b)=y (.int .u64 (a*b)):=by
 have:ar .mul (.int .u64 a) (.int .u64 b)=y (.int .u64 (IntKind.u64.wrap (a*b))):=by simp only[ar,a_]
 rw[this,Aa h]
theorem ahI(a b:Int)(h:0<=a+b/\a+b<18446744073709551616):ar .add (.int .u64 a) (.int .u64 b)=y (.int .u64 (a+b)):=by
 have:ar .add (.int .u64 a) (.int .u64 b)=y (.int .u64 (IntKind.u64.wrap (a+b))):=by simp only[ar,a_]
 rw[this,Aa h]
theorem ahJ(n:Nat)(h:n<=70000)(H:Z):aL 163 [.int .u64 1,.int .u64 n] H=y (.tuple [.int .u64 0,.int .u64 n],H):=by
 refine cu (F:=Fl) (by kernel_rfl) 1 ?_
 rw[aej];unfold QI
 have b:ar .and (.int .u64 1) (.int .u64 4294967295)=y (.int .u64 1):=KV 1 (by decide)
 have c:ar .shr (.int .u64 1) (.int .u64 32)=y (.int .u64 0):=KW 1 (by decide)
 have a0:ar .and (.int .u64 0) (.int .u64 4294967295)=y (.int .u64 0):=KV 0 (by decide)
 have a3:ar .shr (.int .u64 0) (.int .u64 32)=y (.int .u64 0):=KW 0 (by decide)
 have m1:ar .mul (.int .u64 1) (.int .u64 n)=y (.int .u64 n):=by rw[GA _ _ (by omega),Int.one_mul]
 have m2:ar .mul (.int .u64 0) (.int .u64 n)=y (.int .u64 0):=by rw[GA _ _ (by omega),Int.zero_mul]
 have m3:ar .mul (.int .u64 1) (.int .u64 0)=y (.int .u64 0):=GA 1 0 (by decide)
 have m4:ar .mul (.int .u64 0) (.int .u64 0)=y (.int .u64 0):=GA 0 0 (by decide)
 have d0:ar .add (.int .u64 0) (.int .u64 0)=y (.int .u64 0):=ahI 0 0 (by decide)
 simp only[b8,b,c,a0,a3,m1,m2,m3,m4,d0,KV n (by omega),KW n (by omega)]
 exact Oj rfl rfl
theorem ahK(n:Nat)(h:n<=70000)(H:Z):aL 134 [.int .u64 1,.int .u64 n] H=y (.tuple [.int .u64 0,.int .u64 n],H):=by
 refine cu (F:=EI) (by kernel_rfl) 1 ?_
 rw[adV];unfold Qi
 simp only[↓aI,s3,ahJ n h,b8,oF,oG]
 exact Oj rfl rfl
def jP(n b:Nat):List (List U):=dF b (bA (-1))++dF (n-b) (bA 0)
theorem KX{n b:Nat}(h:b<=n):(jP n b).length=n:=by simp [jP];omega
theorem ahL{n b:Nat}(h1:0<b)(h2:b<n)(h:Z):rW 1 (.ref h.length b (n-b) n 1) (.ref h.length 0 b n 1) (h++[.log (jP n b) 1 3 .rw])=y (J E ((gn b (n-b):Nat):Int),h++[.log (jP n (b+gn b (n-b))) 1 3 .rw]):=by
 have an:kK 1 (.ref h.length 0 b n 1) (h++[.log (jP n b) 1 3 .rw])=y (dF b (bA (-1))):=by
  simp only[kK]
  rw[aW (by omega),aP trivial]
  have:=BZ (h:=h++[.log (jP n b) 1 3 .rw]) (b:=h.length) (sz:=1) (rows:=jP n b) (t:=3) (md:=.rw) (by rw[en];rfl)
  rw[KX (by omega)]at this
  rw[this,dy,aP (by rw[KX (by omega)];omega),oZ]
  congr 1
  unfold jP
  rw[List.take_left' (by simp)]
 unfold rW
 rw[an,dy]
 simp only
 rw[aW (by omega),en]
 simp only[ki]
 rw[aP ⟨KX (by omega),trivial,trivial,by omega,by omega,Ge λr an=>by rw[List.eq_of_mem_replicate an];rfl⟩,p']
 have ax:(dF b (bA (-1))).length=b:=by simp
 rw[ax]
 have hm:gn b (n-b)<=b:=Nat.min_le_left _ _
 have c:gn b (n-b)<=n-b:=Nat.min_le_right _ _
 have e:(jP n b).take b++(dF b (bA (-1))).take (n-b)++(jP n b).drop (b+gn b (n-b))=jP n (b+gn b (n-b)):=by
  unfold jP
  rw[List.take_left' (by simp),List.take_replicate,List.drop_append,List.drop_of_length_le (by simp),hV,List.drop_replicate,vn]
  have aG:min (n-b) b=gn b (n-b):=Nat.min_comm _ _
  rw[aG,List.replicate_append_replicate]
  congr 2
  omega
 rw[e];rfl
theorem ahM{N:Nat}{h:Z}{n:Nat}{p19:U×Z}(ah:p19.2=h++[.log (jP n 1) 1 3 .rw])(aA:n<=70000){j:List U->Z->bl}:∀(f b:Nat),0<b->b<=n->n-b<f->cv (uE aL N (.ref h.length 0 n n 1,h++[.log (dF n (bA 0)) 1 3 .rw]) p19 j) f [J E (b:Int)] (h++[.log (jP n b) 1 3 .rw])=j [] (h++[.log (jP n n) 1 3 .rw]):=by
 intro f
 induction f with
 |zero=>intro b h1 h2 ak;omega
 |succ f a6=>
  intro b h1 h2 ak
  show uE aL N _ _ _ (cv _ f) _ _=_
  generalize c:cv (uE aL N (.ref h.length 0 n n 1,h++[.log (dF n (bA 0)) 1 3 .rw]) p19 j) f=K
  unfold uE
  by_cases e:b=n
  ·subst e
   have aE:((b:Int)<(b:Int))=False:=dI (by omega)
   simp only[aU,↓aI,aV,KT,aE,c4,bn,bh]
  ·have g:((b:Int)<(n:Int))=True:=kk (by omega)
   have hm:gn b (n-b)<=n-b:=Nat.min_le_right _ _
   have i:0<gn b (n-b):=by
    rcases Nat.le_total b (n-b)with h|h
    ·rw[show gn b (n-b)=b from ns h];omega
    ·rw[show gn b (n-b)=n-b from Nat.min_eq_right h];omega
   have cb:IntKind.i64.wrap ((b:Int)+((gn b (n-b):Nat):Int))=((b+gn b (n-b):Nat):Int):=by rw[wrap64 (by unfold dB;omega)];omega
   simp only[aU,↓aI,aV,KT,g,cr,a_,ahE (show b<n by omega),ahF h1 h2,ahL h1 (show b<n by omega),cb,ah]
   rw[hf _ (by simp),<-c]
   exact a6 _ (by omega) (by omega) (by omega)
theorem ahN(n:Nat)(aA:n<=70000)(h:Z):aL 92 [.bE 1 [[J E (-1)]],J E n] h=y (.ref h.length 0 n n 1,h++[.log ((dF n (-1:Int)).map bA) 1 3 .rw]):=by
 obtain⟨N,q⟩:∃N:Nat,70000<N:=⟨_,fC _⟩
 refine cu (F:=D0) (by kernel_rfl) N ?_
 rw[adm];unfold PI
 have c:((n:Int)<0)=False:=dI (by omega)
 have g:bB M (.bE 1 [[J E (-1)]])=y (J E 1):=rfl
 have bC:IntKind.u64.wrap 1=1:=Aa (by decide)
 have cU:IntKind.u64.wrap (n:Int)=n:=Aa (by omega)
 have i:IntKind.i64.wrap (n:Int)=n:=wrap64 (by unfold dB;omega)
 have cL:((0:Int)>0)=False:=dI (by decide)
 have cN:((n:Int)>9223372036854775807)=False:=dI (by omega)
 have k:([J E 0]:List U).length=1:=rfl
 have l:(dF n (-1:Int)).map bA=jP n n:=by simp [jP]
 have bu:(dF n [J E 0])=dF n (bA 0):=rfl
 have fin:aN [.raw] h (h++[.log (jP n n) 1 3 .rw]) [.ref h.length 0 n n 1]=y (.ref h.length 0 n n 1,h++[.log (jP n n) 1 3 .rw]):=Gu
 rw[l]
 have m:rW 1 (.ref h.length 0 n n 1) (.bE 1 [[J E (-1)]]) (h++[.log (dF n (bA 0)) 1 3 .rw])=y (J E ((gn 1 n:Nat):Int),h++[.log (jP n (gn 1 n)) 1 3 .rw]):=by
  unfold rW
  have an:kK 1 (.bE 1 [[J E (-1)]]) (h++[.log (dF n (bA 0)) 1 3 .rw])=y [bA (-1)]:=rfl
  rw[an,dy]
  simp only
  by_cases e:n=0
  ·subst e
   rw[aP rfl];rfl
  ·have hm:gn 1 n=1:=ns (by omega)
   rw[aW e,en]
   simp only[ki]
   rw[aP ⟨by simp,trivial,trivial,by omega,by omega,rfl⟩,p',hm]
   have:(dF n (bA 0)).take 0++[bA (-1)].take n++(dF n (bA 0)).drop (0+gn [bA (-1)].length n)=jP n 1:=by
    have h2:gn [bA (-1)].length n=1:=hm
    rw[h2]
    unfold jP
    rw[List.take_zero,hV,List.take_of_length_le (by simp;omega),List.drop_replicate]
    rfl
   rw[this]
   have h2:gn [bA (-1)].length n=1:=hm
   rw[h2];rfl
 simp only[aU,↓aI,aV,c,cL,c4,bn,bh,g,IY,bC,cU,ahK n aA,cN,i,wG (show n<=dp by unfold dp;omega),k,bu,m,Bool.or_self]
 by_cases e:n=0
 ·subst e
  have o:gn 1 0=0:=rfl
  rw[o]
  obtain⟨b,rfl⟩:∃b,N=b+1:=⟨N-1,by omega⟩
  show uE aL _ _ _ _ (cv _ b) _ _=_
  generalize cv _ b=K
  unfold uE
  have aE:(((0:Nat):Int)<((0:Nat):Int))=False:=dI (by decide)
  simp only[aU,↓aI,aV,KT,aE,c4,bn,bh,fin]
 ·have hm:gn 1 n=1:=ns (by omega)
  rw[hm]
  have:=ahM (N:=N) (h:=h) (n:=n) (p19:=(J E ((1:Nat):Int),h++[.log (jP n 1) 1 3 .rw])) (j:=λt p=>aN [.raw] h p [.ref h.length 0 n n 1]) rfl aA N 1 (by decide) (by omega) (by omega)
  refine this.trans fin
def rz(st:List Int×Int)(i:Int):List Int×Int:=if st.1.getD i.toNat 0<0 then(st.1.set i.toNat st.2,st.2+1)else st
def de(n:Nat)(L:List Int):List Int×Int:=L.foldl rz (dF n (-1),0)
theorem tu(n:Nat)(L:List Int)(x:Int):de n (L++[x])=rz (de n L) x:=by unfold de;rw[AO];rfl
def u4(n:Nat)(os:List Nat):List Int:=(fj n).map λi=>if i∈os then((os.idxOf i:Nat):Int)else -1
theorem xx(n:Nat)(os:List Nat):(u4 n os).length=n:=by simp [u4]
theorem xy{n:Nat}{os:List Nat}{i:Nat}(h:i<n):(u4 n os)[i]?=y (if i∈os then((os.idxOf i:Nat):Int)else -1):=by simp [u4,h]
theorem KY(n:Nat)(L:List Int)(h:∀x∈L,0<=x/\x<(n:Int)):∃os:List Nat,os.Nodup/\(∀i∈os,i<n)/\(de n L).2=(os.length:Int)/\(de n L).1=u4 n os/\∀x∈L,x.toNat∈os:=by
 have key:∀L:List Int,(∀x∈L,0<=x/\x<(n:Int))->∃os:List Nat,os.Nodup/\(∀i∈os,i<n)/\(de n L).2=(os.length:Int)/\(de n L).1=u4 n os/\∀x∈L,x.toNat∈os:=by
  intro L
  refine sl (P:=λL:List Int=>(∀x∈L,0<=x/\x<(n:Int))->∃os:List Nat,os.Nodup/\(∀i∈os,i<n)/\(de n L).2=(os.length:Int)/\(de n L).1=u4 n os/\∀x∈L,x.toNat∈os) (λ_=>⟨[],List.nodup_nil,by simp,rfl,?_,by simp⟩) (λL a a6 h=>?_) L
  ·refine fx λj=>?_
   show(dF n (-1:Int))[j]?=_
   by_cases b:j<n
   ·rw[xy b,Hy,aP b];simp
   ·rw[eE (by simp;omega),eE (by rw[xx];omega)]
  ·obtain⟨os,h1,h2,ak,aJ,aO⟩:=a6 λx ae=>h x (oc _ ae)
   obtain⟨g,oA⟩:=h a (by simp)
   have ha:a.toNat<n:=by omega
   rw[tu]
   unfold rz
   rw[aJ,iN,xy ha,ob]
   by_cases hm:a.toNat∈os
   ·rw[aP hm,aW (by omega)]
    refine⟨os,h1,h2,ak,aJ,λx ae=>?_⟩
    rcases List.mem_append.1 ae with ae|ae
    ·exact aO x ae
    ·rw[hp]at ae;subst ae;exact hm
   ·rw[aW hm,aP (by decide)]
    refine⟨os++[a.toNat],?_,λi ai=>?_,by rw[ak];simp,?_,λx ae=>?_⟩
    ·rw[List.nodup_append]
     refine⟨h1,by simp,λx ae au ba e=>?_⟩
     rw[hp]at ba
     subst ba
     rw[e]at ae
     exact hm ae
    ·rcases List.mem_append.1 ai with ai|ai
     ·exact h2 i ai
     ·rw[hp]at ai;omega
    ·rw[ak]
     refine fx λj=>?_
     by_cases b:j<n
     ·rw[xy b,AQ,xy b]
      by_cases e:a.toNat=j
      ·subst e
       rw[aP rfl,aP (by rw[xx];exact ha),aP (by simp),Hz,aW hm]
       simp
      ·rw[aW e]
       by_cases c:j∈os
       ·rw[aP c,aP (oc _ c),Hz,aP c]
       ·have:¬j∈os++[a.toNat]:=by simp [c];omega
        rw[aW c,aW this]
     ·rw[eE (by rw[iz,xx];omega),eE (by rw[xx];omega)]
    ·rcases List.mem_append.1 ae with ae|ae
     ·exact oc _ (aO x ae)
     ·rw[hp]at ae;subst ae;simp
 exact key L h
theorem Ab{n:Nat}{L:List Int}(h:∀x∈L,0<=x/\x<(n:Int)):(de n L).1.length=n/\0<=(de n L).2/\(de n L).2<=n:=by
 obtain⟨os,h1,h2,ak,aJ,_⟩:=KY n L h
 refine⟨by rw[aJ,xx],by rw[ak];omega,?_⟩
 rw[ak]
 have:os ⊆ fj n:=λi ai=>List.mem_range.2 (h2 i ai)
 have:=L5 h1 this
 rw[Hs]at this
 omega
def dG(b:List Int)(n:Nat):List Int:=(de n (b++cG n)).1
theorem tv{n:Nat}:∀x∈cG n,0<=x/\x<(n:Int):=λx ae=>by
 obtain⟨i,ai,rfl⟩:=List.mem_map.1 ae
 rw[tN]at ai
 exact⟨Int.natCast_nonneg _,by show(i:Int)<n;omega⟩
theorem lH{b:List Int}{n:Nat}(h:∀x∈b,0<=x/\x<(n:Int)):c8 (dG b n) n:=by
 obtain⟨os,h1,h2,ak,aJ,aO⟩:=KY n (b++cG n) (λx ae=>by
  rcases List.mem_append.1 ae with ae|ae
  ·exact h x ae
  ·exact tv x ae)
 have c:∀i,i<n->i∈os:=λi ai=>by
  have:=aO (i:Int) (List.mem_append_right _ (List.mem_map.2 ⟨i,List.mem_range.2 ai,rfl⟩))
  simpa using this
 have e:∀i,i<n->(dG b n)[i]?=y ((os.idxOf i:Nat):Int):=λi ai=>by
  unfold dG
  rw[aJ,xy ai,aP (c i ai)]
 have z:os.length<=n:=by
  have:os ⊆ fj n:=λi ai=>List.mem_range.2 (h2 i ai)
  have:=L5 h1 this
  rwa [Hs]at this
 have A:n<=os.length:=by
  have:fj n ⊆ os:=λi ai=>c i (List.mem_range.1 ai)
  have:=L5 List.nodup_range this
  rwa [Hs]at this
 have ax:(dG b n).length=n:=by unfold dG;rw[aJ,xx]
 have g:∀t (aR:t<n),eH (dG b n) t=os[t]'(by omega):=λt aR=>by
  have ai:os[t]'(by omega)<n:=h2 _ (pM _)
  have aG:=e _ ai
  have aF:os.idxOf (os[t]'(by omega))=t:=h1.idxOf_getElem t (by omega)
  rw[aF]at aG
  unfold eH
  obtain⟨af,o⟩:=List.getElem?_eq_some_iff.1 aG
  have k:((t:Nat):Int)∈dG b n:=o▸pM af
  have ae:=AR (L6 k)
  have l:(dG b n).idxOf ((t:Nat):Int)<n:=by have:=L6 k;omega
  have m:=e _ l
  rw[fJ (by omega),ae]at m
  have B:t=os.idxOf ((dG b n).idxOf ((t:Nat):Int)):=by have:=jU m;omega
  have p:=c _ l
  have q:=AR (L6 p)
  rw[<-q]
  congr 1
  omega
 refine⟨ax,λi ai=>?_,λj u=>?_⟩
 ·have hm:=c i ai
  have w:=L6 hm
  refine⟨os.idxOf i,by omega,e i ai,?_⟩
  rw[g _ (by omega)]
  exact AR w
 ·rw[g j u]
  exact h2 _ (pM _)
def mH(n:Nat)(x:Int):Prop:=0<=x/\x<(n:Int)
def jo(h:Z)(n:Nat)(st:List Int×Int):Z:=[.log (st.1.map bA) 1 3 .rw,.log [] 1 3 .rw,.box [.ref h.length 0 n n 1] 22 .rw,.box [J E st.2] 3 .rw,.box [.func 93 [] [.ptr (h.length+2) 0,.ptr (h.length+3) 0]] 127 .rw]
theorem GB{h l:Z}{T:List Int}{n:Nat}{t:a1}{md:ep}(b:T.length=n):dM (h++.log (T.map bA) 1 t md::l) 1 (.ref h.length 0 n n 1) (T.map bA):=.ref _ _ t md _ (by rw[en];rfl) (by simp [b])
theorem n0{T:List Int}{i:Nat}{x:Int}(h:T[i]?=y x):(T.map bA)[i]?=y (bA x):=by rw[iM,h];rfl
theorem xz(a:U):([a]:List U)[0]?=y a:=ca rfl
theorem TY(k:IntKind)(n:Int)(o:Nat)(vs:List U)(t:a1)(l:Z):bf 1 (.ptr 0 o) (.int k n) (.box vs t .rw::l)=(cF vs o [.int k n]).map λck=>.box ck t .rw::l:=gB rfl o vs t l
theorem TZ(v:U)(k:IntKind)(n:Int):cF [v] 0 [.int k n]=y [.int k n]:=ca rfl
theorem Dg{h l:Z}{st:List Int×Int}{n:Nat}(c:st.1.length=n)(aA:n<=70000)(ae:0<=st.2/\st.2<=n){x:Int}(ai:mH n x):
 aL 93 [J E x,.ptr (h.length+2) 0,.ptr (h.length+3) 0] (h++(jo h n st++l))=y (je,h++(jo h n (rz st x)++l)):=by
 obtain⟨T,b⟩:=st
 unfold mH at ai
 obtain⟨i,rfl⟩:∃i:Nat,x=(i:Int):=⟨x.toNat,by omega⟩
 simp only at c ae
 have k:i<T.length:=by omega
 obtain⟨au,ba⟩:=cR k
 refine cu (F:=D1) (by kernel_rfl) 1 ?_
 rw[adn];unfold PJ jo
 have aF:=λl=>eM (GB (h:=h) (l:=l) (t:=3) (md:=.rw) c) .i64 (n0 ba)
 have g:bY 1 (.ref h.length 0 n n 1) (J E (i:Int))=y (di (.ref h.length 0 n n 1) (bA au) i 0):=aF []
 have j:∀l,ab M 1 (di (.ref h.length 0 n n 1) (bA au) i 0) (h++.log (T.map bA) 1 3 .rw::l)=y (J E au):=λl=>(eZ (GB c) (n0 ba) _ _ _).trans (lG au)
 have ah:rz (T,b) (i:Int)=if au<0 then(T.set i b,b+1)else(T,b):=by
  unfold rz
  simp only[mc,iN,ba,ob]
 rw[ah]
 by_cases e:au<0
 ·have o:∀l,cY (h++.log (T.map bA) 1 3 .rw::l) 0 1 3 (.ref h.length 0 n n 1) (T.map bA):=λl=>.ref _ _ _ (hO _) (by rw[en];rfl) (by simp [c])
  have st:=λl=>ij (o l) (n0 ba) (n:=1) (x:=J E b) (f:=0) rfl (by decide) (xr _ _)
  have m:∀l,wr (h++.log (T.map bA) 1 3 .rw::l) (.ref h.length 0 n n 1) 1 3 ((T.map bA).set i (bA b))=h++.log ((T.set i b).map bA) 1 3 .rw::l:=λl=>by
   show(h++_).set h.length _=_
   rw[p',vq];rfl
  have cb:IntKind.i64.wrap (b+1)=b+1:=wrap64 (by unfold dB;omega)
  have aG:(au<0)=True:=kk e
  rw[aP e]
  simp only[aU,↓aI,aV,xz,g,j,aG,cr,a_,st,m,cb,TY,TZ,si]
  rw[hf _ (by simp)]
 ·have aG:(au<0)=False:=dI e
  rw[aW e]
  simp only[aU,↓aI,aV,xz,g,j,aG,c4,bn,bh,si]
  rw[hf _ (by simp)]
def GC(h:Z)(st:tU)(eg:Option fN):b3:=.loop [.ptr (h.length+4) 0] [7] [15] zt zu st eg .rw
def jG(h:Z)(n:Nat)(L:List Int):Z:=h++(jo h n (de n L)++[GC h .ready none])
theorem ahO{h l:Z}{a b c d e:b3}{dg:List U}{dd bH:List Nat}{g i:hZ}{eg:Option fN}:qV (h.length+5) (h++a::b::c::d::e::.loop dg dd bH g i .ready eg .rw::l)=y (h++a::b::c::d::e::.loop dg dd bH g i .busy eg .rw::l):=by
 unfold qV
 rw[gg]
 simp only[mK,ki]
 rw[p_]
 rfl
theorem ahP{h l:Z}{a b c d e:b3}{dg:List U}{dd bH:List Nat}{g i:hZ}{eg:Option fN}:nI (h.length+5) .normal (h++a::b::c::d::e::.loop dg dd bH g i .busy eg .rw::l)=y (.bool V,h++a::b::c::d::e::.loop dg dd bH g i .ready none .rw::l):=by
 unfold nI
 rw[gg]
 simp only[mK,ki]
 rw[p_]
 rfl
theorem ahQ{h l:Z}{a b c d e:b3}{dg:List U}{dd bH:List Nat}{g i:hZ}{eg:Option fN}:rY (h.length+5) (h++a::b::c::d::e::.loop dg dd bH g i .ready eg .rw::l)=y eg:=by
 unfold rY
 rw[gg]
 rfl
theorem ahR{h l:Z}{a b c d e x:b3}:(h++a::b::c::d::e::x::l).set (h.length+5) .dead=h++a::b::c::d::e::.dead::l:=by
 rw[p_]
 rfl
theorem T0(h:Z)(n m:Nat)(st:List Int×Int)(hm:h.length+4<=m):∀blk∈jo h n st,j0 m blk:=by
 intro blk af
 unfold jo at af
 simp only[hF,ik,h6]at af
 rcases af with rfl|rfl|rfl|rfl|rfl
 ·exact TW _ _ _ _
 ·intro x ae;cases ae
 ·exact ahH _ _ _ _ _ _ _ _ (by omega)
 ·intro x ae;rw[hp]at ae;subst ae;simp only[bM]
 ·intro x ae
  rw[hp]at ae;subst ae
  simp only[bM]
  refine⟨λx ae=>(by cases ae),λau ba=>?_⟩
  simp only[hF,ik,h6]at ba
  rcases ba with rfl|rfl<;>(simp only[bM];omega)
theorem ahS(h:Z)(n:Nat)(aA:n<=70000):ry (h.length+5) (λL=>∀x∈L,mH n x) (jG h n) where
 len:=λL=>by simp [jG,jo]
 aj:=λL gM k ad=>by
  have e:(jG h n []).length=(jG h n L).length:=by simp [jG,jo]
  rw[e]at ad|-
  unfold jG at ad|-
  refine TX (by simp [jo]) (λblk af=>?_) k ad
  rcases List.mem_append.1 af with af|af
  ·exact T0 h n _ _ (by simp [jo]) blk af
  ·rw[hp]at af;subst af
   exact ahG _ _ _ _ _ _ _ _ _ (by simp [jo])
 pre:=λA bL g x ae=>g x (oc _ ae)
 xw:=λL x rest c=>by
  have i:∀au∈L,0<=au/\au<(n:Int):=λau ba=>c au (oc _ ba)
  have ae:mH n x:=c x (by simp)
  obtain⟨h1,h2,ak⟩:=Ab i
  have bG:(jG h n L++rest)[h.length+5]?=y (.loop [.ptr (h.length+4) 0] [7] [15] zt zu .ready none .rw):=by
   unfold jG jo GC
   rw[eb,gg]
   rfl
  refine JM 1 ((aah aL 1 _ _ _ _ none .rw bG).trans ?_)
  have b:=λl=>Dg (h:=h) (l:=l) (st:=de n L) h1 aA ⟨h2,ak⟩ ae
  have j:∀(H:Z),gz aL (.func 93 [] [.ptr (h.length+2) 0,.ptr (h.length+3) 0]) [J E x] H=aL 93 [J E x,.ptr (h.length+2) 0,.ptr (h.length+3) 0] H:=λH=>k5 aL 93 [] _ _ H
  unfold O3 jG
  rw[tu]
  unfold jo at b|-
  unfold GC
  simp only[eb,js,hV]at b|-
  simp only[aU,↓aI,aV,ahO,xz,j,b,ahP]
  rw[hf _ (by simp)]
theorem KZ{h l:Z}{T:List Int}{n:Nat}(b:T.length=n):aN [.flat 1] h (h++.log (T.map bA) 1 3 .rw::l) [.ref h.length 0 n n 1]=y (dz T,h):=by
 by_cases bu:n=0
 ·subst bu
  have g:T=[]:=gF b
  subst g
  refine q8 (ws:=[dz []]) (l:=.log (([]:List Int).map bA) 1 3 .rw::l) ?_ (λv ay=>by simp only[hF,ik,h6]at ay;subst ay;exact j5 rfl)
  rw[iV]
  simp only[cC,a_,dy,jK]
  rfl
 ·have e:=zj (h:=h) (l:=.log (T.map bA) 1 3 .rw::l) (k:=0) (s:=1) rfl (by rw[c9];omega) (nP (f:=bA) (λc=>rfl) _)
  rw[c9,b]at e
  have e':cC (.flat 1) (.ref h.length 0 n n 1) (h++.log (T.map bA) 1 3 .rw::l)=y (dz T,h++.log (T.map bA) 1 3 .ro::l):=e
  refine q8 (ws:=[dz T]) (l:=.log (T.map bA) 1 3 .ro::l) ?_ (λv ay=>by simp only[hF,ik,h6]at ay;subst ay;exact j5 rfl)
  rw[iV]
  simp only[e',b8,qf,jK]
theorem ahT(v:U)(a b c d e:Nat):cF [v] 0 [.ref a b c d e]=y [.ref a b c d e]:=ca rfl
theorem ahU(f:dU)(xs ys:List U)(o:Nat)(vs:List U)(t:a1)(l:Z):bf 1 (.ptr 0 o) (.func f xs ys) (.box vs t .rw::l)=(cF vs o [.func f xs ys]).map λck=>.box ck t .rw::l:=gB rfl o vs t l
theorem ahV(v:U)(f:dU)(xs ys:List U):cF [v] 0 [.func f xs ys]=y [.func f xs ys]:=ca rfl
theorem K0(n:Nat):cG (n+1)=cG n++[(n:Int)]:=by unfold cG;rw[x3,jt];rfl
theorem GD{h:Z}{g:U}{b:List Int}{n:Nat}(S:nZ h g b)(j:∀x∈b,mH n x)(aA:n<=70000):aL 40 [g,J E n] h=y (dz (dG b n),h):=by
 obtain⟨N,t⟩:∃N:Nat,70000<N:=⟨_,fC _⟩
 refine cu (F:=C8) (by kernel_rfl) N ?_
 rw[abc];unfold O2
 have c:=S (h.length+5) _ (jG h n) [] (ahS h n aA) (λu k ad=>by unfold jG;rw[cI ad]) (by simpa using j)
 have e:trim (h++jo h n (de n [])) [] (h++(jo h n (de n b)++[.dead]))=h++jo h n (de n b):=by
  rw[<-eb]
  refine sj (by simp [jo]) (by simp) λk ad=>TX (by simp [jo]) (λblk af=>T0 h n _ _ (by simp [jo]) blk af) k ad
 have p:∀(x:Int) (H:Z),gz aL (.func 93 [] [.ptr (h.length+2) 0,.ptr (h.length+3) 0]) [J E x] H=aL 93 [J E x,.ptr (h.length+2) 0,.ptr (h.length+3) 0] H:=λx H=>k5 aL 93 [] _ _ H
 have q:de n []=(dF n (-1),0):=rfl
 unfold jG at c
 rw[q]at c e
 unfold jo GC at c
 unfold jo at e
 simp only[hV,js,eb]at c e
 simp only[aU,↓aI,aV,qp,qq,iW,qs,ahN n aA,uW,ahT,TY,TZ,ahU,ahV,c,ahQ,ahR,e,KU]
 refine hx (λi=>[J E (i:Int)]) (λi=>h++jo h n (de n (b++cG i))) n (by omega) rfl (by
  show h++jo h n (de n (b++[]))=_
  rw[fD];rfl) (λi ai K=>?_) λK=>?_
 ·have m:∀x∈b++cG i,0<=x/\x<(n:Int):=λx ae=>by
   rcases List.mem_append.1 ae with ae|ae
   ·exact j x ae
   ·have:=tv x ae;omega
  obtain⟨h1,h2,ak⟩:=Ab m
  have o:=Dg (h:=h) (l:=[]) (st:=de n (b++cG i)) h1 aA ⟨h2,ak⟩ (x:=(i:Int)) ⟨by omega,by omega⟩
  have aB:i<9223372036854775807:=by omega
  rw[K0,<-eb,tu]
  unfold jo at o|-
  unfold Jv
  simp only[js,hV]at o
  simp only[aU,↓aI,aV,cQ ai,cr,a_,xz,p,o,cO aB]
  rw[hf _ (by simp)]
 ·have aE:((n:Int)<(n:Int))=False:=dI (by omega)
  have m:∀x∈b++cG n,0<=x/\x<(n:Int):=λx ae=>by
   rcases List.mem_append.1 ae with ae|ae
   ·exact j x ae
   ·exact tv x ae
  obtain⟨h1,_,_⟩:=Ab m
  unfold jo Jv
  simp only[aU,↓aI,aV,aE,c4,bn,bh,xz,KZ h1]
  rfl
theorem ry.K1{b:Nat}{ok:List Int->Prop}{H:List Int->Z}(s:ry b ok H)(L gM:List Int)(t:Z)(k:Nat)(ad:k<(H L++t).length):(H gM++t)[k]?=(H L++t)[k]?\/∃blk,(H gM++t)[k]?=y blk/\j0 (H L++t).length blk:=by
 have e:(H gM).length=(H L).length:=by rw[s.len L,s.len gM]
 by_cases h1:k<(H L).length
 ·rw[cI (by omega),cI h1]
  rcases s.aj L gM k (by rw[<-s.len L];exact h1)with h|⟨blk,h2,ak⟩
  ·exact .inl h
  ·exact .inr ⟨blk,h2,agR (by rw[dV,s.len L];omega) ak⟩
 ·left
  rw[lN (by omega),lN (by omega),e]
theorem ry.GF{b:Nat}{ok:List Int->Prop}{H:List Int->Z}(s:ry b ok H)(L gM:List Int)(t rest:Z){r:List U}(an:∀v∈r,∀n,bM n v):Go.aM.trim (H L++t) r (H gM++(t++rest))=H gM++t:=by
 rw[<-eb]
 exact sj (by simp [s.len L,s.len gM]) (λv ay=>an v ay _) λk ad=>s.K1 L gM t k ad
theorem K2{g l:Z}{a:b3}{n:Nat}(aA:n=g.length+1){dg:List U}{dd bH:List Nat}{b c:hZ}{eg:Option fN}:qV n (g++a::.loop dg dd bH b c .ready eg .rw::l)=y (g++a::.loop dg dd bH b c .busy eg .rw::l):=by
 subst aA
 unfold qV
 rw[gg]
 simp only[mK,ki]
 rw[p_]
 rfl
theorem K3{g l:Z}{a:b3}{n:Nat}(aA:n=g.length+1){dg:List U}{dd bH:List Nat}{b c:hZ}{eg:Option fN}:nI n .normal (g++a::.loop dg dd bH b c .busy eg .rw::l)=y (.bool V,g++a::.loop dg dd bH b c .ready none .rw::l):=by
 subst aA
 unfold nI
 rw[gg]
 simp only[mK,ki]
 rw[p_]
 rfl
theorem T1{g l:Z}{a:b3}{n:Nat}(aA:n=g.length+1){dg:List U}{dd bH:List Nat}{b c:hZ}{eg:Option fN}:rY n (g++a::.loop dg dd bH b c .ready eg .rw::l)=y eg:=by
 subst aA
 unfold rY
 rw[gg]
 rfl
theorem T2{g l:Z}{a c:b3}{n:Nat}(aA:n=g.length+1):(g++a::c::l).set n .dead=g++a::.dead::l:=by
 subst aA
 rw[p_]
 rfl
theorem T3(b:Nat):cn (.yield b)=[.yield b]:=ca rfl
theorem GG(c:Cell)(vs:List U)(t:a1)(l:Z):bf 6 (.ptr 0 0) (.agg c.cs) (.box vs t .rw::l)=(cF vs 0 c.cs).map λck=>.box ck t .rw::l:=jh rfl (by decide)
theorem GH(c:Cell):e7 V 0 6 c.cs=y (.agg c.cs):=gh rfl
theorem GI(c:Cell)(a b d e f g:U):cF [a,b,d,e,f,g] 0 c.cs=y c.cs:=ib rfl rfl
def kb(l:List Cell):List Int:=(l.map Cell.inst).filter λx=>decide (x>0)
theorem T4(l:List Cell)(c:Cell):kb (l++[c])=if c.inst>0 then kb l++[c.inst]else kb l:=by
 unfold kb
 rw[jt,AS]
 by_cases h:c.inst>0<;>simp [h]
def kc(s:aH)(p:Int):List Int:=kb (s.aw.getD p.toNat (0,[])).2
theorem ahW{h:Z}{k:Nat}{s:aH}{A:aS->U}{t2:a1}{md2:ep}(e:h[k]?=y (.box (aQ A s) t2 md2))(rs:gr h A s)(hm:s.bk.length<=70000):nZ h (.func 94 [] [.ptr k 0]) (dA s.bk):=by
 intro b ok H L S p q
 rw[zc aL 94]
 show aL 94 [.yield b,.ptr k 0] (H L)=_
 have ax:∀c g,(H c).length=(H g).length:=λc g=>by rw[S.len c,S.len g]
 have af:∀c l,(H c++l)[k]?=y (.box (aQ A s) t2 md2):=λc l=>by
  have:=(p c k (List.getElem?_eq_some_iff.1 e).1).trans e
  rw[cI (List.getElem?_eq_some_iff.1 this).1];exact this
 have j:∀c l,dM (H c++l) 1 (A .bk) (s.bk.map bA):=λc l=>pB (rs .bk) λb af t=>by
  have e:=p c b t
  rw[cI (List.getElem?_eq_some_iff.1 (e.trans (fJ t))).1];exact e
 have z:∀c l,ab M 1 (.ptr k 3) (H c++l)=y (A .bk):=λc l=>ez (af c l) (sh A s)
 have u:=fA (j L [])
 rw[c9]at u
 refine cu (F:=D2) (by kernel_rfl) (s.bk.length+1) ?_
 rw[ado];unfold PK
 simp only[aU,↓aI,aV,z,u]
 refine hx (λi=>[J E (i:Int)]) (λi=>H (L++dA (s.bk.take i))++[.map (qz (dA (s.bk.take i))) .rw]) s.bk.length (by omega) rfl (by simp [dA,qz]) (λi ai K=>?_) λK=>?_
 ·obtain⟨o,m⟩:=cR ai
  have aR:s.bk.take (i+1)=s.bk.take i++[o]:=qd m
  have n:∀(c g:List Int) (x au:b3) (r:List U),Go.aM.trim (H c++[x]) r (H g++[au])=H g++[au]:=λc g x au r=>hf _ (by simp [ax g c])
  have C:bY 1 (A .bk) (J E (i:Int))=y (di (A .bk) (bA o) i 0):=eM (j L []) .i64 (n0 m)
  have ng:∀c l,ab M 1 (di (A .bk) (bA o) i 0) (H c++l)=y (J E o):=λc l=>(eZ (j c l) (n0 m) _ _ _).trans (lG o)
  unfold JG
  simp only[aU,↓aI,aV,cQ ai,cr,a_,C,ng,FY]
  rw[aR,z8]
  unfold u3
  cases D:mark o with
  |true=>simp only[aU,↓aI,aV,↓mD,p9,Bool.true_or,a_,Bool.true_eq_false,bh,cO (show i<9223372036854775807 by omega),n]
  |false=>
   have w:=ahC (ax L (L++dA (s.bk.take i))) (dA (s.bk.take i)) o .rw
   cases aa:(dA (s.bk.take i)).contains o with
   |true=>simp only[aU,↓aI,aV,↓mD,p9,sy,a_,w,aa,cO (show i<9223372036854775807 by omega),n]
   |false=>
    have G:=ahD (ax L (L++dA (s.bk.take i))) aa
    have ba:=S.xw (L++dA (s.bk.take i)) o [.map (qz (dA (s.bk.take i)++[o])) .rw] (by
     obtain⟨r,an⟩:=ahB (s.bk.take (i+1)) (s.bk.drop (i+1))
     rw[rG]at an
     rw[an,aR,z8,u3,D,aa,Bool.or_self,aW (by decide),<-eb,<-eb]at q
     exact S.pre _ _ q)
    simp only[aU,↓aI,aV,↓mD,p9,sy,a_,bn,bh,w,aa,G,z',ba,fg,cO (show i<9223372036854775807 by omega),n,eb]
 ·unfold JG
  simp only[aU,↓aI,aV,gl,c4,bn,bh,z7,iy]
  rw[S.trim _ _ (by simp)]
theorem ahX{h:Z}{bw bD:Nat}{s:aH}{g:U}{bH:List Int}(aG:kr h bw=y [g]){A:aS->U}{t2:a1}{md2:ep}(aF:h[bD]?=y (.box (aQ A s) t2 md2))(rs:gr h A s)(ax:∀p∈s.aw,p.2.length<=70000)(S:nZ h g bH)(ah:∀p∈bH,0<=p/\p<s.aw.length):nZ h (.func 96 [] [.ptr bw 0,.ptr bD 0]) (bH.flatMap (kc s)):=by
 intro b ok H L u C aC
 rw[zc aL 96]
 show aL 96 [.yield b,.ptr bw 0,.ptr bD 0] (H L)=_
 have bz:∀m D,(H m).length=(H D).length:=λm D=>by rw[u.len m,u.len D]
 have af:∀m l,(H m++l)[bD]?=y (.box (aQ A s) t2 md2):=λm l=>by
  have:=(C m bD (List.getElem?_eq_some_iff.1 aF).1).trans aF
  rw[cI (List.getElem?_eq_some_iff.1 this).1];exact this
 have R:∀m l,gr (H m++l) A s:=λm l k=>pB (rs k) λb af G=>by
  have e:=C m b G
  rw[cI (List.getElem?_eq_some_iff.1 (e.trans (fJ G))).1];exact e
 have aD:∀m l,kr (H m++l) bw=y [g]:=λm l=>by
  refine TS ?_ l
  rw[<-aG]
  exact KR (C m bw (KS aG))
 obtain⟨cx,N⟩:∃cx:List Int->Z,cx=λm=>H (L++m.flatMap (kc s))++[.box [.yield b] 85 .rw,.loop [.ptr bD 0,.ptr (H L).length 0] [2,3] [8] s5 s6 .ready none .rw]:=⟨_,rfl⟩
 have eh:ry ((H L).length+1) (λm=>ok (L++m.flatMap (kc s))/\∀p∈m,0<=p/\p<s.aw.length) cx:=by
  constructor
  ·intro m;simp only[N,dV,bz (L++m.flatMap (kc s)) (L++[].flatMap (kc s))]
  ·rintro m p rest ⟨T,ay⟩
   obtain⟨aZ,a0⟩:=ay p (by simp)
   obtain⟨i,rfl⟩:∃i:Nat,p=(i:Int):=⟨p.toNat,by omega⟩
   obtain⟨o,Q⟩:=cR (show i<s.aw.length by omega)
   have nD:=ax o (dN Q)
   have ae:kc s (i:Int)=kb o.2:=by unfold kc;rw[mc,tc Q]
   rw[vr,<-eb,AT,ae]at T
   subst N
   have bG:(H (L++m.flatMap (kc s))++[.box [.yield b] 85 .rw,.loop [.ptr bD 0,.ptr (H L).length 0] [2,3] [8] s5 s6 .ready none .rw]++rest)[(H L).length+1]?=y (.loop [.ptr bD 0,.ptr (H L).length 0] [2,3] [8] s5 s6 .ready none .rw):=by
    rw[eb,bz L (L++m.flatMap (kc s)),gg]
    rfl
   refine JM (o.2.length+1) ((abY aL _ _ _ _ _ _ none .rw bG).trans ?_)
   unfold PO
   simp only[eb,js,hV]
   generalize aE:L++m.flatMap (kc s)=X at*
   have aA:∀Y,(H L).length+1=(H Y).length+1:=λY=>by rw[bz L Y]
   have aJ:∀l,ab M 1 (.ptr bD 10) (H X++l)=y (A .aw):=λl=>ez (af X l) (j_ A s)
   have ai:=pE (A:=A) Q
   have de:ao A s (.bN i)=o.2.map Cell.cs:=by simp only[ao,Q]
   have aK:bY 2 (A .aw) (J E (i:Int))=y (di (A .aw) (e9 o (A (.bN i))) i 0):=eM (R X [] .aw) .i64 ai
   have aN:∀l,ab M 1 (di (A .aw) (e9 o (A (.bN i))) i 1) (H X++l)=y (A (.bN i)):=λl=>(eZ (R X l .aw) ai _ _ _).trans (rr _ _)
   have W:∀Y l,dM (H Y++l) 6 (A (.bN i)) (o.2.map Cell.cs):=λY l=>by rw[<-de];exact R Y l (.bN i)
   have ak:=fA (W X [])
   rw[c9]at ak
   have cb:∀Y l,ab M 1 (.ptr (H L).length 0) (H Y++.box [.yield b] 85 .rw::l)=y (.yield b):=λY l=>by
    rw[lU]
    unfold kr
    rw[bz L Y,show(H Y).length=(H Y).length+0 from rfl,gg]
    rfl
   simp only[K2 (aA X),b8,q6,hh,aJ,aK,ih,aN,ak,↓aI]
   refine hx (λj=>[J E (j:Int)]) (λj=>H (X++kb (o.2.take j))++.box [.yield b] 85 .rw::.loop [.ptr bD 0,.ptr (H L).length 0] [2,3] [8] s5 s6 .busy none .rw::rest) o.2.length (by omega) rfl (by simp [kb]) (λj ac K=>?_) λK=>?_
   ·obtain⟨c,aa⟩:=cR ac
    have al:(o.2.map Cell.cs)[j]?=y c.cs:=by rw[iM,aa];rfl
    have am:bY 6 (A (.bN i)) (J E (j:Int))=y (di (A (.bN i)) c.cs j 0):=eM (W X []) .i64 al
    have aO:∀Y l,ab V 6 (di (A (.bN i)) c.cs j 0) (H Y++l)=y (.agg c.cs):=λY l=>(eZ (W Y l) al _ _ _).trans (gh rfl)
    have aR:o.2.take (j+1)=o.2.take j++[c]:=qd aa
    unfold JH
    obtain⟨t,an⟩:∃t:Z,t=.box [.yield b] 85 .rw::.loop [.ptr bD 0,.ptr (H L).length 0] [2,3] [8] s5 s6 .busy none .rw::rest:=⟨_,rfl⟩
    have ap:∀Y (q:b3) v,(∀n,bM n v)->Go.aM.trim (H X++t) [v] (H Y++(t++[q]))=H Y++t:=λY q v ay=>u.GF X Y t [q] (λw cb=>by rw[hp]at cb;subst cb;exact ay)
    have G:∀(z:Int) n,bM n (J E z):=λz n=>by simp only[bM]
    rw[<-an]
    rw[aR,T4]
    have aq:∀l,ab M 1 (.ptr (H L).length 0) (H (X++kb (o.2.take j))++t++l)=y (.yield b):=λl=>by
     rw[an,eb,js];exact cb _ _
    obtain⟨x,O⟩:∃x:Z,x=H (X++kb (o.2.take j))++t:=⟨_,rfl⟩
    have aT:∀(q:b3) v,(∀n,bM n v)->Go.aM.trim (H X++t) [v] (x++[q])=x:=λq v ay=>by
     rw[O,eb]
     exact ap _ q v ay
    have ar:ab V 6 (di (A (.bN i)) c.cs j 0) x=y (.agg c.cs):=by rw[O];exact aO _ _
    rw[<-O]at aq|-
    by_cases P:c.inst>0
    ·have ba:∀q:b3,aL dX [.ptr b 0,J E c.inst] (x++[q])=y (.bool V,H (X++(kb (o.2.take j)++[c.inst]))++(t++[q])):=λq=>by
      have:=u.xw (X++kb (o.2.take j)) c.inst (t++[q]) (by
       have e:kb o.2=kb (o.2.take j++[c]++o.2.drop (j+1)):=by rw[<-aR,rG]
       have aX:kb (o.2.take j++[c]++o.2.drop (j+1))=kb (o.2.take j++[c])++kb (o.2.drop (j+1)):=by unfold kb;rw[jt,AS]
       rw[e,aX,T4,aP P]at T
       have au:=T
       rw[<-eb,<-eb]at au
       exact u.pre _ _ au)
      rw[O,eb,this,eb]
     rw[aP P]
     simp only[aU,↓aI,aV,c9,↓mD,sZ,cQ ac,cr,a_,am,ar,GH,GG,GI,xp,P,aq,z',ba,fg,bn,bh,cO (show j<9223372036854775807 by omega),ap _ _ _ (G _)]
    ·rw[aW P]
     simp only[aU,↓aI,aV,c9,↓mD,sZ,cQ ac,cr,a_,am,ar,GH,GG,GI,xp,P,c4,bn,bh,cO (show j<9223372036854775807 by omega),aT _ _ (G _)]
     rw[O]
   ·unfold JH
    simp only[aU,↓aI,aV,c9,gl,c4,bn,bh,iy,K3 (aA _),qf]
    rw[hf _ (by simp [bz (X++kb o.2) X]),vr,AT,ae,<-eb,aE]
  ·intro m D k ad
   subst N
   simp only at ad|-
   have av:(H (L++[].flatMap (kc s))).length=(H (L++m.flatMap (kc s))).length:=bz _ _
   rw[dV,av,<-dV]at ad
   have:=u.K1 (L++m.flatMap (kc s)) (L++D.flatMap (kc s)) _ k ad
   rw[dV,<-av,<-dV]at this
   exact this
  ·rintro A bL ⟨h1,h2⟩
   refine⟨?_,λp ah=>h2 p (oc _ ah)⟩
   rw[vr,<-eb]at h1
   exact u.pre _ _ h1
 have aB:=S _ _ cx [] eh (λm k ad=>by
  subst N
  have:k<(H (L++m.flatMap (kc s))).length:=(List.getElem?_eq_some_iff.1 ((C _ k ad).trans (fJ ad))).1
  rw[cI this]
  exact C _ k ad) (by simpa using⟨aC,ah⟩)
 subst N
 refine cu (F:=D4) (by kernel_rfl) 1 ?_
 rw[adq];unfold PN
 simp only[hV,List.flatMap_nil,fD]at aB
 have aY:∀l,ab M 1 (.ptr bw 0) (H L++l)=y g:=λl=>TR (aD L l) rfl
 have aA:(H L).length+1=(H (L++bH.flatMap (kc s))).length+1:=by rw[bz L]
 simp only[b8,m8,T3,aY,dV,jS,List.length_nil,hh,eb,js,hV,aB,T1 aA,T2 aA,KU,↓aI]
 have aR:=u.GF L (L++bH.flatMap (kc s)) [.box [.yield b] 85 .rw] [.dead] (r:=[]) (by simp)
 simp only[js,hV]at aR
 rw[aR,z7,u.trim _ _ (by simp)]
theorem ahY{h:Z}{k n:Nat}{t2:a1}{md2:ep}(e:h[k]?=y (.box [J E n] t2 md2))(aA:n<=70000):nZ h (.func 97 [] [.ptr k 0]) (cG n):=by
 intro b ok H L S g c
 rw[zc aL 97]
 show aL 97 [.yield b,.ptr k 0] (H L)=_
 have af:(H L)[k]?=y (.box [J E n] t2 md2):=(g L k (List.getElem?_eq_some_iff.1 e).1).trans e
 refine cu (F:=D5) (by kernel_rfl) (n+1) ?_
 rw[adr];unfold PQ
 simp only[aU,↓aI,aV,ez af (xz _)]
 refine hx (λi=>[J E (i:Int)]) (λi=>H (L++cG i)) n (by omega) rfl (by show H (L++[])=_;rw[fD]) (λi ai K=>?_) λK=>?_
 ·have ba:=S.xw (L++cG i) (i:Int) [] (by
   obtain⟨r,an⟩:∃r,cG n=cG (i+1)++r:=by
    refine⟨(cG n).drop (i+1),?_⟩
    have:cG (i+1)=(cG n).take (i+1):=by
     unfold cG
     rw[<-List.map_take,List.take_range,ns (by omega)]
    rw[this,rG]
   rw[an,K0,<-eb,<-eb]at c
   exact S.pre _ _ c)
  have aR:=S.trim L (L++(cG i++[(i:Int)])) (r:=[J E ((i+1:Nat):Int)]) (λv ay=>by rw[hp]at ay;subst ay;simp only[bM]) []
  rw[fD]at aR
  rw[fD,fD,eb]at ba
  rw[K0]
  unfold JI
  simp only[aU,↓aI,aV,cQ ai,cr,a_,z',ba,fg,bn,bh,cO (show i<9223372036854775807 by omega)]
  exact cZ (K _) aR
 ·have aE:((n:Int)<(n:Int))=False:=dI (by omega)
  have aR:=S.trim L (L++cG n) (r:=[]) (by simp) []
  rw[fD]at aR
  unfold JI
  simp only[aU,↓aI,aV,aE,c4,bn,bh,z7,aR]
def fw(l:List Int):List Int:=(l.filter λx=>decide (x>0)).map λx=>x-1
theorem Ac(a b:List Int):fw (a++b)=fw a++fw b:=by unfold fw;rw[AS,jt]
theorem T5{h:Z}{bw:Nat}{g:U}{bH:List Int}(aG:kr h bw=y [g])(S:nZ h g bH)(ah:∀p∈bH,0<=p/\p<=70000):nZ h (.func 95 [] [.ptr bw 0]) (fw bH):=by
 intro b ok H L e n w
 rw[zc aL 95]
 show aL 95 [.yield b,.ptr bw 0] (H L)=_
 have bz:∀c i,(H c).length=(H i).length:=λc i=>by rw[e.len c,e.len i]
 have x:∀c l,kr (H c++l) bw=y [g]:=λc l=>by
  refine TS ?_ l
  rw[<-aG]
  exact KR (n c bw (KS aG))
 obtain⟨cx,j⟩:∃cx:List Int->Z,cx=λc=>H (L++fw c)++[.box [.yield b] 85 .rw,.loop [.ptr (H L).length 0] [2] [5] wS wT .ready none .rw]:=⟨_,rfl⟩
 have eh:ry ((H L).length+1) (λc=>ok (L++fw c)/\∀p∈c,0<=p/\p<=70000) cx:=by
  constructor
  ·intro c;simp only[j,dV,bz (L++fw c) (L++fw [])]
  ·rintro c p rest ⟨o,ay⟩
   obtain⟨G,K⟩:=ay p (by simp)
   rw[Ac,<-eb]at o
   subst j
   have bG:(H (L++fw c)++[.box [.yield b] 85 .rw,.loop [.ptr (H L).length 0] [2] [5] wS wT .ready none .rw]++rest)[(H L).length+1]?=y (.loop [.ptr (H L).length 0] [2] [5] wS wT .ready none .rw):=by
    rw[eb,bz L (L++fw c),gg]
    rfl
   refine JM 1 ((abW aL _ _ _ _ _ none .rw bG).trans ?_)
   unfold PM
   simp only[eb,js,hV]
   generalize q:L++fw c=X at*
   have aA:∀Y,(H L).length+1=(H Y).length+1:=λY=>by rw[bz L Y]
   have cb:∀Y l,ab M 1 (.ptr (H L).length 0) (H Y++.box [.yield b] 85 .rw::l)=y (.yield b):=λY l=>by
    rw[lU]
    unfold kr
    rw[bz L Y,show(H Y).length=(H Y).length+0 from rfl,gg]
    rfl
   have z:IntKind.i64.wrap (p-1)=p-1:=wrap64 (by unfold dB;omega)
   by_cases m:p>0
   ·have ai:fw [p]=[p-1]:=by simp [fw,m]
    have ba:∀l,aL dX [.ptr b 0,J E (p-1)] (H X++l)=y (.bool V,H (X++[p-1])++l):=λl=>e.xw X (p-1) l (by rw[ai]at o;exact o)
    simp only[K2 (aA X),aU,↓aI,aV,↓mD,sZ,m,cr,a_,cb,z,z',ba,fg,bn,bh,K3 (aA (X++[p-1])),qf]
    rw[hf _ (by simp [bz (X++[p-1]) X]),Ac,ai,<-eb,q]
   ·have ai:fw [p]=[]:=by simp [fw,m]
    simp only[K2 (aA X),aU,↓aI,aV,↓mD,sZ,m,c4,bn,bh,K3 (aA X),qf]
    rw[hf _ (by simp),Ac,ai,fD,q]
  ·intro c i k ad
   subst j
   simp only at ad|-
   have t:(H (L++fw [])).length=(H (L++fw c)).length:=bz _ _
   rw[dV,t,<-dV]at ad
   have:=e.K1 (L++fw c) (L++fw i) _ k ad
   rw[dV,<-t,<-dV]at this
   exact this
  ·rintro A bL ⟨h1,h2⟩
   refine⟨?_,λp ah=>h2 p (oc _ ah)⟩
   rw[Ac,<-eb]at h1
   exact e.pre _ _ h1
 have u:=S _ _ cx [] eh (λc k ad=>by
  subst j
  have:k<(H (L++fw c)).length:=(List.getElem?_eq_some_iff.1 ((n _ k ad).trans (fJ ad))).1
  rw[cI this]
  exact n _ k ad) (by simpa using⟨w,ah⟩)
 subst j
 refine cu (F:=D3) (by kernel_rfl) 1 ?_
 rw[adp];unfold PL
 have C:fw []=[]:=rfl
 simp only[hV,C,fD]at u
 have D:∀l,ab M 1 (.ptr bw 0) (H L++l)=y g:=λl=>TR (x L l) rfl
 have aA:(H L).length+1=(H (L++fw bH)).length+1:=by rw[bz L]
 simp only[b8,m8,T3,D,dV,jS,List.length_nil,hh,eb,js,hV,u,T1 aA,T2 aA,KU,↓aI]
 have aR:=e.GF L (L++fw bH) [.box [.yield b] 85 .rw] [.dead] (r:=[]) (by simp)
 simp only[js,hV]at aR
 rw[aR,z7,e.trim _ _ (by simp)]
def fI(x:c5):List Int:=x.keys.map λk=>k.2
theorem K4(c:Int×Int)(vs:List U)(t:a1)(l:Z):bf 2 (.ptr 0 0) (.agg (cW c)) (.box vs t .rw::l)=(cF vs 0 (cW c)).map λck=>.box ck t .rw::l:=jh rfl (by decide)
theorem K5(c:Int×Int)(a b:U):cF [a,b] 0 (cW c)=y (cW c):=ib rfl rfl
theorem ahZ{h:Z}{k:Nat}{s:aH}{A:aS->U}{t2:a1}{md2:ep}(e:h[k]?=y (.box (aQ A s) t2 md2))(rs:gr h A s)(u:gX s):nZ h (.func 98 [] [.ptr k 0]) (s.ag.flatMap fI):=by
 intro b ok H L j C D
 rw[zc aL 98]
 show aL 98 [.yield b,.ptr k 0] (H L)=_
 have bz:∀g q,(H g).length=(H q).length:=λg q=>by rw[j.len g,j.len q]
 have af:∀g l,(H g++l)[k]?=y (.box (aQ A s) t2 md2):=λg l=>by
  have:=(C g k (List.getElem?_eq_some_iff.1 e).1).trans e
  rw[cI (List.getElem?_eq_some_iff.1 this).1];exact this
 have p:∀g l,gr (H g++l) A s:=λg l k=>pB (rs k) λb af m=>by
  have e:=C g b m
  rw[cI (List.getElem?_eq_some_iff.1 (e.trans (fJ m))).1];exact e
 have ac:∀g l,ab M 1 (.ptr k 12) (H g++l)=y (A .ag):=λg l=>ez (af g l) (i_ A s)
 have ad:ab M 1 (.ptr k 12) (H L)=y (A .ag):=by have:=ac L [];rwa [fD]at this
 have ah:(ao A s .ag).length=s.ag.length:=by simp [ao]
 have G:=fA (p L [] .ag)
 rw[ah]at G
 have m:∀(z:Int) n,bM n (J E z):=λz n=>by simp only[bM]
 have ax:=u.ag
 refine cu (F:=D6) (by kernel_rfl) 70001 ?_
 generalize ay:(70001:Nat)=N
 rw[ads];unfold PR
 simp only[aU,↓aI,aV,ad,G]
 refine hx (λi=>[J E (i:Int)]) (λi=>H (L++(s.ag.take i).flatMap fI)) s.ag.length (by omega) rfl (by simp) (λi ai K=>?_) λK=>?_
 ·obtain⟨x,ae⟩:=cR ai
  have aR:s.ag.take (i+1)=s.ag.take i++[x]:=qd ae
  have aC:=(u.ins x (dN ae)).1
  obtain⟨X,O⟩:∃X,X=L++(s.ag.take i).flatMap fI:=⟨_,rfl⟩
  rw[aR,vr,AT,<-eb,<-O]
  have P:=la (A:=A) ae
  have de:ao A s (.key i)=x.keys.map cW:=by simp only[ao,ae]
  have ak:bY 33 (A .ag) (J E (i:Int))=y (di (A .ag) (b1 x (A (.key i)) (A (.bq i)) (A (.bm i)) (A (.bo i))) i 0):=eM (p X [] .ag) .i64 P
  have al:ab V 33 (di (A .ag) (b1 x (A (.key i)) (A (.bq i)) (A (.bm i)) (A (.bo i))) i 0) (H X)=y (.agg (b1 x (A (.key i)) (A (.bq i)) (A (.bm i)) (A (.bo i)))):=by
   have:=(eZ (p X [] .ag) P V 33 0).trans (gh rfl)
   rwa [fD]at this
  have t:∀Y l,dM (H Y++l) 2 (A (.key i)) (x.keys.map cW):=λY l=>by rw[<-de];exact p Y l (.key i)
  have Q:=fA (t X [])
  rw[c9]at Q
  have am:=KL x (A (.key i)) (A (.bq i)) (A (.bm i)) (A (.bo i)) KN (kQ (rs (.key i))) (kQ (rs (.bq i))) (kQ (rs (.bm i))) (kQ (rs (.bo i)))
  obtain⟨bx,an⟩:∃bx,bx=b3.box (b1 x (A (.key i)) (A (.bq i)) (A (.bm i)) (A (.bo i))) 57 .rw:=⟨_,rfl⟩
  have R:∀jj:List U->Z->bl,cv (D7 aL N (.yield b) (H L) (H X++[bx]) (A (.key i)) (J E x.keys.length) jj) N [J E 0] (H X++[bx])=jj [] (H (X++fI x)++[bx]):=λjj=>by
   refine hx (λn=>[J E (n:Int)]) (λn=>H (X++(x.keys.take n).map λk=>k.2)++[bx]) x.keys.length (by omega) rfl (by simp) (λn aA K=>?_) λK=>?_
   ·obtain⟨c,aa⟩:=cR aA
    have S:x.keys.take (n+1)=x.keys.take n++[c]:=qd aa
    have T:(x.keys.map cW)[n]?=y (cW c):=by rw[iM,aa];rfl
    obtain⟨Y,W⟩:∃Y,Y=X++(x.keys.take n).map λk=>k.2:=⟨_,rfl⟩
    have ap:bY 2 (A (.key i)) (J E (n:Int))=y (di (A (.key i)) (cW c) n 0):=eM (t X []) .i64 T
    have aq:ab V 2 (di (A (.key i)) (cW c) n 0) (H Y++[bx])=y (.agg (cW c)):=(eZ (t Y _) T _ _ _).trans (gh rfl)
    have ba:∀l,aL dX [.ptr b 0,J E c.2] (H Y++l)=y (.bool V,H (Y++[c.2])++l):=λl=>j.xw Y c.2 l (by
     have aG:s.ag.flatMap fI=(s.ag.take i).flatMap fI++(((x.keys.take n).map λk=>k.2)++([c.2]++(((x.keys.drop (n+1)).map λk=>k.2)++(s.ag.drop (i+1)).flatMap fI))):=by
      have aF:s.ag=s.ag.take i++[x]++s.ag.drop (i+1):=by rw[<-aR,rG]
      have ar:fI x=((x.keys.take n).map λk=>k.2)++([c.2]++((x.keys.drop (n+1)).map λk=>k.2)):=by
       have au:x.keys=x.keys.take n++[c]++x.keys.drop (n+1):=by rw[<-S,rG]
       show x.keys.map _=_
       conv=>lhs;rw[au]
       simp
      conv=>lhs;rw[aF]
      rw[vr,vr,AT,ar]
      simp
     rw[aG,<-eb,<-O,<-eb,<-W,<-eb]at D
     exact j.pre _ _ D)
    have aB:n<9223372036854775807:=by omega
    have o:=j.GF X (Y++[c.2]) [bx] [.box (cW c) 89 .rw] (r:=[J E ((n+1:Nat):Int)]) (λw cb=>by rw[hp]at cb;subst cb;exact m _)
    simp only[js,hV]at o
    rw[S,jt,<-eb,<-W]
    have av:=ba [bx,.box (cW c) 89 .rw]
    unfold D7
    simp only[aU,↓aI,aV,cQ aA,cr,a_,ap,aq,K4,K5,z6,z',av,fg,bn,bh,cO aB]
    exact cZ (K _) o
   ·have aE:((x.keys.length:Int)<(x.keys.length:Int))=False:=dI (by omega)
    unfold D7
    simp only[aU,↓aI,aV,aE,c4,bn,bh,iy]
    rfl
  have aB:i<9223372036854775807:=by omega
  have o:=j.trim L (X++fI x) (r:=[J E ((i+1:Nat):Int)]) (λw cb=>by rw[hp]at cb;subst cb;exact m _ _) [bx]
  rw[an]at R o
  unfold JJ
  simp only[aU,↓aI,aV,cQ ai,cr,a_,ak,al,KM,am,j',Q,R,cO aB]
  exact cZ (K _) o
 ·have aE:((s.ag.length:Int)<(s.ag.length:Int))=False:=dI (by omega)
  have aR:=j.trim L (L++s.ag.flatMap fI) (r:=[]) (by simp) []
  rw[fD]at aR
  unfold JJ
  simp only[aU,↓aI,aV,aE,c4,bn,bh,z7,iy,aR]
end Go.aM.X
namespace Go.aM.X
open Go.bF Go.aM
structure n6(base:Nat)(D:aS->Prop)(n7 H:Z)(A:aS->U)(R:aS->List (List U)):Prop where
 fi:∀k,D k->cY H base (dQ k) (hn k) (A k) (R k)
 inj:∀k k' b,j8 (A k)=y b->j8 (A k')=y b->k=k'
 len:H.length=n7.length
 low:∀b,b<base->H[b]?=n7[b]?
theorem n6.mono{base:Nat}{D b:aS->Prop}{n7 H:Z}{A:aS->U}{R:aS->List (List U)}(f:n6 base D n7 H A R)(h:∀k,b k->D k):n6 base b n7 H A R:=⟨λk ad=>f.fi k (h k ad),f.inj,f.len,f.low⟩
theorem n6.set{base:Nat}{D:aS->Prop}{n7 H:Z}{A:aS->U}{R:aS->List (List U)}(f:n6 base D n7 H A R){k:aS}(ad:D k){b:Nat}(af:j8 (A k)=y b)(blk:b3):n6 base (λk'=>D k'/\k'≠k) n7 (H.set b blk) A R:=
 ⟨λk' g=>jL (f.fi k' g.1) λc aa _=>hP (λe=>g.2 (f.inj _ _ _ (e▸aa) af)),f.inj,by rw[iz];exact f.len,λc aa=>by
  rw[hP (by have:=(lA (f.fi k ad) af).1;omega)];exact f.low c aa⟩
theorem tw{base:Nat}{D:aS->Prop}{n7 H:Z}{A:aS->U}{R:aS->List (List U)}(f:n6 base D n7 H A R){k:aS}(ad:D k)(ah:(R k).flatten.all fR=V):∃b4,cC (.flat (dQ k)) (A k) H=y (.bE (dQ k) (R k),b4)/\n6 base (λk'=>D k'/\k'≠k) n7 b4 A R:=by
 have o:=f.fi k ad
 generalize ay:A k=v at o
 generalize an:R k=rows at o ah
 cases o with
 |emp=>exact⟨H,Y8 _ _,f.mono λk' h=>h.1⟩
 |ref b n _ af e aA=>
  by_cases av:n=0
  ·refine⟨H,?_,f.mono λk' h=>h.1⟩
   subst av
   rw[gF aA.symm]
   simp only[cC,a_]
  ·refine⟨_,?_,f.set ad (b:=b) (by rw[ay];rfl) (.log rows (dQ k) (hn k) .ro)⟩
   simp only[cC]
   rw[aW av,e]
   simp only
   rw[aP ⟨aA.symm,trivial,by omega,by rw[oZ,aA,iy];exact ah⟩,oZ,aA,iy]
theorem T6{cs:List fs}(P:Nat->Z->Prop):∀(rows rows':List (List U)) (i:Nat),rows.length=rows'.length->(∀j r dO H,rows[j]?=y r->rows'[j]?=y dO->P (i+j) H->∃b4,gk cs r H=y (dO,b4)/\P (i+j+1) b4)->∀H,P i H->∃b4,mr cs rows H=y (rows',b4)/\P (i+rows.length) b4
 |[],[],i,_,_,H,h=>⟨H,by unfold mr;rfl,h⟩
 |r::rs,dO::b,i,ax,aB,H,h=>by
  obtain⟨c',h1,h2⟩:=aB 0 r dO H rfl rfl h
  obtain⟨cx,ak,aJ⟩:=T6 P rs b (i+1) (by simpa using ax) (λj a a' G aG aF ah=>by
   have:=aB (j+1) a a' G aG aF (by rw[show i+(j+1)=i+1+j by omega];exact ah)
   rwa [show i+(j+1)+1=i+1+j+1 by omega]at this) c' h2
  refine⟨cx,?_,by rw[jS,show i+(rs.length+1)=i+1+rs.length by omega];exact aJ⟩
  unfold mr
  rw[h1,dy,ak];rfl
theorem K6{base:Nat}{D:aS->Prop}{n7 H:Z}{A:aS->U}{R:aS->List (List U)}{cs:List fs}(f:n6 base D n7 H A R){k:aS}(ad:D k)(P:Nat->Z->Prop)(rows':List (List U))(ax:(R k).length=rows'.length)(ah:rows'.flatten.all fR=V)
 (av:∀G,n6 base (λk'=>D k'/\k'≠k) n7 G A R->P 0 G) (aB:∀j r dO G,(R k)[j]?=y r->rows'[j]?=y dO->P j G->∃b4,gk cs r G=y (dO,b4)/\P (j+1) b4):
 ∃b4,cC (.bZ (dQ k) cs) (A k) H=y (.bE (dQ k) rows',b4)/\P rows'.length b4:=by
 have o:=f.fi k ad
 generalize ay:A k=v at o
 generalize an:R k=rows at o ax aB
 cases o with
 |emp=>
  have:rows'=[]:=gF ax.symm
  subst this
  exact⟨H,Y9 _ _ _,av H (f.mono λk' h=>h.1)⟩
 |ref b n _ af e aA=>
  by_cases bu:n=0
  ·have:rows'=[]:=gF (by omega)
   subst this
   refine⟨H,?_,av H (f.mono λk' h=>h.1)⟩
   subst bu
   simp only[cC,a_]
  ·have f1:=f.set ad (b:=b) (by rw[ay];rfl) (.log rows (dQ k) (hn k) .ro)
   obtain⟨b4,h1,h2⟩:=T6 P rows rows' 0 ax (λj r dO G aG aF ah=>by
    rw[hh]at ah|-
    exact aB j r dO G aG aF ah) _ (av _ f1)
   refine⟨b4,?_,by rw[<-ax];simpa using h2⟩
   simp only[cC]
   rw[aW bu,e]
   simp only
   rw[aP ⟨aA.symm,trivial,by omega⟩,oZ,aA,iy,h1,dy]
   simp only
   rw[aP ah]
theorem K7{α:Type}{f:α->List U}(h:∀a,(f a).all fR=V)(l:List α):((l.map f).flatten).all fR=V:=by
 rw[AP]
 intro x ae
 obtain⟨r,an,ae⟩:=List.mem_flatten.1 ae
 obtain⟨a,_,rfl⟩:=List.mem_map.1 an
 exact List.all_eq_true.1 (h a) x ae
def T7:List fs:=[.aj,.aj,.aj,.flat 1,.aj,.aj,.aj,.aj,.aj,.flat 1,.bZ 2 [.aj,.flat 6],.bZ 13 [.aj,.flat 1,.aj,.aj,.aj,.aj,.aj,.aj,.aj,.aj,.aj,.aj,.aj],.bZ 33 [.aj,.flat 2,.aj,.flat 2,.aj,.aj,.aj,.aj,.aj,.aj,.aj,.flat 2,.aj,.aj,.aj,.aj,.aj,.aj,.aj,.flat 2,.aj,.aj,.aj,.aj,.aj,.aj,.aj,.aj,.aj,.aj,.aj,.aj,.aj]]
theorem T8{av H:Z}{A:aS->U}{s:aH}(own:cD av db H A s):∃b4,gk T7 (aQ A s) H=y (s.cs,b4)/\b4.length=H.length/\∀b,b<av.length->b4[b]?=H[b]?:=by
 have f0:n6 av.length (λ_=>True) H H A (ao A s):=⟨λk _=>own.new.fi k,own.new.inj,rfl,λb _=>rfl⟩
 obtain⟨c',aG,f1⟩:=tw f0 (k:=.bk) trivial (nP (f:=bA) (λc=>rfl) _)
 obtain⟨cx,aF,f2⟩:=tw f1 (k:=.cy) ⟨trivial,by simp⟩ (nP (f:=bA) (λc=>rfl) _)
 obtain⟨w,g,f3⟩:=K6 (cs:=[.aj,.flat 6]) f2 (k:=.aw) ⟨⟨trivial,by simp⟩,by simp⟩
  (λi G=>n6 av.length (λk=>k≠.bk/\k≠.cy/\k≠.aw/\∀j,j<i->k≠.bN j) H G A (ao A s)) (s.aw.map dL) (by simp [ao]) (K7 (λp=>rfl) _)
  (λG f=>f.mono λk h=>⟨⟨⟨trivial,h.1⟩,h.2.1⟩,h.2.2.1⟩) (λj r dO G an gQ f=>by
    obtain⟨p,ah⟩:∃p,s.aw[j]?=y p:=by
     have:=(List.getElem?_eq_some_iff.1 gQ).1
     rw[c9]at this
     exact cR this
    rw[pE ah]at an
    rw[iM,ah]at gQ
    cases an;cases gQ
    have de:ao A s (.bN j)=p.2.map Cell.cs:=by simp only[ao,ah]
    obtain⟨b4,e,bX⟩:=tw f (k:=.bN j) ⟨by simp,by simp,by simp,λi ai=>by simp;omega⟩ (by rw[de];exact nP (f:=Cell.cs) (λc=>rfl) _)
    rw[de]at e
    refine⟨b4,?_,bX.mono λk h=>⟨⟨h.1,h.2.1,h.2.2.1,λi ai=>h.2.2.2 i (by omega)⟩,h.2.2.2 j (by omega)⟩⟩
    simp only[dQ]at e
    unfold e9
    simp only[iV,jK,kN,dy,dw,e]
    rfl)
 obtain⟨x,l,f4⟩:=K6 (cs:=[.aj,.flat 1,.aj,.aj,.aj,.aj,.aj,.aj,.aj,.aj,.aj,.aj,.aj]) f3 (k:=.az) ⟨by simp,by simp,by simp,λi ai=>by simp⟩
  (λi G=>n6 av.length (λk=>(k≠.bk/\k≠.cy/\k≠.aw/\k≠.az)/\(∀j,k≠.bN j)/\∀j,j<i->k≠.b5 j) H G A (ao A s)) (s.az.map ey.cs) (by simp [ao]) (K7 (λp=>rfl) _)
  (λG f=>f.mono λk h=>⟨⟨h.1.1,h.1.2.1,h.1.2.2.1,λj _=>h.2.1 j⟩,h.1.2.2.2⟩) (λj r dO G an gQ f=>by
    obtain⟨p,ah⟩:∃p,s.az[j]?=y p:=by
     have:=(List.getElem?_eq_some_iff.1 gQ).1
     rw[c9]at this
     exact cR this
    rw[uZ ah]at an
    rw[iM,ah]at gQ
    cases an;cases gQ
    have de:ao A s (.b5 j)=p.data.map bA:=by simp only[ao,ah]
    obtain⟨b4,e,bX⟩:=tw f (k:=.b5 j) ⟨by simp,by simp,λi ai=>by simp;omega⟩ (by rw[de];exact nP (f:=bA) (λc=>rfl) _)
    rw[de]at e
    refine⟨b4,?_,bX.mono λk h=>⟨⟨h.1,h.2.1,λi ai=>h.2.2 i (by omega)⟩,h.2.2 j (by omega)⟩⟩
    simp only[dQ]at e
    unfold j9
    simp only[iV,jK,kN,dy,dw,e]
    rfl)
 obtain⟨t,m,f5⟩:=K6 (cs:=[.aj,.flat 2,.aj,.flat 2,.aj,.aj,.aj,.aj,.aj,.aj,.aj,.flat 2,.aj,.aj,.aj,.aj,.aj,.aj,.aj,.flat 2,.aj,.aj,.aj,.aj,.aj,.aj,.aj,.aj,.aj,.aj,.aj,.aj,.aj]) f4 (k:=.ag) ⟨by simp,by simp,λi ai=>by simp⟩
  (λi G=>n6 av.length (λk=>∃j,i<=j/\(k=.key j\/k=.bq j\/k=.bm j\/k=.bo j)) H G A (ao A s)) (s.ag.map c5.cs) (by simp [ao]) (K7 (λp=>rfl) _)
  (λG f=>f.mono λk h=>by
    obtain⟨j,_,h⟩:=h
    rcases h with rfl|rfl|rfl|rfl<;>exact⟨⟨by simp,by simp,λi ai=>by simp⟩,by simp⟩) (λj r dO G an gQ f=>by
    obtain⟨p,ah⟩:∃p,s.ag[j]?=y p:=by
     have:=(List.getElem?_eq_some_iff.1 gQ).1
     rw[c9]at this
     exact cR this
    rw[la ah]at an
    rw[iM,ah]at gQ
    cases an;cases gQ
    have de:ao A s (.key j)=p.keys.map cW:=by simp only[ao,ah]
    have n:ao A s (.bq j)=p.bq.dk.map jB:=by simp only[ao,ah]
    have o:ao A s (.bm j)=p.bm.dk.map jB:=by simp only[ao,ah]
    have q:ao A s (.bo j)=p.bo.dk.map jB:=by simp only[ao,ah]
    obtain⟨z,cL,bw⟩:=tw f (k:=.key j) ⟨j,cj _,by simp⟩ (by rw[de];exact nP (f:=cW) (λc=>rfl) _)
    obtain⟨B,cN,bD⟩:=tw bw (k:=.bq j) ⟨⟨j,cj _,by simp⟩,by simp⟩ (by rw[n];exact nP (f:=jB) (λc=>rfl) _)
    obtain⟨C,dT,da⟩:=tw bD (k:=.bm j) ⟨⟨⟨j,cj _,by simp⟩,by simp⟩,by simp⟩ (by rw[o];exact nP (f:=jB) (λc=>rfl) _)
    obtain⟨u,fO,c1⟩:=tw da (k:=.bo j) ⟨⟨⟨⟨j,cj _,by simp⟩,by simp⟩,by simp⟩,by simp⟩ (by rw[q];exact nP (f:=jB) (λc=>rfl) _)
    rw[de]at cL
    rw[n]at cN
    rw[o]at dT
    rw[q]at fO
    simp only[dQ]at cL cN dT fO
    refine⟨u,?_,c1.mono λk h=>?_⟩
    ·unfold b1 ga
     simp only[js,hV,iV,jK,kN,dy,dw,cL,cN,dT,fO]
     rfl
    ·obtain⟨i,ai,h⟩:=h
     rcases h with rfl|rfl|rfl|rfl<;>exact⟨⟨⟨⟨⟨i,by omega,by simp⟩,by simp<;>omega⟩,by simp<;>omega⟩,by simp<;>omega⟩,by simp<;>omega⟩)
 refine⟨t,?_,f5.len,f5.low⟩
 simp only[dQ]at aG aF g l m
 unfold T7 aQ
 simp only[iV,jK,kN,dy,dw,aG,aF,g,l,m]
 rfl
theorem GJ{s:aH}(ok:sd s){i:c5}(ai:i∈s.ag):l0 i=V/\∀k∈i.keys,¬k.2>(s.az.length:Int):=by
 have:=ok.ag i ai
 unfold ky at this
 split at this
 ·cases this
 ·rename_i h1
  split at this
  ·cases this
  ·rename_i h2
   refine⟨by simpa using h1,λk ad b=>h2 ?_⟩
   rw[List.any_eq_true]
   exact⟨k,ad,by simpa using b⟩
theorem ah0{s:aH}(ok:sd s){o:Int}(h:o∈dA s.bk):0<=o/\o<s.aw.length:=by
 rw[z_]at h
 have h1:=ok.bk o h.1
 unfold k9 b9 at h1
 rw[h.2]at h1
 have h2:=ok.pA
 unfold b9 at h2
 simp only[dn,eJ]at h2
 have br:f' s.bO 2<9223372036854775807:=px (λr=>l2 r 2<9223372036854775807) (by decide) (by decide) (by decide) (by decide) (by decide) (by decide) (by decide) _
 have cb:IntKind.i64.wrap ((s.aw.length:Int)-1)=(s.aw.length:Int)-1:=by rw[wrap64 (by unfold dB;omega)]
 rw[cb]at h1
 simp only[gN,hq,L7,dn,eJ]at h1
 omega
theorem K8{s:aH}(ok:sd s){p:d_}(ah:p∈s.aw):p.2.length<=1024/\∀c∈p.2,0<=c.inst/\c.inst<=hS s:=by
 have:=ok.aw p ah
 unfold kx at this
 split at this
 ·cases this
 ·rename_i h1
  split at this
  ·cases this
  ·rename_i h2
   have b:sb s p=M:=by simpa using h1
   unfold sb at b
   rw[rE,rE]at b
   have e:nS p.1 p.2 s.ch=V:=by simpa using b.1.2
   unfold nS b9 at e
   simp only[dn,eJ,i']at e
   obtain⟨⟨⟨⟨g,h⟩,a3,a4⟩,a5⟩,i⟩:=e
   have k:p.1*s.ch<=64*16:=xW a4 h (by omega) (by omega)
   have l:1*1<=p.1*s.ch:=xW a3 g (by omega) (by omega)
   rw[wrap64 (by unfold dB;omega)]at a5
   refine⟨by omega,λc aa=>⟨?_,?_⟩⟩
   ·have:=List.all_eq_true.1 i c aa
    unfold k7 b9 at this
    simp only[dn,eJ]at this
    omega
   ·rw[List.any_eq_true]at h2
    have ak:¬c.inst>hS s:=λj=>h2 ⟨c,aa,by simpa using j⟩
    omega
def fW(s:aH):Nat:=if eL s.bO 6=V then s.ag.length else s.az.length
structure fB(s:aH):Prop where
 fU:gX s
 ne:s.aw≠[]
 bk:∀o∈s.bk,mark o=M->0<=o/\o<s.aw.length
 nh:∀p∈s.aw,∀c∈p.2,fv c.inst (fW s)
 keys:∀x∈s.ag,∀c∈x.keys,fv c.2 s.az.length
theorem K9{e:bP}{lo ai:Int}(h:pv e lo ai=V):e.dk.length<=70000:=by
 unfold pv at h
 simp only[dn,mf,rE,iA]at h
 omega
theorem fB.oQ{s:aH}(ok:sd s):fB s:=by
 have hd:b9 s.bO 1 6=V:=ok.bO
 have bI:=Sx s.bO
 have g:=ok.ch
 have ah:=ok.pA
 have h:f' s.bO 2<=32:=px (λr=>l2 r 2<=32) (by decide) (by decide) (by decide) (by decide) (by decide) (by decide) (by decide) s.bO
 have b:=ok.th
 have i:=ok.ti
 have aB:=ok.qt
 have ai:=ok.rq
 unfold b9 at g ah b
 simp only[dn,eJ]at g ah b
 refine⟨⟨by omega,by omega,by omega,by omega,by omega,λp ah=>by have:=(K8 ok ah).1;omega,λx ae=>?_,λx ae=>?_⟩,λe=>by rw[e]at ah;simp at ah,λo b hm=>ah0 ok ((z_ s.bk o).2 ⟨b,hm⟩),λp ah c aa=>?_,λx ae c aa=>?_⟩
 ·have:=ok.az x ae
  unfold kP nT at this
  simp only[dn,eJ]at this
  omega
 ·have:=(GJ ok ae).1
  unfold l0 at this
  simp only[dn,mM,i']at this
  obtain⟨_,_,h1,h2,ak,aJ,_⟩:=this
  exact⟨by omega,K9 h2,K9 ak,K9 aJ⟩
 ·have h1:=(K8 ok ah).2 c aa
  unfold fv fW
  have:hS s=(if eL s.bO 6=V then(s.ag.length:Int)else s.az.length):=rfl
  rw[this]at h1
  split at h1<;>(first|rw[aP ‹_›]|rw[aW ‹_›])<;>omega
 ·obtain⟨h1,h2⟩:=GJ ok ae
  have h2:=h2 c aa
  unfold l0 at h1
  simp only[dn,mf]at h1
  have ak:pw c=M:=by
   have:=h1.1
   rw[List.any_eq_false]at this
   simpa using this c aa
  unfold pw b9 at ak
  simp only[rE,L7,dn,eJ]at ak
  unfold fv
  omega
theorem fB.fe{s:aH}(b:fB s):fB (Go.aM.X.fe s):=by
 refine⟨b.fU.fe,b.ne,b.bk,?_,λx ae c aa=>?_⟩
 ·have:fW (Go.aM.X.fe s)=fW s:=by
   unfold fW
   show(if eL s.bO 6=V then(s.ag.mapIdx _).length else s.az.length)=_
   rw[km]
  rw[this];exact b.nh
 ·obtain⟨i,ai,rfl⟩:=List.mem_mapIdx.1 (show x∈s.ag.mapIdx _ from ae)
  unfold jD at aa
  split at aa
  ·exact b.keys _ (pM ai) c aa
  ·obtain⟨m,_,rfl⟩:=List.mem_map.1 (show c∈fV (hB s i) 120 from aa)
   unfold fv hB
   show(if _ then(0:Int)else _)=0\/_
   split
   ·left;rfl
   ·right;constructor
    ·show 1<=(i:Int)+1;omega
    ·show(i:Int)+1<=(s.az.length:Int);omega
theorem fB.gw{s:aH}{to:List Int}(b:fB s)(p:c8 to s.aw.length):fB (Go.aM.X.gw s to):=by
 refine⟨b.fU.ahz p,λe=>b.ne ?_,λo h hm=>?_,λq br=>b.nh q (oP p br),b.keys⟩
 ·have:=cZ tP (show eO xq s.aw to=[]from e)
  rw[iG]at this
  exact gF this
 ·obtain⟨x,ae,rfl⟩:=List.mem_map.1 (show o∈s.bk.map (hN to)from h)
  have ax:(Go.aM.X.gw s to).aw.length=s.aw.length:=iG _ _ _
  rw[ax]
  by_cases c:mark x=V
  ·have:hN to x=x:=by unfold hN;rw[aP c]
   rw[this,c]at hm;cases hm
  ·have g:mark x=M:=by simpa using c
   obtain⟨i,t,rfl,j,e,aR⟩:=xu p g (b.bk x ae g)
   rw[e];omega
theorem fB.hE{s:aH}{to:List Int}(b:fB s)(p:c8 to s.ag.length)(br:eL s.bO 6=V):fB (Go.aM.X.hE s to):=by
 have aA:fW s=s.ag.length:=by unfold fW;rw[aP br]
 have h:fW (Go.aM.X.hE s to)=s.ag.length:=by
  unfold fW
  show(if eL s.bO 6=V then(eO Gy s.ag to).length else _)=_
  rw[aP br,iG]
 refine⟨(b.fU.gL p).jl to,λe=>b.ne ?_,λo i hm=>?_,λq br c aa=>?_,λx ae=>b.keys x (oP p ae)⟩
 ·have:=cZ tP (show s.aw.map (gv to)=[]from e)
  rw[c9]at this
  exact gF this
 ·have ax:(Go.aM.X.hE s to).aw.length=s.aw.length:=c9 _
  rw[ax];exact b.bk o i hm
 ·obtain⟨g,cd,rfl⟩:=List.mem_map.1 (show q∈s.aw.map (gv to)from br)
  obtain⟨j,k,rfl⟩:=List.mem_map.1 (show c∈g.2.map _ from aa)
  rw[h]
  exact Tr p (by rw[<-aA];exact b.nh g cd j k)
def c0(s:aH):aH:=gw (fe s) (dG (dA s.bk) s.aw.length)
def jE(s:aH):List Int:=fw ((cG s.aw.length).flatMap (kc s))
def ea(s:aH):aH:=hE (c0 s) (dG (jE (c0 s)) s.ag.length)
def dv(s:aH):aH:=
 if eL s.bO 6=V then eI (ea s) (dG (fw ((ea s).ag.flatMap fI)) s.az.length)
 else eI (c0 s) (dG (jE (c0 s)) s.az.length)
theorem T9{s:aH}(b:fB s):∀x∈(cG s.aw.length).flatMap (kc s),1<=x/\x<=fW s:=by
 intro x ae
 obtain⟨p,ah,ae⟩:=List.mem_flatMap.1 ae
 have h:=tv p ah
 unfold kc kb at ae
 obtain⟨e,g⟩:=List.mem_filter.1 ae
 obtain⟨c,aa,rfl⟩:=List.mem_map.1 e
 obtain⟨q,br⟩:=cR (show p.toNat<s.aw.length by omega)
 rw[tc br]at aa
 have:=b.nh q (dN br) c aa
 rw[eJ]at g
 unfold fv at this
 omega
theorem xA{l:List Int}{n:Nat}(h:∀x∈l,fv x n):∀x∈fw l,mH n x:=by
 intro x ae
 unfold fw at ae
 obtain⟨au,ba,rfl⟩:=List.mem_map.1 ae
 obtain⟨h1,h2⟩:=List.mem_filter.1 ba
 rw[eJ]at h2
 have:=h au h1
 unfold fv at this
 unfold mH
 omega
theorem sm{s:aH}(b:fB s):∀x∈jE s,mH (fW s) x:=xA λx ae=>.inr (T9 b x ae)
theorem xB{s:aH}(b:fB s):∀x∈s.ag.flatMap fI,fv x s.az.length:=λx ae=>by
 obtain⟨i,ai,ae⟩:=List.mem_flatMap.1 ae
 obtain⟨k,ad,rfl⟩:=List.mem_map.1 ae
 exact b.keys i ai k ad
theorem GK{s:aH}(b:fB s):∀x∈dA s.bk,mH s.aw.length x:=λx ae=>by
 obtain⟨h1,h2⟩:=(z_ s.bk x).1 ae
 exact b.bk x h1 h2
end Go.aM.X
namespace Go.aM.X
open Go.bF Go.aM
attribute [local congr] mZ m0 m5 m6 oE q4 q5 r3
theorem Ad{h l:Z}{f:dU}{ys:List U}{b:Nat}(ba:U.ptr b 0∈ys)(af:h.length<=b):aN [.aj] h (h++l) [.func f [] ys]=y (.func f [] ys,h++l):=by
 rw[mC]
 simp only[gk,cC,dy,dw]
 unfold trim
 rw[aW]
 ·rfl
 ·intro c
  have:=c.1 _ (List.mem_singleton.2 rfl)
  simp only[bM]at this
  have:=this.2 _ ba
  simp only[bM]at this
  omega
theorem K_(A:aS->U)(s:aH)(vs:List U)(t:a1)(l:Z):bf 13 (.ptr 0 0) (.agg (aQ A s)) (.box vs t .rw::l)=(cF vs 0 (aQ A s)).map λck=>.box ck t .rw::l:=jh rfl (by decide)
theorem ah1(A:aS->U)(s:aH)(h:Z):aL 41 [.agg (aQ A s)] h=y (.func 94 [] [.ptr h.length 0],h++[.box (aQ A s) 27 .rw]):=by
 refine cu (F:=C9) (by kernel_rfl) 1 ?_
 rw[abd];unfold O4
 simp only[aU,↓aI,aV]
 exact Ad (b:=h.length) (by simp) (cj _)
theorem ah2(A:aS->U)(s:aH)(h:Z):aL 46 [.agg (aQ A s)] h=y (.func 98 [] [.ptr h.length 0],h++[.box (aQ A s) 27 .rw]):=by
 refine cu (F:=Dc) (by kernel_rfl) 1 ?_
 rw[abi];unfold O9
 simp only[aU,↓aI,aV]
 exact Ad (b:=h.length) (by simp) (cj _)
theorem N9(k:IntKind)(n:Int):cn (.int k n)=[.int k n]:=ca rfl
theorem T_(f:dU)(xs ys:List U):cn (.func f xs ys)=[.func f xs ys]:=ca rfl
theorem ah3(n:Nat)(h:Z):aL 44 [J E n] h=y (.func 97 [] [.ptr h.length 0],h++[.box [J E n] 3 .rw]):=by
 refine cu (F:=Da) (by kernel_rfl) 1 ?_
 rw[abg];unfold O7
 simp only[aU,↓aI,aV,N9]
 exact Ad (b:=h.length) (by simp) (cj _)
theorem T'(f:dU)(ys:List U)(h:Z):aL 42 [.func f [] ys] h=y (.func 95 [] [.ptr h.length 0],h++[.box [.func f [] ys] 77 .rw]):=by
 refine cu (F:=C_) (by kernel_rfl) 1 ?_
 rw[abe];unfold O5
 simp only[aU,↓aI,aV,T_]
 exact Ad (b:=h.length) (by simp) (cj _)
theorem ah4(A:aS->U)(s:aH)(f:dU)(ys:List U)(h:Z):aL 43 [.agg (aQ A s),.func f [] ys] h=y (.func 96 [] [.ptr (h.length+1) 0,.ptr h.length 0],h++[.box (aQ A s) 27 .rw,.box [.func f [] ys] 77 .rw]):=by
 refine cu (F:=C') (by kernel_rfl) 1 ?_
 rw[abf];unfold O6
 simp only[aU,↓aI,aV,T_]
 exact Ad (b:=h.length) (by simp) (cj _)
theorem cD.lower{h av H:Z}{A:aS->U}{s:aH}(own:cD av db H A s)(ax:h.length<=av.length)(aE:∀b,b<h.length->av[b]?=h[b]?):cD h db H A s where
 len:=by have:=own.len;omega
 cJ:=λb af=>(own.cJ b (by omega)).trans (aE b af)
 fi:=by
  rw[xh,xi]
  exact⟨λk=>Kq (own.new.fi k) ax,own.new.inj⟩
 rd:=λk ad=>by cases ad
theorem GL{h H:Z}(ax:h.length<=H.length)(aE:∀b,b<h.length->H[b]?=h[b]?):∃l,H=h++l:=by
 refine⟨H.drop h.length,?_⟩
 have:h=H.take h.length:=by
  refine fx λb=>?_
  by_cases af:b<h.length
  ·rw[mb af,aE b af]
  ·rw[eE (by omega),eE (by rw[kD];omega)]
 conv=>rhs;lhs;rw[this]
 rw[rG]
theorem ah5{h H:Z}{A:aS->U}{s:aH}(own:cD h db H A s)(n:Int):aN [.agg fp,.aj] h H [.agg (aQ A s),J E n]=y (.tuple [.agg s.cs,J E n],h):=by
 obtain⟨b4,e,ax,aE⟩:=T8 own
 obtain⟨l,rfl⟩:=GL (h:=h) (H:=b4) (by rw[ax];exact own.len) (λb af=>(aE b af).trans (own.cJ b af))
 have e':gk fp (aQ A s) H=y (s.cs,h++l):=e
 refine q8 (ws:=[.agg s.cs,J E n]) (l:=l) ?_ ?_
 ·simp only[iV,jK,um,e',kN,dy,dw]
 ·intro v ay
  simp only[hF,ik,h6]at ay
  rcases ay with rfl|rfl
  ·simp only[bM]
   intro x ae
   simp only[aH.cs,hF,ik,h6]at ae
   rcases ae with rfl|rfl|rfl|rfl|rfl|rfl|rfl|rfl|rfl|rfl|rfl|rfl|rfl<;>simp only[bM,dz,l1,lx,nV]
  ·simp only[bM]
def xC(s:aH):U:=if((k_ s).2.2==0)=V then .tuple [.agg (dv s).cs,J E 0]else .tuple [.agg l4.cs,J E 1]
theorem Ua{A cA:aS->U}(s:aH)(h:∀k,iZ k=V->A k=cA k):aQ A (fe s)=aQ cA s:=by
 have h1:=h .bk rfl
 have h2:=h .cy rfl
 have ak:=h .aw rfl
 have aJ:=h .az rfl
 have aO:=h .ag rfl
 unfold aQ
 rw[h1,h2,ak,aJ,aO];rfl
theorem Ub{h l:Z}{sz n:Nat}{t:a1}{rows:List (List U)}{row:List U}(aA:n=rows.length)(aB:0<sz)(ah:row.all dt=V)(hm:n<dp):
 eC t sz (.ref h.length 0 n n sz) (.bE sz [row]) (h++.log rows sz t .rw::l)=y (.ref h.length 0 (n+1) (n+1) sz,h++.log (rows++[row]) sz t .rw::l):=by
 subst aA
 exact wC (k:=0) (l:=.log rows sz t .rw::l) rfl aB ah hm
theorem lI(v w:U):aK [v,w] 1=w:=ca rfl
structure kd(H b4:Z)(sz:Nat)(t:a1)(rows:List (List U))(aZ:U):Prop where
 pre:∃l,b4=H++l
 fi:cY b4 H.length sz t aZ rows
 nil:rows=[]->aZ=.emp/\b4=H
 ref:rows≠[]->∃b,aZ=.ref b 0 rows.length rows.length sz/\H.length<=b
theorem kd.mk'(H:Z)(sz:Nat)(t:a1)(rows:List (List U)):kd H (H++cq sz t rows) sz t rows (bV H.length sz rows):=by
 refine⟨⟨_,rfl⟩,zZ H sz t rows,λe=>?_,λe=>⟨H.length,?_,cj _⟩⟩
 ·subst e;exact⟨rfl,fD _⟩
 ·unfold bV
  rw[aW (λh=>e (gF h))]
theorem kd.le{H b4:Z}{sz:Nat}{t:a1}{rows:List (List U)}{aZ:U}(n:kd H b4 sz t rows aZ):H.length<=b4.length:=by
 obtain⟨l,rfl⟩:=n.pre
 simp
theorem kd.same{H b4:Z}{sz:Nat}{t:a1}{rows:List (List U)}{aZ:U}(n:kd H b4 sz t rows aZ){b:Nat}(af:b<H.length):b4[b]?=H[b]?:=by
 obtain⟨l,rfl⟩:=n.pre
 exact cI af
theorem iX.j4{K:Type}[DecidableEq K]{h h':Z}{base:Nat}{sz:K->Nat}{ty:K->a1}{A:K->U}{R:K->List (List U)}(o:iX h base sz ty A R)(af:base<=h.length)(k:K){rows:List (List U)}{aZ:U}(n:kd h h' (sz k) (ty k) rows aZ):iX h' base sz ty (bQ A k aZ) (bQ R k rows):=by
 have ha:∀b,j8 aZ=y b->h.length<=b:=λb af=>(lA n.fi af).1
 constructor
 ·intro k'
  by_cases ad:k'=k
  ·subst ad
   rw[fu,fu]
   exact Kq n.fi af
  ·rw[cE _ _ ad,cE _ _ ad]
   exact jL (o.fi k') λb _ af=>n.same af
 ·intro bw bD b h1 h2
  by_cases aG:bw=k
  ·subst aG
   rw[fu]at h1
   by_cases aF:bD=bw
   ·exact aF.symm
   ·rw[cE _ _ aF]at h2
    have:=(lA (o.fi bD) h2).2.1
    have:=ha _ h1
    omega
  ·rw[cE _ _ aG]at h1
   by_cases aF:bD=k
   ·subst aF
    rw[fu]at h2
    have:=(lA (o.fi bw) h1).2.1
    have:=ha _ h2
    omega
   ·rw[cE _ _ aF]at h2
    exact o.inj _ _ _ h1 h2
theorem wU{h:Z}{v:U}{rows:List (List U)}(r:dM h 1 v rows)(ah:rows.flatten.all dt=V)(hm:rows.length<=dp):aL 35 [v] h=y (bV h.length 1 rows,h++cq 1 3 rows):=by
 refine cu (F:=CY) (by kernel_rfl) 1 ?_
 rw[aa_];unfold OY
 simp only[lB (l5 r) (by decide) ah hm,b8,tj]
def oR(n:Nat)(e:bP)(rows:List (List U)):Z:=if rows.length=0 then []else [.box (ga e (bV (n+2) 2 rows)) 55 .rw,.box (ga e (bV (n+2) 2 rows)) 55 .rw,.log rows 2 120 .rw]
theorem kd.env(H:Z)(e:bP)(rows:List (List U)):kd H (H++oR H.length e rows) 2 120 rows (bV (H.length+2) 2 rows):=by
 refine⟨⟨_,rfl⟩,?_,λh=>?_,λh=>⟨H.length+2,?_,by omega⟩⟩
 ·by_cases bu:rows.length=0
  ·rw[gF bu];exact .emp
  ·unfold bV oR
   rw[aW bu,aW bu]
   exact .ref _ _ _ (by omega) (by rw[gg];rfl) rfl
 ·subst h;exact⟨rfl,fD _⟩
 ·unfold bV
  rw[aW (λh'=>h (gF h'))]
theorem GM{e:bP}{p:U}(h:dt p=V):(ga e p).all dt=V:=by simp only[ga,n',vp,h,jT,hq];rfl
theorem ah6(e:bP)(p:U):(ga e p)[1]?=y p:=ca rfl
theorem ah7(e:bP)(p:U)(n sz:Nat)(rows:List (List U)):cF (ga e p) 1 [bV n sz rows]=y (ga e (bV n sz rows)):=pF _ _ _ (show 1<8 by decide)
theorem ah8(e:bP)(p:U)(vs:List U)(t:a1)(l:Z):bf 8 (.ptr 0 0) (.agg (ga e p)) (.box vs t .rw::l)=(cF vs 0 (ga e p)).map λck=>.box ck t .rw::l:=jh rfl (by decide)
theorem ah9(e:bP)(p a b c d f g i j:U)(ah:dt p=V):cF [a,b,c,d,f,g,i,j] 0 (ga e p)=y (ga e p):=ib rfl (GM ah)
theorem ah_(e:bP)(p:U):e7 V 0 8 (ga e p)=y (.agg (ga e p)):=gh rfl
theorem K'{h:Z}(e:bP){v:U}{rows:List (List U)}(r:dM h 2 v rows)(ah:rows.flatten.all dt=V)(hm:rows.length<=dp):aL 36 [.agg (ga e v)] h=y (.agg (ga e (bV (h.length+2) 2 rows)),h++oR h.length e rows):=by
 refine cu (F:=CZ) (by kernel_rfl) 1 ?_
 rw[aa'];unfold OZ
 have ap:∀X,eC 120 2 .emp v (h++X)=y (bV (h++X).length 2 rows,h++X++cq 2 120 rows):=λX=>lB (l5 (iv r X)) (by decide) ah hm
 simp only[aU,↓aI,aV,ah6,ap,Kv,ah7,ah_,ah8,ah9 e _ _ _ _ _ _ _ _ _ (SC _ _ _)]
 rw[mC]
 simp only[gk,cC,dy,dw]
 by_cases bu:rows.length=0
 ·have aG:cq 2 120 rows=[]:=by unfold cq;rw[aP bu]
  have aF:bV (h.length+2) 2 rows=.emp:=by unfold bV;rw[aP bu]
  have b:oR h.length e rows=[]:=by unfold oR;rw[aP bu]
  rw[aG,aF,b,fD]
  rw[qb _ (λx ae=>by
   rw[hp]at ae;subst ae
   exact j5 rfl)]
  rfl
 ·have aG:cq 2 120 rows=[.log rows 2 120 .rw]:=by unfold cq;rw[aW bu]
  have aF:bV (h.length+2) 2 rows=.ref (h.length+2) 0 rows.length rows.length 2:=by unfold bV;rw[aW bu]
  have b:oR h.length e rows=[.box (ga e (bV (h.length+2) 2 rows)) 55 .rw,.box (ga e (bV (h.length+2) 2 rows)) 55 .rw,.log rows 2 120 .rw]:=by unfold oR;rw[aW bu]
  rw[aG,b,aF]
  unfold trim
  rw[aW]
  ·rfl
  ·intro c
   have:=c.1 _ (List.mem_singleton.2 rfl)
   simp only[bM]at this
   have:=this (.ref (h.length+2) 0 rows.length rows.length 2) (by simp [ga])
   simp only[bM]at this
   omega
theorem ah'{N:Nat}{h b H:Z}{A fq cA:aS->U}{s:aH}{n:U}{j:List U->Z->bl}{i:Nat}{p:d_}(o:kA s)(ah:s.aw[i]?=y p)(ay:n=J E s.aw.length)
 (c:iF h (kS i) H A fq s) (q:cY b h.length 2 39 (fq .aw) (ao cA s .aw)) (D:∀x∈(ao cA s .aw).flatten,bM b.length x) (F:b.length<=H.length) (P:h.length<=b.length) (dA:Nm b.length H (ao A s .aw)):
 ∃b4 u,iF h (kS (i+1)) b4 u fq s/\Nm b.length b4 (ao u s .aw)/\b.length<=b4.length/\
  ∀K,Cu aL N (.ptr h.length 0) b n j K [J E (i:Int)] H=K [J E ((i+1:Nat):Int)] b4:=by
 subst ay
 have w:=(List.getElem?_eq_some_iff.1 ah).1
 have m:=pE (A:=A) ah
 have ad:kS i (.bN i)=M:=by simp [kS]
 have hd:cl s (.bN i)=V:=by simp [cl,w]
 obtain⟨st,g⟩:=c.child .aw (.bN i) rfl ad rfl hd m (SP p _ _ _ _) (Gg ah _) (λk ad=>SR _ k ad)
 rw[SL]at g
 have rs:=c.own.rs
 have t5:A .aw=fq .aw:=c.top .aw rfl
 have G:∀c n1 n2 n3 n4,(e9 p (A (.bN i)))[1]?=y (U.ref c n1 n2 n3 n4)->c<b.length:=λg n1 n2 n3 n4 e=>by
  rw[rr]at e
  have:=se (c.own.rd (.bN i) ad)
  rw[jU e]at this
  simp only[bM]at this
  omega
 have l:=Nm.step (t:=41) F dA m (row':=e9 p (bV H.length 6 (ao A s (.bN i)))) (f:=1) rfl (show 1<2 by decide) G
 rw[<-Gg ah]at l
 refine⟨_,_,g,?_,?_,λK=>?_⟩
 ·unfold Nm at l|-
  rw[eo];exact l
 ·rw[eo,dV];omega
 ·have aB:i<9223372036854775807:=by
   have:=o A .aw
   simp only[ao,km]at this
   omega
  have z:=g.own.at (k:=.aw) rfl
  rw[cE _ _ (show aS.aw≠aS.bN i from λe=>by cases e)]at z
  rw[<-t5]at q
  have C:=nc (h1:=b) (roots:=[J E ((i+1:Nat):Int)]) z q D (by
   unfold Nm at l
   rw[eo];exact l)
  have aG:ab M 1 (.ptr h.length 10) H=y (A .aw):=ez c.cm (j_ A s)
  have aF:=eM (rs .aw) .i64 m
  have L:ab M 1 (di (A .aw) (e9 p (A (.bN i))) i 1) H=y (A (.bN i)):=(eZ (rs .aw) m _ _ _).trans (rr _ _)
  have O:eC 41 6 .emp (A (.bN i)) H=y (bV H.length 6 (ao A s (.bN i)),H++cq 6 41 (ao A s (.bN i))):=lB (l5 (rs (.bN i))) (by decide) (rs.one (.bN i)) (o.gO A (.bN i))
  unfold Cu
  simp only[dQ,hn]at aF st C g|-
  simp only[aU,↓aI,aV,cQ w,cr,a_,aG,aF,ih,L,Gs,jT,iW,O,st,cO aB]
  exact cZ (K _) C
theorem aia{N:Nat}{h b H:Z}{A fq cA:aS->U}{s:aH}{n:U}{j:List U->Z->bl}{i:Nat}{p:ey}(o:kA s)(ah:s.az[i]?=y p)(ay:n=J E s.az.length)
 (c:iF h (lD s i) H A fq s) (q:cY b h.length 13 43 (fq .az) (ao cA s .az)) (D:∀x∈(ao cA s .az).flatten,bM b.length x) (F:b.length<=H.length) (P:h.length<=b.length) (dA:Nm b.length H (ao A s .az)):
 ∃b4 u,iF h (lD s (i+1)) b4 u fq s/\Nm b.length b4 (ao u s .az)/\b.length<=b4.length/\
  ∀K,Ct aL N (.ptr h.length 0) b n j K [J E (i:Int)] H=K [J E ((i+1:Nat):Int)] b4:=by
 subst ay
 have w:=(List.getElem?_eq_some_iff.1 ah).1
 have m:=uZ (A:=A) ah
 have ad:lD s i (.b5 i)=M:=by simp [lD]
 have hd:cl s (.b5 i)=V:=by simp [cl,w]
 obtain⟨st,g⟩:=c.child .az (.b5 i) rfl ad rfl hd m (SQ p _ _ _ _) (Gh ah _) (λk ad=>SS _ k ad)
 rw[SN]at g
 have rs:=c.own.rs
 have t5:A .az=fq .az:=c.top .az rfl
 have G:∀c n1 n2 n3 n4,(j9 p (A (.b5 i)))[1]?=y (U.ref c n1 n2 n3 n4)->c<b.length:=λg n1 n2 n3 n4 e=>by
  rw[Gf]at e
  have:=se (c.own.rd (.b5 i) ad)
  rw[jU e]at this
  simp only[bM]at this
  omega
 have l:=Nm.step (t:=3) F dA m (row':=j9 p (bV H.length 1 (ao A s (.b5 i)))) (f:=1) rfl (show 1<13 by decide) G
 rw[<-Gh ah]at l
 refine⟨_,_,g,?_,?_,λK=>?_⟩
 ·unfold Nm at l|-
  rw[eo];exact l
 ·rw[eo,dV];omega
 ·have aB:i<9223372036854775807:=by
   have:=o A .az
   simp only[ao,km]at this
   omega
  have z:=g.own.at (k:=.az) rfl
  rw[cE _ _ (show aS.az≠aS.b5 i from λe=>by cases e)]at z
  rw[<-t5]at q
  have C:=nc (h1:=b) (roots:=[J E ((i+1:Nat):Int)]) z q D (by
   unfold Nm at l
   rw[eo];exact l)
  have aG:ab M 1 (.ptr h.length 11) H=y (A .az):=ez c.cm (lE A s)
  have aF:=eM (rs .az) .i64 m
  have L:ab M 1 (di (A .az) (j9 p (A (.b5 i))) i 1) H=y (A (.b5 i)):=(eZ (rs .az) m _ _ _).trans (Gf _ _)
  have O:aL 35 [A (.b5 i)] (lock H)=y (bV H.length 1 (ao A s (.b5 i)),lock H++cq 1 3 (ao A s (.b5 i))):=by
   have:=wU (qv (rs (.b5 i))) (rs.one (.b5 i)) (o.gO A (.b5 i))
   rwa [kL]at this
  unfold Ct
  simp only[dQ,hn]at aF st C g|-
  simp only[aU,↓aI,aV,cQ w,cr,a_,aG,aF,ih,L,O,sg,st,cO aB]
  exact cZ (K _) C
theorem aib{h H c' cx I z:Z}{A fq:aS->U}{s:aH}{i n:Nat}{x:c5}{l m up o:U}(ah:s.ag[i]?=y x)(c:iF h (ho s i) H A fq s)(ab:h.length<=n)(E:n<=H.length)(dA:Nm n H (ao A s .ag))
 (n1:kd H c' 2 89 (ao A s (.key i)) l) (n2:kd c' cx 2 120 (ao A s (.bq i)) m) (n3:kd cx I 2 120 (ao A s (.bm i)) up) (n4:kd I z 2 120 (ao A s (.bo i)) o):
 ∃g,iF h (ho s (i+1)) (wr z (A .ag) 33 57 ((ao A s .ag).set i (b1 x l m up o))) g fq s/\Nm n (wr z (A .ag) 33 57 ((ao A s .ag).set i (b1 x l m up o))) (ao g s .ag)/\n<=(wr z (A .ag) 33 57 ((ao A s .ag).set i (b1 x l m up o))).length:=by
 have ac:=(List.getElem?_eq_some_iff.1 ah).1
 have bz:i<(ao A s .ag).length:=by simp [ao,ac]
 have aD:=n1.le
 have aE:=n2.le
 have aI:=n3.le
 have aK:=n4.le
 have ae:=c.own.len
 have bC:=c.own.fi.j4 ae (.key i) n1
 have cU:=bC.j4 (by omega) (.bq i) n2
 have ai:=cU.j4 (by omega) (.bm i) n3
 have J:=ai.j4 (by omega) (.bo i) n4
 have K:nX (ho s i) A .ag=A .ag:=rfl
 have L:lC (ho s i) (ao A s) .ag=ao A s .ag:=rfl
 have N:=J.wr .ag (rows:=(ao A s .ag).set i (b1 x l m up o)) (by
  rw[iz,cE _ _ (by simp),cE _ _ (by simp),cE _ _ (by simp),cE _ _ (by simp),L])
 rw[cE _ _ (show aS.ag≠aS.bo i by simp),cE _ _ (show aS.ag≠aS.bm i by simp),cE _ _ (show aS.ag≠aS.bq i by simp),cE _ _ (show aS.ag≠aS.key i by simp),K]at N
 have O:cY z h.length 33 57 (A .ag) (ao A s .ag):=by
  have:=J.fi .ag
  rw[cE _ _ (show aS.ag≠aS.bo i by simp),cE _ _ (show aS.ag≠aS.bm i by simp),cE _ _ (show aS.ag≠aS.bq i by simp),cE _ _ (show aS.ag≠aS.key i by simp),K,
   cE _ _ (show aS.ag≠aS.bo i by simp),cE _ _ (show aS.ag≠aS.bm i by simp),cE _ _ (show aS.ag≠aS.bq i by simp),cE _ _ (show aS.ag≠aS.key i by simp),L]at this
  exact this
 have P:∀b,b<H.length->z[b]?=H[b]?:=λb af=>by rw[n4.same (by omega),n3.same (by omega),n2.same (by omega),n1.same af]
 obtain⟨g,C⟩:∃g,g=bQ (bQ (bQ (bQ A (.key i) l) (.bq i) m) (.bm i) up) (.bo i) o:=⟨_,rfl⟩
 have l2:ao g s .ag=(ao A s .ag).set i (b1 x l m up o):=by
  rw[C]
  exact oO ah (λj b _ al=>by simp [bQ,al]) (by simp [bQ])
 have p:∀k,k≠.ag->ao g s k=ao A s k:=λk ad=>by
  rw[C,S3 _ k ad,Ky _ k ad,Kx _ k ad,Kw _ k ad]
 have u:∀k,k≠.key i->k≠.bq i->k≠.bm i->k≠.bo i->g k=A k:=λk h1 h2 ak aJ=>by
  rw[C,cE _ _ aJ,cE _ _ ak,cE _ _ h2,cE _ _ h1]
 have Q:g (.key i)=l:=by rw[C];simp [bQ]
 have R:g (.bq i)=m:=by rw[C];simp [bQ]
 have ap:g (.bm i)=up:=by rw[C];simp [bQ]
 have S:g (.bo i)=o:=by rw[C];simp [bQ]
 have T:∀k,ho s (i+1) k=V->ho s i k=V\/k=.key i\/k=.bq i\/k=.bm i\/k=.bo i:=λk ad=>by
  cases k<;>simp only[ho,eJ]at ad|-<;> first|exact .inl ad|(simp only[aS.key.injEq,aS.bq.injEq,aS.bm.injEq,aS.bo.injEq,reduceCtorEq,false_or,h6];omega)
 have am:∀k,ho s (i+1) k=M->ho s i k=M:=λk ad=>by
  cases k<;>simp only[ho,iA]at ad|-<;> first|exact ad|omega
 have W:∀{b:Nat} {vs:List U} {t:a1} {md:ep},H[b]?=y (.box vs t md)->(wr z (A .ag) 33 57 ((ao A s .ag).set i (b1 x l m up o)))[b]?=y (.box vs t md):=λe=>
  jM O (by rw[P _ (List.getElem?_eq_some_iff.1 e).1];exact e)
 have aq:aQ g s=aQ A s:=by
  unfold aQ
  rw[u .bk (by simp) (by simp) (by simp) (by simp),u .cy (by simp) (by simp) (by simp) (by simp),u .aw (by simp) (by simp) (by simp) (by simp),u .az (by simp) (by simp) (by simp) (by simp),u .ag (by simp) (by simp) (by simp) (by simp)]
 refine⟨g,⟨c.own.of N (by rw[eo];omega) (λb af=>by rw[qx O af,P _ (by omega)]) (λk ad=>?_) (λk ad=>?_),by rw[aq];exact W c.cm,W c.cH,λk ad=>?_,λk ad=>?_,λk ad an=>?_⟩,?_,by rw[eo];omega⟩
 ·by_cases aG:k=.bo i
  ·subst aG
   rw[fu,cE _ _ (by simp),fu,S,p _ (by simp)];exact⟨rfl,rfl⟩
  by_cases aF:k=.bm i
  ·subst aF
   rw[cE _ _ aG,fu,cE _ _ (by simp),cE _ _ aG,fu,ap,p _ (by simp)];exact⟨rfl,rfl⟩
  by_cases q:k=.bq i
  ·subst q
   rw[cE _ _ aG,cE _ _ aF,fu,cE _ _ (by simp),cE _ _ aG,cE _ _ aF,fu,R,p _ (by simp)];exact⟨rfl,rfl⟩
  by_cases w:k=.key i
  ·subst w
   rw[cE _ _ aG,cE _ _ aF,cE _ _ q,fu,cE _ _ (by simp),cE _ _ aG,cE _ _ aF,cE _ _ q,fu,Q,p _ (by simp)];exact⟨rfl,rfl⟩
  have D:ho s i k=V:=by
   rcases T k ad with h|h|h|h|h
   ·exact h
   ·exact absurd h w
   ·exact absurd h q
   ·exact absurd h aF
   ·exact absurd h aG
  rw[cE _ _ aG,cE _ _ aF,cE _ _ q,cE _ _ w,u k w q aF aG]
  refine⟨by unfold nX;rw[aP D],?_⟩
  by_cases B:k=.ag
  ·subst B
   rw[fu,l2]
  ·rw[cE _ _ B,cE _ _ aG,cE _ _ aF,cE _ _ q,cE _ _ w,p k B]
   unfold lC;rw[aP D]
 ·have B:k≠.ag:=λe=>by rw[e]at ad;cases ad
  refine⟨am k ad,u k ?_ ?_ ?_ ?_,p k B⟩<;>(intro e;rw[e]at ad;simp [ho]at ad)
 ·rw[u k (λe=>by rw[e]at ad;cases ad) (λe=>by rw[e]at ad;cases ad) (λe=>by rw[e]at ad;cases ad) (λe=>by rw[e]at ad;cases ad)]
  exact c.top k ad
 ·rw[u k ?_ ?_ ?_ ?_]
  ·exact c.out k ad
  all_goals (intro e;rw[e]at ad;simp [cl]at ad;omega)
 ·by_cases aG:k=.bo i
  ·subst aG;rw[p _ (by simp)]at an;rw[S];exact(n4.nil an).1
  by_cases aF:k=.bm i
  ·subst aF;rw[p _ (by simp)]at an;rw[ap];exact(n3.nil an).1
  by_cases q:k=.bq i
  ·subst q;rw[p _ (by simp)]at an;rw[R];exact(n2.nil an).1
  by_cases w:k=.key i
  ·subst w;rw[p _ (by simp)]at an;rw[Q];exact(n1.nil an).1
  have D:ho s i k=V:=by
   rcases T k ad with h|h|h|h|h
   ·exact h
   ·exact absurd h w
   ·exact absurd h q
   ·exact absurd h aF
   ·exact absurd h aG
  rw[u k w q aF aG]
  by_cases B:k=.ag
  ·subst B
   rw[l2]at an
   have:=cZ tP an
   rw[iz]at this
   exact c.emp _ D (gF this)
  ·rw[p k B]at an
   exact c.emp k D an
 ·rw[l2]
  have F:∀v,v∈b1 x l m up o->v∈((ao A s .ag).set i (b1 x l m up o)).flatten:=λv ay=>List.mem_flatten.2 ⟨_,List.mem_iff_getElem?.2 ⟨i,fK bz⟩,ay⟩
  by_cases X:ao A s (.key i)=[]
  ·by_cases Y:ao A s (.bq i)=[]
   ·by_cases z3:ao A s (.bm i)=[]
    ·by_cases z4:ao A s (.bo i)=[]
     ·obtain⟨ar,au⟩:=n1.nil X
      obtain⟨cH,av⟩:=n2.nil Y
      obtain⟨c2,ej⟩:=n3.nil z3
      obtain⟨ax,aA⟩:=n4.nil z4
      have aB:z=H:=by rw[aA,ej,av,au]
      subst ar cH c2 ax
      rw[aB]
      have aC:=la (A:=A) ah
      have G:∀k,ho s i k=M->∀aa m1 m2 m3 m4,y (A k)=y (U.ref aa m1 m2 m3 m4)->aa<n:=λk ad=>z1 (c.own.rd k ad) ab rfl
      have m1:=Nm.step (t:=89) (sz:=2) (r:=[]) E dA aC (row':=b1 x .emp (A (.bq i)) (A (.bm i)) (A (.bo i))) (f:=1) rfl (show 1<33 by decide) (by rw[j'];exact G _ (by simp [ho]))
      have em:cq 2 89 ([]:List (List U))=[]:=rfl
      rw[em,fD]at m1
      have m2:=Nm.step (t:=89) (sz:=2) (r:=[]) E m1 (fK bz) (row':=b1 x .emp .emp (A (.bm i)) (A (.bo i))) (f:=3) rfl (show 3<33 by decide) (by rw[Gi];exact G _ (by simp [ho]))
      rw[em,fD,lj]at m2
      have m3:=Nm.step (t:=89) (sz:=2) (r:=[]) E m2 (fK bz) (row':=b1 x .emp .emp .emp (A (.bo i))) (f:=11) rfl (show 11<33 by decide) (by rw[Gj];exact G _ (by simp [ho]))
      rw[em,fD,lj]at m3
      have m4:=Nm.step (t:=89) (sz:=2) (r:=[]) E m3 (fK bz) (row':=b1 x .emp .emp .emp .emp) (f:=19) rfl (show 19<33 by decide) (by rw[Gk];exact G _ (by simp [ho]))
      rw[em,fD,lj]at m4
      exact m4.wr _ _ _ _
     ·obtain⟨b,e,af⟩:=n4.ref z4
      exact .inr ⟨b,0,_,_,2,F _ (by rw[<-e];exact List.mem_iff_getElem?.2 ⟨19,Gk _ _ _ _ _⟩),by omega⟩
    ·obtain⟨b,e,af⟩:=n3.ref z3
     exact .inr ⟨b,0,_,_,2,F _ (by rw[<-e];exact List.mem_iff_getElem?.2 ⟨11,Gj _ _ _ _ _⟩),by omega⟩
   ·obtain⟨b,e,af⟩:=n2.ref Y
    exact .inr ⟨b,0,_,_,2,F _ (by rw[<-e];exact List.mem_iff_getElem?.2 ⟨3,Gi _ _ _ _ _⟩),by omega⟩
  ·obtain⟨b,e,af⟩:=n1.ref X
   exact .inr ⟨b,0,_,_,2,F _ (by rw[<-e];exact List.mem_iff_getElem?.2 ⟨1,j' _ _ _ _ _⟩),by omega⟩
theorem La{H c' G:Z}{base sz i f:Nat}{t:a1}{v aZ:U}{rows R:List (List U)}{row row':List U}(n:kd H c' sz t rows aZ)(o:cY H base 33 57 v R)(g:R[i]?=y row)(c:∀b,b<c'.length->G[b]?=c'[b]?):jy aZ (di v row' i f) G=V:=by
 cases o with
 |emp=>cases g
 |ref bj l _ m e' h=>
  subst h
  by_cases bu:rows=[]
  ·rw[(n.nil bu).1];rfl
  ·obtain⟨b,e,af⟩:=n.ref bu
   have h1:=(lA n.fi (b:=b) (by rw[e];rfl))
   have j:=(List.getElem?_eq_some_iff.1 e').1
   have cL:G[b]?=y (.log rows sz t .rw):=by rw[c _ h1.2.1];exact h1.2.2
   have cN:G[bj]?=y (.log R 33 57 .rw):=by rw[c _ (by have:=n.le;omega),n.same j];exact e'
   rw[e]
   show jy (.ref b 0 rows.length rows.length sz) (.gS bj i f R.length 33) G=V
   unfold jy
   simp only[cL,cN,qF,hq,mf]
   have k:b≠bj:=by omega
   cases br:cM b bj with
   |false=>rfl
   |true=>exact absurd (Nat.eq_of_beq_eq_true br) k
theorem aic(x:c5)(k v p q:U):e7 V 2 8 (b1 x k v p q)=y (.agg (ga x.bq v)):=ca rfl
theorem aid(x:c5)(k v p q:U):e7 V 10 8 (b1 x k v p q)=y (.agg (ga x.bm p)):=ca rfl
theorem aie(x:c5)(k v p q:U):e7 V 18 8 (b1 x k v p q)=y (.agg (ga x.bo q)):=ca rfl
theorem aif(x:c5)(k v p q w:U)(cb:dt w=V):cF (b1 x k v p q) 2 (ga x.bq w)=y (b1 x k w p q):=by
 unfold cF
 rw[aP ⟨sA rfl,GM cb⟩];rfl
theorem aih(x:c5)(k v p q w:U)(cb:dt w=V):cF (b1 x k v p q) 10 (ga x.bm w)=y (b1 x k v w q):=by
 unfold cF
 rw[aP ⟨sA rfl,GM cb⟩];rfl
theorem aii(x:c5)(k v p q w:U)(cb:dt w=V):cF (b1 x k v p q) 18 (ga x.bo w)=y (b1 x k v p w):=by
 unfold cF
 rw[aP ⟨sA rfl,GM cb⟩];rfl
theorem aij{N:Nat}{h m H:Z}{A fq cA:aS->U}{s:aH}{T:U}{j:List U->Z->bl}{i:Nat}{x:c5}(W:kA s)(ah:s.ag[i]?=y x)(ay:T=J E s.ag.length)
 (c:iF h (ho s i) H A fq s) (al:cY m h.length 33 57 (fq .ag) (ao cA s .ag)) (am:∀x∈(ao cA s .ag).flatten,bM m.length x) (an:m.length<=H.length) (ap:h.length<=m.length) (dA:Nm m.length H (ao A s .ag)):
 ∃b4 q,iF h (ho s (i+1)) b4 q fq s/\Nm m.length b4 (ao q s .ag)/\m.length<=b4.length/\
  ∀K,Cs aL N (.ptr h.length 0) m T j K [J E (i:Int)] H=K [J E ((i+1:Nat):Int)] b4:=by
 subst ay
 have P:=(List.getElem?_eq_some_iff.1 ah).1
 have l:=la (A:=A) ah
 have rs:=c.own.rs
 have t:cY H h.length 33 57 (A .ag) (ao A s .ag):=c.own.at (k:=.ag) rfl
 obtain⟨g,u⟩:∃g,g=bV H.length 2 (ao A s (.key i)):=⟨_,rfl⟩
 obtain⟨c',w⟩:∃c',c'=H++cq 2 89 (ao A s (.key i)):=⟨_,rfl⟩
 obtain⟨o,X⟩:∃o,o=bV (c'.length+2) 2 (ao A s (.bq i)):=⟨_,rfl⟩
 obtain⟨cx,z⟩:∃cx,cx=c'++oR c'.length x.bq (ao A s (.bq i)):=⟨_,rfl⟩
 obtain⟨up,Y⟩:∃up,up=bV (cx.length+2) 2 (ao A s (.bm i)):=⟨_,rfl⟩
 obtain⟨e,C⟩:∃e,e=cx++oR cx.length x.bm (ao A s (.bm i)):=⟨_,rfl⟩
 obtain⟨p,aa⟩:∃p,p=bV (e.length+2) 2 (ao A s (.bo i)):=⟨_,rfl⟩
 obtain⟨D,Q⟩:∃D,D=e++oR e.length x.bo (ao A s (.bo i)):=⟨_,rfl⟩
 have n1:kd H c' 2 89 (ao A s (.key i)) g:=by rw[w,u];exact kd.mk' _ _ _ _
 have n2:kd c' cx 2 120 (ao A s (.bq i)) o:=by rw[z,X];exact kd.env _ _ _
 have n3:kd cx e 2 120 (ao A s (.bm i)) up:=by rw[C,Y];exact kd.env _ _ _
 have n4:kd e D 2 120 (ao A s (.bo i)) p:=by rw[Q,aa];exact kd.env _ _ _
 obtain⟨q,R,ac,aq⟩:=aib ah c ap an dA n1 n2 n3 n4
 refine⟨_,q,R,ac,aq,λK=>?_⟩
 have aB:i<9223372036854775807:=by
  have:=W A .ag
  have bz:i<(ao A s .ag).length:=by simp [ao,P]
  omega
 have t5:q .ag=fq .ag:=R.top .ag rfl
 have ad:=R.own.at (k:=.ag) rfl
 rw[t5]at ad
 have ar:=nc (h1:=m) (roots:=[J E ((i+1:Nat):Int)]) ad al am ac
 have F:∀k,(ao A s k).length<=dp:=λk=>W.gO A k
 have L:∀k,(ao A s k).flatten.all dt=V:=λk=>rs.one k
 have bI:∀k,dM c' (dQ k) (A k) (ao A s k):=λk=>by rw[w];exact iv (rs k) _
 have b0:∀k,dM cx (dQ k) (A k) (ao A s k):=λk=>by rw[z];exact iv (bI k) _
 have dj:∀k,dM e (dQ k) (A k) (ao A s k):=λk=>by rw[C];exact iv (b0 k) _
 have O:cY D h.length 33 57 (A .ag) (ao A s .ag):=by
  rw[Q,C,z,w]
  exact jL (h':=H++_++_++_++_) t λb _ af=>by
   rw[cI (by simp only[dV];omega),cI (by simp only[dV];omega),cI (by simp only[dV];omega),cI af]
 obtain⟨row,aO⟩:∃row,row=b1 x (A (.key i)) (A (.bq i)) (A (.bm i)) (A (.bo i)):=⟨_,rfl⟩
 have aG:ab M 1 (.ptr h.length 12) H=y (A .ag):=ez c.cm (i_ A s)
 have aF:=eM (rs .ag) .i64 l
 have au:ab M 1 (di (A .ag) (b1 x (A (.key i)) (A (.bq i)) (A (.bm i)) (A (.bo i))) i 1) H=y (A (.key i)):=(eZ (rs .ag) l _ _ _).trans (j' _ _ _ _ _)
 have bw:eC 89 2 .emp (A (.key i)) H=y (g,c'):=by rw[u,w];exact lB (l5 (rs (.key i))) (by decide) (L _) (F _)
 have cL:=La (row':=b1 x (A (.key i)) (A (.bq i)) (A (.bm i)) (A (.bo i))) (f:=2) n1 t l (G:=c') (λb _=>rfl)
 have cN:=La (row':=b1 x (A (.key i)) (A (.bq i)) (A (.bm i)) (A (.bo i))) (f:=10) n1 t l (G:=cx) (λb af=>n2.same af)
 have dT:=La (row':=b1 x (A (.key i)) (A (.bq i)) (A (.bm i)) (A (.bo i))) (f:=18) n1 t l (G:=e) (λb af=>by rw[n3.same (by have:=n2.le;omega),n2.same af])
 have dd:ab V 8 (di (A .ag) (b1 x (A (.key i)) (A (.bq i)) (A (.bm i)) (A (.bo i))) i 2) c'=y (.agg (ga x.bq (A (.bq i)))):=(eZ (bI .ag) l _ _ _).trans (aic _ _ _ _ _)
 have m9:ab V 8 (di (A .ag) (b1 x (A (.key i)) (A (.bq i)) (A (.bm i)) (A (.bo i))) i 10) cx=y (.agg (ga x.bm (A (.bm i)))):=(eZ (b0 .ag) l _ _ _).trans (aid _ _ _ _ _)
 have av:ab V 8 (di (A .ag) (b1 x (A (.key i)) (A (.bq i)) (A (.bm i)) (A (.bo i))) i 18) e=y (.agg (ga x.bo (A (.bo i)))):=(eZ (dj .ag) l _ _ _).trans (aie _ _ _ _ _)
 have ax:aL 36 [.agg (ga x.bq (A (.bq i)))] (lock c')=y (.agg (ga x.bq o),lock c'++oR c'.length x.bq (ao A s (.bq i))):=by
  have:=K' x.bq (qv (bI (.bq i))) (L (.bq i)) (F (.bq i))
  rwa [kL,<-X]at this
 have aA:aL 36 [.agg (ga x.bm (A (.bm i)))] (lock cx)=y (.agg (ga x.bm up),lock cx++oR cx.length x.bm (ao A s (.bm i))):=by
  have:=K' x.bm (qv (b0 (.bm i))) (L (.bm i)) (F (.bm i))
  rwa [kL,<-Y]at this
 have aC:aL 36 [.agg (ga x.bo (A (.bo i)))] e=y (.agg (ga x.bo p),e++oR e.length x.bo (ao A s (.bo i))):=by
  have:=K' x.bo (dj (.bo i)) (L (.bo i)) (F (.bo i))
  rwa [<-aa]at this
 have bz:i<(ao A s .ag).length:=by simp [ao,P]
 have S:∀(r:List U) f,di (A .ag) (b1 x (A (.key i)) (A (.bq i)) (A (.bm i)) (A (.bo i))) i f=di (A .ag) r i f:=λr f=>Kz t l _ _ _
 have aP:dt g=V:=kQ (ft n1.fi)
 have aD:dt o=V:=kQ (ft n2.fi)
 have aE:dt up=V:=kQ (ft n3.fi)
 have aJ:dt p=V:=kQ (ft n4.fi)
 have dP:cn g=[g]:=agN (ft n1.fi)
 have ae:=ij O l (n:=1) (x:=g) (f:=1) (by rw[dP];rfl) (by decide) (by rw[dP,u];exact SU _ _ _ _ _ _ _ _)
 rw[<-u]at ae
 have aK:=jk O (rows':=(ao A s .ag).set i (b1 x g (A (.bq i)) (A (.bm i)) (A (.bo i)))) (by simp)
 have s1:=ij aK (fK bz) (n:=8) (x:=.agg (ga x.bq o)) (f:=2) rfl (by decide) (aif _ _ _ _ _ _ aD)
 rw[lj,<-S,kR]at s1
 have aM:=jk O (rows':=(ao A s .ag).set i (b1 x g o (A (.bm i)) (A (.bo i)))) (by simp)
 have ai:=ij aM (fK bz) (n:=8) (x:=.agg (ga x.bm up)) (f:=10) rfl (by decide) (aih _ _ _ _ _ _ aE)
 rw[lj,<-S,kR]at ai
 have aN:=jk O (rows':=(ao A s .ag).set i (b1 x g o up (A (.bo i)))) (by simp)
 have ak:=ij aN (fK bz) (n:=8) (x:=.agg (ga x.bo p)) (f:=18) rfl (by decide) (aii _ _ _ _ _ _ aJ)
 rw[lj,<-S,kR]at ak
 simp only[dQ]at aF
 unfold Cs
 simp only[aU,↓aI,aV,cQ P,cr,a_,aG,aF,xg,ih,au,bw,cL,cN,dT,jT,iW,dd,ax,sg,<-z,m9,aA,<-C,av,aC,<-Q,ae,s1,ai,ak,cO aB]
 exact cZ (K _) ar
theorem aik{h:Z}{base sz:Nat}{t:a1}{v:U}{rows:List (List U)}(o:cY h base sz t v rows)(ax:bM base v):v=.emp/\rows=[]:=by
 cases o with
 |emp=>exact⟨rfl,rfl⟩
 |ref b n _ af e aA=>simp only[bM]at ax;omega
theorem ail{h G:Z}{A:aS->U}{s:aH}(own:cD h db G A s)(emp:∀k,ao A s k=[]->A k=.emp):∃c,aN [.aj] h G [.agg (aQ A s)]=y (.agg (aQ A s),c)/\cD h db c A s:=by
 rw[mC]
 simp only[gk,cC,dy,dw]
 refine⟨_,rfl,?_⟩
 unfold trim
 split
 ·rename_i g
  have h1:=g.1 _ (List.mem_singleton.2 rfl)
  simp only[bM]at h1
  have len:∀k,iZ k=V->ao A s k=[]:=λk ad=>(aik (own.at (k:=k) rfl) (h1 _ (by cases k<;>first|(cases ad;done)|simp [aQ]))).2
  have r:∀k,ao A s k=[]:=λk=>by
   have ah:s.aw=[]:=gF (by have:=cZ tP (len .aw rfl);simpa [ao]using this)
   have aB:s.az=[]:=gF (by have:=cZ tP (len .az rfl);simpa [ao]using this)
   have ai:s.ag=[]:=gF (by have:=cZ tP (len .ag rfl);simpa [ao]using this)
   cases k with
   |bk=>exact len .bk rfl
   |cy=>exact len .cy rfl
   |aw=>exact len .aw rfl
   |az=>exact len .az rfl
   |ag=>exact len .ag rfl
   |bN i=>simp [ao,ah]
   |b5 i=>simp [ao,aB]
   |key i=>simp [ao,ai]
   |bq i=>simp [ao,ai]
   |bm i=>simp [ao,ai]
   |bo i=>simp [ao,ai]
  refine⟨by have:=own.len;rw[kD];omega,λb af=>by rw[mb af];exact own.cJ b af,?_,λk ad=>by cases ad⟩
  rw[xh,xi]
  refine⟨λk=>by rw[emp k (r k),r k];exact .emp,λk k' b e=>?_⟩
  rw[emp k (r k)]at e
  cases e
 ·exact own
theorem lX(s:aH)(cA:aS->U)(h:Z)(ae:gr h cA s)(q:kA s):eG (aL 13 [.agg (aQ cA s)] h) (Tg h s):=by
 obtain⟨N,a0⟩:∃N:Nat,70000<N:=⟨_,fC _⟩
 rw[<-SI s cA]
 obtain⟨A,O⟩:∃A,A=norm s cA:=⟨_,rfl⟩
 have r:gr h A s:=by rw[O];exact ae.norm
 have ak:∀k,cl s k=M->A k=.emp:=λk ad=>by rw[O];exact SJ cA ad
 rw[<-O]
 refine eG.body (F:=Cr) (by kernel_rfl) N ?_
 rw[aaV];unfold OJ
 have hm:∀k,(ao A s k).length<=dp:=λk=>q.gO A k
 have f3:∀X,aL 35 [A .bk] (lock (h++X))=y (bV (h++X).length 1 (ao A s .bk),lock (h++X)++cq 1 3 (ao A s .bk)):=λX=>by
  have:=wU (qv (iv (r .bk) X)) (r.one _) (hm _)
  rwa [kL]at this
 have f9:∀X,aL 35 [A .cy] (h++X)=y (bV (h++X).length 1 (ao A s .cy),(h++X)++cq 1 3 (ao A s .cy)):=λX=>wU (iv (r .cy) X) (r.one _) (hm _)
 have f10:∀X,eC 39 2 .emp (A .aw) (h++X)=y (bV (h++X).length 2 (ao A s .aw),(h++X)++cq 2 39 (ao A s .aw)):=λX=>lB (l5 (iv (r .aw) X)) (by decide) (r.one _) (hm _)
 have f11:∀X,eC 43 13 .emp (A .az) (h++X)=y (bV (h++X).length 13 (ao A s .az),(h++X)++cq 13 43 (ao A s .az)):=λX=>lB (l5 (iv (r .az) X)) (by decide) (r.one _) (hm _)
 have f12:∀X,eC 57 33 .emp (A .ag) (h++X)=y (bV (h++X).length 33 (ao A s .ag),(h++X)++cq 33 57 (ao A s .ag)):=λX=>lB (l5 (iv (r .ag) X)) (by decide) (r.one _) (hm _)
 simp only[aU,↓aI,aV,sh,S4,j_,lE,i_,f3,f9,sg,Kv,S5,S6,S_,S',Ta,Gs,jT,iW,f10,f11,f12,S7,S8,S9,Tb,Tc,Td,xj,Tf]
 obtain⟨n1,aG⟩:∃n,n=h.length+(2+([]:Z).length):=⟨_,rfl⟩
 obtain⟨n2,aF⟩:∃n,n=h.length+(2+(cq 1 3 (ao A s .bk)).length):=⟨_,rfl⟩
 obtain⟨n3,R⟩:∃n,n=h.length+(2+(cq 1 3 (ao A s .bk)++cq 1 3 (ao A s .cy)).length):=⟨_,rfl⟩
 obtain⟨n4,S⟩:∃n,n=h.length+(2+(cq 1 3 (ao A s .bk)++(cq 1 3 (ao A s .cy)++cq 2 39 (ao A s .aw))).length):=⟨_,rfl⟩
 obtain⟨n5,T⟩:∃n,n=h.length+(2+(cq 1 3 (ao A s .bk)++(cq 1 3 (ao A s .cy)++(cq 2 39 (ao A s .aw)++cq 13 43 (ao A s .az)))).length):=⟨_,rfl⟩
 rw[<-aG,<-aF,<-R,<-S,<-T]
 obtain⟨bL,t⟩:∃bL,bL=fq A s n1 n2 n3 n4 n5:=⟨_,rfl⟩
 have al:aQ (bQ (bQ (bQ (bQ (bQ A .bk (bV n1 1 (ao A s .bk))) .cy (bV n2 1 (ao A s .cy))) .aw (bV n3 2 (ao A s .aw))) .az (bV n4 13 (ao A s .az))) .ag (bV n5 33 (ao A s .ag))) s=aQ bL s:=by
  rw[t];simp [aQ,bQ,fq]
 rw[al]
 obtain⟨m,u⟩:∃m,m=h++b3.box (aQ bL s) 27 ep.rw::eD::(cq 1 3 (ao A s .bk)++(cq 1 3 (ao A s .cy)++(cq 2 39 (ao A s .aw)++(cq 13 43 (ao A s .az)++cq 33 57 (ao A s .ag))))):=⟨_,rfl⟩
 have L:∀k,ao bL s k=ao A s k:=λk=>by rw[t];exact SF _ _ _ _ _ _ _ k
 have Q:cD h iZ m bL s:=by
  have w:=SG (h:=h) (P:=h++[b3.box (aQ bL s) 27 ep.rw,eD]) A s (by simp) (n1:=n1) (n2:=n2) (n3:=n3) (n4:=n4) (n5:=n5) (by rw[aG];simp) (by rw[aF];simp;omega) (by rw[R];simp;omega) (by rw[S];simp;omega) (by rw[T];simp;omega)
  have eq:h++[b3.box (aQ bL s) 27 ep.rw,eD]++cq 1 3 (ao A s .bk)++cq 1 3 (ao A s .cy)++cq 2 39 (ao A s .aw)++cq 13 43 (ao A s .az)++cq 33 57 (ao A s .ag)=m:=by rw[u];simp
  rw[eq,<-t]at w
  refine⟨by rw[u];simp,λb af=>by rw[u,cI af],?_,λk ad=>?_⟩
  ·have:lC iZ (ao bL s)=lC iZ (ao A s):=by unfold lC;funext k;rw[L]
   rw[this];exact w
  ·rw[L,t]
   cases k<;>first|(cases ad;done)|exact r _
 have am:iF h (kS 0) m bL bL s:=by
  rw[SK]
  refine⟨Q,by rw[u,en];rfl,by rw[u,gg];rfl,λk _=>rfl,λk ad=>?_,λk ad an=>?_⟩
  ·rw[t]
   cases k<;>first|(cases ad;done)|exact ak _ ad
  ·rw[L]at an
   rw[t]
   cases k<;>first|(cases ad;done)|(show bV _ _ _=_;unfold bV;rw[aP (by rw[an];rfl)])
 have ap:∀{n:Nat},h.length<=n->∀k,∀x∈(ao A s k).flatten,bM n x:=λaA k=>r.lt aA k
 have aq:(ao A s .aw).length=s.aw.length:=by simp [ao]
 have a1:(ao A s .az).length=s.az.length:=by simp [ao]
 have a2:(ao A s .ag).length=s.ag.length:=by simp [ao]
 have ar:s.aw.length<N:=by have:=q A .aw;omega
 have bZ:s.az.length<N:=by have:=q A .az;omega
 have au:s.ag.length<N:=by have:=q A .ag;omega
 rw[aq]
 have W:h.length<=m.length:=Q.len
 have av:cY m h.length 2 39 (bL .aw) (ao A s .aw):=by rw[<-L];exact Q.at (k:=.aw) rfl
 have Y:=u
 unfold eD at Y
 rw[<-Y]
 refine nW (λi H=>∃j,iF h (kS i) H j bL s/\Nm m.length H (ao j s .aw)/\m.length<=H.length) s.aw.length ar ⟨bL,am,.inl rfl,cj _⟩ (λi H ai l=>?_) λH l K=>?_
 ·obtain⟨j,c,dA,B⟩:=l
  obtain⟨p,ah⟩:=cR ai
  obtain⟨b4,C,D,E,I,J⟩:=ah' q ah rfl c av (ap W .aw) B W dA
  exact⟨b4,⟨C,D,E,I⟩,J⟩
 obtain⟨A1,c2,-,-⟩:=l
 have ay:((s.aw.length:Int)<(s.aw.length:Int))=False:=dI (by omega)
 have aB:A1 .az=bL .az:=c2.top .az rfl
 have tl:=fA (c2.own.rs .az)
 have aC:(ao A1 s .az).length=s.az.length:=by simp [ao]
 rw[aC]at tl
 unfold Cu
 simp only[aU,↓aI,aV,ay,c4,bn,bh,ez c2.cm (lE A1 s),tl]
 rw[<-SM]at c2
 have aD:cY H h.length 13 43 (bL .az) (ao A1 s .az):=by rw[<-aB];exact c2.own.at (k:=.az) rfl
 have aE:=c2.own.len
 have aJ:∀x∈(ao A1 s .az).flatten,bM H.length x:=c2.own.rs.lt (cj _) .az
 refine nW (λi G=>∃j,iF h (lD s i) G j bL s/\Nm H.length G (ao j s .az)/\H.length<=G.length) s.az.length bZ ⟨A1,c2,.inl rfl,cj _⟩ (λi G ai l=>?_) λG l K=>?_
 ·obtain⟨j,c,dA,B⟩:=l
  obtain⟨p,ah⟩:=cR ai
  obtain⟨b4,C,D,E,I,J⟩:=aia q ah rfl c aD aJ B aE dA
  exact⟨b4,⟨C,D,E,I⟩,J⟩
 obtain⟨z,ej,-,-⟩:=l
 have aK:((s.az.length:Int)<(s.az.length:Int))=False:=dI (by omega)
 have t2:z .ag=bL .ag:=ej.top .ag rfl
 have aa:=fA (ej.own.rs .ag)
 have aM:(ao z s .ag).length=s.ag.length:=by simp [ao]
 rw[aM]at aa
 unfold Ct
 simp only[aU,↓aI,aV,aK,c4,bn,bh,ez ej.cm (i_ z s),aa]
 rw[<-SO]at ej
 have aN:cY G h.length 33 57 (bL .ag) (ao z s .ag):=by rw[<-t2];exact ej.own.at (k:=.ag) rfl
 have aO:=ej.own.len
 have aR:∀x∈(ao z s .ag).flatten,bM G.length x:=ej.own.rs.lt (cj _) .ag
 refine nW (λi F=>∃j,iF h (ho s i) F j bL s/\Nm G.length F (ao j s .ag)/\G.length<=F.length) s.ag.length au ⟨z,ej,.inl rfl,cj _⟩ (λi F ai l=>?_) λF l K=>?_
 ·obtain⟨j,c,dA,B⟩:=l
  obtain⟨p,ah⟩:=cR ai
  obtain⟨b4,C,D,E,I,J⟩:=aij q ah rfl c aN aR B aO dA
  exact⟨b4,⟨C,D,E,I⟩,J⟩
 obtain⟨g,o,-,-⟩:=l
 have aT:((s.ag.length:Int)<(s.ag.length:Int))=False:=dI (by omega)
 have aW:bf 13 (.ptr (h.length+1) 0) (.agg (aQ g s)) F=y (F.set (h.length+1) (.box (aQ g s) 27 .rw)):=by
  unfold bf
  rw[show(cM (cn (U.agg (aQ g s))).length 13&&fX 0 13)=V from rfl]
  simp only[gG,o.cH]
  show((cF _ 0 (aQ g s)).map _)=_
  rw[tk o.own.rs];rfl
 have aX:(F.set (h.length+1) (.box (aQ g s) 27 .rw))[h.length+1]?=y (.box (aQ g s) 27 .rw):=fK (List.getElem?_eq_some_iff.1 o.cH).1
 have ab:=o.own.all (λk ad=>by
  cases k<;>first|(cases ad;done)|exact ad) o.out
 have ac:∀k,ao g s k=[]->g k=.emp:=λk an=>by
  cases hd:ho s s.ag.length k with
  |true=>exact o.emp k hd an
  |false=>exact o.out k (by cases k<;>first|(cases hd;done)|exact hd)
 have aY:cD h db (F.set (h.length+1) (.box (aQ g s) 27 .rw)) g s:=ab.of (ab.fi.same λb af ax bG=>hP (λe=>by
  obtain⟨_,_,_,bG⟩:=bG
  rw[<-e,o.cH]at bG
  cases bG)) (by simp) (λb af=>hP (by omega)) (λk _=>⟨by rw[xh],by rw[xi]⟩) λk ad=>by cases ad
 obtain⟨a3,fin,aZ⟩:=ail aY ac
 unfold Cs
 simp only[aU,↓aI,aV,aT,c4,bn,bh,iw o.cm (show(aQ g s).length=13 from rfl),aW,iw aX (show(aQ g s).length=13 from rfl),fin]
 exact eG.of rfl ⟨g,rfl,aZ,ac⟩
def Ae(h:Z)(s:aH)(q:U×Z):Prop:=∃b,q.1=.agg (aQ b s)/\cD h db q.2 b s
theorem Uc{h H:Z}{A:aS->U}{s:aH}(own:cD h db H A s)(c:s.aw≠[]):∃b n,A .aw=.ref b 0 n n 2/\h.length<=b:=by
 obtain⟨b,af,g,-⟩:=Gl (own.at (k:=.aw) rfl) (λe=>c (by
  have:(ao A s .aw).length=s.aw.length:=by simp [ao]
  rw[e]at this
  exact gF this.symm))
 exact⟨b,_,af,g⟩
theorem GN{h H:Z}{A:aS->U}{s:aH}(own:cD h db H A s)(c:s.aw≠[])(cm:H[h.length]?=y (.box (aQ A s) 27 .rw))(cH:H[h.length+1]?=y eD):
 ab V 13 (.ptr h.length 0) H=y (.agg (aQ A s))/\∃G,bf 13 (.ptr (h.length+1) 0) (.agg (aQ A s)) H=y G/\ab V 13 (.ptr (h.length+1) 0) G=y (.agg (aQ A s))/\aN [.aj] h G [.agg (aQ A s)]=y (.agg (aQ A s),G)/\cD h db G A s:=by
 have g:bf 13 (.ptr (h.length+1) 0) (.agg (aQ A s)) H=y (H.set (h.length+1) (.box (aQ A s) 27 .rw)):=by
  unfold bf
  rw[show(cM (cn (U.agg (aQ A s))).length 13&&fX 0 13)=V from rfl]
  simp only[gG,cH]
  show((cF _ 0 (aQ A s)).map _)=_
  rw[tk own.rs];rfl
 have i:(H.set (h.length+1) (.box (aQ A s) 27 .rw))[h.length+1]?=y (.box (aQ A s) 27 .rw):=fK (List.getElem?_eq_some_iff.1 cH).1
 obtain⟨b,n,e,af⟩:=Uc own c
 exact⟨iw cm rfl,_,g,iw i rfl,Te e af,own.box cH (by omega) _⟩
theorem zv(s:aH)(cA:aS->U)(h:Z)(z:gr h cA s)(m:gX s)(B:s.aw≠[]):eG (aL 48 [.agg (aQ cA s)] h) (Ae h (fe s)):=by
 obtain⟨N,T⟩:∃N:Nat,70000<N:=⟨_,fC _⟩
 refine eG.body (F:=De) (by kernel_rfl) N ?_
 rw[abk];unfold O'
 obtain⟨av,c⟩:∃av,av=h++[b3.box (aQ cA s) 27 .rw,eD]:=⟨_,rfl⟩
 have t:=c
 unfold eD at t
 have fa:av.length=h.length+2:=by rw[c];simp
 have C:gr av cA s:=by rw[c];exact z.app _
 obtain⟨⟨W,c'⟩,D,A1,u,g,E⟩:=lX s cA av C m.small
 simp only at u g
 subst u
 have H:=g.lower (h:=h) (by omega) (λb af=>by rw[c,cI af])
 have n:c'[h.length]?=y (.box (aQ cA s) 27 .rw):=by rw[g.cJ _ (by omega),c,en];rfl
 have cL:c'[h.length+1]?=y eD:=by rw[g.cJ _ (by omega),c,gg];rfl
 have I:ab V 13 (.ptr h.length 0) av=y (.agg (aQ cA s)):=by rw[c];exact iw (vs:=aQ cA s) (by rw[en];rfl) rfl
 obtain⟨cx,l⟩:∃cx,cx=c'.set h.length (.box (aQ A1 s) 27 .rw):=⟨_,rfl⟩
 have J:bf 13 (.ptr h.length 0) (.agg (aQ A1 s)) c'=y cx:=by
  unfold bf
  rw[show(cM (cn (U.agg (aQ A1 s))).length 13&&fX 0 13)=V from rfl]
  simp only[gG,n]
  show((cF (aQ cA s) 0 (aQ A1 s)).map _)=_
  rw[ib (vs:=aQ cA s) (cs:=aQ A1 s) rfl (KA g.rs),l];rfl
 have o:cD h db cx A1 s:=by rw[l];exact H.box n (cj _) _
 have cm:cx[h.length]?=y (.box (aQ A1 s) 27 .rw):=by rw[l];exact fK (List.getElem?_eq_some_iff.1 n).1
 have cH:cx[h.length+1]?=y eD:=by rw[l,hP (by omega)];exact cL
 have X:=m.ag
 have L:(ao A1 s .ag).length=s.ag.length:=by simp [ao]
 have le:=fA (o.rs .ag)
 rw[L]at le
 simp only[aU,↓aI,aV,<-t,I,D,J,ez cm (i_ A1 s),le]
 have M:nY h cx cx A1 A1 s 0:=⟨by rw[Tn];exact o,ff.refl _,λk _=>rfl,λj _=>rfl,.inl rfl,cj _⟩
 refine nW (λi G=>∃A,nY h cx G A1 A s i) s.ag.length (by omega) ⟨A1,M⟩ (λi G ai p=>?_) λG p K=>?_
 ·obtain⟨A,q⟩:=p
  obtain⟨x,ah⟩:=cR ai
  obtain⟨b4,O,P,Q⟩:=ahc (N:=N) (by omega) q o cm ah (λe=>E (.key i) (by simp only[ao,ah,e];rfl)) m.small rfl
  exact⟨b4,⟨O,P⟩,Q⟩
 obtain⟨A,q⟩:=p
 have aE:((s.ag.length:Int)<(s.ag.length:Int))=False:=dI (by omega)
 have w:=q.own
 rw[To]at w
 have R:=Ua s q.top
 have S:G[h.length]?=y (.box (aQ A (fe s)) 27 .rw):=by rw[R];exact q.bx _ _ _ _ cm
 have c2:G[h.length+1]?=y eD:=q.bx _ _ _ _ cH
 obtain⟨f1,F,f2,f3,f4,f5⟩:=GN w B S c2
 unfold wQ
 simp only[aU,↓aI,aV,aE,c4,bn,bh,f1,f2,f3,f4]
 exact eG.of rfl ⟨A,rfl,f5⟩
theorem aim{N:Nat}{av H:Z}{A:aS->U}{s:aH}{p:d_}{to:List Int}{m i:Nat}{j:List U->Z->bl}{hd:Z}(own:cD av db H A s)(ah:s.aw[i]?=y p)(pm:c8 to m)(hm:m<=70000)(aa:∀c∈p.2,fv c.inst m)(ax:p.2.length<=70000)(F:H.length=hd.length){n:Nat}(ai:n<p.2.length)(K:List U->Z->bl):
 zB aL N (dz to) (.ptr hd.length 0) [J E (i:Int)] (H++[.box (aQ A s) 27 .rw]) (J E p.2.length) j K [J E (n:Int)] (wr H (A (.bN i)) 6 41 (hC to p.2 n)++[.box (aQ A s) 27 .rw])=K [J E ((n+1:Nat):Int)] (wr H (A (.bN i)) 6 41 (hC to p.2 (n+1))++[.box (aQ A s) 27 .rw]):=by
 obtain⟨c,g⟩:=cR ai
 have aB:n<9223372036854775807:=by omega
 have de:ao A s (.bN i)=p.2.map Cell.cs:=by simp only[ao,ah]
 have o:cY H av.length 6 41 (A (.bN i)) (p.2.map Cell.cs):=by rw[<-de];exact own.at (k:=.bN i) rfl
 have q:=jk o (rows':=hC to p.2 n) (by rw[Tx,c9])
 have h:cY (wr H (A (.bN i)) 6 41 (hC to p.2 n)++[.box (aQ A s) 27 .rw]) av.length 6 41 (A (.bN i)) (hC to p.2 n):=jL q λb _ af=>cI af
 have u:=pE (A:=A) ah
 have op:cY H av.length 2 39 (A .aw) (ao A s .aw):=own.at (k:=.aw) rfl
 have w:dM (wr H (A (.bN i)) 6 41 (hC to p.2 n)++[.box (aQ A s) 27 .rw]) 2 (A .aw) (ao A s .aw):=by
  refine pB (ft op) λb af G=>?_
  rw[cI (by rw[eo];exact G),pC]
  intro e
  have:=own.new.inj _ _ _ af e
  cases this
 have L:(wr H (A (.bN i)) 6 41 (hC to p.2 n)).length=hd.length:=by rw[eo,F]
 have aG:ab M 1 (.ptr hd.length 10) (wr H (A (.bN i)) 6 41 (hC to p.2 n)++[.box (aQ A s) 27 .rw])=y (A .aw):=ez (by rw[<-L,en];rfl) (j_ A s)
 have aF:bY 2 (A .aw) (J E (i:Int))=y (di (A .aw) (e9 p (A (.bN i))) i 0):=eM w .i64 u
 have z:ab M 1 (di (A .aw) (e9 p (A (.bN i))) i 1) (wr H (A (.bN i)) 6 41 (hC to p.2 n)++[.box (aQ A s) 27 .rw])=y (A (.bN i)):=(eZ w u _ _ _).trans (rr _ _)
 have C:=eM (ft h) .i64 (u1 g)
 have D:ab M 1 (di (A (.bN i)) c.cs n 1) (wr H (A (.bN i)) 6 41 (hC to p.2 n)++[.box (aQ A s) 27 .rw])=y (J E c.inst):=(eZ (ft h) (u1 g) _ _ _).trans (xp c)
 unfold zB
 rcases aa c (dN g)with mR|O
 ·have l:(c.inst !=0)=M:=by rw[mR];rfl
  have P:hC to p.2 (n+1)=hC to p.2 n:=by
   rw[KG g]
   have:({ c with inst:=gu c.inst to }:Cell)=c:=by
    have:gu c.inst to=c.inst:=by unfold gu;rw[aP mR,mR]
    rw[this]
   rw[this]
   exact Gw (u1 g)
  rw[P]
  simp only[aU,↓aI,aV,cQ ai,cr,a_,aG,aF,ih,z,C,xg,D,l,bn,bh,cO aB]
  exact cZ (K _) (hf _ (by simp [eo]))
 ·have l:(c.inst !=0)=V:=by rw[kl];omega
  obtain⟨t,aR,Q,e⟩:=pm.sO O
  have bC:IntKind.i64.wrap (c.inst-1)=(((c.inst-1).toNat:Nat):Int):=by rw[wrap64 (by unfold dB;omega)];omega
  have cU:IntKind.i64.wrap (1+(t:Int))=gu c.inst to:=by rw[wrap64 (by unfold dB;omega),e,Int.add_comm]
  have st:=ij h (u1 g) (n:=1) (x:=J E (gu c.inst to)) (f:=1) rfl (by decide) (TA c _)
  rw[pG q,kR,<-KG g]at st
  simp only[aU,↓aI,aV,cQ ai,cr,a_,aG,aF,ih,z,C,xg,D,l,bC,qy .i64 Q,lG,cU,st,cO aB]
  exact cZ (K _) (hf _ (by simp [eo]))
theorem Ud{s:aH}{A:aS->U}{av h:Z}{m:Nat}{to:List Int}(own:cD av db h A s)(pm:c8 to m)(hm:m<=70000)(aa:∀p∈s.aw,∀c∈p.2,fv c.inst m)(t:gX s):eG (aL 100 [.agg (aQ A s),dz to] h) (TD av h A (jl s to)):=by
 obtain⟨N,Q⟩:∃N:Nat,70000<N:=⟨_,fC _⟩
 refine eG.body (F:=D9) (by kernel_rfl) N ?_
 rw[adu];unfold PT
 have R:=t.aw
 have z:(ao A s .aw).length=s.aw.length:=by simp [ao]
 have le:=fA (own.rs .aw)
 rw[z]at le
 have S:∀i,aQ A (mG s to i)=aQ A s:=λi=>rfl
 simp only[aU,↓aI,aV,j_,le]
 have C:tn av h h A s to 0:=⟨by rw[Tt];exact own,ff.refl _,rfl,λb _=>.inl rfl⟩
 refine nW (λi G=>∃H,G=H++[.box (aQ A s) 27 .rw]/\tn av h H A s to i) s.aw.length (by omega) ⟨h,rfl,C⟩ (λi G ai e=>?_) λG e K=>?_
 ·obtain⟨H,rfl,q⟩:=e
  obtain⟨p,ah⟩:=cR ai
  have l:(mG s to i).aw[i]?=y p:=by rw[xo ah,aW (by omega)]
  have D:=t.bN p (dN ah)
  refine⟨_,⟨_,rfl,q.next ah⟩,λK=>?_⟩
  have de:ao A (mG s to i) (.bN i)=p.2.map Cell.cs:=by simp only[ao,l]
  have o:cY H av.length 6 41 (A (.bN i)) (p.2.map Cell.cs):=by rw[<-de];exact q.own.at (k:=.bN i) rfl
  have rs:=q.own.rs.app [.box (aQ A s) 27 .rw]
  have u:=pE (A:=A) l
  have aG:ab M 1 (.ptr h.length 10) (H++[.box (aQ A s) 27 .rw])=y (A .aw):=ez (by rw[<-q.len,en];rfl) (j_ A s)
  have aF:bY 2 (A .aw) (J E (i:Int))=y (di (A .aw) (e9 p (A (.bN i))) i 0):=eM (rs .aw) .i64 u
  have L:ab M 1 (di (A .aw) (e9 p (A (.bN i))) i 1) (H++[.box (aQ A s) 27 .rw])=y (A (.bN i)):=(eZ (rs .aw) u _ _ _).trans (rr _ _)
  have w:=fA (rs (.bN i))
  rw[de,c9]at w
  have aB:i<9223372036854775807:=by omega
  have O:∀jj,cv (zB aL N (dz to) (.ptr h.length 0) [J E (i:Int)] (H++[.box (aQ A s) 27 .rw]) (J E p.2.length) jj) N [J E 0] (H++[.box (aQ A s) 27 .rw])=jj [] (wr H (A (.bN i)) 6 41 ((gv to p).2.map Cell.cs)++[.box (aQ A s) 27 .rw]):=λjj=>by
   refine hx (λn=>[J E (n:Int)]) (λn=>wr H (A (.bN i)) 6 41 (hC to p.2 n)++[.box (aQ A s) 27 .rw]) p.2.length (by omega) rfl (by rw[Ty,qu o]) (λn aA K=>?_) λK=>?_
   ·have h':=aim (N:=N) (j:=jj) (hd:=h) q.own l pm hm (aa p (dN ah)) D q.len aA K
    exact h'
   ·have aE:((p.2.length:Int)<(p.2.length:Int))=False:=dI (by omega)
    unfold zB
    simp only[aU,↓aI,aV,aE,c4,bn,bh]
    rw[Tz]
  unfold JK
  simp only[aU,↓aI,aV,cQ ai,cr,a_,aG,aF,ih,L,w,O,cO aB]
  exact cZ (K _) (hf _ (by simp [eo,q.len]))
 obtain⟨H,rfl,q⟩:=e
 have aE:((s.aw.length:Int)<(s.aw.length:Int))=False:=dI (by omega)
 have P:=sj (g:=h) (g':=H) (rest:=[.box (aQ A s) 27 .rw]) (r:=[]) q.len (by simp) q.tp
 unfold JK
 simp only[aU,↓aI,aV,aE,c4,bn,bh,si,P]
 have x:=q.own
 rw[Tu]at x
 exact eG.of rfl ⟨rfl,x,q.bx,q.len,q.tp⟩
end Go.aM.X
