import Derived.Test.YtffennknofmjoaaGreatP2
import Derived.Lib.Bytealg
import Derived.Sort.Grow
import Derived.Test.YtffennknofmjoaaGreatChecked
set_option linter.unusedSimpArgs false
set_option linter.unusedVariables false
open And renaming intro->dx
open Array renaming getElem?_eq_getElem->lh,getElem?_modify->LM,getElem?_toList->AL
open Bool renaming and_eq_true->dn,false_eq_true->bn,false->M,true->V
open Go renaming CallsIn->qE,FuncId->dU,TypeId->a1
open Classical renaming choose->L2
open Eq renaming refl->iK,trans->e0
open Go.IntKind renaming i64->E,bits->xZ,signed->x0
open Int renaming toNat_natCast->mc
open Go.Lib renaming indexByte->rI
open List renaming all_cons->n',append_assoc->eb,append_nil->fD,cons_append->js,drop_of_length_le->Hu,drop_zero->oZ,ext_getElem?->fx,flatten_cons->mh,getD_eq_getElem?_getD->iN,getElem?_append_left->cI,getElem?_append_right->lN,getElem?_cons_succ->mK,getElem?_drop->pK,getElem?_eq_getElem->fJ,getElem?_eq_none->eE,getElem?_take_of_lt->mb,length_map->c9,length_take->kD,map_cons->me,mem_cons->hF,mem_map->ju,mem_singleton->hp,nil_append->hV,not_mem_nil->ik,take_left->vm,take_length->iy,take_zero->x5
open Nat renaming beq->cM,beq_refl->qF,blt->fX,eq_of_beq_eq_true->hW,le_refl->cj,lt_of_lt_of_le->h4,zero_add->hh,zero_le->hO
open Option renaming bind->u,bind_eq_some_iff->cX,bind_some->dy,map->vo,map_eq_some_iff->du,map_some->dw,none_or->Hw,some_or->L4,some->y
open Option.some renaming inj->jU
open Go.aM.U renaming int->J
open Go.Sort renaming ahead->x7,mapBlock->Hv,putRow->x6
open Go.Value renaming int->h5
namespace Go.aM
open Go.bF
variable {μ : Ren} {φ : dD} {ah : Z} {ha : aX}
section
variable {R mA : Type} {Q : R -> mA -> Prop}
def BW(Q:R->mA->Prop)(μ:Ren)(φ:dD)(ah:Z)(ha:aX)(K:eA->Z->Option R)(Ka:bP->aX->Option mA):Prop:=
 ∀e cd r b cp aY bJ,K e cd=y r->f_ aY bJ e b->c3 aY bJ cd cp->Ext μ φ ah ha aY bJ cd cp->∃c,Ka b cp=y c/\Q r c
theorem BW.ext{aY:Ren}{bJ:dD}{cd:Z}{cp:aX}{K:eA->Z->Option R}{Ka:bP->aX->Option mA}(h:BW Q μ φ ah ha K Ka)(x:Ext μ φ ah ha aY bJ cd cp):BW Q aY bJ cd cp K Ka:=
 λe h1 r b h2 m f ad he s au=>h e h1 r b h2 m f ad he s (x.trans au)
theorem YA(s:c3 μ φ ah ha){cp:aX}(ax:ha.length<=cp.length)(aB:∀a,a<ha.length->cp[a]?=ha[a]?):c3 μ φ ah cp where
 cl b k o h:=⟨(s.cl b k o h).1,λl e=>h4 ((s.cl b k o h).2 l e) ax⟩
 rel b blk h1 h2:=by
  rcases s.rel b blk h1 h2 with q|⟨l,blk',bI,b0,dj⟩
  ·exact .inl q
  ·exact .inr ⟨l,blk',bI,by rw[aB _ (List.getElem?_eq_some_iff.1 b0).1];exact b0,dj⟩
 inj:=s.inj
 sep:=s.sep
 bE a blk h:=by
  have:=s.bE a blk h
  rw[aB _ (List.getElem?_eq_some_iff.1 this).1];exact this
 top:=s.top
theorem YB{aY:Ren}{bJ:dD}{v:U}{v':Value}(h:bs μ φ v v')(aB:BI v=V):bs aY bJ v v':=by
 cases h<;>first|(cases aB;done)|exact .int _ _|exact .bool _|exact .str _
theorem NR{aY:Ren}{bJ:dD}:∀{l:List U} {cK:List Value},bU μ φ l cK->l.all BI=V->bU aY bJ l cK
 |[],_,h,_=>by cases h;exact .nil
 |x::l,_,h,aB=>by
  rw[n',dn]at aB
  cases h with
  |cons h1 h2=>exact .cons (YB h1 aB.1) (NR h2 aB.2)
theorem YC{aY:Ren}{bJ:dD}{v:U}{v':Value}(h:bs μ φ v v')(aB:mX v=V):bs aY bJ v v':=by
 cases h with
 |tuple h=>exact .tuple (NR h aB)
 |int=>exact .int _ _
 |bool=>exact .bool _
 |str=>exact .str _
 |_=>cases aB
theorem NS:∀(kJ:List (Nat×fs)) {φ:dD} {ah:Z} {e:eA} {b:bP} {k:eA->Z->Option R} {r:R},c3 μ φ ah ha->f_ μ φ e b->qU kJ e ah k=y r->∃bJ aG h1,k aG h1=y r/\f_ μ bJ aG b/\c3 μ bJ h1 ha/\Ext μ φ ah ha μ bJ h1 ha
 |[],_,_,_,_,_,_,s,he,h=>⟨_,_,_,h,he,s,Ext.refl _ _ _ _⟩
 |p::kJ,_,_,e,_,k,r,s,he,h=>by
  simp only[qU,cX]at h
  obtain⟨bI,h1,h2⟩:=h
  obtain⟨bJ,cL,cN,dT⟩:=IL p.2 s (he p.1) h1
  obtain⟨nM,aG,c,g,bw,bD,da⟩:=NS kJ cN (λi=>by
   unfold nG
   cases ai:cM p.1 i with
   |false=>exact(he i).mono dT.hR dT.ia
   |true=>
    obtain rfl:=hW ai
    exact cL) h2
  exact⟨nM,aG,c,g,bw,bD,dT.trans da⟩
theorem YD{μ:Ren}{φ:dD}{ah:Z}{ha:aX}(s:c3 μ φ ah ha){v:U}{v':Value}{e5:a1}{sz:Nat}{q:U×Z}(ay:bs μ φ v v')(h:IC v e5 sz ah=y q):∃aY,bs aY φ q.1 v'/\c3 aY φ q.2 ha/\Ext μ φ ah ha aY φ q.2 ha:=by
 unfold IC at h
 split at h
 ·split at h
  ·cases h
   cases ay
   obtain⟨bI,b0⟩:=s.ghost sz e5 .rw
   exact⟨_,.j1 _ none (jI _ _ _ _),bI,b0⟩
  ·cases h
 ·cases h
  exact⟨_,ay,s,Ext.refl _ _ _ _⟩
theorem YE(s:c3 μ φ ah ha){x au:U}{g c_:Value}(ae:bs μ φ x g)(ba:bs μ φ au c_)(h:jy x au ah=V):bF.yp g c_:=by
 unfold jy at h
 split at h
 ·cases ae;cases ba;exact⟨_,_,rfl,.inl ⟨none,rfl⟩⟩
 ·cases ae;cases ba;exact⟨_,_,rfl,.inl ⟨_,rfl⟩⟩
 ·rename_i b lo n j2 sz bj o
  split at h
  ·rename_i rows eB t md vs t2 md2 h1 h2
   have ay:rows.length=j2:=hW h
   cases ba with
   |@ptr _ _ cK aJ=>
    cases ae with
    |j1 _ a _=>exact⟨_,_,rfl,.inl ⟨_,rfl⟩⟩
    |@ref _ _ _ _ _ c l ak _ _=>
     refine⟨_,_,rfl,.inr ⟨_,_,_,_,rfl,λe=>?_⟩⟩
     have:=s.inj b bj _ _ l cK h1 (λh=>by cases h) h2 (λh=>by cases h) (by rw[show ver (.log rows eB t md)=j2 from ay];exact ak) aJ e
     subst this
     rw[h1]at h2
     cases h2
  ·cases h
 ·cases ae;cases ba;exact⟨_,_,rfl,.inl ⟨none,rfl⟩⟩
 ·cases ae;cases ba;exact⟨_,_,rfl,.inl ⟨_,rfl⟩⟩
 ·rename_i b lo n j2 sz bj i o j sz'
  split at h
  ·rename_i rows eB t md k m t2 md2 h1 h2
   simp only[dn,Bool.not_eq_true']at h
   have ay:rows.length=j2:=hW h.1
   have p:k.length=j:=hW h.2.1
   have q:b≠bj:=λe=>by rw[e,qF]at h;cases h.2.2
   cases ba with
   |gS aJ=>
    cases ae with
    |j1 _ a _=>exact⟨_,_,rfl,.inl ⟨_,rfl⟩⟩
    |@ref _ _ _ _ _ c l ak _ _=>
     refine⟨_,_,rfl,.inr ⟨_,_,_,_,rfl,λe=>q ?_⟩⟩
     exact s.inj b bj _ _ l _ h1 (λh=>by cases h) h2 (λh=>by cases h) (by rw[show ver (.log rows eB t md)=j2 from ay];exact ak) (by rw[show ver (.log k m t2 md2)=j from p];exact aJ) e
  ·cases h
 ·cases h
theorem NT(s:c3 μ φ ah ha){e:eA}{b:bP}(he:f_ μ φ e b):∀{bH:List (Nat×Nat)},BJ bH e ah=V->∀p∈bH,bF.yp (b p.1) (b p.2)
 |[],_,p,ah=>by cases ah
 |q::bH,h,p,ah=>by
  simp only[BJ,dn]at h
  rcases List.mem_cons.1 ah with rfl|ah
  ·exact YE s (he _) (he _) h.1
  ·exact NT s he h.2 p ah
theorem YF{Γ:aT}{n:bF.Callee}(p:jA Γ n):∀(st:ew) {μ:Ren} {φ:dD} {ah:Z} {ha:aX} {K:eA->Z->Option R} {Ka:bP->aX->Option mA} {e:eA} {g:bP} {r:R},
 f_ μ φ e g->c3 μ φ ah ha->BW Q μ φ ah ha K Ka->iS Γ st K e ah=y r->∃k,kE n (k2 st) Ka g ha=y k/\Q r k:=by
 intro st
 induction st with
 |nil=>intro μ φ ah ha K Ka e g r he s j h;exact j _ _ _ _ _ _ _ h he s (Ext.refl _ _ _ _)
 |op d o ef rest a6=>
  intro μ φ ah ha K Ka e g r he s j h
  cases ef with
  |hH bH=>
   simp only[iS,hb]at h
   split at h
   ·rename_i aE
    simp only[k2,kE]
    refine BV p o he s (ka:=λv h'=>nz (.hH bH) g ha h' (kE n (k2 rest) Ka (bF.hr g d v) h')) (λv cd r v' cp aY bJ ad ay m x=>?_) h
    obtain⟨k,bw,bD⟩:=a6 ((he.mono x.hR x.ia).hr ay d) m (j.ext x) ad
    refine⟨k,?_,bD⟩
    simp only[nz]
    rw[aP (NT s he aE)]
    exact bw
   ·cases h
  |no=>
   simp only[iS]at h
   simp only[k2,kE]
   refine BV p o he s (ka:=λv h'=>nz .no g ha h' (kE n (k2 rest) Ka (bF.hr g d v) h')) (λv cd r v' cp aY bJ ad ay m x=>?_) h
   exact a6 ((he.mono x.hR x.ia).hr ay d) m (j.ext x) ad
  |calm=>
   simp only[iS]at h
   simp only[k2,kE]
   refine BV p o he (NJ s) (ka:=λv h'=>nz .calm g ha h' (kE n (k2 rest) Ka (bF.hr g d v) h')) (λv cd r v' cp aY bJ ad ay m x=>?_) h
   unfold d' at ad
   split at ad
   ·rename_i u
    obtain⟨bI,b0,dj⟩:=Yu s m x u
    obtain⟨k,bw,bD⟩:=a6 ((he.mono x.hR x.ia).hr ay d) b0 (j.ext dj) ad
    refine⟨k,?_,bD⟩
    simp only[nz,yo]
    rw[aP bI]
    exact bw
   ·cases ad
 |ll d c hi tmp body au rest C B=>
  intro μ φ ah ha K Ka e g r he s j h
  simp only[iS,bc,bd]at h
  simp only[k2,kE,A0,A2]
  have aa:=he c
  split at h
  ·rename_i t aR
   rw[aR]at aa
   generalize G:g c=w at aa
   cases aa
   simp only
   split at h
   ·rename_i z
    rw[aP z]
    refine C he s (λe' cd r H cp aY bJ ad D m x=>?_) h
    exact B (((he.mono x.hR x.ia).dR tmp).bQ (D.val au) d) m (j.ext x) ad
   ·rename_i z
    rw[aW z]
    exact B ((he.dR tmp).bQ (.bool _) d) s j h
  ·cases h
 |cC t uj rest a6=>
  intro μ φ ah ha K Ka e g r he s j h
  simp only[iS,cX]at h
  obtain⟨q,h1,h2⟩:=h
  obtain⟨bJ,bI,b0,dj⟩:=IL uj s (he t) h1
  simp only[k2]
  refine a6 (λi=>?_) b0 (j.ext dj) h2
  unfold nG
  cases ai:cM t i with
  |false=>exact(he i).mono dj.hR dj.ia
  |true=>
   obtain rfl:=hW ai
   exact bI
 |BF t e5 sz rest a6=>
  intro μ φ ah ha K Ka e g r he s j h
  simp only[iS,cX]at h
  obtain⟨q,h1,h2⟩:=h
  obtain⟨aY,bI,b0,dj⟩:=YD s (he t) h1
  simp only[k2]
  refine a6 (λi=>?_) b0 (j.ext dj) h2
  unfold nG
  cases ai:cM t i with
  |false=>exact(he i).mono dj.hR dj.ia
  |true=>
   obtain rfl:=hW ai
   exact bI
 |ov kJ d o ef rest a6=>
  intro μ φ ah ha K Ka e g r he s j h
  have h:ef≠.calm/\ef≠.no->False:=λaA=>by
   cases ef with
   |no=>exact aA.2 rfl
   |calm=>exact aA.1 rfl
   |hH bH=>simp only[iS]at h;cases h
  rename_i av
  have af:qU kJ e ah (λaG h1=>gT Γ o aG (lock h1) λv _=>if mX v=V then iS Γ rest K (ot e d v) ah else none)=y r:=by
   cases ef with
   |no=>exact av
   |calm=>exact av
   |hH bH=>exact(h ⟨λh=>(by cases h),λh=>(by cases h)⟩).elim
  obtain⟨oz,aG,h1,h2,cL,cN,dT⟩:=NS kJ s he af
  simp only[k2,kE]
  refine BV p o cL (NJ cN) (ka:=λv h'=>nz ef g ha h' (kE n (k2 rest) Ka (bF.hr g d v) h')) (λv cd r v' cp aY bJ ad ay m x=>?_) h2
  have aB:∀a,a<ha.length->cp[a]?=ha[a]?:=λa A=>x.frame a A λb blk l af cb _=>by
   obtain⟨cm,_,rfl⟩:=sY af
   exact absurd cb (IN cm)
  have u:ha <+: cp:=by
   rw[List.prefix_iff_eq_take]
   apply fx
   intro i
   by_cases ai:i<ha.length
   ·rw[mb ai,aB i ai]
   ·rw[eE (by omega),eE (by rw[kD];omega)]
  split at ad
  ·rename_i E
   have F:=YA s x.nL aB
   obtain⟨k,bw,bD⟩:=a6 (he.hr (YC ay E) d) F (j.ext ⟨cj _,x.nL,ev.refl _,gA.refl _,λa A _=>aB a A,λb blk l h1 h2 ak=>.inr ⟨b,blk,l,h1,h2,ak,rfl⟩⟩) ad
   refine⟨k,?_,bD⟩
   cases ef with
   |no=>exact bw
   |calm=>simp only[nz,yo];rw[aP u];exact bw
   |hH bH=>exact(h ⟨λh=>(by cases h),λh=>(by cases h)⟩).elim
  ·cases ad
def y9(Q:R->mA->Prop)(μ:Ren)(φ:dD)(ah:Z)(ha:aX)(K:fN->eA->Z->Option R)(Ka:fN->bP->aX->Option mA):Prop:=
 ∀o e cd r b cp aY bJ,K o e cd=y r->f_ aY bJ e b->c3 aY bJ cd cp->Ext μ φ ah ha aY bJ cd cp->∃c,Ka o b cp=y c/\Q r c
theorem y9.ext{aY:Ren}{bJ:dD}{cd:Z}{cp:aX}{K:fN->eA->Z->Option R}{Ka:fN->bP->aX->Option mA}(h:y9 Q μ φ ah ha K Ka)(x:Ext μ φ ah ha aY bJ cd cp):y9 Q aY bJ cd cp K Ka:=
 λo e h1 r b h2 m f ad he s au=>h o e h1 r b h2 m f ad he s (x.trans au)
theorem YG(s:c3 μ φ ah ha){b:Nat}{blk:b3}{l:bF.Loc}(af:ah[b]?=y blk)(cb:k4 blk)(e:μ b (ver blk)=y (y l)):c3 μ φ (ah.set b .dead) (ha.set l.blk .dead)/\Ext μ φ ah ha μ φ (ah.set b .dead) (ha.set l.blk .dead):=by
 have c:=nN af
 have g:=s.sep b blk l af cb.own e
 constructor
 ·refine s.step b .dead (by simp) (by simp) (ev.refl _) (gA.refl _) (qX c) (λbj h=>mw h) (λbj k h=>rfl) (λk cK h=>by rw[List.length_set];exact(s.cl _ _ _ h).2 cK rfl) (λbj blk' cK h1 h2 ak aJ=>mw λaO=>h1 (s.inj bj b blk' blk cK l h2 ak af cb.live aJ e aO))
   (λa x h=>?_) (λbj blk cK i h1 h2 ak=>s.sep bj blk cK h2 h1 ak) (λk o h _=>absurd rfl h) (λh=>absurd rfl h)
  rw[mw (by rintro rfl;rw[g]at h;cases h)]
  exact s.bE a x h
 ·exact Ext.step b .dead (by simp) (by simp) (ev.refl _) (gA.refl _) (qX c) (λbj h=>mw h) (λbj k h=>rfl) (λa h1 h2=>mw λh=>h2 blk l af cb e h.symm) (λcK h1 _=>h1.elim)
theorem BX{b:Nat}{dg:List U}{dd bH:List Nat}{c g:hZ}{st:tU}{eg:Option fN}{md:ep}{l:bF.Loc}(s:c3 μ φ ah ha)(af:ah[b]?=y (.loop dg dd bH c g st eg md))(e:μ b 0=y (y l)):
 ∃i,ha[l.blk]?=y (.loop i dd bH (h8 c) (h8 g) st eg)/\bU μ φ dg i:=by
 rcases s.rel b _ af (by simp)with⟨_,_,_,_,h⟩|⟨cK,blk',h1,h2,ak⟩
 ·cases h
 ·have:μ b 0=y (y cK):=h1
  rw[e]at this
  cases this
  obtain⟨j,rfl,bw⟩:=ak
  exact⟨j,h2,bw⟩
theorem IQ{Γ:aT}{C:bF.Callee}(E:jA Γ C)(n:Nat):∀(c:hZ) {μ:Ren} {φ:dD} {ah:Z} {ha:aX} {K:fN->eA->Z->Option R} {Ka:fN->bP->aX->Option mA} {e:eA} {k:bP} {r:R},
 f_ μ φ e k->c3 μ φ ah ha->y9 Q μ φ ah ha K Ka->jz Γ n c K e ah=y r->∃q,hX C n (h8 c) Ka k ha=y q/\Q r q:=by
 intro c
 induction c with
 |skip=>intro μ φ ah ha K Ka e k r he s j h;exact j _ _ _ _ _ _ _ _ h he s (Ext.refl _ _ _ _)
 |region d st=>intro μ φ ah ha K Ka e k r he s j h;exact YF E st he s (λe' cd r z cp aY bJ ad l p x=>j _ _ _ _ _ _ _ _ ad l p x) h
 |seq a b A B=>
  intro μ φ ah ha K Ka e k r he s j h
  refine A he s (λo e' cd r z cp aY bJ ad l p x=>?_) h
  cases o with
  |normal=>exact B l p (j.ext x) ad
  |exit i=>exact j _ _ _ _ _ _ _ _ ad l p x
  |ret=>exact j _ _ _ _ _ _ _ _ ad l p x
 |cond c mod tmp a b A B=>
  intro μ φ ah ha K Ka e k r he s j h
  simp only[jz,aD,bb]at h
  simp only[h8,hX,sI,A3]
  have aa:=he.val c
  have ks:y9 Q μ φ ah ha (λo e' h'=>match o with|.normal=>K .normal (pg (rS e tmp) mod (mU e' mod)) h'|.exit i=>K (.exit i) e' h'|.ret=>K .ret e' h')
   (λo e' h'=>match o with|.normal=>Ka .normal (bF.fM (kn k tmp) mod (bF.getMany e' mod)) h'|.exit i=>Ka (.exit i) e' h'|.ret=>Ka .ret e' h'):=by
   intro o e' cd r z cp aY bJ ad l p x
   cases o with
   |normal=>exact j _ _ _ _ _ _ _ _ ad (((he.mono x.hR x.ia).dR tmp).fM mod (l.getMany mod)) p x
   |exit i=>exact j _ _ _ _ _ _ _ _ ad l p x
   |ret=>exact j _ _ _ _ _ _ _ _ ad l p x
  split at h
  ·rename_i t aR
   rw[aR]at aa
   generalize ac:bF.val k c=w at aa
   cases aa
   simp only
   split at h
   ·rename_i D
    rw[aP D]
    exact A he s ks h
   ·rename_i D
    rw[aW D]
    exact B he s ks h
  ·cases h
 |block id mod tmp c a6=>
  intro μ φ ah ha K Ka e k r he s j h
  simp only[jz,aD]at h
  simp only[h8,hX,sI]
  refine a6 he s (λo e' cd r z cp aY bJ ad l p x=>?_) h
  have F:∀r,K .normal (pg (rS e tmp) mod (mU e' mod)) cd=y r->∃q,Ka .normal (bF.fM (kn k tmp) mod (bF.getMany z mod)) cp=y q/\Q r q:=λr ad=>
   j _ _ _ _ _ _ _ _ ad (((he.mono x.hR x.ia).dR tmp).fM mod (l.getMany mod)) p x
  cases o with
  |normal=>exact F _ ad
  |exit i=>
   simp only at ad|-
   cases ai:cM i id with
   |true=>rw[ai]at ad;exact F _ ad
   |false=>rw[ai]at ad;exact j _ _ _ _ _ _ _ _ ad l p x
  |ret=>exact j _ _ _ _ _ _ _ _ ad l p x
 |loop mod tmp c a6=>
  intro μ φ ah ha K Ka e k r he s j h
  simp only[jz]at h
  simp only[h8,hX]
  have T:∀(m:Nat) {vs:List U} {ck:List Value} {μ1:Ren} {oz:dD} {h1:Z} {oA:aX} {r:R},bU μ1 oz vs ck->c3 μ1 oz h1 oA->Ext μ φ ah ha μ1 oz h1 oA->
   cv (λcont vs h1=>jz Γ n c (λo e h2=>match o with|.normal=>cont (mU e mod) (trim ah (mU e mod) h2)|.exit i=>K (.exit i) e h2|.ret=>K .ret e h2) (pg (rS e tmp) mod vs) h1) m vs h1=y r->
   ∃q,o4 (λcont vs h=>hX C n (h8 c) (λo e h=>match o with|.normal=>cont (bF.getMany e mod) h|.exit i=>Ka (.exit i) e h|.ret=>Ka .ret e h) (bF.fM (kn k tmp) mod vs) h) m ck oA=y q/\Q r q:=by
   intro m
   induction m with
   |zero=>intro vs ck μ1 oz h1 oA r _ _ _ h;cases h
   |succ m W=>
    intro vs ck μ1 oz h1 oA r ay s1 aC h
    simp only[cv]at h
    simp only[o4]
    refine a6 (((he.mono aC.hR aC.ia).dR tmp).fM mod ay) s1 (λo e' cd r z cp aY bJ ad l p x=>?_) h
    cases o with
    |normal=>
     obtain⟨G,bI,b0,dj⟩:=BU s p (aC.trans x) (l.getMany mod)
     exact W bI b0 dj ad
    |exit i=>exact j _ _ _ _ _ _ _ _ ad l p (aC.trans x)
    |ret=>exact j _ _ _ _ _ _ _ _ ad l p (aC.trans x)
  exact T n (he.getMany mod) s (Ext.refl _ _ _ _) h
 |exit i=>intro μ φ ah ha K Ka e k r he s j h;exact j _ _ _ _ _ _ _ _ h he s (Ext.refl _ _ _ _)
 |ret=>intro μ φ ah ha K Ka e k r he s j h;exact j _ _ _ _ _ _ _ _ h he s (Ext.refl _ _ _ _)
 |jW g dd bH H I A B=>
  intro μ φ ah ha K Ka e k r he s j h
  simp only[jz,cX]at h
  obtain⟨⟨v,h1⟩,aa,o,u,h⟩:=h
  obtain⟨bI,b0⟩:=s.push (.loop (mU e dd) dd bH H I .ready none .rw) (.loop (bF.getMany k dd) dd bH (h8 H) (h8 I) .ready none) 0 ⟨_,rfl,(he.getMany dd).mono (qW s _ _) (gA.refl _)⟩
  obtain⟨v',oA,μ1,oz,bw,bD,da,c1⟩:=Yz E bI ((he.val g).mono b0.hR b0.ia) (.cons (.yield (jI _ _ _ _)) .nil) aa
  have hm:μ1 ah.length 0=y (y ⟨ha.length,0⟩):=c1.hR _ _ _ (jI _ _ _ _)
  have aC:=b0.trans c1
  have X:∃dg J L N O st eg,h1[ah.length]?=y (.loop dg J L N O st eg .rw)/\(st=.ready\/st=.done)/\o=eg:=by
   unfold rY at u
   simp only at u
   split at u
   ·rename_i af;cases u;exact⟨_,_,_,_,_,_,_,af,.inl rfl,rfl⟩
   ·rename_i af;cases u;exact⟨_,_,_,_,_,_,_,af,.inr rfl,rfl⟩
   ·cases u
  obtain⟨dg,J,L,N,O,st,eg,af,Y,rfl⟩:=X
  obtain⟨ae,P,_⟩:=BX da af hm
  have ab:vL ha.length oA=y o:=by
   unfold vL
   simp only at P
   rw[P]
   rcases Y with rfl|rfl<;>rfl
  obtain⟨cL,cN⟩:=YG da af trivial hm
  obtain⟨G,_,fO,gZ⟩:=BU (roots:=[]) (roots':=[]) s cL (aC.trans cN) .nil
  have S:f_ G oz e k:=he.mono gZ.hR gZ.ia
  simp only[h8,hX]
  rw[bw]
  simp only[dy]
  rw[ab]
  simp only[dy]
  cases o with
  |none=>exact j _ _ _ _ _ _ _ _ h S fO gZ
  |some x=>exact j _ _ _ _ _ _ _ _ h S fO gZ
theorem IS(s:c3 μ φ ah ha){e:eA}{c:bP}(he:f_ μ φ e c):∀(rs:List tW) {k:List U->Option R} {ka:List Value->Option mA} {r:R},(∀vs ck r,k vs=y r->bU μ φ vs ck->∃b,ka ck=y b/\Q r b)->sV rs e ah k=y r->∃b,pU rs c ha ka=y b/\Q r b
 |[],k,ka,r,ad,h=>ad _ _ _ h .nil
 |.tmp t::rs,k,ka,r,ad,h=>IS s he rs (λvs ck r h1 h2=>ad _ _ _ h1 (.cons (he t) h2)) h
 |.cell t agg n::rs,k,ka,r,ad,h=>by
  simp only[sV,cX]at h
  obtain⟨v,h1,h2⟩:=h
  obtain⟨v',bw,bD⟩:=Nz s (he t) h1
  obtain⟨b,da,c1⟩:=IS s he rs (λvs ck r h1 h2=>ad _ _ _ h1 (.cons bD h2)) h2
  exact⟨b,by simp only[pU,bw,dy];exact da,c1⟩
end
def y_(μ:Ren)(φ:dD)(ah:Z)(ha:aX)(r:U×Z)(b:Value×aX):Prop:=∃aY bJ,bs aY bJ r.1 b.1/\c3 aY bJ r.2 b.2/\Ext μ φ ah ha aY bJ r.2 b.2
theorem YH{vs:List U}{ck:List Value}(h:bU μ φ vs ck):bs μ φ (BK vs) (single ck):=by
 cases h with
 |nil=>exact .tuple .nil
 |cons h aB=>
  cases aB with
  |nil=>exact h
  |cons h' b=>exact .tuple (.cons h (.cons h' b))
theorem YI{args:List U}{b:List Value}(h:bU μ φ args b):f_ μ φ (ID args) (yt b):=by
 intro i
 unfold ID yt
 rw[iN,iN]
 cases ai:args[i]? with
 |none=>
  have:b[i]?=none:=by
   rw[List.getElem?_eq_none_iff]at ai|-
   rw[<-h.length];exact ai
  rw[this]
  exact bs.undef
 |some x=>
  obtain⟨au,h1,h2⟩:=h.get ai
  rw[h1]
  exact h2
theorem YJ{Γ:aT}{l:bF.Callee}(p:jA Γ l)(n:Nat)(F:b2)(s:c3 μ φ ah ha){args:List U}{k:List Value}(m:bU μ φ args k){r:U×Z}(h:b7 Γ n F args ah=y r):
 ∃b,rL l n F.erase k ha=y b/\y_ μ φ ah ha r b:=by
 unfold b7 at h
 unfold rL
 cases aA:cM args.length F.oi with
 |false=>rw[aA]at h;cases h
 |true=>
  rw[aA]at h
  have t:cM k.length F.erase.oi=V:=by rw[<-m.length];exact aA
  rw[t]
  simp only[gG]at h|-
  have ks:∀{e:eA} {cd:Z} {r:U×Z} {g:bP} {cp:aX} {aY:Ren} {bJ:dD},(sV F.results e cd λvs=>aN F.ph ah cd vs)=y r->f_ aY bJ e g->c3 aY bJ cd cp->Ext μ φ ah ha aY bJ cd cp->
   ∃b,(pU F.results g cp λvs=>y (single vs,gc (single vs) ha cp))=y b/\y_ μ φ ah ha r b:=by
   intro e cd r g cp aY bJ ad j c x
   refine IS c j F.results (λvs ck r h1 h2=>?_) ad
   unfold aN at h1
   rw[du]at h1
   obtain⟨q,ak,rfl⟩:=h1
   obtain⟨nM,bI,b0,dj⟩:=BT F.ph c h2 ak
   obtain⟨u,cL,cN,dT⟩:=BU s b0 (x.trans dj) bI
   exact⟨_,rfl,u,nM,YH cL,cN,dT⟩
  refine IQ p n F.code (YI m) s (λo e cd r g cp aY bJ ad j c x=>?_) h
  cases o with
  |normal=>exact ks ad j c x
  |ret=>exact ks ad j c x
  |exit i=>cases ad
theorem YK{Γ:aT}{w:bF.Callee}(H:jA Γ w)(n:Nat)(s:c3 μ φ ah ha){args:List U}{I:List Value}(W:bU μ φ args I){r:U×Z}(h:ox Γ n args ah=y r):
 ∃j,qI w n I ha=y j/\y_ μ φ ah ha r j:=by
 unfold ox at h
 split at h
 ·rename_i b vs
  split at h
  ·rename_i dg dd bH X Y eg md af
   cases W with|cons h1 h2=>
    cases h1 with|@ptr _ _ l hm=>
     obtain⟨ay,aa,ab⟩:=BX s af hm
     cases aA:cM vs.length bH.length with
     |false=>rw[aA]at h;cases h
     |true=>
      rw[aA]at h
      simp only[gG]at h
      have:=Xk (Γ:=w) (n:=n) (h:=ha) aa (show cM _ bH.length=V by rw[<-h2.length];exact aA)
      unfold iO at this
      rw[this]
      have ac:f_ μ φ (λ_=>.dR) (λ_=>bF.dR):=λ_=>.dR _
      refine IQ H n X ((ac.fM dd ab).fM bH h2) s (λo e cd r aB cp aY bJ ad ai J x=>?_) h
      cases o with
      |exit i=>cases ad
      |ret=>cases ad
      |normal=>
       simp only[cX]at ad|-
       obtain⟨aC,k,ad⟩:=ad
       unfold qV at k
       split at k
       ·rename_i al z A B C D K
        cases k
        have E:=x.hR _ _ _ hm
        obtain⟨L,am,an⟩:=BX J K E
        obtain⟨bI,b0⟩:=J.sX (blk1:=.loop al z A B C .busy D .rw) (blk':=.loop L z A (h8 B) (h8 C) .busy D) K trivial E rfl ⟨_,rfl,an⟩
        have ao:beginRound l.blk cp=y (cp.set l.blk (.loop L z A (h8 B) (h8 C) .busy D)):=by unfold beginRound;rw[am]
        refine(IQ (Q:=y_ μ φ ah ha) H n Y (Ka:=λo _ ak=>endRound l.blk o ak) (ai.mono b0.hR b0.ia) bI (λap aD aq aE aF ar aG au c aH N gH=>?_) ad).elim λj O=>⟨j,⟨_,ao,O.1⟩,O.2⟩
        ·rw[du]at c
         obtain⟨q,c,rfl⟩:=c
         unfold nI at c
         split at c
         ·rename_i P m p t u aI R
          have S:=gH.hR _ _ _ (b0.hR _ _ _ E)
          obtain⟨T,F,av⟩:=BX N R S
          have ae:=(x.trans b0).trans gH
          have go:∀(st:tU) (g:Option fN) (G:Bool),y_ μ φ ah ha (.bool G,trim ah [] (aq.set b (.loop P m p t u st g .rw))) (.bool G,ar.set l.blk (.loop T m p (h8 t) (h8 u) st g)):=by
           intro st g G
           obtain⟨cL,cN⟩:=N.sX (blk1:=.loop P m p t u st g .rw) (blk':=.loop T m p (h8 t) (h8 u) st g) R trivial S rfl ⟨_,rfl,av⟩
           obtain⟨ax,_,fO,gZ⟩:=BU (roots:=[]) (roots':=[]) s cL (ae.trans cN) .nil
           exact⟨ax,au,.bool _,fO,gZ⟩
          cases ap with
          |normal=>cases c;exact⟨_,by simp only[endRound,F],go .ready none V⟩
          |exit i=>cases c;exact⟨_,by simp only[endRound,F],go .done (y (.exit i)) M⟩
          |ret=>cases c;exact⟨_,by simp only[endRound,F],go .done (y .ret) M⟩
         ·cases c
       ·cases k
  ·cases h
 ·cases h
theorem NU:∀(T:iT) (f:dU),(iT.erase T).get f=(T.get f).map b2.erase
 |[],f=>rfl
 |(g,F)::r,f=>by
  simp only[iT.erase,iT.get,jF.get]
  cases cM g f
  ·exact NU r f
  ·rfl
theorem IT{aL:aT}{Γa0:bF.Callee}{T:iT}(av:jA aL (bF.run Γa0 T.erase)):∀n,jA (iU aL T n) (bF.run Γa0 T.erase)
 |0=>λf args ah r cd h μ φ ha e s b=>by
  unfold iU at h
  cases aE:cM f dX with
  |true=>rw[aE]at h;cases h
  |false=>
   rw[aE]at h
   simp only[mg]at h
   split at h
   ·cases h
   ·exact av _ _ _ _ _ h μ φ ha _ s b
 |n+1=>λf args ah r cd h μ φ ha e s b=>by
  unfold iU at h
  cases aE:cM f dX with
  |true=>
   rw[aE]at h
   simp only[gG]at h
   obtain rfl:=hW aE
   obtain⟨c,bw,aY,bJ,bD,da,c1⟩:=YK (IT av n) n s b h
   exact⟨c.1,c.2,aY,bJ,Xi n bw,bD,da,c1⟩
  |false=>
   rw[aE]at h
   simp only[mg]at h
   split at h
   ·rename_i F g
    obtain⟨c,bw,aY,bJ,bD,da,c1⟩:=YJ (IT av n) n F s b h
    exact⟨c.1,c.2,aY,bJ,Xh (by rw[NU,g];rfl) n bw aE,bD,da,c1⟩
   ·exact av _ _ _ _ _ h μ φ ha _ s b
theorem NV{aL:aT}{T:iT}{f:dU}{args:List U}{h:Z}{r:U×Z}(ad:nJ aL T f args h=y r):∃n,iU aL T n f args h=y r:=by
 unfold nJ at ad
 split at ad
 ·exact⟨_,ad⟩
 ·cases ad
theorem YL{aL:aT}{Γa0:bF.Callee}{T:iT}(av:jA aL (bF.run Γa0 T.erase)):jA (nJ aL T) (bF.run Γa0 T.erase):=λf args ah r cd h=>by
 obtain⟨n,aA⟩:=NV h
 exact IT av n f args ah r cd aA
end Go.aM
namespace Go.aM
open Go.bF
variable {R : Type}
theorem YM{b:Nat->aT}{Γ:aT}(c:∀f args h,cT (λk=>b k f args h) (Γ f args h))(f:U)(args:List U)(h:Z):cT (λk=>gz (b k) f args h) (gz Γ f args h):=by
 unfold gz
 split
 ·rename_i g xs ys
  cases fX g dX
  ·exact cT.const _
  ·exact c _ _ _
 ·exact c _ _ _
 ·exact cT.const _
theorem YN{b:Nat->aT}{Γ:aT}(c:∀f args h,cT (λk=>b k f args h) (Γ f args h))(f:U)(args:List U)(h:Z):cT (λk=>p7 (b k) f args h) (p7 Γ f args h):=by
 unfold p7
 split
 ·rename_i g xs ys
  cases fX g dX
  ·exact cT.const _
  ·exact c _ _ _
 ·exact cT.const _
theorem BY{b:Nat->aT}{Γ:aT}(g:∀f args h,cT (λk=>b k f args h) (Γ f args h))(o:wj)(e:eA)(h:Z)
 {dc:Nat->U->Z->Option R} {k:U->Z->Option R} (ad:∀v h,cT (λi=>dc i v h) (k v h)):cT (λi=>gT (b i) o e h (dc i)) (gT Γ o e h k):=by
 cases o with
 |sS t sz=>simp only[gT];split<;>first|exact ad _ _|exact cT.const _
 |wk o7 t e5 sz=>simp only[gT];split<;>first|exact ad _ _|exact cT.const _
 |mq t zero n parts=>
  simp only[gT]
  split
  ·refine(cT.const _).bind λl=>?_
   split<;>first|exact ad _ _|exact cT.const _
  ·exact cT.const _
 |a o=>
  cases o with
  |call f args=>exact(g f _ h).bind λp=>ad _ _
  |isNil t neg x=>
   simp only[gT,nH]
   split
   ·intro r an
    unfold both at an
    split at an
    ·rename_i j
     obtain⟨m1,h1⟩:=ad (.bool V) h r an
     obtain⟨m2,h2⟩:=ad (.bool M) h r (by rw[<-j];exact an)
     refine⟨max m1 m2,λi ai=>?_⟩
     have aG:dc i (.bool V) h=y r:=h1 i (by omega)
     have aF:dc i (.bool M) h=y r:=h2 i (by omega)
     show both (dc i (.bool V) h) (dc i (.bool M) h)=y r
     rw[aG,aF]
     exact aP rfl
    ·cases an
   ·exact(cT.const _).bind λv=>ad _ _
  |im f args=>
   simp only[gT]
   exact(YM g _ _ _).bind λp=>ad _ _
  |buildSlice t zero n parts=>
   simp only[gT]
   split
   ·exact(cT.const _).bind λl=>ad _ _
   ·split<;>first|exact ad _ _|exact cT.const _
  |mkSlice t zero n c=>
   simp only[gT]
   split
   ·exact(cT.const _).bind λl=>ad _ _
   ·exact cT.const _
  |_=>
   simp only[gT]
   first
    |exact ad _ _
    |exact(cT.const _).bind λv=>ad _ _
    |exact cT.const _
theorem YO{g:Nat->aT}{Γ:aT}(i:∀f args h,cT (λk=>g k f args h) (Γ f args h)):
 ∀(s:ew) {Ks:Nat->eA->Z->Option R} {K:eA->Z->Option R},(∀e h,cT (λk=>Ks k e h) (K e h))->∀(e:eA) (h:Z),cT (λk=>iS (g k) s (Ks k) e h) (iS Γ s K e h):=by
 intro s
 induction s with
 |nil=>intro Ks K b e h;exact b e h
 |op dst o ef rest a6=>
  intro Ks K b e h
  cases ef with
  |no=>exact BY i o e h λv h'=>a6 b _ _
  |hH bH=>
   simp only[iS,hb]
   split
   ·exact BY i o e h λv h'=>a6 b _ _
   ·exact cT.const _
  |calm=>
   refine BY i o e (lock h) λv h'=>?_
   simp only[d']
   split
   ·exact a6 b _ _
   ·exact cT.const _
 |ll dst c hi tmp body au rest l j=>
  intro Ks K b e h
  simp only[iS,bc,bd]
  split
  ·split
   ·exact l (λe' h'=>j b _ _) _ _
   ·exact j b _ _
  ·exact cT.const _
 |cC t uj rest a6=>
  intro Ks K b e h
  exact(cT.const _).bind λq=>a6 b _ _
 |BF t e5 sz rest a6=>
  intro Ks K b e h
  exact(cT.const _).bind λq=>a6 b _ _
 |ov kJ d o ef rest a6=>
  intro Ks K b e h
  have key:∀(kJ:List (Nat×fs)) (aG:eA) (h1:Z),cT (λk=>qU kJ aG h1 λaG h1=>gT (g k) o aG (lock h1) λv _=>if mX v=V then iS (g k) rest (Ks k) (ot e d v) h else none)
   (qU kJ aG h1 λaG h1=>gT Γ o aG (lock h1) λv _=>if mX v=V then iS Γ rest K (ot e d v) h else none):=by
   intro kJ
   induction kJ with
   |nil=>
    intro aG h1
    simp only[qU]
    refine BY i o _ _ λv h'=>?_
    split
    ·exact a6 b _ _
    ·exact cT.const _
   |cons p kJ m=>
    intro aG h1
    simp only[qU]
    exact(cT.const _).bind λq=>m _ _
  cases ef with
  |no=>exact key kJ e h
  |calm=>exact key kJ e h
  |hH bH=>exact cT.const _
theorem NW{e:Nat->(List U->Z->Option R)->List U->Z->Option R}{bL:(List U->Z->Option R)->List U->Z->Option R}
 (jG:∀(cs:Nat->List U->Z->Option R) (c:List U->Z->Option R),(∀vs h,cT (λk=>cs k vs h) (c vs h))->∀vs h,cT (λk=>e k (cs k) vs h) (bL c vs h)):
 ∀(n:Nat) (b:Nat->Nat),(∃m,∀k,m<=k->n<=b k)->∀vs h,cT (λk=>cv (e k) (b k) vs h) (cv bL n vs h)
 |0,b,g,vs,h=>by intro r an;cases an
 |n+1,b,⟨m,hm⟩,vs,h=>by
  intro r an
  obtain⟨m2,h2⟩:=jG (λk=>cv (e k) (b k-1)) (cv bL n) (λvs h=>NW jG n (λk=>b k-1) ⟨m,λk ad=>by have:=hm k ad;omega⟩ vs h) vs h r an
  refine⟨max m m2,λk ad=>?_⟩
  have ak:=hm k (by omega)
  obtain⟨j,g⟩:∃j,b k=j+1:=⟨b k-1,by omega⟩
  show cv (e k) (b k) vs h=y r
  rw[g]
  have aJ:e k (cv (e k) (b k-1)) vs h=y r:=h2 k (by omega)
  rw[g]at aJ
  exact aJ
theorem IU{q:Nat->aT}{Γ:aT}(t:∀f args h,cT (λk=>q k f args h) (Γ f args h))(n:Nat):
 ∀(c:hZ) {Ks:Nat->fN->eA->Z->Option R} {K:fN->eA->Z->Option R},(∀o e h,cT (λk=>Ks k o e h) (K o e h))->∀(e:eA) (h:Z),cT (λk=>jz (q k) k c (Ks k) e h) (jz Γ n c K e h):=by
 intro c
 induction c with
 |skip=>intro Ks K j e h;exact j _ _ _
 |region d s=>intro Ks K j e h;exact YO t s (λe h=>j _ _ _) e h
 |seq a b l m=>
  intro Ks K j e h
  refine l (λo e h=>?_) e h
  cases o with
  |normal=>exact m j e h
  |exit i=>exact j _ _ _
  |ret=>exact j _ _ _
 |cond c mod tmp a b l m=>
  intro Ks K j e h
  simp only[jz,aD,bb]
  split
  ·split
   ·refine l (λo e h=>?_) e h
    cases o with
    |normal=>exact j _ _ _
    |exit i=>exact j _ _ _
    |ret=>exact j _ _ _
   ·refine m (λo e h=>?_) e h
    cases o with
    |normal=>exact j _ _ _
    |exit i=>exact j _ _ _
    |ret=>exact j _ _ _
  ·exact cT.const _
 |block id mod tmp c a6=>
  intro Ks K j e h
  simp only[jz,aD]
  refine a6 (λo e h=>?_) e h
  cases o with
  |normal=>exact j _ _ _
  |exit i=>simp only[];cases cM i id<;>exact j _ _ _
  |ret=>exact j _ _ _
 |loop mod tmp c a6=>
  intro Ks K j e h
  simp only[jz]
  refine NW (λcs c aa vs h=>?_) n (λk=>k) ⟨n,λk ad=>ad⟩ _ _
  refine a6 (λo e h=>?_) _ _
  cases o with
  |normal=>exact aa _ _
  |exit i=>exact j _ _ _
  |ret=>exact j _ _ _
 |exit i=>intro Ks K j e h;exact j _ _ _
 |ret=>intro Ks K j e h;exact j _ _ _
 |jW g dd bH u w l m=>
  intro Ks K j e h
  simp only[jz]
  refine(YN t _ _ _).bind λp=>(cT.const _).bind λo=>?_
  cases o with
  |none=>exact j _ _ _
  |some x=>exact j _ _ _
theorem NX{b:Nat->aT}{Γ:aT}(c:∀f args h,cT (λk=>b k f args h) (Γ f args h))(n:Nat)(args:List U)(h:Z):cT (λk=>ox (b k) k args h) (ox Γ n args h):=by
 unfold ox
 split
 ·split
  ·rename_i cm vs x dg dd bH g j eg md af
   cases cM vs.length bH.length with
   |false=>exact cT.const _
   |true=>
    simp only[gG]
    refine IU c n g (λo e h1=>?_) _ _
    cases o with
    |normal=>exact(cT.const _).bind λh2=>IU (Ks:=λ_ o _ ak=>(nI cm o ak).map λq=>(q.1,trim h [] q.2)) (K:=λo _ ak=>(nI cm o ak).map λq=>(q.1,trim h [] q.2)) c n j (λo _ ak=>cT.const _) e h2
    |exit i=>exact cT.const _
    |ret=>exact cT.const _
  ·exact cT.const _
 ·exact cT.const _
theorem NY{b:Nat->aT}{Γ:aT}(c:∀f args h,cT (λk=>b k f args h) (Γ f args h))(n:Nat)(F:b2)(args:List U)(h:Z):cT (λk=>b7 (b k) k F args h) (b7 Γ n F args h):=by
 simp only[b7]
 cases cM args.length F.oi with
 |false=>exact cT.const _
 |true=>
  simp only[gG]
  refine IU c n F.code (λo e h'=>?_) _ _
  exact cT.const _
theorem y'{aL:aT}{T:iT}:∀(n:Nat) (f:dU) (args:List U) (h:Z),cT (λk=>iU aL T k f args h) (iU aL T n f args h)
 |0,f,args,h=>by
  intro r an
  unfold iU at an
  cases aE:cM f dX with
  |true=>rw[aE]at an;cases an
  |false=>
   rw[aE]at an
   simp only[mg]at an
   split at an
   ·cases an
   ·rename_i b
    refine⟨0,λk _=>?_⟩
    cases k<;>(simp only[iU,aE,mg,b];exact an)
 |n+1,f,args,h=>by
  intro r an
  unfold iU at an
  cases aE:cM f dX with
  |true=>
   rw[aE]at an
   simp only[gG]at an
   obtain⟨m,hm⟩:=NX (y' n) n args h r an
   refine⟨m+1,λk ad=>?_⟩
   obtain⟨j,rfl⟩:∃j,k=j+1:=⟨k-1,by omega⟩
   simp only[iU,aE,gG]
   exact hm j (by omega)
  |false=>
   rw[aE]at an
   simp only[mg]at an
   split at an
   ·rename_i F b
    obtain⟨m,hm⟩:=NY (y' n) n F args h r an
    refine⟨m+1,λk ad=>?_⟩
    obtain⟨j,rfl⟩:∃j,k=j+1:=⟨k-1,by omega⟩
    simp only[iU,aE,mg,b]
    exact hm j (by omega)
   ·rename_i b
    refine⟨0,λk _=>?_⟩
    cases k<;>(simp only[iU,aE,mg,b];exact an)
theorem NZ{aL:aT}{T:iT}{n:Nat}{f:dU}{args:List U}{h:Z}{r:U×Z}(ad:iU aL T n f args h=y r):nJ aL T f args h=y r:=by
 have H:∃n,(iU aL T n f args h).isSome=V:=⟨n,by rw[ad];rfl⟩
 unfold nJ
 rw[dif_pos H]
 cases aa:iU aL T (L2 H) f args h with
 |none=>have:=Classical.choose_spec H;rw[aa]at this;cases this
 |some dO=>
  obtain⟨m1,h1⟩:=y' n f args h r ad
  obtain⟨m2,h2⟩:=y' _ f args h dO aa
  have aG:=h1 (max m1 m2) (by omega)
  have aF:=h2 (max m1 m2) (by omega)
  rw[<-aG,<-aF]
theorem N0{aL:aT}{T:iT}(f:dU)(args:List U)(h:Z):cT (λk=>iU aL T k f args h) (nJ aL T f args h):=by
 intro r an
 obtain⟨n,aA⟩:=NV an
 exact y' n f args h r aA
theorem YP{aL:aT}{T:iT}{f:dU}{F:b2}(b:T.get f=y F)(n:Nat){args:List U}{h:Z}{r:U×Z}(ad:b7 (nJ aL T) n F args h=y r)(aE:cM f dX=M:=by rfl):nJ aL T f args h=y r:=by
 obtain⟨m,hm⟩:=NY N0 n F args h r ad
 refine NZ (n:=m+1) ?_
 simp only[iU,aE,mg,b]
 exact hm m (cj _)
theorem YQ{aL:aT}{T:iT}(n:Nat){args:List U}{h:Z}{r:U×Z}(ad:ox (nJ aL T) n args h=y r):nJ aL T dX args h=y r:=by
 obtain⟨m,hm⟩:=NX N0 n args h r ad
 refine NZ (n:=m+1) ?_
 simp only[iU,qF,gG]
 exact hm m (cj _)
end Go.aM
namespace Go.aM
open Go.bF
abbrev bl:=Option (U×Z)
def bK{R:Type}(v:U)(h:Z)(k:U->Z->Option R):Option R:=k v h
theorem IV{Γ:aT}{n b:Nat}{dg vs:List U}{dd bH:List Nat}{c g:hZ}{eg:Option fN}{md:ep}{h:Z}(af:h[b]?=y (.loop dg dd bH c g .ready eg md))(ax:cM vs.length bH.length=V):
 ox Γ n (.ptr b 0::vs) h=jz Γ n c (λo e h1=>match o with
  |.normal=>(qV b h1).bind λh2=>jz Γ n g (λo _ ak=>(nI b o ak).map λq=>(q.1,trim h [] q.2)) e h2
  |_=>none) (pg (pg (λ_=>.dR) dd dg) bH vs) h:=by
 unfold ox
 simp only[af,ax,gG]
 all_goals congr 1
theorem wrap64{n:Int}(h:dB n):IntKind.i64.wrap n=n:=by
 unfold dB at h
 simp [IntKind.wrap,xZ,x0]
 split<;>omega
theorem er(k:IntKind)(a b:Int):ar .lss (.int k a) (.int k b)=y (.bool (decide (a<b))):=by simp [ar]
theorem jg(k:IntKind)(a b:Int):ar .leq (.int k a) (.int k b)=y (.bool (decide (a<=b))):=by simp [ar]
theorem iD(k:IntKind)(a b:Int):ar .gtr (.int k a) (.int k b)=y (.bool (decide (a>b))):=by simp [ar]
theorem oB(k:IntKind)(a b:Int):ar .geq (.int k a) (.int k b)=y (.bool (decide (a>=b))):=by simp [ar]
theorem gf(k:IntKind)(a b:Int):ar .eql (.int k a) (.int k b)=y (.bool (a==b)):=by simp [ar]
theorem hc(k:IntKind)(a b:Int):ar .neq (.int k a) (.int k b)=y (.bool (a !=b)):=by simp [ar]
theorem kM(k:IntKind)(a b:Int):ar .add (.int k a) (.int k b)=y (.int k (k.wrap (a+b))):=by simp [ar]
theorem uk(k:IntKind)(a b:Int):ar .sub (.int k a) (.int k b)=y (.int k (k.wrap (a-b))):=by simp [ar]
theorem IW(k:IntKind)(a b:Int):ar .mul (.int k a) (.int k b)=y (.int k (k.wrap (a*b))):=by simp [ar]
theorem ako(a b:ByteArray):ar .eql (.str a) (.str b)=y (.bool (a.toList==b.toList)):=rfl
theorem IX(neg a b:Bool):p4 neg (.bool a) (.bool b)=y (.bool (neg !=(a==b))):=rfl
theorem mB(b:Bool):dq .not (.bool b)=y (.bool !b):=rfl
theorem IY(k k':IntKind)(n:Int):mV k (.int k' n)=y (.int k (k.wrap n)):=rfl
theorem eT(v:U)(vs:List U):aK (v::vs) 0=v:=rfl
theorem yX(v w:U)(vs:List U):aK (v::w::vs) 1=w:=rfl
theorem yY(v w x:U)(vs:List U):aK (v::w::x::vs) 2=x:=rfl
theorem BD(v w x au:U)(vs:List U):aK (v::w::x::au::vs) 3=au:=rfl
theorem YR(v w x au z:U)(vs:List U):aK (v::w::x::au::z::vs) 4=z:=rfl
theorem sZ(t:Bool){R:Type}(a b:Option R):bd (.bool t) V a b=if t=V then a else b:=rfl
theorem p9(t:Bool){R:Type}(a b:Option R):bd (.bool t) M a b=if t=M then a else b:=rfl
theorem eU(t:Bool){R:Type}(a b:Option R):bb (.bool t) a b=if t=V then a else b:=rfl
theorem YS{R:Type}(k:List U->Z->Option R)(b:(List U->Z->Option R)->Option R):aD k b=b k:=rfl
theorem YT{R:Type}(k:U->Z->Option R)(b:(U->Z->Option R)->Option R):bc k b=b k:=rfl
theorem nO{R:Type}(v:U)(h:Z)(k:U->Z->Option R):bK v h k=k v h:=rfl
theorem YU{R:Type}(m:Option R):hb V m=m:=rfl
theorem YV{R:Type}(a:Option R):both a a=a:=by unfold both;rw[aP rfl]
theorem N1{R:Type}{a b r:Option R}(h1:a=r)(h2:b=r):both a b=r:=by rw[h1,h2,YV]
theorem YW{R:Type}(neg:Bool)(sz:Nat)(r:List U)(rs:List (List U))(k:U->Option R):nH .slice neg (.bE sz (r::rs)) k=k (.bool neg):=by cases neg<;>rfl
theorem YX{R:Type}(neg:Bool)(sz:Nat)(k:U->Option R):nH .slice neg (.bE sz []) k=both (k (.bool V)) (k (.bool M)):=rfl
theorem YY{R:Type}{neg:Bool}{sz:Nat}{rows:List (List U)}{k:U->Option R}{r:Option R}(h1:rows=[]->k (.bool !neg)=r)(h2:k (.bool neg)=r):nH .slice neg (.bE sz rows) k=r:=by
 cases rows with
 |cons x l=>rw[YW];exact h2
 |nil=>
  rw[YX]
  have h1:=h1 rfl
  cases neg
  ·exact N1 h1 h2
  ·exact N1 h2 h1
theorem N2{R:Type}{bL:(List U->Z->Option R)->List U->Z->Option R}(vs:Nat->List U)(aB:Nat->Z)(len:Nat)(r:Option R)
 (b:∀i,i<len->∀K,bL K (vs i) (aB i)=K (vs (i+1)) (aB (i+1))) (c:∀K,bL K (vs len) (aB len)=r):∀(n i:Nat),i<=len->len<n+i->cv bL n (vs i) (aB i)=r
 |0,i,h1,h2=>by omega
 |n+1,i,h1,h2=>by
  show bL (cv bL n) (vs i) (aB i)=r
  by_cases h:i<len
  ·rw[b i h]
   exact N2 vs aB len r b c n (i+1) h (by omega)
  ·have:i=len:=by omega
   subst this
   exact c _
theorem hx{R:Type}{bL:(List U->Z->Option R)->List U->Z->Option R}{r:Option R}{n:Nat}{v0:List U}{av:Z}(vs:Nat->List U)(aB:Nat->Z)(len:Nat)(aA:len<n)(aG:vs 0=v0)(aF:aB 0=av)
 (b:∀i,i<len->∀K,bL K (vs i) (aB i)=K (vs (i+1)) (aB (i+1))) (c:∀K,bL K (vs len) (aB len)=r):cv bL n v0 av=r:=by
 rw[<-aG,<-aF]
 exact N2 vs aB len r b c n 0 (hO _) (by omega)
theorem oC{R:Type}{bL:(List U->Z->Option R)->List U->Z->Option R}{r:Option R}{n:Nat}{v0:List U}{av:Z}(vs:Nat->List U)(len:Nat)(aA:len<n)(aG:vs 0=v0)
 (b:∀i,i<len->∀K,bL K (vs i) av=K (vs (i+1)) av) (c:∀K,bL K (vs len) av=r):cv bL n v0 av=r:=
 hx vs (λ_=>av) len aA aG rfl b c
theorem gg(h l:Z)(k:Nat):(h++l)[h.length+k]?=l[k]?:=by
 rw[lN (by omega)];congr 1;omega
theorem en(h l:Z):(h++l)[h.length]?=l[0]?:=gg h l 0
theorem p_(h l:Z)(k:Nat)(b:b3):(h++l).set (h.length+k) b=h++l.set k b:=by
 rw[List.set_append_right _ _ (by omega)];congr 2;omega
theorem p'(h l:Z)(b:b3):(h++l).set h.length b=h++l.set 0 b:=p_ h l 0 b
theorem qa{h:Z}{b:Nat}{vs:List U}{t:a1}{md:ep}(e:h[b]?=y (.box vs t md)):kr h b=y vs:=by unfold kr;rw[e]
theorem BZ{h:Z}{b sz:Nat}{rows:List (List U)}{t:a1}{md:ep}(e:h[b]?=y (.log rows sz t md)):sT h b rows.length sz=y rows:=by unfold sT;rw[e];simp
theorem lU(agg:Bool)(n b o:Nat)(h:Z):ab agg n (.ptr b o) h=(kr h b).bind λvs=>e7 agg o n vs:=rfl
theorem za(agg:Bool)(n o:Nat)(row:List U)(h:Z):ab agg n (.fz row o) h=e7 agg o n row:=rfl
theorem IZ(o n:Nat)(cs:List U):e7 M o n cs=cs[o]?:=rfl
theorem N3{o n:Nat}{cs:List U}(h:o+n<=cs.length):e7 V o n cs=y (.agg ((cs.drop o).take n)):=aP h
theorem gh{n:Nat}{cs:List U}(h:cs.length=n):e7 V 0 n cs=y (.agg cs):=by rw[N3 (by omega),oZ,List.take_of_length_le (by omega)]
theorem N4(b o f:Nat):aq f (.ptr b o)=y (.ptr b (o+f)):=rfl
theorem N5(row:List U)(o f:Nat):aq f (.fz row o)=y (.fz row (o+f)):=rfl
theorem YZ{h:Z}{b o n:Nat}{v:U}{vs ck:List U}{t:a1}(e:h[b]?=y (.box vs t .rw))(aA:(cn v).length=n)(av:0<n)(ah:cF vs o (cn v)=y ck):bf n (.ptr b o) v h=y (h.set b (.box ck t .rw)):=by
 unfold bf
 have aG:(cM (cn v).length n&&fX 0 n)=V:=by subst aA;simp [fX];exact av
 rw[aG]
 simp only[gG,e,ah,dw]
theorem Y0{h:Z}{b n:Nat}{cs vs:List U}{t:a1}(e:h[b]?=y (.box vs t .rw))(h1:vs.length=n)(h2:cs.length=n)(av:0<n)(ay:cs.all dt=V):bf n (.ptr b 0) (.agg cs) h=y (h.set b (.box cs t .rw)):=by
 refine YZ e h2 av ?_
 unfold cF
 rw[aP ⟨by simp only[cn];omega,ay⟩]
 simp only[cn,x5,hV,hh]
 rw[Hu (by omega),fD]
theorem Y1{sz:Nat}{rows:List (List U)}{i:Nat}{row:List U}(k:IntKind)(h:rows[i]?=y row):bY sz (.bE sz rows) (.int k i)=y (.fz row 0):=by
 simp only[bY]
 rw[aP ⟨by omega,trivial⟩,mc,h]
 rfl
theorem r1{α:Type}{f:α->List U}{l:List α}{sz:Nat}{i:Nat}{a:α}(k:IntKind)(h:l[i]?=y a):bY sz (.bE sz (l.map f)) (.int k i)=y (.fz (f a) 0):=Y1 k (by rw[List.getElem?_map,h];rfl)
theorem N6{b lo n v sz:Nat}{i:Nat}(k:IntKind)(h:i<n):bY sz (.ref b lo n v sz) (.int k i)=y (.gS b (lo+i) 0 v sz):=by
 simp only[bY]
 rw[aP ⟨by omega,by omega,trivial⟩,mc]
theorem Y2{sz:Nat}{rows:List (List U)}:bB M (.bE sz rows)=y (.int .i64 rows.length):=rfl
theorem s0{α:Type}{sz:Nat}{f:α->List U}{l:List α}:bB M (.bE sz (l.map f))=y (.int .i64 l.length):=by rw[Y2,c9]
theorem Y3(b lo n v sz:Nat):bB M (.ref b lo n v sz)=y (.int .i64 n):=rfl
theorem oD(s:ByteArray):bB V (.str s)=y (.int .i64 s.size):=rfl
theorem Y4(z v:U)(ay:cn v=[v]:=by rfl):cV (h_ [z] 1) [(0,1,v)]=y [v]:=by
 simp [cV,h_,ay]
theorem Y5(z:U)(k:IntKind)(n:Int):cV (h_ [z] 1) [(0,1,.int k n)]=y [.int k n]:=Y4 _ _
theorem Y6{h:Z}{b sz:Nat}{t:a1}{rows new:List (List U)}{x:U}(e:h[b]?=y (.log rows sz t .rw))(ae:kK sz x h=y new)(aB:0<sz)(ah:new.flatten.all dt=V)(hm:rows.length+new.length<=dp):
 eC t sz (.ref b 0 rows.length rows.length sz) x h=y (.ref b 0 (rows.length+new.length) (rows.length+new.length) sz,h.set b (.log (rows++new) sz t .rw)):=by
 simp only[eC,ae,dy,rV]
 rw[aP ⟨by omega,aB,ah⟩,e]
 simp only
 rw[aP ⟨trivial,trivial,trivial,trivial,trivial,trivial,hm⟩]
theorem Y7(sz:Nat)(rows:List (List U))(h:Z):kK sz (.bE sz rows) h=y rows:=aP rfl
theorem wC{h l:Z}{k sz:Nat}{t:a1}{rows:List (List U)}{row:List U}(e:l[k]?=y (.log rows sz t .rw))(aB:0<sz)(ah:row.all dt=V)(hm:rows.length<dp):
 eC t sz (.ref (h.length+k) 0 rows.length rows.length sz) (.bE sz [row]) (h++l)=y (.ref (h.length+k) 0 (rows.length+1) (rows.length+1) sz,h++l.set k (.log (rows++[row]) sz t .rw)):=by
 rw[Y6 (by rw[gg];exact e) (Y7 _ _ _) aB (by simpa using ah) (by simp;omega),p_]
 rfl
theorem jJ(h:Z)(roots:List U):trim h roots h=h:=by
 unfold trim
 split
 ·exact iy
 ·rfl
theorem hf{h h':Z}(roots:List U)(e:h'.length=h.length):trim h roots h'=h':=by
 unfold trim
 split
 ·rw[<-e];exact iy
 ·rfl
theorem qb{h:Z}{roots:List U}(l:Z)(an:∀v∈roots,bM h.length v):trim h roots (h++l)=h:=by
 unfold trim
 rw[aP ⟨an,λb af=>.inl (cI af)⟩]
 exact vm
theorem kN(v:U)(h:Z):cC .aj v h=y (v,h):=by unfold cC;rfl
theorem B0(sz sz':Nat)(rows:List (List U))(h:Z):cC (.flat sz) (.bE sz' rows) h=y (.bE sz' rows,h):=by unfold cC;rfl
theorem N7(sz sz':Nat)(cs:List fs)(rows:List (List U))(h:Z):cC (.bZ sz cs) (.bE sz' rows) h=y (.bE sz' rows,h):=by unfold cC;rfl
theorem N8(sz:Nat)(h:Z):cC (.flat sz) .a7 h=y (.bE sz [],h):=by unfold cC;rfl
theorem I0(sz:Nat)(cs:List fs)(h:Z):cC (.bZ sz cs) .a7 h=y (.bE sz [],h):=by unfold cC;rfl
theorem Y8(sz:Nat)(h:Z):cC (.flat sz) .emp h=y (.bE sz [],h):=by unfold cC;rfl
theorem Y9(sz:Nat)(cs:List fs)(h:Z):cC (.bZ sz cs) .emp h=y (.bE sz [],h):=by unfold cC;rfl
theorem um(cs:List fs)(vs:List U)(h:Z):cC (.agg cs) (.agg vs) h=(gk cs vs h).map λq=>(.agg q.1,q.2):=by unfold cC;rfl
theorem jK(h:Z):gk [] [] h=y ([],h):=by unfold gk;rfl
theorem iV(s:fs)(e6:List fs)(v:U)(vs:List U)(h:Z):gk (s::e6) (v::vs) h=(cC s v h).bind λq=>(gk e6 vs q.2).map λr=>(q.1::r.1,r.2):=by rw[gk]
theorem Y_{h l:Z}{k sz s:Nat}{t:a1}{rows:List (List U)}(e:l[k]?=y (.log rows sz t .rw))(ah:rows.flatten.all fR=V):
 cC (.flat s) (.ref (h.length+k) 0 rows.length rows.length sz) (h++l)=y (.bE sz rows,h++if rows.length=0 then l else l.set k (.log rows sz t .ro)):=by
 unfold cC
 simp only
 by_cases av:rows.length=0
 ·rw[aP av,aP av,List.eq_nil_of_length_eq_zero av]
 ·rw[aW av,aW av,gg,e]
  simp only[oZ,iy]
  rw[aP ⟨trivial,trivial,by omega,ah⟩,p_]
theorem mC(ph:List fs)(h h':Z)(vs:List U):aN ph h h' vs=(gk ph vs h').map λq=>(BK q.1,trim h q.1 q.2):=rfl
theorem akp(v:U):BK [v]=v:=rfl
theorem akm(v w:U):BK [v,w]=.tuple [v,w]:=rfl
theorem akq(v w x:U):BK [v,w,x]=.tuple [v,w,x]:=rfl
theorem zb{h l:Z}{v:U}(ay:∀n,bM n v):aN [.aj] h (h++l) [v]=y (v,h):=by
 simp only[mC,iV,jK,kN,dy,dw,akp]
 rw[qb _ (λx ae=>by simp only[hp]at ae;subst ae;exact ay _)]
theorem qc{h l:Z}{k:IntKind}{n:Int}:aN [.aj] h (h++l) [.int k n]=y (.int k n,h):=zb λ_=>by simp [bM]
theorem dJ{h l:Z}{b:Bool}:aN [.aj] h (h++l) [.bool b]=y (.bool b,h):=zb λ_=>by simp [bM]
theorem pk{h:Z}{k:IntKind}{n:Int}:aN [.aj] h h [.int k n]=y (.int k n,h):=by have:=qc (h:=h) (l:=[]) (k:=k) (n:=n);rwa [fD]at this
theorem dZ{h:Z}{b:Bool}:aN [.aj] h h [.bool b]=y (.bool b,h):=by have:=dJ (h:=h) (l:=[]) (b:=b);rwa [fD]at this
theorem nP{α:Type}{f:α->List U}(aE:∀a,(f a).all fR=V)(l:List α):(l.map f).flatten.all fR=V:=by
 refine List.all_eq_true.2 λx ae=>?_
 obtain⟨r,an,ae⟩:=List.mem_flatten.1 ae
 obtain⟨a,_,rfl⟩:=List.mem_map.1 an
 exact List.all_eq_true.1 (aE a) x ae
theorem qd{α:Type}{l:List α}{i:Nat}{a:α}(ai:l[i]?=y a):l.take (i+1)=l.take i++[a]:=by rw[List.take_add_one,ai];rfl
theorem r2{R:Type}(h:Z)(k:Z->Option R):d' h (lock h) k=k h:=by
 unfold d'
 rw[aP (List.prefix_refl _),Hu (by rw[kL];exact cj _),fD]
theorem Y'{R:Type}(h l:Z)(k:Z->Option R):d' h (lock h++l) k=k (h++l):=by
 unfold d'
 rw[aP (List.prefix_append _ _),<-kL h,List.drop_left]
theorem k5(Γ:aT)(g:dU)(xs ys args:List U)(h:Z)(bG:fX g dX=V:=by rfl):gz Γ (.func g xs ys) args h=Γ g (xs++args++ys) h:=by
 show(bif fX g dX then _ else _)=_
 rw[bG];rfl
theorem zc(Γ:aT)(g:dU)(xs ys args:List U)(h:Z)(bG:fX g dX=V:=by rfl):p7 Γ (.func g xs ys) args h=Γ g (xs++args++ys) h:=by
 show(bif fX g dX then _ else _)=_
 rw[bG];rfl
def bA(n:Int):List U:=[.int .i64 n]
def dz(l:List Int):U:=.bE 1 (l.map bA)
theorem lV(l:List Int):bB M (dz l)=y (.int .i64 l.length):=s0
theorem nQ{l:List Int}{i:Nat}{a:Int}(k:IntKind)(h:l[i]?=y a):bY 1 (dz l) (.int k i)=y (.fz (bA a) 0):=r1 k h
theorem akl(a:Int)(h:Z):ab M 1 (.fz (bA a) 0) h=y (.int .i64 a):=rfl
theorem Za(s:Nat)(l:List Int)(h:Z):cC (.flat s) (dz l) h=y (dz l,h):=B0 _ _ _ _
theorem cQ{i n:Nat}(h:i<n):((i:Int)<(n:Int))=True:=kk (by omega)
theorem gl(n:Nat):((n:Int)<(n:Int))=False:=dI (by omega)
theorem zd(n:Nat)(k:IntKind)(x:Int):bM n (.int k x):=by simp [bM]
theorem Zb(n:Nat)(x:Bool):bM n (.bool x):=by simp [bM]
theorem Zc(n:Nat)(s:ByteArray):bM n (.str s):=by simp [bM]
theorem Zd(n:Int):IntKind.u8.wrap n=n%256:=by simp [IntKind.wrap,xZ,x0]
theorem Ze{agg:Bool}{n b i o sz ver:Nat}{rows:List (List U)}{row:List U}{t:a1}{md:ep}{h:Z}(e:h[b]?=y (.log rows sz t md))(ay:ver=rows.length)(ai:rows[i]?=y row):ab agg n (.gS b i o ver sz) h=e7 agg o n row:=by
 subst ay
 simp only[ab,BZ e,dy,ai]
def aku{α:Type}(g:Nat->α)(z:α)(n i:Nat):List α:=(List.range n).map λj=>if j<i then g j else z
theorem N9(k:IntKind)(n:Int):cn (.int k n)=[.int k n]:=rfl
theorem q1(cs:List U):cn (.agg cs)=cs:=rfl
open Go.ChangeShapes Go.WideShapes
mutual
def hL:gR->dY->U
 |.bZ s,d=>match d with
  |.bZ rows=>.bE s.length (rows.map (iE s))
  |.v x=>gy x
 |.int _,d=>match d with
  |.v x=>gy x
  |.bZ _=>.dR
 |.bool,d=>match d with
  |.v x=>gy x
  |.bZ _=>.dR
 |.str,d=>match d with
  |.v x=>gy x
  |.bZ _=>.dR
def iE:List gR->List dY->List U
 |[],_=>[]
 |s::e6,dS=>match dS with
  |[]=>[]
  |d::dS=>hL s d::iE e6 dS
end
theorem Zf{S:Nat->Prop}{h:aX}{ws:List Value}{b c:List dY}(r:hK S h ws (b++c)):∃bC cU,ws=bC++cU/\hK S h bC b/\hK S h cU c:=by
 refine⟨ws.take b.length,ws.drop b.length,(List.take_append_drop _ _).symm,?_,?_⟩
 ·have:=r.take b.length;rwa [vm]at this
 ·have:=r.drop b.length;rwa [List.drop_left]at this
theorem I1:∀{s:List gR} {r:List dY},cP s r->(iE s r).length=s.length
 |[],_,h=>by simp [iE]
 |s::e6,_,h=>by
  cases h with
  |cons h1 h2=>simp [iE,I1 h2]
theorem Zg{s:gR}{d:dY}(h:dC s d):fR (hL s d)=V:=by
 cases h with
 |int=>simp [hL,gy,fR]
 |bool=>simp [hL,gy,fR]
 |str=>simp [hL,gy,fR]
 |bZ=>simp [hL,fR]
theorem N_:∀{s:List gR} {r:List dY},cP s r->(iE s r).all fR=V
 |[],_,h=>by simp [iE]
 |s::e6,_,h=>by
  cases h with
  |cons h1 h2=>simp only[iE,n',Zg h1,N_ h2,Bool.and_self]
def wD(h:aX):dD:=λa=>h[a]?
mutual
theorem Zh{μ:Ren}{S:Nat->Prop}{h:aX}:∀(s:gR) {d:dY} {x:Value},dC s d->R S h x d->bs μ (wD h) (hL s d) x
 |.int k,_,_,aB,an=>by
  cases aB with
  |int cb=>cases an with|v ae=>simp only[hL];exact bs.gy _
 |.bool,_,_,aB,an=>by
  cases aB with
  |bool=>cases an with|v ae=>simp only[hL];exact bs.gy _
 |.str,_,_,aB,an=>by
  cases aB with
  |str=>cases an with|v ae=>simp only[hL];exact bs.gy _
 |.bZ s,_,_,aB,an=>by
  cases aB with
  |@bZ _ rows ax ui=>
   simp only[hL]
   cases an with
   |nil=>exact .nK _
   |gb=>exact .mu _ _ _
   |@bZ b o c n vs _ aA af aa lq aB=>
    have bz:=aB.length
    have aE:(rows.map (iE s)).flatten.length=rows.length*s.length:=by
     rw[my (size:=s.length) (λr an=>by obtain⟨q,h1,rfl⟩:=List.mem_map.1 an;exact I1 (ui q h1)),c9]
    have v7:=N' (μ:=μ) s rows ui aB
    have B1:=v7.length
    rw[aE]at B1
    unfold jX at lq
    split at lq
    ·rename_i cs t eK pa
     split at lq
     ·rename_i fm
      have e:=jU lq
      have nD:maxLen<eQ:=Nq
      refine .bE (vs:=cs) (t:=t) (rw:=eK) (by rw[c9];exact aA) ⟨aa,by omega⟩ (λr an=>by obtain⟨q,h1,rfl⟩:=List.mem_map.1 an;exact I1 (ui q h1)) pa (by rw[aA];omega) (List.all_eq_true.2 λz bu=>?_) ?_
      ·obtain⟨r,h1,h2⟩:=List.mem_flatten.1 bu
       obtain⟨q,ak,rfl⟩:=List.mem_map.1 h1
       exact List.all_eq_true.1 (N_ (ui q ak)) z h2
      ·rw[aA,B1,e]
       exact v7
     ·cases lq
    ·cases lq
theorem I2{μ:Ren}{S:Nat->Prop}{h:aX}:∀(s:List gR) {r:List dY} {ws:List Value},cP s r->hK S h ws r->bU μ (wD h) (iE s r) ws
 |[],_,_,aB,an=>by cases aB;cases an;exact .nil
 |s::e6,_,_,aB,an=>by
  cases aB with
  |cons h1 h2=>cases an with
   |cons ak aJ=>
    simp only[iE]
    exact .cons (Zh s h1 ak) (I2 e6 h2 aJ)
theorem N'{μ:Ren}{S:Nat->Prop}{h:aX}(s:List gR):∀(rows:List (List dY)) {ws:List Value},(∀r∈rows,cP s r)->hK S h ws rows.flatten->bU μ (wD h) (rows.map (iE s)).flatten ws
 |[],_,_,an=>by cases an;exact .nil
 |r::rows,_,aB,an=>by
  rw[mh]at an
  obtain⟨bC,cU,rfl,h1,h2⟩:=Zf an
  rw[me,mh]
  exact(I2 s (aB r (by simp)) h1).append (N' s rows (λq br=>aB q (by simp [br])) h2)
end
def B2:Ren:=λ_ _=>none
theorem Zi(h:aX):c3 B2 (wD h) [] h:=
 ⟨λb k o e=>(by cases e),λb blk e=>(by cases e),λb bj blk blk' l cK e=>(by cases e),λb blk l e=>(by cases e),λa blk e=>e,λb blk k o e=>(by cases e)⟩
theorem I3(n:Int):iE [.int .i64] (qR n)=bA n:=by simp only[qR,iE,hL,gy,bA]
theorem qe{α:Type}{s:List gR}{f:α->List dY}{g:α->List U}(b:∀a,iE s (f a)=g a)(l:List α):hL (.bZ s) (.bZ (l.map f))=.bE s.length (l.map g):=by
 simp only[hL,List.map_map]
 congr 1
 exact List.map_congr_left λa _=>b a
def q2(g:dU):bF.Callee:=λf args h=>bif cM f g then(match args with|[.string s,.int .u8 c]=>y (.int .i64 (rI s.data.toList c.toNat.toUInt8),h)|_=>none)else none
def uo(g:dU):aT:=λf args h=>bif cM f g then(match args with|[.str s,.int .u8 c]=>y (.int .i64 (rI s.data.toList c.toNat.toUInt8),h)|_=>none)else none
theorem Oa{Γ:bF.Callee}{T:jF}{f:dU}(aE:cM f dX=M)(b:T.get f=none)(args:List Value)(h:aX):∀n,iq Γ T n f args h=Γ f args h
 |0=>by unfold iq;rw[aE,b];rfl
 |n+1=>by unfold iq;rw[aE,b];rfl
theorem Zj{Γ:bF.Callee}{T:jF}{f:dU}(aE:cM f dX=M)(b:T.get f=none){args:List Value}{h:aX}{r:Value×aX}(an:Γ f args h=y r):run Γ T f args h=y r:=by
 unfold run
 have H:∃n,(iq Γ T n f args h).isSome=V:=⟨0,by rw[Oa aE b,an];rfl⟩
 rw[dif_pos H,Oa aE b,an]
theorem Zk{P:Program}{g:dU}(he:∀(xs:Array Value) (w:World),(callFunc g xs).run P w=.ok (.enter g xs) w)
 (aa:∀(F:Fence) (n:Nat),kH F->∀(s:ByteArray) (c:Int) (w:World),qE F.plain n P g #[.string s,.int .u8 c] w λe b'=>e=.returned (.int .i64 (rI s.data.toList c.toNat.toUInt8))/\b'=w)
 (ba:cM dX g=M):jd P (q2 g):=by
 refine⟨λf aE args h r h1 ad=>?_,λb args h r h1 ad=>?_⟩
 ·unfold q2 at ad
  cases af:cM f g with
  |false=>rw[af]at ad;cases ad
  |true=>
   have:=hW af
   subst this
   rw[af]at ad
   simp only[gG]at ad
   refine⟨he,λμ w k s i F n j=>?_⟩
   split at ad
   ·rename_i t c
    cases ad
    cases i with
    |cons h1 h2=>
     cases h2 with
     |cons ak aJ=>
      cases aJ;cases h1;cases ak
      show qE F.plain n P f #[.string t,.int .u8 c] w _
      refine CallsIn.mono (aa F n j t c w) λe b' q=>?_
      obtain⟨rfl,rfl⟩:=q
      exact⟨_,μ,rfl,.int _ _,s,bF.Ext.refl μ _ _ s.cl⟩
   ·cases ad
 ·unfold q2 at ad
  rw[ba]at ad
  cases ad
theorem Zl{P:Program}{T:iT}{h:aT}{g:bF.Callee}(i:P.follows .mixedOrders=V)(j:rR P (iT.erase T))(aB:jA h (run g T.erase))(af:jd P g){f:dU}{args:List U}{c:List Value}{W:World}{b:Bool}{h1:Z}(ad:nJ h T f args []=y (.bool b,h1))
 (k:bU B2 (wD (kI W)) args c) (ay:cB (k1 W) c c) (aE:fX f dX=V:=by rfl):
 Calls P f c.toArray W λe l=>e=.returned (.bool b)/\RowKit.Below W.heap.size W l:=by
 obtain⟨dO,cp,aY,bJ,bw,bD,da,c1⟩:=YL (Γa0:=g) (T:=T) aB f args [] _ _ ad B2 (wD (kI W)) (kI W) c (Zi _) k
 cases bD
 exact Xr (Xb i j af) bw ay rfl aE
theorem mZ{α β:Type}{a b:Option α}{f:α->Option β}(h:a=b):a.bind f=b.bind f:=by rw[h]
theorem m0{R:Type}{c d:U}{a b:Option R}(h:c=d):bb c a b=bb d a b:=by rw[h]
theorem Zm{R:Type}{c d:U}{t:Bool}{a b:Option R}(h:c=d):bd c t a b=bd d t a b:=by rw[h]
theorem oE{α:Sort _}{c d:Prop}[Decidable c][Decidable d]{a b:α}(h:c=d):(if c then a else b)=(if d then a else b):=by
 subst h;congr
theorem m5{R:Type}{bL:(List U->Z->Option R)->List U->Z->Option R}{n:Nat}{v w:List U}{h k:Z}(aG:v=w)(aF:h=k):cv bL n v h=cv bL n w k:=by rw[aG,aF]
theorem m6{R:Type}{k:U->Z->Option R}{b bj:(U->Z->Option R)->Option R}(h:∀j,b j=bj j):bc k b=bc k bj:=by rw[show b=bj from funext h]
theorem b8{α β:Type}(a:α)(f:α->Option β):(y a).bind f=f a:=e0 (dy a f) (iK _)
theorem aI{R:Type}(k:List U->Z->Option R)(b:(List U->Z->Option R)->Option R):aD k b=b k:=e0 (YS k b) (iK _)
theorem mD{R:Type}(k:U->Z->Option R)(b:(U->Z->Option R)->Option R):bc k b=b k:=e0 (YT k b) (iK _)
theorem gU{R:Type}(k:U->Z->Option R)(b c:Bool)(h:Z):bc k (λj=>bd (.bool b) M (j (.bool c) h) (j (.bool V) h))=k (.bool (b||c)) h:=by cases b<;>rfl
theorem fF{R:Type}(k:U->Z->Option R)(b c:Bool)(h:Z):bc k (λj=>bd (.bool b) V (j (.bool c) h) (j (.bool M) h))=k (.bool (b&&c)) h:=by cases b<;>rfl
theorem pn{R:Type}(k:U->Z->Option R)(v:U)(h:Z):bc k (λj=>j v h)=k v h:=rfl
theorem cO{i:Nat}(h:i<9223372036854775807):IntKind.i64.wrap ((i:Int)+1)=((i+1:Nat):Int):=by rw[wrap64 (by unfold dB;omega)];omega
theorem oF(a b:U):ek (.tuple [a,b]) 0=y a:=e0 (show _=y a from rfl) (iK _)
theorem oG(a b:U):ek (.tuple [a,b]) 1=y b:=e0 (show _=y b from rfl) (iK _)
theorem I4(a b c:U):ek (.tuple [a,b,c]) 0=y a:=e0 (show _=y a from rfl) (iK _)
theorem I5(a b c:U):ek (.tuple [a,b,c]) 1=y b:=e0 (show _=y b from rfl) (iK _)
theorem I6(a b c:U):ek (.tuple [a,b,c]) 2=y c:=e0 (show _=y c from rfl) (iK _)
theorem fT(k b:Nat):aq k (.ptr b 0)=y (.ptr b k):=by rw[N4,hh]
theorem fb{h:Z}{vs:List U}{t:a1}{k:Nat}{v:U}(ay:vs[k]?=y v):ab M 1 (.ptr h.length k) (h++[.box vs t .rw])=y v:=by
 rw[lU,qa (vs:=vs) (t:=t) (md:=.rw) (by rw[en];rfl),dy,IZ,ay]
theorem lW{R:Type}{bL:(List U->Z->Option R)->List U->Z->Option R}{r:Option R}{n:Nat}{v0:List U}{av:Z}(b:Nat->Bool)(vs:Nat->List U)(aB:Nat->Z)(len:Nat)(aA:len<n)(aG:vs 0=v0)(aF:aB 0=av)
 (c:∀i,i<len->b i=M->∀K,bL K (vs i) (aB i)=K (vs (i+1)) (aB (i+1)))
 (e:∀i,i<len->b i=V->(∀j,j<i->b j=M)->∀K,bL K (vs i) (aB i)=r)
 (g:(∀j,j<len->b j=M)->∀K,bL K (vs len) (aB len)=r):cv bL n v0 av=r:=by
 rw[<-aG,<-aF]
 have key:∀(n i:Nat),i<=len->len<n+i->(∀j,j<i->b j=M)->cv bL n (vs i) (aB i)=r:=by
  intro n
  induction n with
  |zero=>intro i h1 h2 _;omega
  |succ n a6=>
   intro i h1 h2 ak
   show bL (cv bL n) (vs i) (aB i)=r
   by_cases h:i<len
   ·cases af:b i with
    |true=>exact e i h af ak _
    |false=>
     rw[c i h af]
     refine a6 (i+1) (by omega) (by omega) λj k=>?_
     by_cases l:j=i
     ·rw[l];exact af
     ·exact ak j (by omega)
   ·have:i=len:=by omega
    subst this
    exact g ak _
 exact key n 0 (hO _) (by omega) λj k=>by omega
theorem oH{α R:Type}{bL:(List U->Z->Option R)->List U->Z->Option R}{r:Option R}{n:Nat}{v0:List U}{av:Z}(l:List α)(p:α->Bool)(vs:Nat->List U)(aA:l.length<n)(aG:vs 0=v0)
 (k:∀i a,i<l.length->l[i]?=y a->p a=M->∀K,bL K (vs i) av=K (vs (i+1)) av)
 (m:∀i a,i<l.length->l[i]?=y a->p a=V->l.findIdx? p=y i->l.any p=V->∀K,bL K (vs i) av=r)
 (o:l.findIdx? p=none->l.any p=M->∀K,bL K (vs l.length) av=r):cv bL n v0 av=r:=by
 refine lW (λi=>match l[i]? with|some a=>p a|none=>M) vs (λ_=>av) l.length aA aG rfl (λi ai af K=>?_) (λi ai af b K=>?_) (λb K=>?_)
 ·have he:=fJ ai
  simp only[he]at af
  exact k i _ ai he af K
 ·have he:=fJ ai
  simp only[he]at af
  refine m i _ ai he af (List.findIdx?_eq_some_iff_getElem.2 ⟨ai,af,λj q=>?_⟩) (List.any_eq_true.2 ⟨_,List.getElem_mem ai,af⟩) K
  have c:=b j q
  rw[fJ (show j<l.length by omega)]at c
  simp only at c
  simp only[c,bn,not_false_eq_true]
 ·have e:∀x∈l,p x=M:=λx ae=>by
   obtain⟨j,g,rfl⟩:=List.getElem_of_mem ae
   have:=b j g
   rw[fJ g]at this
   exact this
  refine o (List.findIdx?_eq_none_iff.2 e) ?_ K
  rw[Bool.eq_false_iff]
  intro h
  obtain⟨x,ae,ah⟩:=List.any_eq_true.1 h
  rw[e x ae]at ah
  cases ah
theorem ze{α:Type}{l:List α}{i:Nat}(h:i<l.length):∃a,l[i]?=y a:=⟨_,fJ h⟩
theorem I7{h:Z}{vs ws:List U}{t:a1}{k n:Nat}(ax:k+n<=vs.length)(ay:(vs.drop k).take n=ws):ab V n (.ptr h.length k) (h++[.box vs t .rw])=y (.agg ws):=by
 rw[lU,qa (vs:=vs) (t:=t) (md:=.rw) (by rw[en];rfl),dy,N3 ax,ay]
theorem zf{h:Z}(l:Z)(k:IntKind)(n:Int):trim h [.int k n] (h++l)=h:=qb l λv ay=>by
 simp only[hp]at ay;subst ay;exact zd _ _ _
theorem ca{α:Sort _}{a b:α}(h:a=b):a=b:=e0 h (iK b)
theorem zg{R:Type}(a b:Option R):bd (.bool V) V a b=a:=e0 (sZ V a b) (aP rfl)
theorem B3{R:Type}(a b:Option R):bd (.bool M) V a b=b:=e0 (sZ M a b) (aW (by decide))
theorem B4{R:Type}(a b:Option R):bd (.bool M) M a b=a:=e0 (p9 M a b) (aP rfl)
theorem uq{R:Type}(a b:Option R):bb (.bool V) a b=a:=e0 (eU V a b) (aP rfl)
theorem s3{R:Type}(a b:Option R):bb (.bool M) a b=b:=e0 (eU M a b) (aW (by decide))
theorem q3{R:Type}(v:U)(h:Z)(k:U->Z->Option R):bK v h k=k v h:=e0 (nO v h k) (iK _)
theorem iW{R:Type}(m:Option R):hb V m=m:=e0 (YU m) (iK _)
theorem q4{R:Type}{v v':U}{h h':Z}{k:U->Z->Option R}(aG:v=v')(aF:h=h'):bK v h k=bK v' h' k:=by rw[aG,aF]
theorem q5{R:Type}{b bj:Bool}{m:Option R}(e:b=bj):hb b m=hb bj m:=by rw[e]
theorem r3{R:Type}{h h' g g':Z}{k:Z->Option R}(aG:h=g)(aF:h'=g'):d' h h' k=d' g g' k:=by rw[aG,aF]
theorem Ob{R:Type}(k:U->Z->Option R)(v:U)(h:Z):bc k (λj=>j v h)=k v h:=e0 (pn k v h) (iK _)
theorem B5(t:Bool){R:Type}(a b:Option R):bb (.bool t) a b=if t=V then a else b:=e0 (eU t a b) (iK _)
theorem r4(l:List U):cn (.agg l)=l:=e0 (q1 l) (iK _)
theorem wE(b:Bool):dq .not (.bool b)=y (.bool !b):=e0 (mB b) (iK _)
theorem qf{α β:Type}(a:α)(f:α->β):(y a).map f=y (f a):=e0 (dw a f) (iK _)
theorem q6(b o f:Nat):aq f (.ptr b o)=y (.ptr b (o+f)):=e0 (N4 b o f) (iK _)
theorem Oc(row:List U)(o f:Nat):aq f (.fz row o)=y (.fz row (o+f)):=e0 (N5 row o f) (iK _)
theorem qg(o n:Nat)(cs:List U):e7 M o n cs=cs[o]?:=e0 (IZ o n cs) (iK _)
theorem Od(agg:Bool)(n o:Nat)(row:List U)(h:Z):ab agg n (.fz row o) h=e7 agg o n row:=e0 (za agg n o row h) (iK _)
theorem I8(agg:Bool)(n o:Nat)(vs:List U)(t:a1)(md:ep)(l:Z):ab agg n (.ptr 0 o) (.box vs t md::l)=e7 agg o n vs:=by
 rw[lU];rfl
theorem I9(agg:Bool)(n o k:Nat)(b:b3)(l:Z):ab agg n (.ptr (k+1) o) (b::l)=ab agg n (.ptr k o) l:=by
 rw[lU,lU];rfl
theorem nR(agg:Bool)(n o:Nat)(h:Z)(vs:List U)(t:a1)(md:ep)(l:Z):ab agg n (.ptr h.length o) (h++.box vs t md::l)=e7 agg o n vs:=by
 rw[lU,qa (vs:=vs) (t:=t) (md:=md) (by rw[en];rfl)];rfl
theorem I_(agg:Bool)(n o k:Nat)(h l:Z):ab agg n (.ptr (h.length+k) o) (h++l)=ab agg n (.ptr k o) l:=by
 rw[lU,lU]
 unfold kr
 rw[gg]
theorem Oe{agg:Bool}{n o i sz:Nat}{rows:List (List U)}{row:List U}{t:a1}{md:ep}{l:Z}(ver:Nat)(ay:ver=rows.length)(ai:rows[i]?=y row):ab agg n (.gS 0 i o ver sz) (.log rows sz t md::l)=e7 agg o n row:=Ze (h:=.log rows sz t md::l) rfl ay ai
theorem Of(agg:Bool)(n o k i ver sz:Nat)(b:b3)(l:Z):ab agg n (.gS (k+1) i o ver sz) (b::l)=ab agg n (.gS k i o ver sz) l:=by
 simp only[ab,sT,mK]
theorem Og(agg:Bool)(n o k i ver sz:Nat)(h l:Z):ab agg n (.gS (h.length+k) i o ver sz) (h++l)=ab agg n (.gS k i o ver sz) l:=by
 simp only[ab,sT,gg]
theorem B6{α:Type}(p:α->Bool)(l:List α):l.find? p=(l.findIdx? p).bind λi=>l[i]?:=by
 induction l with
 |nil=>rfl
 |cons x l a6=>
  rw[List.find?_cons,List.findIdx?_cons]
  cases p x with
  |true=>rfl
  |false=>
   simp only[bn,bh]
   rw[a6]
   cases l.findIdx? p<;>rfl
theorem jh{n o:Nat}{v:U}{vs:List U}{t:a1}{l:Z}(aA:(cn v).length=n)(av:0<n):bf n (.ptr 0 o) v (.box vs t .rw::l)=(cF vs o (cn v)).map λck=>.box ck t .rw::l:=by
 unfold bf
 have aG:(cM (cn v).length n&&fX 0 n)=V:=by subst aA;simp [fX];exact av
 rw[aG];rfl
theorem I'(n o k:Nat)(v:U)(b:b3)(l:Z):bf n (.ptr (k+1) o) v (b::l)=(bf n (.ptr k o) v l).map (b::·):=by
 unfold bf
 cases (cM (cn v).length n&&fX 0 n)with
 |false=>rfl
 |true=>
  simp only[gG,mK]
  cases l[k]? with
  |none=>rfl
  |some blk=>
   cases blk with
   |box vs t md=>cases md with
    |rw=>
     show vo (λck=>(b::l).set (k+1) (b3.box ck t ep.rw)) (cF vs o (cn v))=vo (b::·) (vo (λck=>l.set k (b3.box ck t ep.rw)) (cF vs o (cn v)))
     cases cF vs o (cn v)<;>rfl
    |ou=>rfl
    |ro=>rfl
   |log a b c d=>rfl
   |map a b=>rfl
   |loop a b c d e f g i=>rfl
   |dead=>rfl
theorem B7(n o k:Nat)(v:U)(h l:Z):bf n (.ptr (h.length+k) o) v (h++l)=(bf n (.ptr k o) v l).map (h++·):=by
 unfold bf
 cases (cM (cn v).length n&&fX 0 n)with
 |false=>rfl
 |true=>
  simp only[gG,gg]
  cases l[k]? with
  |none=>rfl
  |some blk=>
   cases blk with
   |box vs t md=>cases md with
    |rw=>
     show vo (λck=>(h++l).set (h.length+k) (b3.box ck t ep.rw)) (cF vs o (cn v))=vo (h++·) (vo (λck=>l.set k (b3.box ck t ep.rw)) (cF vs o (cn v)))
     simp only[p_]
     cases cF vs o (cn v)<;>rfl
    |ou=>rfl
    |ro=>rfl
   |log a b c d=>rfl
   |map a b=>rfl
   |loop a b c d e f g i=>rfl
   |dead=>rfl
theorem wF(n o:Nat)(v:U)(h l:Z):bf n (.ptr h.length o) v (h++l)=(bf n (.ptr 0 o) v l).map (h++·):=B7 n o 0 v h l
theorem ib{vs cs:List U}(h1:vs.length=cs.length)(ay:cs.all dt=V):cF vs 0 cs=y cs:=by
 unfold cF
 rw[aP ⟨by omega,ay⟩]
 simp only[x5,hV,hh]
 rw[Hu (by omega),fD]
theorem lr(l:List U):cV l []=y l:=ca rfl
theorem Ja{cells:List U}{off size:Nat}{v:U}{r:List (Nat×Nat×U)}(h1:(cn v).length=size)(h2:0<size)(ak:off+size<=cells.length):cV cells ((off,size,v)::r)=cV (cells.take off++cn v++cells.drop (off+size)) r:=by
 show(if _ then _ else _)=_
 rw[aP ⟨h1,h2,ak⟩]
theorem Jb{n:Nat}{k:IntKind}{i:Int}:∀v∈[U.int k i],bM n v:=λv ay=>by
 simp only[hp]at ay;subst ay;exact zd _ _ _
theorem B8{h a:Z}{roots:List U}(l:Z)(an:∀v∈roots,bM (h++a).length v):trim (h++a) roots (h++(a++l))=h++a:=by
 rw[<-eb];exact qb l an
theorem Zn(h:Z)(a:b3)(l:Z)(k:IntKind)(n:Int):trim (h++[a]) [.int k n] (h++a::l)=h++[a]:=B8 (a:=[a]) l Jb
theorem q7(h:Z)(a b:b3)(l:Z)(k:IntKind)(n:Int):trim (h++[a,b]) [.int k n] (h++a::b::l)=h++[a,b]:=B8 (a:=[a,b]) l Jb
theorem Zo(h:Z)(a b c d:b3)(l:Z)(k:IntKind)(n:Int):trim (h++[a,b,c,d]) [.int k n] (h++a::b::c::d::l)=h++[a,b,c,d]:=B8 (a:=[a,b,c,d]) l Jb
theorem Zp{n:Nat}{k k':IntKind}{i j:Int}:∀v∈[U.int k i,.int k' j],bM n v:=λv ay=>by
 simp only[hF,ik,h6]at ay;rcases ay with rfl|rfl<;>exact zd _ _ _
theorem Jc(h:Z)(a:b3)(l:Z)(k k':IntKind)(n m:Int):trim (h++[a]) [.int k n,.int k' m] (h++a::l)=h++[a]:=B8 (a:=[a]) l Zp
def B9:U->Bool
 |.int _ _|.bool _|.str _|.a7|.pe|.oq|.mT|.pf|.bE _ _|.emp|.dR=>V
 |_=>M
def qh:U->Bool
 |.agg cs=>cs.all B9
 |v=>B9 v
theorem Oh{n:Nat}{v:U}(h:B9 v=V):bM n v:=by
 cases v<;>first|(simp [bM];done)|(simp [B9]at h;done)
theorem j5{n:Nat}{v:U}(h:qh v=V):bM n v:=by
 unfold qh at h
 split at h
 ·simp only[bM]
  exact λx ae=>Oh (List.all_eq_true.1 h x ae)
 ·exact Oh h
theorem Oi{h l:Z}{v:U}(ay:qh v=V):aN [.aj] h (h++l) [v]=y (v,h):=zb λn=>j5 ay
theorem Jd{h l:Z}{v w:U}(ay:qh v=V)(cb:qh w=V):aN [.aj,.aj] h (h++l) [v,w]=y (.tuple [v,w],h):=by
 simp only[mC,iV,jK,kN,dy,dw,akm]
 rw[qb _ (λx ae=>by
  simp only[hF,ik,h6]at ae;rcases ae with rfl|rfl
  ·exact j5 ay
  ·exact j5 cb)]
theorem Zq{h l:Z}{v w aZ:U}(ay:qh v=V)(cb:qh w=V)(b:qh aZ=V):aN [.aj,.aj,.aj] h (h++l) [v,w,aZ]=y (.tuple [v,w,aZ],h):=by
 simp only[mC,iV,jK,kN,dy,dw,akq]
 rw[qb _ (λx ae=>by
  simp only[hF,ik,h6]at ae;rcases ae with rfl|rfl|rfl
  ·exact j5 ay
  ·exact j5 cb
  ·exact j5 b)]
theorem Oj{h:Z}{v w:U}(ay:qh v=V)(cb:qh w=V):aN [.aj,.aj] h h [v,w]=y (.tuple [v,w],h):=by have:=Jd (h:=h) (l:=[]) ay cb;rwa [fD]at this
def B_:fs->U->Bool
 |.aj,_=>V
 |.flat _,.bE _ _=>V
 |.bZ _ _,.bE _ _=>V
 |_,_=>M
def oI:List fs->List U->Bool
 |[],[]=>V
 |s::e6,v::vs=>B_ s v&&oI e6 vs
 |_,_=>M
theorem Zr{s:fs}{v:U}(h:Z)(aB:B_ s v=V):cC s v h=y (v,h):=by
 unfold B_ at aB
 split at aB
 ·exact kN _ _
 ·exact B0 _ _ _ _
 ·exact N7 _ _ _ _ _
 ·cases aB
theorem Je:∀{e6:List fs} {vs:List U} (h:Z),oI e6 vs=V->gk e6 vs h=y (vs,h)
 |[],[],h,_=>jK h
 |s::e6,v::vs,h,aB=>by
  unfold oI at aB
  rw[dn]at aB
  rw[iV,Zr h aB.1,dy,Je h aB.2,dw]
theorem zh{e6:List fs}{vs:List U}(h:Z)(aB:oI e6 vs=V):cC (.agg e6) (.agg vs) h=y (.agg vs,h):=by
 rw[um,Je h aB,dw]
theorem getD_some{α:Type}{l:List α}{i:Nat}{d a:α}(h:l[i]?=y a):l.getD i d=a:=by rw[iN,h];rfl
theorem Ol(h:Z)(a b:Nat):h.length+a+b=h.length+(a+b):=Nat.add_assoc _ _ _
theorem Jf(h:Z)(a:b3):(h++[a]).length=h.length+1:=by simp
theorem B'(h:Z)(a b:b3):(h++[a,b]).length=h.length+2:=by simp
theorem Ca(h:Z)(a b c:b3):(h++[a,b,c]).length=h.length+3:=by simp
theorem Om(h:Z)(a b c d:b3):(h++[a,b,c,d]).length=h.length+4:=by simp
theorem Cb(h:Z)(a b c d e:b3):(h++[a,b,c,d,e]).length=h.length+5:=by simp
theorem Jg{α β R:Type}{bL:(List U->Z->Option R)->List U->Z->Option R}{r:Option R}{n:Nat}{v0:List U}{av:Z}(l:List α)(f:β->α->β)(cm:β)(vs:β->Nat->List U)(aA:l.length<n)(aG:vs cm 0=v0)
 (c:∀i a b,i<l.length->l[i]?=y a->∀K,bL K (vs b i) av=K (vs (f b a) (i+1)) av) (e:∀K,bL K (vs (l.foldl f cm) l.length) av=r):cv bL n v0 av=r:=by
 refine oC (λi=>vs ((l.take i).foldl f cm) i) l.length aA (by simpa using aG) (λi ai K=>?_) λK=>?_
 ·obtain⟨a,ha⟩:=ze ai
  rw[c i a _ ai ha K,qd ha,List.foldl_append]
  rfl
 ·rw[iy]
  exact e K
theorem Cc{h:Z}{sz:Nat}{t:a1}{row:List U}(aB:0<sz)(ah:row.all dt=V):eC t sz .a7 (.bE sz [row]) h=y (.ref h.length 0 1 1 sz,h++[.log [row] sz t .rw]):=by
 simp only[eC,kK,a_,dy,rV]
 rw[aP ⟨by simp [dp],aB,by simpa using ah⟩,aW (by simp)]
 rfl
theorem gB{v:U}(ay:cn v=[v])(o:Nat)(vs:List U)(t:a1)(l:Z):bf 1 (.ptr 0 o) v (.box vs t .rw::l)=(cF vs o [v]).map λck=>.box ck t .rw::l:=by
 rw[jh (by rw[ay];rfl) (by decide),ay]
theorem zi{av h':Z}{roots:List U}{b:Nat}{blk:b3}(af:b<av.length)(h1:h'[b]?=y blk)(h2:av[b]?≠y blk)(ak:¬j0 av.length blk):trim av roots h'=h':=by
 unfold trim
 rw[aW]
 intro k
 rcases k.2 b af with bw|⟨blk',bw,bD⟩
 ·exact h2 (bw.symm.trans h1)
 ·rw[h1]at bw
  cases bw
  exact ak bD
theorem Cd{n:Nat}{vs:List U}{t:a1}{md:ep}{b lo m v sz:Nat}(h:U.ref b lo m v sz∈vs)(af:n<=b):¬j0 n (.box vs t md):=by
 intro k
 have:=k _ h
 simp only[bM]at this
 omega
theorem On{cs:List fs}:∀{rows:List (List U)} (h:Z),(∀r∈rows,oI cs r=V)->mr cs rows h=y (rows,h)
 |[],h,_=>by unfold mr;rfl
 |r::rs,h,an=>by
  rw[mr,Je h (an r (by simp)),dy,On h λr gQ=>an r (by simp [gQ])]
  rfl
theorem Zs{h l:Z}{k sz s:Nat}{cs:List fs}{t:a1}{rows:List (List U)}(e:l[k]?=y (.log rows sz t .rw))(av:rows.length≠0)(an:∀r∈rows,oI cs r=V)(ah:rows.flatten.all fR=V):
 cC (.bZ s cs) (.ref (h.length+k) 0 rows.length rows.length sz) (h++l)=y (.bE sz rows,h++l.set k (.log rows sz t .ro)):=by
 rw[cC]
 rw[aW av,gg,e]
 simp only[oZ,iy]
 rw[aP ⟨trivial,trivial,by omega⟩,On _ an]
 simp only[dy]
 rw[aP ah,p_]
theorem zj{h l:Z}{k sz s:Nat}{t:a1}{rows:List (List U)}(e:l[k]?=y (.log rows sz t .rw))(av:rows.length≠0)(ah:rows.flatten.all fR=V):
 cC (.flat s) (.ref (h.length+k) 0 rows.length rows.length sz) (h++l)=y (.bE sz rows,h++l.set k (.log rows sz t .ro)):=by
 rw[Y_ e ah,aW av]
theorem q8{ph:List fs}{h h' l:Z}{vs ws:List U}(bu:gk ph vs h'=y (ws,h++l))(ah:∀v∈ws,bM h.length v):aN ph h h' vs=y (BK ws,h):=by
 rw[mC,bu,dw,qb _ ah]
theorem Zt(h:Z)(a b c d e f:b3):(h++[a,b,c,d,e,f]).length=h.length+6:=by simp
theorem wG{t:a1}{zero:List U}{n:Nat}{h:Z}(aA:n<=dp):p5 t zero (.int .i64 n) (.int .i64 n) h=y (.ref h.length 0 n n zero.length,h++[.log (List.replicate n zero) zero.length t .rw]):=by
 simp only[p5]
 rw[aP ⟨by omega,by omega,by omega⟩,mc]
open Go.ChangeShapes Go.WideShapes in
theorem ur(r:List dY):iE [] r=[]:=by simp [iE]
open Go.ChangeShapes Go.WideShapes in
theorem uu(s:gR)(e6:List gR)(d:dY)(dS:List dY):iE (s::e6) (d::dS)=hL s d::iE e6 dS:=by simp [iE]
open Go.ChangeShapes Go.WideShapes in
theorem uv(k k':IntKind)(n:Int):hL (.int k) (.v (.int k' n))=.int k' n:=by simp [hL,gy]
open Go.ChangeShapes Go.WideShapes in
theorem uw(b:Bool):hL .bool (.v (.bool b))=.bool b:=by simp [hL,gy]
open Go.ChangeShapes Go.WideShapes in
theorem ux(b:ByteArray):hL .str (.v (.string b))=.str b:=by simp [hL,gy]
theorem aU:type_of% (dx @r4 (dx @q3 (dx @q6 (dx @Oc (dx @hh (dx (@eb b3) (dx (@js b3) (dx (@hV b3) (dx @Ol (dx @Jf (dx @B' (dx @Ca (dx @Om (dx @Cb (dx @nR (dx @I_ (dx @I9 (dx @I8 (dx @Od (dx @qg (dx @wF (dx @B7 (dx @I' (dx @qf (dx @b8 (dx @gU (dx @fF (dx @Ob (dx @wE (dx @B5 (dx @eT (dx @er (dx @iD (dx @jg (dx @oB (dx @gf (dx @hc (dx @kM (dx @uk (dx @r2 (dx @oF (@oG)))))))))))))))))))))))))))))))))))))))))):=dx @r4 (dx @q3 (dx @q6 (dx @Oc (dx @hh (dx (@eb b3) (dx (@js b3) (dx (@hV b3) (dx @Ol (dx @Jf (dx @B' (dx @Ca (dx @Om (dx @Cb (dx @nR (dx @I_ (dx @I9 (dx @I8 (dx @Od (dx @qg (dx @wF (dx @B7 (dx @I' (dx @qf (dx @b8 (dx @gU (dx @fF (dx @Ob (dx @wE (dx @B5 (dx @eT (dx @er (dx @iD (dx @jg (dx @oB (dx @gf (dx @hc (dx @kM (dx @uk (dx @r2 (dx @oF (@oG)))))))))))))))))))))))))))))))))))))))))
theorem Zu(e:eA)(i:Nat)(v:U):ot e (y i) v i=v:=by unfold ot nG;simp [qF]
theorem Zv(e:eA){i j:Nat}(v:U)(h:(i==j)=M):ot e (y i) v j=e j:=by
 unfold ot nG
 have h':cM i j=M:=by
  rw[Bool.eq_false_iff]
  intro k
  rw[hW k]at h
  simp at h
 simp only[h',mg]
end Go.aM
namespace Go.aM.G
open Go.bF Go.aM
def t(n:Nat):Operand:=.tmp n
def i(n:Int):Operand:=.const (.int .i64 n)
def z:ew:=.nil
def o(d:Nat)(x:fY)(r:ew):ew:=.op (y d) (.a x) .no r
def O(d:Nat)(x:fY)(r:ew):ew:=.op (y d) (.a x) .calm r
def n(x:fY)(r:ew):ew:=.op none (.a x) .no r
def m(d s:Nat)(r:ew):ew:=.op (y d) (.a (.move (.tmp s))) .no r
def b(d:Nat)(op:BinOp)(x au:Operand)(r:ew):ew:=.op (y d) (.a (.bin op x au)) .no r
def f(d off s:Nat)(r:ew):ew:=.op (y d) (.a (.fieldAddr off (.tmp s))) .no r
def l(d s:Nat)(r:ew):ew:=.op (y d) (.a (.load M 1 (.tmp s))) .no r
def q(d c:Nat)(is:Bool)(tmp:List Nat)(body:ew)(au:Operand)(r:ew):ew:=.ll d c is tmp body au r
def F(s:Nat)(uj:fs)(r:ew):ew:=.cC s uj r
def R(s:ew):hZ:=.region M s
def D(s:ew):hZ:=.region V s
def S(a b:hZ):hZ:=.seq a b
def g:Nat->Nat->List Nat
 |_,0=>[]
 |a,n+1=>a::g (a+1) n
end Go.aM.G
namespace Go.aM
open Go.bF
def kt(b:List Int):List Int:=b.mergeSort λx au=>decide (x<=au)
theorem Oo(b:List Int):(kt b).length=b.length:=List.length_mergeSort _
def wH:List Value->Option (List Int)
 |[]=>y []
 |.int .i64 z::r=>(wH r).map (z::·)
 |_=>none
def Ce:List U->Option (List Int)
 |[]=>y []
 |.int .i64 z::r=>(Ce r).map (z::·)
 |_=>none
theorem Zw(b:List Int):wH (b.map (h5 .i64))=y b:=by
 induction b with
 |nil=>rfl
 |cons z b a6=>simp only[me,wH];rw[a6];rfl
theorem Oq:∀{l:List Value} {b:List Int},wH l=y b->l=b.map (h5 .i64)
 |[],_,h=>by cases h;rfl
 |.int .i64 z::r,_,h=>by
  simp only[wH,du]at h
  obtain⟨ys,h1,rfl⟩:=h
  rw[Oq h1]
  rfl
theorem Ot:∀{l:List U} {b:List Int},Ce l=y b->l=b.map (U.int .i64)
 |[],_,h=>by cases h;rfl
 |.int .i64 z::r,_,h=>by
  simp only[Ce,du]at h
  obtain⟨ys,h1,rfl⟩:=h
  rw[Ot h1]
  rfl
theorem Ou{μ:aM.Ren}{φ:dD}:∀(b:List Int),bU μ φ (b.map (U.int .i64)) (b.map (h5 .i64))
 |[]=>.nil
 |z::b=>.cons (.int _ _) (Ou b)
theorem Ov{μ:aM.Ren}{φ:dD}:∀{b:List Int} {l:List Value},bU μ φ (b.map (U.int .i64)) l->l=b.map (h5 .i64)
 |[],_,h=>by cases h;rfl
 |z::b,_,h=>by cases h with|cons h1 h2=>cases h1;rw[Ov h2];rfl
theorem Jh{μ:bF.Ren}:∀(b:List Int),cB μ (b.map (h5 .i64)) (b.map (h5 .i64))
 |[]=>.nil
 |z::b=>.cons (.int _ _) (Jh b)
theorem Ow{μ:bF.Ren}:∀{b:List Int} {l:List Value},cB μ (b.map (h5 .i64)) l->l=b.map (h5 .i64)
 |[],_,h=>by cases h;rfl
 |z::b,_,h=>by cases h with|cons h1 h2=>cases h1;rw[Ow h2];rfl
def qi(g:dU):bF.Callee:=λf args h=>bif cM f g then(match args with
 |[.slice a n _]=>if n=0 then y (undef,h)else(match a with
  |some ⟨b,off,none⟩=>(jX h b off n).bind λl=>(wH l).bind λc=>if n<4611686018427387904 then(og h b off ((kt c).map (h5 .i64))).map λh'=>(undef,h')else none
  |_=>none)
 |_=>none)else none
def wI(g:dU):aT:=λf args h=>bif cM f g then(match args with
 |[.a7]=>y (je,h)
 |[.emp]=>y (je,h)
 |[.ref b lo n ver sz]=>if n=0 then y (je,h)else(match h[b]? with
  |some (.log rows eB t .rw)=>if rows.length=ver/\sz=1/\eB=1/\lo=0/\n=ver/\0<n then(Ce rows.flatten).map λc=>(je,h.set b (.log ((kt c).map λz=>[.int .i64 z]) 1 t .rw))else none
  |_=>none)
 |_=>none)else none
theorem Zx(b:List Int):(b.map λz=>[U.int .i64 z]).flatten=b.map (U.int .i64):=by
 induction b with
 |nil=>rfl
 |cons z b a6=>simp [a6]
theorem Zy{rows:List (List U)}(h:∀r∈rows,r.length=1):rows.flatten.length=rows.length:=by
 rw[my (size:=1) h,Nat.mul_one]
theorem Zz(g:dU):jA (wI g) (qi g):=λf args ah r cd h μ φ ha E s i=>by
 unfold wI at h
 cases af:cM f g with
 |false=>rw[af]at h;cases h
 |true=>
  rw[af]at h
  simp only[gG]at h
  split at h
  ·cases h
   cases i with|cons h1 h2=>
   cases h2;cases h1
   refine⟨undef,ha,μ,φ,?_,bs.undef,s,Ext.refl _ _ _ _⟩
   unfold qi;rw[af];rfl
  ·cases h
   cases i with|cons h1 h2=>
   cases h2;cases h1 with|emp a=>
   refine⟨undef,ha,μ,φ,?_,bs.undef,s,Ext.refl _ _ _ _⟩
   unfold qi;rw[af];rfl
  ·rename_i b lo n j2 sz
   by_cases j:n=0
   ·rw[aP j]at h
    cases h
    subst j
    cases i with|cons h1 h2=>
    cases h2
    cases h1<;>exact⟨undef,ha,μ,φ,by unfold qi;rw[af];rfl,bs.undef,s,Ext.refl _ _ _ _⟩
   rw[aW j]at h
   split at h
   ·rename_i rows eB t k
    split at h
    ·rename_i aa
     obtain⟨c2,rfl,rfl,rfl,ej,F⟩:=aa
     rw[du]at h
     obtain⟨e,bu,h⟩:=h
     cases h
     cases i with|cons h1 h2=>
     cases h2
     cases h1 with
     |j1=>omega
     |@ref _ _ _ _ _ c l hm aA aa=>
      subst ej
      subst c2
      obtain⟨vs,eK,bw,bD,da,c1,fE,u,gI⟩:=r0 s k hm
      obtain rfl:=u rfl
      have w:=Zy c1
      have aG:=Ot bu
      have aF:e.length=rows.length:=by rw[<-w,aG,c9]
      rw[aG]at da
      have m:=Ov da
      rw[Nat.mul_one]at m bD
      have bz:(kt e).length=rows.length:=by rw[Oo,aF]
      have A:=IK (μ:=μ) (φ:=φ) (l:=l) (sz:=1) (t:=t) (lo:=0) (src:=(kt e).map λz=>[U.int .i64 z]) (src':=(kt e).map (h5 .i64)) (by omega) (by rw[aG];exact da) c1 fE gI
       (by rw[Zx];exact Ou _) (λr an=>by rw[ju]at an;obtain⟨z,_,rfl⟩:=an;rfl) (by rw[c9,bz];omega)
      obtain⟨cH,p,B⟩:=A
      have C:(rows.take 0++((kt e).map λz=>[U.int .i64 z])++rows.drop (0+((kt e).map λz=>[U.int .i64 z]).length))=(kt e).map λz=>[U.int .i64 z]:=by
       rw[x5,hV,c9,bz,hh,List.drop_length,fD]
      rw[C]at cH p
      have D:((kt e).map (h5 .i64)).all bF.kV=V:=by
       rw[List.all_eq_true]
       intro x ae
       rw[ju]at ae
       obtain⟨z,_,rfl⟩:=ae
       rfl
      have q:=wz (ha:=ha) (l:=(kt e).map (h5 .i64)) (o:=0*1) bw B D
      obtain⟨bI,b0⟩:=s.sX k trivial hm (by simp only[ver];exact p) cH
      refine⟨undef,_,μ,φ,?_,bs.undef,bI,b0⟩
      have lq:jX ha l.blk 0 rows.length=y (e.map (h5 .i64)):=by
       unfold jX
       rw[bw]
       show(if _ then y _ else none)=_
       rw[aP (by omega),oZ,m]
      have G:dp<4611686018427387904:=by decide
      unfold qi
      rw[af]
      simp only[gG]
      rw[aW (by omega)]
      simp only[Nat.zero_mul]at q|-
      rw[lq,dy,Zw,dy,aP (by omega),q]
      rfl
    ·cases h
   ·cases h
  ·cases h
theorem Ox{P:Program}{L:List dU}{k n:Nat}{g:dU}{args:Array Value}{w:World}{R:Ending->World->Prop}{F:Fence}(i:kH F)
 (H:∀D,qE (Fence.list L (y D)) k P g args w R) (an:∀e b',R e b'->∃v,e=.returned v):qE F n P g args w R:=by
 refine⟨i.1 g,λcs _=>?_⟩
 obtain⟨e,b',cJ,r,s,x⟩:=(H (cs.length+1+k)).2 cs (λd hd=>by cases hd;exact cj _)
 obtain⟨v,rfl⟩:=an e b' r
 exact⟨_,b',cJ,r,StepsIn.mono (λm h g bG=>let ⟨a,b,c,d⟩:=h g bG;⟨λ_=>a rfl,.inl (i.1 _),λf _=>i.1 f,λl j=>by rw[i.2]at j;cases j⟩) s,x⟩
theorem ZA{P:Program}{μ:bF.Ren}{h:aX}{bC cU:World}(s:cS P μ h bC)(aB:bC.heap.size<=cU.heap.size)(c:∀k,k<bC.heap.size->cU.heap[k]?=bC.heap[k]?):cS P μ h cU:=
 ⟨s.cl,λb l blk e af aA=>by
  obtain⟨o,g,i⟩:=s.rel b l blk e af aA
  exact⟨o,by rw[c _ (s.lt b l e)];exact g,i⟩,s.inj,λb l e=>h4 (s.lt b l e) aB⟩
theorem ZB{P:Program}{μ μ1:bF.Ren}{h h1:aX}{w bC cU:World}(s:cS P μ h w)(x:bF.Ext μ h w μ1 h1 bC)(aB:bC.heap.size<=cU.heap.size)(g:∀k,k<bC.heap.size->cU.heap[k]?=bC.heap[k]?)(i:kG bC cU):bF.Ext μ h w μ1 h1 cU:=
 ⟨⟨x.le,x.e1,Nat.le_trans x.size aB,λc aa aA=>(g c (h4 aa x.size)).trans (x.frame c aa aA),λb l e an=>(g _ (h4 (s.lt b l e) x.size)).trans (x.ro b l e an),x.pW,x.new,x.dead,x.out.trans i⟩,x.pX⟩
theorem ZC(cs:Array Value)(off:Nat)(b:List Int)(h:off+b.length<=cs.size):Sort.putCells (h5 .i64) off b.toArray cs=(cs.toList.take off++b.map (h5 .i64)++cs.toList.drop (off+(b.map (h5 .i64)).length)).toArray:=by
 apply Array.ext'
 apply fx
 intro j
 rw[AL]
 simp only[Sort.putCells,Array.getElem?_mapIdx,List.size_toArray,c9]
 by_cases h1:j<off
 ·rw[eb,cI (by simp;omega),mb h1,AL]
  rw[lh (by omega)]
  simp [show ¬off<=j by omega]
 ·by_cases h2:j<off+b.length
  ·rw[cI (by simp;omega),lN (by simp;omega)]
   rw[lh (by omega)]
   have ak:min off cs.size=off:=by omega
   have aJ:j-off<b.length:=by omega
   simp [show off<=j by omega,h2,ak,aJ]
  ·rw[lN (by simp;omega)]
   by_cases aO:j<cs.size
   ·rw[lh aO]
    have ak:min off cs.size=off:=by omega
    simp only[List.length_append,kD,c9,Array.length_toList,ak,pK,dw,h2,and_false,bh]
    rw[show off+b.length+(j-(off+b.length))=j by omega,AL,lh aO]
   ·rw[Array.getElem?_eq_none (by omega),eE (by simp;omega)]
    rfl
theorem ZD{P:Program}{g:dU}{L:List dU}(he:∀(xs:Array Value) (w:World),(callFunc g xs).run P w=.ok (.enter g xs) w)
 (aa:∀(D blk off cap:Nat) (u:List Int) (w:World),Sort.Holds (h5 .i64) w blk off u.toArray->blk<w.heap.size->u.length<4611686018427387904->
   qE (Fence.list L (y D)) 66 P g #[.slice (y ⟨blk,off,none⟩) u.length cap] w λe b'=>e=.returned (.tuple #[])/\∃n os,b'=Sort.grow (x6 (h5 .i64) (x7 w n) blk off (u.mergeSort λx au=>decide (x<=au)).toArray) os)
 (av:∀(D:Nat) (p:Option Addr) (cap:Nat) (w:World),qE (Fence.list L (y D)) 2 P g #[.slice p 0 cap] w λe b'=>e=.returned (.tuple #[])/\b'=w)
 (ba:cM dX g=M):jd P (qi g):=by
 refine⟨λf aE args h r h1 ad=>?_,λb args h r h1 ad=>?_⟩
 ·unfold qi at ad
  cases af:cM f g with
  |false=>rw[af]at ad;cases ad
  |true=>
   have:=hW af
   subst this
   rw[af]at ad
   simp only[gG]at ad
   refine⟨he,λμ w X s E F n G=>?_⟩
   split at ad
   ·rename_i a m c
    by_cases hm:m=0
    ·subst hm
     rw[aP rfl]at ad
     cases ad
     cases E with
     |cons cL cN=>
      cases cN
      have fin:∀(p:Option Addr) (cap:Nat),qE F n P f #[.slice p 0 cap] w λe b'=>∃v μ1,e=.returned v/\bp μ1 undef v/\cS P μ1 h b'/\bF.Ext μ h w μ1 h b':=λp cap=>by
       refine CallsIn.mono (Ox G (λD=>av D p cap w) (λe b' q=>⟨_,q.1⟩)) λe b' q=>?_
       obtain⟨rfl,rfl⟩:=q
       exact⟨_,μ,rfl,bp.undef,s,bF.Ext.refl μ _ _ s.cl⟩
      cases cL<;>exact fin _ _
    ·rw[aW hm]at ad
     split at ad
     ·rename_i b off
      rw[cX]at ad
      obtain⟨l,lq,ad⟩:=ad
      rw[cX]at ad
      obtain⟨u,bu,ad⟩:=ad
      split at ad
      ·rename_i Y
       rw[du]at ad
       obtain⟨h',cb,ad⟩:=ad
       cases ad
       cases Oq bu
       cases E with
       |cons cL cN=>
        cases cN
        have key:∀(l:bF.Loc) (cap:Nat),μ b=y l->qE F n P f #[.slice (y ⟨l.blk,off,none⟩) m cap] w λe b'=>∃v μ1,e=.returned v/\bp μ1 undef v/\cS P μ1 h1 b'/\bF.Ext μ h w μ1 h1 b':=λl cap e=>by
         obtain⟨c,K⟩:=l
         have bz:u.length=m:=by have:=(Bh s e lq).1;simpa using this
         obtain⟨bC,O,s1,aC⟩:=yI (P:=P) s e (Jh (kt u)) cb
         unfold jX at lq
         split at lq
         ·rename_i vs t eK H
          unfold og at cb
          rw[H]at cb
          cases eK with
          |false=>cases cb
          |true=>
           simp only at cb
           split at cb
           ·rename_i Q
            split at lq
            ·rename_i fm
             obtain⟨o,z,cs,cJ,rfl,ax,R,S,Z⟩:=s.rel b _ _ e H (by simp)
             replace z:w.heap[c]?=y (.cells cs t cJ):=z
             obtain rfl:=S rfl
             have T:(kt u).length=m:=by rw[Oo,bz]
             have A:=run_storeCells_at (P:=P) c off t ((kt u).map (h5 .i64)) 0 cs w z (by rw[c9,T];omega) ((Jh (μ:=μ) (kt u)).yG Q.2)
             simp only[Nat.add_zero]at A
             rw[O]at A
             cases A
             replace lq:=jU lq
             have B1:((vs.drop off).take m)=u.map (h5 .i64):=lq
             have pa:((cs.toList.take vs.length).drop off).take m=u.map (h5 .i64):=by
              have q:=(R.drop off).take m
              rw[B1]at q
              exact Ow q
             have U:∀j,j<u.length->cs[off+j]?=y (.int .i64 (u.getD j 0)):=λj B=>by
              have I:(((cs.toList.take vs.length).drop off).take m)[j]?=y (.int .i64 (u.getD j 0)):=by
               rw[pa]
               simp [List.getD,B]
              rw[mb (by omega),pK,mb (by omega),AL]at I
              exact I
             have W:Sort.Holds (h5 .i64) w c off u.toArray:=λj B=>by
              have J:j<u.length:=by simpa using B
              refine⟨?_,by simp [World.frozen?,z]⟩
              simp only[World.cell?,z,Option.isSome_none,bn,bh]
              rw[U j J]
              simp [List.getD,J]
             show qE F n P f #[.slice (y ⟨c,off,none⟩) m cap] w _
             rw[<-bz]
             refine CallsIn.mono (Ox G (λD=>aa D c off cap u w W (s.lt b _ e) (by omega)) (λe b' q=>⟨_,q.1⟩)) λe b' q=>?_
             obtain⟨rfl,k,os,rfl⟩:=q
             have c7:(w.setRow c (cs.toList.take off++(kt u).map (h5 .i64)++cs.toList.drop (off+((kt u).map (h5 .i64)).length)).toArray).heap.size=w.heap.size:=setRow_size _ _ _
             have N:∀i,i<w.heap.size->(Sort.grow (x6 (h5 .i64) (x7 w k) c off (u.mergeSort λx au=>decide (x<=au)).toArray) os).heap[i]?=
              (w.setRow c (cs.toList.take off++(kt u).map (h5 .i64)++cs.toList.drop (off+((kt u).map (h5 .i64)).length)).toArray).heap[i]?:=λi ai=>by
              rw[Sort.heap_grow_old _ _ (by simpa [x6,Hv,x7]using ai)]
              by_cases C:c=i
              ·subst C
               rw[HU z,<-ZC cs off (kt u) (by omega)]
               simp [x6,Hv,x7,LM,z,Sort.onCells,kt]
              ·rw[yH C]
               simp [x6,Hv,x7,LM,C]
             refine⟨_,μ,rfl,bp.undef,ZA s1 ?_ ?_,ZB s aC ?_ ?_ ⟨rfl,rfl,rfl⟩⟩
             ·rw[c7];simp [Sort.grow,x6,Hv,x7]
             ·rw[c7];exact N
             ·rw[c7];simp [Sort.grow,x6,Hv,x7]
             ·rw[c7];exact N
            ·cases lq
           ·cases cb
         ·cases lq
        cases cL with
        |bZ e _=>exact key _ _ e
        |gb=>exact absurd rfl hm
        |hs=>exact absurd rfl hm
      ·cases ad
     ·cases ad
   ·cases ad
 ·unfold qi at ad
  rw[ba]at ad
  cases ad
def qj(b c:bF.Callee):bF.Callee:=λf args h=>(b f args h).or (c f args h)
def wJ(b c:aT):aT:=λf args h=>(b f args h).or (c f args h)
theorem ZE{P:Program}{c e:bF.Callee}(h1:jd P c)(h2:jd P e):jd P (qj c e):=by
 refine⟨λf aE args h r hI ad=>?_,λb args h r hI ad=>?_⟩
 ·cases he:c f args h with
  |some p=>simp only[qj,he,L4]at ad;cases ad;exact h1.fn f aE args h _ _ he
  |none=>simp only[qj,he,Hw]at ad;exact h2.fn f aE args h _ _ ad
 ·cases he:c dX (iO b 0::args) h with
  |some p=>simp only[qj,he,L4]at ad;cases ad;exact h1.yield b args h _ _ he
  |none=>simp only[qj,he,Hw]at ad;exact h2.yield b args h _ _ ad
theorem ZF{b e:aT}{c:bF.Callee}(h1:jA b c)(h2:jA e c):jA (wJ b e) c:=λf args ah r cd h=>by
 cases he:b f args ah with
 |some p=>simp only[wJ,he,L4]at h;cases h;exact h1 f args ah _ _ he
 |none=>simp only[wJ,he,Hw]at h;exact h2 f args ah _ _ h
theorem ZG{b:aT}{c e:bF.Callee}(h1:jA b c):jA b (qj c e):=λf args ah r cd h μ φ ha g s i=>by
 obtain⟨dO,cp,aY,bJ,bw,bD⟩:=h1 f args ah r cd h μ φ ha g s i
 exact⟨dO,cp,aY,bJ,by simp only[qj,bw,L4],bD⟩
theorem ZH{b:aT}{c e:bF.Callee}{g:dU}(bG:∀f args h r,b f args h=y r->f=g)(aA:∀args h,c g args h=none)(h2:jA b e):jA b (qj c e):=λf args ah r cd h μ φ ha i s j=>by
 obtain⟨dO,cp,aY,bJ,bw,bD⟩:=h2 f args ah r cd h μ φ ha i s j
 obtain rfl:=bG _ _ _ _ h
 exact⟨dO,cp,aY,bJ,by simp only[qj,aA,Hw];exact bw,bD⟩
theorem ZI{Γ:aT}{b:bF.Callee}{T:jF}(c:∀f args h r,Γ f args h=y r->cM f dX=M/\T.get f=none)(h1:jA Γ b):jA Γ (run b T):=λf args ah r cd h μ φ ha e s g=>by
 obtain⟨dO,cp,aY,bJ,bw,bD⟩:=h1 f args ah r cd h μ φ ha e s g
 obtain⟨bI,b0⟩:=c _ _ _ _ h
 exact⟨dO,cp,aY,bJ,Zj bI b0 bw,bD⟩
theorem Oy{g:dU}{f:dU}{args:List U}{h:Z}{r:U×Z}(an:wI g f args h=y r):f=g:=by
 unfold wI at an
 cases af:cM f g with
 |false=>rw[af]at an;cases an
 |true=>exact hW af
theorem ZJ{g:dU}{f:dU}{args:List U}{h:Z}{r:U×Z}(an:uo g f args h=y r):f=g:=by
 unfold uo at an
 cases af:cM f g with
 |false=>rw[af]at an;cases an
 |true=>exact hW af
theorem ZK{g f:dU}(af:cM f g=M)(args:List Value)(h:aX):q2 g f args h=none:=by
 unfold q2;rw[af];rfl
theorem ZL(g:dU):jA (uo g) (q2 g):=λf args ah r cd h μ φ ha c s b=>by
 unfold uo at h
 cases af:cM f g with
 |false=>rw[af]at h;cases h
 |true=>
  rw[af]at h
  simp only[gG]at h
  split at h
  ·cases h
   cases b with
   |cons h1 h2=>
    cases h2 with
    |cons ak aJ=>
     cases aJ;cases h1;cases ak
     refine⟨_,ha,μ,φ,?_,.int _ _,s,Ext.refl _ _ _ _⟩
     unfold q2
     rw[af]
     rfl
  ·cases h
theorem ZM{i k:dU}{T:jF}(ai:cM i dX=M)(ad:cM k dX=M)(b:cM k i=M)(h1:T.get i=none)(h2:T.get k=none):jA (wJ (uo i) (wI k)) (run (qj (q2 i) (qi k)) T):=
 ZI (λf args h r an=>by
  unfold wJ at an
  cases he:uo i f args h with
  |some p=>obtain rfl:=ZJ he;exact⟨ai,h1⟩
  |none=>rw[he,Hw]at an;obtain rfl:=Oy an;exact⟨ad,h2⟩)
 (ZF (ZG (ZL i)) (ZH (λ_ _ _ _ an=>Oy an) (λargs h=>ZK b args h) (Zz k)))
end Go.aM
set_option maxRecDepth 100000
namespace Go.aM.X
open Go.Proofs Go.bF Go.aM
abbrev bg:=List U->Z->bl
end Go.aM.X
namespace Go.aM.G
open Go.bF Go.aM
def bR(k s p:Nat)(r:ew):ew:=o k (.load V s (t p)) r
def bS(s a b:Nat)(r:ew):ew:=n (.store s (t a) (t b)) r
def bW(k a:Nat)(r:ew):ew:=o k (.len M (t a)) r
def b_(k a:Nat)(r:ew):ew:=o k (.move (i a)) r
def cw(k:Nat)(r:ew):ew:=o k (.move (.const (.bool M))) r
def gC(k:Nat)(r:ew):ew:=o k (.move (.const (.bool V))) r
def cz(k s a b:Nat)(r:ew):ew:=o k (.indexAddr s (t a) (t b)) r
def dr(k s a:Nat)(r:ew):ew:=o k (.box s (t a)) r
def dK(k f a:Nat)(r:ew):ew:=o k (.call f [t a]) r
def eF(k f a b:Nat)(r:ew):ew:=o k (.call f [t a,t b]) r
def dE(k a:Nat)(r:ew):ew:=o k (.un .not (t a)) r
def eV(k a j:Nat)(r:ew):ew:=o k (.extract (t a) j) r
def gp(k a:Nat)(r:ew):ew:=o k (.nilCheck (t a)) r
end Go.aM.G
namespace Go.aM.X
open Go.Proofs Go.bF Go.aM
def cc(i:dU)(A:b2):Prop:=∃fn c,Bz Tryz.prog i fn c A.erase
theorem cf {i : dU} {A : b2} {fn : Func} {c : Code} (h : Tryz.prog.funcs[i]? = y fn) (h1 : fn.body = y c) (h2 : (fn.name == "runtime.NumGoroutine") = M := by kernel_rfl) (ak : dW Tryz.prog fn.ntmps c = y (dH A.erase.code) := by kernel_rfl) (aJ : lQ A.erase.code = V := by kernel_rfl) (aO : decide (A.erase.oi ≤ fn.ntmps) = V := by kernel_rfl) (bt : fn.results.toList.mapM (By Tryz.prog) = y A.erase.results := by kernel_rfl) : cc i A := ⟨fn, c, h, h1, h2, ak, aJ, of_decide_eq_true aO, bt⟩
def j6:List Value:=[(.string ⟨#[]⟩),(.int .i64 0),(.int .i64 0),(.slice none 0 0),(.int .i64 0),(.int .i64 0),(.int .i64 0),(.int .i64 0),(.bool M),(.slice none 0 0),(.slice none 0 0),(.slice none 0 0),(.slice none 0 0)]
def zk:List Value:=[(.string ⟨#[]⟩),(.slice none 0 0),(.int .i64 0),(.int .i64 0),(.int .i64 0),(.int .i64 0),(.int .i64 0),(.int .i64 0),(.int .i64 0),(.int .i64 0),(.int .i64 0),(.int .i64 0),(.int .i64 0)]
def Oz:List Value:=[(.int .i64 0),(.int .i64 0),(.int .i64 0),(.int .i64 0),(.int .i64 0),(.int .i64 0)]
def ZN:List Value:=[(.int .i64 0),(.int .i64 0),(.int .i64 0),(.int .i64 0)]
def eY:List Value:=[(.string ⟨#[]⟩),(.int .i64 0),(.int .i64 0)]
def OA:List Value:=[(.string ⟨#[]⟩),(.int .i64 0),(.int .i64 0),(.int .i64 0),(.int .i64 0),(.int .i64 0),(.int .i64 0),(.bool M)]
def ZO:List Value:=[(.bool M),(.slice none 0 0),(.bool M),(.int .i64 0),(.int .i64 0),(.bool M),(.int .i64 0),(.int .i64 0)]
def ZP:List Value:=[(.string ⟨#[]⟩),(.string ⟨#[]⟩),(.string ⟨#[]⟩),(.string ⟨#[]⟩),(.string ⟨#[]⟩),(.string ⟨#[]⟩),(.string ⟨#[]⟩)]
noncomputable section
def iu:List U:=[.str ⟨#[]⟩,.a7,.bool M,.a7,.bool M,.int .i64 0,.int .i64 0,.bool M,.int .i64 0,.int .i64 0,.bool M,.a7,.bool M,.int .i64 0,.int .i64 0,.bool M,.int .i64 0,.int .i64 0,.bool M,.a7,.bool M,.int .i64 0,.int .i64 0,.bool M,.int .i64 0,.int .i64 0,.int .i64 0,.int .i64 0,.int .i64 0,.int .i64 0,.int .i64 0,.int .i64 0,.int .i64 0]
def e8:List U:=[.str ⟨#[]⟩,.int .i64 0,.int .i64 0,.int .i64 0,.int .i64 0,.int .i64 0,.bool M,.bool M,.bool M,.int .i64 0,.int .i64 0,.int .i64 0,.bool M,.bool M,.bool M,.bool M,.int .i64 0,.bool M,.int .i64 0,.bool M,.bool M,.int .i64 0,.bool M,.bool M,.bool M,.bool M,.bool M,.bool M,.bool M]
def Cf:List U:=[.str ⟨#[]⟩,.int .i64 0,.int .i64 0,.a7,.int .i64 0,.int .i64 0,.int .i64 0,.int .i64 0,.bool M,.a7,.a7,.a7,.a7,.str ⟨#[]⟩,.int .i64 0,.int .i64 0,.int .i64 0,.int .i64 0,.int .i64 0,.bool M,.bool M,.bool M,.int .i64 0,.int .i64 0,.int .i64 0,.bool M,.bool M,.bool M,.bool M,.int .i64 0,.bool M,.int .i64 0,.bool M,.bool M,.int .i64 0,.bool M,.bool M,.bool M,.bool M,.bool M,.bool M,.bool M]
def Cg:List U:=[.str ⟨#[]⟩,.int .i64 0,.int .i64 0,.int .i64 0,.int .i64 0,.int .i64 0,.bool M,.bool M,.bool M,.int .i64 0,.int .i64 0,.int .i64 0,.bool M,.bool M,.bool M,.bool M,.int .i64 0,.bool M,.int .i64 0,.bool M,.bool M,.int .i64 0,.bool M,.bool M,.bool M,.bool M,.bool M,.bool M,.bool M,.str ⟨#[]⟩,.int .i64 0,.int .i64 0,.int .i64 0,.int .i64 0,.int .i64 0,.bool M,.bool M,.bool M,.int .i64 0,.int .i64 0,.int .i64 0,.bool M,.bool M,.bool M,.bool M,.int .i64 0,.bool M,.int .i64 0,.bool M,.bool M,.int .i64 0,.bool M,.bool M,.bool M,.bool M,.bool M,.bool M,.bool M,.str ⟨#[]⟩,.int .i64 0,.int .i64 0,.int .i64 0,.int .i64 0,.int .i64 0,.bool M,.bool M,.bool M,.int .i64 0,.int .i64 0,.int .i64 0,.bool M,.bool M,.bool M,.bool M,.int .i64 0,.bool M,.int .i64 0,.bool M,.bool M,.int .i64 0,.bool M,.bool M,.bool M,.bool M,.bool M,.bool M,.bool M,.str ⟨#[]⟩,.int .i64 0,.int .i64 0,.int .i64 0,.int .i64 0,.int .i64 0,.bool M,.bool M,.bool M,.int .i64 0,.int .i64 0,.int .i64 0,.bool M,.bool M,.bool M,.bool M,.int .i64 0,.bool M,.int .i64 0,.bool M,.bool M,.int .i64 0,.bool M,.bool M,.bool M,.bool M,.bool M,.bool M,.bool M,.str ⟨#[]⟩,.int .i64 0,.int .i64 0,.int .i64 0,.int .i64 0,.int .i64 0,.bool M,.bool M,.bool M,.int .i64 0,.int .i64 0,.int .i64 0,.bool M,.bool M,.bool M,.bool M,.int .i64 0,.bool M,.int .i64 0,.bool M,.bool M,.int .i64 0,.bool M,.bool M,.bool M,.bool M,.bool M,.bool M,.bool M,.str ⟨#[]⟩,.int .i64 0,.int .i64 0,.int .i64 0,.int .i64 0,.int .i64 0,.bool M,.bool M,.bool M,.int .i64 0,.int .i64 0,.int .i64 0,.bool M,.bool M,.bool M,.bool M,.int .i64 0,.bool M,.int .i64 0,.bool M,.bool M,.int .i64 0,.bool M,.bool M,.bool M,.bool M,.bool M,.bool M,.bool M,.str ⟨#[]⟩,.int .i64 0,.int .i64 0,.int .i64 0,.int .i64 0,.int .i64 0,.bool M,.bool M,.bool M,.int .i64 0,.int .i64 0,.int .i64 0,.bool M,.bool M,.bool M,.bool M,.int .i64 0,.bool M,.int .i64 0,.bool M,.bool M,.int .i64 0,.bool M,.bool M,.bool M,.bool M,.bool M,.bool M,.bool M]
def r5:List Value:=[(.string ⟨#[]⟩),(.slice none 0 0),(.bool M),(.slice none 0 0),(.bool M),(.int .i64 0),(.int .i64 0),(.bool M),(.int .i64 0),(.int .i64 0),(.bool M),(.slice none 0 0),(.bool M),(.int .i64 0),(.int .i64 0),(.bool M),(.int .i64 0),(.int .i64 0),(.bool M),(.slice none 0 0),(.bool M),(.int .i64 0),(.int .i64 0),(.bool M),(.int .i64 0),(.int .i64 0),(.int .i64 0),(.int .i64 0),(.int .i64 0),(.int .i64 0),(.int .i64 0),(.int .i64 0),(.int .i64 0)]
def ji:List Value:=[(.string ⟨#[]⟩),(.int .i64 0),(.int .i64 0),(.int .i64 0),(.int .i64 0),(.int .i64 0),(.bool M),(.bool M),(.bool M),(.int .i64 0),(.int .i64 0),(.int .i64 0),(.bool M),(.bool M),(.bool M),(.bool M),(.int .i64 0),(.bool M),(.int .i64 0),(.bool M),(.bool M),(.int .i64 0),(.bool M),(.bool M),(.bool M),(.bool M),(.bool M),(.bool M),(.bool M)]
def OB:List Value:=[(.string ⟨#[]⟩),(.int .i64 0),(.int .i64 0),(.slice none 0 0),(.int .i64 0),(.int .i64 0),(.int .i64 0),(.int .i64 0),(.bool M),(.slice none 0 0),(.slice none 0 0),(.slice none 0 0),(.slice none 0 0),(.string ⟨#[]⟩),(.int .i64 0),(.int .i64 0),(.int .i64 0),(.int .i64 0),(.int .i64 0),(.bool M),(.bool M),(.bool M),(.int .i64 0),(.int .i64 0),(.int .i64 0),(.bool M),(.bool M),(.bool M),(.bool M),(.int .i64 0),(.bool M),(.int .i64 0),(.bool M),(.bool M),(.int .i64 0),(.bool M),(.bool M),(.bool M),(.bool M),(.bool M),(.bool M),(.bool M)]
def OC:List Value:=[(.string ⟨#[]⟩),(.int .i64 0),(.int .i64 0),(.int .i64 0),(.int .i64 0),(.int .i64 0),(.bool M),(.bool M),(.bool M),(.int .i64 0),(.int .i64 0),(.int .i64 0),(.bool M),(.bool M),(.bool M),(.bool M),(.int .i64 0),(.bool M),(.int .i64 0),(.bool M),(.bool M),(.int .i64 0),(.bool M),(.bool M),(.bool M),(.bool M),(.bool M),(.bool M),(.bool M),(.string ⟨#[]⟩),(.int .i64 0),(.int .i64 0),(.int .i64 0),(.int .i64 0),(.int .i64 0),(.bool M),(.bool M),(.bool M),(.int .i64 0),(.int .i64 0),(.int .i64 0),(.bool M),(.bool M),(.bool M),(.bool M),(.int .i64 0),(.bool M),(.int .i64 0),(.bool M),(.bool M),(.int .i64 0),(.bool M),(.bool M),(.bool M),(.bool M),(.bool M),(.bool M),(.bool M),(.string ⟨#[]⟩),(.int .i64 0),(.int .i64 0),(.int .i64 0),(.int .i64 0),(.int .i64 0),(.bool M),(.bool M),(.bool M),(.int .i64 0),(.int .i64 0),(.int .i64 0),(.bool M),(.bool M),(.bool M),(.bool M),(.int .i64 0),(.bool M),(.int .i64 0),(.bool M),(.bool M),(.int .i64 0),(.bool M),(.bool M),(.bool M),(.bool M),(.bool M),(.bool M),(.bool M),(.string ⟨#[]⟩),(.int .i64 0),(.int .i64 0),(.int .i64 0),(.int .i64 0),(.int .i64 0),(.bool M),(.bool M),(.bool M),(.int .i64 0),(.int .i64 0),(.int .i64 0),(.bool M),(.bool M),(.bool M),(.bool M),(.int .i64 0),(.bool M),(.int .i64 0),(.bool M),(.bool M),(.int .i64 0),(.bool M),(.bool M),(.bool M),(.bool M),(.bool M),(.bool M),(.bool M),(.string ⟨#[]⟩),(.int .i64 0),(.int .i64 0),(.int .i64 0),(.int .i64 0),(.int .i64 0),(.bool M),(.bool M),(.bool M),(.int .i64 0),(.int .i64 0),(.int .i64 0),(.bool M),(.bool M),(.bool M),(.bool M),(.int .i64 0),(.bool M),(.int .i64 0),(.bool M),(.bool M),(.int .i64 0),(.bool M),(.bool M),(.bool M),(.bool M),(.bool M),(.bool M),(.bool M),(.string ⟨#[]⟩),(.int .i64 0),(.int .i64 0),(.int .i64 0),(.int .i64 0),(.int .i64 0),(.bool M),(.bool M),(.bool M),(.int .i64 0),(.int .i64 0),(.int .i64 0),(.bool M),(.bool M),(.bool M),(.bool M),(.int .i64 0),(.bool M),(.int .i64 0),(.bool M),(.bool M),(.int .i64 0),(.bool M),(.bool M),(.bool M),(.bool M),(.bool M),(.bool M),(.bool M),(.string ⟨#[]⟩),(.int .i64 0),(.int .i64 0),(.int .i64 0),(.int .i64 0),(.int .i64 0),(.bool M),(.bool M),(.bool M),(.int .i64 0),(.int .i64 0),(.int .i64 0),(.bool M),(.bool M),(.bool M),(.bool M),(.int .i64 0),(.bool M),(.int .i64 0),(.bool M),(.bool M),(.int .i64 0),(.bool M),(.bool M),(.bool M),(.bool M),(.bool M),(.bool M),(.bool M)]
def fp:List fs:=[.aj,.aj,.aj,(.flat 1),.aj,.aj,.aj,.aj,.aj,(.flat 1),(.bZ 2 [.aj,(.flat 6)]),(.bZ 13 [.aj,(.flat 1),.aj,.aj,.aj,.aj,.aj,.aj,.aj,.aj,.aj,.aj,.aj]),(.bZ 33 [.aj,(.flat 2),.aj,(.flat 2),.aj,.aj,.aj,.aj,.aj,.aj,.aj,(.flat 2),.aj,.aj,.aj,.aj,.aj,.aj,.aj,(.flat 2),.aj,.aj,.aj,.aj,.aj,.aj,.aj,.aj,.aj,.aj,.aj,.aj,.aj])]
def OD:List fs:=[.aj,(.flat 1),.aj,.aj,.aj,.aj,.aj,.aj,.aj,.aj,.aj,.aj,.aj]
def Ji:List fs:=[.aj,(.flat 2),.aj,(.flat 2),.aj,.aj,.aj,.aj,.aj,.aj,.aj,(.flat 2),.aj,.aj,.aj,.aj,.aj,.aj,.aj,(.flat 2),.aj,.aj,.aj,.aj,.aj,.aj,.aj,.aj,.aj,.aj,.aj,.aj,.aj]
def Jj:List fs:=[.aj,.aj,.aj,(.flat 1),.aj,.aj,.aj,.aj,.aj,(.flat 1),(.bZ 2 [.aj,(.flat 6)]),(.bZ 13 [.aj,(.flat 1),.aj,.aj,.aj,.aj,.aj,.aj,.aj,.aj,.aj,.aj,.aj]),(.bZ 33 [.aj,(.flat 2),.aj,(.flat 2),.aj,.aj,.aj,.aj,.aj,.aj,.aj,(.flat 2),.aj,.aj,.aj,.aj,.aj,.aj,.aj,(.flat 2),.aj,.aj,.aj,.aj,.aj,.aj,.aj,.aj,.aj,.aj,.aj,.aj,.aj]),.aj,.aj,.aj,.aj,.aj,.aj,.aj,.aj,.aj,.aj,.aj,.aj,.aj,.aj,.aj,.aj,.aj,.aj,.aj,.aj,.aj,.aj,.aj,.aj,.aj,.aj,.aj,.aj,.aj]
open Go.aM.G in
def k6:b2:=⟨1,139,(S (R<|dr 1 27 0<|cw 2<|z)<|
 (S (S (R<|bR 14 13 1<|dK 15 7 14<|dE 16 15<|z)<|
 (.cond (t 16) [] [2,17]
 (S (R<|o 17 (.call 8 [])<|m 2 17<|z)<|
 .ret)
 .skip))<|
 (S (R<|bR 18 13 1<|dK 19 13 18<|o 3 (.new 27 j6)<|bS 13 3 19<|z)<|
 (S (R<|bR 21 13 3<|dK 22 14 21<|m 20 22<|eV 23 20 0<|eV 24 20 1<|o 4 (.new 27 j6)<|bS 13 4 23<|m 5 24<|z)<|
 (S (R<|bR 26 13 1<|dK 27 15 26<|m 25 27<|eV 28 25 0<|eV 29 25 1<|o 6 (.new 27 j6)<|bS 13 6 28<|m 7 29<|z)<|
 (S (S (R<|m 30 5<|m 31 7<|b 32 .neq (t 30) (t 31)<|m 33 32<|q 38 33 M (g 34 4) (bR 34 13 4<|bR 35 13 6<|(.ov [(34,(.agg fp))] (y 36) (.a (.call 12 [(t 34),(t 35)])) .no<|dE 37 36<|z)) (t 37)<|
 m 39 38<|q 44 39 M (g 40 4) (bR 40 13 1<|bR 41 13 3<|(.ov [(41,(.agg fp))] (y 42) (.a (.call 12 [(t 40),(t 41)])) .no<|dE 43 42<|z)) (t 43)<|
 z)<|
 (.cond (t 44) [] [2]
 (S (R<|cw 2<|z)<|
 .ret)
 .skip))<|
 (S (S (R<|m 45 5<|b 46 .neq (t 45) (i 0)<|z)<|
 (.cond (t 46) [] [2,47]
 (S (R<|o 47 (.call 8 [])<|m 2 47<|z)<|
 .ret)
 .skip))<|
 (S (R<|bR 49 13 4<|dK 50 14 49<|m 48 50<|eV 51 48 0<|eV 52 48 1<|o 8 (.new 27 j6)<|bS 13 8 51<|m 5 52<|z)<|
 (S (R<|bR 54 13 4<|bR 55 13 1<|(.ov [(54,(.agg fp))] (y 56) (.a (.call 9 [(t 54),(t 55)])) .no<|m 53 56<|eV 57 53 0<|eV 58 53 1<|m 9 57<|m 7 58<|z))<|
 (S (S (R<|m 59 5<|b 60 .neq (t 59) (i 0)<|m 61 60<|q 64 61 M [62,63] (m 62 7<|b 63 .neq (t 62) (i 0)<|z) (t 63)<|
 m 65 64<|q 68 65 M [66,67] (m 66 9<|dE 67 66<|z) (t 67)<|
 m 69 68<|q 73 69 M [70,71,72] (bR 70 13 4<|(.ov [(70,(.agg fp))] (y 71) (.a (.call 16 [(t 70)])) .no<|dE 72 71<|z)) (t 72)<|
 m 74 73<|q 79 74 M (g 75 4) (bR 75 13 8<|bR 76 13 4<|(.ov [(75,(.agg fp)),(76,(.agg fp))] (y 77) (.a (.call 12 [(t 75),(t 76)])) .no<|dE 78 77<|z)) (t 78)<|
 z)<|
 (.cond (t 79) [] [2]
 (S (R<|cw 2<|z)<|
 .ret)
 .skip))<|
 (S (S (R<|f 80 10 4<|l 81 80<|bW 82 81<|b_ 83 0<|z)<|
 (.block 0 [] ([10,11]++g 83 24)
 (.loop [83] ([10,11]++g 84 23)
 (S (R<|b 84 .lss (t 83) (t 82)<|z)<|
 (S (.cond (t 84) [] []
 .skip
 (.exit 0))<|
 (S (.block 1 [] ([10,11]++g 85 21)
 (S (R<|m 85 83<|m 10 85<|z)<|
 (S (R<|f 86 10 4<|l 87 86<|m 88 10<|cz 89 2 87 88<|f 90 1 89<|l 91 90<|bW 92 91<|b_ 93 0<|z)<|
 (.block 2 [] ([11]++g 93 13)
 (.loop [93] ([11]++g 94 12)
 (S (R<|b 94 .lss (t 93) (t 92)<|z)<|
 (S (.cond (t 94) [] []
 .skip
 (.exit 2))<|
 (S (.block 3 [] ([11]++g 95 10)
 (S (R<|m 95 93<|m 11 95<|z)<|
 (R<|f 96 10 4<|l 97 96<|m 98 10<|cz 99 2 97 98<|f 100 1 99<|l 101 100<|m 102 11<|cz 103 6 101 102<|f 104 0 103<|n (.store 1 (t 104) (i 99))<|z)))<|
 (R<|b 105 .add (t 93) (i 1)<|m 93 105<|z)))))))))<|
 (R<|b 106 .add (t 83) (i 1)<|m 83 106<|z)))))))<|
 (S (S (R<|f 107 11 4<|l 108 107<|bW 109 108<|b_ 110 0<|z)<|
 (.block 4 [] ([12,13]++g 110 23)
 (.loop [110] ([12,13]++g 111 22)
 (S (R<|b 111 .lss (t 110) (t 109)<|z)<|
 (S (.cond (t 111) [] []
 .skip
 (.exit 4))<|
 (S (.block 5 [] ([12,13]++g 112 20)
 (S (R<|m 112 110<|m 12 112<|z)<|
 (S (R<|f 113 11 4<|l 114 113<|m 115 12<|cz 116 13 114 115<|f 117 1 116<|l 118 117<|bW 119 118<|b_ 120 0<|z)<|
 (.block 6 [] ([13]++g 120 12)
 (.loop [120] ([13]++g 121 11)
 (S (R<|b 121 .lss (t 120) (t 119)<|z)<|
 (S (.cond (t 121) [] []
 .skip
 (.exit 6))<|
 (S (.block 7 [] ([13]++g 122 9)
 (S (R<|m 122 120<|m 13 122<|z)<|
 (R<|f 123 11 4<|l 124 123<|m 125 12<|cz 126 13 124 125<|f 127 1 126<|l 128 127<|m 129 13<|cz 130 1 128 129<|n (.store 1 (t 130) (i 99))<|z)))<|
 (R<|b 131 .add (t 120) (i 1)<|m 120 131<|z)))))))))<|
 (R<|b 132 .add (t 110) (i 1)<|m 110 132<|z)))))))<|
 (S (R<|bR 133 13 1<|bR 134 13 3<|(.ov [(134,(.agg fp))] (y 135) (.a (.call 12 [(t 133),(t 134)])) .no<|m 136 135<|q 138 136 V [137] (o 137 (.call 8 [])<|z) (t 137)<|
 m 2 138<|z))<|
 .ret))))))))))))),[.tmp 2],[.aj]⟩
theorem ZQ:cc 4 k6:=cf Tryz.func4 rfl
def zl(b:aT)(c:Nat)(e:U)(g:List U)(h:Z)(i:U)(j:bg):(bg)->bg:=λb c k=>u (ar .lss (aK c 0) i) λi=>aD (λ_ i=>aD (λ_ e=>u (ar .add (aK c 0) (J E 1)) λc=>b [c] (trim h [c] e)) λb=>u (aq 11 e) λe=>u (ab M 1 e i) λe=>u (bY 13 e (aK g 0)) λe=>u (aq 1 e) λe=>u (ab M 1 e i) λe=>u (bY 1 e (aK c 0)) λc=>u (bf 1 c (J E 99) i) λc=>b [] c) λb=>bb i (b [] k) (j [] k)
def Ch(b:aT)(c:Nat)(e:U)(g:Z)(h:U)(i:bg):(bg)->bg:=λj k l=>u (ar .lss (aK k 0) h) λh=>aD (λ_ h=>aD (λ_ b=>u (ar .add (aK k 0) (J E 1)) λc=>j [c] (trim g [c] b)) λg=>u (aq 11 e) λi=>u (ab M 1 i h) λi=>u (bY 13 i (aK k 0)) λi=>u (aq 1 i) λi=>u (ab M 1 i h) λi=>u (bB M i) λi=>aD (λ_ b=>g [] b) λg=>cv (zl b c e k h i g) c [(J E 0)] h) λb=>bb h (b [] l) (i [] l)
def zm(b:aT)(c:Nat)(e:U)(g:List U)(h:Z)(i:U)(j:bg):(bg)->bg:=λb c k=>u (ar .lss (aK c 0) i) λi=>aD (λ_ i=>aD (λ_ e=>u (ar .add (aK c 0) (J E 1)) λc=>b [c] (trim h [c] e)) λb=>u (aq 10 e) λe=>u (ab M 1 e i) λe=>u (bY 2 e (aK g 0)) λe=>u (aq 1 e) λe=>u (ab M 1 e i) λe=>u (bY 6 e (aK c 0)) λc=>u (aq 0 c) λc=>u (bf 1 c (J E 99) i) λc=>b [] c) λb=>bb i (b [] k) (j [] k)
def Ck(b:aT)(c:Nat)(e:U)(g:Z)(h:U)(i:bg):(bg)->bg:=λj k l=>u (ar .lss (aK k 0) h) λh=>aD (λ_ h=>aD (λ_ b=>u (ar .add (aK k 0) (J E 1)) λc=>j [c] (trim g [c] b)) λg=>u (aq 10 e) λi=>u (ab M 1 i h) λi=>u (bY 2 i (aK k 0)) λi=>u (aq 1 i) λi=>u (ab M 1 i h) λi=>u (bB M i) λi=>aD (λ_ b=>g [] b) λg=>cv (zm b c e k h i g) c [(J E 0)] h) λb=>bb h (b [] l) (i [] l)
def wh(b:aT)(c:Nat)(e:U)(g:Z):bl:=bK (.ptr g.length 0) (g++[.box (cn e) 27 .rw]) λe h=>u (ab V 13 e h) λi=>u (b 7 [i] h) λh=>u (dq .not h.1) λi=>aD (λ_ h=>u (ab V 13 e h) λi=>u (b 13 [i] h) λh=>bK (.ptr h.2.length 0) (h.2++[.box [.str ⟨#[]⟩,J E 0,J E 0,.a7,J E 0,J E 0,J E 0,J E 0,.bool M,.a7,.a7,.a7,.a7] 27 .rw]) λi j=>u (bf 13 i h.1 j) λh=>u (ab V 13 i h) λj=>u (b 14 [j] h) λh=>u (ek h.1 0) λj=>u (ek h.1 1) λk=>bK (.ptr h.2.length 0) (h.2++[.box [.str ⟨#[]⟩,J E 0,J E 0,.a7,J E 0,J E 0,J E 0,J E 0,.bool M,.a7,.a7,.a7,.a7] 27 .rw]) λh l=>u (bf 13 h j l) λj=>u (ab V 13 e j) λl=>u (b 15 [l] j) λj=>u (ek j.1 0) λl=>u (ek j.1 1) λm=>bK (.ptr j.2.length 0) (j.2++[.box [.str ⟨#[]⟩,J E 0,J E 0,.a7,J E 0,J E 0,J E 0,J E 0,.bool M,.a7,.a7,.a7,.a7] 27 .rw]) λj n=>u (bf 13 j l n) λl=>u (ar .neq k m) λm=>bc (λj l=>bc (λj l=>aD (λ_ j=>u (ar .neq k (J E 0)) λk=>aD (λ_ j=>u (ab V 13 h j) λk=>u (b 14 [k] j) λj=>u (ek j.1 0) λk=>u (ek j.1 1) λl=>bK (.ptr j.2.length 0) (j.2++[.box [.str ⟨#[]⟩,J E 0,J E 0,.a7,J E 0,J E 0,J E 0,J E 0,.bool M,.a7,.a7,.a7,.a7] 27 .rw]) λj m=>u (bf 13 j k m) λk=>u (ab V 13 h k) λm=>u (ab V 13 e k) λn=>u (cC (.agg fp) m k) λm=>u (b 9 [m.1,n] (lock m.2)) λm=>hb (mX m.1) (u (ek m.1 0) λn=>u (ek m.1 1) λm=>u (ar .neq l (J E 0)) λl=>bc (λk l=>bc (λk l=>bc (λk l=>bc (λj k=>aD (λ_ j=>u (aq 10 h) λk=>u (ab M 1 k j) λk=>u (bB M k) λk=>aD (λ_ j=>u (aq 11 h) λk=>u (ab M 1 k j) λk=>u (bB M k) λk=>aD (λ_ c=>u (ab V 13 e c) λe=>u (ab V 13 i c) λh=>u (cC (.agg fp) h c) λh=>u (b 12 [e,h.1] (lock h.2)) λe=>hb (mX e.1) (bc (λb c=>aN [.aj] g c [b]) λg=>bd e.1 V (u (b 8 [] c) λb=>g b.1 b.2) (g (.bool M) c))) λe=>cv (Ch b c h j k e) c [(J E 0)] j) λe=>cv (Ck b c h j k e) c [(J E 0)] j) λb=>bb j (aN [.aj] g k [(.bool M)]) (b [] k)) λc=>bd k M (u (ab V 13 j l) λe=>u (ab V 13 h l) λg=>u (cC (.agg fp) e l) λe=>u (cC (.agg fp) g e.2) λg=>u (b 12 [e.1,g.1] (lock g.2)) λb=>hb (mX b.1) (u (dq .not b.1) λb=>c b l)) (c (.bool V) l)) λc=>bd k M (u (ab V 13 h l) λe=>u (cC (.agg fp) e l) λe=>u (b 16 [e.1] (lock e.2)) λb=>hb (mX b.1) (u (dq .not b.1) λb=>c b l)) (c (.bool V) l)) λb=>bd k M (u (dq .not n) λc=>b c l) (b (.bool V) l)) λb=>bd l M (u (ar .neq m (J E 0)) λc=>b c k) (b (.bool V) k))) λc=>bb k (u (b 8 [] j) λb=>aN [.aj] g b.2 [b.1]) (c [] j)) λb=>bb j (aN [.aj] g l [(.bool M)]) (b [] l)) λc=>bd j M (u (ab V 13 e l) λe=>u (ab V 13 i l) λg=>u (cC (.agg fp) g l) λg=>u (b 12 [e,g.1] (lock g.2)) λb=>hb (mX b.1) (u (dq .not b.1) λb=>c b l)) (c (.bool V) l)) λc=>bd m M (u (ab V 13 h l) λe=>u (ab V 13 j l) λg=>u (cC (.agg fp) e l) λe=>u (b 12 [e.1,g] (lock e.2)) λb=>hb (mX b.1) (u (dq .not b.1) λb=>c b l)) (c (.bool V) l)) λc=>bb i (u (b 8 [] h.2) λb=>aN [.aj] g b.2 [b.1]) (c [] h.2)
open Go.aM.G in
def Cm:b2:=⟨1,88,(S (R<|dr 1 27 0<|cw 2<|z)<|
 (S (R<|f 10 3 1<|l 11 10<|bW 12 11<|f 13 9 1<|l 14 13<|bW 15 14<|b 16 .add (t 12) (t 15)<|f 17 0 1<|l 18 17<|o 19 (.len V (t 18))<|b 20 .add (t 16) (t 19)<|m 3 20<|z)<|
 (S (S (R<|f 21 10 1<|l 22 21<|bW 23 22<|b_ 24 0<|z)<|
 (.block 0 [3] ([5]++g 24 11)
 (.loop [3,24] ([5]++g 25 10)
 (S (R<|b 25 .lss (t 24) (t 23)<|z)<|
 (S (.cond (t 25) [] []
 .skip
 (.exit 0))<|
 (S (.block 1 [3] ([5]++g 26 8)
 (S (R<|cz 26 2 22 24<|bR 27 2 26<|o 5 (.new 39 [(.int .i64 0),(.slice none 0 0)])<|bS 2 5 27<|z)<|
 (R<|m 28 3<|f 29 1 5<|l 30 29<|bW 31 30<|b 32 .add (i 1) (t 31)<|b 33 .add (t 28) (t 32)<|m 3 33<|z)))<|
 (R<|b 34 .add (t 24) (i 1)<|m 24 34<|z)))))))<|
 (S (S (R<|f 35 11 1<|l 36 35<|bW 37 36<|b_ 38 0<|z)<|
 (.block 2 [3] ([7]++g 38 15)
 (.loop [3,38] ([7]++g 39 14)
 (S (R<|b 39 .lss (t 38) (t 37)<|z)<|
 (S (.cond (t 39) [] []
 .skip
 (.exit 2))<|
 (S (.block 3 [3] ([7]++g 40 12)
 (S (R<|cz 40 13 36 38<|bR 41 13 40<|o 7 (.new 43 zk)<|bS 13 7 41<|z)<|
 (R<|m 42 3<|f 43 1 7<|l 44 43<|bW 45 44<|b 46 .add (i 1) (t 45)<|f 47 0 7<|l 48 47<|o 49 (.len V (t 48))<|b 50 .add (t 46) (t 49)<|b 51 .add (t 42) (t 50)<|m 3 51<|z)))<|
 (R<|b 52 .add (t 38) (i 1)<|m 38 52<|z)))))))<|
 (S (S (R<|f 53 12 1<|l 54 53<|bW 55 54<|b_ 56 0<|z)<|
 (.block 4 [3] ([9]++g 56 30)
 (.loop [3,56] ([9]++g 57 29)
 (S (R<|b 57 .lss (t 56) (t 55)<|z)<|
 (S (.cond (t 57) [] []
 .skip
 (.exit 4))<|
 (S (.block 5 [3] ([9]++g 58 27)
 (S (R<|cz 58 33 54 56<|bR 59 33 58<|o 9 (.new 57 r5)<|bS 33 9 59<|z)<|
 (R<|m 60 3<|f 61 1 9<|l 62 61<|bW 63 62<|b 64 .add (i 1) (t 63)<|f 65 2 9<|f 66 1 65<|l 67 66<|bW 68 67<|b 69 .add (t 64) (t 68)<|f 70 10 9<|f 71 1 70<|l 72 71<|bW 73 72<|b 74 .add (t 69) (t 73)<|f 75 18 9<|f 76 1 75<|l 77 76<|bW 78 77<|b 79 .add (t 74) (t 78)<|f 80 0 9<|l 81 80<|o 82 (.len V (t 81))<|b 83 .add (t 79) (t 82)<|b 84 .add (t 60) (t 83)<|m 3 84<|z)))<|
 (R<|b 85 .add (t 56) (i 1)<|m 56 85<|z)))))))<|
 (S (R<|m 86 3<|b 87 .leq (t 86) (i 60000)<|m 2 87<|z)<|
 .ret)))))),[.tmp 2],[.aj]⟩
theorem ZR:cc 7 Cm:=cf Tryz.func7 rfl
def Jl(b:aT)(c:Nat)(e:Z)(g h:U)(i:bg):(bg)->bg:=λb c j=>u (ar .lss (aK c 1) h) λh=>aD (λ_ h=>aD (λg h=>u (ar .add (aK c 1) (J E 1)) λc=>b [(aK g 0),c] (trim e [(aK g 0),c] h)) λb=>u (bY 33 g (aK c 1)) λe=>u (ab V 33 e h) λe=>bK (.ptr h.length 0) (h++[.box iu 57 .rw]) λg h=>u (bf 33 g e h) λe=>u (aq 1 g) λh=>u (ab M 1 h e) λh=>u (bB M h) λh=>u (ar .add (J E 1) h) λh=>u (aq 2 g) λi=>u (aq 1 i) λi=>u (ab M 1 i e) λi=>u (bB M i) λi=>u (ar .add h i) λh=>u (aq 10 g) λi=>u (aq 1 i) λi=>u (ab M 1 i e) λi=>u (bB M i) λi=>u (ar .add h i) λh=>u (aq 18 g) λi=>u (aq 1 i) λi=>u (ab M 1 i e) λi=>u (bB M i) λi=>u (ar .add h i) λh=>u (aq 0 g) λg=>u (ab M 1 g e) λg=>u (bB V g) λg=>u (ar .add h g) λg=>u (ar .add (aK c 0) g) λc=>b [c] e) λb=>bb h (b [] j) (i [(aK c 0)] j)
def Jm(b:aT)(c:Nat)(e:Z)(g h:U)(i:bg):(bg)->bg:=λb c j=>u (ar .lss (aK c 1) h) λh=>aD (λ_ h=>aD (λg h=>u (ar .add (aK c 1) (J E 1)) λc=>b [(aK g 0),c] (trim e [(aK g 0),c] h)) λb=>u (bY 13 g (aK c 1)) λe=>u (ab V 13 e h) λe=>bK (.ptr h.length 0) (h++[.box [.str ⟨#[]⟩,.a7,J E 0,J E 0,J E 0,J E 0,J E 0,J E 0,J E 0,J E 0,J E 0,J E 0,J E 0] 43 .rw]) λg h=>u (bf 13 g e h) λe=>u (aq 1 g) λh=>u (ab M 1 h e) λh=>u (bB M h) λh=>u (ar .add (J E 1) h) λh=>u (aq 0 g) λg=>u (ab M 1 g e) λg=>u (bB V g) λg=>u (ar .add h g) λg=>u (ar .add (aK c 0) g) λc=>b [c] e) λb=>bb h (b [] j) (i [(aK c 0)] j)
def Jn(b:aT)(c:Nat)(e:Z)(g h:U)(i:bg):(bg)->bg:=λb c j=>u (ar .lss (aK c 1) h) λh=>aD (λ_ h=>aD (λg h=>u (ar .add (aK c 1) (J E 1)) λc=>b [(aK g 0),c] (trim e [(aK g 0),c] h)) λb=>u (bY 2 g (aK c 1)) λe=>u (ab V 2 e h) λe=>bK (.ptr h.length 0) (h++[.box [J E 0,.a7] 39 .rw]) λg h=>u (bf 2 g e h) λe=>u (aq 1 g) λg=>u (ab M 1 g e) λg=>u (bB M g) λg=>u (ar .add (J E 1) g) λg=>u (ar .add (aK c 0) g) λc=>b [c] e) λb=>bb h (b [] j) (i [(aK c 0)] j)
def OE(b:aT)(c:Nat)(e:U)(g:Z):bl:=bK (.ptr g.length 0) (g++[.box (cn e) 27 .rw]) λe h=>u (aq 3 e) λi=>u (ab M 1 i h) λi=>u (bB M i) λi=>u (aq 9 e) λj=>u (ab M 1 j h) λj=>u (bB M j) λj=>u (ar .add i j) λi=>u (aq 0 e) λj=>u (ab M 1 j h) λj=>u (bB V j) λj=>u (ar .add i j) λi=>u (aq 10 e) λj=>u (ab M 1 j h) λj=>u (bB M j) λk=>aD (λh i=>u (aq 11 e) λj=>u (ab M 1 j i) λj=>u (bB M j) λk=>aD (λh i=>u (aq 12 e) λe=>u (ab M 1 e i) λe=>u (bB M e) λj=>aD (λb c=>u (ar .leq (aK b 0) (J E 60000)) λb=>aN [.aj] g c [b]) λg=>cv (Jl b c i e j g) c [(aK h 0),(J E 0)] i) λe=>cv (Jm b c i j k e) c [(aK h 0),(J E 0)] i) λe=>cv (Jn b c h j k e) c [i,(J E 0)] h
open Go.aM.G in
def Cn:b2:=⟨0,50,(S (R<|cw 0<|z)<|
 (S (R<|o 8 (.call 17 [(i 1),(i 4),(i 1)])<|m 7 8<|eV 9 7 0<|eV 10 7 1<|o 1 (.new 27 j6)<|bS 13 1 9<|m 2 10<|z)<|
 (S (R<|bR 11 13 1<|o 3 (.new 27 j6)<|bS 13 3 11<|z)<|
 (S (R<|f 12 8 3<|n (.store 1 (t 12) (.const (.bool V)))<|z)<|
 (S (R<|bR 14 13 3<|dK 15 24 14<|m 13 15<|eV 16 13 0<|eV 17 13 1<|eV 18 13 2<|m 4 16<|m 5 17<|m 6 18<|z)<|
 (S (R<|m 19 2<|b 20 .eql (t 19) (i 0)<|m 21 20<|q 24 21 V [22,23] (bR 22 13 1<|dK 23 16 22<|z) (t 23)<|
 m 25 24<|q 30 25 V (g 26 4) (f 26 9 1<|l 27 26<|bW 28 27<|b 29 .eql (t 28) (i 4)<|z) (t 29)<|
 m 31 30<|q 37 31 V (g 32 5) (f 32 9 1<|l 33 32<|o 34 (.indexAddr 1 (t 33) (i 1))<|l 35 34<|b 36 .eql (t 35) (i 256)<|z) (t 36)<|
 m 38 37<|q 41 38 V [39,40] (m 39 4<|b 40 .eql (t 39) (.const (.string ⟨#[108,105,110,101,97,114]⟩))<|z) (t 40)<|
 m 42 41<|q 45 42 V [43,44] (m 43 5<|b 44 .eql (t 43) (i 0)<|z) (t 44)<|
 m 46 45<|q 49 46 V [47,48] (m 47 6<|b 48 .eql (t 47) (i 6)<|z) (t 48)<|
 m 0 49<|z)<|
 .ret)))))),[.tmp 0],[.aj]⟩
theorem ZS:cc 8 Cn:=cf Tryz.func8 rfl
def OF(b:aT)(c:Nat)(e:Z):bl:=u (b 17 [(J E 1),(J E 4),(J E 1)] e) λc=>u (ek c.1 0) λg=>u (ek c.1 1) λh=>bK (.ptr c.2.length 0) (c.2++[.box [.str ⟨#[]⟩,J E 0,J E 0,.a7,J E 0,J E 0,J E 0,J E 0,.bool M,.a7,.a7,.a7,.a7] 27 .rw]) λc i=>u (bf 13 c g i) λg=>u (ab V 13 c g) λi=>bK (.ptr g.length 0) (g++[.box [.str ⟨#[]⟩,J E 0,J E 0,.a7,J E 0,J E 0,J E 0,J E 0,.bool M,.a7,.a7,.a7,.a7] 27 .rw]) λg j=>u (bf 13 g i j) λi=>u (aq 8 g) λj=>u (bf 1 j (.bool V) i) λi=>u (ab V 13 g i) λg=>u (b 24 [g] i) λg=>u (ek g.1 0) λi=>u (ek g.1 1) λj=>u (ek g.1 2) λk=>u (ar .eql h (J E 0)) λh=>bc (λb g=>bc (λb g=>bc (λb c=>bc (λb c=>bc (λb c=>bc (λb c=>aN [.aj] e c [b]) λe=>bd b V (u (ar .eql k (J E 6)) λb=>e b c) (e (.bool M) c)) λe=>bd b V (u (ar .eql j (J E 0)) λb=>e b c) (e (.bool M) c)) λe=>bd b V (u (ar .eql i (.str ⟨#[108,105,110,101,97,114]⟩:U)) λb=>e b c) (e (.bool M) c)) λe=>bd b V (u (aq 9 c) λb=>u (ab M 1 b g) λb=>u (bY 1 b (J E 1)) λb=>u (ab M 1 b g) λb=>u (ar .eql b (J E 256)) λb=>e b g) (e (.bool M) g)) λe=>bd b V (u (aq 9 c) λb=>u (ab M 1 b g) λb=>u (bB M b) λb=>u (ar .eql b (J E 4)) λb=>e b g) (e (.bool M) g)) λe=>bd h V (u (ab V 13 c g.2) λc=>u (b 16 [c] g.2) λb=>e b.1 b.2) (e (.bool M) g.2)
open Go.aM.G in
def Co:b2:=⟨2,28,(S (R<|dr 2 27 0<|dr 3 27 1<|cw 4<|b_ 5 0<|z)<|
 (S (R<|bR 10 13 2<|dK 11 14 10<|m 9 11<|eV 12 9 0<|eV 13 9 1<|o 6 (.new 27 j6)<|bS 13 6 12<|m 7 13<|z)<|
 (S (S (R<|m 14 7<|b 15 .neq (t 14) (i 0)<|z)<|
 (.cond (t 15) [] [4,5,16]
 (S (R<|m 16 7<|cw 4<|m 5 16<|z)<|
 .ret)
 .skip))<|
 (S (R<|bR 18 13 3<|dK 19 14 18<|m 17 19<|eV 20 17 0<|eV 21 17 1<|o 8 (.new 27 j6)<|bS 13 8 20<|m 7 21<|z)<|
 (S (S (R<|m 22 7<|b 23 .neq (t 22) (i 0)<|z)<|
 (.cond (t 23) [] [4,5,24]
 (S (R<|m 24 7<|cw 4<|m 5 24<|z)<|
 .ret)
 .skip))<|
 (S (R<|bR 25 13 6<|bR 26 13 8<|F 25 (.agg fp)<|F 26 (.agg fp)<|eF 27 11 25 26<|m 4 27<|b_ 5 0<|z)<|
 .ret)))))),[.tmp 4,.tmp 5],[.aj,.aj]⟩
theorem ZT:cc 9 Co:=cf Tryz.func9 rfl
def OG(b:aT)(c:Nat)(e g:U)(h:Z):bl:=bK (.ptr h.length 0) (h++[.box (cn e) 27 .rw]) λc e=>bK (.ptr e.length 0) (e++[.box (cn g) 27 .rw]) λe g=>u (ab V 13 c g) λc=>u (b 14 [c] g) λc=>u (ek c.1 0) λg=>u (ek c.1 1) λi=>bK (.ptr c.2.length 0) (c.2++[.box [.str ⟨#[]⟩,J E 0,J E 0,.a7,J E 0,J E 0,J E 0,J E 0,.bool M,.a7,.a7,.a7,.a7] 27 .rw]) λc j=>u (bf 13 c g j) λg=>u (ar .neq i (J E 0)) λj=>aD (λ_ g=>u (ab V 13 e g) λe=>u (b 14 [e] g) λe=>u (ek e.1 0) λg=>u (ek e.1 1) λi=>bK (.ptr e.2.length 0) (e.2++[.box [.str ⟨#[]⟩,J E 0,J E 0,.a7,J E 0,J E 0,J E 0,J E 0,.bool M,.a7,.a7,.a7,.a7] 27 .rw]) λe j=>u (bf 13 e g j) λg=>u (ar .neq i (J E 0)) λj=>aD (λ_ g=>u (ab V 13 c g) λc=>u (ab V 13 e g) λe=>u (cC (.agg fp) c g) λc=>u (cC (.agg fp) e c.2) λe=>u (b 11 [c.1,e.1] e.2) λb=>aN [.aj,.aj] h b.2 [b.1,(J E 0)]) λb=>bb j (aN [.aj,.aj] h g [(.bool M),i]) (b [] g)) λb=>bb j (aN [.aj,.aj] h g [(.bool M),i]) (b [] g)
open Go.aM.G in
def Cp:b2:=⟨2,45,(S (R<|dr 2 27 0<|dr 3 27 1<|cw 4<|z)<|
 (S (D<|bR 5 13 2<|O 6 (.call 25 [(t 5)])<|bR 7 13 3<|dK 8 25 7<|o 9 (.od [.str,.int,.int,.int,.int,.int,.int,.bool] M (t 6) (t 8))<|m 10 9<|q 16 10 V (g 11 5) (f 11 3 2<|l 12 11<|f 13 3 3<|l 14 13<|eF 15 26 12 14<|z) (t 15)<|
 m 17 16<|q 23 17 V (g 18 5) (f 18 9 2<|l 19 18<|f 20 9 3<|l 21 20<|eF 22 26 19 21<|z) (t 22)<|
 m 24 23<|q 30 24 V (g 25 5) (f 25 10 2<|l 26 25<|f 27 10 3<|l 28 27<|o 29 (.call 27 [(t 26),(t 28),(.func 28)])<|z) (t 29)<|
 m 31 30<|q 37 31 V (g 32 5) (f 32 11 2<|l 33 32<|f 34 11 3<|l 35 34<|o 36 (.call 29 [(t 33),(t 35),(.func 30)])<|z) (t 36)<|
 m 38 37<|q 44 38 V (g 39 5) (f 39 12 2<|l 40 39<|f 41 12 3<|l 42 41<|o 43 (.call 31 [(t 40),(t 42),(.func 32)])<|z) (t 43)<|
 m 4 44<|z)<|
 .ret)),[.tmp 4],[.aj]⟩
theorem ZU:cc 11 Cp:=cf Tryz.func11 rfl
def OH(b:aT)(c:Nat)(e g:U)(h:Z):bl:=bK (.ptr h.length 0) (h++[.box (cn e) 27 .rw]) λc e=>bK (.ptr e.length 0) (e++[.box (cn g) 27 .rw]) λe g=>u (ab V 13 c g) λi=>u (b 25 [i] (lock g)) λi=>d' g i.2 λg=>u (ab V 13 e g) λj=>u (b 25 [j] g) λg=>u (lT [.str,.int,.int,.int,.int,.int,.int,.bool] M i.1 g.1) λi=>bc (λg i=>bc (λg i=>bc (λg i=>bc (λg i=>bc (λb c=>aN [.aj] h c [b]) λh=>bd g V (u (aq 12 c) λc=>u (ab M 1 c i) λc=>u (aq 12 e) λe=>u (ab M 1 e i) λe=>u (b 31 [c,e,(U.func 32 [] [])] i) λb=>h b.1 b.2) (h (.bool M) i)) λh=>bd g V (u (aq 11 c) λc=>u (ab M 1 c i) λc=>u (aq 11 e) λe=>u (ab M 1 e i) λe=>u (b 29 [c,e,(U.func 30 [] [])] i) λb=>h b.1 b.2) (h (.bool M) i)) λh=>bd g V (u (aq 10 c) λc=>u (ab M 1 c i) λc=>u (aq 10 e) λe=>u (ab M 1 e i) λe=>u (b 27 [c,e,(U.func 28 [] [])] i) λb=>h b.1 b.2) (h (.bool M) i)) λh=>bd g V (u (aq 9 c) λc=>u (ab M 1 c i) λc=>u (aq 9 e) λe=>u (ab M 1 e i) λe=>u (b 26 [c,e] i) λb=>h b.1 b.2) (h (.bool M) i)) λh=>bd i V (u (aq 3 c) λc=>u (ab M 1 c g.2) λc=>u (aq 3 e) λe=>u (ab M 1 e g.2) λe=>u (b 26 [c,e] g.2) λb=>h b.1 b.2) (h (.bool M) g.2)
open Go.aM.G in
def Cq:b2:=⟨2,78,(S (R<|dr 2 27 0<|dr 3 27 1<|cw 4<|z)<|
 (S (R<|f 5 0 2<|l 6 5<|f 7 0 3<|l 8 7<|b 9 .eql (t 6) (t 8)<|m 10 9<|q 16 10 V (g 11 5) (f 11 1 2<|l 12 11<|f 13 1 3<|l 14 13<|b 15 .eql (t 12) (t 14)<|z) (t 15)<|
 m 17 16<|q 23 17 V (g 18 5) (f 18 2 2<|l 19 18<|f 20 2 3<|l 21 20<|b 22 .eql (t 19) (t 21)<|z) (t 22)<|
 m 24 23<|q 30 24 V (g 25 5) (f 25 3 2<|l 26 25<|f 27 3 3<|l 28 27<|eF 29 33 26 28<|z) (t 29)<|
 m 31 30<|q 37 31 V (g 32 5) (f 32 4 2<|l 33 32<|f 34 4 3<|l 35 34<|b 36 .eql (t 33) (t 35)<|z) (t 36)<|
 m 38 37<|q 44 38 V (g 39 5) (f 39 5 2<|l 40 39<|f 41 5 3<|l 42 41<|b 43 .eql (t 40) (t 42)<|z) (t 43)<|
 m 45 44<|q 51 45 V (g 46 5) (f 46 6 2<|l 47 46<|f 48 6 3<|l 49 48<|b 50 .eql (t 47) (t 49)<|z) (t 50)<|
 m 52 51<|q 58 52 V (g 53 5) (f 53 7 2<|l 54 53<|f 55 7 3<|l 56 55<|b 57 .eql (t 54) (t 56)<|z) (t 57)<|
 m 59 58<|q 65 59 V (g 60 5) (f 60 8 2<|l 61 60<|f 62 8 3<|l 63 62<|o 64 (.o2 M (t 61) (t 63))<|z) (t 64)<|
 m 66 65<|q 72 66 V (g 67 5) (f 67 9 2<|l 68 67<|f 69 9 3<|l 70 69<|eF 71 33 68 70<|z) (t 71)<|
 m 73 72<|q 77 73 V [74,75,76] (bR 74 13 2<|bR 75 13 3<|eF 76 34 74 75<|z) (t 76)<|
 m 4 77<|z)<|
 .ret)),[.tmp 4],[.aj]⟩
theorem ZV:cc 12 Cq:=cf Tryz.func12 rfl
def OI(b:aT)(c:Nat)(e g:U)(h:Z):bl:=bK (.ptr h.length 0) (h++[.box (cn e) 27 .rw]) λc e=>bK (.ptr e.length 0) (e++[.box (cn g) 27 .rw]) λe g=>u (aq 0 c) λi=>u (ab M 1 i g) λi=>u (aq 0 e) λj=>u (ab M 1 j g) λj=>u (ar .eql i j) λi=>bc (λg i=>bc (λg i=>bc (λg i=>bc (λg i=>bc (λg i=>bc (λg i=>bc (λg i=>bc (λg i=>bc (λg i=>bc (λb c=>aN [.aj] h c [b]) λh=>bd g V (u (ab V 13 c i) λc=>u (ab V 13 e i) λe=>u (b 34 [c,e] i) λb=>h b.1 b.2) (h (.bool M) i)) λh=>bd g V (u (aq 9 c) λc=>u (ab M 1 c i) λc=>u (aq 9 e) λe=>u (ab M 1 e i) λe=>u (b 33 [c,e] i) λb=>h b.1 b.2) (h (.bool M) i)) λb=>bd g V (u (aq 8 c) λc=>u (ab M 1 c i) λc=>u (aq 8 e) λe=>u (ab M 1 e i) λe=>u (p4 M c e) λc=>b c i) (b (.bool M) i)) λb=>bd g V (u (aq 7 c) λc=>u (ab M 1 c i) λc=>u (aq 7 e) λe=>u (ab M 1 e i) λe=>u (ar .eql c e) λc=>b c i) (b (.bool M) i)) λb=>bd g V (u (aq 6 c) λc=>u (ab M 1 c i) λc=>u (aq 6 e) λe=>u (ab M 1 e i) λe=>u (ar .eql c e) λc=>b c i) (b (.bool M) i)) λb=>bd g V (u (aq 5 c) λc=>u (ab M 1 c i) λc=>u (aq 5 e) λe=>u (ab M 1 e i) λe=>u (ar .eql c e) λc=>b c i) (b (.bool M) i)) λb=>bd g V (u (aq 4 c) λc=>u (ab M 1 c i) λc=>u (aq 4 e) λe=>u (ab M 1 e i) λe=>u (ar .eql c e) λc=>b c i) (b (.bool M) i)) λh=>bd g V (u (aq 3 c) λc=>u (ab M 1 c i) λc=>u (aq 3 e) λe=>u (ab M 1 e i) λe=>u (b 33 [c,e] i) λb=>h b.1 b.2) (h (.bool M) i)) λb=>bd g V (u (aq 2 c) λc=>u (ab M 1 c i) λc=>u (aq 2 e) λe=>u (ab M 1 e i) λe=>u (ar .eql c e) λc=>b c i) (b (.bool M) i)) λb=>bd i V (u (aq 1 c) λc=>u (ab M 1 c g) λc=>u (aq 1 e) λe=>u (ab M 1 e g) λe=>u (ar .eql c e) λc=>b c g) (b (.bool M) g)
open Go.aM.G in
def Cr:b2:=⟨1,114,(S (R<|dr 1 27 0<|o 2 (.new 27 j6)<|z)<|
 (S (D<|f 7 3 1<|l 8 7<|O 9 (.call 35 [(t 8)])<|f 10 9 1<|l 11 10<|dK 12 35 11<|f 13 3 1<|bS 1 13 9<|f 14 9 1<|bS 1 14 12<|z)<|
 (S (D<|o 15 (.buildSlice 39 [] 0 [])<|f 16 10 1<|l 17 16<|o 19 (.buildSlice 43 [] 0 [])<|f 20 11 1<|l 21 20<|o 23 (.buildSlice 57 [] 0 [])<|f 24 12 1<|l 25 24<|(.op (y 18) (.a (.append 39 2 (t 15) (t 17))) (.hH [(15,20),(15,24)])<|(.op (y 22) (.a (.append 43 13 (t 19) (t 21))) (.hH [(19,24)])<|o 26 (.append 57 33 (t 23) (t 25))<|f 27 10 1<|bS 1 27 18<|f 28 11 1<|bS 1 28 22<|f 29 12 1<|bS 1 29 26<|z)))<|
 (S (S (R<|f 30 10 1<|l 31 30<|bW 32 31<|b_ 33 0<|z)<|
 (.block 0 [] ([3]++g 33 17)
 (.loop [33] ([3]++g 34 16)
 (S (R<|b 34 .lss (t 33) (t 32)<|z)<|
 (S (.cond (t 34) [] []
 .skip
 (.exit 0))<|
 (S (.block 1 [] ([3]++g 35 14)
 (S (R<|m 35 33<|m 3 35<|z)<|
 (D<|f 36 10 1<|l 37 36<|m 38 3<|o 39 (.buildSlice 41 [] 0 [])<|f 40 10 1<|l 41 40<|m 42 3<|cz 43 2 41 42<|f 44 1 43<|l 45 44<|(.op (y 46) (.a (.append 41 6 (t 39) (t 45))) (.hH [(39,36)])<|cz 47 2 37 38<|f 48 1 47<|bS 1 48 46<|z))))<|
 (R<|b 49 .add (t 33) (i 1)<|m 33 49<|z)))))))<|
 (S (S (R<|f 50 11 1<|l 51 50<|bW 52 51<|b_ 53 0<|z)<|
 (.block 2 [] ([4]++g 53 16)
 (.loop [53] ([4]++g 54 15)
 (S (R<|b 54 .lss (t 53) (t 52)<|z)<|
 (S (.cond (t 54) [] []
 .skip
 (.exit 2))<|
 (S (.block 3 [] ([4]++g 55 13)
 (S (R<|m 55 53<|m 4 55<|z)<|
 (D<|f 56 11 1<|l 57 56<|m 58 4<|f 59 11 1<|l 60 59<|m 61 4<|cz 62 13 60 61<|f 63 1 62<|l 64 63<|O 65 (.call 35 [(t 64)])<|cz 66 13 57 58<|f 67 1 66<|bS 1 67 65<|z)))<|
 (R<|b 68 .add (t 53) (i 1)<|m 53 68<|z)))))))<|
 (S (S (R<|f 69 12 1<|l 70 69<|bW 71 70<|b_ 72 0<|z)<|
 (.block 4 [] ([5,6]++g 72 41)
 (.loop [72] ([5,6]++g 73 40)
 (S (R<|b 73 .lss (t 72) (t 71)<|z)<|
 (S (.cond (t 73) [] []
 .skip
 (.exit 4))<|
 (S (.block 5 [] ([5,6]++g 74 38)
 (S (R<|m 74 72<|m 5 74<|z)<|
 (S (R<|f 75 12 1<|l 76 75<|m 77 5<|cz 78 33 76 77<|m 6 78<|z)<|
 (D<|m 79 6<|m 80 6<|m 81 6<|m 82 6<|o 83 (.buildSlice 89 [] 0 [])<|m 84 6<|gp 85 84<|f 86 1 85<|l 87 86<|(.op (y 88) (.a (.append 89 2 (t 83) (t 87))) (.hH [])<|m 89 6<|gp 90 89<|f 91 2 90<|(.op (y 92) (.a (.load V 8 (t 91))) (.hH [(88,91)])<|O 93 (.call 36 [(t 92)])<|m 94 6<|gp 95 94<|f 96 10 95<|(.op (y 97) (.a (.load V 8 (t 96))) (.hH [(88,96)])<|O 98 (.call 36 [(t 97)])<|m 99 6<|gp 100 99<|f 101 18 100<|(.op (y 102) (.a (.load V 8 (t 101))) (.hH [(88,101)])<|dK 103 36 102<|gp 104 79<|f 105 1 104<|bS 1 105 88<|gp 106 80<|f 107 2 106<|bS 8 107 93<|gp 108 81<|f 109 10 108<|bS 8 109 98<|gp 110 82<|f 111 18 110<|bS 8 111 103<|z))))))))<|
 (R<|b 112 .add (t 72) (i 1)<|m 72 112<|z)))))))<|
 (S (R<|bR 113 13 1<|bS 13 2 113<|z)<|
 .ret))))))),[.cell 2 V 13],[.aj]⟩
theorem ZW:cc 13 Cr:=cf Tryz.func13 rfl
def Cs(b:aT)(c:Nat)(e:U)(g:Z)(h:U)(i:bg):(bg)->bg:=λc j k=>u (ar .lss (aK j 0) h) λh=>aD (λ_ h=>aD (λ_ b=>u (ar .add (aK j 0) (J E 1)) λe=>c [e] (trim g [e] b)) λc=>u (aq 12 e) λe=>u (ab M 1 e h) λe=>u (bY 33 e (aK j 0)) λe=>u (fS e) λg=>u (aq 1 g) λg=>u (ab M 1 g h) λg=>u (eC 89 2 U.emp g h) λg=>u (fS e) λh=>u (aq 2 h) λh=>hb (jy g.1 h g.2&&V) (u (ab V 8 h g.2) λh=>u (b 36 [h] (lock g.2)) λh=>d' g.2 h.2 λi=>u (fS e) λj=>u (aq 10 j) λj=>hb (jy g.1 j i&&V) (u (ab V 8 j i) λj=>u (b 36 [j] (lock i)) λj=>d' i j.2 λi=>u (fS e) λk=>u (aq 18 k) λk=>hb (jy g.1 k i&&V) (u (ab V 8 k i) λk=>u (b 36 [k] i) λb=>u (fS e) λi=>u (aq 1 i) λi=>u (bf 1 i g.1 b.2) λg=>u (fS e) λi=>u (aq 2 i) λi=>u (bf 8 i h.1 g) λg=>u (fS e) λh=>u (aq 10 h) λh=>u (bf 8 h j.1 g) λg=>u (fS e) λe=>u (aq 18 e) λe=>u (bf 8 e b.1 g) λb=>c [] b)))) λb=>bb h (b [] k) (i [] k)
def Ct(b:aT)(c:Nat)(e:U)(g:Z)(h:U)(i:bg):(bg)->bg:=λc j k=>u (ar .lss (aK j 0) h) λh=>aD (λ_ h=>aD (λ_ b=>u (ar .add (aK j 0) (J E 1)) λe=>c [e] (trim g [e] b)) λc=>u (aq 11 e) λg=>u (ab M 1 g h) λg=>u (aq 11 e) λe=>u (ab M 1 e h) λe=>u (bY 13 e (aK j 0)) λe=>u (aq 1 e) λe=>u (ab M 1 e h) λe=>u (b 35 [e] (lock h)) λb=>d' h b.2 λe=>u (bY 13 g (aK j 0)) λg=>u (aq 1 g) λg=>u (bf 1 g b.1 e) λb=>c [] b) λb=>bb h (b [] k) (i [] k)
def Cu(b:aT)(c:Nat)(e:U)(g:Z)(h:U)(i:bg):(bg)->bg:=λb c j=>u (ar .lss (aK c 0) h) λh=>aD (λ_ h=>aD (λ_ e=>u (ar .add (aK c 0) (J E 1)) λc=>b [c] (trim g [c] e)) λb=>u (aq 10 e) λg=>u (ab M 1 g h) λi=>u (aq 10 e) λe=>u (ab M 1 e h) λe=>u (bY 2 e (aK c 0)) λe=>u (aq 1 e) λe=>u (ab M 1 e h) λe=>hb (jy U.emp g h&&V) (u (eC 41 6 U.emp e h) λe=>u (bY 2 i (aK c 0)) λc=>u (aq 1 c) λc=>u (bf 1 c e.1 e.2) λc=>b [] c)) λb=>bb h (b [] j) (i [] j)
def OJ(b:aT)(c:Nat)(e:U)(g:Z):bl:=bK (.ptr g.length 0) (g++[.box (cn e) 27 .rw]) λe h=>bK (.ptr h.length 0) (h++[.box [.str ⟨#[]⟩,J E 0,J E 0,.a7,J E 0,J E 0,J E 0,J E 0,.bool M,.a7,.a7,.a7,.a7] 27 .rw]) λh i=>u (aq 3 e) λj=>u (ab M 1 j i) λj=>u (b 35 [j] (lock i)) λj=>d' i j.2 λi=>u (aq 9 e) λk=>u (ab M 1 k i) λk=>u (b 35 [k] i) λi=>u (aq 3 e) λk=>u (bf 1 k j.1 i.2) λj=>u (aq 9 e) λk=>u (bf 1 k i.1 j) λi=>u (aq 10 e) λj=>u (ab M 1 j i) λj=>u (aq 11 e) λk=>u (ab M 1 k i) λl=>u (aq 12 e) λm=>u (ab M 1 m i) λn=>hb (jy U.emp k i&&jy U.emp m i&&V) (u (eC 39 2 U.emp j i) λi=>hb (jy U.emp m i.2&&V) (u (eC 43 13 U.emp l i.2) λj=>u (eC 57 33 U.emp n j.2) λk=>u (aq 10 e) λl=>u (bf 1 l i.1 k.2) λi=>u (aq 11 e) λl=>u (bf 1 l j.1 i) λi=>u (aq 12 e) λj=>u (bf 1 j k.1 i) λi=>u (aq 10 e) λj=>u (ab M 1 j i) λj=>u (bB M j) λj=>aD (λ_ i=>u (aq 11 e) λj=>u (ab M 1 j i) λj=>u (bB M j) λj=>aD (λ_ i=>u (aq 12 e) λj=>u (ab M 1 j i) λj=>u (bB M j) λj=>aD (λ_ b=>u (ab V 13 e b) λc=>u (bf 13 h c b) λb=>u (ab V 13 h b) λc=>aN [.aj] g b [c]) λg=>cv (Cs b c e i j g) c [(J E 0)] i) λg=>cv (Ct b c e i j g) c [(J E 0)] i) λg=>cv (Cu b c e i j g) c [(J E 0)] i))
open Go.aM.G in
def Cv:b2:=⟨1,53,(S (R<|dr 1 27 0<|o 2 (.new 27 j6)<|b_ 3 0<|z)<|
 (S (S (R<|bR 6 13 1<|(.ov [(6,(.agg fp))] (y 7) (.a (.call 16 [(t 6)])) .no<|dE 8 7<|z))<|
 (.cond (t 8) [] [3,9]
 (S (R<|o 9 (.build j6 [])<|bS 13 2 9<|b_ 3 1<|z)<|
 .ret)
 .skip))<|
 (S (R<|bR 10 13 1<|dK 11 37 10<|o 4 (.new 27 j6)<|bS 13 4 11<|z)<|
 (S (R<|dK 12 38 4<|z)<|
 (S (D<|bR 13 13 4<|O 14 (.call 41 [(t 13)])<|f 15 10 4<|l 16 15<|bW 17 16<|eF 18 40 14 17<|o 19 (.call 39 [(t 4),(i 0),(t 18)])<|z)<|
 (S (D<|bR 20 13 4<|f 21 10 4<|l 22 21<|bW 23 22<|O 24 (.call 44 [(t 23)])<|eF 25 43 20 24<|dK 26 42 25<|m 5 26<|z)<|
 (S (S (R<|bR 27 13 4<|dK 28 45 27<|o 29 (.field M 6 1 (t 28))<|dE 30 29<|z)<|
 (.cond (t 30) [] ([3]++g 31 7)
 (S (R<|m 31 5<|f 32 11 4<|l 33 32<|bW 34 33<|eF 35 40 31 34<|o 36 (.call 39 [(t 4),(i 1),(t 35)])<|z)<|
 (S (R<|bR 37 13 4<|bS 13 2 37<|b_ 3 0<|z)<|
 .ret))
 .skip))<|
 (S (R<|m 38 5<|f 39 12 4<|l 40 39<|bW 41 40<|eF 42 40 38 41<|o 43 (.call 39 [(t 4),(i 2),(t 42)])<|z)<|
 (S (D<|bR 44 13 4<|O 45 (.call 46 [(t 44)])<|O 46 (.call 42 [(t 45)])<|f 47 11 4<|l 48 47<|bW 49 48<|eF 50 40 46 49<|o 51 (.call 39 [(t 4),(i 1),(t 50)])<|z)<|
 (S (R<|bR 52 13 4<|bS 13 2 52<|b_ 3 0<|z)<|
 .ret)))))))))),[.cell 2 V 13,.tmp 3],[.aj,.aj]⟩
theorem ZX:cc 14 Cv:=cf Tryz.func14 rfl
def OK(b:aT)(c:Nat)(e:U)(g:Z):bl:=bK (.ptr g.length 0) (g++[.box (cn e) 27 .rw]) λc e=>bK (.ptr e.length 0) (e++[.box [.str ⟨#[]⟩,J E 0,J E 0,.a7,J E 0,J E 0,J E 0,J E 0,.bool M,.a7,.a7,.a7,.a7] 27 .rw]) λe h=>u (ab V 13 c h) λi=>u (cC (.agg fp) i h) λi=>u (b 16 [i.1] (lock i.2)) λi=>hb (mX i.1) (u (dq .not i.1) λi=>aD (λ_ h=>u (ab V 13 c h) λc=>u (b 37 [c] h) λc=>bK (.ptr c.2.length 0) (c.2++[.box [.str ⟨#[]⟩,J E 0,J E 0,.a7,J E 0,J E 0,J E 0,J E 0,.bool M,.a7,.a7,.a7,.a7] 27 .rw]) λh i=>u (bf 13 h c.1 i) λc=>u (b 38 [h] c) λc=>u (ab V 13 h c.2) λi=>u (b 41 [i] (lock c.2)) λi=>d' c.2 i.2 λc=>u (aq 10 h) λj=>u (ab M 1 j c) λj=>u (bB M j) λj=>u (b 40 [i.1,j] c) λc=>u (b 39 [h,(J E 0),c.1] c.2) λc=>u (ab V 13 h c.2) λi=>u (aq 10 h) λj=>u (ab M 1 j c.2) λj=>u (bB M j) λj=>u (b 44 [j] (lock c.2)) λj=>d' c.2 j.2 λc=>u (b 43 [i,j.1] c) λc=>u (b 42 [c.1] c.2) λc=>u (ab V 13 h c.2) λi=>u (b 45 [i] c.2) λi=>u (wm M 6 1 i.1) λj=>u (dq .not j) λj=>aD (λ_ i=>u (aq 12 h) λj=>u (ab M 1 j i) λj=>u (bB M j) λj=>u (b 40 [c.1,j] i) λc=>u (b 39 [h,(J E 2),c.1] c.2) λc=>u (ab V 13 h c.2) λi=>u (b 46 [i] (lock c.2)) λi=>d' c.2 i.2 λc=>u (b 42 [i.1] (lock c)) λi=>d' c i.2 λc=>u (aq 11 h) λj=>u (ab M 1 j c) λj=>u (bB M j) λj=>u (b 40 [i.1,j] c) λc=>u (b 39 [h,(J E 1),c.1] c.2) λb=>u (ab V 13 h b.2) λc=>u (bf 13 e c b.2) λb=>u (ab V 13 e b) λc=>aN [.aj,.aj] g b [c,(J E 0)]) λk=>bb j (u (aq 11 h) λj=>u (ab M 1 j i.2) λj=>u (bB M j) λj=>u (b 40 [c.1,j] i.2) λc=>u (b 39 [h,(J E 1),c.1] c.2) λb=>u (ab V 13 h b.2) λc=>u (bf 13 e c b.2) λb=>u (ab V 13 e b) λc=>aN [.aj,.aj] g b [c,(J E 0)]) (k [] i.2)) λb=>bb i (u (cV [.str ⟨#[]⟩,J E 0,J E 0,.a7,J E 0,J E 0,J E 0,J E 0,.bool M,.a7,.a7,.a7,.a7] []) λb=>u (bf 13 e (U.agg b) h) λb=>u (ab V 13 e b) λc=>aN [.aj,.aj] g b [c,(J E 1)]) (b [] h))
open Go.aM.G in
def Cw:b2:=⟨1,117,(S (R<|dr 1 27 0<|o 2 (.new 27 j6)<|b_ 3 0<|z)<|
 (S (S (R<|bR 15 13 1<|F 15 (.agg fp)<|dK 16 47 15<|dE 17 16<|z)<|
 (.cond (t 17) [] [3,18]
 (S (R<|o 18 (.build j6 [])<|bS 13 2 18<|b_ 3 1<|z)<|
 .ret)
 .skip))<|
 (S (R<|bR 19 13 1<|dK 20 48 19<|bS 13 1 20<|z)<|
 (S (R<|(.op (y 4) (.sS 3 1) .no<|z))<|
 (S (S (R<|f 21 3 1<|l 22 21<|bW 23 22<|b_ 24 0<|z)<|
 (.block 0 [4] ([6]++g 24 12)
 (.loop [4,24] ([6]++g 25 11)
 (S (R<|b 25 .lss (t 24) (t 23)<|z)<|
 (S (.cond (t 25) [] []
 .skip
 (.exit 0))<|
 (S (.block 1 [4] ([6]++g 26 9)
 (S (R<|cz 26 1 22 24<|l 27 26<|m 6 27<|z)<|
 (S (R<|m 28 6<|dK 29 49 28<|dE 30 29<|z)<|
 (.cond (t 30) [4] (g 31 4)
 (R<|m 31 4<|m 32 6<|(.op (y 33) (.mq 3 [(.int .i64 0)] 1 [(0,1,(t 32))]) .no<|o 34 (.append 3 1 (t 31) (t 33))<|m 4 34<|z))
 .skip))))<|
 (R<|b 35 .add (t 24) (i 1)<|m 24 35<|z)))))))<|
 (S (D<|bR 36 13 1<|f 37 10 1<|l 38 37<|bW 39 38<|m 40 4<|F 40 (.flat 1)<|O 41 (.call 51 [(t 39),(t 40)])<|o 42 (.call 50 [(t 36),(i 0),(t 41)])<|bS 13 1 42<|z)<|
 (S (R<|(.op (y 4) (.sS 3 1) .no<|z))<|
 (S (S (R<|f 43 10 1<|l 44 43<|bW 45 44<|b_ 46 0<|z)<|
 (.block 2 [4] ([8,10]++g 46 22)
 (.loop [4,46] ([8,10]++g 47 21)
 (S (R<|b 47 .lss (t 46) (t 45)<|z)<|
 (S (.cond (t 47) [] []
 .skip
 (.exit 2))<|
 (S (.block 3 [4] ([8,10]++g 48 19)
 (S (R<|cz 48 2 44 46<|bR 49 2 48<|o 8 (.new 39 [(.int .i64 0),(.slice none 0 0)])<|bS 2 8 49<|z)<|
 (S (R<|f 50 1 8<|l 51 50<|bW 52 51<|b_ 53 0<|z)<|
 (.block 4 [4] ([10]++g 53 14)
 (.loop [4,53] ([10]++g 54 13)
 (S (R<|b 54 .lss (t 53) (t 52)<|z)<|
 (S (.cond (t 54) [] []
 .skip
 (.exit 4))<|
 (S (.block 5 [4] ([10]++g 55 11)
 (S (R<|cz 55 6 51 53<|bR 56 6 55<|o 10 (.new 41 Oz)<|bS 6 10 56<|z)<|
 (S (R<|f 57 1 10<|l 58 57<|b 59 .neq (t 58) (i 0)<|z)<|
 (.cond (t 59) [4] (g 60 6)
 (R<|m 60 4<|f 61 1 10<|l 62 61<|b 63 .sub (t 62) (i 1)<|(.op (y 64) (.mq 3 [(.int .i64 0)] 1 [(0,1,(t 63))]) .no<|o 65 (.append 3 1 (t 60) (t 64))<|m 4 65<|z))
 .skip))))<|
 (R<|b 66 .add (t 53) (i 1)<|m 53 66<|z)))))))))<|
 (R<|b 67 .add (t 46) (i 1)<|m 46 67<|z)))))))<|
 (S (S (R<|bR 68 13 1<|dK 69 52 68<|dE 70 69<|z)<|
 (.cond (t 70) [] ([3]++g 71 7)
 (S (D<|bR 71 13 1<|f 72 11 1<|l 73 72<|bW 74 73<|m 75 4<|F 75 (.flat 1)<|O 76 (.call 51 [(t 74),(t 75)])<|o 77 (.call 50 [(t 71),(i 1),(t 76)])<|bS 13 2 77<|b_ 3 0<|z)<|
 .ret)
 .skip))<|
 (S (D<|bR 78 13 1<|f 79 12 1<|l 80 79<|bW 81 80<|m 82 4<|F 82 (.flat 1)<|O 83 (.call 51 [(t 81),(t 82)])<|o 84 (.call 50 [(t 78),(i 2),(t 83)])<|bS 13 1 84<|z)<|
 (S (R<|(.op (y 4) (.sS 3 1) .no<|z))<|
 (S (S (R<|f 85 12 1<|l 86 85<|bW 87 86<|b_ 88 0<|z)<|
 (.block 6 [4] ([12,14]++g 88 22)
 (.loop [4,88] ([12,14]++g 89 21)
 (S (R<|b 89 .lss (t 88) (t 87)<|z)<|
 (S (.cond (t 89) [] []
 .skip
 (.exit 6))<|
 (S (.block 7 [4] ([12,14]++g 90 19)
 (S (R<|cz 90 33 86 88<|bR 91 33 90<|o 12 (.new 57 r5)<|bS 33 12 91<|z)<|
 (S (R<|f 92 1 12<|l 93 92<|bW 94 93<|b_ 95 0<|z)<|
 (.block 8 [4] ([14]++g 95 14)
 (.loop [4,95] ([14]++g 96 13)
 (S (R<|b 96 .lss (t 95) (t 94)<|z)<|
 (S (.cond (t 96) [] []
 .skip
 (.exit 8))<|
 (S (.block 9 [4] ([14]++g 97 11)
 (S (R<|cz 97 2 93 95<|bR 98 2 97<|o 14 (.new 89 [(.int .i64 0),(.int .i64 0)])<|bS 2 14 98<|z)<|
 (S (R<|f 99 1 14<|l 100 99<|b 101 .neq (t 100) (i 0)<|z)<|
 (.cond (t 101) [4] (g 102 6)
 (R<|m 102 4<|f 103 1 14<|l 104 103<|b 105 .sub (t 104) (i 1)<|(.op (y 106) (.mq 3 [(.int .i64 0)] 1 [(0,1,(t 105))]) .no<|o 107 (.append 3 1 (t 102) (t 106))<|m 4 107<|z))
 .skip))))<|
 (R<|b 108 .add (t 95) (i 1)<|m 95 108<|z)))))))))<|
 (R<|b 109 .add (t 88) (i 1)<|m 88 109<|z)))))))<|
 (S (D<|bR 110 13 1<|f 111 11 1<|l 112 111<|bW 113 112<|m 114 4<|F 114 (.flat 1)<|O 115 (.call 51 [(t 113),(t 114)])<|o 116 (.call 50 [(t 110),(i 1),(t 115)])<|bS 13 2 116<|b_ 3 0<|z)<|
 .ret))))))))))))),[.cell 2 V 13,.tmp 3],[(.agg fp),.aj]⟩
theorem ZY:cc 15 Cw:=cf Tryz.func15 rfl
def Cx(b:aT)(c:Nat)(e:Z)(g h:U)(i:bg):(bg)->bg:=λb c j=>u (ar .lss (aK c 1) h) λh=>aD (λ_ h=>aD (λg h=>u (ar .add (aK c 1) (J E 1)) λc=>b [(aK g 0),c] (trim e [(aK g 0),c] h)) λb=>u (bY 2 g (aK c 1)) λe=>u (ab V 2 e h) λe=>bK (.ptr h.length 0) (h++[.box [J E 0,J E 0] 89 .rw]) λg h=>u (bf 2 g e h) λe=>u (aq 1 g) λh=>u (ab M 1 h e) λh=>u (ar .neq h (J E 0)) λh=>aD (λc e=>b [(aK c 0)] e) λb=>bb h (u (aq 1 g) λg=>u (ab M 1 g e) λg=>u (ar .sub g (J E 1)) λg=>u (cV (h_ [J E 0] 1) [(0,1,g)]) λg=>hb (g.all fR) (bK (.bE 1 (h9 1 1 g)) (e) λe g=>u (eC 3 1 (aK c 0) e g) λc=>b [c.1] c.2)) (b [(aK c 0)] e)) λb=>bb h (b [] j) (i [(aK c 0)] j)
def Cy(b:aT)(c:Nat)(e:Z)(g h:U)(i:bg):(bg)->bg:=λj k l=>u (ar .lss (aK k 1) h) λh=>aD (λ_ h=>aD (λb c=>u (ar .add (aK k 1) (J E 1)) λg=>j [(aK b 0),g] (trim e [(aK b 0),g] c)) λe=>u (bY 33 g (aK k 1)) λg=>u (ab V 33 g h) λg=>bK (.ptr h.length 0) (h++[.box iu 57 .rw]) λh i=>u (bf 33 h g i) λg=>u (aq 1 h) λh=>u (ab M 1 h g) λh=>u (bB M h) λi=>aD (λb c=>e [(aK b 0)] c) λe=>cv (Cx b c g h i e) c [(aK k 0),(J E 0)] g) λb=>bb h (b [] l) (i [(aK k 0)] l)
def Cz(b:aT)(c:Nat)(e:Z)(g h:U)(i:bg):(bg)->bg:=λb c j=>u (ar .lss (aK c 1) h) λh=>aD (λ_ h=>aD (λg h=>u (ar .add (aK c 1) (J E 1)) λc=>b [(aK g 0),c] (trim e [(aK g 0),c] h)) λb=>u (bY 6 g (aK c 1)) λe=>u (ab V 6 e h) λe=>bK (.ptr h.length 0) (h++[.box [J E 0,J E 0,J E 0,J E 0,J E 0,J E 0] 41 .rw]) λg h=>u (bf 6 g e h) λe=>u (aq 1 g) λh=>u (ab M 1 h e) λh=>u (ar .neq h (J E 0)) λh=>aD (λc e=>b [(aK c 0)] e) λb=>bb h (u (aq 1 g) λg=>u (ab M 1 g e) λg=>u (ar .sub g (J E 1)) λg=>u (cV (h_ [J E 0] 1) [(0,1,g)]) λg=>hb (g.all fR) (bK (.bE 1 (h9 1 1 g)) (e) λe g=>u (eC 3 1 (aK c 0) e g) λc=>b [c.1] c.2)) (b [(aK c 0)] e)) λb=>bb h (b [] j) (i [(aK c 0)] j)
def CA(b:aT)(c:Nat)(e:Z)(g h:U)(i:bg):(bg)->bg:=λj k l=>u (ar .lss (aK k 1) h) λh=>aD (λ_ h=>aD (λb c=>u (ar .add (aK k 1) (J E 1)) λg=>j [(aK b 0),g] (trim e [(aK b 0),g] c)) λe=>u (bY 2 g (aK k 1)) λg=>u (ab V 2 g h) λg=>bK (.ptr h.length 0) (h++[.box [J E 0,.a7] 39 .rw]) λh i=>u (bf 2 h g i) λg=>u (aq 1 h) λh=>u (ab M 1 h g) λh=>u (bB M h) λi=>aD (λb c=>e [(aK b 0)] c) λe=>cv (Cz b c g h i e) c [(aK k 0),(J E 0)] g) λb=>bb h (b [] l) (i [(aK k 0)] l)
def CB(b:aT)(c:Nat)(e:Z)(g h:U)(i:bg):(bg)->bg:=λc j k=>u (ar .lss (aK j 1) h) λh=>aD (λ_ h=>aD (λb g=>u (ar .add (aK j 1) (J E 1)) λh=>c [(aK b 0),h] (trim e [(aK b 0),h] g)) λc=>u (bY 1 g (aK j 1)) λe=>u (ab M 1 e h) λe=>u (b 49 [e] h) λb=>u (dq .not b.1) λg=>aD (λb e=>c [(aK b 0)] e) λc=>bb g (u (cV (h_ [J E 0] 1) [(0,1,e)]) λe=>hb (e.all fR) (bK (.bE 1 (h9 1 1 e)) (b.2) λb e=>u (eC 3 1 (aK j 0) b e) λb=>c [b.1] b.2)) (c [(aK j 0)] b.2)) λb=>bb h (b [] k) (i [(aK j 0)] k)
def OL(b:aT)(c:Nat)(e:U)(g:Z):bl:=bK (.ptr g.length 0) (g++[.box (cn e) 27 .rw]) λe h=>bK (.ptr h.length 0) (h++[.box [.str ⟨#[]⟩,J E 0,J E 0,.a7,J E 0,J E 0,J E 0,J E 0,.bool M,.a7,.a7,.a7,.a7] 27 .rw]) λh i=>u (ab V 13 e i) λj=>u (cC (.agg fp) j i) λi=>u (b 47 [i.1] i.2) λi=>u (dq .not i.1) λj=>aD (λ_ i=>u (ab V 13 e i) λj=>u (b 48 [j] i) λi=>u (bf 13 e i.1 i.2) λi=>bK (.ref i.length 0 0 0 1) (i++[.log [] 1 3 .rw]) λi j=>u (aq 3 e) λk=>u (ab M 1 k j) λk=>u (bB M k) λl=>aD (λi j=>u (ab V 13 e j) λk=>u (aq 10 e) λl=>u (ab M 1 l j) λl=>u (bB M l) λl=>u (cC (.flat 1) (aK i 0) j) λi=>u (b 51 [l,i.1] (lock i.2)) λj=>d' i.2 j.2 λi=>u (b 50 [k,(J E 0),j.1] i) λi=>u (bf 13 e i.1 i.2) λi=>bK (.ref i.length 0 0 0 1) (i++[.log [] 1 3 .rw]) λi j=>u (aq 10 e) λk=>u (ab M 1 k j) λk=>u (bB M k) λl=>aD (λi j=>u (ab V 13 e j) λk=>u (b 52 [k] j) λj=>u (dq .not j.1) λk=>aD (λ_ j=>u (ab V 13 e j) λk=>u (aq 12 e) λl=>u (ab M 1 l j) λl=>u (bB M l) λl=>u (cC (.flat 1) (aK i 0) j) λi=>u (b 51 [l,i.1] (lock i.2)) λj=>d' i.2 j.2 λi=>u (b 50 [k,(J E 2),j.1] i) λi=>u (bf 13 e i.1 i.2) λi=>bK (.ref i.length 0 0 0 1) (i++[.log [] 1 3 .rw]) λi j=>u (aq 12 e) λk=>u (ab M 1 k j) λk=>u (bB M k) λl=>aD (λc i=>u (ab V 13 e i) λj=>u (aq 11 e) λe=>u (ab M 1 e i) λe=>u (bB M e) λe=>u (cC (.flat 1) (aK c 0) i) λc=>u (b 51 [e,c.1] (lock c.2)) λe=>d' c.2 e.2 λc=>u (b 50 [j,(J E 1),e.1] c) λb=>u (bf 13 h b.1 b.2) λb=>u (ab V 13 h b) λc=>aN [(.agg fp),.aj] g b [c,(J E 0)]) λe=>cv (Cy b c j k l e) c [i,(J E 0)] j) λc=>bb k (u (ab V 13 e j.2) λc=>u (aq 11 e) λe=>u (ab M 1 e j.2) λe=>u (bB M e) λe=>u (cC (.flat 1) (aK i 0) j.2) λi=>u (b 51 [e,i.1] (lock i.2)) λe=>d' i.2 e.2 λi=>u (b 50 [c,(J E 1),e.1] i) λb=>u (bf 13 h b.1 b.2) λb=>u (ab V 13 h b) λc=>aN [(.agg fp),.aj] g b [c,(J E 0)]) (c [] j.2)) λe=>cv (CA b c j k l e) c [i,(J E 0)] j) λe=>cv (CB b c j k l e) c [i,(J E 0)] j) λb=>bb j (u (cV [.str ⟨#[]⟩,J E 0,J E 0,.a7,J E 0,J E 0,J E 0,J E 0,.bool M,.a7,.a7,.a7,.a7] []) λb=>u (bf 13 h (U.agg b) i.2) λb=>u (ab V 13 h b) λc=>aN [(.agg fp),.aj] g b [c,(J E 1)]) (b [] i.2)
open Go.aM.G in
def CC:b2:=⟨1,14,(S (R<|dr 1 27 0<|cw 2<|z)<|
 (S (R<|bR 7 13 1<|dK 8 24 7<|m 6 8<|eV 9 6 0<|eV 10 6 1<|eV 11 6 2<|m 3 9<|m 4 10<|m 5 11<|z)<|
 (S (R<|m 12 5<|b 13 .eql (t 12) (i 0)<|m 2 13<|z)<|
 .ret))),[.tmp 2],[.aj]⟩
theorem ZZ:cc 16 CC:=cf Tryz.func16 rfl
def OM(b:aT)(c:Nat)(e:U)(g:Z):bl:=bK (.ptr g.length 0) (g++[.box (cn e) 27 .rw]) λc e=>u (ab V 13 c e) λc=>u (b 24 [c] e) λb=>u (ek b.1 0) λ_=>u (ek b.1 1) λ_=>u (ek b.1 2) λc=>u (ar .eql c (J E 0)) λc=>aN [.aj] g b.2 [c]
open Go.aM.G in
def CD:b2:=⟨3,82,(S (R<|o 6 (.new 27 j6)<|b_ 7 0<|z)<|
 (S (R<|m 17 0<|dK 18 53 17<|m 16 18<|eV 19 16 0<|eV 20 16 1<|o 8 (.new 83 ji)<|bS 29 8 19<|m 9 20<|z)<|
 (S (.block 0 [] ([7]++g 21 17)
 (S (R<|m 22 9<|b 23 .neq (t 22) (i 0)<|m 21 23<|z)<|
 (.cond (t 21) [] ([7]++g 24 14)
 (S (R<|o 24 (.build j6 [])<|m 25 9<|bS 13 6 24<|m 7 25<|z)<|
 .ret)
 (S (R<|m 27 1<|f 28 1 8<|l 29 28<|o 30 (.call 54 [(t 27),(i 1),(t 29)])<|dE 31 30<|m 32 31<|q 36 32 M [33,34,35] (m 33 2<|o 34 (.call 54 [(t 33),(i 1),(i 32)])<|dE 35 34<|z) (t 35)<|
 m 26 36<|z)<|
 (.cond (t 26) [] [7,37]
 (S (R<|o 37 (.build j6 [])<|bS 13 6 37<|b_ 7 5<|z)<|
 .ret)
 .skip)))))<|
 (S (R<|m 38 0<|m 39 1<|f 40 8 8<|l 41 40<|o 42 (.build j6 [(1,1,(t 38)),(2,1,(t 39)),(5,1,(i 6)),(6,1,(i 125)),(7,1,(i 128)),(8,1,(t 41))])<|o 10 (.new 27 j6)<|bS 13 10 42<|z)<|
 (S (S (R<|m 43 1<|b_ 44 0<|z)<|
 (.block 1 [] ([11,12]++g 44 15)
 (.loop [44] ([11,12]++g 45 14)
 (S (R<|b 45 .lss (t 44) (t 43)<|z)<|
 (S (.cond (t 45) [] []
 .skip
 (.exit 1))<|
 (S (.block 2 [] ([11,12]++g 46 12)
 (S (R<|m 46 44<|m 11 46<|z)<|
 (S (R<|b_ 12 128<|z)<|
 (S (S (R<|m 47 0<|b 48 .eql (t 47) (i 1)<|z)<|
 (.cond (t 48) [12] [49,50,51]
 (R<|o 49 (.build ZN [(0,1,(i 0)),(1,1,(i 256)),(2,1,(i 256)),(3,1,(i 0))])<|m 50 11<|o 51 (.rJ 4 M 1 (t 49) (t 50))<|m 12 51<|z)
 .skip))<|
 (R<|f 52 9 10<|l 53 52<|m 54 12<|(.op (y 55) (.mq 3 [(.int .i64 0)] 1 [(0,1,(t 54))]) .no<|o 56 (.append 3 1 (t 53) (t 55))<|f 57 9 10<|bS 1 57 56<|z))))))<|
 (R<|b 58 .add (t 44) (i 1)<|m 44 58<|z)))))))<|
 (S (S (R<|m 59 2<|b_ 60 0<|z)<|
 (.block 3 [] ([13,14,15]++g 60 21)
 (.loop [60] ([13,14,15]++g 61 20)
 (S (R<|b 61 .lss (t 60) (t 59)<|z)<|
 (S (.cond (t 61) [] []
 .skip
 (.exit 3))<|
 (S (.block 4 [] ([13,14,15]++g 62 18)
 (S (R<|m 62 60<|m 13 62<|z)<|
 (S (R<|m 64 1<|o 65 (.call 55 [(i 64),(t 64)])<|m 63 65<|eV 66 63 0<|eV 67 63 1<|o 14 (.new 39 [(.int .i64 0),(.slice none 0 0)])<|bS 2 14 66<|m 15 67<|z)<|
 (D<|f 68 10 10<|l 69 68<|bR 70 2 14<|(.op (y 71) (.mq 39 [(.int .i64 0),(.slice none 0 0)] 1 [(0,2,(t 70))]) .no<|f 73 3 10<|l 74 73<|m 75 13<|(.op (y 76) (.mq 3 [(.int .i64 0)] 1 [(0,1,(t 75))]) .no<|(.op (y 72) (.a (.append 39 2 (t 69) (t 71))) (.hH [(69,73)])<|o 77 (.append 3 1 (t 74) (t 76))<|f 78 10 10<|bS 1 78 72<|f 79 3 10<|bS 1 79 77<|z)))))))<|
 (R<|b 80 .add (t 60) (i 1)<|m 60 80<|z)))))))<|
 (S (R<|bR 81 13 10<|bS 13 6 81<|b_ 7 0<|z)<|
 .ret))))))),[.cell 6 V 13,.tmp 7],[(.agg fp),.aj]⟩
theorem Z0:cc 17 CD:=cf Tryz.func17 rfl
def CE(b:aT)(c:Nat)(e g h:U)(i:Z)(j:bg):(bg)->bg:=λc k l=>u (ar .lss (aK k 0) g) λg=>aD (λ_ g=>aD (λ_ b=>u (ar .add (aK k 0) (J E 1)) λe=>c [e] (trim i [e] b)) λc=>u (b 55 [(J E 64),e] g) λb=>u (ek b.1 0) λe=>u (ek b.1 1) λ_=>bK (.ptr b.2.length 0) (b.2++[.box [J E 0,.a7] 39 .rw]) λb g=>u (bf 2 b e g) λe=>u (aq 10 h) λg=>u (ab M 1 g e) λg=>u (ab V 2 b e) λb=>u (cV (h_ [J E 0,.a7] 1) [(0,2,b)]) λb=>hb (b.all fR) (bK (.bE 2 (h9 2 1 b)) (e) λb e=>u (aq 3 h) λi=>u (ab M 1 i e) λj=>u (cV (h_ [J E 0] 1) [(0,1,(aK k 0))]) λk=>hb (k.all fR) (bK (.bE 1 (h9 1 1 k)) (e) λe k=>hb (jy g i k&&V) (u (eC 39 2 g b k) λb=>u (eC 3 1 j e b.2) λe=>u (aq 10 h) λg=>u (bf 1 g b.1 e.2) λb=>u (aq 3 h) λg=>u (bf 1 g e.1 b) λb=>c [] b)))) λb=>bb g (b [] l) (j [] l)
def zq(b:aT)(c:Nat)(e g h:U)(i:Z)(j:bg):(bg)->bg:=λb c k=>u (ar .lss (aK c 0) g) λg=>aD (λ_ g=>aD (λ_ e=>u (ar .add (aK c 0) (J E 1)) λc=>b [c] (trim i [c] e)) λb=>u (ar .eql e (J E 1)) λe=>aD (λc e=>u (aq 9 h) λg=>u (ab M 1 g e) λg=>u (cV (h_ [J E 0] 1) [(0,1,(aK c 0))]) λc=>hb (c.all fR) (bK (.bE 1 (h9 1 1 c)) (e) λc e=>u (eC 3 1 g c e) λc=>u (aq 9 h) λe=>u (bf 1 e c.1 c.2) λc=>b [] c)) λb=>bb e (u (cV [J E 0,J E 0,J E 0,J E 0] [(0,1,(J E 0)),(1,1,(J E 256)),(2,1,(J E 256)),(3,1,(J E 0))]) λe=>u (rT 4 M 1 (U.agg e) (aK c 0)) λc=>b [c] g) (b [(J E 128)] g)) λb=>bb g (b [] k) (j [] k)
def ON(b:aT)(c:Nat)(e g h:U)(i:Z):bl:=bK (.ptr i.length 0) (i++[.box [.str ⟨#[]⟩,J E 0,J E 0,.a7,J E 0,J E 0,J E 0,J E 0,.bool M,.a7,.a7,.a7,.a7] 27 .rw]) λj k=>u (b 53 [e] k) λk=>u (ek k.1 0) λl=>u (ek k.1 1) λm=>bK (.ptr k.2.length 0) (k.2++[.box e8 83 .rw]) λk n=>u (bf 29 k l n) λl=>aD (λ_ l=>u (aq 8 k) λk=>u (ab M 1 k l) λk=>u (cV [.str ⟨#[]⟩,J E 0,J E 0,.a7,J E 0,J E 0,J E 0,J E 0,.bool M,.a7,.a7,.a7,.a7] [(1,1,e),(2,1,g),(5,1,(J E 6)),(6,1,(J E 125)),(7,1,(J E 128)),(8,1,k)]) λk=>bK (.ptr l.length 0) (l++[.box [.str ⟨#[]⟩,J E 0,J E 0,.a7,J E 0,J E 0,J E 0,J E 0,.bool M,.a7,.a7,.a7,.a7] 27 .rw]) λl m=>u (bf 13 l (U.agg k) m) λk=>aD (λ_ e=>aD (λ_ b=>u (ab V 13 l b) λc=>u (bf 13 j c b) λb=>u (ab V 13 j b) λc=>aN [(.agg fp),.aj] i b [c,(J E 0)]) λi=>cv (CE b c g h l e i) c [(J E 0)] e) λh=>cv (zq b c e g l k h) c [(J E 0)] k) λc=>u (ar .neq m (J E 0)) λe=>aD (λ_ b=>c [] b) λc=>bb e (u (cV [.str ⟨#[]⟩,J E 0,J E 0,.a7,J E 0,J E 0,J E 0,J E 0,.bool M,.a7,.a7,.a7,.a7] []) λb=>u (bf 13 j (U.agg b) l) λb=>u (ab V 13 j b) λc=>aN [(.agg fp),.aj] i b [c,m]) (u (aq 1 k) λe=>u (ab M 1 e l) λe=>u (b 54 [g,(J E 1),e] l) λe=>u (dq .not e.1) λg=>bc (λb e=>aD (λ_ b=>c [] b) λc=>bb b (u (cV [.str ⟨#[]⟩,J E 0,J E 0,.a7,J E 0,J E 0,J E 0,J E 0,.bool M,.a7,.a7,.a7,.a7] []) λb=>u (bf 13 j (U.agg b) e) λb=>u (ab V 13 j b) λc=>aN [(.agg fp),.aj] i b [c,(J E 5)]) (c [] e)) λc=>bd g M (u (b 54 [h,(J E 1),(J E 32)] e.2) λb=>u (dq .not b.1) λe=>c e b.2) (c (.bool V) e.2))
open Go.aM.G in
def CF:b2:=⟨1,50,(S (R<|dr 1 27 0<|o 2 (.move (.const (.string ⟨#[]⟩)))<|b_ 3 0<|b_ 4 0<|z)<|
 (S (R<|f 13 1 1<|l 14 13<|dK 15 53 14<|m 12 15<|eV 16 12 0<|eV 17 12 1<|o 5 (.new 83 ji)<|bS 29 5 16<|m 6 17<|z)<|
 (S (R<|bR 18 13 1<|bR 19 29 5<|o 20 (.build OB [(0,13,(t 18)),(13,29,(t 19))])<|o 7 (.new 104 OB)<|bS 42 7 20<|z)<|
 (S (S (R<|bR 21 42 7<|o 22 (.ko 68 [(t 21)] [])<|bR 23 42 7<|o 24 (.ko 69 [(t 23)] [])<|bR 25 42 7<|o 26 (.ko 70 [(t 25)] [])<|bR 27 42 7<|o 28 (.ko 71 [(t 27)] [])<|bR 29 42 7<|o 30 (.ko 72 [(t 29)] [])<|o 31 (.buildSlice 105 [.nilFunc] 5 [(0,1,(t 22)),(1,1,(t 24)),(2,1,(t 26)),(3,1,(t 28)),(4,1,(t 30))])<|bW 32 31<|b_ 33 0<|z)<|
 (.block 0 [] ([2,3,4,9,10,11]++g 33 17)
 (.loop [33] ([2,3,4,9,10,11]++g 34 16)
 (S (R<|b 34 .lss (t 33) (t 32)<|z)<|
 (S (.cond (t 34) [] []
 .skip
 (.exit 0))<|
 (S (.block 1 [] ([2,3,4,9,10,11]++g 35 14)
 (S (R<|cz 35 1 31 33<|l 36 35<|m 9 36<|z)<|
 (S (R<|m 38 9<|o 39 (.im (t 38) [])<|m 37 39<|eV 40 37 0<|eV 41 37 1<|o 10 (.new 108 eY)<|bS 3 10 40<|m 11 41<|z)<|
 (S (R<|m 42 11<|z)<|
 (.cond (t 42) [] ([2,3,4]++g 43 6)
 (S (D<|f 43 0 10<|l 44 43<|f 45 1 10<|l 46 45<|f 47 2 10<|l 48 47<|m 2 44<|m 3 46<|m 4 48<|z)<|
 .ret)
 .skip)))))<|
 (R<|b 49 .add (t 33) (i 1)<|m 33 49<|z)))))))<|
 (S (R<|o 2 (.move (.const (.string ⟨#[]⟩)))<|o 3 (.move (i (-1)))<|b_ 4 0<|z)<|
 .ret))))),[.tmp 2,.tmp 3,.tmp 4],[.aj,.aj,.aj]⟩
theorem Z1:cc 24 CF:=cf Tryz.func24 rfl
def CG(b:aT)(c:Nat)(e:Z)(g:U)(h:Z)(i:U)(j:bg):(bg)->bg:=λc k l=>u (ar .lss (aK k 0) i) λi=>aD (λ_ i=>aD (λ_ b=>u (ar .add (aK k 0) (J E 1)) λe=>c [e] (trim h [e] b)) λc=>u (bY 1 g (aK k 0)) λg=>u (ab M 1 g i) λg=>u (gz b g [] i) λb=>u (ek b.1 0) λg=>u (ek b.1 1) λh=>bK (.ptr b.2.length 0) (b.2++[.box [.str ⟨#[]⟩,J E 0,J E 0] 108 .rw]) λb i=>u (bf 3 b g i) λg=>aD (λ_ b=>c [] b) λc=>bb h (u (aq 0 b) λc=>u (ab M 1 c g) λc=>u (aq 1 b) λh=>u (ab M 1 h g) λh=>u (aq 2 b) λb=>u (ab M 1 b g) λb=>aN [.aj,.aj,.aj] e g [c,h,b]) (c [] g)) λb=>bb i (b [] l) (j [] l)
def OO(b:aT)(c:Nat)(e:U)(g:Z):bl:=bK (.ptr g.length 0) (g++[.box (cn e) 27 .rw]) λe h=>u (aq 1 e) λi=>u (ab M 1 i h) λi=>u (b 53 [i] h) λh=>u (ek h.1 0) λi=>u (ek h.1 1) λ_=>bK (.ptr h.2.length 0) (h.2++[.box e8 83 .rw]) λh j=>u (bf 29 h i j) λi=>u (ab V 13 e i) λe=>u (ab V 29 h i) λh=>u (cV Cf [(0,13,e),(13,29,h)]) λe=>bK (.ptr i.length 0) (i++[.box Cf 104 .rw]) λh i=>u (bf 42 h (U.agg e) i) λe=>u (ab V 42 h e) λi=>u (ab V 42 h e) λj=>u (ab V 42 h e) λk=>u (ab V 42 h e) λl=>u (ab V 42 h e) λh=>u (cV (h_ [.mT] 5) [(0,1,(U.func 68 [i] [])),(1,1,(U.func 69 [j] [])),(2,1,(U.func 70 [k] [])),(3,1,(U.func 71 [l] [])),(4,1,(U.func 72 [h] []))]) λh=>bK (.ref e.length 0 5 5 1) (e++[.log (h9 1 5 h) 1 105 .rw]) λe h=>u (bB M e) λi=>aD (λ_ b=>aN [.aj,.aj,.aj] g b [(.str ⟨#[]⟩:U),(J E (-1)),(J E 0)]) λj=>cv (CG b c g e h i j) c [(J E 0)] h
open Go.aM.G in
def zr:b2:=⟨1,20,(S (R<|dr 1 27 0<|o 2 (.new 61 OA)<|z)<|
 (S (R<|f 3 0 1<|l 4 3<|f 5 1 1<|l 6 5<|f 7 2 1<|l 8 7<|f 9 4 1<|l 10 9<|f 11 5 1<|l 12 11<|f 13 6 1<|l 14 13<|f 15 7 1<|l 16 15<|f 17 8 1<|l 18 17<|o 19 (.build OA [(0,1,(t 4)),(1,1,(t 6)),(2,1,(t 8)),(3,1,(t 10)),(4,1,(t 12)),(5,1,(t 14)),(6,1,(t 16)),(7,1,(t 18))])<|bS 8 2 19<|z)<|
 .ret)),[.cell 2 V 8],[.aj]⟩
theorem Z2:cc 25 zr:=cf Tryz.func25 rfl
def Jq(b:aT)(c:Nat)(e:U)(g:Z):bl:=bK (.ptr g.length 0) (g++[.box (cn e) 27 .rw]) λb c=>bK (.ptr c.length 0) (c++[.box [.str ⟨#[]⟩,J E 0,J E 0,J E 0,J E 0,J E 0,J E 0,.bool M] 61 .rw]) λc e=>u (aq 0 b) λh=>u (ab M 1 h e) λh=>u (aq 1 b) λi=>u (ab M 1 i e) λi=>u (aq 2 b) λj=>u (ab M 1 j e) λj=>u (aq 4 b) λk=>u (ab M 1 k e) λk=>u (aq 5 b) λl=>u (ab M 1 l e) λl=>u (aq 6 b) λm=>u (ab M 1 m e) λm=>u (aq 7 b) λn=>u (ab M 1 n e) λn=>u (aq 8 b) λb=>u (ab M 1 b e) λb=>u (cV [.str ⟨#[]⟩,J E 0,J E 0,J E 0,J E 0,J E 0,J E 0,.bool M] [(0,1,h),(1,1,i),(2,1,j),(3,1,k),(4,1,l),(5,1,m),(6,1,n),(7,1,b)]) λb=>u (bf 8 c (U.agg b) e) λb=>u (ab V 8 c b) λc=>aN [.aj] g b [c]
theorem Z3(Γ:aT)(n:Nat)(al:U)(h:Z):b7 Γ n zr [al] h=Jq Γ n al h:=by
 unfold b7 zr Jq
 simp only[Go.aM.G.S,Go.aM.G.R,Go.aM.G.o,Go.aM.G.f,Go.aM.G.l,Go.aM.G.n,Go.aM.G.z,Go.aM.G.t,Go.aM.G.bR,Go.aM.G.bS,Go.aM.G.bW,Go.aM.G.b_,Go.aM.G.cw,Go.aM.G.gC,Go.aM.G.cz,Go.aM.G.dr,Go.aM.G.dK,Go.aM.G.eF,Go.aM.G.dE,Go.aM.G.eV,Go.aM.G.gp,jz,iS,gT,ee,wu,sV,Zu,Zv,Nat.reduceBEq,q3]
 kernel_rfl
open Go.aM.G in
def CH:b2:=⟨2,26,(S (R<|cw 4<|z)<|
 (S (S (R<|m 6 0<|bW 7 6<|m 8 1<|bW 9 8<|b 10 .neq (t 7) (t 9)<|z)<|
 (.cond (t 10) [] [4]
 (S (R<|cw 4<|z)<|
 .ret)
 .skip))<|
 (S (S (R<|m 11 0<|bW 12 11<|b_ 13 0<|z)<|
 (.block 0 [] ([4,5]++g 13 13)
 (.loop [13] ([4,5]++g 14 12)
 (S (R<|b 14 .lss (t 13) (t 12)<|z)<|
 (S (.cond (t 14) [] []
 .skip
 (.exit 0))<|
 (S (.block 1 [] ([4,5]++g 15 10)
 (S (R<|m 15 13<|m 5 15<|z)<|
 (S (D<|m 16 0<|m 17 5<|cz 18 1 16 17<|l 19 18<|m 20 1<|m 21 5<|cz 22 1 20 21<|l 23 22<|b 24 .neq (t 19) (t 23)<|z)<|
 (.cond (t 24) [] [4]
 (S (R<|cw 4<|z)<|
 .ret)
 .skip))))<|
 (R<|b 25 .add (t 13) (i 1)<|m 13 25<|z)))))))<|
 (S (R<|gC 4<|z)<|
 .ret)))),[.tmp 4],[.aj]⟩
theorem Z4:cc 26 CH:=cf Tryz.func26 rfl
def CI(b:aT)(c:Nat)(e g:U)(h i:Z)(j:U)(k:bg):(bg)->bg:=λb c l=>u (ar .lss (aK c 0) j) λj=>aD (λ_ j=>aD (λ_ e=>u (ar .add (aK c 0) (J E 1)) λc=>b [c] (trim i [c] e)) λb=>u (bY 1 e (aK c 0)) λe=>u (ab M 1 e j) λe=>u (bY 1 g (aK c 0)) λc=>u (ab M 1 c j) λc=>u (ar .neq e c) λc=>aD (λ_ c=>b [] c) λb=>bb c (aN [.aj] h j [(.bool M)]) (b [] j)) λb=>bb j (b [] l) (k [] l)
def OP(b:aT)(c:Nat)(e g:U)(h:Z):bl:=u (bB M e) λi=>u (bB M g) λj=>u (ar .neq i j) λi=>aD (λ_ i=>u (bB M e) λj=>aD (λ_ b=>aN [.aj] h b [(.bool V)]) λk=>cv (CI b c e g h i j k) c [(J E 0)] i) λb=>bb i (aN [.aj] h h [(.bool M)]) (b [] h)
open Go.aM.G in
def CJ:b2:=⟨3,32,(S (R<|cw 6<|z)<|
 (S (S (R<|m 10 0<|bW 11 10<|m 12 1<|bW 13 12<|b 14 .neq (t 11) (t 13)<|z)<|
 (.cond (t 14) [] [6]
 (S (R<|cw 6<|z)<|
 .ret)
 .skip))<|
 (S (S (R<|m 15 0<|bW 16 15<|b_ 17 0<|z)<|
 (.block 0 [] (g 6 4++g 17 15)
 (.loop [17] (g 6 4++g 18 14)
 (S (R<|b 18 .lss (t 17) (t 16)<|z)<|
 (S (.cond (t 18) [] []
 .skip
 (.exit 0))<|
 (S (.block 1 [] (g 6 4++g 19 12)
 (S (R<|m 19 17<|cz 20 2 15 17<|bR 21 2 20<|o 8 (.new 39 [(.int .i64 0),(.slice none 0 0)])<|m 7 19<|bS 2 8 21<|z)<|
 (S (R<|m 22 1<|m 23 7<|cz 24 2 22 23<|bR 25 2 24<|o 9 (.new 39 [(.int .i64 0),(.slice none 0 0)])<|bS 2 9 25<|z)<|
 (S (R<|m 26 2<|bR 27 2 8<|bR 28 2 9<|o 29 (.im (t 26) [(t 27),(t 28)])<|dE 30 29<|z)<|
 (.cond (t 30) [] [6]
 (S (R<|cw 6<|z)<|
 .ret)
 .skip)))))<|
 (R<|b 31 .add (t 17) (i 1)<|m 17 31<|z)))))))<|
 (S (R<|gC 6<|z)<|
 .ret)))),[.tmp 6],[.aj]⟩
theorem Z5:cc 27 CJ:=cf Tryz.func27 rfl
def CK(b:aT)(c:Nat)(e g h:U)(i j:Z)(k:U)(l:bg):(bg)->bg:=λc m n=>u (ar .lss (aK m 0) k) λk=>aD (λ_ k=>aD (λ_ b=>u (ar .add (aK m 0) (J E 1)) λe=>c [e] (trim j [e] b)) λc=>u (bY 2 e (aK m 0)) λe=>u (ab V 2 e k) λe=>bK (.ptr k.length 0) (k++[.box [J E 0,.a7] 39 .rw]) λj k=>u (bf 2 j e k) λe=>u (bY 2 g (aK m 0)) λg=>u (ab V 2 g e) λg=>bK (.ptr e.length 0) (e++[.box [J E 0,.a7] 39 .rw]) λe k=>u (bf 2 e g k) λg=>u (ab V 2 j g) λj=>u (ab V 2 e g) λe=>u (gz b h [j,e] g) λb=>u (dq .not b.1) λe=>aD (λ_ b=>c [] b) λc=>bb e (aN [.aj] i b.2 [(.bool M)]) (c [] b.2)) λb=>bb k (b [] n) (l [] n)
def OQ(b:aT)(c:Nat)(e g h:U)(i:Z):bl:=u (bB M e) λj=>u (bB M g) λk=>u (ar .neq j k) λj=>aD (λ_ j=>u (bB M e) λk=>aD (λ_ b=>aN [.aj] i b [(.bool V)]) λl=>cv (CK b c e g h i j k l) c [(J E 0)] j) λb=>bb j (aN [.aj] i i [(.bool M)]) (b [] i)
open Go.aM.G in
def CL:b2:=⟨2,17,(S (R<|dr 2 39 0<|dr 3 39 1<|cw 4<|z)<|
 (S (R<|f 5 0 2<|l 6 5<|f 7 0 3<|l 8 7<|b 9 .eql (t 6) (t 8)<|m 10 9<|q 16 10 V (g 11 5) (f 11 1 2<|l 12 11<|f 13 1 3<|l 14 13<|eF 15 73 12 14<|z) (t 15)<|
 m 4 16<|z)<|
 .ret)),[.tmp 4],[.aj]⟩
theorem Z6:cc 28 CL:=cf Tryz.func28 rfl
def OR(b:aT)(c:Nat)(e g:U)(h:Z):bl:=bK (.ptr h.length 0) (h++[.box (cn e) 39 .rw]) λc e=>bK (.ptr e.length 0) (e++[.box (cn g) 39 .rw]) λe g=>u (aq 0 c) λi=>u (ab M 1 i g) λi=>u (aq 0 e) λj=>u (ab M 1 j g) λj=>u (ar .eql i j) λi=>bc (λb c=>aN [.aj] h c [b]) λh=>bd i V (u (aq 1 c) λc=>u (ab M 1 c g) λc=>u (aq 1 e) λe=>u (ab M 1 e g) λe=>u (b 73 [c,e] g) λb=>h b.1 b.2) (h (.bool M) g)
open Go.aM.G in
def CM:b2:=⟨3,32,(S (R<|cw 6<|z)<|
 (S (S (R<|m 10 0<|bW 11 10<|m 12 1<|bW 13 12<|b 14 .neq (t 11) (t 13)<|z)<|
 (.cond (t 14) [] [6]
 (S (R<|cw 6<|z)<|
 .ret)
 .skip))<|
 (S (S (R<|m 15 0<|bW 16 15<|b_ 17 0<|z)<|
 (.block 0 [] (g 6 4++g 17 15)
 (.loop [17] (g 6 4++g 18 14)
 (S (R<|b 18 .lss (t 17) (t 16)<|z)<|
 (S (.cond (t 18) [] []
 .skip
 (.exit 0))<|
 (S (.block 1 [] (g 6 4++g 19 12)
 (S (R<|m 19 17<|cz 20 13 15 17<|bR 21 13 20<|o 8 (.new 43 zk)<|m 7 19<|bS 13 8 21<|z)<|
 (S (R<|m 22 1<|m 23 7<|cz 24 13 22 23<|bR 25 13 24<|o 9 (.new 43 zk)<|bS 13 9 25<|z)<|
 (S (R<|m 26 2<|bR 27 13 8<|bR 28 13 9<|o 29 (.im (t 26) [(t 27),(t 28)])<|dE 30 29<|z)<|
 (.cond (t 30) [] [6]
 (S (R<|cw 6<|z)<|
 .ret)
 .skip)))))<|
 (R<|b 31 .add (t 17) (i 1)<|m 17 31<|z)))))))<|
 (S (R<|gC 6<|z)<|
 .ret)))),[.tmp 6],[.aj]⟩
theorem Z7:cc 29 CM:=cf Tryz.func29 rfl
def CN(b:aT)(c:Nat)(e g h:U)(i j:Z)(k:U)(l:bg):(bg)->bg:=λc m n=>u (ar .lss (aK m 0) k) λk=>aD (λ_ k=>aD (λ_ b=>u (ar .add (aK m 0) (J E 1)) λe=>c [e] (trim j [e] b)) λc=>u (bY 13 e (aK m 0)) λe=>u (ab V 13 e k) λe=>bK (.ptr k.length 0) (k++[.box [.str ⟨#[]⟩,.a7,J E 0,J E 0,J E 0,J E 0,J E 0,J E 0,J E 0,J E 0,J E 0,J E 0,J E 0] 43 .rw]) λj k=>u (bf 13 j e k) λe=>u (bY 13 g (aK m 0)) λg=>u (ab V 13 g e) λg=>bK (.ptr e.length 0) (e++[.box [.str ⟨#[]⟩,.a7,J E 0,J E 0,J E 0,J E 0,J E 0,J E 0,J E 0,J E 0,J E 0,J E 0,J E 0] 43 .rw]) λe k=>u (bf 13 e g k) λg=>u (ab V 13 j g) λj=>u (ab V 13 e g) λe=>u (gz b h [j,e] g) λb=>u (dq .not b.1) λe=>aD (λ_ b=>c [] b) λc=>bb e (aN [.aj] i b.2 [(.bool M)]) (c [] b.2)) λb=>bb k (b [] n) (l [] n)
def OS(b:aT)(c:Nat)(e g h:U)(i:Z):bl:=u (bB M e) λj=>u (bB M g) λk=>u (ar .neq j k) λj=>aD (λ_ j=>u (bB M e) λk=>aD (λ_ b=>aN [.aj] i b [(.bool V)]) λl=>cv (CN b c e g h i j k l) c [(J E 0)] j) λb=>bb j (aN [.aj] i i [(.bool M)]) (b [] i)
open Go.aM.G in
def CO:b2:=⟨2,96,(S (R<|dr 2 43 0<|dr 3 43 1<|cw 4<|z)<|
 (S (R<|f 6 1 2<|l 7 6<|f 8 1 3<|l 9 8<|eF 10 26 7 9<|m 11 10<|q 17 11 V (g 12 5) (f 12 0 2<|l 13 12<|f 14 0 3<|l 15 14<|b 16 .eql (t 13) (t 15)<|z) (t 16)<|
 m 18 17<|q 24 18 V (g 19 5) (f 19 2 2<|l 20 19<|f 21 2 3<|l 22 21<|b 23 .eql (t 20) (t 22)<|z) (t 23)<|
 m 25 24<|q 31 25 V (g 26 5) (f 26 3 2<|l 27 26<|f 28 3 3<|l 29 28<|b 30 .eql (t 27) (t 29)<|z) (t 30)<|
 m 32 31<|q 38 32 V (g 33 5) (f 33 4 2<|l 34 33<|f 35 4 3<|l 36 35<|b 37 .eql (t 34) (t 36)<|z) (t 37)<|
 m 39 38<|q 45 39 V (g 40 5) (f 40 5 2<|l 41 40<|f 42 5 3<|l 43 42<|b 44 .eql (t 41) (t 43)<|z) (t 44)<|
 m 46 45<|q 52 46 V (g 47 5) (f 47 6 2<|l 48 47<|f 49 6 3<|l 50 49<|b 51 .eql (t 48) (t 50)<|z) (t 51)<|
 m 5 52<|z)<|
 (S (R<|m 53 5<|m 54 53<|q 60 54 V (g 55 5) (f 55 7 2<|l 56 55<|f 57 7 3<|l 58 57<|b 59 .eql (t 56) (t 58)<|z) (t 59)<|
 m 61 60<|q 67 61 V (g 62 5) (f 62 8 2<|l 63 62<|f 64 8 3<|l 65 64<|b 66 .eql (t 63) (t 65)<|z) (t 66)<|
 m 68 67<|q 74 68 V (g 69 5) (f 69 9 2<|l 70 69<|f 71 9 3<|l 72 71<|b 73 .eql (t 70) (t 72)<|z) (t 73)<|
 m 75 74<|q 81 75 V (g 76 5) (f 76 10 2<|l 77 76<|f 78 10 3<|l 79 78<|b 80 .eql (t 77) (t 79)<|z) (t 80)<|
 m 82 81<|q 88 82 V (g 83 5) (f 83 11 2<|l 84 83<|f 85 11 3<|l 86 85<|b 87 .eql (t 84) (t 86)<|z) (t 87)<|
 m 89 88<|q 95 89 V (g 90 5) (f 90 12 2<|l 91 90<|f 92 12 3<|l 93 92<|b 94 .eql (t 91) (t 93)<|z) (t 94)<|
 m 4 95<|z)<|
 .ret))),[.tmp 4],[.aj]⟩
theorem Z8:cc 30 CO:=cf Tryz.func30 rfl
def OT(b:aT)(c:Nat)(e g:U)(h:Z):bl:=bK (.ptr h.length 0) (h++[.box (cn e) 43 .rw]) λc e=>bK (.ptr e.length 0) (e++[.box (cn g) 43 .rw]) λe g=>u (aq 1 c) λi=>u (ab M 1 i g) λi=>u (aq 1 e) λj=>u (ab M 1 j g) λj=>u (b 26 [i,j] g) λb=>bc (λb g=>bc (λb g=>bc (λb g=>bc (λb g=>bc (λb g=>bc (λb g=>bc (λb g=>bc (λb g=>bc (λb g=>bc (λb g=>bc (λb g=>bc (λb c=>aN [.aj] h c [b]) λh=>bd b V (u (aq 12 c) λb=>u (ab M 1 b g) λb=>u (aq 12 e) λc=>u (ab M 1 c g) λc=>u (ar .eql b c) λb=>h b g) (h (.bool M) g)) λh=>bd b V (u (aq 11 c) λb=>u (ab M 1 b g) λb=>u (aq 11 e) λc=>u (ab M 1 c g) λc=>u (ar .eql b c) λb=>h b g) (h (.bool M) g)) λh=>bd b V (u (aq 10 c) λb=>u (ab M 1 b g) λb=>u (aq 10 e) λc=>u (ab M 1 c g) λc=>u (ar .eql b c) λb=>h b g) (h (.bool M) g)) λh=>bd b V (u (aq 9 c) λb=>u (ab M 1 b g) λb=>u (aq 9 e) λc=>u (ab M 1 c g) λc=>u (ar .eql b c) λb=>h b g) (h (.bool M) g)) λh=>bd b V (u (aq 8 c) λb=>u (ab M 1 b g) λb=>u (aq 8 e) λc=>u (ab M 1 c g) λc=>u (ar .eql b c) λb=>h b g) (h (.bool M) g)) λh=>bd b V (u (aq 7 c) λb=>u (ab M 1 b g) λb=>u (aq 7 e) λc=>u (ab M 1 c g) λc=>u (ar .eql b c) λb=>h b g) (h (.bool M) g)) λh=>bd b V (u (aq 6 c) λb=>u (ab M 1 b g) λb=>u (aq 6 e) λc=>u (ab M 1 c g) λc=>u (ar .eql b c) λb=>h b g) (h (.bool M) g)) λh=>bd b V (u (aq 5 c) λb=>u (ab M 1 b g) λb=>u (aq 5 e) λc=>u (ab M 1 c g) λc=>u (ar .eql b c) λb=>h b g) (h (.bool M) g)) λh=>bd b V (u (aq 4 c) λb=>u (ab M 1 b g) λb=>u (aq 4 e) λc=>u (ab M 1 c g) λc=>u (ar .eql b c) λb=>h b g) (h (.bool M) g)) λh=>bd b V (u (aq 3 c) λb=>u (ab M 1 b g) λb=>u (aq 3 e) λc=>u (ab M 1 c g) λc=>u (ar .eql b c) λb=>h b g) (h (.bool M) g)) λh=>bd b V (u (aq 2 c) λb=>u (ab M 1 b g) λb=>u (aq 2 e) λc=>u (ab M 1 c g) λc=>u (ar .eql b c) λb=>h b g) (h (.bool M) g)) λg=>bd b.1 V (u (aq 0 c) λc=>u (ab M 1 c b.2) λc=>u (aq 0 e) λe=>u (ab M 1 e b.2) λe=>u (ar .eql c e) λc=>g c b.2) (g (.bool M) b.2)
open Go.aM.G in
def CP:b2:=⟨3,32,(S (R<|cw 6<|z)<|
 (S (S (R<|m 10 0<|bW 11 10<|m 12 1<|bW 13 12<|b 14 .neq (t 11) (t 13)<|z)<|
 (.cond (t 14) [] [6]
 (S (R<|cw 6<|z)<|
 .ret)
 .skip))<|
 (S (S (R<|m 15 0<|bW 16 15<|b_ 17 0<|z)<|
 (.block 0 [] (g 6 4++g 17 15)
 (.loop [17] (g 6 4++g 18 14)
 (S (R<|b 18 .lss (t 17) (t 16)<|z)<|
 (S (.cond (t 18) [] []
 .skip
 (.exit 0))<|
 (S (.block 1 [] (g 6 4++g 19 12)
 (S (R<|m 19 17<|cz 20 33 15 17<|bR 21 33 20<|o 8 (.new 57 r5)<|m 7 19<|bS 33 8 21<|z)<|
 (S (R<|m 22 1<|m 23 7<|cz 24 33 22 23<|bR 25 33 24<|o 9 (.new 57 r5)<|bS 33 9 25<|z)<|
 (S (R<|m 26 2<|bR 27 33 8<|bR 28 33 9<|o 29 (.im (t 26) [(t 27),(t 28)])<|dE 30 29<|z)<|
 (.cond (t 30) [] [6]
 (S (R<|cw 6<|z)<|
 .ret)
 .skip)))))<|
 (R<|b 31 .add (t 17) (i 1)<|m 17 31<|z)))))))<|
 (S (R<|gC 6<|z)<|
 .ret)))),[.tmp 6],[.aj]⟩
theorem Z9:cc 31 CP:=cf Tryz.func31 rfl
def CQ(b:aT)(c:Nat)(e g h:U)(i j:Z)(k:U)(l:bg):(bg)->bg:=λc m n=>u (ar .lss (aK m 0) k) λk=>aD (λ_ k=>aD (λ_ b=>u (ar .add (aK m 0) (J E 1)) λe=>c [e] (trim j [e] b)) λc=>u (bY 33 e (aK m 0)) λe=>u (ab V 33 e k) λe=>bK (.ptr k.length 0) (k++[.box iu 57 .rw]) λj k=>u (bf 33 j e k) λe=>u (bY 33 g (aK m 0)) λg=>u (ab V 33 g e) λg=>bK (.ptr e.length 0) (e++[.box iu 57 .rw]) λe k=>u (bf 33 e g k) λg=>u (ab V 33 j g) λj=>u (ab V 33 e g) λe=>u (gz b h [j,e] g) λb=>u (dq .not b.1) λe=>aD (λ_ b=>c [] b) λc=>bb e (aN [.aj] i b.2 [(.bool M)]) (c [] b.2)) λb=>bb k (b [] n) (l [] n)
def OU(b:aT)(c:Nat)(e g h:U)(i:Z):bl:=u (bB M e) λj=>u (bB M g) λk=>u (ar .neq j k) λj=>aD (λ_ j=>u (bB M e) λk=>aD (λ_ b=>aN [.aj] i b [(.bool V)]) λl=>cv (CQ b c e g h i j k l) c [(J E 0)] j) λb=>bb j (aN [.aj] i i [(.bool M)]) (b [] i)
open Go.aM.G in
def CR:b2:=⟨2,89,(S (R<|dr 2 57 0<|dr 3 57 1<|cw 4<|z)<|
 (S (R<|f 6 1 2<|l 7 6<|f 8 1 3<|l 9 8<|eF 10 74 7 9<|m 11 10<|q 17 11 V (g 12 5) (f 12 0 2<|l 13 12<|f 14 0 3<|l 15 14<|b 16 .eql (t 13) (t 15)<|z) (t 16)<|
 m 18 17<|q 24 18 V (g 19 5) (f 19 26 2<|l 20 19<|f 21 26 3<|l 22 21<|b 23 .eql (t 20) (t 22)<|z) (t 23)<|
 m 25 24<|q 31 25 V (g 26 5) (f 26 27 2<|l 27 26<|f 28 27 3<|l 29 28<|b 30 .eql (t 27) (t 29)<|z) (t 30)<|
 m 32 31<|q 38 32 V (g 33 5) (f 33 28 2<|l 34 33<|f 35 28 3<|l 36 35<|b 37 .eql (t 34) (t 36)<|z) (t 37)<|
 m 39 38<|q 45 39 V (g 40 5) (f 40 29 2<|l 41 40<|f 42 29 3<|l 43 42<|b 44 .eql (t 41) (t 43)<|z) (t 44)<|
 m 46 45<|q 52 46 V (g 47 5) (f 47 30 2<|l 48 47<|f 49 30 3<|l 50 49<|b 51 .eql (t 48) (t 50)<|z) (t 51)<|
 m 53 52<|q 59 53 V (g 54 5) (f 54 31 2<|l 55 54<|f 56 31 3<|l 57 56<|b 58 .eql (t 55) (t 57)<|z) (t 58)<|
 m 60 59<|q 66 60 V (g 61 5) (f 61 32 2<|l 62 61<|f 63 32 3<|l 64 63<|b 65 .eql (t 62) (t 64)<|z) (t 65)<|
 m 5 66<|z)<|
 (S (R<|m 67 5<|m 68 67<|q 74 68 V (g 69 5) (f 69 2 2<|bR 70 8 69<|f 71 2 3<|bR 72 8 71<|eF 73 75 70 72<|z) (t 73)<|
 m 75 74<|q 81 75 V (g 76 5) (f 76 10 2<|bR 77 8 76<|f 78 10 3<|bR 79 8 78<|eF 80 75 77 79<|z) (t 80)<|
 m 82 81<|q 88 82 V (g 83 5) (f 83 18 2<|bR 84 8 83<|f 85 18 3<|bR 86 8 85<|eF 87 75 84 86<|z) (t 87)<|
 m 4 88<|z)<|
 .ret))),[.tmp 4],[.aj]⟩
theorem Z_:cc 32 CR:=cf Tryz.func32 rfl
def OV(b:aT)(c:Nat)(e g:U)(h:Z):bl:=bK (.ptr h.length 0) (h++[.box (cn e) 57 .rw]) λc e=>bK (.ptr e.length 0) (e++[.box (cn g) 57 .rw]) λe g=>u (aq 1 c) λi=>u (ab M 1 i g) λi=>u (aq 1 e) λj=>u (ab M 1 j g) λj=>u (b 74 [i,j] g) λg=>bc (λg i=>bc (λg i=>bc (λg i=>bc (λg i=>bc (λg i=>bc (λg i=>bc (λg i=>bc (λg i=>bc (λg i=>bc (λg i=>bc (λb c=>aN [.aj] h c [b]) λh=>bd g V (u (aq 18 c) λc=>u (ab V 8 c i) λc=>u (aq 18 e) λe=>u (ab V 8 e i) λe=>u (b 75 [c,e] i) λb=>h b.1 b.2) (h (.bool M) i)) λh=>bd g V (u (aq 10 c) λc=>u (ab V 8 c i) λc=>u (aq 10 e) λe=>u (ab V 8 e i) λe=>u (b 75 [c,e] i) λb=>h b.1 b.2) (h (.bool M) i)) λh=>bd g V (u (aq 2 c) λc=>u (ab V 8 c i) λc=>u (aq 2 e) λe=>u (ab V 8 e i) λe=>u (b 75 [c,e] i) λb=>h b.1 b.2) (h (.bool M) i)) λb=>bd g V (u (aq 32 c) λc=>u (ab M 1 c i) λc=>u (aq 32 e) λe=>u (ab M 1 e i) λe=>u (ar .eql c e) λc=>b c i) (b (.bool M) i)) λb=>bd g V (u (aq 31 c) λc=>u (ab M 1 c i) λc=>u (aq 31 e) λe=>u (ab M 1 e i) λe=>u (ar .eql c e) λc=>b c i) (b (.bool M) i)) λb=>bd g V (u (aq 30 c) λc=>u (ab M 1 c i) λc=>u (aq 30 e) λe=>u (ab M 1 e i) λe=>u (ar .eql c e) λc=>b c i) (b (.bool M) i)) λb=>bd g V (u (aq 29 c) λc=>u (ab M 1 c i) λc=>u (aq 29 e) λe=>u (ab M 1 e i) λe=>u (ar .eql c e) λc=>b c i) (b (.bool M) i)) λb=>bd g V (u (aq 28 c) λc=>u (ab M 1 c i) λc=>u (aq 28 e) λe=>u (ab M 1 e i) λe=>u (ar .eql c e) λc=>b c i) (b (.bool M) i)) λb=>bd g V (u (aq 27 c) λc=>u (ab M 1 c i) λc=>u (aq 27 e) λe=>u (ab M 1 e i) λe=>u (ar .eql c e) λc=>b c i) (b (.bool M) i)) λb=>bd g V (u (aq 26 c) λc=>u (ab M 1 c i) λc=>u (aq 26 e) λe=>u (ab M 1 e i) λe=>u (ar .eql c e) λc=>b c i) (b (.bool M) i)) λb=>bd g.1 V (u (aq 0 c) λc=>u (ab M 1 c g.2) λc=>u (aq 0 e) λe=>u (ab M 1 e g.2) λe=>u (ar .eql c e) λc=>b c g.2) (b (.bool M) g.2)
open Go.aM.G in
def CS:b2:=⟨2,26,(S (R<|cw 4<|z)<|
 (S (S (R<|m 6 0<|bW 7 6<|m 8 1<|bW 9 8<|b 10 .neq (t 7) (t 9)<|z)<|
 (.cond (t 10) [] [4]
 (S (R<|cw 4<|z)<|
 .ret)
 .skip))<|
 (S (S (R<|m 11 0<|bW 12 11<|b_ 13 0<|z)<|
 (.block 0 [] ([4,5]++g 13 13)
 (.loop [13] ([4,5]++g 14 12)
 (S (R<|b 14 .lss (t 13) (t 12)<|z)<|
 (S (.cond (t 14) [] []
 .skip
 (.exit 0))<|
 (S (.block 1 [] ([4,5]++g 15 10)
 (S (R<|m 15 13<|m 5 15<|z)<|
 (S (D<|m 16 0<|m 17 5<|cz 18 1 16 17<|l 19 18<|m 20 1<|m 21 5<|cz 22 1 20 21<|l 23 22<|b 24 .neq (t 19) (t 23)<|z)<|
 (.cond (t 24) [] [4]
 (S (R<|cw 4<|z)<|
 .ret)
 .skip))))<|
 (R<|b 25 .add (t 13) (i 1)<|m 13 25<|z)))))))<|
 (S (R<|gC 4<|z)<|
 .ret)))),[.tmp 4],[.aj]⟩
theorem Z':cc 33 CS:=cf Tryz.func33 rfl
def CT(b:aT)(c:Nat)(e g:U)(h i:Z)(j:U)(k:bg):(bg)->bg:=λb c l=>u (ar .lss (aK c 0) j) λj=>aD (λ_ j=>aD (λ_ e=>u (ar .add (aK c 0) (J E 1)) λc=>b [c] (trim i [c] e)) λb=>u (bY 1 e (aK c 0)) λe=>u (ab M 1 e j) λe=>u (bY 1 g (aK c 0)) λc=>u (ab M 1 c j) λc=>u (ar .neq e c) λc=>aD (λ_ c=>b [] c) λb=>bb c (aN [.aj] h j [(.bool M)]) (b [] j)) λb=>bb j (b [] l) (k [] l)
def OW(b:aT)(c:Nat)(e g:U)(h:Z):bl:=u (bB M e) λi=>u (bB M g) λj=>u (ar .neq i j) λi=>aD (λ_ i=>u (bB M e) λj=>aD (λ_ b=>aN [.aj] h b [(.bool V)]) λk=>cv (CT b c e g h i j k) c [(J E 0)] i) λb=>bb i (aN [.aj] h h [(.bool M)]) (b [] h)
open Go.aM.G in
def CU:b2:=⟨2,90,(S (R<|dr 2 27 0<|dr 3 27 1<|cw 4<|z)<|
 (S (S (R<|f 8 10 2<|l 9 8<|bW 10 9<|f 11 10 3<|l 12 11<|bW 13 12<|b 14 .neq (t 10) (t 13)<|m 15 14<|q 23 15 M (g 16 7) (f 16 11 2<|l 17 16<|bW 18 17<|f 19 11 3<|l 20 19<|bW 21 20<|b 22 .neq (t 18) (t 21)<|z) (t 22)<|
 m 24 23<|q 32 24 M (g 25 7) (f 25 12 2<|l 26 25<|bW 27 26<|f 28 12 3<|l 29 28<|bW 30 29<|b 31 .neq (t 27) (t 30)<|z) (t 31)<|
 z)<|
 (.cond (t 32) [] [4]
 (S (R<|cw 4<|z)<|
 .ret)
 .skip))<|
 (S (S (R<|f 33 10 2<|l 34 33<|bW 35 34<|b_ 36 0<|z)<|
 (.block 0 [] ([4,5]++g 36 16)
 (.loop [36] ([4,5]++g 37 15)
 (S (R<|b 37 .lss (t 36) (t 35)<|z)<|
 (S (.cond (t 37) [] []
 .skip
 (.exit 0))<|
 (S (.block 1 [] ([4,5]++g 38 13)
 (S (R<|m 38 36<|m 5 38<|z)<|
 (S (D<|f 39 10 2<|l 40 39<|m 41 5<|cz 42 2 40 41<|bR 43 2 42<|f 44 10 3<|l 45 44<|m 46 5<|cz 47 2 45 46<|bR 48 2 47<|eF 49 76 43 48<|dE 50 49<|z)<|
 (.cond (t 50) [] [4]
 (S (R<|cw 4<|z)<|
 .ret)
 .skip))))<|
 (R<|b 51 .add (t 36) (i 1)<|m 36 51<|z)))))))<|
 (S (S (R<|f 52 11 2<|l 53 52<|bW 54 53<|b_ 55 0<|z)<|
 (.block 2 [] ([4,6]++g 55 16)
 (.loop [55] ([4,6]++g 56 15)
 (S (R<|b 56 .lss (t 55) (t 54)<|z)<|
 (S (.cond (t 56) [] []
 .skip
 (.exit 2))<|
 (S (.block 3 [] ([4,6]++g 57 13)
 (S (R<|m 57 55<|m 6 57<|z)<|
 (S (D<|f 58 11 2<|l 59 58<|m 60 6<|cz 61 13 59 60<|bR 62 13 61<|f 63 11 3<|l 64 63<|m 65 6<|cz 66 13 64 65<|bR 67 13 66<|eF 68 77 62 67<|dE 69 68<|z)<|
 (.cond (t 69) [] [4]
 (S (R<|cw 4<|z)<|
 .ret)
 .skip))))<|
 (R<|b 70 .add (t 55) (i 1)<|m 55 70<|z)))))))<|
 (S (S (R<|f 71 12 2<|l 72 71<|bW 73 72<|b_ 74 0<|z)<|
 (.block 4 [] ([4,7]++g 74 16)
 (.loop [74] ([4,7]++g 75 15)
 (S (R<|b 75 .lss (t 74) (t 73)<|z)<|
 (S (.cond (t 75) [] []
 .skip
 (.exit 4))<|
 (S (.block 5 [] ([4,7]++g 76 13)
 (S (R<|m 76 74<|m 7 76<|z)<|
 (S (D<|f 77 12 2<|l 78 77<|m 79 7<|cz 80 33 78 79<|bR 81 33 80<|f 82 12 3<|l 83 82<|m 84 7<|cz 85 33 83 84<|bR 86 33 85<|eF 87 78 81 86<|dE 88 87<|z)<|
 (.cond (t 88) [] [4]
 (S (R<|cw 4<|z)<|
 .ret)
 .skip))))<|
 (R<|b 89 .add (t 74) (i 1)<|m 74 89<|z)))))))<|
 (S (R<|gC 4<|z)<|
 .ret)))))),[.tmp 4],[.aj]⟩
theorem aaa:cc 34 CU:=cf Tryz.func34 rfl
def CV(b:aT)(c:Nat)(e:Z)(g h:U)(i:Z)(j:U)(k:bg):(bg)->bg:=λc l m=>u (ar .lss (aK l 0) j) λj=>aD (λ_ j=>aD (λ_ b=>u (ar .add (aK l 0) (J E 1)) λe=>c [e] (trim i [e] b)) λc=>u (aq 12 g) λg=>u (ab M 1 g j) λg=>u (bY 33 g (aK l 0)) λg=>u (ab V 33 g j) λg=>u (aq 12 h) λh=>u (ab M 1 h j) λh=>u (bY 33 h (aK l 0)) λh=>u (ab V 33 h j) λh=>u (b 78 [g,h] j) λb=>u (dq .not b.1) λg=>aD (λ_ b=>c [] b) λc=>bb g (aN [.aj] e b.2 [(.bool M)]) (c [] b.2)) λb=>bb j (b [] m) (k [] m)
def CW(b:aT)(c:Nat)(e:Z)(g h:U)(i:Z)(j:U)(k:bg):(bg)->bg:=λc l m=>u (ar .lss (aK l 0) j) λj=>aD (λ_ j=>aD (λ_ b=>u (ar .add (aK l 0) (J E 1)) λe=>c [e] (trim i [e] b)) λc=>u (aq 11 g) λg=>u (ab M 1 g j) λg=>u (bY 13 g (aK l 0)) λg=>u (ab V 13 g j) λg=>u (aq 11 h) λh=>u (ab M 1 h j) λh=>u (bY 13 h (aK l 0)) λh=>u (ab V 13 h j) λh=>u (b 77 [g,h] j) λb=>u (dq .not b.1) λg=>aD (λ_ b=>c [] b) λc=>bb g (aN [.aj] e b.2 [(.bool M)]) (c [] b.2)) λb=>bb j (b [] m) (k [] m)
def CX(b:aT)(c:Nat)(e:Z)(g h:U)(i:Z)(j:U)(k:bg):(bg)->bg:=λc l m=>u (ar .lss (aK l 0) j) λj=>aD (λ_ j=>aD (λ_ b=>u (ar .add (aK l 0) (J E 1)) λe=>c [e] (trim i [e] b)) λc=>u (aq 10 g) λg=>u (ab M 1 g j) λg=>u (bY 2 g (aK l 0)) λg=>u (ab V 2 g j) λg=>u (aq 10 h) λh=>u (ab M 1 h j) λh=>u (bY 2 h (aK l 0)) λh=>u (ab V 2 h j) λh=>u (b 76 [g,h] j) λb=>u (dq .not b.1) λg=>aD (λ_ b=>c [] b) λc=>bb g (aN [.aj] e b.2 [(.bool M)]) (c [] b.2)) λb=>bb j (b [] m) (k [] m)
def OX(b:aT)(c:Nat)(e g:U)(h:Z):bl:=bK (.ptr h.length 0) (h++[.box (cn e) 27 .rw]) λe i=>bK (.ptr i.length 0) (i++[.box (cn g) 27 .rw]) λg i=>u (aq 10 e) λj=>u (ab M 1 j i) λj=>u (bB M j) λj=>u (aq 10 g) λk=>u (ab M 1 k i) λk=>u (bB M k) λk=>u (ar .neq j k) λj=>bc (λi j=>bc (λi j=>aD (λ_ i=>u (aq 10 e) λj=>u (ab M 1 j i) λj=>u (bB M j) λj=>aD (λ_ i=>u (aq 11 e) λj=>u (ab M 1 j i) λj=>u (bB M j) λj=>aD (λ_ i=>u (aq 12 e) λj=>u (ab M 1 j i) λj=>u (bB M j) λj=>aD (λ_ b=>aN [.aj] h b [(.bool V)]) λk=>cv (CV b c h e g i j k) c [(J E 0)] i) λk=>cv (CW b c h e g i j k) c [(J E 0)] i) λk=>cv (CX b c h e g i j k) c [(J E 0)] i) λb=>bb i (aN [.aj] h j [(.bool M)]) (b [] j)) λb=>bd i M (u (aq 12 e) λc=>u (ab M 1 c j) λc=>u (bB M c) λc=>u (aq 12 g) λe=>u (ab M 1 e j) λe=>u (bB M e) λe=>u (ar .neq c e) λc=>b c j) (b (.bool V) j)) λb=>bd j M (u (aq 11 e) λc=>u (ab M 1 c i) λc=>u (bB M c) λc=>u (aq 11 g) λe=>u (ab M 1 e i) λe=>u (bB M e) λe=>u (ar .neq c e) λc=>b c i) (b (.bool V) i)
open Go.aM.G in
def CY:b2:=⟨1,6,(S (R<|o 2 (.move (.const (.slice none 0 0)))<|z)<|
 (S (R<|o 3 (.buildSlice 3 [] 0 [])<|m 4 0<|o 5 (.append 3 1 (t 3) (t 4))<|m 2 5<|z)<|
 .ret)),[.tmp 2],[.raw]⟩
theorem aab:cc 35 CY:=cf Tryz.func35 rfl
def OY(b:aT)(c:Nat)(e:U)(g:Z):bl:=u (eC 3 1 U.emp e g) λb=>aN [.raw] g b.2 [b.1]
open Go.aM.G in
def CZ:b2:=⟨1,9,(S (R<|dr 1 55 0<|o 2 (.new 55 ZO)<|z)<|
 (S (R<|o 3 (.buildSlice 120 [] 0 [])<|f 4 1 1<|l 5 4<|o 6 (.append 120 2 (t 3) (t 5))<|f 7 1 1<|bS 1 7 6<|z)<|
 (S (R<|bR 8 8 1<|bS 8 2 8<|z)<|
 .ret))),[.cell 2 V 8],[.aj]⟩
theorem aac:cc 36 CZ:=cf Tryz.func36 rfl
def OZ(b:aT)(c:Nat)(e:U)(g:Z):bl:=bK (.ptr g.length 0) (g++[.box (cn e) 55 .rw]) λb c=>bK (.ptr c.length 0) (c++[.box [.bool M,.a7,.bool M,J E 0,J E 0,.bool M,J E 0,J E 0] 55 .rw]) λc e=>u (aq 1 b) λh=>u (ab M 1 h e) λh=>u (eC 120 2 U.emp h e) λe=>u (aq 1 b) λh=>u (bf 1 h e.1 e.2) λe=>u (ab V 8 b e) λb=>u (bf 8 c b e) λb=>u (ab V 8 c b) λc=>aN [.aj] g b [c]
open Go.aM.G in
def C0:b2:=⟨1,115,(S (R<|dr 1 27 0<|o 2 (.new 27 j6)<|z)<|
 (S (D<|f 7 3 1<|l 8 7<|O 9 (.call 79 [(t 8)])<|f 10 9 1<|l 11 10<|dK 12 79 11<|f 13 3 1<|bS 1 13 9<|f 14 9 1<|bS 1 14 12<|z)<|
 (S (D<|f 15 10 1<|l 16 15<|O 17 (.call 80 [(t 16)])<|f 18 11 1<|l 19 18<|O 20 (.call 81 [(t 19)])<|f 21 12 1<|l 22 21<|dK 23 82 22<|f 24 10 1<|bS 1 24 17<|f 25 11 1<|bS 1 25 20<|f 26 12 1<|bS 1 26 23<|z)<|
 (S (S (R<|f 27 10 1<|l 28 27<|bW 29 28<|b_ 30 0<|z)<|
 (.block 0 [] ([3]++g 30 16)
 (.loop [30] ([3]++g 31 15)
 (S (R<|b 31 .lss (t 30) (t 29)<|z)<|
 (S (.cond (t 31) [] []
 .skip
 (.exit 0))<|
 (S (.block 1 [] ([3]++g 32 13)
 (S (R<|m 32 30<|m 3 32<|z)<|
 (D<|f 33 10 1<|l 34 33<|m 35 3<|f 36 10 1<|l 37 36<|m 38 3<|cz 39 2 37 38<|f 40 1 39<|l 41 40<|O 42 (.call 83 [(t 41)])<|cz 43 2 34 35<|f 44 1 43<|bS 1 44 42<|z)))<|
 (R<|b 45 .add (t 30) (i 1)<|m 30 45<|z)))))))<|
 (S (S (R<|f 46 11 1<|l 47 46<|bW 48 47<|b_ 49 0<|z)<|
 (.block 2 [] ([4]++g 49 16)
 (.loop [49] ([4]++g 50 15)
 (S (R<|b 50 .lss (t 49) (t 48)<|z)<|
 (S (.cond (t 50) [] []
 .skip
 (.exit 2))<|
 (S (.block 3 [] ([4]++g 51 13)
 (S (R<|m 51 49<|m 4 51<|z)<|
 (D<|f 52 11 1<|l 53 52<|m 54 4<|f 55 11 1<|l 56 55<|m 57 4<|cz 58 13 56 57<|f 59 1 58<|l 60 59<|O 61 (.call 79 [(t 60)])<|cz 62 13 53 54<|f 63 1 62<|bS 1 63 61<|z)))<|
 (R<|b 64 .add (t 49) (i 1)<|m 49 64<|z)))))))<|
 (S (S (R<|f 65 12 1<|l 66 65<|bW 67 66<|b_ 68 0<|z)<|
 (.block 4 [] ([5,6]++g 68 46)
 (.loop [68] ([5,6]++g 69 45)
 (S (R<|b 69 .lss (t 68) (t 67)<|z)<|
 (S (.cond (t 69) [] []
 .skip
 (.exit 4))<|
 (S (.block 5 [] ([5,6]++g 70 43)
 (S (R<|m 70 68<|m 5 70<|z)<|
 (S (R<|f 71 12 1<|l 72 71<|m 73 5<|cz 74 33 72 73<|m 6 74<|z)<|
 (S (R<|m 75 6<|m 76 6<|gp 77 76<|f 78 1 77<|l 79 78<|dK 80 84 79<|gp 81 75<|f 82 1 81<|bS 1 82 80<|z)<|
 (D<|m 83 6<|m 84 6<|m 85 6<|m 86 6<|gp 87 86<|f 88 2 87<|f 89 1 88<|l 90 89<|O 91 (.call 85 [(t 90)])<|m 92 6<|gp 93 92<|f 94 10 93<|f 95 1 94<|l 96 95<|O 97 (.call 85 [(t 96)])<|m 98 6<|gp 99 98<|f 100 18 99<|f 101 1 100<|l 102 101<|dK 103 85 102<|gp 104 83<|f 105 2 104<|f 106 1 105<|bS 1 106 91<|gp 107 84<|f 108 10 107<|f 109 1 108<|bS 1 109 97<|gp 110 85<|f 111 18 110<|f 112 1 111<|bS 1 112 103<|z)))))<|
 (R<|b 113 .add (t 68) (i 1)<|m 68 113<|z)))))))<|
 (S (R<|bR 114 13 1<|bS 13 2 114<|z)<|
 .ret))))))),[.cell 2 V 13],[.aj]⟩
theorem aad:cc 37 C0:=cf Tryz.func37 rfl
def C1(b:aT)(c:Nat)(e:U)(g:Z)(h:U)(i:bg):(bg)->bg:=λc j k=>u (ar .lss (aK j 0) h) λh=>aD (λ_ h=>aD (λ_ b=>u (ar .add (aK j 0) (J E 1)) λe=>c [e] (trim g [e] b)) λc=>u (aq 12 e) λe=>u (ab M 1 e h) λe=>u (bY 33 e (aK j 0)) λe=>u (fS e) λg=>u (aq 1 g) λg=>u (ab M 1 g h) λg=>u (b 84 [g] h) λg=>u (fS e) λh=>u (aq 1 h) λh=>u (bf 1 h g.1 g.2) λg=>u (fS e) λh=>u (aq 2 h) λh=>u (aq 1 h) λh=>u (ab M 1 h g) λh=>u (b 85 [h] (lock g)) λh=>d' g h.2 λg=>u (fS e) λi=>u (aq 10 i) λi=>u (aq 1 i) λi=>u (ab M 1 i g) λi=>u (b 85 [i] (lock g)) λi=>d' g i.2 λg=>u (fS e) λj=>u (aq 18 j) λj=>u (aq 1 j) λj=>u (ab M 1 j g) λj=>u (b 85 [j] g) λb=>u (fS e) λg=>u (aq 2 g) λg=>u (aq 1 g) λg=>u (bf 1 g h.1 b.2) λg=>u (fS e) λh=>u (aq 10 h) λh=>u (aq 1 h) λh=>u (bf 1 h i.1 g) λg=>u (fS e) λe=>u (aq 18 e) λe=>u (aq 1 e) λe=>u (bf 1 e b.1 g) λb=>c [] b) λb=>bb h (b [] k) (i [] k)
def C2(b:aT)(c:Nat)(e:U)(g:Z)(h:U)(i:bg):(bg)->bg:=λc j k=>u (ar .lss (aK j 0) h) λh=>aD (λ_ h=>aD (λ_ b=>u (ar .add (aK j 0) (J E 1)) λe=>c [e] (trim g [e] b)) λc=>u (aq 11 e) λg=>u (ab M 1 g h) λg=>u (aq 11 e) λe=>u (ab M 1 e h) λe=>u (bY 13 e (aK j 0)) λe=>u (aq 1 e) λe=>u (ab M 1 e h) λe=>u (b 79 [e] (lock h)) λb=>d' h b.2 λe=>u (bY 13 g (aK j 0)) λg=>u (aq 1 g) λg=>u (bf 1 g b.1 e) λb=>c [] b) λb=>bb h (b [] k) (i [] k)
def C3(b:aT)(c:Nat)(e:U)(g:Z)(h:U)(i:bg):(bg)->bg:=λc j k=>u (ar .lss (aK j 0) h) λh=>aD (λ_ h=>aD (λ_ b=>u (ar .add (aK j 0) (J E 1)) λe=>c [e] (trim g [e] b)) λc=>u (aq 10 e) λg=>u (ab M 1 g h) λg=>u (aq 10 e) λe=>u (ab M 1 e h) λe=>u (bY 2 e (aK j 0)) λe=>u (aq 1 e) λe=>u (ab M 1 e h) λe=>u (b 83 [e] (lock h)) λb=>d' h b.2 λe=>u (bY 2 g (aK j 0)) λg=>u (aq 1 g) λg=>u (bf 1 g b.1 e) λb=>c [] b) λb=>bb h (b [] k) (i [] k)
def O0(b:aT)(c:Nat)(e:U)(g:Z):bl:=bK (.ptr g.length 0) (g++[.box (cn e) 27 .rw]) λe h=>bK (.ptr h.length 0) (h++[.box [.str ⟨#[]⟩,J E 0,J E 0,.a7,J E 0,J E 0,J E 0,J E 0,.bool M,.a7,.a7,.a7,.a7] 27 .rw]) λh i=>u (aq 3 e) λj=>u (ab M 1 j i) λj=>u (b 79 [j] (lock i)) λj=>d' i j.2 λi=>u (aq 9 e) λk=>u (ab M 1 k i) λk=>u (b 79 [k] i) λi=>u (aq 3 e) λk=>u (bf 1 k j.1 i.2) λj=>u (aq 9 e) λk=>u (bf 1 k i.1 j) λi=>u (aq 10 e) λj=>u (ab M 1 j i) λj=>u (b 80 [j] (lock i)) λj=>d' i j.2 λi=>u (aq 11 e) λk=>u (ab M 1 k i) λk=>u (b 81 [k] (lock i)) λk=>d' i k.2 λi=>u (aq 12 e) λl=>u (ab M 1 l i) λl=>u (b 82 [l] i) λi=>u (aq 10 e) λl=>u (bf 1 l j.1 i.2) λj=>u (aq 11 e) λl=>u (bf 1 l k.1 j) λj=>u (aq 12 e) λk=>u (bf 1 k i.1 j) λi=>u (aq 10 e) λj=>u (ab M 1 j i) λj=>u (bB M j) λj=>aD (λ_ i=>u (aq 11 e) λj=>u (ab M 1 j i) λj=>u (bB M j) λj=>aD (λ_ i=>u (aq 12 e) λj=>u (ab M 1 j i) λj=>u (bB M j) λj=>aD (λ_ b=>u (ab V 13 e b) λc=>u (bf 13 h c b) λb=>u (ab V 13 h b) λc=>aN [.aj] g b [c]) λg=>cv (C1 b c e i j g) c [(J E 0)] i) λg=>cv (C2 b c e i j g) c [(J E 0)] i) λg=>cv (C3 b c e i j g) c [(J E 0)] i
open Go.aM.G in
def C4:b2:=⟨1,57,(S (R<|m 5 0<|gp 6 5<|f 7 12 6<|l 8 7<|bW 9 8<|b_ 10 0<|z)<|
 (.block 0 [] ([2,3,4]++g 10 47)
 (.loop [10] ([2,3,4]++g 11 46)
 (S (R<|b 11 .lss (t 10) (t 9)<|z)<|
 (S (.cond (t 11) [] []
 .skip
 (.exit 0))<|
 (S (.block 1 [] ([2,3,4]++g 12 44)
 (S (R<|m 12 10<|m 2 12<|z)<|
 (S (S (R<|m 13 0<|gp 14 13<|f 15 12 14<|l 16 15<|m 17 2<|cz 18 33 16 17<|f 19 1 18<|l 20 19<|bW 21 20<|b 22 .gtr (t 21) (i 0)<|z)<|
 (.cond (t 22) [] []
 (.exit 1)
 .skip))<|
 (S (R<|m 23 2<|b 24 .add (t 23) (i 1)<|m 3 24<|z)<|
 (S (S (R<|m 25 3<|m 26 0<|gp 27 26<|f 28 11 27<|l 29 28<|bW 30 29<|b 31 .gtr (t 25) (t 30)<|z)<|
 (.cond (t 31) [3] []
 (R<|b_ 3 0<|z)
 .skip))<|
 (S (R<|b_ 32 0<|z)<|
 (.block 2 [] ([4]++g 32 24)
 (.loop [32] ([4]++g 33 23)
 (S (R<|b 33 .lss (t 32) (i 120)<|z)<|
 (S (.cond (t 33) [] []
 .skip
 (.exit 2))<|
 (S (.block 3 [] ([4]++g 34 21)
 (S (R<|m 34 32<|m 4 34<|z)<|
 (D<|m 35 0<|gp 36 35<|f 37 12 36<|l 38 37<|m 39 2<|m 40 0<|gp 41 40<|f 42 12 41<|l 43 42<|m 44 2<|cz 45 33 43 44<|f 46 1 45<|l 47 46<|m 48 4<|m 49 3<|o 50 (.build [(.int .i64 0),(.int .i64 0)] [(0,1,(t 48)),(1,1,(t 49))])<|(.op (y 51) (.mq 89 [(.int .i64 0),(.int .i64 0)] 1 [(0,2,(t 50))]) .no<|(.op (y 52) (.a (.append 89 2 (t 47) (t 51))) (.hH [(47,37)])<|cz 53 33 38 39<|f 54 1 53<|bS 1 54 52<|z)))))<|
 (R<|b 55 .add (t 32) (i 1)<|m 32 55<|z))))))))))))<|
 (R<|b 56 .add (t 10) (i 1)<|m 10 56<|z))))))),[],[]⟩
theorem aae:cc 38 C4:=cf Tryz.func38 rfl
def wM(b:aT)(c:Nat)(e:U)(g h:List U)(i:Z)(j:bg):(bg)->bg:=λb c k=>u (ar .lss (aK c 0) (J E 120)) λl=>aD (λ_ j=>aD (λ_ e=>u (ar .add (aK c 0) (J E 1)) λc=>b [c] (trim i [c] e)) λb=>u (fS e) λi=>u (aq 12 i) λi=>u (ab M 1 i j) λk=>u (fS e) λe=>u (aq 12 e) λe=>u (ab M 1 e j) λe=>u (bY 33 e (aK g 0)) λe=>u (aq 1 e) λe=>u (ab M 1 e j) λe=>u (cV [J E 0,J E 0] [(0,1,(aK c 0)),(1,1,(aK h 0))]) λc=>u (cV (h_ [J E 0,J E 0] 1) [(0,2,(U.agg c))]) λc=>hb (c.all fR) (bK (.bE 2 (h9 2 1 c)) (j) λc h=>hb (jy e i h&&V) (u (eC 89 2 e c h) λc=>u (bY 33 k (aK g 0)) λe=>u (aq 1 e) λe=>u (bf 1 e c.1 c.2) λc=>b [] c))) λb=>bb l (b [] k) (j [] k)
def wN(b:aT)(c:Nat)(e:U)(g:Z)(h:U)(i:bg):(bg)->bg:=λj k l=>u (ar .lss (aK k 0) h) λh=>aD (λ_ h=>aD (λ_ b=>u (ar .add (aK k 0) (J E 1)) λc=>j [c] (trim g [c] b)) λg=>u (fS e) λi=>u (aq 12 i) λi=>u (ab M 1 i h) λi=>u (bY 33 i (aK k 0)) λi=>u (aq 1 i) λi=>u (ab M 1 i h) λi=>u (bB M i) λi=>u (ar .gtr i (J E 0)) λi=>aD (λ_ h=>u (ar .add (aK k 0) (J E 1)) λi=>u (fS e) λj=>u (aq 11 j) λj=>u (ab M 1 j h) λj=>u (bB M j) λj=>u (ar .gtr i j) λj=>aD (λh i=>aD (λ_ b=>g [] b) λg=>cv (wM b c e k h i g) c [(J E 0)] i) λb=>bb j (b [(J E 0)] h) (b [i] h)) λb=>bb i (g [] h) (b [] h)) λb=>bb h (b [] l) (i [] l)
def O1(b:aT)(c:Nat)(e:U)(g:Z):bl:=u (fS e) λh=>u (aq 12 h) λh=>u (ab M 1 h g) λh=>u (bB M h) λh=>aD (λ_ b=>aN [] g b []) λi=>cv (wN b c e g h i) c [(J E 0)] g
open Go.aM.G in
def wO:b2:=⟨3,111,(S (R<|m 11 1<|z)<|
 (.block 0 [] ([6,7,9,10]++g 12 99)
 (S (R<|b 13 .eql (t 11) (i 0)<|m 12 13<|z)<|
 (.cond (t 12) [] ([6,7,9,10]++g 14 97)
 (S (R<|m 14 0<|m 15 0<|gp 16 15<|f 17 10 16<|l 18 17<|m 19 2<|eF 20 86 18 19<|gp 21 14<|f 22 10 21<|bS 1 22 20<|z)<|
 (S (R<|m 23 0<|gp 24 23<|f 25 3 24<|l 26 25<|bW 27 26<|b_ 28 0<|z)<|
 (.block 1 [] ([6,7]++g 28 19)
 (.loop [28] ([6,7]++g 29 18)
 (S (R<|b 29 .lss (t 28) (t 27)<|z)<|
 (S (.cond (t 29) [] []
 .skip
 (.exit 1))<|
 (S (.block 2 [] ([6,7]++g 30 16)
 (S (R<|m 30 28<|cz 31 1 26 28<|l 32 31<|m 6 30<|m 7 32<|z)<|
 (S (R<|m 33 7<|dK 34 87 33<|dE 35 34<|z)<|
 (.cond (t 35) [] (g 36 10)
 (D<|m 36 0<|gp 37 36<|f 38 3 37<|l 39 38<|m 40 6<|m 41 2<|m 42 7<|cz 43 1 41 42<|l 44 43<|cz 45 1 39 40<|bS 1 45 44<|z)
 .skip))))<|
 (R<|b 46 .add (t 28) (i 1)<|m 28 46<|z))))))))
 (S (R<|b 48 .eql (t 11) (i 1)<|m 47 48<|z)<|
 (.cond (t 47) [] ([9,10]++g 49 62)
 (S (R<|m 49 0<|m 50 0<|gp 51 50<|f 52 11 51<|l 53 52<|m 54 2<|eF 55 88 53 54<|gp 56 49<|f 57 11 56<|bS 1 57 55<|z)<|
 (S (S (R<|m 58 0<|gp 59 58<|f 60 12 59<|l 61 60<|bW 62 61<|b_ 63 0<|z)<|
 (.block 3 [] ([9,10]++g 63 25)
 (.loop [63] ([9,10]++g 64 24)
 (S (R<|b 64 .lss (t 63) (t 62)<|z)<|
 (S (.cond (t 64) [] []
 .skip
 (.exit 3))<|
 (S (.block 4 [] ([9,10]++g 65 22)
 (S (R<|cz 65 33 61 63<|bR 66 33 65<|o 9 (.new 57 r5)<|bS 33 9 66<|z)<|
 (S (R<|f 67 1 9<|l 68 67<|bW 69 68<|b_ 70 0<|z)<|
 (.block 5 [] ([10]++g 70 17)
 (.loop [70] ([10]++g 71 16)
 (S (R<|b 71 .lss (t 70) (t 69)<|z)<|
 (S (.cond (t 71) [] []
 .skip
 (.exit 5))<|
 (S (.block 6 [] ([10]++g 72 14)
 (S (R<|m 72 70<|m 10 72<|z)<|
 (D<|f 73 1 9<|l 74 73<|m 75 10<|f 76 1 9<|l 77 76<|m 78 10<|cz 79 2 77 78<|f 80 1 79<|l 81 80<|m 82 2<|O 83 (.call 89 [(t 81),(t 82)])<|cz 84 2 74 75<|f 85 1 84<|bS 1 85 83<|z)))<|
 (R<|b 86 .add (t 70) (i 1)<|m 70 86<|z)))))))))<|
 (R<|b 87 .add (t 63) (i 1)<|m 63 87<|z)))))))<|
 (S (R<|m 88 0<|gp 89 88<|bR 90 13 89<|dK 91 45 90<|o 92 (.field M 6 1 (t 91))<|dE 93 92<|z)<|
 (.cond (t 93) [] [94,95,96]
 (R<|m 94 0<|m 95 2<|eF 96 90 94 95<|z)
 .skip))))
 (S (R<|b 98 .eql (t 11) (i 2)<|m 97 98<|z)<|
 (.cond (t 97) [] (g 99 12)
 (S (R<|m 99 0<|m 100 0<|gp 101 100<|f 102 12 101<|l 103 102<|m 104 2<|eF 105 91 103 104<|gp 106 99<|f 107 12 106<|bS 1 107 105<|z)<|
 (R<|m 108 0<|m 109 2<|eF 110 90 108 109<|z))
 .skip)))))))),[],[]⟩
theorem aaf:cc 39 wO:=cf Tryz.func39 rfl
def C5(b:aT)(c:Nat)(e g:U)(h:Z)(i j:U)(k:bg):(bg)->bg:=λc l m=>u (ar .lss (aK l 0) j) λj=>aD (λ_ j=>aD (λ_ b=>u (ar .add (aK l 0) (J E 1)) λe=>c [e] (trim h [e] b)) λc=>u (bY 1 i (aK l 0)) λh=>u (ab M 1 h j) λh=>u (b 87 [h] j) λb=>u (dq .not b.1) λi=>aD (λ_ b=>c [] b) λc=>bb i (u (fS e) λe=>u (aq 3 e) λe=>u (ab M 1 e b.2) λe=>u (bY 1 g h) λg=>u (ab M 1 g b.2) λg=>u (bY 1 e (aK l 0)) λe=>u (bf 1 e g b.2) λb=>c [] b) (c [] b.2)) λb=>bb j (b [] m) (k [] m)
def zs(b:aT)(c:Nat)(e g:U)(h:Z)(i:U)(j:bg):(bg)->bg:=λc k l=>u (ar .lss (aK k 0) i) λi=>aD (λ_ i=>aD (λ_ b=>u (ar .add (aK k 0) (J E 1)) λe=>c [e] (trim h [e] b)) λc=>u (aq 1 g) λh=>u (ab M 1 h i) λh=>u (aq 1 g) λg=>u (ab M 1 g i) λg=>u (bY 2 g (aK k 0)) λg=>u (aq 1 g) λg=>u (ab M 1 g i) λg=>u (b 89 [g,e] (lock i)) λb=>d' i b.2 λe=>u (bY 2 h (aK k 0)) λg=>u (aq 1 g) λg=>u (bf 1 g b.1 e) λb=>c [] b) λb=>bb i (b [] l) (j [] l)
def C6(b:aT)(c:Nat)(e:U)(g:Z)(h i:U)(j:bg):(bg)->bg:=λk l m=>u (ar .lss (aK l 0) i) λi=>aD (λ_ i=>aD (λ_ b=>u (ar .add (aK l 0) (J E 1)) λc=>k [c] (trim g [c] b)) λg=>u (bY 33 h (aK l 0)) λh=>u (ab V 33 h i) λh=>bK (.ptr i.length 0) (i++[.box iu 57 .rw]) λi j=>u (bf 33 i h j) λh=>u (aq 1 i) λj=>u (ab M 1 j h) λj=>u (bB M j) λj=>aD (λ_ b=>g [] b) λg=>cv (zs b c e i h j g) c [(J E 0)] h) λb=>bb i (b [] m) (j [] m)
def C7(b:aT)(c:Nat)(e g h:U)(i:Z):bl:=aD (λ_ b=>aN [] i b []) λj=>u (ar .eql g (J E 0)) λk=>aD (λ_ b=>j [] b) λj=>bb k (u (fS e) λg=>u (aq 10 g) λg=>u (ab M 1 g i) λg=>u (b 86 [g,h] i) λg=>u (fS e) λi=>u (aq 10 i) λi=>u (bf 1 i g.1 g.2) λg=>u (fS e) λi=>u (aq 3 i) λi=>u (ab M 1 i g) λi=>u (bB M i) λk=>aD (λ_ b=>j [] b) λj=>cv (C5 b c e h g i k j) c [(J E 0)] g) (u (ar .eql g (J E 1)) λk=>aD (λ_ b=>j [] b) λj=>bb k (u (fS e) λg=>u (aq 11 g) λg=>u (ab M 1 g i) λg=>u (b 88 [g,h] i) λg=>u (fS e) λi=>u (aq 11 i) λi=>u (bf 1 i g.1 g.2) λg=>u (fS e) λi=>u (aq 12 i) λi=>u (ab M 1 i g) λi=>u (bB M i) λk=>aD (λ_ c=>u (fS e) λg=>u (ab V 13 g c) λg=>u (b 45 [g] c) λc=>u (wm M 6 1 c.1) λg=>u (dq .not g) λg=>aD (λ_ b=>j [] b) λi=>bb g (u (b 90 [e,h] c.2) λb=>i [] b.2) (i [] c.2)) λe=>cv (C6 b c h g i k e) c [(J E 0)] g) (u (ar .eql g (J E 2)) λc=>aD (λ_ b=>j [] b) λg=>bb c (u (fS e) λc=>u (aq 12 c) λc=>u (ab M 1 c i) λc=>u (b 91 [c,h] i) λc=>u (fS e) λi=>u (aq 12 i) λi=>u (bf 1 i c.1 c.2) λc=>u (b 90 [e,h] c) λb=>g [] b.2) (g [] i)))
open Go.aM.G in
def zt:hZ:=(R<|m 8 15<|z)
open Go.aM.G in
def zu:hZ:=(.block 1 [] [16,17,18]
 (R<|l 16 7<|m 17 8<|o 18 (.im (t 16) [(t 17)])<|z))
open Go.aM.G in
def C8:b2:=⟨2,28,(S (R<|o 4 (.move (.const (.slice none 0 0)))<|z)<|
 (S (R<|(.op (y 10) (.mq 3 [(.int .i64 0)] 1 [(0,1,(i (-1)))]) .no<|m 11 1<|eF 12 92 10 11<|(.op (y 5) (.wk V 22 3 1) .no<|bS 1 5 12<|z)))<|
 (S (R<|o 6 (.new 3 [(.int .i64 0)])<|n (.store 1 (t 6) (i 0))<|z)<|
 (S (R<|o 13 (.ko 93 [] [(t 5),(t 6)])<|o 7 (.new 127 [.nilFunc])<|bS 1 7 13<|z)<|
 (S (S (R<|m 14 0<|z)<|
 (.block 0 [] []
 (.jW (t 14) [7] [15] zt zu)))<|
 (S (S (R<|m 19 1<|b_ 20 0<|z)<|
 (.block 2 [] ([9]++g 20 7)
 (.loop [20] ([9]++g 21 6)
 (S (R<|b 21 .lss (t 20) (t 19)<|z)<|
 (S (.cond (t 21) [] []
 .skip
 (.exit 2))<|
 (S (.block 3 [] ([9]++g 22 4)
 (S (R<|m 22 20<|m 9 22<|z)<|
 (R<|l 23 7<|m 24 9<|o 25 (.im (t 23) [(t 24)])<|z)))<|
 (R<|b 26 .add (t 20) (i 1)<|m 20 26<|z)))))))<|
 (S (R<|l 27 5<|m 4 27<|z)<|
 .ret))))))),[.tmp 4],[(.flat 1)]⟩
theorem aag:cc 40 C8:=cf Tryz.func40 rfl
def Jv(b:aT)(c:Nat)(e g:U)(h:Z)(i:bg):(bg)->bg:=λc j k=>u (ar .lss (aK j 0) e) λe=>aD (λ_ e=>aD (λ_ b=>u (ar .add (aK j 0) (J E 1)) λe=>c [e] (trim h [e] b)) λc=>u (ab M 1 g e) λg=>u (gz b g [(aK j 0)] e) λb=>c [] b.2) λb=>bb e (b [] k) (i [] k)
def O2(Γ:aT)(n:Nat)(al aC:U)(h:Z):bl:=(cV (h_ [J E 0] 1) [(0,1,(J E (-1)))]).bind λfa=>hb (fa.all fR) (bK (.bE 1 (h9 1 1 fa)) (h) λv1 h2=>(Γ 92 [v1,aC] h2).bind λc=>bK (.ptr (c.2.length+1) 0) (c.2++[.log [] 1 3 .rw,.box [.ref c.2.length 0 0 0 1] 22 .rw]) λv4 aO=>(bf 1 v4 c.1 aO).bind λbt=>bK (.ptr bt.length 0) (bt++[.box [J E 0] 3 .rw]) λg o=>(bf 1 g (J E 0) o).bind λi=>bK (.ptr i.length 0) (i++[.box [.mT] 127 .rw]) λv10 p=>(bf 1 v10 (U.func 93 [] [v4,g]) p).bind λb=>aD (λx j=>aD (λy k=>(ab M 1 v4 k).bind λq=>aN [(.flat 1)] h k [q]) λt=>cv (Jv Γ n aC v10 j t) n [(J E 0)] j) λl=>(p7 Γ al [.yield b.length] (b++[.loop [v10] [7] [15] zt zu .ready none .rw])).bind λm=>(rY b.length m.2).bind λu=>bK je (trim b [] (m.2.set b.length .dead)) λz e=>
BB u (l [] e) (λw=>bif cM w 0 then(l [] e)else none) (aN [(.flat 1)] h e [(.a7:U)]))
def O3(b:aT)(c:Nat)(e g:U)(h:Nat)(i:Z):bl:=u (qV h i) λc=>aD (λ_ b=>(nI h .normal b).map λb=>(b.1,trim i [] b.2)) λh=>u (ab M 1 e c) λe=>u (gz b e [g] c) λb=>h [] b.2
theorem aah(Γ:aT)(n:Nat)(c e:U)(b:Nat)(h:Z)(eg:Option fN)(md:ep)(af:h[b]?=y (.loop [c] [7] [15] zt zu .ready eg md)):ox Γ n (.ptr b 0::[e]) h=O3 Γ n c e b h:=(IV af rfl).trans (by kernel_rfl)
open Go.aM.G in
def C9:b2:=⟨1,4,(S (R<|dr 1 27 0<|o 2 (.move (.const .nilFunc))<|z)<|
 (S (R<|o 3 (.ko 94 [] [(t 1)])<|m 2 3<|z)<|
 .ret)),[.tmp 2],[.aj]⟩
theorem aai:cc 41 C9:=cf Tryz.func41 rfl
def O4(b:aT)(c:Nat)(e:U)(g:Z):bl:=bK (.ptr g.length 0) (g++[.box (cn e) 27 .rw]) λb c=>aN [.aj] g c [(U.func 94 [] [b])]
open Go.aM.G in
def C_:b2:=⟨1,4,(S (R<|dr 1 77 0<|o 2 (.move (.const .nilFunc))<|z)<|
 (S (R<|o 3 (.ko 95 [] [(t 1)])<|m 2 3<|z)<|
 .ret)),[.tmp 2],[.aj]⟩
theorem aaj:cc 42 C_:=cf Tryz.func42 rfl
def O5(b:aT)(c:Nat)(e:U)(g:Z):bl:=bK (.ptr g.length 0) (g++[.box (cn e) 77 .rw]) λb c=>aN [.aj] g c [(U.func 95 [] [b])]
open Go.aM.G in
def C':b2:=⟨2,6,(S (R<|dr 2 27 0<|dr 3 77 1<|o 4 (.move (.const .nilFunc))<|z)<|
 (S (R<|o 5 (.ko 96 [] [(t 3),(t 2)])<|m 4 5<|z)<|
 .ret)),[.tmp 4],[.aj]⟩
theorem aak:cc 43 C':=cf Tryz.func43 rfl
def O6(b:aT)(c:Nat)(e g:U)(h:Z):bl:=bK (.ptr h.length 0) (h++[.box (cn e) 27 .rw]) λb c=>bK (.ptr c.length 0) (c++[.box (cn g) 77 .rw]) λc e=>aN [.aj] h e [(U.func 96 [] [c,b])]
open Go.aM.G in
def Da:b2:=⟨1,4,(S (R<|dr 1 3 0<|o 2 (.move (.const .nilFunc))<|z)<|
 (S (R<|o 3 (.ko 97 [] [(t 1)])<|m 2 3<|z)<|
 .ret)),[.tmp 2],[.aj]⟩
theorem aal:cc 44 Da:=cf Tryz.func44 rfl
def O7(b:aT)(c:Nat)(e:U)(g:Z):bl:=bK (.ptr g.length 0) (g++[.box (cn e) 3 .rw]) λb c=>aN [.aj] g c [(U.func 97 [] [b])]
open Go.aM.G in
def Db:b2:=⟨1,12,(S (R<|dr 1 27 0<|o 2 (.new 83 ji)<|z)<|
 (S (R<|f 6 1 1<|l 7 6<|dK 8 53 7<|m 5 8<|eV 9 5 0<|eV 10 5 1<|o 3 (.new 83 ji)<|bS 29 3 9<|m 4 10<|z)<|
 (S (R<|bR 11 29 3<|bS 29 2 11<|z)<|
 .ret))),[.cell 2 V 29],[.aj]⟩
theorem aam:cc 45 Db:=cf Tryz.func45 rfl
def O8(b:aT)(c:Nat)(e:U)(g:Z):bl:=bK (.ptr g.length 0) (g++[.box (cn e) 27 .rw]) λc e=>bK (.ptr e.length 0) (e++[.box e8 83 .rw]) λe h=>u (aq 1 c) λc=>u (ab M 1 c h) λc=>u (b 53 [c] h) λb=>u (ek b.1 0) λc=>u (ek b.1 1) λ_=>bK (.ptr b.2.length 0) (b.2++[.box e8 83 .rw]) λb h=>u (bf 29 b c h) λc=>u (ab V 29 b c) λb=>u (bf 29 e b c) λb=>u (ab V 29 e b) λc=>aN [.aj] g b [c]
open Go.aM.G in
def Dc:b2:=⟨1,4,(S (R<|dr 1 27 0<|o 2 (.move (.const .nilFunc))<|z)<|
 (S (R<|o 3 (.ko 98 [] [(t 1)])<|m 2 3<|z)<|
 .ret)),[.tmp 2],[.aj]⟩
theorem aan:cc 46 Dc:=cf Tryz.func46 rfl
def O9(b:aT)(c:Nat)(e:U)(g:Z):bl:=bK (.ptr g.length 0) (g++[.box (cn e) 27 .rw]) λb c=>aN [.aj] g c [(U.func 98 [] [b])]
open Go.aM.G in
def Dd:b2:=⟨1,14,(S (R<|dr 1 27 0<|cw 2<|z)<|
 (S (R<|bR 7 13 1<|dK 8 99 7<|m 6 8<|eV 9 6 0<|eV 10 6 1<|eV 11 6 2<|m 3 9<|m 4 10<|m 5 11<|z)<|
 (S (R<|m 12 5<|b 13 .eql (t 12) (i 0)<|m 2 13<|z)<|
 .ret))),[.tmp 2],[.aj]⟩
theorem aao:cc 47 Dd:=cf Tryz.func47 rfl
def O_(b:aT)(c:Nat)(e:U)(g:Z):bl:=bK (.ptr g.length 0) (g++[.box (cn e) 27 .rw]) λc e=>u (ab V 13 c e) λc=>u (b 99 [c] e) λb=>u (ek b.1 0) λ_=>u (ek b.1 1) λ_=>u (ek b.1 2) λc=>u (ar .eql c (J E 0)) λc=>aN [.aj] g b.2 [c]
open Go.aM.G in
def De:b2:=⟨1,51,(S (R<|dr 1 27 0<|o 2 (.new 27 j6)<|z)<|
 (S (R<|bR 6 13 1<|dK 7 13 6<|bS 13 1 7<|z)<|
 (S (S (R<|f 8 12 1<|l 9 8<|bW 10 9<|b_ 11 0<|z)<|
 (.block 0 [] ([3,4,5]++g 11 39)
 (.loop [11] ([3,4,5]++g 12 38)
 (S (R<|b 12 .lss (t 11) (t 10)<|z)<|
 (S (.cond (t 12) [] []
 .skip
 (.exit 0))<|
 (S (.block 1 [] ([3,4,5]++g 13 36)
 (S (R<|m 13 11<|m 3 13<|z)<|
 (S (S (R<|f 14 12 1<|l 15 14<|m 16 3<|cz 17 33 15 16<|f 18 1 17<|l 19 18<|bW 20 19<|b 21 .gtr (t 20) (i 0)<|z)<|
 (.cond (t 21) [] []
 (.exit 1)
 .skip))<|
 (S (R<|m 22 3<|b 23 .add (t 22) (i 1)<|m 4 23<|z)<|
 (S (S (R<|m 24 4<|f 25 11 1<|l 26 25<|bW 27 26<|b 28 .gtr (t 24) (t 27)<|z)<|
 (.cond (t 28) [4] []
 (R<|b_ 4 0<|z)
 .skip))<|
 (S (R<|b_ 5 0<|z)<|
 (.block 2 [] ([5]++g 29 20)
 (.loop [5] (g 29 20)
 (S (S (R<|m 29 5<|b 30 .lss (t 29) (i 120)<|z)<|
 (.cond (t 30) [] []
 .skip
 (.exit 2)))<|
 (S (.block 3 [] (g 33 16)
 (D<|f 33 12 1<|l 34 33<|m 35 3<|f 36 12 1<|l 37 36<|m 38 3<|cz 39 33 37 38<|f 40 1 39<|l 41 40<|m 42 5<|m 43 4<|o 44 (.build [(.int .i64 0),(.int .i64 0)] [(0,1,(t 42)),(1,1,(t 43))])<|(.op (y 45) (.mq 89 [(.int .i64 0),(.int .i64 0)] 1 [(0,2,(t 44))]) .no<|(.op (y 46) (.a (.append 89 2 (t 41) (t 45))) (.hH [(41,33)])<|cz 47 33 34 35<|f 48 1 47<|bS 1 48 46<|z))))<|
 (R<|m 31 5<|b 32 .add (t 31) (i 1)<|m 5 32<|z)))))))))))<|
 (R<|b 49 .add (t 11) (i 1)<|m 11 49<|z)))))))<|
 (S (R<|bR 50 13 1<|bS 13 2 50<|z)<|
 .ret)))),[.cell 2 V 13],[.aj]⟩
theorem aap:cc 48 De:=cf Tryz.func48 rfl
def wP(b:aT)(c:Nat)(e:U)(g h:List U)(i:Z)(j:bg):(bg)->bg:=λb c k=>u (ar .lss (aK c 0) (J E 120)) λl=>aD (λ_ j=>aD (λ_ e=>u (ar .add (aK c 0) (J E 1)) λc=>b [c] (trim i [c] e)) λb=>u (aq 12 e) λi=>u (ab M 1 i j) λk=>u (aq 12 e) λe=>u (ab M 1 e j) λe=>u (bY 33 e (aK g 0)) λe=>u (aq 1 e) λe=>u (ab M 1 e j) λe=>u (cV [J E 0,J E 0] [(0,1,(aK c 0)),(1,1,(aK h 0))]) λc=>u (cV (h_ [J E 0,J E 0] 1) [(0,2,(U.agg c))]) λc=>hb (c.all fR) (bK (.bE 2 (h9 2 1 c)) (j) λc h=>hb (jy e i h&&V) (u (eC 89 2 e c h) λc=>u (bY 33 k (aK g 0)) λe=>u (aq 1 e) λe=>u (bf 1 e c.1 c.2) λc=>b [] c))) λb=>bb l (b [] k) (j [] k)
def wQ(b:aT)(c:Nat)(e:U)(g:Z)(h:U)(i:bg):(bg)->bg:=λj k l=>u (ar .lss (aK k 0) h) λh=>aD (λ_ h=>aD (λ_ b=>u (ar .add (aK k 0) (J E 1)) λc=>j [c] (trim g [c] b)) λg=>u (aq 12 e) λi=>u (ab M 1 i h) λi=>u (bY 33 i (aK k 0)) λi=>u (aq 1 i) λi=>u (ab M 1 i h) λi=>u (bB M i) λi=>u (ar .gtr i (J E 0)) λi=>aD (λ_ h=>u (ar .add (aK k 0) (J E 1)) λi=>u (aq 11 e) λj=>u (ab M 1 j h) λj=>u (bB M j) λj=>u (ar .gtr i j) λj=>aD (λh i=>aD (λ_ b=>g [] b) λg=>cv (wP b c e k h i g) c [(J E 0)] i) λb=>bb j (b [(J E 0)] h) (b [i] h)) λb=>bb i (g [] h) (b [] h)) λb=>bb h (b [] l) (i [] l)
def O'(b:aT)(c:Nat)(e:U)(g:Z):bl:=bK (.ptr g.length 0) (g++[.box (cn e) 27 .rw]) λe h=>bK (.ptr h.length 0) (h++[.box [.str ⟨#[]⟩,J E 0,J E 0,.a7,J E 0,J E 0,J E 0,J E 0,.bool M,.a7,.a7,.a7,.a7] 27 .rw]) λh i=>u (ab V 13 e i) λj=>u (b 13 [j] i) λi=>u (bf 13 e i.1 i.2) λi=>u (aq 12 e) λj=>u (ab M 1 j i) λj=>u (bB M j) λj=>aD (λ_ b=>u (ab V 13 e b) λc=>u (bf 13 h c b) λb=>u (ab V 13 h b) λc=>aN [.aj] g b [c]) λg=>cv (wQ b c e i j g) c [(J E 0)] i
open Go.aM.G in
def Df:b2:=⟨1,9,(S (R<|cw 2<|z)<|
 (S (R<|m 3 0<|b 4 .eql (t 3) (i 254)<|m 5 4<|q 8 5 M [6,7] (m 6 0<|b 7 .eql (t 6) (i 255)<|z) (t 7)<|
 m 2 8<|z)<|
 .ret)),[.tmp 2],[.aj]⟩
theorem aaq:cc 49 Df:=cf Tryz.func49 rfl
def Pa(b:aT)(c:Nat)(e:U)(g:Z):bl:=u (ar .eql e (J E 254)) λb=>bc (λb c=>aN [.aj] g c [b]) λc=>bd b M (u (ar .eql e (J E 255)) λb=>c b g) (c (.bool V) g)
open Go.aM.G in
def wR:b2:=⟨3,166,(S (R<|dr 3 27 0<|o 6 (.new 27 j6)<|z)<|
 (S (S (R<|m 18 1<|b 19 .eql (t 18) (i 0)<|z)<|
 (.cond (t 19) [] (g 7 4++g 20 44)
 (S (R<|bR 20 13 3<|dK 21 13 20<|bS 13 3 21<|z)<|
 (S (R<|o 22 (.buildSlice 39 [] 0 [])<|f 23 10 3<|l 24 23<|o 25 (.append 39 2 (t 22) (t 24))<|m 7 25<|z)<|
 (S (S (R<|m 26 7<|bW 27 26<|b_ 28 0<|z)<|
 (.block 0 [] ([8]++g 28 15)
 (.loop [28] ([8]++g 29 14)
 (S (R<|b 29 .lss (t 28) (t 27)<|z)<|
 (S (.cond (t 29) [] []
 .skip
 (.exit 0))<|
 (S (.block 1 [] ([8]++g 30 12)
 (S (R<|m 30 28<|m 8 30<|z)<|
 (D<|f 31 10 3<|l 32 31<|m 33 2<|m 34 8<|cz 35 1 33 34<|l 36 35<|m 37 7<|m 38 8<|cz 39 2 37 38<|bR 40 2 39<|cz 41 2 32 36<|bS 2 41 40<|z)))<|
 (R<|b 42 .add (t 28) (i 1)<|m 28 42<|z)))))))<|
 (S (S (R<|f 43 3 3<|l 44 43<|bW 45 44<|b_ 46 0<|z)<|
 (.block 2 [] ([9,10]++g 46 17)
 (.loop [46] ([9,10]++g 47 16)
 (S (R<|b 47 .lss (t 46) (t 45)<|z)<|
 (S (.cond (t 47) [] []
 .skip
 (.exit 2))<|
 (S (.block 3 [] ([9,10]++g 48 14)
 (S (R<|m 48 46<|cz 49 1 44 46<|l 50 49<|m 9 48<|m 10 50<|z)<|
 (S (R<|m 51 10<|dK 52 49 51<|dE 53 52<|z)<|
 (.cond (t 53) [] (g 54 8)
 (D<|f 54 3 3<|l 55 54<|m 56 9<|m 57 2<|m 58 10<|cz 59 1 57 58<|l 60 59<|cz 61 1 55 56<|bS 1 61 60<|z)
 .skip))))<|
 (R<|b 62 .add (t 46) (i 1)<|m 46 62<|z)))))))<|
 (S (R<|bR 63 13 3<|bS 13 6 63<|z)<|
 .ret)))))
 .skip))<|
 (S (R<|bR 64 13 3<|dK 65 48 64<|bS 13 3 65<|z)<|
 (S (S (R<|m 66 1<|b 67 .eql (t 66) (i 2)<|z)<|
 (.cond (t 67) [] ([11,12]++g 68 27)
 (S (R<|o 68 (.buildSlice 57 [] 0 [])<|f 69 12 3<|l 70 69<|o 71 (.append 57 33 (t 68) (t 70))<|m 11 71<|z)<|
 (S (S (R<|m 72 11<|bW 73 72<|b_ 74 0<|z)<|
 (.block 4 [] ([12]++g 74 15)
 (.loop [74] ([12]++g 75 14)
 (S (R<|b 75 .lss (t 74) (t 73)<|z)<|
 (S (.cond (t 75) [] []
 .skip
 (.exit 4))<|
 (S (.block 5 [] ([12]++g 76 12)
 (S (R<|m 76 74<|m 12 76<|z)<|
 (D<|f 77 12 3<|l 78 77<|m 79 2<|m 80 12<|cz 81 1 79 80<|l 82 81<|m 83 11<|m 84 12<|cz 85 33 83 84<|bR 86 33 85<|cz 87 33 78 82<|bS 33 87 86<|z)))<|
 (R<|b 88 .add (t 74) (i 1)<|m 74 88<|z)))))))<|
 (S (S (R<|bR 89 13 3<|dK 90 52 89<|z)<|
 (.cond (t 90) [] [91,92,93]
 (R<|bR 91 13 3<|m 92 2<|eF 93 100 91 92<|z)
 .skip))<|
 (S (R<|bR 94 13 3<|bS 13 6 94<|z)<|
 .ret))))
 .skip))<|
 (S (R<|o 95 (.buildSlice 43 [] 0 [])<|f 96 11 3<|l 97 96<|o 98 (.append 43 13 (t 95) (t 97))<|m 13 98<|z)<|
 (S (S (R<|m 99 13<|bW 100 99<|b_ 101 0<|z)<|
 (.block 6 [] ([14]++g 101 15)
 (.loop [101] ([14]++g 102 14)
 (S (R<|b 102 .lss (t 101) (t 100)<|z)<|
 (S (.cond (t 102) [] []
 .skip
 (.exit 6))<|
 (S (.block 7 [] ([14]++g 103 12)
 (S (R<|m 103 101<|m 14 103<|z)<|
 (D<|f 104 11 3<|l 105 104<|m 106 2<|m 107 14<|cz 108 1 106 107<|l 109 108<|m 110 13<|m 111 14<|cz 112 13 110 111<|bR 113 13 112<|cz 114 13 105 109<|bS 13 114 113<|z)))<|
 (R<|b 115 .add (t 101) (i 1)<|m 101 115<|z)))))))<|
 (S (S (R<|bR 116 13 3<|dK 117 52 116<|dE 118 117<|z)<|
 (.cond (t 118) [] [119,120,121]
 (R<|bR 119 13 3<|m 120 2<|eF 121 100 119 120<|z)
 .skip))<|
 (S (S (R<|f 122 12 3<|l 123 122<|bW 124 123<|b_ 125 0<|z)<|
 (.block 8 [] ([15,16,17]++g 125 40)
 (.loop [125] ([15,16,17]++g 126 39)
 (S (R<|b 126 .lss (t 125) (t 124)<|z)<|
 (S (.cond (t 126) [] []
 .skip
 (.exit 8))<|
 (S (.block 9 [] ([15,16,17]++g 127 37)
 (S (R<|m 127 125<|m 15 127<|z)<|
 (S (R<|f 128 12 3<|l 129 128<|m 130 15<|cz 131 33 129 130<|f 132 1 131<|l 133 132<|bW 134 133<|b_ 135 0<|z)<|
 (.block 10 [] ([16,17]++g 135 29)
 (.loop [135] ([16,17]++g 136 28)
 (S (R<|b 136 .lss (t 135) (t 134)<|z)<|
 (S (.cond (t 136) [] []
 .skip
 (.exit 10))<|
 (S (.block 11 [] ([16,17]++g 137 26)
 (S (R<|m 137 135<|m 16 137<|z)<|
 (S (R<|f 138 12 3<|l 139 138<|m 140 15<|cz 141 33 139 140<|f 142 1 141<|l 143 142<|m 144 16<|cz 145 2 143 144<|m 17 145<|z)<|
 (S (R<|m 146 17<|gp 147 146<|f 148 1 147<|l 149 148<|b 150 .neq (t 149) (i 0)<|z)<|
 (.cond (t 150) [] (g 151 12)
 (R<|m 151 17<|m 152 2<|m 153 17<|gp 154 153<|f 155 1 154<|l 156 155<|b 157 .sub (t 156) (i 1)<|cz 158 1 152 157<|l 159 158<|b 160 .add (i 1) (t 159)<|gp 161 151<|f 162 1 161<|bS 1 162 160<|z)
 .skip)))))<|
 (R<|b 163 .add (t 135) (i 1)<|m 135 163<|z)))))))))<|
 (R<|b 164 .add (t 125) (i 1)<|m 125 164<|z)))))))<|
 (S (R<|bR 165 13 3<|bS 13 6 165<|z)<|
 .ret))))))))),[.cell 6 V 13],[.aj]⟩
theorem aar:cc 50 wR:=cf Tryz.func50 rfl
def zw(b:aT)(c:Nat)(e g:U)(h:List U)(i:Z)(j:U)(k:bg):(bg)->bg:=λb c l=>u (ar .lss (aK c 0) j) λj=>aD (λ_ j=>aD (λ_ e=>u (ar .add (aK c 0) (J E 1)) λc=>b [c] (trim i [c] e)) λb=>u (aq 12 g) λg=>u (ab M 1 g j) λg=>u (bY 33 g (aK h 0)) λg=>u (aq 1 g) λg=>u (ab M 1 g j) λg=>u (bY 2 g (aK c 0)) λc=>u (fS c) λg=>u (aq 1 g) λg=>u (ab M 1 g j) λg=>u (ar .neq g (J E 0)) λg=>aD (λ_ c=>b [] c) λb=>bb g (u (fS c) λg=>u (aq 1 g) λg=>u (ab M 1 g j) λg=>u (ar .sub g (J E 1)) λg=>u (bY 1 e g) λe=>u (ab M 1 e j) λe=>u (ar .add (J E 1) e) λe=>u (fS c) λc=>u (aq 1 c) λc=>u (bf 1 c e j) λc=>b [] c) (b [] j)) λb=>bb j (b [] l) (k [] l)
def zx(b:aT)(c:Nat)(e g:U)(h:Z)(i:U)(j:bg):(bg)->bg:=λk l m=>u (ar .lss (aK l 0) i) λi=>aD (λ_ i=>aD (λ_ b=>u (ar .add (aK l 0) (J E 1)) λc=>k [c] (trim h [c] b)) λh=>u (aq 12 g) λj=>u (ab M 1 j i) λj=>u (bY 33 j (aK l 0)) λj=>u (aq 1 j) λj=>u (ab M 1 j i) λj=>u (bB M j) λj=>aD (λ_ b=>h [] b) λh=>cv (zw b c e g l i j h) c [(J E 0)] i) λb=>bb i (b [] m) (j [] m)
def zy(b:aT)(c:Nat)(e g:U)(h:U×Z)(i:U)(j:bg):(bg)->bg:=λb c k=>u (ar .lss (aK c 0) i) λi=>aD (λ_ i=>aD (λ_ e=>u (ar .add (aK c 0) (J E 1)) λc=>b [c] (trim h.2 [c] e)) λb=>u (aq 11 g) λg=>u (ab M 1 g i) λg=>u (bY 1 e (aK c 0)) λe=>u (ab M 1 e i) λe=>u (bY 13 h.1 (aK c 0)) λc=>u (ab V 13 c i) λc=>u (bY 13 g e) λe=>u (bf 13 e c i) λc=>b [] c) λb=>bb i (b [] k) (j [] k)
def Dh(b:aT)(c:Nat)(e g:U)(h:U×Z)(i:U)(j:bg):(bg)->bg:=λb c k=>u (ar .lss (aK c 0) i) λi=>aD (λ_ i=>aD (λ_ e=>u (ar .add (aK c 0) (J E 1)) λc=>b [c] (trim h.2 [c] e)) λb=>u (aq 12 g) λg=>u (ab M 1 g i) λg=>u (bY 1 e (aK c 0)) λe=>u (ab M 1 e i) λe=>u (bY 33 h.1 (aK c 0)) λc=>u (ab V 33 c i) λc=>u (bY 33 g e) λe=>u (bf 33 e c i) λc=>b [] c) λb=>bb i (b [] k) (j [] k)
def Di(b:aT)(c:Nat)(e g:U)(h:Z)(i j:U)(k:bg):(bg)->bg:=λc l m=>u (ar .lss (aK l 0) j) λj=>aD (λ_ j=>aD (λ_ b=>u (ar .add (aK l 0) (J E 1)) λe=>c [e] (trim h [e] b)) λc=>u (bY 1 i (aK l 0)) λh=>u (ab M 1 h j) λh=>u (b 49 [h] j) λb=>u (dq .not b.1) λi=>aD (λ_ b=>c [] b) λc=>bb i (u (aq 3 g) λg=>u (ab M 1 g b.2) λg=>u (bY 1 e h) λe=>u (ab M 1 e b.2) λe=>u (bY 1 g (aK l 0)) λg=>u (bf 1 g e b.2) λb=>c [] b) (c [] b.2)) λb=>bb j (b [] m) (k [] m)
def Dj(b:aT)(c:Nat)(e g:U)(h:U×Z)(i:U)(j:bg):(bg)->bg:=λb c k=>u (ar .lss (aK c 0) i) λi=>aD (λ_ i=>aD (λ_ e=>u (ar .add (aK c 0) (J E 1)) λc=>b [c] (trim h.2 [c] e)) λb=>u (aq 10 g) λg=>u (ab M 1 g i) λg=>u (bY 1 e (aK c 0)) λe=>u (ab M 1 e i) λe=>u (bY 2 h.1 (aK c 0)) λc=>u (ab V 2 c i) λc=>u (bY 2 g e) λe=>u (bf 2 e c i) λc=>b [] c) λb=>bb i (b [] k) (j [] k)
def Dk(b:aT)(c:Nat)(e g h:U)(i:Z):bl:=bK (.ptr i.length 0) (i++[.box (cn e) 27 .rw]) λe j=>bK (.ptr j.length 0) (j++[.box [.str ⟨#[]⟩,J E 0,J E 0,.a7,J E 0,J E 0,J E 0,J E 0,.bool M,.a7,.a7,.a7,.a7] 27 .rw]) λj k=>u (ar .eql g (J E 0)) λl=>aD (λ_ k=>u (ab V 13 e k) λl=>u (b 48 [l] k) λk=>u (bf 13 e k.1 k.2) λk=>u (ar .eql g (J E 2)) λg=>aD (λ_ g=>u (aq 11 e) λk=>u (ab M 1 k g) λk=>u (eC 43 13 U.emp k g) λg=>u (bB M g.1) λk=>aD (λ_ g=>u (ab V 13 e g) λk=>u (b 52 [k] g) λg=>u (dq .not g.1) λk=>aD (λ_ g=>u (aq 12 e) λk=>u (ab M 1 k g) λk=>u (bB M k) λk=>aD (λ_ b=>u (ab V 13 e b) λc=>u (bf 13 j c b) λb=>u (ab V 13 j b) λc=>aN [.aj] i b [c]) λi=>cv (zx b c h e g k i) c [(J E 0)] g) λc=>bb k (u (ab V 13 e g.2) λe=>u (b 100 [e,h] g.2) λb=>c [] b.2) (c [] g.2)) λi=>cv (zy b c h e g k i) c [(J E 0)] g.2) λl=>bb g (u (aq 12 e) λg=>u (ab M 1 g k) λg=>u (eC 57 33 U.emp g k) λg=>u (bB M g.1) λk=>aD (λ_ c=>u (ab V 13 e c) λg=>u (b 52 [g] c) λc=>aD (λ_ b=>u (ab V 13 e b) λc=>u (bf 13 j c b) λb=>u (ab V 13 j b) λc=>aN [.aj] i b [c]) λg=>bb c.1 (u (ab V 13 e c.2) λe=>u (b 100 [e,h] c.2) λb=>g [] b.2) (g [] c.2)) λi=>cv (Dh b c h e g k i) c [(J E 0)] g.2) (l [] k)) λg=>bb l (u (ab V 13 e k) λg=>u (b 13 [g] k) λg=>u (bf 13 e g.1 g.2) λg=>u (aq 10 e) λk=>u (ab M 1 k g) λk=>u (eC 39 2 U.emp k g) λg=>u (bB M g.1) λk=>aD (λ_ g=>u (aq 3 e) λk=>u (ab M 1 k g) λk=>u (bB M k) λl=>aD (λ_ b=>u (ab V 13 e b) λc=>u (bf 13 j c b) λb=>u (ab V 13 j b) λc=>aN [.aj] i b [c]) λi=>cv (Di b c h e g k l i) c [(J E 0)] g) λi=>cv (Dj b c h e g k i) c [(J E 0)] g.2) (g [] k)
open Go.aM.G in
def Dl:b2:=⟨2,44,(S (R<|o 4 (.move (.const (.slice none 0 0)))<|z)<|
 (S (R<|m 10 0<|o 11 (.mkSlice 3 [(.int .i64 0)] (t 10) (t 10))<|m 5 11<|z)<|
 (S (S (R<|m 12 5<|bW 13 12<|b_ 14 0<|z)<|
 (.block 0 [] ([6]++g 14 7)
 (.loop [14] ([6]++g 15 6)
 (S (R<|b 15 .lss (t 14) (t 13)<|z)<|
 (S (.cond (t 15) [] []
 .skip
 (.exit 0))<|
 (S (.block 1 [] ([6]++g 16 4)
 (S (R<|m 16 14<|m 6 16<|z)<|
 (R<|m 17 5<|m 18 6<|cz 19 1 17 18<|n (.store 1 (t 19) (i (-1)))<|z)))<|
 (R<|b 20 .add (t 14) (i 1)<|m 14 20<|z)))))))<|
 (S (R<|b_ 7 0<|z)<|
 (S (S (R<|m 21 1<|dK 22 35 21<|m 23 0<|dK 24 58 23<|o 25 (.append 3 1 (t 22) (t 24))<|bW 26 25<|b_ 27 0<|z)<|
 (.block 2 [] ([7,9]++g 27 16)
 (.loop [7,27] ([9]++g 28 15)
 (S (R<|b 28 .lss (t 27) (t 26)<|z)<|
 (S (.cond (t 28) [] []
 .skip
 (.exit 2))<|
 (S (.block 3 [7] ([9]++g 29 13)
 (S (R<|cz 29 1 25 27<|l 30 29<|m 9 30<|z)<|
 (S (R<|m 31 5<|m 32 9<|cz 33 1 31 32<|l 34 33<|b 35 .lss (t 34) (i 0)<|z)<|
 (.cond (t 35) [7] (g 36 6)
 (S (R<|m 36 5<|m 37 9<|m 38 7<|cz 39 1 36 37<|bS 1 39 38<|z)<|
 (R<|m 40 7<|b 41 .add (t 40) (i 1)<|m 7 41<|z))
 .skip))))<|
 (R<|b 42 .add (t 27) (i 1)<|m 27 42<|z)))))))<|
 (S (R<|m 43 5<|m 4 43<|z)<|
 .ret)))))),[.tmp 4],[(.flat 1)]⟩
theorem aas:cc 51 Dl:=cf Tryz.func51 rfl
def Dm(b:aT)(c:Nat)(e g:U×Z)(h:U)(i:bg):(bg)->bg:=λb c j=>u (ar .lss (aK c 1) h) λh=>aD (λ_ h=>aD (λe h=>u (ar .add (aK c 1) (J E 1)) λc=>b [(aK e 0),c] (trim g.2 [(aK e 0),c] h)) λb=>u (bY 1 g.1 (aK c 1)) λg=>u (ab M 1 g h) λg=>u (bY 1 e.1 g) λi=>u (ab M 1 i h) λi=>u (ar .lss i (J E 0)) λi=>aD (λc e=>b [(aK c 0)] e) λb=>bb i (u (bY 1 e.1 g) λe=>u (bf 1 e (aK c 0) h) λe=>u (ar .add (aK c 0) (J E 1)) λc=>b [c] e) (b [(aK c 0)] h)) λb=>bb h (b [] j) (i [] j)
def Jz(b:aT)(c:Nat)(e:U×Z)(g:U)(h:bg):(bg)->bg:=λb c i=>u (ar .lss (aK c 0) g) λg=>aD (λ_ g=>aD (λ_ g=>u (ar .add (aK c 0) (J E 1)) λc=>b [c] (trim e.2 [c] g)) λb=>u (bY 1 e.1 (aK c 0)) λc=>u (bf 1 c (J E (-1)) g) λc=>b [] c) λb=>bb g (b [] i) (h [] i)
def Pb(b:aT)(c:Nat)(e g:U)(h:Z):bl:=u (p5 3 [J E 0] e e h) λi=>u (bB M i.1) λj=>aD (λ_ j=>u (b 35 [g] j) λg=>u (b 58 [e] g.2) λe=>u (eC 3 1 g.1 e.1 e.2) λe=>u (bB M e.1) λg=>aD (λ_ b=>aN [(.flat 1)] h b [i.1]) λh=>cv (Dm b c i e g h) c [(J E 0),(J E 0)] e.2) λe=>cv (Jz b c i j e) c [(J E 0)] i.2
open Go.aM.G in
def zz:b2:=⟨1,13,(S (R<|dr 1 27 0<|cw 2<|z)<|
 (S (R<|f 6 1 1<|l 7 6<|dK 8 56 7<|m 5 8<|eV 9 5 0<|eV 10 5 1<|o 3 (.new 83 ji)<|bS 29 3 9<|m 4 10<|z)<|
 (S (R<|f 11 6 3<|l 12 11<|m 2 12<|z)<|
 .ret))),[.tmp 2],[.aj]⟩
theorem aat:cc 52 zz:=cf Tryz.func52 rfl
def JB(b:aT)(c:Nat)(e:U)(g:Z):bl:=bK (.ptr g.length 0) (g++[.box (cn e) 27 .rw]) λc e=>u (aq 1 c) λc=>u (ab M 1 c e) λc=>u (b 56 [c] e) λb=>u (ek b.1 0) λc=>u (ek b.1 1) λ_=>bK (.ptr b.2.length 0) (b.2++[.box e8 83 .rw]) λb e=>u (bf 29 b c e) λc=>u (aq 6 b) λb=>u (ab M 1 b c) λb=>aN [.aj] g c [b]
open Go.aM.G in
def Dn:b2:=⟨1,11,(S (R<|o 2 (.new 83 ji)<|b_ 3 0<|z)<|
 (S (S (R<|m 4 0<|dK 5 101 4<|dE 6 5<|z)<|
 (.cond (t 6) [] [3,7]
 (S (R<|o 7 (.build ji [])<|bS 29 2 7<|b_ 3 6<|z)<|
 .ret)
 .skip))<|
 (S (R<|o 8 (.call 102 [])<|m 9 0<|o 10 (.rJ 7 V 29 (t 8) (t 9))<|bS 29 2 10<|b_ 3 0<|z)<|
 .ret))),[.cell 2 V 29,.tmp 3],[.aj,.aj]⟩
theorem aau:cc 53 Dn:=cf Tryz.func53 rfl
def Pc(b:aT)(c:Nat)(e:U)(g:Z):bl:=bK (.ptr g.length 0) (g++[.box e8 83 .rw]) λc h=>u (b 101 [e] h) λh=>u (dq .not h.1) λi=>aD (λ_ h=>u (b 102 [] h) λb=>u (rT 7 V 29 b.1 e) λe=>u (bf 29 c e b.2) λb=>u (ab V 29 c b) λc=>aN [.aj,.aj] g b [c,(J E 0)]) λb=>bb i (u (cV e8 []) λb=>u (bf 29 c (U.agg b) h.2) λb=>u (ab V 29 c b) λc=>aN [.aj,.aj] g b [c,(J E 6)]) (b [] h.2)
open Go.aM.G in
def Dp:b2:=⟨3,15,(S (R<|cw 6<|z)<|
 (S (R<|m 7 0<|m 8 1<|b 9 .geq (t 7) (t 8)<|m 10 9<|q 14 10 V [11,12,13] (m 11 0<|m 12 2<|b 13 .leq (t 11) (t 12)<|z) (t 13)<|
 m 6 14<|z)<|
 .ret)),[.tmp 6],[.aj]⟩
theorem aav:cc 54 Dp:=cf Tryz.func54 rfl
def Pd(b:aT)(c:Nat)(e g h:U)(i:Z):bl:=u (ar .geq e g) λb=>bc (λb c=>aN [.aj] i c [b]) λc=>bd b V (u (ar .leq e h) λb=>c b i) (c (.bool M) i)
open Go.aM.G in
def Dq:b2:=⟨2,22,(S (R<|o 4 (.new 39 [(.int .i64 0),(.slice none 0 0)])<|b_ 5 0<|z)<|
 (S (.block 0 [] (g 5 11)
 (S (R<|m 7 1<|dK 8 103 7<|dE 9 8<|m 6 9<|z)<|
 (.cond (t 6) [] ([5]++g 10 6)
 (S (R<|o 10 (.build [(.int .i64 0),(.slice none 0 0)] [])<|bS 2 4 10<|b_ 5 1<|z)<|
 .ret)
 (S (R<|m 12 0<|o 13 (.call 104 [(t 12),(i 1),(i 64)])<|dE 14 13<|m 11 14<|z)<|
 (.cond (t 11) [] [5,15]
 (S (R<|o 15 (.build [(.int .i64 0),(.slice none 0 0)] [])<|bS 2 4 15<|b_ 5 5<|z)<|
 .ret)
 .skip)))))<|
 (S (R<|m 16 0<|m 17 0<|m 18 1<|b 19 .mul (t 17) (t 18)<|o 20 (.mkSlice 41 Oz (t 19) (t 19))<|o 21 (.build [(.int .i64 0),(.slice none 0 0)] [(0,1,(t 16)),(1,1,(t 20))])<|bS 2 4 21<|b_ 5 0<|z)<|
 .ret))),[.cell 4 V 2,.tmp 5],[(.agg [.aj,(.flat 6)]),.aj]⟩
theorem aaw:cc 55 Dq:=cf Tryz.func55 rfl
def Pe(b:aT)(c:Nat)(e g:U)(h:Z):bl:=bK (.ptr h.length 0) (h++[.box [J E 0,.a7] 39 .rw]) λc i=>aD (λ_ b=>u (ar .mul e g) λg=>u (p5 41 [J E 0,J E 0,J E 0,J E 0,J E 0,J E 0] g g b) λb=>u (cV [J E 0,.a7] [(0,1,e),(1,1,b.1)]) λe=>u (bf 2 c (U.agg e) b.2) λb=>u (ab V 2 c b) λc=>aN [(.agg [.aj,(.flat 6)]),.aj] h b [c,(J E 0)]) λj=>u (b 103 [g] i) λg=>u (dq .not g.1) λi=>aD (λ_ b=>j [] b) λj=>bb i (u (cV [J E 0,.a7] []) λb=>u (bf 2 c (U.agg b) g.2) λb=>u (ab V 2 c b) λc=>aN [(.agg [.aj,(.flat 6)]),.aj] h b [c,(J E 1)]) (u (b 104 [e,(J E 1),(J E 64)] g.2) λb=>u (dq .not b.1) λe=>aD (λ_ b=>j [] b) λg=>bb e (u (cV [J E 0,.a7] []) λe=>u (bf 2 c (U.agg e) b.2) λb=>u (ab V 2 c b) λc=>aN [(.agg [.aj,(.flat 6)]),.aj] h b [c,(J E 5)]) (g [] b.2))
open Go.aM.G in
def Dr:b2:=⟨1,24,(S (R<|o 2 (.new 83 ji)<|b_ 3 0<|z)<|
 (S (S (R<|m 4 0<|z)<|
 (.block 0 [] ([3]++g 5 18)
 (S (R<|b 6 .eql (t 4) (i 1)<|m 5 6<|z)<|
 (.cond (t 5) [] ([3]++g 7 16)
 (S (R<|o 7 (.build ji [(0,1,(.const (.string ⟨#[102,111,117,114]⟩))),(1,1,(i 4)),(2,1,(i 32)),(3,1,(i 64)),(4,1,(i 49)),(5,1,(i 84)),(9,1,(i 1)),(10,1,(i 453)),(11,1,(i 3424)),(16,1,(i 5)),(17,1,(.const (.bool V))),(18,1,(i 1)),(19,1,(.const (.bool V))),(21,1,(i 1)),(22,1,(.const (.bool V))),(25,1,(.const (.bool V)))])<|bS 29 2 7<|b_ 3 0<|z)<|
 .ret)
 (S (R<|b 9 .eql (t 4) (i 2)<|m 8 9<|z)<|
 (.cond (t 8) [] ([3]++g 10 13)
 (S (R<|o 10 (.build ji [(0,1,(.const (.string ⟨#[115,99,114,101,97,109]⟩))),(1,1,(i 16)),(2,1,(i 32)),(3,1,(i 64)),(4,1,(i 13)),(5,1,(i 108)),(7,1,(.const (.bool V))),(9,1,(i 1)),(10,1,(i 64)),(11,1,(i 32767)),(16,1,(i 5))])<|bS 29 2 10<|b_ 3 0<|z)<|
 .ret)
 (S (R<|b 12 .eql (t 4) (i 3)<|m 11 12<|z)<|
 (.cond (t 11) [] ([3]++g 13 10)
 (S (R<|o 13 (.build ji [(0,1,(.const (.string ⟨#[102,97,115,116]⟩))),(1,1,(i 16)),(2,1,(i 32)),(4,1,(i 1)),(5,1,(i 96)),(6,1,(.const (.bool V))),(7,1,(.const (.bool V))),(8,1,(.const (.bool V))),(10,1,(i 32)),(11,1,(i 65535)),(12,1,(.const (.bool V))),(16,1,(i 6)),(17,1,(.const (.bool V))),(19,1,(.const (.bool V))),(20,1,(.const (.bool V))),(21,1,(i 1)),(23,1,(.const (.bool V))),(24,1,(.const (.bool V))),(25,1,(.const (.bool V))),(26,1,(.const (.bool V))),(27,1,(.const (.bool V)))])<|bS 29 2 13<|b_ 3 0<|z)<|
 .ret)
 (S (R<|b 15 .eql (t 4) (i 4)<|m 14 15<|z)<|
 (.cond (t 14) [] ([3]++g 16 7)
 (S (R<|o 16 (.build ji [(0,1,(.const (.string ⟨#[105,109,112,117,108,115,101]⟩))),(1,1,(i 16)),(2,1,(i 32)),(4,1,(i 1)),(5,1,(i 120)),(6,1,(.const (.bool V))),(7,1,(.const (.bool V))),(8,1,(.const (.bool V))),(10,1,(i 16)),(11,1,(i 65535)),(15,1,(.const (.bool V))),(16,1,(i 6)),(19,1,(.const (.bool V))),(21,1,(i 2)),(23,1,(.const (.bool V))),(27,1,(.const (.bool V)))])<|bS 29 2 16<|b_ 3 0<|z)<|
 .ret)
 (S (R<|b 18 .eql (t 4) (i 5)<|m 17 18<|z)<|
 (.cond (t 17) [] ([3]++g 19 4)
 (S (R<|o 19 (.build ji [(0,1,(.const (.string ⟨#[99,111,109,112,111,115,101]⟩))),(1,1,(i 8)),(2,1,(i 32)),(3,1,(i 64)),(4,1,(i 13)),(5,1,(i 72)),(9,1,(i 2)),(13,1,(.const (.bool V))),(16,1,(i 5)),(18,1,(i 2)),(28,1,(.const (.bool V)))])<|bS 29 2 19<|b_ 3 0<|z)<|
 .ret)
 (S (R<|b 21 .eql (t 4) (i 6)<|m 20 21<|z)<|
 (.cond (t 20) [] [3,22]
 (S (R<|o 22 (.build ji [(0,1,(.const (.string ⟨#[99,104,105,112]⟩))),(1,1,(i 4)),(2,1,(i 32)),(4,1,(i 13)),(5,1,(i 108)),(6,1,(.const (.bool V))),(9,1,(i 1)),(10,1,(i 16)),(11,1,(i 65535)),(14,1,(.const (.bool V))),(16,1,(i 5)),(17,1,(.const (.bool V))),(18,1,(i 2)),(23,1,(.const (.bool V))),(27,1,(.const (.bool V)))])<|bS 29 2 22<|b_ 3 0<|z)<|
 .ret)
 .skip))))))))))))))<|
 (S (R<|o 23 (.build ji [])<|bS 29 2 23<|b_ 3 6<|z)<|
 .ret))),[.cell 2 V 29,.tmp 3],[.aj,.aj]⟩
theorem aax:cc 56 Dr:=cf Tryz.func56 rfl
def Pf(b:aT)(c:Nat)(e:U)(g:Z):bl:=bK (.ptr g.length 0) (g++[.box e8 83 .rw]) λb c=>aD (λ_ c=>u (cV e8 []) λe=>u (bf 29 b (U.agg e) c) λc=>u (ab V 29 b c) λb=>aN [.aj,.aj] g c [b,(J E 6)]) λh=>u (ar .eql e (J E 1)) λi=>aD (λ_ b=>h [] b) λh=>bb i (u (cV e8 [(0,1,(.str ⟨#[102,111,117,114]⟩:U)),(1,1,(J E 4)),(2,1,(J E 32)),(3,1,(J E 64)),(4,1,(J E 49)),(5,1,(J E 84)),(9,1,(J E 1)),(10,1,(J E 453)),(11,1,(J E 3424)),(16,1,(J E 5)),(17,1,(.bool V)),(18,1,(J E 1)),(19,1,(.bool V)),(21,1,(J E 1)),(22,1,(.bool V)),(25,1,(.bool V))]) λe=>u (bf 29 b (U.agg e) c) λc=>u (ab V 29 b c) λb=>aN [.aj,.aj] g c [b,(J E 0)]) (u (ar .eql e (J E 2)) λi=>aD (λ_ b=>h [] b) λh=>bb i (u (cV e8 [(0,1,(.str ⟨#[115,99,114,101,97,109]⟩:U)),(1,1,(J E 16)),(2,1,(J E 32)),(3,1,(J E 64)),(4,1,(J E 13)),(5,1,(J E 108)),(7,1,(.bool V)),(9,1,(J E 1)),(10,1,(J E 64)),(11,1,(J E 32767)),(16,1,(J E 5))]) λe=>u (bf 29 b (U.agg e) c) λc=>u (ab V 29 b c) λb=>aN [.aj,.aj] g c [b,(J E 0)]) (u (ar .eql e (J E 3)) λi=>aD (λ_ b=>h [] b) λh=>bb i (u (cV e8 [(0,1,(.str ⟨#[102,97,115,116]⟩:U)),(1,1,(J E 16)),(2,1,(J E 32)),(4,1,(J E 1)),(5,1,(J E 96)),(6,1,(.bool V)),(7,1,(.bool V)),(8,1,(.bool V)),(10,1,(J E 32)),(11,1,(J E 65535)),(12,1,(.bool V)),(16,1,(J E 6)),(17,1,(.bool V)),(19,1,(.bool V)),(20,1,(.bool V)),(21,1,(J E 1)),(23,1,(.bool V)),(24,1,(.bool V)),(25,1,(.bool V)),(26,1,(.bool V)),(27,1,(.bool V))]) λe=>u (bf 29 b (U.agg e) c) λc=>u (ab V 29 b c) λb=>aN [.aj,.aj] g c [b,(J E 0)]) (u (ar .eql e (J E 4)) λi=>aD (λ_ b=>h [] b) λh=>bb i (u (cV e8 [(0,1,(.str ⟨#[105,109,112,117,108,115,101]⟩:U)),(1,1,(J E 16)),(2,1,(J E 32)),(4,1,(J E 1)),(5,1,(J E 120)),(6,1,(.bool V)),(7,1,(.bool V)),(8,1,(.bool V)),(10,1,(J E 16)),(11,1,(J E 65535)),(15,1,(.bool V)),(16,1,(J E 6)),(19,1,(.bool V)),(21,1,(J E 2)),(23,1,(.bool V)),(27,1,(.bool V))]) λe=>u (bf 29 b (U.agg e) c) λc=>u (ab V 29 b c) λb=>aN [.aj,.aj] g c [b,(J E 0)]) (u (ar .eql e (J E 5)) λi=>aD (λ_ b=>h [] b) λh=>bb i (u (cV e8 [(0,1,(.str ⟨#[99,111,109,112,111,115,101]⟩:U)),(1,1,(J E 8)),(2,1,(J E 32)),(3,1,(J E 64)),(4,1,(J E 13)),(5,1,(J E 72)),(9,1,(J E 2)),(13,1,(.bool V)),(16,1,(J E 5)),(18,1,(J E 2)),(28,1,(.bool V))]) λe=>u (bf 29 b (U.agg e) c) λc=>u (ab V 29 b c) λb=>aN [.aj,.aj] g c [b,(J E 0)]) (u (ar .eql e (J E 6)) λe=>aD (λ_ b=>h [] b) λh=>bb e (u (cV e8 [(0,1,(.str ⟨#[99,104,105,112]⟩:U)),(1,1,(J E 4)),(2,1,(J E 32)),(4,1,(J E 13)),(5,1,(J E 108)),(6,1,(.bool V)),(9,1,(J E 1)),(10,1,(J E 16)),(11,1,(J E 65535)),(14,1,(.bool V)),(16,1,(J E 5)),(17,1,(.bool V)),(18,1,(J E 2)),(23,1,(.bool V)),(27,1,(.bool V))]) λe=>u (bf 29 b (U.agg e) c) λc=>u (ab V 29 b c) λb=>aN [.aj,.aj] g c [b,(J E 0)]) (h [] c))))))
open Go.aM.G in
def Ds:b2:=⟨3,15,(S (R<|cw 6<|z)<|
 (S (R<|m 7 1<|m 8 0<|b 9 .leq (t 7) (t 8)<|m 10 9<|q 14 10 V [11,12,13] (m 11 0<|m 12 2<|b 13 .leq (t 11) (t 12)<|z) (t 13)<|
 m 6 14<|z)<|
 .ret)),[.tmp 6],[.aj]⟩
theorem aay:cc 57 Ds:=cf Tryz.func57 rfl
def Pg(b:aT)(c:Nat)(e g h:U)(i:Z):bl:=u (ar .leq g e) λb=>bc (λb c=>aN [.aj] i c [b]) λc=>bd b V (u (ar .leq e h) λb=>c b i) (c (.bool M) i)
open Go.aM.G in
def Dt:b2:=⟨1,15,(S (R<|o 2 (.move (.const (.slice none 0 0)))<|z)<|
 (S (R<|(.op (y 3) (.sS 3 1) .no<|z))<|
 (S (S (R<|b_ 4 0<|z)<|
 (.block 0 [3] (g 4 10)
 (.loop [3,4] (g 5 9)
 (S (S (R<|m 5 4<|m 6 0<|b 7 .lss (t 5) (t 6)<|z)<|
 (.cond (t 7) [] []
 .skip
 (.exit 0)))<|
 (S (.block 1 [3] (g 10 4)
 (R<|m 10 3<|m 11 4<|(.op (y 12) (.mq 3 [(.int .i64 0)] 1 [(0,1,(t 11))]) .no<|o 13 (.append 3 1 (t 10) (t 12))<|m 3 13<|z)))<|
 (R<|m 8 4<|b 9 .add (t 8) (i 1)<|m 4 9<|z))))))<|
 (S (R<|m 14 3<|m 2 14<|z)<|
 .ret)))),[.tmp 2],[(.flat 1)]⟩
theorem aaz:cc 58 Dt:=cf Tryz.func58 rfl
def JC(b:aT)(c:Nat)(e:U)(g:Z)(h:bg):(bg)->bg:=λb c i=>u (ar .lss (aK c 1) e) λe=>aD (λ_ e=>aD (λe h=>u (ar .add (aK c 1) (J E 1)) λc=>b [(aK e 0),c] (trim g [(aK e 0),c] h)) λb=>u (cV (h_ [J E 0] 1) [(0,1,(aK c 1))]) λg=>hb (g.all fR) (bK (.bE 1 (h9 1 1 g)) (e) λe g=>u (eC 3 1 (aK c 0) e g) λc=>b [c.1] c.2)) λb=>bb e (b [] i) (h [(aK c 0)] i)
def Ph(b:aT)(c:Nat)(e:U)(g:Z):bl:=bK (.ref g.length 0 0 0 1) (g++[.log [] 1 3 .rw]) λh i=>aD (λb c=>aN [(.flat 1)] g c [(aK b 0)]) λg=>cv (JC b c e i g) c [h,(J E 0)] i
open Go.aM.G in
def Du:b2:=⟨1,28,(S (R<|dr 1 104 0<|o 2 (.new 108 eY)<|cw 3<|z)<|
 (S (.block 0 [] (g 3 24)
 (S (R<|f 5 0 1<|f 6 0 5<|l 7 6<|dK 8 114 7<|dE 9 8<|m 4 9<|z)<|
 (.cond (t 4) [] ([3]++g 10 17)
 (S (R<|o 10 (.build eY [(0,1,(.const (.string ⟨#[110,97,109,101]⟩))),(1,1,(i 0)),(2,1,(i 1))])<|bS 3 2 10<|gC 3<|z)<|
 .ret)
 (S (R<|f 12 13 1<|f 13 1 12<|l 14 13<|b 15 .eql (t 14) (i 0)<|m 11 15<|z)<|
 (.cond (t 11) [] ([3]++g 16 11)
 (S (R<|o 16 (.build eY [(0,1,(.const (.string ⟨#[100,105,97,108,101,99,116]⟩))),(1,1,(i 0)),(2,1,(i 6))])<|bS 3 2 16<|gC 3<|z)<|
 .ret)
 (S (R<|f 18 0 1<|f 19 2 18<|l 20 19<|f 21 13 1<|f 22 1 21<|l 23 22<|o 24 (.call 54 [(t 20),(i 1),(t 23)])<|dE 25 24<|m 17 25<|z)<|
 (.cond (t 17) [] [3,26]
 (S (R<|o 26 (.build eY [(0,1,(.const (.string ⟨#[99,104,97,110,110,101,108,115]⟩))),(1,1,(i 0)),(2,1,(i 5))])<|bS 3 2 26<|gC 3<|z)<|
 .ret)
 .skip)))))))<|
 (S (R<|o 27 (.build eY [])<|bS 3 2 27<|cw 3<|z)<|
 .ret))),[.cell 2 V 3,.tmp 3],[.aj,.aj]⟩
theorem aaA:cc 68 Du:=cf Tryz.func68 rfl
def Pj(b:aT)(c:Nat)(e:U)(g:Z):bl:=bK (.ptr g.length 0) (g++[.box (cn e) 104 .rw]) λc e=>bK (.ptr e.length 0) (e++[.box [.str ⟨#[]⟩,J E 0,J E 0] 108 .rw]) λe h=>aD (λ_ b=>u (cV [.str ⟨#[]⟩,J E 0,J E 0] []) λc=>u (bf 3 e (U.agg c) b) λb=>u (ab V 3 e b) λc=>aN [.aj,.aj] g b [c,(.bool M)]) λi=>u (aq 0 c) λj=>u (aq 0 j) λj=>u (ab M 1 j h) λj=>u (b 114 [j] h) λh=>u (dq .not h.1) λj=>aD (λ_ b=>i [] b) λi=>bb j (u (cV [.str ⟨#[]⟩,J E 0,J E 0] [(0,1,(.str ⟨#[110,97,109,101]⟩:U)),(1,1,(J E 0)),(2,1,(J E 1))]) λb=>u (bf 3 e (U.agg b) h.2) λb=>u (ab V 3 e b) λc=>aN [.aj,.aj] g b [c,(.bool V)]) (u (aq 13 c) λj=>u (aq 1 j) λj=>u (ab M 1 j h.2) λj=>u (ar .eql j (J E 0)) λj=>aD (λ_ b=>i [] b) λi=>bb j (u (cV [.str ⟨#[]⟩,J E 0,J E 0] [(0,1,(.str ⟨#[100,105,97,108,101,99,116]⟩:U)),(1,1,(J E 0)),(2,1,(J E 6))]) λb=>u (bf 3 e (U.agg b) h.2) λb=>u (ab V 3 e b) λc=>aN [.aj,.aj] g b [c,(.bool V)]) (u (aq 0 c) λj=>u (aq 2 j) λj=>u (ab M 1 j h.2) λj=>u (aq 13 c) λc=>u (aq 1 c) λc=>u (ab M 1 c h.2) λc=>u (b 54 [j,(J E 1),c] h.2) λb=>u (dq .not b.1) λc=>aD (λ_ b=>i [] b) λh=>bb c (u (cV [.str ⟨#[]⟩,J E 0,J E 0] [(0,1,(.str ⟨#[99,104,97,110,110,101,108,115]⟩:U)),(1,1,(J E 0)),(2,1,(J E 5))]) λc=>u (bf 3 e (U.agg c) b.2) λb=>u (ab V 3 e b) λc=>aN [.aj,.aj] g b [c,(.bool V)]) (h [] b.2)))
open Go.aM.G in
def Dv:b2:=⟨1,61,(S (R<|dr 1 104 0<|o 2 (.new 108 eY)<|cw 3<|z)<|
 (S (S (R<|f 6 0 1<|f 7 10 6<|l 8 7<|bW 9 8<|f 10 13 1<|f 11 2 10<|l 12 11<|o 13 (.call 54 [(t 9),(i 1),(t 12)])<|dE 14 13<|z)<|
 (.cond (t 14) [] [3,15]
 (S (R<|o 15 (.build eY [(0,1,(.const (.string ⟨#[112,97,116,116,101,114,110,115]⟩))),(1,1,(i 0)),(2,1,(i 4))])<|bS 3 2 15<|gC 3<|z)<|
 .ret)
 .skip))<|
 (S (S (R<|f 16 0 1<|f 17 10 16<|l 18 17<|bW 19 18<|b_ 20 0<|z)<|
 (.block 0 [] ([3,4,5]++g 20 40)
 (.loop [20] ([3,4,5]++g 21 39)
 (S (R<|b 21 .lss (t 20) (t 19)<|z)<|
 (S (.cond (t 21) [] []
 .skip
 (.exit 0))<|
 (S (.block 1 [] ([3,4,5]++g 22 37)
 (S (R<|m 22 20<|cz 23 2 18 20<|bR 24 2 23<|o 5 (.new 39 [(.int .i64 0),(.slice none 0 0)])<|m 4 22<|bS 2 5 24<|z)<|
 (S (S (R<|f 25 13 1<|f 26 3 25<|l 27 26<|b 28 .neq (t 27) (i 0)<|m 29 28<|q 36 29 V (g 30 6) (f 30 0 5<|l 31 30<|f 32 13 1<|f 33 3 32<|l 34 33<|b 35 .neq (t 31) (t 34)<|z) (t 35)<|
 m 37 36<|q 44 37 M (g 38 6) (bR 38 2 5<|f 39 0 1<|f 40 2 39<|l 41 40<|F 38 (.agg [.aj,(.flat 6)])<|eF 42 115 38 41<|dE 43 42<|z) (t 43)<|
 m 45 44<|q 50 45 M (g 46 4) (f 46 1 5<|l 47 46<|o 48 (.ko 117 [] [(t 1)])<|F 47 (.flat 6)<|eF 49 116 47 48<|z) (t 49)<|
 z)<|
 (.cond (t 50) [] [3,51,52]
 (S (R<|m 51 4<|o 52 (.build eY [(0,1,(.const (.string ⟨#[112,97,116,116,101,114,110,115]⟩))),(1,1,(t 51)),(2,1,(i 1))])<|bS 3 2 52<|gC 3<|z)<|
 .ret)
 .skip))<|
 (S (R<|f 53 1 5<|l 54 53<|o 55 (.ko 119 [] [(t 1)])<|F 54 (.flat 6)<|eF 56 116 54 55<|z)<|
 (.cond (t 56) [] [3,57,58]
 (S (R<|m 57 4<|o 58 (.build eY [(0,1,(.const (.string ⟨#[112,97,116,116,101,114,110,115]⟩))),(1,1,(t 57)),(2,1,(i 10))])<|bS 3 2 58<|gC 3<|z)<|
 .ret)
 .skip)))))<|
 (R<|b 59 .add (t 20) (i 1)<|m 20 59<|z)))))))<|
 (S (R<|o 60 (.build eY [])<|bS 3 2 60<|cw 3<|z)<|
 .ret)))),[.cell 2 V 3,.tmp 3],[.aj,.aj]⟩
theorem aaB:cc 69 Dv:=cf Tryz.func69 rfl
def Dw(b:aT)(c:Nat)(e:Z)(g h:U)(i:Z)(j k:U)(l:bg):(bg)->bg:=λc m n=>u (ar .lss (aK m 0) k) λk=>aD (λ_ k=>aD (λ_ b=>u (ar .add (aK m 0) (J E 1)) λe=>c [e] (trim i [e] b)) λc=>u (bY 2 j (aK m 0)) λi=>u (ab V 2 i k) λi=>bK (.ptr k.length 0) (k++[.box [J E 0,.a7] 39 .rw]) λj k=>u (bf 2 j i k) λi=>u (aq 13 g) λk=>u (aq 3 k) λk=>u (ab M 1 k i) λk=>u (ar .neq k (J E 0)) λk=>bc (λi k=>bc (λi k=>bc (λi k=>aD (λ_ i=>u (aq 1 j) λj=>u (ab M 1 j i) λj=>u (cC (.flat 6) j i) λi=>u (b 116 [i.1,(U.func 119 [] [g])] i.2) λb=>aD (λ_ b=>c [] b) λc=>bb b.1 (u (cV [.str ⟨#[]⟩,J E 0,J E 0] [(0,1,(.str ⟨#[112,97,116,116,101,114,110,115]⟩:U)),(1,1,(aK m 0)),(2,1,(J E 10))]) λc=>u (bf 3 h (U.agg c) b.2) λb=>u (ab V 3 h b) λc=>aN [.aj,.aj] e b [c,(.bool V)]) (c [] b.2)) λb=>bb i (u (cV [.str ⟨#[]⟩,J E 0,J E 0] [(0,1,(.str ⟨#[112,97,116,116,101,114,110,115]⟩:U)),(1,1,(aK m 0)),(2,1,(J E 1))]) λb=>u (bf 3 h (U.agg b) k) λb=>u (ab V 3 h b) λc=>aN [.aj,.aj] e b [c,(.bool V)]) (b [] k)) λc=>bd i M (u (aq 1 j) λe=>u (ab M 1 e k) λe=>u (cC (.flat 6) e k) λe=>u (b 116 [e.1,(U.func 117 [] [g])] e.2) λb=>c b.1 b.2) (c (.bool V) k)) λc=>bd i M (u (ab V 2 j k) λe=>u (aq 0 g) λg=>u (aq 2 g) λg=>u (ab M 1 g k) λg=>u (cC (.agg [.aj,(.flat 6)]) e k) λe=>u (b 115 [e.1,g] e.2) λb=>u (dq .not b.1) λe=>c e b.2) (c (.bool V) k)) λb=>bd k V (u (aq 0 j) λc=>u (ab M 1 c i) λc=>u (aq 13 g) λe=>u (aq 3 e) λe=>u (ab M 1 e i) λe=>u (ar .neq c e) λc=>b c i) (b (.bool M) i)) λb=>bb k (b [] n) (l [] n)
def Pk(b:aT)(c:Nat)(e:U)(g:Z):bl:=bK (.ptr g.length 0) (g++[.box (cn e) 104 .rw]) λe h=>bK (.ptr h.length 0) (h++[.box [.str ⟨#[]⟩,J E 0,J E 0] 108 .rw]) λh i=>u (aq 0 e) λj=>u (aq 10 j) λj=>u (ab M 1 j i) λj=>u (bB M j) λj=>u (aq 13 e) λk=>u (aq 2 k) λk=>u (ab M 1 k i) λk=>u (b 54 [j,(J E 1),k] i) λi=>u (dq .not i.1) λj=>aD (λ_ i=>u (aq 0 e) λj=>u (aq 10 j) λj=>u (ab M 1 j i) λj=>u (bB M j) λk=>aD (λ_ b=>u (cV [.str ⟨#[]⟩,J E 0,J E 0] []) λc=>u (bf 3 h (U.agg c) b) λb=>u (ab V 3 h b) λc=>aN [.aj,.aj] g b [c,(.bool M)]) λl=>cv (Dw b c g e h i j k l) c [(J E 0)] i) λb=>bb j (u (cV [.str ⟨#[]⟩,J E 0,J E 0] [(0,1,(.str ⟨#[112,97,116,116,101,114,110,115]⟩:U)),(1,1,(J E 0)),(2,1,(J E 4))]) λb=>u (bf 3 h (U.agg b) i.2) λb=>u (ab V 3 h b) λc=>aN [.aj,.aj] g b [c,(.bool V)]) (b [] i.2)
open Go.aM.G in
def Dx:b2:=⟨1,32,(S (R<|dr 1 104 0<|o 2 (.new 108 eY)<|cw 3<|z)<|
 (S (S (R<|f 5 0 1<|f 6 3 5<|l 7 6<|bW 8 7<|o 9 (.call 54 [(t 8),(i 1),(i 64)])<|dE 10 9<|z)<|
 (.cond (t 10) [] [3,11]
 (S (R<|o 11 (.build eY [(0,1,(.const (.string ⟨#[111,114,100,101,114,115]⟩))),(1,1,(i 0)),(2,1,(i 4))])<|bS 3 2 11<|gC 3<|z)<|
 .ret)
 .skip))<|
 (S (S (R<|f 12 0 1<|f 13 3 12<|l 14 13<|o 15 (.ko 122 [] [(t 1)])<|F 14 (.flat 1)<|eF 16 121 14 15<|m 4 16<|z)<|
 (S (R<|m 17 4<|b 18 .geq (t 17) (i 0)<|z)<|
 (.cond (t 18) [] [3,19,20]
 (S (R<|m 19 4<|o 20 (.build eY [(0,1,(.const (.string ⟨#[111,114,100,101,114,115]⟩))),(1,1,(t 19)),(2,1,(i 10))])<|bS 3 2 20<|gC 3<|z)<|
 .ret)
 .skip)))<|
 (S (R<|o 21 (.build eY [(0,1,(.const (.string ⟨#[114,101,115,116,97,114,116]⟩))),(1,1,(i 0)),(2,1,(i 5))])<|f 22 0 1<|f 23 4 22<|l 24 23<|f 25 0 1<|f 26 3 25<|l 27 26<|bW 28 27<|b 29 .sub (t 28) (i 1)<|o 30 (.call 54 [(t 24),(i 0),(t 29)])<|dE 31 30<|bS 3 2 21<|m 3 31<|z)<|
 .ret)))),[.cell 2 V 3,.tmp 3],[.aj,.aj]⟩
theorem aaC:cc 70 Dx:=cf Tryz.func70 rfl
def Pl(b:aT)(c:Nat)(e:U)(g:Z):bl:=bK (.ptr g.length 0) (g++[.box (cn e) 104 .rw]) λc e=>bK (.ptr e.length 0) (e++[.box [.str ⟨#[]⟩,J E 0,J E 0] 108 .rw]) λe h=>u (aq 0 c) λi=>u (aq 3 i) λi=>u (ab M 1 i h) λi=>u (bB M i) λi=>u (b 54 [i,(J E 1),(J E 64)] h) λh=>u (dq .not h.1) λi=>aD (λ_ h=>u (aq 0 c) λi=>u (aq 3 i) λi=>u (ab M 1 i h) λi=>u (cC (.flat 1) i h) λh=>u (b 121 [h.1,(U.func 122 [] [c])] h.2) λh=>u (ar .geq h.1 (J E 0)) λi=>aD (λ_ h=>u (cV [.str ⟨#[]⟩,J E 0,J E 0] [(0,1,(.str ⟨#[114,101,115,116,97,114,116]⟩:U)),(1,1,(J E 0)),(2,1,(J E 5))]) λi=>u (aq 0 c) λj=>u (aq 4 j) λj=>u (ab M 1 j h) λj=>u (aq 0 c) λc=>u (aq 3 c) λc=>u (ab M 1 c h) λc=>u (bB M c) λc=>u (ar .sub c (J E 1)) λc=>u (b 54 [j,(J E 0),c] h) λb=>u (dq .not b.1) λc=>u (bf 3 e (U.agg i) b.2) λb=>u (ab V 3 e b) λe=>aN [.aj,.aj] g b [e,c]) λb=>bb i (u (cV [.str ⟨#[]⟩,J E 0,J E 0] [(0,1,(.str ⟨#[111,114,100,101,114,115]⟩:U)),(1,1,h.1),(2,1,(J E 10))]) λb=>u (bf 3 e (U.agg b) h.2) λb=>u (ab V 3 e b) λc=>aN [.aj,.aj] g b [c,(.bool V)]) (b [] h.2)) λb=>bb i (u (cV [.str ⟨#[]⟩,J E 0,J E 0] [(0,1,(.str ⟨#[111,114,100,101,114,115]⟩:U)),(1,1,(J E 0)),(2,1,(J E 4))]) λb=>u (bf 3 e (U.agg b) h.2) λb=>u (ab V 3 e b) λc=>aN [.aj,.aj] g b [c,(.bool V)]) (b [] h.2)
open Go.aM.G in
def Dy:b2:=⟨1,55,(S (R<|dr 1 104 0<|o 2 (.new 108 eY)<|cw 3<|z)<|
 (S (.block 0 [] ([3]++g 5 42)
 (S (R<|f 6 0 1<|f 7 5 6<|l 8 7<|o 9 (.call 54 [(t 8),(i 1),(i 31)])<|dE 10 9<|m 5 10<|z)<|
 (.cond (t 5) [] ([3]++g 11 36)
 (S (R<|o 11 (.build eY [(0,1,(.const (.string ⟨#[115,112,101,101,100]⟩))),(1,1,(i 0)),(2,1,(i 5))])<|bS 3 2 11<|gC 3<|z)<|
 .ret)
 (S (R<|f 13 0 1<|f 14 6 13<|l 15 14<|o 16 (.call 54 [(t 15),(i 32),(i 255)])<|dE 17 16<|m 12 17<|z)<|
 (.cond (t 12) [] ([3]++g 18 29)
 (S (R<|o 18 (.build eY [(0,1,(.const (.string ⟨#[116,101,109,112,111]⟩))),(1,1,(i 0)),(2,1,(i 5))])<|bS 3 2 18<|gC 3<|z)<|
 .ret)
 (S (R<|f 20 0 1<|f 21 7 20<|l 22 21<|o 23 (.call 54 [(t 22),(i 0),(i 128)])<|dE 24 23<|m 19 24<|z)<|
 (.cond (t 19) [] ([3]++g 25 22)
 (S (R<|o 25 (.build eY [(0,1,(.const (.string ⟨#[103,108,111,98,97,108]⟩))),(1,1,(i 0)),(2,1,(i 5))])<|bS 3 2 25<|gC 3<|z)<|
 .ret)
 (S (R<|f 27 0 1<|f 28 8 27<|l 29 28<|m 30 29<|q 35 30 V (g 31 4) (f 31 13 1<|f 32 8 31<|l 33 32<|dE 34 33<|z) (t 34)<|
 m 26 35<|z)<|
 (.cond (t 26) [] ([3]++g 36 11)
 (S (R<|o 36 (.build eY [(0,1,(.const (.string ⟨#[108,105,110,101,97,114]⟩))),(1,1,(i 0)),(2,1,(i 6))])<|bS 3 2 36<|gC 3<|z)<|
 .ret)
 (S (R<|f 38 0 1<|f 39 9 38<|l 40 39<|bW 41 40<|f 42 0 1<|f 43 2 42<|l 44 43<|b 45 .neq (t 41) (t 44)<|m 37 45<|z)<|
 (.cond (t 37) [] [3,46]
 (S (R<|o 46 (.build eY [(0,1,(.const (.string ⟨#[112,97,110,115]⟩))),(1,1,(i 0)),(2,1,(i 4))])<|bS 3 2 46<|gC 3<|z)<|
 .ret)
 .skip)))))))))))<|
 (S (R<|f 47 0 1<|f 48 9 47<|l 49 48<|o 50 (.call 121 [(t 49),(.func 123)])<|m 4 50<|z)<|
 (S (R<|m 51 4<|o 52 (.build eY [(0,1,(.const (.string ⟨#[112,97,110,115]⟩))),(1,1,(t 51)),(2,1,(i 5))])<|m 53 4<|b 54 .geq (t 53) (i 0)<|bS 3 2 52<|m 3 54<|z)<|
 .ret)))),[.cell 2 V 3,.tmp 3],[.aj,.aj]⟩
theorem aaD:cc 71 Dy:=cf Tryz.func71 rfl
def Pm(b:aT)(c:Nat)(e:U)(g:Z):bl:=bK (.ptr g.length 0) (g++[.box (cn e) 104 .rw]) λc e=>bK (.ptr e.length 0) (e++[.box [.str ⟨#[]⟩,J E 0,J E 0] 108 .rw]) λe h=>aD (λ_ h=>u (aq 0 c) λc=>u (aq 9 c) λc=>u (ab M 1 c h) λc=>u (b 121 [c,(U.func 123 [] [])] h) λb=>u (cV [.str ⟨#[]⟩,J E 0,J E 0] [(0,1,(.str ⟨#[112,97,110,115]⟩:U)),(1,1,b.1),(2,1,(J E 5))]) λc=>u (ar .geq b.1 (J E 0)) λh=>u (bf 3 e (U.agg c) b.2) λb=>u (ab V 3 e b) λc=>aN [.aj,.aj] g b [c,h]) λi=>u (aq 0 c) λj=>u (aq 5 j) λj=>u (ab M 1 j h) λj=>u (b 54 [j,(J E 1),(J E 31)] h) λh=>u (dq .not h.1) λj=>aD (λ_ b=>i [] b) λi=>bb j (u (cV [.str ⟨#[]⟩,J E 0,J E 0] [(0,1,(.str ⟨#[115,112,101,101,100]⟩:U)),(1,1,(J E 0)),(2,1,(J E 5))]) λb=>u (bf 3 e (U.agg b) h.2) λb=>u (ab V 3 e b) λc=>aN [.aj,.aj] g b [c,(.bool V)]) (u (aq 0 c) λj=>u (aq 6 j) λj=>u (ab M 1 j h.2) λj=>u (b 54 [j,(J E 32),(J E 255)] h.2) λh=>u (dq .not h.1) λj=>aD (λ_ b=>i [] b) λi=>bb j (u (cV [.str ⟨#[]⟩,J E 0,J E 0] [(0,1,(.str ⟨#[116,101,109,112,111]⟩:U)),(1,1,(J E 0)),(2,1,(J E 5))]) λb=>u (bf 3 e (U.agg b) h.2) λb=>u (ab V 3 e b) λc=>aN [.aj,.aj] g b [c,(.bool V)]) (u (aq 0 c) λj=>u (aq 7 j) λj=>u (ab M 1 j h.2) λj=>u (b 54 [j,(J E 0),(J E 128)] h.2) λb=>u (dq .not b.1) λh=>aD (λ_ b=>i [] b) λi=>bb h (u (cV [.str ⟨#[]⟩,J E 0,J E 0] [(0,1,(.str ⟨#[103,108,111,98,97,108]⟩:U)),(1,1,(J E 0)),(2,1,(J E 5))]) λc=>u (bf 3 e (U.agg c) b.2) λb=>u (ab V 3 e b) λc=>aN [.aj,.aj] g b [c,(.bool V)]) (u (aq 0 c) λh=>u (aq 8 h) λh=>u (ab M 1 h b.2) λh=>bc (λb h=>aD (λ_ b=>i [] b) λi=>bb b (u (cV [.str ⟨#[]⟩,J E 0,J E 0] [(0,1,(.str ⟨#[108,105,110,101,97,114]⟩:U)),(1,1,(J E 0)),(2,1,(J E 6))]) λb=>u (bf 3 e (U.agg b) h) λb=>u (ab V 3 e b) λc=>aN [.aj,.aj] g b [c,(.bool V)]) (u (aq 0 c) λb=>u (aq 9 b) λb=>u (ab M 1 b h) λb=>u (bB M b) λb=>u (aq 0 c) λc=>u (aq 2 c) λc=>u (ab M 1 c h) λc=>u (ar .neq b c) λb=>aD (λ_ b=>i [] b) λc=>bb b (u (cV [.str ⟨#[]⟩,J E 0,J E 0] [(0,1,(.str ⟨#[112,97,110,115]⟩:U)),(1,1,(J E 0)),(2,1,(J E 4))]) λb=>u (bf 3 e (U.agg b) h) λb=>u (ab V 3 e b) λc=>aN [.aj,.aj] g b [c,(.bool V)]) (c [] h))) λe=>bd h V (u (aq 13 c) λc=>u (aq 8 c) λc=>u (ab M 1 c b.2) λc=>u (dq .not c) λc=>e c b.2) (e (.bool M) b.2))))
open Go.aM.G in
def Dz:b2:=⟨1,75,(S (R<|dr 1 104 0<|o 2 (.new 108 eY)<|cw 3<|z)<|
 (S (S (R<|f 7 0 1<|f 8 11 7<|l 9 8<|bW 10 9<|b 11 .gtr (t 10) (i 31)<|m 12 11<|q 24 12 M (g 13 5++[23]++g 18 5) (f 13 0 1<|f 14 1 13<|l 15 14<|b 16 .eql (t 15) (i 6)<|m 17 16<|q 23 17 V (g 18 5) (f 18 0 1<|f 19 11 18<|l 20 19<|bW 21 20<|b 22 .gtr (t 21) (i 0)<|z) (t 22)<|
 z) (t 23)<|
 z)<|
 (.cond (t 24) [] [3,25]
 (S (R<|o 25 (.build eY [(0,1,(.const (.string ⟨#[115,97,109,112,108,101,115]⟩))),(1,1,(i 0)),(2,1,(i 4))])<|bS 3 2 25<|gC 3<|z)<|
 .ret)
 .skip))<|
 (S (S (R<|f 26 0 1<|f 27 11 26<|l 28 27<|F 28 (.bZ 13 OD)<|o 29 (.call 124 [(t 28),(.func 125)])<|m 4 29<|z)<|
 (S (R<|m 30 4<|b 31 .geq (t 30) (i 0)<|z)<|
 (.cond (t 31) [] [3,32,33]
 (S (R<|m 32 4<|o 33 (.build eY [(0,1,(.const (.string ⟨#[115,97,109,112,108,101,115]⟩))),(1,1,(t 32)),(2,1,(i 1))])<|bS 3 2 33<|gC 3<|z)<|
 .ret)
 .skip)))<|
 (S (S (R<|f 34 0 1<|f 35 12 34<|l 36 35<|bW 37 36<|b 38 .gtr (t 37) (i 31)<|m 39 38<|q 51 39 M (g 40 5++[50]++g 45 5) (f 40 13 1<|f 41 6 40<|l 42 41<|dE 43 42<|m 44 43<|q 50 44 V (g 45 5) (f 45 0 1<|f 46 12 45<|l 47 46<|bW 48 47<|b 49 .gtr (t 48) (i 0)<|z) (t 49)<|
 z) (t 50)<|
 z)<|
 (.cond (t 51) [] [3,52]
 (S (R<|o 52 (.build eY [(0,1,(.const (.string ⟨#[105,110,115,116,115]⟩))),(1,1,(i 0)),(2,1,(i 4))])<|bS 3 2 52<|gC 3<|z)<|
 .ret)
 .skip))<|
 (S (S (R<|f 53 0 1<|f 54 12 53<|l 55 54<|bW 56 55<|b_ 57 0<|z)<|
 (.block 0 [] ([3,5,6]++g 57 17)
 (.loop [57] ([3,5,6]++g 58 16)
 (S (R<|b 58 .lss (t 57) (t 56)<|z)<|
 (S (.cond (t 58) [] []
 .skip
 (.exit 0))<|
 (S (.block 1 [] ([3,5,6]++g 59 14)
 (S (R<|m 59 57<|cz 60 33 55 57<|bR 61 33 60<|o 6 (.new 57 r5)<|m 5 59<|bS 33 6 61<|z)<|
 (S (S (R<|bR 62 33 6<|F 62 (.agg Ji)<|dK 63 127 62<|dE 64 63<|z)<|
 (.cond (t 64) [] [3,65,66]
 (S (R<|m 65 5<|o 66 (.build eY [(0,1,(.const (.string ⟨#[105,110,115,116,115]⟩))),(1,1,(t 65)),(2,1,(i 1))])<|bS 3 2 66<|gC 3<|z)<|
 .ret)
 .skip))<|
 (S (R<|f 67 1 6<|l 68 67<|o 69 (.ko 129 [] [(t 1)])<|F 68 (.flat 2)<|eF 70 128 68 69<|z)<|
 (.cond (t 70) [] [3,71,72]
 (S (R<|m 71 5<|o 72 (.build eY [(0,1,(.const (.string ⟨#[105,110,115,116,115]⟩))),(1,1,(t 71)),(2,1,(i 10))])<|bS 3 2 72<|gC 3<|z)<|
 .ret)
 .skip)))))<|
 (R<|b 73 .add (t 57) (i 1)<|m 57 73<|z)))))))<|
 (S (R<|o 74 (.build eY [])<|bS 3 2 74<|cw 3<|z)<|
 .ret)))))),[.cell 2 V 3,.tmp 3],[.aj,.aj]⟩
theorem aaE:cc 72 Dz:=cf Tryz.func72 rfl
def DA(b:aT)(c:Nat)(e:Z)(g h:U)(i:Z)(j k:U)(l:bg):(bg)->bg:=λc m n=>u (ar .lss (aK m 0) k) λk=>aD (λ_ k=>aD (λ_ b=>u (ar .add (aK m 0) (J E 1)) λe=>c [e] (trim i [e] b)) λc=>u (bY 33 j (aK m 0)) λi=>u (ab V 33 i k) λi=>bK (.ptr k.length 0) (k++[.box iu 57 .rw]) λj k=>u (bf 33 j i k) λi=>u (ab V 33 j i) λk=>u (cC (.agg Ji) k i) λi=>u (b 127 [i.1] i.2) λi=>u (dq .not i.1) λk=>aD (λ_ i=>u (aq 1 j) λj=>u (ab M 1 j i) λj=>u (cC (.flat 2) j i) λi=>u (b 128 [i.1,(U.func 129 [] [g])] i.2) λb=>aD (λ_ b=>c [] b) λc=>bb b.1 (u (cV [.str ⟨#[]⟩,J E 0,J E 0] [(0,1,(.str ⟨#[105,110,115,116,115]⟩:U)),(1,1,(aK m 0)),(2,1,(J E 10))]) λc=>u (bf 3 h (U.agg c) b.2) λb=>u (ab V 3 h b) λc=>aN [.aj,.aj] e b [c,(.bool V)]) (c [] b.2)) λb=>bb k (u (cV [.str ⟨#[]⟩,J E 0,J E 0] [(0,1,(.str ⟨#[105,110,115,116,115]⟩:U)),(1,1,(aK m 0)),(2,1,(J E 1))]) λb=>u (bf 3 h (U.agg b) i.2) λb=>u (ab V 3 h b) λc=>aN [.aj,.aj] e b [c,(.bool V)]) (b [] i.2)) λb=>bb k (b [] n) (l [] n)
def Pn(b:aT)(c:Nat)(e:U)(g:Z):bl:=bK (.ptr g.length 0) (g++[.box (cn e) 104 .rw]) λe h=>bK (.ptr h.length 0) (h++[.box [.str ⟨#[]⟩,J E 0,J E 0] 108 .rw]) λh i=>u (aq 0 e) λj=>u (aq 11 j) λj=>u (ab M 1 j i) λj=>u (bB M j) λj=>u (ar .gtr j (J E 31)) λj=>bc (λi j=>aD (λ_ i=>u (aq 0 e) λj=>u (aq 11 j) λj=>u (ab M 1 j i) λj=>u (cC (.bZ 13 OD) j i) λi=>u (b 124 [i.1,(U.func 125 [] [])] i.2) λi=>u (ar .geq i.1 (J E 0)) λj=>aD (λ_ i=>u (aq 0 e) λj=>u (aq 12 j) λj=>u (ab M 1 j i) λj=>u (bB M j) λj=>u (ar .gtr j (J E 31)) λj=>bc (λi j=>aD (λ_ i=>u (aq 0 e) λj=>u (aq 12 j) λj=>u (ab M 1 j i) λj=>u (bB M j) λk=>aD (λ_ b=>u (cV [.str ⟨#[]⟩,J E 0,J E 0] []) λc=>u (bf 3 h (U.agg c) b) λb=>u (ab V 3 h b) λc=>aN [.aj,.aj] g b [c,(.bool M)]) λl=>cv (DA b c g e h i j k l) c [(J E 0)] i) λb=>bb i (u (cV [.str ⟨#[]⟩,J E 0,J E 0] [(0,1,(.str ⟨#[105,110,115,116,115]⟩:U)),(1,1,(J E 0)),(2,1,(J E 4))]) λb=>u (bf 3 h (U.agg b) j) λb=>u (ab V 3 h b) λc=>aN [.aj,.aj] g b [c,(.bool V)]) (b [] j)) λb=>bd j M (u (aq 13 e) λc=>u (aq 6 c) λc=>u (ab M 1 c i) λc=>u (dq .not c) λc=>bc (λc e=>b c e) λb=>bd c V (u (aq 0 e) λc=>u (aq 12 c) λc=>u (ab M 1 c i) λc=>u (bB M c) λc=>u (ar .gtr c (J E 0)) λc=>b c i) (b (.bool M) i)) (b (.bool V) i)) λb=>bb j (u (cV [.str ⟨#[]⟩,J E 0,J E 0] [(0,1,(.str ⟨#[115,97,109,112,108,101,115]⟩:U)),(1,1,i.1),(2,1,(J E 1))]) λb=>u (bf 3 h (U.agg b) i.2) λb=>u (ab V 3 h b) λc=>aN [.aj,.aj] g b [c,(.bool V)]) (b [] i.2)) λb=>bb i (u (cV [.str ⟨#[]⟩,J E 0,J E 0] [(0,1,(.str ⟨#[115,97,109,112,108,101,115]⟩:U)),(1,1,(J E 0)),(2,1,(J E 4))]) λb=>u (bf 3 h (U.agg b) j) λb=>u (ab V 3 h b) λc=>aN [.aj,.aj] g b [c,(.bool V)]) (b [] j)) λb=>bd j M (u (aq 0 e) λc=>u (aq 1 c) λc=>u (ab M 1 c i) λc=>u (ar .eql c (J E 6)) λc=>bc (λc e=>b c e) λb=>bd c V (u (aq 0 e) λc=>u (aq 11 c) λc=>u (ab M 1 c i) λc=>u (bB M c) λc=>u (ar .gtr c (J E 0)) λc=>b c i) (b (.bool M) i)) (b (.bool V) i)
open Go.aM.G in
def DB:b2:=⟨2,26,(S (R<|cw 4<|z)<|
 (S (S (R<|m 6 0<|bW 7 6<|m 8 1<|bW 9 8<|b 10 .neq (t 7) (t 9)<|z)<|
 (.cond (t 10) [] [4]
 (S (R<|cw 4<|z)<|
 .ret)
 .skip))<|
 (S (S (R<|m 11 0<|bW 12 11<|b_ 13 0<|z)<|
 (.block 0 [] ([4,5]++g 13 13)
 (.loop [13] ([4,5]++g 14 12)
 (S (R<|b 14 .lss (t 13) (t 12)<|z)<|
 (S (.cond (t 14) [] []
 .skip
 (.exit 0))<|
 (S (.block 1 [] ([4,5]++g 15 10)
 (S (R<|m 15 13<|m 5 15<|z)<|
 (S (D<|m 16 0<|m 17 5<|cz 18 6 16 17<|bR 19 6 18<|m 20 1<|m 21 5<|cz 22 6 20 21<|bR 23 6 22<|o 24 (.od [.int,.int,.int,.int,.int,.int] V (t 19) (t 23))<|z)<|
 (.cond (t 24) [] [4]
 (S (R<|cw 4<|z)<|
 .ret)
 .skip))))<|
 (R<|b 25 .add (t 13) (i 1)<|m 13 25<|z)))))))<|
 (S (R<|gC 4<|z)<|
 .ret)))),[.tmp 4],[.aj]⟩
theorem aaF:cc 73 DB:=cf Tryz.func73 rfl
def DC(b:aT)(c:Nat)(e g:U)(h i:Z)(j:U)(k:bg):(bg)->bg:=λb c l=>u (ar .lss (aK c 0) j) λj=>aD (λ_ j=>aD (λ_ e=>u (ar .add (aK c 0) (J E 1)) λc=>b [c] (trim i [c] e)) λb=>u (bY 6 e (aK c 0)) λe=>u (ab V 6 e j) λe=>u (bY 6 g (aK c 0)) λc=>u (ab V 6 c j) λc=>u (lT [.int,.int,.int,.int,.int,.int] V e c) λc=>aD (λ_ c=>b [] c) λb=>bb c (aN [.aj] h j [(.bool M)]) (b [] j)) λb=>bb j (b [] l) (k [] l)
def Po(b:aT)(c:Nat)(e g:U)(h:Z):bl:=u (bB M e) λi=>u (bB M g) λj=>u (ar .neq i j) λi=>aD (λ_ i=>u (bB M e) λj=>aD (λ_ b=>aN [.aj] h b [(.bool V)]) λk=>cv (DC b c e g h i j k) c [(J E 0)] i) λb=>bb i (aN [.aj] h h [(.bool M)]) (b [] h)
open Go.aM.G in
def DD:b2:=⟨2,26,(S (R<|cw 4<|z)<|
 (S (S (R<|m 6 0<|bW 7 6<|m 8 1<|bW 9 8<|b 10 .neq (t 7) (t 9)<|z)<|
 (.cond (t 10) [] [4]
 (S (R<|cw 4<|z)<|
 .ret)
 .skip))<|
 (S (S (R<|m 11 0<|bW 12 11<|b_ 13 0<|z)<|
 (.block 0 [] ([4,5]++g 13 13)
 (.loop [13] ([4,5]++g 14 12)
 (S (R<|b 14 .lss (t 13) (t 12)<|z)<|
 (S (.cond (t 14) [] []
 .skip
 (.exit 0))<|
 (S (.block 1 [] ([4,5]++g 15 10)
 (S (R<|m 15 13<|m 5 15<|z)<|
 (S (D<|m 16 0<|m 17 5<|cz 18 2 16 17<|bR 19 2 18<|m 20 1<|m 21 5<|cz 22 2 20 21<|bR 23 2 22<|o 24 (.od [.int,.int] V (t 19) (t 23))<|z)<|
 (.cond (t 24) [] [4]
 (S (R<|cw 4<|z)<|
 .ret)
 .skip))))<|
 (R<|b 25 .add (t 13) (i 1)<|m 13 25<|z)))))))<|
 (S (R<|gC 4<|z)<|
 .ret)))),[.tmp 4],[.aj]⟩
theorem aaG:cc 74 DD:=cf Tryz.func74 rfl
def DE(b:aT)(c:Nat)(e g:U)(h i:Z)(j:U)(k:bg):(bg)->bg:=λb c l=>u (ar .lss (aK c 0) j) λj=>aD (λ_ j=>aD (λ_ e=>u (ar .add (aK c 0) (J E 1)) λc=>b [c] (trim i [c] e)) λb=>u (bY 2 e (aK c 0)) λe=>u (ab V 2 e j) λe=>u (bY 2 g (aK c 0)) λc=>u (ab V 2 c j) λc=>u (lT [.int,.int] V e c) λc=>aD (λ_ c=>b [] c) λb=>bb c (aN [.aj] h j [(.bool M)]) (b [] j)) λb=>bb j (b [] l) (k [] l)
def Pp(b:aT)(c:Nat)(e g:U)(h:Z):bl:=u (bB M e) λi=>u (bB M g) λj=>u (ar .neq i j) λi=>aD (λ_ i=>u (bB M e) λj=>aD (λ_ b=>aN [.aj] h b [(.bool V)]) λk=>cv (DE b c e g h i j k) c [(J E 0)] i) λb=>bb i (aN [.aj] h h [(.bool M)]) (b [] h)
open Go.aM.G in
def DF:b2:=⟨2,59,(S (R<|dr 2 55 0<|dr 3 55 1<|cw 4<|z)<|
 (S (R<|f 5 1 2<|l 6 5<|f 7 1 3<|l 8 7<|eF 9 130 6 8<|m 10 9<|q 16 10 V (g 11 5) (f 11 0 2<|l 12 11<|f 13 0 3<|l 14 13<|o 15 (.o2 M (t 12) (t 14))<|z) (t 15)<|
 m 17 16<|q 23 17 V (g 18 5) (f 18 2 2<|l 19 18<|f 20 2 3<|l 21 20<|o 22 (.o2 M (t 19) (t 21))<|z) (t 22)<|
 m 24 23<|q 30 24 V (g 25 5) (f 25 3 2<|l 26 25<|f 27 3 3<|l 28 27<|b 29 .eql (t 26) (t 28)<|z) (t 29)<|
 m 31 30<|q 37 31 V (g 32 5) (f 32 4 2<|l 33 32<|f 34 4 3<|l 35 34<|b 36 .eql (t 33) (t 35)<|z) (t 36)<|
 m 38 37<|q 44 38 V (g 39 5) (f 39 5 2<|l 40 39<|f 41 5 3<|l 42 41<|o 43 (.o2 M (t 40) (t 42))<|z) (t 43)<|
 m 45 44<|q 51 45 V (g 46 5) (f 46 6 2<|l 47 46<|f 48 6 3<|l 49 48<|b 50 .eql (t 47) (t 49)<|z) (t 50)<|
 m 52 51<|q 58 52 V (g 53 5) (f 53 7 2<|l 54 53<|f 55 7 3<|l 56 55<|b 57 .eql (t 54) (t 56)<|z) (t 57)<|
 m 4 58<|z)<|
 .ret)),[.tmp 4],[.aj]⟩
theorem aaH:cc 75 DF:=cf Tryz.func75 rfl
def Pq(b:aT)(c:Nat)(e g:U)(h:Z):bl:=bK (.ptr h.length 0) (h++[.box (cn e) 55 .rw]) λc e=>bK (.ptr e.length 0) (e++[.box (cn g) 55 .rw]) λe g=>u (aq 1 c) λi=>u (ab M 1 i g) λi=>u (aq 1 e) λj=>u (ab M 1 j g) λj=>u (b 130 [i,j] g) λb=>bc (λb g=>bc (λb g=>bc (λb g=>bc (λb g=>bc (λb g=>bc (λb g=>bc (λb c=>aN [.aj] h c [b]) λh=>bd b V (u (aq 7 c) λb=>u (ab M 1 b g) λb=>u (aq 7 e) λc=>u (ab M 1 c g) λc=>u (ar .eql b c) λb=>h b g) (h (.bool M) g)) λh=>bd b V (u (aq 6 c) λb=>u (ab M 1 b g) λb=>u (aq 6 e) λc=>u (ab M 1 c g) λc=>u (ar .eql b c) λb=>h b g) (h (.bool M) g)) λh=>bd b V (u (aq 5 c) λb=>u (ab M 1 b g) λb=>u (aq 5 e) λc=>u (ab M 1 c g) λc=>u (p4 M b c) λb=>h b g) (h (.bool M) g)) λh=>bd b V (u (aq 4 c) λb=>u (ab M 1 b g) λb=>u (aq 4 e) λc=>u (ab M 1 c g) λc=>u (ar .eql b c) λb=>h b g) (h (.bool M) g)) λh=>bd b V (u (aq 3 c) λb=>u (ab M 1 b g) λb=>u (aq 3 e) λc=>u (ab M 1 c g) λc=>u (ar .eql b c) λb=>h b g) (h (.bool M) g)) λh=>bd b V (u (aq 2 c) λb=>u (ab M 1 b g) λb=>u (aq 2 e) λc=>u (ab M 1 c g) λc=>u (p4 M b c) λb=>h b g) (h (.bool M) g)) λg=>bd b.1 V (u (aq 0 c) λc=>u (ab M 1 c b.2) λc=>u (aq 0 e) λe=>u (ab M 1 e b.2) λe=>u (p4 M c e) λc=>g c b.2) (g (.bool M) b.2)
open Go.aM.G in
def DG:b2:=⟨2,17,(S (R<|dr 2 39 0<|dr 3 39 1<|cw 4<|z)<|
 (S (R<|f 5 0 2<|l 6 5<|f 7 0 3<|l 8 7<|b 9 .eql (t 6) (t 8)<|m 10 9<|q 16 10 V (g 11 5) (f 11 1 2<|l 12 11<|f 13 1 3<|l 14 13<|eF 15 131 12 14<|z) (t 15)<|
 m 4 16<|z)<|
 .ret)),[.tmp 4],[.aj]⟩
theorem aaI:cc 76 DG:=cf Tryz.func76 rfl
def Pr(b:aT)(c:Nat)(e g:U)(h:Z):bl:=bK (.ptr h.length 0) (h++[.box (cn e) 39 .rw]) λc e=>bK (.ptr e.length 0) (e++[.box (cn g) 39 .rw]) λe g=>u (aq 0 c) λi=>u (ab M 1 i g) λi=>u (aq 0 e) λj=>u (ab M 1 j g) λj=>u (ar .eql i j) λi=>bc (λb c=>aN [.aj] h c [b]) λh=>bd i V (u (aq 1 c) λc=>u (ab M 1 c g) λc=>u (aq 1 e) λe=>u (ab M 1 e g) λe=>u (b 131 [c,e] g) λb=>h b.1 b.2) (h (.bool M) g)
open Go.aM.G in
def DH:b2:=⟨2,94,(S (R<|dr 2 43 0<|dr 3 43 1<|cw 4<|z)<|
 (S (R<|f 5 1 2<|l 6 5<|f 7 1 3<|l 8 7<|eF 9 33 6 8<|m 10 9<|q 16 10 V (g 11 5) (f 11 0 2<|l 12 11<|f 13 0 3<|l 14 13<|b 15 .eql (t 12) (t 14)<|z) (t 15)<|
 m 17 16<|q 23 17 V (g 18 5) (f 18 2 2<|l 19 18<|f 20 2 3<|l 21 20<|b 22 .eql (t 19) (t 21)<|z) (t 22)<|
 m 24 23<|q 30 24 V (g 25 5) (f 25 3 2<|l 26 25<|f 27 3 3<|l 28 27<|b 29 .eql (t 26) (t 28)<|z) (t 29)<|
 m 31 30<|q 37 31 V (g 32 5) (f 32 4 2<|l 33 32<|f 34 4 3<|l 35 34<|b 36 .eql (t 33) (t 35)<|z) (t 36)<|
 m 38 37<|q 44 38 V (g 39 5) (f 39 5 2<|l 40 39<|f 41 5 3<|l 42 41<|b 43 .eql (t 40) (t 42)<|z) (t 43)<|
 m 45 44<|q 51 45 V (g 46 5) (f 46 6 2<|l 47 46<|f 48 6 3<|l 49 48<|b 50 .eql (t 47) (t 49)<|z) (t 50)<|
 m 52 51<|q 58 52 V (g 53 5) (f 53 7 2<|l 54 53<|f 55 7 3<|l 56 55<|b 57 .eql (t 54) (t 56)<|z) (t 57)<|
 m 59 58<|q 65 59 V (g 60 5) (f 60 8 2<|l 61 60<|f 62 8 3<|l 63 62<|b 64 .eql (t 61) (t 63)<|z) (t 64)<|
 m 66 65<|q 72 66 V (g 67 5) (f 67 9 2<|l 68 67<|f 69 9 3<|l 70 69<|b 71 .eql (t 68) (t 70)<|z) (t 71)<|
 m 73 72<|q 79 73 V (g 74 5) (f 74 10 2<|l 75 74<|f 76 10 3<|l 77 76<|b 78 .eql (t 75) (t 77)<|z) (t 78)<|
 m 80 79<|q 86 80 V (g 81 5) (f 81 11 2<|l 82 81<|f 83 11 3<|l 84 83<|b 85 .eql (t 82) (t 84)<|z) (t 85)<|
 m 87 86<|q 93 87 V (g 88 5) (f 88 12 2<|l 89 88<|f 90 12 3<|l 91 90<|b 92 .eql (t 89) (t 91)<|z) (t 92)<|
 m 4 93<|z)<|
 .ret)),[.tmp 4],[.aj]⟩
theorem aaJ:cc 77 DH:=cf Tryz.func77 rfl
def Ps(b:aT)(c:Nat)(e g:U)(h:Z):bl:=bK (.ptr h.length 0) (h++[.box (cn e) 43 .rw]) λc e=>bK (.ptr e.length 0) (e++[.box (cn g) 43 .rw]) λe g=>u (aq 1 c) λi=>u (ab M 1 i g) λi=>u (aq 1 e) λj=>u (ab M 1 j g) λj=>u (b 33 [i,j] g) λb=>bc (λb g=>bc (λb g=>bc (λb g=>bc (λb g=>bc (λb g=>bc (λb g=>bc (λb g=>bc (λb g=>bc (λb g=>bc (λb g=>bc (λb g=>bc (λb c=>aN [.aj] h c [b]) λh=>bd b V (u (aq 12 c) λb=>u (ab M 1 b g) λb=>u (aq 12 e) λc=>u (ab M 1 c g) λc=>u (ar .eql b c) λb=>h b g) (h (.bool M) g)) λh=>bd b V (u (aq 11 c) λb=>u (ab M 1 b g) λb=>u (aq 11 e) λc=>u (ab M 1 c g) λc=>u (ar .eql b c) λb=>h b g) (h (.bool M) g)) λh=>bd b V (u (aq 10 c) λb=>u (ab M 1 b g) λb=>u (aq 10 e) λc=>u (ab M 1 c g) λc=>u (ar .eql b c) λb=>h b g) (h (.bool M) g)) λh=>bd b V (u (aq 9 c) λb=>u (ab M 1 b g) λb=>u (aq 9 e) λc=>u (ab M 1 c g) λc=>u (ar .eql b c) λb=>h b g) (h (.bool M) g)) λh=>bd b V (u (aq 8 c) λb=>u (ab M 1 b g) λb=>u (aq 8 e) λc=>u (ab M 1 c g) λc=>u (ar .eql b c) λb=>h b g) (h (.bool M) g)) λh=>bd b V (u (aq 7 c) λb=>u (ab M 1 b g) λb=>u (aq 7 e) λc=>u (ab M 1 c g) λc=>u (ar .eql b c) λb=>h b g) (h (.bool M) g)) λh=>bd b V (u (aq 6 c) λb=>u (ab M 1 b g) λb=>u (aq 6 e) λc=>u (ab M 1 c g) λc=>u (ar .eql b c) λb=>h b g) (h (.bool M) g)) λh=>bd b V (u (aq 5 c) λb=>u (ab M 1 b g) λb=>u (aq 5 e) λc=>u (ab M 1 c g) λc=>u (ar .eql b c) λb=>h b g) (h (.bool M) g)) λh=>bd b V (u (aq 4 c) λb=>u (ab M 1 b g) λb=>u (aq 4 e) λc=>u (ab M 1 c g) λc=>u (ar .eql b c) λb=>h b g) (h (.bool M) g)) λh=>bd b V (u (aq 3 c) λb=>u (ab M 1 b g) λb=>u (aq 3 e) λc=>u (ab M 1 c g) λc=>u (ar .eql b c) λb=>h b g) (h (.bool M) g)) λh=>bd b V (u (aq 2 c) λb=>u (ab M 1 b g) λb=>u (aq 2 e) λc=>u (ab M 1 c g) λc=>u (ar .eql b c) λb=>h b g) (h (.bool M) g)) λg=>bd b.1 V (u (aq 0 c) λc=>u (ab M 1 c b.2) λc=>u (aq 0 e) λe=>u (ab M 1 e b.2) λe=>u (ar .eql c e) λc=>g c b.2) (g (.bool M) b.2)
open Go.aM.G in
def DI:b2:=⟨2,87,(S (R<|dr 2 57 0<|dr 3 57 1<|cw 4<|z)<|
 (S (R<|f 5 1 2<|l 6 5<|f 7 1 3<|l 8 7<|eF 9 132 6 8<|m 10 9<|q 16 10 V (g 11 5) (f 11 2 2<|bR 12 8 11<|f 13 2 3<|bR 14 8 13<|eF 15 133 12 14<|z) (t 15)<|
 m 17 16<|q 23 17 V (g 18 5) (f 18 10 2<|bR 19 8 18<|f 20 10 3<|bR 21 8 20<|eF 22 133 19 21<|z) (t 22)<|
 m 24 23<|q 30 24 V (g 25 5) (f 25 18 2<|bR 26 8 25<|f 27 18 3<|bR 28 8 27<|eF 29 133 26 28<|z) (t 29)<|
 m 31 30<|q 37 31 V (g 32 5) (f 32 0 2<|l 33 32<|f 34 0 3<|l 35 34<|b 36 .eql (t 33) (t 35)<|z) (t 36)<|
 m 38 37<|q 44 38 V (g 39 5) (f 39 26 2<|l 40 39<|f 41 26 3<|l 42 41<|b 43 .eql (t 40) (t 42)<|z) (t 43)<|
 m 45 44<|q 51 45 V (g 46 5) (f 46 27 2<|l 47 46<|f 48 27 3<|l 49 48<|b 50 .eql (t 47) (t 49)<|z) (t 50)<|
 m 52 51<|q 58 52 V (g 53 5) (f 53 28 2<|l 54 53<|f 55 28 3<|l 56 55<|b 57 .eql (t 54) (t 56)<|z) (t 57)<|
 m 59 58<|q 65 59 V (g 60 5) (f 60 29 2<|l 61 60<|f 62 29 3<|l 63 62<|b 64 .eql (t 61) (t 63)<|z) (t 64)<|
 m 66 65<|q 72 66 V (g 67 5) (f 67 30 2<|l 68 67<|f 69 30 3<|l 70 69<|b 71 .eql (t 68) (t 70)<|z) (t 71)<|
 m 73 72<|q 79 73 V (g 74 5) (f 74 31 2<|l 75 74<|f 76 31 3<|l 77 76<|b 78 .eql (t 75) (t 77)<|z) (t 78)<|
 m 80 79<|q 86 80 V (g 81 5) (f 81 32 2<|l 82 81<|f 83 32 3<|l 84 83<|b 85 .eql (t 82) (t 84)<|z) (t 85)<|
 m 4 86<|z)<|
 .ret)),[.tmp 4],[.aj]⟩
theorem aaK:cc 78 DI:=cf Tryz.func78 rfl
def Pt(b:aT)(c:Nat)(e g:U)(h:Z):bl:=bK (.ptr h.length 0) (h++[.box (cn e) 57 .rw]) λc e=>bK (.ptr e.length 0) (e++[.box (cn g) 57 .rw]) λe g=>u (aq 1 c) λi=>u (ab M 1 i g) λi=>u (aq 1 e) λj=>u (ab M 1 j g) λj=>u (b 132 [i,j] g) λg=>bc (λg i=>bc (λg i=>bc (λb g=>bc (λb g=>bc (λb g=>bc (λb g=>bc (λb g=>bc (λb g=>bc (λb g=>bc (λb g=>bc (λb c=>aN [.aj] h c [b]) λh=>bd b V (u (aq 32 c) λb=>u (ab M 1 b g) λb=>u (aq 32 e) λc=>u (ab M 1 c g) λc=>u (ar .eql b c) λb=>h b g) (h (.bool M) g)) λh=>bd b V (u (aq 31 c) λb=>u (ab M 1 b g) λb=>u (aq 31 e) λc=>u (ab M 1 c g) λc=>u (ar .eql b c) λb=>h b g) (h (.bool M) g)) λh=>bd b V (u (aq 30 c) λb=>u (ab M 1 b g) λb=>u (aq 30 e) λc=>u (ab M 1 c g) λc=>u (ar .eql b c) λb=>h b g) (h (.bool M) g)) λh=>bd b V (u (aq 29 c) λb=>u (ab M 1 b g) λb=>u (aq 29 e) λc=>u (ab M 1 c g) λc=>u (ar .eql b c) λb=>h b g) (h (.bool M) g)) λh=>bd b V (u (aq 28 c) λb=>u (ab M 1 b g) λb=>u (aq 28 e) λc=>u (ab M 1 c g) λc=>u (ar .eql b c) λb=>h b g) (h (.bool M) g)) λh=>bd b V (u (aq 27 c) λb=>u (ab M 1 b g) λb=>u (aq 27 e) λc=>u (ab M 1 c g) λc=>u (ar .eql b c) λb=>h b g) (h (.bool M) g)) λh=>bd b V (u (aq 26 c) λb=>u (ab M 1 b g) λb=>u (aq 26 e) λc=>u (ab M 1 c g) λc=>u (ar .eql b c) λb=>h b g) (h (.bool M) g)) λh=>bd b V (u (aq 0 c) λb=>u (ab M 1 b g) λb=>u (aq 0 e) λc=>u (ab M 1 c g) λc=>u (ar .eql b c) λb=>h b g) (h (.bool M) g)) λh=>bd g V (u (aq 18 c) λc=>u (ab V 8 c i) λc=>u (aq 18 e) λe=>u (ab V 8 e i) λe=>u (b 133 [c,e] i) λb=>h b.1 b.2) (h (.bool M) i)) λh=>bd g V (u (aq 10 c) λc=>u (ab V 8 c i) λc=>u (aq 10 e) λe=>u (ab V 8 e i) λe=>u (b 133 [c,e] i) λb=>h b.1 b.2) (h (.bool M) i)) λh=>bd g.1 V (u (aq 2 c) λc=>u (ab V 8 c g.2) λc=>u (aq 2 e) λe=>u (ab V 8 e g.2) λe=>u (b 133 [c,e] g.2) λb=>h b.1 b.2) (h (.bool M) g.2)
open Go.aM.G in
def DJ:b2:=⟨1,8,(S (R<|o 2 (.move (.const (.slice none 0 0)))<|z)<|
 (S (S (R<|m 3 0<|o 4 (.isNil .slice M (t 3))<|z)<|
 (.cond (t 4) [] [2]
 (S (R<|o 2 (.move (.const (.slice none 0 0)))<|z)<|
 .ret)
 .skip))<|
 (S (R<|o 5 (.buildSlice 3 [] 0 [])<|m 6 0<|o 7 (.append 3 1 (t 5) (t 6))<|m 2 7<|z)<|
 .ret))),[.tmp 2],[.raw]⟩
theorem aaL:cc 79 DJ:=cf Tryz.func79 rfl
def Pu(b:aT)(c:Nat)(e:U)(g:Z):bl:=nH .slice M e λb=>aD (λ_ b=>u (eC 3 1 U.emp e b) λb=>aN [.raw] g b.2 [b.1]) λc=>bb b (aN [.raw] g g [(.a7:U)]) (c [] g)
open Go.aM.G in
def DK:b2:=⟨1,8,(S (R<|o 2 (.move (.const (.slice none 0 0)))<|z)<|
 (S (S (R<|m 3 0<|o 4 (.isNil .slice M (t 3))<|z)<|
 (.cond (t 4) [] [2]
 (S (R<|o 2 (.move (.const (.slice none 0 0)))<|z)<|
 .ret)
 .skip))<|
 (S (R<|o 5 (.buildSlice 39 [] 0 [])<|m 6 0<|o 7 (.append 39 2 (t 5) (t 6))<|m 2 7<|z)<|
 .ret))),[.tmp 2],[.raw]⟩
theorem aaM:cc 80 DK:=cf Tryz.func80 rfl
def Pv(b:aT)(c:Nat)(e:U)(g:Z):bl:=nH .slice M e λb=>aD (λ_ b=>u (eC 39 2 U.emp e b) λb=>aN [.raw] g b.2 [b.1]) λc=>bb b (aN [.raw] g g [(.a7:U)]) (c [] g)
open Go.aM.G in
def DL:b2:=⟨1,8,(S (R<|o 2 (.move (.const (.slice none 0 0)))<|z)<|
 (S (S (R<|m 3 0<|o 4 (.isNil .slice M (t 3))<|z)<|
 (.cond (t 4) [] [2]
 (S (R<|o 2 (.move (.const (.slice none 0 0)))<|z)<|
 .ret)
 .skip))<|
 (S (R<|o 5 (.buildSlice 43 [] 0 [])<|m 6 0<|o 7 (.append 43 13 (t 5) (t 6))<|m 2 7<|z)<|
 .ret))),[.tmp 2],[.raw]⟩
theorem aaN:cc 81 DL:=cf Tryz.func81 rfl
def Pw(b:aT)(c:Nat)(e:U)(g:Z):bl:=nH .slice M e λb=>aD (λ_ b=>u (eC 43 13 U.emp e b) λb=>aN [.raw] g b.2 [b.1]) λc=>bb b (aN [.raw] g g [(.a7:U)]) (c [] g)
open Go.aM.G in
def DM:b2:=⟨1,8,(S (R<|o 2 (.move (.const (.slice none 0 0)))<|z)<|
 (S (S (R<|m 3 0<|o 4 (.isNil .slice M (t 3))<|z)<|
 (.cond (t 4) [] [2]
 (S (R<|o 2 (.move (.const (.slice none 0 0)))<|z)<|
 .ret)
 .skip))<|
 (S (R<|o 5 (.buildSlice 57 [] 0 [])<|m 6 0<|o 7 (.append 57 33 (t 5) (t 6))<|m 2 7<|z)<|
 .ret))),[.tmp 2],[.raw]⟩
theorem aaO:cc 82 DM:=cf Tryz.func82 rfl
def Px(b:aT)(c:Nat)(e:U)(g:Z):bl:=nH .slice M e λb=>aD (λ_ b=>u (eC 57 33 U.emp e b) λb=>aN [.raw] g b.2 [b.1]) λc=>bb b (aN [.raw] g g [(.a7:U)]) (c [] g)
end
section
variable (Γ : aT) (n : Nat) (al aC b6 : U) (h : Z)
theorem aaP:b7 Γ n k6 [al] h=wh Γ n al h:=by kernel_rfl
theorem aaQ:b7 Γ n Cm [al] h=OE Γ n al h:=by kernel_rfl
theorem aaR:b7 Γ n Cn [] h=OF Γ n h:=by kernel_rfl
theorem aaS:b7 Γ n Co [al,aC] h=OG Γ n al aC h:=by kernel_rfl
theorem aaT:b7 Γ n Cp [al,aC] h=OH Γ n al aC h:=by kernel_rfl
theorem aaU:b7 Γ n Cq [al,aC] h=OI Γ n al aC h:=by kernel_rfl
theorem aaV:b7 Γ n Cr [al] h=OJ Γ n al h:=by kernel_rfl
theorem aaW:b7 Γ n Cv [al] h=OK Γ n al h:=by kernel_rfl
theorem aaX:b7 Γ n Cw [al] h=OL Γ n al h:=by kernel_rfl
theorem aaY:b7 Γ n CC [al] h=OM Γ n al h:=by kernel_rfl
theorem aaZ:b7 Γ n CD [al,aC,b6] h=ON Γ n al aC b6 h:=by kernel_rfl
theorem aa0:b7 Γ n CF [al] h=OO Γ n al h:=by kernel_rfl
theorem aa1:b7 Γ n CH [al,aC] h=OP Γ n al aC h:=by kernel_rfl
theorem aa2:b7 Γ n CJ [al,aC,b6] h=OQ Γ n al aC b6 h:=by kernel_rfl
theorem aa3:b7 Γ n CL [al,aC] h=OR Γ n al aC h:=by kernel_rfl
theorem aa4:b7 Γ n CM [al,aC,b6] h=OS Γ n al aC b6 h:=by kernel_rfl
theorem aa5:b7 Γ n CO [al,aC] h=OT Γ n al aC h:=by kernel_rfl
theorem aa6:b7 Γ n CP [al,aC,b6] h=OU Γ n al aC b6 h:=by kernel_rfl
theorem aa7:b7 Γ n CR [al,aC] h=OV Γ n al aC h:=by kernel_rfl
theorem aa8:b7 Γ n CS [al,aC] h=OW Γ n al aC h:=by kernel_rfl
theorem aa9:b7 Γ n CU [al,aC] h=OX Γ n al aC h:=by kernel_rfl
theorem aa_:b7 Γ n CY [al] h=OY Γ n al h:=by kernel_rfl
theorem aa':b7 Γ n CZ [al] h=OZ Γ n al h:=by kernel_rfl
theorem aba:b7 Γ n C0 [al] h=O0 Γ n al h:=by kernel_rfl
theorem abb:b7 Γ n C4 [al] h=O1 Γ n al h:=by kernel_rfl
theorem JD:b7 Γ n wO [al,aC,b6] h=C7 Γ n al aC b6 h:=by kernel_rfl
theorem abc:b7 Γ n C8 [al,aC] h=O2 Γ n al aC h:=by kernel_rfl
theorem abd:b7 Γ n C9 [al] h=O4 Γ n al h:=by kernel_rfl
theorem abe:b7 Γ n C_ [al] h=O5 Γ n al h:=by kernel_rfl
theorem abf:b7 Γ n C' [al,aC] h=O6 Γ n al aC h:=by kernel_rfl
theorem abg:b7 Γ n Da [al] h=O7 Γ n al h:=by kernel_rfl
theorem abh:b7 Γ n Db [al] h=O8 Γ n al h:=by kernel_rfl
theorem abi:b7 Γ n Dc [al] h=O9 Γ n al h:=by kernel_rfl
theorem abj:b7 Γ n Dd [al] h=O_ Γ n al h:=by kernel_rfl
theorem abk:b7 Γ n De [al] h=O' Γ n al h:=by kernel_rfl
theorem abl:b7 Γ n Df [al] h=Pa Γ n al h:=by kernel_rfl
theorem JE:b7 Γ n wR [al,aC,b6] h=Dk Γ n al aC b6 h:=by kernel_rfl
theorem abm:b7 Γ n Dl [al,aC] h=Pb Γ n al aC h:=by kernel_rfl
theorem Py:b7 Γ n zz [al] h=JB Γ n al h:=by kernel_rfl
theorem abn:b7 Γ n Dn [al] h=Pc Γ n al h:=by kernel_rfl
theorem abo:b7 Γ n Dp [al,aC,b6] h=Pd Γ n al aC b6 h:=by kernel_rfl
theorem abp:b7 Γ n Dq [al,aC] h=Pe Γ n al aC h:=by kernel_rfl
theorem abq:b7 Γ n Dr [al] h=Pf Γ n al h:=by kernel_rfl
theorem abr:b7 Γ n Ds [al,aC,b6] h=Pg Γ n al aC b6 h:=by kernel_rfl
theorem abt:b7 Γ n Dt [al] h=Ph Γ n al h:=by kernel_rfl
theorem abu:b7 Γ n Du [al] h=Pj Γ n al h:=by kernel_rfl
theorem abv:b7 Γ n Dv [al] h=Pk Γ n al h:=by kernel_rfl
theorem abw:b7 Γ n Dx [al] h=Pl Γ n al h:=by kernel_rfl
theorem abx:b7 Γ n Dy [al] h=Pm Γ n al h:=by kernel_rfl
theorem aby:b7 Γ n Dz [al] h=Pn Γ n al h:=by kernel_rfl
theorem abz:b7 Γ n DB [al,aC] h=Po Γ n al aC h:=by kernel_rfl
theorem abA:b7 Γ n DD [al,aC] h=Pp Γ n al aC h:=by kernel_rfl
theorem abB:b7 Γ n DF [al,aC] h=Pq Γ n al aC h:=by kernel_rfl
theorem abC:b7 Γ n DG [al,aC] h=Pr Γ n al aC h:=by kernel_rfl
theorem abD:b7 Γ n DH [al,aC] h=Ps Γ n al aC h:=by kernel_rfl
theorem abE:b7 Γ n DI [al,aC] h=Pt Γ n al aC h:=by kernel_rfl
theorem abF:b7 Γ n DJ [al] h=Pu Γ n al h:=by kernel_rfl
theorem abG:b7 Γ n DK [al] h=Pv Γ n al h:=by kernel_rfl
theorem abH:b7 Γ n DL [al] h=Pw Γ n al h:=by kernel_rfl
theorem abI:b7 Γ n DM [al] h=Px Γ n al h:=by kernel_rfl
end
end Go.aM.X
