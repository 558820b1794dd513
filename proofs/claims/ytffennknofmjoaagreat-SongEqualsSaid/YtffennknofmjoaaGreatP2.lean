import Derived.Test.YtffennknofmjoaaGreatP1
import Derived.Below
import Derived.Deep.SlicePairs
import Derived.ChangeShapes
import Derived.OpenShut
set_option linter.unusedSimpArgs false
set_option linter.unusedVariables false
open Array renaming all_eq_true_iff_forall_mem → ahE,ext' → l_,getD_eq_getD_getElem? → mM,getElem?_eq_getElem → kW,getElem?_setIfInBounds_ne → w2,getElem?_setIfInBounds_self_of_lt → TA,replicate → zt,toList_append → Kg,toList_map → Ke
open Bool renaming and_eq_true → dx,false_eq_true → bg,or_eq_true → mP
open Go.Call renaming operands → FY
open Go renaming CallsIn → pZ,FuncId → dN,TypeId → aX,execOp → jS,maxLen → o3,wpIn_mono → s0,wpOpIn → oc
open Classical renaming byContradiction → pV,choose → Kn
open Go.IntKind renaming bits → wZ,signed → w1
open List renaming any_eq_true → F0,append_nil → fu,drop_drop → sY,eq_nil_of_length_eq_zero → gy,ext_getElem? → gn,filter_cons → F2,flatten_append → zv,flatten_cons → lK,getD_eq_getElem?_getD → jT,getElem?_append_left → cG,getElem?_concat_length → zp,getElem?_cons_succ → l9,getElem?_cons_zero → jP,getElem?_drop → oZ,getElem?_eq_getElem → gb,getElem?_eq_none → e2,getElem?_map → ja,getElem?_set_ne → hj,getElem?_take → F1,length_cons → kb,length_map → dn,length_range → F3,length_set → ir,map_append → ll,mem_append → mN,mem_cons → hk,mem_filter → Km,mem_map → iT,mem_of_getElem? → dH,mem_range → uu,mem_singleton → hl,prefix_append → FZ,prefix_refl → mO,range → fb,range' → zn
open Nat renaming add_mul → h8,beq → cC,beq_refl → p0,blt → fD,eq_of_beq_eq_true → hz,le_of_lt → w3,le_refl → ca,le_trans → lH,lt_of_lt_of_le → hF,zero_add → gR,zero_le → hQ
open Ne renaming symm → nz
open Go.Op renaming operands → ft
open Option renaming bind_eq_some_iff → cN,bind_some → dy,getD_some → o2,map_eq_some_iff → de,map_some → dm,some → I
open Option.some renaming inj → jR,injEq → ug
open Prod.mk renaming inj → ur
open Go.Region renaming binds → iS,ready → Kl,wanted → uq
open Go.Result renaming andThen_ok → ed
open Go.Sem renaming run_bind → er,run_pure → ga
open Go.World renaming cell? → wR,putObj → uo,putObj_heap_other → Ko
namespace Go.bB
variable {P : Program} {μ : Ren} {w : World}
def kg(F:Fence):Prop:=(∀f,F.fn f)/\F.depth=none
def Uw(P:Program)(Γ:Callee)(f:dN):Prop:=
 ∀args h r h1,Γ f args h=I (r,h1)->
  (∀(xs:Array Value) (w:World),(callFunc f xs).run P w=.ok (.enter f xs) w)/\
  ∀(μ:Ren) (w:World) (b:List Value),cH P μ h w->ct μ args b->∀(F:Fence) (n:Nat),kg F->
   pZ F n P f b.toArray w λe b2=>∃v μ1,e=.returned v/\bj μ1 r v/\cH P μ1 h1 b2/\Ext μ h w μ1 h1 b2
def Ux(P:Program)(Γ:Callee):Prop:=
 ∀b args h r h1,Γ dP (hS b 0::args) h=I (r,h1)->
  ∀(μ:Ren) (w:World) (g:List Value) (c K:Nat),cH P μ h w->ct μ args g->μ b=I ⟨c,K⟩->
   ∃fn tmps as i,(Instr.yield c g.toArray).run P w=.ok (.round c fn tmps as i) w/\∀(F:Fence) (n:Nat),kg F->
    RoundIn F n P c fn tmps as i w λe b2=>∃v μ1,e=.returned v/\bj μ1 r v/\cH P μ1 h1 b2/\Ext μ h w μ1 h1 b2
structure iH(P:Program)(Γ:Callee):Prop where
 fn:∀f,fD f dP=true->Uw P Γ f
 yield:Ux P Γ
theorem K3{c:Call}{f:Operand}{ez:Operand->Value}{g:dN}{xs ys:Array Value}{ty:aX}(aa:c.callee=.value f)(aC:ez f=.func (.func g) xs ys):
 (resolve ez c ty).run P w=.ok { target:=.fn (.func g) ys,args:=xs++c.args.map ez } w:=by
 simp [resolve,aa,Deferred.ofValue,aC]
theorem K4{Γ:Callee}{f:Value}{args:List Value}{h h1:aP}{v:Value}(ad:og Γ f args h=I (v,h1)):
 (∃g xs ys,f=.func (.func g) xs ys/\fD g dP=true/\Γ g (xs.toList++args++ys.toList) h=I (v,h1))\/∃b,f=.func (.yield b) ⟨[]⟩ ⟨[]⟩/\Γ dP (hS b 0::args) h=I (v,h1):=by
 unfold og at ad
 split at ad
 ·rename_i g xs ys
  cases ae:fD g dP with
  |true=>rw[ae]at ad;exact .inl ⟨_,_,_,rfl,ae,ad⟩
  |false=>rw[ae]at ad;cases ad
 ·exact .inr ⟨_,rfl,ad⟩
 ·cases ad
theorem Uy{c:Call}{f:Operand}{ez:Operand->Value}{l:Nat}{ty:aX}(aa:c.callee=.value f)(aC:ez f=.func (.yield l) ⟨[]⟩ ⟨[]⟩):
 ((do let d ←resolve ez c ty;invoke d.target d.args:Sem Next)).run P w=(Instr.yield l (c.args.map ez)).run P w:=by
 simp [resolve,aa,Deferred.ofValue,aC,invoke]
theorem K5{b:Builtin}{args:List Operand}{e:Array aX}{c:fE}(aa:zO P b args e=I c):th c=false:=by
 unfold zO at aa
 split at aa
 ·split at aa
  ·split at aa<;>first|(cases aa;rfl)|cases aa
  ·cases aa
 ·split at aa
  ·split at aa
   ·split at aa<;>first|(cases aa;rfl)|cases aa
   ·split at aa<;>first|(cases aa;rfl)|cases aa
   ·split at aa<;>first|(cases aa;rfl)|cases aa
   ·cases aa
  ·cases aa
 ·split at aa
  ·split at aa
   ·rw[de]at aa;obtain⟨_,_,aa⟩:=aa;cases aa;rfl
   ·cases aa
  ·cases aa
 ·split at aa
  ·split at aa
   ·rw[de]at aa;obtain⟨_,_,aa⟩:=aa;cases aa;rfl
   ·cases aa
  ·cases aa
 ·cases aa;rfl
 ·cases aa;rfl
 ·cases aa
theorem K6{op:BinOp}{t:aX}{x y:Operand}{b:fE}(aa:zL P op t x y=I b):th b=false:=by
 unfold zL at aa
 split at aa
 ·cases aa;rfl
 ·cases aa;rfl
 ·rw[de]at aa;obtain⟨_,_,aa⟩:=aa;cases aa;rfl
 ·split at aa<;>first|(cases aa;rfl)|cases aa
 ·split at aa<;>first|(cases aa;rfl)|cases aa
 ·split at aa
  ·split at aa
   ·cases aa;rfl
   ·split at aa
    ·cases aa;rfl
    ·cases aa
  ·cases aa
 ·cases aa
theorem K7{s d:aX}{x:Operand}{b:fE}(aa:zM P s d x=I b):th b=false:=by
 unfold zM at aa
 split at aa
 ·cases aa;rfl
 ·cases aa;rfl
 ·split at aa
  ·cases aa;rfl
  ·cases aa
 ·cases aa
theorem xM{F:Fence}{n:Nat}{o:Oper}{B:fE}{e:bJ}{a:Act}{h h1:aP}{v:Value}{Γ:Callee}{next:Act->World->Prop}{Q:Exit->Act->World->Prop}
 (l:kg F) (aa:oi P o.op=I B) (D:iH P Γ) (he:tg μ e a.eval) (s:cH P μ h w) (ad:c7 Γ B e h (λv h'=>I (v,h'))=I (v,h1))
 (m:∀v' bu μ1,bj μ1 v v'->cH P μ1 h1 bu->Ext μ h w μ1 h1 bu->next (a.put o.dst v') bu):o.wpIn F n P a w next Q:=by
 refine⟨λf _=>l.1 f,?_⟩
 have M:o.semAt F.round a.eval=jS a.eval o:=by
  apply Oper.semAt_eq
  intro c hd
  rw[hd]at aa
  unfold oi at aa
  split at aa<;>cases aa
 rw[M]
 by_cases aA:th B=false
 ·obtain⟨v',bu,μ1,an,aw,az,af⟩:=K2 aa aA he s ad
  rcases an with an|⟨an,rfl⟩
  ·rw[an];exact m v' bu μ1 aw az af
  ·rw[an];exact m undef bu μ1 aw az af
 ·unfold oi at aa
  split at aa
  case isFalse=>cases aa
  rename_i p
  obtain⟨dst,op,type,pos,after,guard⟩:=o
  simp only at aa p m
  have key:∀(f:dN) (args:List Value) (A:List Value),fD f dP=true->ct μ args A->Γ f args h=I (v,h1)->(jS a.eval ⟨dst,op,type,pos,after,guard⟩).run P w=(callFunc f A.toArray).run P w->
   Oper.uponIn F n P ⟨dst,op,type,pos,after,guard⟩ a next Q ((jS a.eval ⟨dst,op,type,pos,after,guard⟩).run P w):=by
   intro f args A q av bE an
   obtain⟨h2,ak⟩:=D.fn f q args h v h1 bE
   rw[an,h2]
   refine⟨λhd=>(by rw[l.2]at hd;cases hd),(ak μ w A s av F (n-1) l).mono ?_⟩
   rintro e' b2 ⟨v',μ1,rfl,aw,az,af⟩
   exact m v' b2 μ1 aw az af
  have C:∀(c:Call) (f:Operand),op=.call c->c.callee=.value f->mV f=true->kD c.args.toList=true->og Γ (val e f) (c6 e c.args.toList) h=I (v,h1)->
   Oper.uponIn F n P ⟨dst,op,type,pos,after,guard⟩ a next Q ((jS a.eval ⟨dst,op,type,pos,after,guard⟩).run P w):=by
   intro c f E G i k bE
   rcases K4 bE with⟨g,xs,ys,aC,q,bE⟩|⟨b,aC,bE⟩
   case inr=>
    have j:=he f i
    rw[aC]at j
    generalize ba:a.eval f=y at j
    cases j with
    |@yield _ H K aM=>
     obtain⟨fn,tmps,as,N,cE,cD⟩:=D.yield b _ h v h1 bE μ w (c.args.toList.map a.eval) H K s (p7 he k) aM
     subst E
     have O:(jS a.eval ⟨dst,.call c,type,pos,after,guard⟩).run P w=.ok (.round H fn tmps as N) w:=by
      have:=Uy (P:=P) (w:=w) (ty:=type) G ba
      have hm:c.args.map a.eval=(c.args.toList.map a.eval).toArray:=l_ (by simp)
      rw[hm,cE]at this
      exact this
     rw[O]
     refine⟨λhd=>(by rw[l.2]at hd;cases hd),(cD F (n-1) l).mono ?_⟩
     rintro e' b2 ⟨v',μ1,rfl,aw,az,af⟩
     exact m v' b2 μ1 aw az af
   have j:=he f i
   rw[aC]at j
   generalize ba:a.eval f=y at j
   cases j with
   |@func _ _ _ eX eM aM bp=>
    refine key g _ (eX.toList++c.args.toList.map a.eval++eM.toList) q ((aM.append (p7 he k)).append bp) bE ?_
    subst E
    have hm:eX++c.args.map a.eval++eM=(eX.toList++c.args.toList.map a.eval++eM.toList).toArray:=l_ (by simp)
    simp only[jS,er,K3 G ba,ed,invoke,hm]
  cases op with
  |call c=>
   obtain⟨callee,args,argTypes⟩:=c
   cases callee with
   |value f=>
    have k:kD args.toList=true:=by
     simp only[kD,ft,FY,Kg,List.all_append,dx]at p
     exact p.2
    have i:mV f=true:=by
     simp only[kD,ft,FY,Kg,List.all_append,dx]at p
     simpa using p.1
    cases f with
    |func g=>
     simp only[iV]at aa
     split at aa
     case isFalse=>cases aa
     rename_i q
     cases aa
     have u:Γ g (c6 e args.toList) h=I (v,h1):=by
      simp only[c7,cN]at ad
      obtain⟨⟨J,L⟩,x,ad⟩:=ad
      cases ad
      exact x
     refine C _ (.func g) rfl rfl i k ?_
     show(bif fD g dP then Γ g ([]++c6 e args.toList++[]) h else none)=I (v,h1)
     rw[q,List.nil_append,fu]
     exact u
    |tmp t=>
     cases aa
     have u:og Γ (val e (.tmp t)) (c6 e args.toList) h=I (v,h1):=by
      simp only[c7,cN]at ad
      obtain⟨⟨J,L⟩,x,ad⟩:=ad
      cases ad
      exact x
     exact C _ (.tmp t) rfl rfl i k u
    |const z=>
     cases aa
     have u:og Γ (val e (.const z)) (c6 e args.toList) h=I (v,h1):=by
      simp only[c7,cN]at ad
      obtain⟨⟨J,L⟩,x,ad⟩:=ad
      cases ad
      exact x
     exact C _ (.const z) rfl rfl i k u
    |global g=>cases i
   |invoke _ _=>cases aa
   |builtin b=>exact absurd (K5 aa) aA
  |binOp _ _ _ _ _=>exact absurd (K6 aa) aA
  |convert _ _ _=>exact absurd (K7 aa) aA
  |makeMap t r=>cases r<;>first|(cases aa;done)|(cases aa;exact absurd rfl aA)
  |makeFunc fn _ _=>cases fn<;>first|(cases aa;done)|(cases aa;exact absurd rfl aA)
  |_=>
   exfalso
   apply aA
   first
    |(cases aa;done)
    |(cases aa;rfl)
    |(simp only[iV]at aa
      (repeat' split at aa)<;>first
        |(cases aa;rfl)
        |(rw[de]at aa;obtain⟨_,_,aa⟩:=aa;cases aa;rfl)
        |cases aa)
end Go.bB
namespace Go.bB
variable {P : Program} {μ : Ren} {w : World}
theorem ov(e:bJ)(i:Nat)(v:Value):bK e i v i=v:=by simp [bK]
theorem cA(e:bJ){i j:Nat}(v:Value)(h:i≠j):bK e i v j=e j:=by
 have:cC i j=false:=by
  cases ae:cC i j with
  |false=>rfl
  |true=>exact absurd (hz ae) h
 simp [bK,this]
def iw(e' e:bJ):Prop:=∀i,e' i=e i\/e' i=dI
theorem iw.refl(e:bJ):iw e e:=λ_=>.inl rfl
theorem GA{e:bJ}:∀{l:List Nat} {i:Nat},i∈l->jV e l i=dI
 |j::l,i,h=>by
  unfold jV
  by_cases b:j=i
  ·subst b;exact ov _ _ _
  ·rw[cA _ _ b]
   exact GA (by simpa [nz b]using h)
theorem u9{e:bJ}:∀{l:List Nat} {i:Nat},i∉l->jV e l i=e i
 |[],_,_=>rfl
 |j::l,i,h=>by
  simp only[hk,not_or]at h
  unfold jV
  rw[cA _ _ (nz h.1)]
  exact u9 h.2
structure gF(μ:Ren)(e:bJ)(a:Act)(N:Nat):Prop where
 size:a.tmps.size=N
 rel:∀i,bj μ (e i) (a.tmps.getD i undef)
theorem gF.op{e:bJ}{a:Act}{N:Nat}(f:gF μ e a N):tg μ e a.eval:=by
 intro x af
 cases x with
 |tmp t=>exact f.rel t
 |const v=>exact bj.Kx af
 |global g=>cases af
 |func g=>exact .func g .nil .nil
theorem gF.mono{aV:Ren}{e:bJ}{a:Act}{N:Nat}(f:gF μ e a N)(h:ef μ aV):gF aV e a N:=⟨f.size,λi=>(f.rel i).mono h⟩
theorem gF.lr{e e':bJ}{a:Act}{N:Nat}(f:gF μ e a N)(h:iw e' e):gF μ e' a N:=
 ⟨f.size,λi=>by
  rcases h i with h|h
  ·rw[h];exact f.rel i
  ·rw[h];exact .dI _⟩
theorem gF.put{e:bJ}{a:Act}{N:Nat}{v v':Value}(f:gF μ e a N)(aw:bj μ v v')(d:Option Nat)(hd:∀i,d=I i->i<N):gF μ (gT e d v) (a.put d v') N:=by
 cases d with
 |none=>exact f
 |some i=>
  refine⟨by simp [Act.put,f.size],λj=>?_⟩
  show bj μ (bK e i v j) _
  have ag:i<a.tmps.size:=by rw[f.size];exact hd i rfl
  by_cases h:i=j
  ·subst h
   rw[ov]
   simp [Act.put,ag]
   exact aw
  ·rw[cA _ _ h]
   have:=f.rel j
   simp only[Act.put,mM]at this|-
   rw[w2 h]
   exact this
def z8(dX:kZ)(e:bJ)(h h1:aP):Prop:=
 match dX with
 |.no=>True
 |.calm=>h <+: h1
 |.hf bC=>∀p∈bC,xp (e p.1) (e p.2)
inductive kF(Γ:Callee):List cX->bJ->aP->bJ->aP->Prop
 |nil (e:bJ) (h:aP):kF Γ [] e h e h
 |lr {l:List cX} {e e' aE:bJ} {h h2:aP} (b0:iw e' e) (aO:kF Γ l e' h aE h2):kF Γ l e h aE h2
 |skip {f:cX} {l:List cX} {e aE:bJ} {h h2:aP} {s:Nat} {b:Bool} (bE:f.guard=I (s,b)) (az:e s=.bool (!b)\/e s=undef)
  (aO:kF Γ l (gT e f.dst undef) h aE h2):kF Γ (f::l) e h aE h2
 |exec {f:cX} {l:List cX} {e aE:bJ} {h h1 h2:aP} {v:Value} (bE:f.guard=none\/∃s b,f.guard=I (s,b)/\e s=.bool b)
  (ad:c7 Γ f.op e h (λv h'=>I (v,h'))=I (v,h1)) (aa:z8 f.dX e h h1) (aO:kF Γ l (gT e f.dst v) h1 aE h2):kF Γ (f::l) e h aE h2
theorem kF.append{Γ:Callee}{l cB:List cX}{e aD aE:bJ}{h h1 h2:aP}(t:kF Γ l e h aD h1)(c:kF Γ cB aD h1 aE h2):kF Γ (l++cB) e h aE h2:=by
 induction t with
 |nil=>exact c
 |lr b0 _ b=>exact .lr b0 (b c)
 |skip bE az _ b=>exact .skip bE az (b c)
 |exec bE ad aa _ b=>exact .exec bE ad aa (b c)
theorem Uz{R:Type}{Γ:Callee}{o:fE}{e:bJ}{h:aP}{k:Value->aP->Option R}{r:R}(ad:c7 Γ o e h k=I r):
 ∃v h1,c7 Γ o e h (λv h'=>I (v,h'))=I (v,h1)/\k v h1=I r:=by
 cases o<;>(try (exfalso;simp only[c7,reduceCtorEq]at ad;done))<;>simp only[c7,cN]at ad|-<;> first
  |exact⟨_,_,rfl,ad⟩
  |(obtain⟨u,b,ad⟩:=ad;exact⟨_,_,⟨u,b,rfl⟩,ad⟩)
theorem UA{R:Type}{dX:kZ}{e:bJ}{h h1:aP}{m:Option R}{r:R}(ad:mU dX e h h1 m=I r):m=I r/\z8 dX e h h1:=by
 unfold mU at ad
 cases dX with
 |calm=>
  simp only[xo]at ad
  split at ad
  ·rename_i aj;exact⟨ad,aj⟩
  ·cases ad
 |no=>exact⟨ad,trivial⟩
 |hf bC=>
  simp only at ad
  split at ad
  ·rename_i aj;exact⟨ad,aj⟩
  ·cases ad
theorem iw.gT{e' e:bJ}(h:iw e' e)(d:Option Nat)(v:Value):iw (bB.gT e' d v) (bB.gT e d v):=by
 cases d with
 |none=>exact h
 |some i=>
  intro j
  by_cases b:i=j
  ·subst b;left;simp [bB.gT,ov]
  ·simp only[bB.gT,cA _ _ b];exact h j
theorem GB{l:List Nat}{i:Nat}(h:(!l.contains i)=true):i∉l:=by simpa using h
theorem z_{l:List Nat}{i:Nat}(h:l.contains i=true):i∈l:=by simpa using h
structure UB(gs:List Nat)(hX:Option (List Nat))(d c:Nat)(tmp:List Nat)(body rest:lL):Prop where
 hd:d∉gs
 z':∀i∈tmp,i∉gs/\i≠c
 aa:∀l,hX=I l->c∈l
 K8:∀i∈kE body,i∈tmp
 UC:∀i∈p4 body,i∈tmp
 K9:d≠c
 GC:nH (c::gs) (I []) body=true
 u1:nH gs (hX.map (kE body++[d]++·)) rest=true
theorem K_{gs:List Nat}{hX:Option (List Nat)}{d c:Nat}{gK:Bool}{tmp:List Nat}{body rest:lL}{y:Operand}(h:nH gs hX (.k0 d c gK tmp body y rest)=true):UB gs hX d c tmp body rest:=by
 simp only[nH,dx]at h
 obtain⟨⟨⟨⟨⟨⟨⟨h1,h2⟩,ak⟩,aH⟩,aM⟩,bp⟩,cl⟩,b⟩:=h
 refine⟨GB h1,λi ag=>?_,λl av=>?_,λi ag=>z_ (List.all_eq_true.1 aH i ag),λi ag=>z_ (List.all_eq_true.1 aM i ag),by simpa using bp,cl,b⟩
 ·have:=List.all_eq_true.1 h2 i ag
  simp only[dx]at this
  exact⟨GB this.1,by simpa using this.2⟩
 ·subst av
  exact z_ (by simpa using ak)
theorem K'{gs:List Nat}{hX:Option (List Nat)}{d:Option Nat}{o:fE}{dX:kZ}{rest:lL}(h:nH gs hX (.op d o dX rest)=true):(∀i,d=I i->i∉gs)/\nH gs (hX.map (d.toList++·)) rest=true:=by
 simp only[nH,dx]at h
 refine⟨?_,h.2⟩
 rintro i rfl
 exact GB (by simpa using h.1)
theorem u_{e:bJ}{d:Option Nat}{v:Value}{i:Nat}(h:∀j,d=I j->j≠i):gT e d v i=e i:=by
 cases d with
 |none=>rfl
 |some j=>exact cA _ _ (h j rfl)
theorem Aa{Γ:Callee}:∀(s:lL) (gs hX:List Nat) (e:bJ) (h:aP) (c:Nat) (b:Bool),nH gs (I hX) s=true->c∈gs->(e c=.bool (!b)\/e c=undef)->(∀i∈hX,e i=undef)->
 ∃aE,kF Γ (rZ s (I (c,b))) e h aE h/\(∀i,i∉kE s->aE i=e i)/\(∀i∈kE s,aE i=undef)
 |.nil,gs,hX,e,h,c,b,_,_,_,m=>⟨e,.nil e h,λ_ _=>rfl,λi ag=>by cases ag⟩
 |.op d o dX rest,gs,hX,e,h,c,b,p,aa,he,m=>by
  obtain⟨h1,h2⟩:=K' p
  have x:gT e d undef c=e c:=u_ (by rintro j rfl rfl;exact h1 j rfl aa)
  have n:∀i∈d.toList++hX,gT e d undef i=undef:=by
   intro i ag
   by_cases g:d=I i
   ·subst g;exact ov _ _ _
   ·rw[u_ (by rintro j rfl rfl;exact g rfl)]
    refine m i ?_
    rcases List.mem_append.1 ag with h|h
    ·exact absurd (by simpa using h) g
    ·exact h
  obtain⟨aE,aO,ak,aH⟩:=Aa (Γ:=Γ) rest gs (d.toList++hX) (gT e d undef) h c b h2 aa (by rw[x];exact he) n
  refine⟨aE,.skip rfl he aO,λi ag=>?_,λi ag=>?_⟩
  ·simp only[kE,mN,not_or]at ag
   rw[ak i ag.2]
   exact u_ (by rintro j rfl rfl;exact ag.1 (by simp))
  ·simp only[kE,mN]at ag
   by_cases l:i∈kE rest
   ·exact aH i l
   ·rw[ak i l]
    exact n i (List.mem_append.2 (.inl (ag.resolve_right l)))
 |.k0 d q gK tmp body y rest,gs,hX,e,h,c,b,p,aa,he,m=>by
  have k:=K_ p
  obtain⟨aD,z,cE,cD⟩:=Aa (Γ:=Γ) body (q::gs) [] e h q gK k.GC (by simp) (.inr (m q (k.aa hX rfl))) (by simp)
  have t:c∉kE body:=λt=>(k.z' c (k.K8 c t)).1 aa
  have K9:d≠c:=by rintro rfl;exact k.hd aa
  have n:∀i∈kE body++[d]++hX,bK aD d undef i=undef:=by
   intro i ag
   by_cases g:d=i
   ·subst g;exact ov _ _ _
   ·rw[cA _ _ g]
    by_cases u:i∈kE body
    ·exact cD i u
    ·rw[cE i u]
     refine m i ?_
     simp only[mN,hl]at ag
     rcases ag with(h|h)|h
     ·exact absurd h u
     ·exact absurd h.symm g
     ·exact h
  have w:aD c=e c:=cE c t
  obtain⟨aE,t2,bt,bG⟩:=Aa (Γ:=Γ) rest gs (kE body++[d]++hX) (bK aD d undef) h c b k.u1 aa (by rw[cA _ _ K9,w];exact he) n
  refine⟨aE,z.append (.skip (s:=c) (b:=b) rfl (by rw[w];exact he) t2),λi ag=>?_,λi ag=>?_⟩
  ·simp only[kE,mN,hk,not_or]at ag
   rw[bt i ag.2.2,cA _ _ (nz ag.2.1),cE i ag.1]
  ·by_cases l:i∈kE rest
   ·exact bG i l
   ·rw[bt i l]
    refine n i ?_
    simp only[kE,mN,hk]at ag
    simp only[mN,hl]
    rcases ag with h|h|h
    ·exact .inl (.inl h)
    ·exact .inl (.inr h)
    ·exact absurd h l
theorem Ab{R:Type}{Γ:Callee}:∀(s:lL) (gs:List Nat) (hX:Option (List Nat)) (g:Option (Nat×Bool)) (K:bJ->aP->Option R) (e:bJ) (h:aP) (r:R),nH gs hX s=true->
 (∀c b,g=I (c,b)->c∈gs/\e c=.bool b)->kd Γ s K e h=I r->
 ∃aE h2,kF Γ (rZ s g) e h aE h2/\K aE h2=I r/\(∀i,i∉p4 s->aE i=e i)
 |.nil,_,_,_,K,e,h,r,_,_,ad=>⟨e,h,.nil e h,ad,λ_ _=>rfl⟩
 |.op d o dX rest,gs,hX,g,K,e,h,r,x,bE,ad=>by
  obtain⟨h1,h2⟩:=K' x
  obtain⟨v,h',z,ad⟩:=Uz ad
  obtain⟨ad,J⟩:=UA ad
  have A:g=none\/∃s b,g=I (s,b)/\e s=.bool b:=by
   cases g with
   |none=>exact .inl rfl
   |some p=>exact .inr ⟨p.1,p.2,rfl,(bE p.1 p.2 rfl).2⟩
  obtain⟨aE,L,aO,q,b0⟩:=Ab rest gs _ g K (gT e d v) h' r h2 (λc b l=>⟨(bE c b l).1,by
   rw[u_ (by rintro j rfl rfl;exact h1 j rfl (bE _ b l).1)]
   exact(bE c b l).2⟩) ad
  refine⟨aE,L,.exec A z J aO,q,λi ag=>?_⟩
  simp only[p4,mN,not_or]at ag
  rw[b0 i ag.2]
  exact u_ (by rintro j rfl rfl;exact ag.1 (by simp))
 |.k0 d c gK tmp body y rest,gs,hX,g,K,e,h,r,x,bE,ad=>by
  have k:=K_ x
  simp only[kd,zF]at ad
  have fin:∀(aD:bJ) (h1:aP) (v:Value),kF Γ (rZ body (I (c,gK))) e h aD h1->(∀i,i∉tmp->aD i=e i)->
   c7 Γ (.pick (.tmp c) (if gK then y else .const (.bool true)) (if gK then .const (.bool false)else y)) aD h1 (λv h'=>I (v,h'))=I (v,h1)->
   kd Γ rest K (bK (jV e tmp) d v) h1=I r->
   ∃aE h2,kF Γ (rZ (.k0 d c gK tmp body y rest) g) e h aE h2/\K aE h2=I r/\(∀i,i∉p4 (.k0 d c gK tmp body y rest)->aE i=e i):=by
   intro aD h1 v aO n z ad
   have G:∀m b,g=I (m,b)->m∉tmp:=λm b l u=>(k.z' m u).1 (bE m b l).1
   have A:g=none\/∃s b,g=I (s,b)/\aD s=.bool b:=by
    cases g with
    |none=>exact .inl rfl
    |some p=>exact .inr ⟨p.1,p.2,rfl,by rw[n _ (G p.1 p.2 rfl)];exact(bE p.1 p.2 rfl).2⟩
   have M:iw (bK (jV e tmp) d v) (gT aD (I d) v):=by
    intro i
    show bK (jV e tmp) d v i=bK aD d v i\/_
    by_cases B:d=i
    ·subst B;left;rw[ov,ov]
    ·rw[cA _ _ B,cA _ _ B]
     by_cases C:i∈tmp
     ·right;exact GA C
     ·left;rw[u9 C,n i C]
   obtain⟨aE,h2,N,q,b0⟩:=Ab rest gs _ g K (bK (jV e tmp) d v) h1 r k.u1 (λm b l=>⟨(bE m b l).1,by
    have O:d≠m:=by rintro rfl;exact k.hd (bE _ b l).1
    rw[cA _ _ O,u9 (G m b l)]
    exact(bE m b l).2⟩) ad
   refine⟨aE,h2,aO.append (.exec A z trivial (.lr M N)),q,λi ag=>?_⟩
   simp only[p4,mN,hk,not_or]at ag
   rw[b0 i ag.2.2,cA _ _ (nz ag.1),u9 ag.2.1.1]
  unfold zG at ad
  split at ad
  ·rename_i t w
   split at ad
   ·rename_i H
    subst H
    obtain⟨aD,h1,aO,q,b0⟩:=Ab body (c::gs) (I []) (I (c,t)) _ e h r k.GC (λm b l=>by cases l;exact⟨by simp,w⟩) ad
    have D:c∉tmp:=λu=>(k.z' c u).2 rfl
    have n:∀i,i∉tmp->aD i=e i:=λi ag=>b0 i (λE=>ag (k.UC i E))
    have F:aD c=.bool t:=by rw[n c D];exact w
    refine fin aD h1 (val aD y) aO n ?_ q
    cases t<;>simp [c7,val,F,uD]
   ·rename_i H
    have P:t=!gK:=by cases t<;>cases gK<;>simp_all
    subst P
    obtain⟨aD,aO,b0,_⟩:=Aa (Γ:=Γ) body (c::gs) [] e h c gK k.GC (by simp) (.inl w) (by simp)
    have D:c∉tmp:=λu=>(k.z' c u).2 rfl
    have n:∀i,i∉tmp->aD i=e i:=λi ag=>b0 i (λE=>ag (k.K8 i E))
    have F:aD c=.bool (!gK):=by rw[n c D];exact w
    refine fin aD h (.bool !gK) aO n ?_ ad
    cases gK<;>simp [c7,val,F,uD]
  ·cases ad
end Go.bB
namespace Go.bB
variable {P : Program} {μ : Ren} {w : World}
structure pf(P:Program)(ops:Array Oper)(o:Oper)(f:cX):Prop where
 op:oi P o.op=I f.op
 dst:o.dst=f.dst
 guard:match o.guard with
  |none=>f.guard=none
  |some (j,b)=>∃d,(ops[j]?).bind (·.dst)=I d/\f.guard=I (d,b)
theorem UD{ops:Array Oper}{dX:kZ}{o:Oper}{f:cX}(h:Gd P ops dX o=I f):pf P ops o f/\f.dX=dX:=by
 unfold Gd at h
 split at h
 ·rename_i e c
  split at h
  ·rename_i bE
   cases h
   exact⟨⟨c,rfl,by rw[bE]⟩,rfl⟩
  ·rename_i j b bE
   split at h
   ·rename_i d hd
    cases h
    exact⟨⟨c,rfl,by rw[bE];exact⟨d,hd,rfl⟩⟩,rfl⟩
   ·cases h
 ·cases h
theorem La{ops:Array Oper}{c:Nat->kZ}:∀{l:List Oper} {i:Nat} {aY:List cX},r0 P ops c l i=I aY->
 aY.length=l.length/\∀(j:Nat) (o:Oper),l[j]?=I o->∃f,aY[j]?=I f/\pf P ops o f/\f.dX=c (i+j)
 |[],i,aY,h=>by cases h;exact⟨rfl,λj o b=>by simp at b⟩
 |o::r,i,aY,h=>by
  unfold r0 at h
  split at h
  ·rename_i f ey aC e
   cases h
   obtain⟨h1,h2⟩:=La e
   refine⟨by simp [h1],λj o' b=>?_⟩
   cases j with
   |zero=>
    simp only[jP,ug]at b
    subst b
    obtain⟨ak,aH⟩:=UD aC
    exact⟨f,rfl,ak,aH⟩
   |succ j=>
    obtain⟨bR,g,ak,aH⟩:=h2 j o' b
    exact⟨bR,g,ak,by rw[aH];congr 1;omega⟩
  ·cases h
theorem getD_some{xs:Array Value}{i:Nat}{v:Value}(h:xs.getD i undef=v)(aw:v≠undef):xs[i]?=I v:=by
 rw[mM]at h
 cases af:xs[i]? with
 |none=>rw[af]at h;exact absurd h.symm aw
 |some u=>rw[af]at h;exact cV I h
theorem Lb(b:Bool):Value.bool b≠undef:=by intro h;cases h
theorem xN{ops:Array Oper}{o:Oper}{f:cX}{e:bJ}{a:Act}{N:Nat}(m:pf P ops o f)(cF:gF μ e a N)(bE:f.guard=none\/∃s b,f.guard=I (s,b)/\e s=.bool b):
 uq o (yielded ops a.tmps)=true:=by
 have hm:=m.guard
 unfold uq
 split
 ·rfl
 ·rename_i j b g
  rw[g]at hm
  obtain⟨d,hd,c⟩:=hm
  rcases bE with bE|⟨s,bf,bE,he⟩
  ·rw[bE]at c;cases c
  ·rw[bE]at c
   simp only[ug,Prod.mk.injEq]at c
   obtain⟨h,i⟩:=c
   subst h i
   have an:=cF.rel s
   rw[he]at an
   generalize af:a.tmps.getD s undef=x at an
   cases an
   have:=getD_some af (Lb _)
   simp [yielded,hd,this]
theorem Lc{ops:Array Oper}{o:Oper}{f:cX}{e:bJ}{a:Act}{N:Nat}(m:pf P ops o f)(cF:gF μ e a N){s:Nat}{b:Bool}(bE:f.guard=I (s,b))(az:e s=.bool (!b)\/e s=undef):
 uq o (yielded ops a.tmps)=false:=by
 have hm:=m.guard
 unfold uq
 split
 ·rename_i c
  rw[c]at hm
  rw[bE]at hm
  cases hm
 ·rename_i j bf c
  rw[c]at hm
  obtain⟨d,hd,h⟩:=hm
  rw[bE]at h
  obtain⟨i,k⟩:s=d/\b=bf:=by cases h;exact⟨rfl,rfl⟩
  subst i k
  have an:=cF.rel s
  rcases az with he|he
  ·rw[he]at an
   generalize af:a.tmps.getD s undef=x at an
   cases an
   have:=getD_some af (Lb _)
   simp [yielded,hd,this]
  ·rw[he]at an
   have g:a.tmps.getD s undef=undef:=bj.zW rfl an
   rw[mM]at g
   simp only[yielded,hd,dy]
   cases af:a.tmps[s]? with
   |none=>rfl
   |some u=>
    rw[af]at g
    have l:u=undef:=g
    subst l
    rfl
theorem UE{F:Fence}{n N:Nat}{Γ:Callee}{ops:Array Oper}{aY:List cX}{Q:Exit->Act->World->Prop}(x:kg F)(z:iH P Γ)(br:aY.length=ops.size)
 (hm:∀(j:Nat) (o:Oper),ops[j]?=I o->∃f,aY[j]?=I f/\pf P ops o f) (y:∀f∈aY,∀d,f.dst=I d->d<N):
 ∀{l:List cX} {e aE:bJ} {h h2:aP},kF Γ l e h aE h2->∀(k:Nat) (a:Act) (w:World) (μ:Ren),l=aY.drop k->gF μ e a N->cH P μ h w->
  (∀a' b2 aV,gF aV aE a' N->cH P aV h2 b2->Ext μ h w aV h2 b2->a'.defers=a.defers->Q .normal a' b2)->wpOpsIn F n P ops Q (zn k l.length) a w:=by
 intro l e aE h h2 t
 induction t with
 |nil e h=>
  intro k a w μ _ cF s h_
  exact h_ a w μ cF s (Ext.refl _ _ _ s.cc) rfl
 |lr b0 _ g=>
  intro k a w μ av cF s h_
  exact g k a w μ av (cF.lr b0) s h_
 |@skip f l e aE h h2 bO b bE az _ g=>
  intro k a w μ av cF s h_
  have c:aY[k]?=I f:=by rw[←List.head?_drop,←av];rfl
  have ad:k<ops.size:=by rw[←br];exact(List.getElem?_eq_some_iff.1 c).1
  have i:ops[k]?=I ops[k]:=kW ad
  obtain⟨bR,p,m⟩:=hm k _ i
  rw[c]at p
  cases p
  have q:l=aY.drop (k+1):=by
   have:=cV List.tail av
   rw[List.tail_drop]at this
   exact this
  have u:zn k (f::l).length=k::zn (k+1) l.length:=by simp [List.range'_succ]
  rw[u]
  simp only[wpOpsIn,i]
  rw[Lc m cF bE az]
  simp only[bg,bd]
  refine⟨λf _=>x.1 f,?_⟩
  rw[m.dst]
  exact g (k+1) _ w μ q (cF.put bj.undef f.dst (y f (dH c))) s (λa' b2 aV ak aH aM bp=>h_ a' b2 aV ak aH aM (by rw[bp];cases f.dst<;>rfl))
 |@exec f l e aE h h1 h2 v bE ad aa _ g=>
  intro k a w μ av cF s h_
  have c:aY[k]?=I f:=by rw[←List.head?_drop,←av];rfl
  have A:k<ops.size:=by rw[←br];exact(List.getElem?_eq_some_iff.1 c).1
  have i:ops[k]?=I ops[k]:=kW A
  obtain⟨bR,p,m⟩:=hm k _ i
  rw[c]at p
  cases p
  have q:l=aY.drop (k+1):=by
   have:=cV List.tail av
   rw[List.tail_drop]at this
   exact this
  have u:zn k (f::l).length=k::zn (k+1) l.length:=by simp [List.range'_succ]
  rw[u]
  simp only[wpOpsIn,i]
  rw[xN m cF bE]
  simp only[aZ]
  refine xM x m.op z cF.op s ad (λv' bu μ1 aw az af=>?_)
  rw[m.dst]
  exact g (k+1) _ bu μ1 q ((cF.mono (af.r2 s.cc)).put aw f.dst (y f (dH c))) az (λa' b2 aV ak aH aM bp=>h_ a' b2 aV ak aH (af.trans aM s.cc) (by rw[bp];cases f.dst<;>rfl))
end Go.bB
namespace Go.bB
variable {P : Program} {μ : Ren} {w : World}
def nI(μ:Ren)(k:Nat):Ren:=λb=>if b<k then μ b else none
theorem r4(μ:Ren)(k:Nat):ef (nI μ k) μ:=λb l h=>by
 unfold nI at h
 split at h
 ·exact h
 ·cases h
theorem u'{k b:Nat}(h:b<k):nI μ k b=μ b:=aQ h
theorem va{k b:Nat}{l:Loc}(h:nI μ k b=I l):b<k:=by
 unfold nI at h
 split at h
 ·assumption
 ·cases h
mutual
theorem bj.restrict{jx μ:Ren}{k:Nat}(hd:∀b l,jx b=I l->b<k){x zS y:Value}:bj jx x zS->bj μ x y->bj (nI μ k) x y
 |.dI _,_=>.dI _
 |.bool _,h=>by cases h;exact .bool _
 |.int _ _,h=>by cases h;exact .int _ _
 |.string _,h=>by cases h;exact .string _
 |.tb,h=>by cases h;exact .tb
 |.ptr au,h=>by
  cases h with
  |ptr h1=>exact .ptr ((u' (hd _ _ au)).trans h1)
 |.mg,h=>by cases h;exact .mg
 |.bO au _,h=>by
  cases h with
  |bO h1 h2=>exact .bO ((u' (hd _ _ au)).trans h1) h2
  |fc _ _ _=>exact .fc _ _ _
  |gU _ _=>exact .gU _ _
 |.fc a _ _,h=>by
  cases h with
  |bO h1 h2=>exact .fc _ _ _
  |fc _ _ _=>exact .fc _ _ _
 |.gU a _,h=>by
  cases h with
  |bO h1 h2=>
   rcases h2 with⟨_,rfl⟩|⟨e,_⟩
   ·exact .gU _ _
   ·exact absurd e (by decide)
  |gU _ _=>exact .gU _ _
 |.tc,h=>by cases h;exact .tc
 |.map au,h=>by
  cases h with
  |map h1=>exact .map ((u' (hd _ _ au)).trans h1)
 |.func _ au pb,h=>by
  cases h with
  |func _ h1 hg=>exact .func _ (ct.restrict hd au h1) (ct.restrict hd pb hg)
 |.yield au,h=>by
  cases h with
  |yield h1=>exact .yield ((u' (hd _ _ au)).trans h1)
 |.nilFunc,h=>by cases h;exact .nilFunc
 |.nilIface,h=>by cases h;exact .nilIface
 |.iface _ au,h=>by
  cases h with
  |iface _ h1=>exact .iface _ (bj.restrict hd au h1)
 |.agg au,h=>by
  cases h with
  |agg h1=>exact .agg (ct.restrict hd au h1)
 |.tuple au,h=>by
  cases h with
  |tuple h1=>exact .tuple (ct.restrict hd au h1)
theorem ct.restrict{jx μ:Ren}{k:Nat}(hd:∀b l,jx b=I l->b<k){xs Gl ys:List Value}:ct jx xs Gl->ct μ xs ys->ct (nI μ k) xs ys
 |.nil,h=>by cases h;exact .nil
 |.cons au Gm,h=>by
  cases h with
  |cons h1 oq=>exact .cons (bj.restrict hd au h1) (ct.restrict hd Gm oq)
end
theorem e9.restrict{jx:Ren}{k:Nat}(hd:∀b l,jx b=I l->b<k){g K:Nat}{blk:h9}{j o:Obj}(au:e9 P jx g blk j)(h:e9 P μ K blk o):e9 P (nI μ k) K blk o:=by
 cases blk with
 |cells vs elem rw=>
  obtain⟨_,_,_,_,ak,_⟩:=au
  obtain⟨c,cF,h1,h2,e,aH⟩:=h
  exact⟨c,cF,h1,h2,ak.restrict hd e,aH⟩
 |map c5=>
  obtain⟨_,_,_,h2,ak⟩:=au
  obtain⟨l,b4,h1,m,e⟩:=h
  exact⟨l,b4,h1,h2.restrict hd m,ak.restrict hd e⟩
 |loop=>
  obtain⟨_,_,_,_,_,_,_,_,_,n⟩:=au
  obtain⟨r,h1,h2,ak,aH,aM,bp,cl,p,q⟩:=h
  exact⟨r,h1,h2,ak,aH,aM,bp,cl,p,λi=>(n i).restrict hd (q i)⟩
 |dead=>trivial
theorem vb{op:Op}{i:fE}(aa:oi P op=I i):(∀f args,i=.call f args->kD args=true/\fD f dP=true)/\(∀f args,i=.hU f args->mV f=true/\kD args=true):=by
 by_cases aA:th i=false
 ·exact⟨λf args e=>(by subst e;cases aA),λf args e=>(by subst e;cases aA)⟩
 ·unfold oi at aa
  split at aa
  case isFalse=>cases aa
  rename_i h
  cases op with
  |call c=>
   obtain⟨callee,args,argTypes⟩:=c
   cases callee with
   |value f=>
    simp only[kD,ft,FY,Kg,List.all_append,dx]at h
    have aC:mV f=true:=by simpa using h.1
    cases f with
    |func g=>
     simp only[iV]at aa
     split at aa
     ·rename_i j
      cases aa;refine⟨λf args e=>?_,λf args e=>?_⟩<;>first|(cases e;done)|(cases e;exact⟨h.2,j⟩)|(cases e;exact⟨aC,h.2⟩)
     ·cases aa
    |_=>cases aa;refine⟨λf args e=>?_,λf args e=>?_⟩<;>first|(cases e;done)|(cases e;exact h.2)|(cases e;exact⟨aC,h.2⟩)
   |invoke _ _=>cases aa
   |builtin b=>exact absurd (K5 aa) aA
  |binOp _ _ _ _ _=>exact absurd (K6 aa) aA
  |convert _ _ _=>exact absurd (K7 aa) aA
  |makeMap t r=>cases r<;>first|(cases aa;done)|(cases aa;exact absurd rfl aA)
  |makeFunc fn _ _=>cases fn<;>first|(cases aa;done)|(cases aa;exact absurd rfl aA)
  |_=>
   exfalso
   apply aA
   first
    |(cases aa;done)
    |(cases aa;rfl)
    |(simp only[iV]at aa
      (repeat' split at aa)<;>first
        |(cases aa;rfl)
        |(rw[de]at aa;obtain⟨_,_,aa⟩:=aa;cases aa;rfl)
        |cases aa)
theorem Ld{o:Oper}{i:fE}{e:bJ}{a:Act}{h h1:aP}{v:Value}{Γ:Callee}(aa:oi P o.op=I i)(m:iH P Γ)(he:tg μ e a.eval)(s:cH P μ h w)
 (ad:c7 Γ i e h (λv h'=>I (v,h'))=I (v,h1)):∃v' bu μ1,bj μ1 v v'/\cH P μ1 h1 bu/\Ext μ h w μ1 h1 bu:=by
 by_cases aA:th i=false
 ·obtain⟨v',bu,μ1,_,h2,ak,aH⟩:=K2 aa aA he s ad
  exact⟨v',bu,μ1,h2,ak,aH⟩
 ·have key:∀(f:dN) (args j:List Value),fD f dP=true->ct μ args j->Γ f args h=I (v,h1)->∃v' bu μ1,bj μ1 v v'/\cH P μ1 h1 bu/\Ext μ h w μ1 h1 bu:=by
   intro f args j k av bE
   obtain⟨_,ak⟩:=m.fn f k args h v h1 bE
   obtain⟨_,aH⟩:=ak μ w j s av Fence.wide 0 ⟨λ_=>trivial,rfl⟩
   obtain⟨_,bu,_,⟨v',μ1,_,aM,bp,cl⟩,_⟩:=aH [] (room_wide _)
   exact⟨v',bu,μ1,aM,bp,cl⟩
  have t:kD o.op.operands.toList=true:=by
   unfold oi at aa
   split at aa
   ·assumption
   ·cases aa
  cases i<;>first|(exact absurd rfl aA)|skip
  case call f args=>
   simp only[c7,cN]at ad
   obtain⟨⟨n,p⟩,l,ad⟩:=ad
   cases ad
   exact key f _ _ ((vb aa).1 f args rfl).2 (p7 he ((vb aa).1 f args rfl).1) l
  case hU f args=>
   simp only[c7,cN]at ad
   obtain⟨⟨n,p⟩,l,ad⟩:=ad
   cases ad
   rcases K4 l with⟨g,xs,ys,aC,k,bE⟩|⟨b,aC,bE⟩
   case inr=>
    have c:=he f ((vb aa).2 f args rfl).1
    rw[aC]at c
    generalize a.eval f=y at c
    cases c with
    |@yield _ q K aM=>
     obtain⟨fn,tmps,as,u,cE,cD⟩:=m.yield b _ h _ _ bE μ w _ q K s (p7 he ((vb aa).2 f args rfl).2) aM
     obtain⟨_,aH⟩:=cD Fence.wide 0 ⟨λ_=>trivial,rfl⟩
     obtain⟨_,bu,⟨v',μ1,_,aM,bp,cl⟩,_⟩:=aH default [] (room_wide _)
     exact⟨v',bu,μ1,aM,bp,cl⟩
   have c:=he f ((vb aa).2 f args rfl).1
   rw[aC]at c
   generalize a.eval f=y at c
   cases c with
   |@func _ _ _ eX eM aM bp=>
    exact key g _ _ k ((aM.append (p7 he ((vb aa).2 f args rfl).2)).append bp) bE
structure gV where
 e:bJ
 h:aP
 v:Value
 h':aP
 hh:Bool
structure p9(Γ:Callee)(f:cX)(r:gV):Prop where
 dX:r.hh=true->z8 f.dX r.e r.h r.h'
 run:r.hh=true->(f.guard=none\/∃s b,f.guard=I (s,b)/\r.e s=.bool b)/\c7 Γ f.op r.e r.h (λv h'=>I (v,h'))=I (r.v,r.h')
 skip:r.hh=false->(∃s b,f.guard=I (s,b)/\(r.e s=.bool (!b)\/r.e s=undef))/\r.v=undef/\r.h'=r.h
def r5(Γ:Callee):List cX->List gV->bJ->aP->bJ->aP->Prop
 |[],[],S,h,dZ,h2=>dZ=S/\h2=h
 |f::l,r::rs,S,h,dZ,h2=>r.h=h/\iw r.e S/\p9 Γ f r/\r5 Γ l rs (gT S f.dst r.v) r.h' dZ h2
 |_,_,_,_,_,_=>False
theorem iw.trans{a b c:bJ}(h:iw a b)(h':iw b c):iw a c:=λi=>by
 rcases h i with h1|h1
 ·rcases h' i with h2|h2
  ·left;rw[h1,h2]
  ·right;rw[h1,h2]
 ·right;exact h1
theorem UF{Γ:Callee}{l:List cX}{e aE:bJ}{h h2:aP}(t:kF Γ l e h aE h2):∀S,iw e S->∃rs dZ,r5 Γ l rs S h dZ h2/\iw aE dZ:=by
 induction t with
 |nil e h=>exact λS c=>⟨[],S,⟨rfl,rfl⟩,c⟩
 |lr b0 _ g=>exact λS c=>g S (b0.trans c)
 |@skip f l e aE h h2 s b bE az _ g=>
  intro S c
  obtain⟨rs,dZ,ak,aH⟩:=g (gT S f.dst undef) (c.gT _ _)
  exact⟨⟨e,h,undef,h,false⟩::rs,dZ,⟨rfl,c,⟨λh=>(by cases h),λh=>(by cases h),λ_=>⟨⟨s,b,bE,az⟩,rfl,rfl⟩⟩,ak⟩,aH⟩
 |@exec f l e aE h h1 h2 v bE ad aa _ g=>
  intro S c
  obtain⟨rs,dZ,ak,aH⟩:=g (gT S f.dst v) (c.gT _ _)
  exact⟨⟨e,h,v,h1,true⟩::rs,dZ,⟨rfl,c,⟨λ_=>aa,λ_=>⟨bE,ad⟩,λh=>(by cases h)⟩,ak⟩,aH⟩
end Go.bB
namespace Go.bB
variable {P : Program} {w : World}
theorem ow{e e':bJ}{x:Operand}(h:∀t∈ee x,e t=e' t):val e x=val e' x:=by
 cases x with
 |tmp t=>exact h t (by simp [ee])
 |_=>rfl
theorem xO{e e':bJ}:∀{l:List Operand},(∀t∈q3 l,e t=e' t)->c6 e l=c6 e' l
 |[],_=>rfl
 |x::l,h=>by
  simp only[q3,mN]at h
  simp only[c6]
  rw[ow (λt aO=>h t (.inl aO)),xO (λt aO=>h t (.inr aO))]
theorem xP{e e':bJ}{x:Option Operand}(h:∀t∈q4 x,e t=e' t):iF e x=iF e' x:=by
 cases x with
 |none=>rfl
 |some x=>exact cV I (ow h)
theorem Le{e e':bJ}:∀{l:List (Nat×Nat×Operand)},(∀t∈xx l,e t=e' t)->mT e l=mT e' l
 |[],_=>rfl
 |(i,n,x)::l,h=>by
  simp only[xx,mN]at h
  simp only[mT]
  rw[ow (λt aO=>h t (.inl aO)),Le (λt aO=>h t (.inr aO))]
theorem xQ{R:Type}{Γ:Callee}{o:fE}{e e':bJ}{h:aP}{k:Value->aP->Option R}(he:∀t∈xy o,e t=e' t):c7 Γ o e h k=c7 Γ o e' h k:=by
 cases o<;>simp only[xy,mN]at he<;>simp only[c7]<;>first
  |rfl
  |rw[ow (x:=_) (λt aO=>he t aO)]
  |rw[xO (λt aO=>he t aO)]
  |rw[Le (λt aO=>he t aO)]
  |rw[ow (λt aO=>he t (.inl aO)),ow (λt aO=>he t (.inr aO))]
  |rw[ow (λt aO=>he t (.inl aO)),xO (λt aO=>he t (.inr aO))]
  |rw[xO (λt aO=>he t (.inl aO)),xO (λt aO=>he t (.inr aO))]
  |rw[ow (λt aO=>he t (.inl aO)),ow (λt aO=>he t (.inr (.inl aO))),ow (λt aO=>he t (.inr (.inr aO)))]
  |rw[ow (λt aO=>he t (.inl aO)),xP (λt aO=>he t (.inr (.inl aO))),xP (λt aO=>he t (.inr (.inr aO)))]
  |rw[ow (λt aO=>he t (.inl aO)),xP (λt aO=>he t (.inr (.inl aO))),xP (λt aO=>he t (.inr (.inr (.inl aO)))),xP (λt aO=>he t (.inr (.inr (.inr aO))))]
theorem Lf{o:fE}(h:p5 o=true):ke o=true:=by cases o<;>first|rfl|exact h
theorem GD{Γ:Callee}{o:fE}{e:bJ}{h h1:aP}{v:Value}(av:ke o=false)(ad:c7 Γ o e h (λv h'=>I (v,h'))=I (v,h1)):
 h1=h/\∀h',c7 Γ o e h' (λv h'=>I (v,h'))=I (v,h'):=by
 cases o<;>first
  |(cases av;done)
  |(exfalso;simp only[c7,reduceCtorEq]at ad;done)
  |(simp only[c7]at ad;cases ad;exact⟨rfl,λh'=>rfl⟩;done)
  |(simp only[c7,cN]at ad;obtain⟨u,b,ad⟩:=ad;cases ad;refine⟨rfl,λh'=>?_⟩;simp only[c7,b,dy])
theorem UG{Γ:Callee}{o:fE}{e:bJ}{h h1:aP}{v:Value}(av:p5 o=false)(ad:c7 Γ o e h (λv h'=>I (v,h'))=I (v,h1)):h <+: h1:=by
 cases o<;>first
  |(cases av;done)
  |(exfalso;simp only[c7,reduceCtorEq]at ad;done)
  |(simp only[c7,cN]at ad;obtain⟨u,b,ad⟩:=ad;cases ad;first|exact mO _|exact FZ _ _)
  |(simp only[c7]at ad;cases ad;first|exact mO _|exact FZ _ _)
  |(simp only[c7,cN]at ad
    obtain⟨⟨c,g⟩,b,ad⟩:=ad
    cases ad
    unfold s_ at b
    split at b
    ·split at b
     ·cases b;exact FZ _ _
     ·cases b
    ·cases b)
end Go.bB
namespace Go.bB
variable {P : Program} {w : World}
def bN(rs:List gV)(h2:aP)(i:Nat):aP:=((rs[i]?).map (·.h)).getD h2
def ff(L:Nat->Bool):Nat->List cX->List gV->bJ->bJ
 |k,f::l,r::rs,S=>ff L (k+1) l rs (if L k=true then gT S f.dst r.v else S)
 |_,_,_,S=>S
theorem pg{Γ:Callee}:∀{aY:List cX} {rs:List gV} {S dZ:bJ} {h h2:aP},r5 Γ aY rs S h dZ h2->rs.length=aY.length
 |[],[],_,_,_,_,_=>rfl
 |_::_,_::_,_,_,_,_,h=>by simp [pg h.2.2.2]
 |[],_::_,_,_,_,_,h=>h.elim
 |_::_,[],_,_,_,_,h=>h.elim
theorem Ac{Γ:Callee}:∀{aY:List cX} {rs:List gV} {S dZ:bJ} {h h2:aP},r5 Γ aY rs S h dZ h2->bN rs h2 0=h
 |[],[],_,_,_,_,an=>an.2
 |_::_,_::_,_,_,_,_,an=>an.1
 |[],_::_,_,_,_,_,h=>h.elim
 |_::_,[],_,_,_,_,h=>h.elim
theorem UH(r:gV)(rs:List gV)(h2:aP)(i:Nat):bN (r::rs) h2 (i+1)=bN rs h2 i:=rfl
theorem Ad{L:Nat->Bool}:∀(aY:List cX) (rs:List gV) (k:Nat) (S:bJ),(∀i,i<aY.length->L (k+i)=false)->ff L k aY rs S=S
 |f::l,r::rs,k,S,h=>by
  simp only[ff]
  rw[show L k=false from h 0 (by simp)]
  simp only[bg,bd]
  exact Ad l rs (k+1) S (λi ag=>by have:=h (i+1) (by simp;omega);rwa [show k+(i+1)=k+1+i from by omega]at this)
 |[],_,_,_,_=>by simp [ff]
 |_::_,[],_,_,_=>by simp [ff]
theorem ox{Γ:Callee}:∀{aY:List cX} {rs:List gV} {S dZ:bJ} {h h2:aP},r5 Γ aY rs S h dZ h2->∀(i:Nat) (f:cX),aY[i]?=I f->
 ∃r,rs[i]?=I r/\p9 Γ f r/\iw r.e (ff (λj=>decide (j<i)) 0 aY rs S)/\r.h=bN rs h2 i/\r.h'=bN rs h2 (i+1)
 |f0::l,b::rs,S,dZ,h,h2,an,0,f,aC=>by
  simp only[jP,ug]at aC
  subst aC
  refine⟨b,rfl,an.2.2.1,?_,rfl,?_⟩
  ·rw[Ad _ _ _ _ (λi _=>by simp)]
   exact an.2.1
  ·rw[UH,Ac an.2.2.2]
 |f0::l,b::rs,S,dZ,h,h2,an,i+1,f,aC=>by
  simp only[l9]at aC
  obtain⟨r,ak,aH,aM,bp,cl⟩:=ox an.2.2.2 i f aC
  refine⟨r,ak,aH,?_,bp,cl⟩
  have c:∀(l:List cX) (rs:List gV) (k:Nat) (S:bJ),ff (λj=>decide (j<i+1)) (k+1) l rs S=ff (λj=>decide (j<i)) k l rs S:=by
   intro l
   induction l with
   |nil=>intros;simp [ff]
   |cons f l g=>
    intro rs k S
    cases rs with
    |nil=>simp [ff]
    |cons r rs=>
     simp only[ff]
     rw[g]
     simp
  simp only[ff]
  rw[c]
  simp only[Nat.zero_lt_succ,cm,aZ]
  exact aM
 |[],[],_,_,_,_,_,i,f,aC=>by simp at aC
 |[],_::_,_,_,_,_,h,_,_,_=>h.elim
 |_::_,[],_,_,_,_,h,_,_,_=>h.elim
theorem xR{L:Nat->Bool}{t:Nat}:∀(aY:List cX) (rs:List gV) (k:Nat) (S:bJ),rs.length=aY.length->(∀(i j:Nat) (f bR:cX),i≠j->aY[i]?=I f->aY[j]?=I bR->f.dst=I t->bR.dst≠I t)->
 (∀(j:Nat) (f:cX) (r:gV),aY[j]?=I f->rs[j]?=I r->L (k+j)=true->f.dst=I t->ff L k aY rs S t=r.v)/\
 ((∀(j:Nat) (f:cX),aY[j]?=I f->L (k+j)=true->f.dst≠I t)->ff L k aY rs S t=S t)
 |[],[],k,S,_,_=>⟨λj f r aC=>by simp at aC,λ_=>rfl⟩
 |[],_::_,_,_,h,_=>by simp at h
 |_::_,[],_,_,h,_=>by simp at h
 |f0::l,m::rs,k,S,br,hd=>by
  have n:∀(i j:Nat) (f bR:cX),i≠j->l[i]?=I f->l[j]?=I bR->f.dst=I t->bR.dst≠I t:=λi j f bR q ag b=>hd (i+1) (j+1) f bR (by omega) ag b
  obtain⟨cE,cD⟩:=xR (L:=L) (t:=t) l rs (k+1) (if L k=true then gT S f0.dst m.v else S) (by simpa using br) n
  constructor
  ·intro j f r aC an c e
   cases j with
   |zero=>
    simp only[jP,ug]at aC an
    subst aC an
    simp only[ff]
    rw[cD (λj f aC u o=>hd 0 (j+1) f0 f (by omega) rfl aC e o),aQ (by simpa using c),e]
    exact ov _ _ _
   |succ j=>
    simp only[l9]at aC an
    simp only[ff]
    exact cE j f r aC an (by rwa [show k+(j+1)=k+1+j from by omega]at c) e
  ·intro g
   simp only[ff]
   rw[cD (λj f aC c=>g (j+1) f aC (by rwa [show k+(j+1)=k+1+j from by omega]))]
   split
   ·rename_i p
    exact u_ (λj b=>by rintro rfl;exact g 0 f0 rfl p b)
   ·rfl
theorem Lg{Γ:Callee}:∀{aY:List cX} {rs:List gV} {S dZ:bJ} {h h2:aP} {L:Nat->Bool} {k:Nat},r5 Γ aY rs S h dZ h2->(∀i,i<aY.length->L (k+i)=true)->ff L k aY rs S=dZ
 |[],[],_,_,_,_,_,_,an,_=>by simp only[ff];exact an.1.symm
 |f::l,r::rs,S,dZ,h,h2,L,k,an,b=>by
  simp only[ff]
  rw[aQ (show L k=true from b 0 (by simp))]
  exact Lg an.2.2.2 (λi ag=>by have:=b (i+1) (by simp;omega);rwa [show k+(i+1)=k+1+i from by omega]at this)
 |[],_::_,_,_,_,_,_,_,h,_=>h.elim
 |_::_,[],_,_,_,_,_,_,h,_=>h.elim
theorem Lh{Γ:Callee}{N:Nat}(e:iH P Γ):∀{aY:List cX} {rs:List gV} {S dZ:bJ} {h h2:aP} {μ:Ren} {a:Act} {w:World},r5 Γ aY rs S h dZ h2->
 (∀f∈aY,(∃o:Oper,oi P o.op=I f.op)/\∀d,f.dst=I d->d<N)->gF μ S a N->cH P μ h w->∀i,i<=aY.length->
 ∃jx at_ b,gF jx (ff (λj=>decide (j<i)) 0 aY rs S) at_ N/\cH P jx (bN rs h2 i) b/\Ext μ h w jx (bN rs h2 i) b
 |[],[],S,dZ,h,h2,μ,a,w,an,_,cF,s,i,ag=>by
  have au:i=0:=by simpa using ag
  subst au
  have c:bN [] h2 0=h:=an.2
  rw[c]
  exact⟨μ,a,w,cF,s,Ext.refl _ _ _ s.cc⟩
 |f::l,r::rs,S,dZ,h,h2,μ,a,w,an,hm,cF,s,i,ag=>by
  obtain⟨rfl,b0,g,u1⟩:=an
  cases i with
  |zero=>
   rw[Ad _ _ _ _ (λi _=>by simp)]
   exact⟨μ,a,w,cF,s,Ext.refl _ _ _ s.cc⟩
  |succ i=>
   have p:∃μ1 m bu,gF μ1 (gT S f.dst r.v) m N/\cH P μ1 r.h' bu/\Ext μ r.h w μ1 r.h' bu:=by
    cases n:r.hh with
    |true=>
     obtain⟨_,ad⟩:=g.run n
     obtain⟨⟨o,q⟩,t⟩:=hm f (by simp)
     obtain⟨v',bu,μ1,ak,aH,aM⟩:=Ld q e (cF.lr b0).op s ad
     exact⟨μ1,a.put f.dst v',bu,(cF.mono (aM.r2 s.cc)).put ak f.dst t,aH,aM⟩
    |false=>
     obtain⟨_,aw,c⟩:=g.skip n
     rw[aw,c]
     exact⟨μ,a.put f.dst undef,w,cF.put bj.undef f.dst (hm f (by simp)).2,s,Ext.refl _ _ _ s.cc⟩
   obtain⟨μ1,m,bu,u,s1,ay⟩:=p
   obtain⟨jx,at_,b,bp,cl,x⟩:=Lh e u1 (λf aC=>hm f (by simp [aC])) u s1 i (by simpa using ag)
   refine⟨jx,at_,b,?_,cl,ay.trans x s.cc⟩
   have y:∀(l:List cX) (rs:List gV) (k:Nat) (S:bJ),ff (λj=>decide (j<i+1)) (k+1) l rs S=ff (λj=>decide (j<i)) k l rs S:=by
    intro l
    induction l with
    |nil=>intros;simp [ff]
    |cons f l z=>
     intro rs k S
     cases rs with
     |nil=>simp [ff]
     |cons r rs=>
      simp only[ff]
      rw[z]
      simp
   simp only[ff]
   rw[y]
   simp only[Nat.zero_lt_succ,cm,aZ]
   exact bp
 |[],_::_,_,_,_,_,_,_,_,h,_,_,_,_,_=>h.elim
 |_::_,[],_,_,_,_,_,_,_,h,_,_,_,_,_=>h.elim
end Go.bB
namespace Go.bB
variable {P : Program}
structure GF(ops:Array Oper)(aY:List cX)(B:List Nat):Prop where
 Ae:∀(i:Nat) (o:Oper),ops[i]?=I o->∀e∈o.after.toList,iS .any e=true->e.on<i
 cert:∀(i j:Nat) (o:Oper),ops[i]?=I o->(B.getD i 0).testBit j=true->∃e∈o.after.toList,iS .any e=true/\(j=e.on\/(B.getD e.on 0).testBit j=true)
 ti:∀(i j:Nat) (f bR:cX) (t:Nat),i≠j->aY[i]?=I f->aY[j]?=I bR->f.dst=I t->bR.dst≠I t
 look:∀(i j:Nat) (f bR:cX) (t:Nat),i<j->aY[i]?=I f->aY[j]?=I bR->((f.dst=I t/\t∈gL bR)\/(bR.dst=I t/\t∈gL f))->(B.getD j 0).testBit i=true
 wr:∀(i:Nat) (f:cX),aY[i]?=I f->p5 f.op=true->zP f.dX=false->∀(j:Nat) (bR:cX),aY[j]?=I bR->ke bR.op=true->
  (i<j->(B.getD j 0).testBit i=true\/xz f bR=true)/\(j<i->(B.getD i 0).testBit j=true\/ta aY i j=true\/xA aY j f bR=true\/xB f bR=true)
def mh(ops:Array Oper)(L:Nat->Bool):Prop:=∀(i:Nat) (o:Oper),ops[i]?=I o->L i=true->∀e∈o.after.toList,iS .any e=true->L e.on=true
theorem vc{ops:Array Oper}{aY:List cX}{B:List Nat}(ok:GF ops aY B){L:Nat->Bool}(aa:mh ops L):∀(m i:Nat),i<=m->∀o,ops[i]?=I o->
 (∀e∈o.after.toList,iS .any e=true->L e.on=true)->∀j,(B.getD i 0).testBit j=true->L j=true:=by
 intro m
 induction m with
 |zero=>
  intro i ag o b he j k
  obtain⟨e,c,g,h⟩:=ok.cert i j o b k
  have:=ok.Ae i o b e c g
  omega
 |succ m n=>
  intro i ag o b he j k
  obtain⟨e,c,g,h⟩:=ok.cert i j o b k
  have p:=ok.Ae i o b e c g
  rcases h with rfl|h
  ·exact he e c g
  ·have cY:e.on<ops.size:=by have:=(Array.getElem?_eq_some_iff.1 b).1;omega
   have l:ops[e.on]?=I ops[e.on]:=kW cY
   exact n e.on (by omega) _ l (aa e.on _ l (he e c g)) j h
section
variable {F : Fence} {n N : Nat} {Γ : Callee} {ops : Array Oper} {aY : List cX} {rs : List gV} {S0 dZ : bJ} {au h2 : aP} {B : List Nat} {Q : Exit -> Act -> World -> Prop} {d_ : Ren} {a0 : Act} {w0 : World}
def lO:fE->Bool
 |.load _ _ (.tmp _)=>true
 |_=>false
theorem Li{o:fE}(h:p5 o=true):lO o=false:=by cases o<;>first|rfl|cases h
theorem Lj{o:fE}{t:Nat}(h:loadAt o=I t):lO o=true:=by
 cases o with
 |load g n x=>cases x<;>first|rfl|cases h
 |_=>cases h
theorem UI{o:fE}(h:om o=true):p6 o=true:=by cases o<;>first|rfl|cases h
theorem UJ{o:fE}(h:p6 o=true):lO o=false:=by cases o<;>first|rfl|cases h
theorem Lk{f bR:cX}(h:xz f bR=true):∃s d t,oo f.op=I s/\f.dst=I d/\loadAt bR.op=I t/\uX (uW bR.dX) d t=true:=by
 unfold xz at h
 split at h
 ·rename_i s d t h1 h2 ak;exact⟨s,d,t,h1,h2,ak,h⟩
 ·cases h
theorem Ll{aY:List cX}{j:Nat}{f bR:cX}(h:xA aY j f bR=true):∃s t,oo f.op=I s/\loadAt bR.op=I t/\uX (uW f.dX) s t=true/\Gg aY j t=true:=by
 unfold xA at h
 split at h
 ·rename_i s t h1 h2
  rw[dx]at h
  exact⟨s,t,h1,h2,h.1,h.2⟩
 ·cases h
theorem Lm{c:kZ}{e:bJ}{h h':aP}{a b:Nat}(aa:z8 c e h h')(aj:uX (uW c) a b=true):xp (e a) (e b):=by
 cases c with
 |hf bC=>
  unfold uX uW at aj
  rw[F0]at aj
  obtain⟨p,h1,h2⟩:=aj
  rw[dx]at h2
  have:=aa p h1
  rw[hz h2.1,hz h2.2]at this
  exact this
 |_=>cases aj
def Calm(rs:List gV)(h2:aP)(i:Nat):Prop:=bN rs h2 i <+: bN rs h2 (i+1)
structure kG(P:Program)(aY:List cX)(rs:List gV)(S0:bJ)(au h2:aP)(d_:Ren)(a0:Act)(w0:World)(N:Nat)(L:Nat->Bool)(μ:Ren)(q:Nat)(a:Act)(w:World):Prop where
 le:q<=aY.length
 done:∀i,i<q->¬Calm rs h2 i->L i=true
 next:q<aY.length->¬Calm rs h2 q/\L q=false
 tj:∀i f,q<i->aY[i]?=I f->ke f.op=true->lO f.op=false->L i=false
 kill:∀u ix fL,u<q->aY[u]?=I ix->rs[u]?=I fL->¬Calm rs h2 u->∀s,oo ix.op=I s->∀gM n c,fL.e s=.slice (I gM) n c->¬(n=0/\c=0)->¬(n=0/\c=et)->
  ∀i,i<u->L i=false->(bN rs h2 i).length<(bN rs h2 (i+1)).length->gM.block≠(bN rs h2 i).length
 gW:cH P μ (bN rs h2 q) w
 ext:ExtP d_ au w0 μ (bN rs h2 q) w
 mapped:∀i,i<q->L i=true->∀b,(bN rs h2 i).length<=b->b<(bN rs h2 (i+1)).length->live (bN rs h2 q) b->∃l,μ b=I l
 free:∀i,i<q->L i=false->∀b,(bN rs h2 i).length<=b->b<(bN rs h2 (i+1)).length->μ b=none
 size:a.tmps.size=N
 p_:∀t,bj μ (ff L 0 aY rs S0 t) (a.tmps.getD t undef)
 defers:a.defers=a0.defers
theorem Ln{i q:Nat}(h:∀k,i<=k->k<q->Calm rs h2 k)(c:i<=q):bN rs h2 i <+: bN rs h2 q:=by
 induction q with
 |zero=>have:i=0:=by omega
        subst this
        exact mO _
 |succ q b=>
  by_cases bs:i=q+1
  ·subst bs;exact mO _
  ·exact(b (λk h1 h2=>h k h1 (by omega)) (by omega)).trans (h q (by omega) (by omega))
theorem nJ{α:Type}{l cB:List α}(h:l <+: cB){i:Nat}(ag:i<l.length):cB[i]?=l[i]?:=by
 obtain⟨t,rfl⟩:=h
 exact cG ag
theorem lP{h h':aP}(aj:h <+: h'){b:Nat}(ae:b<h.length):live h' b↔live h b:=by
 unfold live
 rw[nJ aj ae]
theorem Af{L:Nat->Bool}{i:Nat}{f:cX}{r:gV}{μ μ1:Ren}{a:Act}{v':Value}(br:rs.length=aY.length)(hd:∀(i j:Nat) (f bR:cX) (t:Nat),i≠j->aY[i]?=I f->aY[j]?=I bR->f.dst=I t->bR.dst≠I t)
 (aC:aY[i]?=I f) (an:rs[i]?=I r) (m:∀d,f.dst=I d->d<N) (cY:a.tmps.size=N) (w:L i=false) (az:∀t,bj μ (ff L 0 aY rs S0 t) (a.tmps.getD t undef)) (hm:∀x y,bj μ x y->bj μ1 x y) (aw:bj μ1 r.v v'):
 (a.put f.dst v').tmps.size=N/\∀t,bj μ1 (ff (λj=>if j=i then true else L j) 0 aY rs S0 t) ((a.put f.dst v').tmps.getD t undef):=by
 have g:=λ(L:Nat->Bool) t=>xR (L:=L) (t:=t) aY rs 0 S0 br (λi j f bR n ag o=>hd i j f bR t n ag o)
 refine⟨by cases f.dst<;>simp [Act.put,cY],λt=>?_⟩
 by_cases h:f.dst=I t
 ·rw[(g (λj=>if j=i then true else L j) t).1 i f r aC an (by simp) h,h]
  have:t<a.tmps.size:=by rw[cY];exact m t h
  simp [Act.put,this]
  exact aw
 ·have h1:(a.put f.dst v').tmps.getD t undef=a.tmps.getD t undef:=by
   cases p:f.dst with
   |none=>rfl
   |some d=>
    have:d≠t:=by rintro rfl;exact h p
    simp [Act.put,w2 this]
  have h2:ff (λj=>if j=i then true else L j) 0 aY rs S0 t=ff L 0 aY rs S0 t:=by
   by_cases k:∃j bR,aY[j]?=I bR/\L j=true/\bR.dst=I t
   ·obtain⟨j,bR,b,c,e⟩:=k
    have q:j<rs.length:=by rw[br];exact(List.getElem?_eq_some_iff.1 b).1
    have l:rs[j]?=I rs[j]:=gb q
    rw[(g L t).1 j bR _ b l (by simpa using c) e,(g (λj=>if j=i then true else L j) t).1 j bR _ b l (by simp [c]) e]
   ·rw[(g L t).2 (λj bR b c e=>k ⟨j,bR,b,by simpa using c,e⟩),(g (λj=>if j=i then true else L j) t).2 (λj bR b c e=>?_)]
    simp only[gR]at c
    split at c
    ·rename_i u;subst u;rw[aC]at b;cases b;exact h e
    ·exact k ⟨j,bR,b,c,e⟩
  rw[h1,h2]
  exact hm _ _ (az t)
end
end Go.bB
namespace Go.bB
variable {P : Program}
section
variable {F : Fence} {n N : Nat} {Γ : Callee} {ops : Array Oper} {aY : List cX} {rs : List gV} {S0 dZ : bJ} {au h2 : aP} {B : List Nat} {Q : Exit -> Act -> World -> Prop} {d_ : Ren} {a0 : Act} {w0 : World}
structure ho(P:Program)(Γ:Callee)(ops:Array Oper)(aY:List cX)(rs:List gV)(S0 dZ:bJ)(au h2:aP)(B:List Nat)(d_:Ren)(a0:Act)(w0:World)(N:Nat):Prop where
 iW:r5 Γ aY rs S0 au dZ h2
 ord:GF ops aY B
 callee:iH P Γ
 len:aY.length=ops.size
 GG:∀(j:Nat) (o:Oper),ops[j]?=I o->∃f,aY[j]?=I f/\pf P ops o f
 dst:∀f∈aY,∀d,f.dst=I d->d<N
 cF:gF d_ S0 a0 N
 gW:cH P d_ au w0
theorem ho.text(k:ho P Γ ops aY rs S0 dZ au h2 B d_ a0 w0 N)(i:Nat)(ag:i<=aY.length):
 ∃jx at_ b,gF jx (ff (λj=>decide (j<i)) 0 aY rs S0) at_ N/\cH P jx (bN rs h2 i) b/\Ext d_ au w0 jx (bN rs h2 i) b:=by
 refine Lh k.callee k.iW (λf aC=>⟨?_,k.dst f aC⟩) k.cF k.gW i ag
 obtain⟨j,c⟩:=List.getElem?_of_mem aC
 have g:j<ops.size:=by rw[←k.len];exact(List.getElem?_eq_some_iff.1 c).1
 obtain⟨bR,e,m⟩:=k.GG j _ (kW g)
 rw[c]at e
 cases e
 exact⟨_,m.op⟩
theorem ho.xS(k:ho P Γ ops aY rs S0 dZ au h2 B d_ a0 w0 N){i:Nat}(ag:i<aY.length)(aA:¬Calm rs h2 i):∃f,aY[i]?=I f/\p5 f.op=true/\zP f.dX=false:=by
 obtain⟨f,aC⟩:∃f,aY[i]?=I f:=⟨_,gb ag⟩
 obtain⟨r,an,c,b0,e,g⟩:=ox k.iW i f aC
 refine⟨f,aC,?_,?_⟩
 ·cases hm:p5 f.op with
  |true=>rfl
  |false=>
   exfalso
   apply aA
   unfold Calm
   rw[←e,←g]
   cases b:r.hh with
   |true=>exact UG hm (c.run b).2
   |false=>rw[(c.skip b).2.2];exact mO _
 ·cases aa:f.dX with
  |no=>rfl
  |hf=>rfl
  |calm=>
   exfalso
   apply aA
   unfold Calm
   rw[←e,←g]
   cases b:r.hh with
   |true=>have:=c.dX b;rw[aa]at this;exact this
   |false=>rw[(c.skip b).2.2];exact mO _
theorem ho.looks(k:ho P Γ ops aY rs S0 dZ au h2 B d_ a0 w0 N){L:Nat->Bool}(aa:mh ops L){i:Nat}{o:Oper}{f:cX}(x:ops[i]?=I o)(aC:aY[i]?=I f)(q:L i=false)
 (he:∀e∈o.after.toList,iS .any e=true->L e.on=true) {t:Nat} (aO:t∈gL f):
 ff (λj=>decide (j<i)) 0 aY rs S0 t=ff L 0 aY rs S0 t:=by
 have br:=pg k.iW
 have m:=λ(L:Nat->Bool)=>xR (L:=L) (t:=t) aY rs 0 S0 br (λi j f bR l ag y=>k.ord.ti i j f bR t l ag y)
 have z:∀j bR,aY[j]?=I bR->bR.dst=I t->i<j->L j=false:=by
  intro j bR b c l
  have ae:=k.ord.look i j f bR t l aC b (.inr ⟨c,aO⟩)
  have n:j<ops.size:=by rw[←k.len];exact(List.getElem?_eq_some_iff.1 b).1
  cases g:L j with
  |false=>rfl
  |true=>
   have u:ops[j]?=I ops[j]:=kW n
   have:=vc k.ord aa j j (ca _) _ u (aa j _ u g) i ae
   rw[q]at this
   cases this
 have A:∀j bR,aY[j]?=I bR->bR.dst=I t->j<i->L j=true:=by
  intro j bR b c h
  exact vc k.ord aa i i (ca _) o x he j (k.ord.look j i bR f t h b aC (.inl ⟨c,aO⟩))
 by_cases p:∃j bR,aY[j]?=I bR/\j<i/\bR.dst=I t
 ·obtain⟨j,bR,b,h,c⟩:=p
  have n:j<rs.length:=by rw[br];exact(List.getElem?_eq_some_iff.1 b).1
  have w:rs[j]?=I rs[j]:=gb n
  rw[(m _).1 j bR _ b w (by simpa using h) c,(m L).1 j bR _ b w (by rw[gR];exact A j bR b c h) c]
 ·rw[(m _).2 (λj bR b g c=>p ⟨j,bR,b,by simpa using g,c⟩),(m L).2 (λj bR b g c=>?_)]
  rw[gR]at g
  by_cases h:j<i
  ·exact p ⟨j,bR,b,h,c⟩
  ·by_cases l:i=j
   ·subst l;rw[q]at g;cases g
   ·rw[z j bR b c (by omega)]at g
    cases g
def fF(L:Nat->Bool)(i:Nat):Nat->Bool:=λj=>if j=i then true else L j
theorem xT{L:Nat->Bool}{i j:Nat}(h:fF L i j=false):L j=false:=by
 unfold fF at h
 split at h
 ·cases h
 ·exact h
def only(e:bJ)(l:List Nat):bJ:=λt=>if t∈l then e t else dI
theorem nK{e:bJ}{l:List Nat}{t:Nat}(h:t∈l):only e l t=e t:=aQ h
theorem ho.seen(k:ho P Γ ops aY rs S0 dZ au h2 B d_ a0 w0 N){L:Nat->Bool}(aa:mh ops L){i:Nat}{o:Oper}{f:cX}{r:gV}(b:ops[i]?=I o)(aC:aY[i]?=I f)(an:iw r.e (ff (λj=>decide (j<i)) 0 aY rs S0))(c:L i=false)
 (he:∀e∈o.after.toList,iS .any e=true->L e.on=true) {μ:Ren} {a:Act} (az:∀t,bj μ (ff L 0 aY rs S0 t) (a.tmps.getD t undef)) (cY:a.tmps.size=N):
 gF μ (only r.e (gL f)) a N:=by
 refine⟨cY,λt=>?_⟩
 unfold only
 split
 ·rename_i aO
  rcases an t with h|h
  ·rw[h,k.looks aa b aC c he aO];exact az t
  ·rw[h];exact .dI _
 ·exact .dI _
theorem ho.Lo(k:ho P Γ ops aY rs S0 dZ au h2 B d_ a0 w0 N){i:Nat}(ag:i<aY.length):(bN rs h2 i).length<=(bN rs h2 (i+1)).length:=by
 obtain⟨f,aC⟩:∃f,aY[i]?=I f:=⟨_,gb ag⟩
 obtain⟨r,an,b,b0,c,h⟩:=ox k.iW i f aC
 obtain⟨jx,at_,l,ak,aH,aM⟩:=k.text i (w3 ag)
 rw[←c,←h]
 rw[←c]at aH
 cases e:r.hh with
 |true=>
  have j:i<ops.size:=by rw[←k.len];exact ag
  obtain⟨bR,g,m⟩:=k.GG i _ (kW j)
  rw[aC]at g
  cases g
  obtain⟨v',bu,μ1,_,_,bp⟩:=Ld m.op k.callee (ak.lr b0).op aH (b.run e).2
  exact bp.le
 |false=>rw[(b.skip e).2.2];exact ca _
theorem ho.kH(k:ho P Γ ops aY rs S0 dZ au h2 B d_ a0 w0 N){i:Nat}:∀{j:Nat},i<=j->j<=aY.length->(bN rs h2 i).length<=(bN rs h2 j).length
 |0,b,_=>by have:i=0:=by omega
            subst this
            exact ca _
 |j+1,b,c=>by
  by_cases h:i=j+1
  ·subst h;exact ca _
  ·exact lH (k.kH (j:=j) (by omega) (by omega)) (k.Lo (by omega))
theorem ho.Lp(k:ho P Γ ops aY rs S0 dZ au h2 B d_ a0 w0 N){L:Nat->Bool}{μ:Ren}{q:Nat}{a:Act}{w:World}(c:kG P aY rs S0 au h2 d_ a0 w0 N L μ q a w)(aa:mh ops L){i:Nat}{o:Oper}
 (g:ops[i]?=I o) (he:∀e∈o.after.toList,iS .any e=true->L e.on=true) {f:cX} (aC:aY[i]?=I f) (h:q<i) (b:lO f.op=false):ke f.op=false:=by
 cases av:ke f.op with
 |false=>rfl
 |true=>
  exfalso
  have bs:q<aY.length:=by have:=(List.getElem?_eq_some_iff.1 aC).1;omega
  obtain⟨aA,j⟩:=c.next bs
  obtain⟨l,m,n,p⟩:=k.xS bs aA
  rcases(k.ord.wr q l m n p i f aC av).1 h with ae|ae
  ·have:=vc k.ord aa i i (ca _) o g he q ae
   rw[j]at this
   cases this
  ·obtain⟨_,_,_,_,_,ak,_⟩:=Lk ae
   rw[Lj ak]at b
   cases b
theorem GH(M:kg F)(k:ho P Γ ops aY rs S0 dZ au h2 B d_ a0 w0 N){L:Nat->Bool}{μ:Ren}{q:Nat}{a:Act}{w:World}(g:kG P aY rs S0 au h2 d_ a0 w0 N L μ q a w)(aa:mh ops L){i:Nat}{o:Oper}
 (E:ops[i]?=I o) (O:L i=false) (he:∀e∈o.after.toList,iS .any e=true->L e.on=true) {f:cX} (aC:aY[i]?=I f) (m:pf P ops o f) {r:gV} (an:rs[i]?=I r) (D:p9 Γ f r) (V:iw r.e (ff (λj=>decide (j<i)) 0 aY rs S0))
 (R:r.hh=false\/ke f.op=false\/(r.h'=r.h/\lO f.op=true/\c7 Γ f.op (only r.e (gL f)) (bN rs h2 q) (λv h'=>I (v,h'))=I (r.v,bN rs h2 q))) (W:q<aY.length->i≠q):oc F n P ops Q i (λa' b2=>∃aV X,kG P aY rs S0 au h2 d_ a0 w0 N (fF L i) aV X a' b2) a w:=by
 have G:=k.seen aa E aC V O he g.p_ g.size
 have Y:f∈aY:=dH aC
 have br:=pg k.iW
 have S:∀μ1 v' bu,bj μ1 r.v v'->cH P μ1 (bN rs h2 q) bu->Ext μ (bN rs h2 q) w μ1 (bN rs h2 q) bu->kG P aY rs S0 au h2 d_ a0 w0 N (fF L i) μ1 q (a.put f.dst v') bu:=by
  intro μ1 v' bu aw az af
  obtain⟨ak,aH⟩:=Af (μ1:=μ1) (S0:=S0) br k.ord.ti aC an (k.dst f Y) g.size O g.p_ (λx y h=>h.mono (af.r2 g.gW.cc)) aw
  refine⟨g.le,λj l aA=>?_,λbs=>⟨(g.next bs).1,?_⟩,λj bR l H av T=>?_,λu ix fL h1 h2 ak aH s aM gM n c bp cl Z j l z bE=>g.kill u ix fL h1 h2 ak aH s aM gM n c bp cl Z j l (xT z) bE,az,g.ext.trans af.toExtP k.gW.cc,λj l z b J A ab=>?_,λj l z b J A=>?_,ak,aH,?_⟩
  ·have:=g.done j l aA
   unfold fF;split<;>first|rfl|exact this
  ·unfold fF;rw[a1 (nz (W bs))];exact(g.next bs).2
  ·unfold fF
   split
   ·rename_i K
    subst K
    rw[aC]at H
    cases H
    rw[k.Lp g aa E he aC l T]at av
    cases av
   ·exact g.tj j bR l H av T
  ·rw[af.eL b (hF A (k.kH l g.le))]
   unfold fF at z
   split at z
   ·rename_i K
    subst K
    have heq:bN rs h2 (j+1)=bN rs h2 j:=by
     obtain⟨dD,gd,al,_,U,ac⟩:=ox k.iW j f aC
     rw[an]at gd
     cases gd
     rw[←U,←ac]
     rcases R with p|p|p
     ·exact(D.skip p).2.2
     ·cases C:r.hh with
      |false=>exact(D.skip C).2.2
      |true=>exact(GD p (D.run C).2).1
     ·exact p.1
    rw[heq]at A
    omega
   ·exact g.mapped j l z b J A ab
  ·have ae:L j=false:=by
    unfold fF at z
    split at z
    ·cases z
    ·exact z
   rw[af.eL b ?_]
   ·exact g.free j l ae b J A
   ·exact hF A (k.kH l g.le)
  ·rw[show(a.put f.dst v').defers=a.defers from by cases f.dst<;>rfl];exact g.defers
 unfold oc
 simp only[E]
 cases C:r.hh with
 |false=>
  obtain⟨⟨s,b,bE,az⟩,aw,U⟩:=D.skip C
  have ag:s∈gL f:=by simp [gL,bE]
  rw[Lc m G bE (by rw[nK ag];exact az)]
  simp only[bg,bd]
  refine⟨λf _=>M.1 f,μ,q,?_⟩
  rw[m.dst]
  exact S μ undef w (by rw[aw];exact bj.undef) g.gW (Ext.refl _ _ _ g.gW.cc)
 |true=>
  obtain⟨bE,ad⟩:=D.run C
  have aj:c7 Γ f.op (only r.e (gL f)) (bN rs h2 q) (λv h'=>I (v,h'))=I (r.v,bN rs h2 q):=by
   rcases R with p|p|p
   ·rw[C]at p;cases p
   ·have:=(GD p ad).2 (bN rs h2 q)
    rwa [xQ (e':=only r.e (gL f)) (λt aO=>(nK (by simp [gL,aO])).symm)]at this
   ·exact p.2.2
  rw[xN m G (by
   rcases bE with bE|⟨s,b,bE,az⟩
   ·exact .inl bE
   ·exact .inr ⟨s,b,bE,by rw[nK (by simp [gL,bE])];exact az⟩)]
  simp only[aZ]
  refine xM M m.op k.callee G.op g.gW aj (λv' bu μ1 aw az af=>⟨μ1,q,?_⟩)
  rw[m.dst]
  exact S μ1 v' bu aw az af
end
end Go.bB
namespace Go.bB
variable {P : Program}
section
variable {F : Fence} {n N : Nat} {Γ : Callee} {ops : Array Oper} {aY : List cX} {rs : List gV} {S0 dZ : bJ} {au h2 : aP} {B : List Nat} {Q : Exit -> Act -> World -> Prop} {d_ : Ren} {a0 : Act} {w0 : World}
theorem UK{f:cX}{r:gV}(e:p9 Γ f r)(g:r.hh=true)(b:om f.op=true):∃elem zero,f.op=.new elem zero/\zero.all iv=true/\r.v=hS r.h.length 0/\r.h'=r.h++[.cells zero elem true]:=by
 obtain⟨bE,ad⟩:=e.run g
 cases c:f.op with
 |new elem zero=>
  rw[c]at ad b
  simp only[c7]at ad
  obtain⟨aD,aE⟩:=ur (jR ad)
  exact⟨elem,zero,rfl,b,aD.symm,aE.symm⟩
 |_=>rw[c]at b;cases b
theorem UL{f:cX}{r:gV}(i:p9 Γ f r)(j:r.hh=true)(g:p6 f.op=true):∃elem cells,∃c:Nat->Value,(∀H,c7 Γ f.op r.e H (λv h'=>I (v,h'))=I (c H.length,H++[.cells cells elem true]))/\(c=(λb=>hS b 0)\/∃n,c=λb=>.slice (I ⟨b,0,none⟩) n n):=by
 obtain⟨bE,ad⟩:=i.run j
 cases h:f.op with
 |new elem zero=>exact⟨elem,zero,_,λH=>rfl,.inl rfl⟩
 |box elem x=>exact⟨elem,_,_,λH=>rfl,.inl rfl⟩
 |buildSlice elem zero n parts=>
  rw[h]at ad
  simp only[c7,cN]at ad|-
  obtain⟨l,av,_⟩:=ad
  exact⟨elem,l,_,λH=>⟨l,av,rfl⟩,.inr ⟨n,rfl⟩⟩
 |_=>rw[h]at g;cases g
theorem UM{h h':aP}(av:h.length<=h'.length)(bE:∀b,b<h.length->h'[b]?=h[b]?):h <+: h':=by
 refine List.prefix_iff_eq_take.2 (gn λi=>?_)
 rw[F1]
 split
 ·rename_i ag;exact(bE i ag).symm
 ·rename_i ag;exact e2 (by omega)
theorem GI{o:fE}{s:Nat}{e:bJ}{h h':aP}{v:Value}(ha:oo o=I s)(ad:c7 Γ o e h (λv h'=>I (v,h'))=I (v,h')):
 h <+: h'\/∃a n c,e s=.slice (I a) n c/\¬(n=0/\c=0)/\¬(n=0/\c=et)/\(∀b,b<h.length->b≠a.block->h'[b]?=h[b]?)/\(h'[a.block]?=I .dead\/∃n2 d',v=.slice (I a) n2 d'/\¬(n2=0/\d'=0)):=by
 cases o with
 |append t size x y=>
  cases x with
  |tmp q=>
   cases ha
   simp only[c7,cN,rV]at ad
   obtain⟨⟨v1,h1⟩,⟨m,_,new,_,aa⟩,ad⟩:=ad
   obtain⟨rfl,rfl⟩:=ur (jR ad)
   have p:(0:Nat)≠et:=by decide
   unfold mc at aa
   split at aa
   ·rename_i gM n c g
    have g:e s=.slice gM n c:=g
    split at aa
    ·rename_i i
     split at aa
     ·rename_i b
      split at aa
      ·cases aa;exact .inl (mO _)
      ·split at aa
       ·rename_i vs u ae
        split at aa
        ·rename_i w
         cases aa
         have k:=(List.getElem?_eq_some_iff.1 ae).1
         refine .inr ⟨_,n,c,g,λaA=>p (by rw[←aA.2];exact i),λaA=>by omega,λbf l j=>?_,.inl ?_⟩
         ·rw[cG (by rw[ir];exact l),hj (nz j)]
         ·rw[cG (by rw[ir];exact k),List.getElem?_set_self k]
        ·cases aa
       ·cases aa
     ·cases aa
    ·rename_i i
     split at aa
     ·split at aa
      ·rename_i a
       by_cases hm:m=0
       ·rw[aQ hm]at aa
        cases aa
        exact .inl (mO _)
       ·rw[a1 hm,de]at aa
        obtain⟨ak,b0,aa⟩:=aa
        obtain⟨rfl,rfl⟩:=ur aa
        unfold nE at b0
        split at b0
        ·split at b0
         ·cases b0
          refine .inr ⟨_,n,c,g,by omega,λaA=>i aA.2,λbf l j=>by rw[hj (nz j)],.inr ⟨_,_,rfl,by omega⟩⟩
         ·cases b0
        ·cases b0
      ·split at aa
       ·cases aa;exact .inl (mO _)
       ·cases aa
     ·split at aa
      ·rw[de]at aa
       obtain⟨eL,_,aa⟩:=aa
       obtain⟨rfl,rfl⟩:=ur aa
       exact .inl (FZ _ _)
      ·cases aa
   ·cases aa
  |_=>cases ha
 |_=>cases ha
theorem Lq(k:ho P Γ ops aY rs S0 dZ au h2 B d_ a0 w0 N){i u:Nat}{f ix:cX}(aC:aY[i]?=I f)(C:aY[u]?=I ix)(Q:¬Calm rs h2 u)(l:ta aY u i=true):∃m blk blk',m<u/\m≠i/\(om f.op=true\/i<m)/\bN rs h2 (m+1)=bN rs h2 m++[blk]/\bN rs h2 (u+1)=(bN rs h2 u).set (bN rs h2 m).length blk':=by
 have br:=pg k.iW
 unfold ta Ku at l
 rw[C,aC]at l
 simp only[dx]at l
 obtain⟨_,l⟩:=l
 cases y:ix.op with
 |store n x v=>
  rw[y]at l
  cases x with
  |tmp t=>
   simp only[F0,dx,mP]at l
   obtain⟨m,hm,⟨q,z⟩,bE⟩:=l
   have D:m<u:=List.mem_range.1 hm
   have q:m≠i:=by
    rintro rfl
    rw[p0]at q
    cases q
   have z:om f.op=true\/i<m:=z.imp (λh=>h) λh=>by simpa [Nat.blt_eq]using h
   cases w:aY[m]? with
   |none=>rw[w]at bE;cases bE
   |some g=>
    rw[w]at bE
    simp only[dx,iE]at bE
    obtain⟨⟨R,E⟩,S⟩:=bE
    obtain⟨o,T,F,_,G,U⟩:=ox k.iW m g w
    have V:o.hh=true:=by
     cases an:o.hh with
     |true=>rfl
     |false=>
      obtain⟨⟨s,b,az,_⟩,_⟩:=F.skip an
      rw[az]at E;cases E
    obtain⟨fj,ab,_,_,H,J⟩:=UK F V R
    rw[G]at H
    rw[G,U]at J
    obtain⟨fL,ac,K,W,M,O⟩:=ox k.iW u ix C
    have X:fL.hh=true:=by
     cases an:fL.hh with
     |true=>rfl
     |false=>
      exfalso
      apply Q
      unfold Calm
      rw[←M,←O,(K.skip an).2.2]
      exact mO _
    obtain⟨_,p⟩:=K.run X
    rw[y]at p
    simp only[c7,cN]at p
    obtain⟨aH,c,p⟩:=p
    have Y:aH=fL.h':=(ur (jR p)).2
    subst Y
    have Z:val fL.e (.tmp t)=o.v:=by
     have ou:=(xR (L:=λj=>decide (j<u)) (t:=t) aY rs 0 S0 br (λi j f bR aa ag A=>k.ord.ti i j f bR t aa ag A)).1 m g o w T (by simpa using D) S
     rcases W t with aM|aM
     ·show fL.e t=o.v
      rw[aM];exact ou
     ·exfalso
      have A:val fL.e (.tmp t)=dI:=aM
      rw[A]at c
      cases c
    rw[Z,H,M,O]at c
    simp only[rU,hS]at c
    split at c
    ·unfold nE at c
     split at c
     ·split at c
      ·exact⟨m,_,_,D,q,z,J,(jR c).symm⟩
      ·cases c
     ·cases c
    ·cases c
  |_=>cases l
 |_=>rw[y]at l;cases l
theorem Lr(k:ho P Γ ops aY rs S0 dZ au h2 B d_ a0 w0 N){L:Nat->Bool}{μ:Ren}{q:Nat}{a:Act}{w:World}(h:kG P aY rs S0 au h2 d_ a0 w0 N L μ q a w)(aa:mh ops L){i u:Nat}{f:cX}(o:L i=false)(aC:aY[i]?=I f)
 (A:ke f.op=true) (p:lO f.op=false) (t:i<u) (j:u<q) (e:¬Calm rs h2 u):(∃m blk blk',m<u/\m≠i/\(om f.op=true\/i<m)/\bN rs h2 (m+1)=bN rs h2 m++[blk]/\bN rs h2 (u+1)=(bN rs h2 u).set (bN rs h2 m).length blk')\/
   (p6 f.op=true/\∃gM:Nat,(∀b,b<(bN rs h2 u).length->b≠gM->(bN rs h2 (u+1))[b]?=(bN rs h2 u)[b]?)/\((bN rs h2 i).length<(bN rs h2 (i+1)).length->gM≠(bN rs h2 i).length)):=by
 have br:=pg k.iW
 have C:=h.done u j e
 have x:u<aY.length:=hF j h.le
 obtain⟨ix,g,D,E⟩:=k.xS x e
 have F:u<ops.size:=by rw[←k.len];exact x
 have y:ops[u]?=I ops[u]:=kW F
 rcases(k.ord.wr u ix g D E i f aC A).2 t with ae|c|c|c
 ·have:=vc k.ord aa u u (ca _) _ y (aa u _ y C) i ae
  rw[o]at this
  cases this
 ·exact .inl (Lq k aC g e c)
 ·obtain⟨_,_,_,ak,_⟩:=Ll c
  rw[Lj ak]at p
  cases p
 ·unfold xB at c
  rw[dx,Option.isSome_iff_exists]at c
  obtain⟨G,s,az⟩:=c
  obtain⟨fL,H,z,O,l,n⟩:=ox k.iW u ix g
  have J:fL.hh=true:=by
   cases an:fL.hh with
   |true=>rfl
   |false=>
    exfalso;apply e;unfold Calm
    rw[←l,←n,(z.skip an).2.2]
    exact mO _
  rcases GI az (z.run J).2 with K|⟨gM,n1,cR,f1,f2,M,f3,_⟩
  ·exfalso;apply e;unfold Calm;rw[←l,←n];exact K
  ·rw[l,n]at f3
   exact .inr ⟨G,gM.block,f3,λbE=>h.kill u ix fL j g H e s az gM n1 cR f1 f2 M i t o bE⟩
theorem UN(k:ho P Γ ops aY rs S0 dZ au h2 B d_ a0 w0 N){L:Nat->Bool}{μ:Ren}{q:Nat}{a:Act}{w:World}(g:kG P aY rs S0 au h2 d_ a0 w0 N L μ q a w)(aa:mh ops L){i:Nat}{f:cX}(o:L i=false)(aC:aY[i]?=I f)
 (p:ke f.op=true) (t:lO f.op=false) {blk:h9} (c:bN rs h2 (i+1)=bN rs h2 i++[blk]):∀u,i+1<=u->u<=q->(bN rs h2 u)[(bN rs h2 i).length]?=I blk:=by
 intro u
 induction u with
 |zero=>intro h;omega
 |succ u b=>
  intro h1 ak
  by_cases x:u=i
  ·subst x;rw[c,zp]
  ·have b:=b (by omega) (by omega)
   have l:=(List.getElem?_eq_some_iff.1 b).1
   by_cases n:Calm rs h2 u
   ·rw[nJ n l];exact b
   ·rcases Lr k g aa o aC p t (by omega) (by omega) n with⟨m,blk1,D,E,F,_,y,z⟩|⟨_,gM,A,e⟩
    rotate_left
    ·rw[A _ l (nz (e (by rw[c];simp)))];exact b
    have mY:m<aY.length:=by have:=g.le;omega
    have e:(bN rs h2 m).length≠(bN rs h2 i).length:=by
     rcases Nat.lt_or_ge m i with C|G
     ·have bp:=k.kH (i:=m+1) (j:=i) C (w3 (List.getElem?_eq_some_iff.1 aC).1)
      rw[y]at bp
      simp at bp;omega
     ·have bp:=k.kH (i:=i+1) (j:=m) (by omega) (w3 mY)
      rw[c]at bp
      simp at bp;omega
    rw[z,hj e]
    exact b
theorem UO(k:ho P Γ ops aY rs S0 dZ au h2 B d_ a0 w0 N){L:Nat->Bool}{μ:Ren}{q:Nat}{a:Act}{w:World}(g:kG P aY rs S0 au h2 d_ a0 w0 N L μ q a w)(aa:mh ops L){i:Nat}{f:cX}(o:L i=false)(aC:aY[i]?=I f)
 (p:ke f.op=true) (t:lO f.op=false) (e:p6 f.op=false):∀u,i+1<=u->u<=q->bN rs h2 (i+1) <+: bN rs h2 u:=by
 intro u
 induction u with
 |zero=>intro h;omega
 |succ u c=>
  intro h1 ak
  by_cases x:u=i
  ·subst x;exact mO _
  ·have c:=c (by omega) (by omega)
   by_cases l:Calm rs h2 u
   ·exact c.trans l
   ·rcases Lr k g aa o aC p t (by omega) (by omega) l with⟨m,blk1,C,D,E,y,F,z⟩|⟨n,_⟩
    rotate_left
    ·rw[e]at n;cases n
    have A:i<m:=y.resolve_left (λh=>by rw[UI h]at e;cases e)
    have bp:=k.kH (i:=i+1) (j:=m) A (by have:=g.le;omega)
    rw[z]
    refine UM (by rw[ir];exact c.length_le) λb ae=>?_
    rw[hj (by omega),nJ c ae]
theorem UP(ar:kg F)(k:ho P Γ ops aY rs S0 dZ au h2 B d_ a0 w0 N){L:Nat->Bool}{μ:Ren}{q:Nat}{a:Act}{w:World}(g:kG P aY rs S0 au h2 d_ a0 w0 N L μ q a w)(aa:mh ops L){i:Nat}{o:Oper}
 (Z:ops[i]?=I o) (G:L i=false) (he:∀e∈o.after.toList,iS .any e=true->L e.on=true) {f:cX} (aC:aY[i]?=I f) (m:pf P ops o f) {r:gV} (an:rs[i]?=I r) (ay:p9 Γ f r) (ab:iw r.e (ff (λj=>decide (j<i)) 0 aY rs S0))
 (aB:r.h=bN rs h2 i) (aF:r.h'=bN rs h2 (i+1)) (aI:r.hh=true) (aJ:ke f.op=true) (aK:lO f.op=false) (O:i<q) (aL:p6 f.op=false):oc F n P ops Q i (λa' b2=>∃aV aN,kG P aY rs S0 au h2 d_ a0 w0 N (fF L i) aV aN a' b2) a w:=by
 have T:=k.seen aa Z aC ab G he g.p_ g.size
 have aP:f∈aY:=dH aC
 have br:=pg k.iW
 have U:i<aY.length:=(List.getElem?_eq_some_iff.1 aC).1
 have q7:bN rs h2 i <+: bN rs h2 (i+1):=by
  apply pV
  intro aA
  have:=g.done i O aA
  rw[G]at this
  cases this
 have H:bN rs h2 (i+1) <+: bN rs h2 q:=UO k g aa G aC aJ aK aL q O (ca _)
 have aj:bN rs h2 i <+: bN rs h2 q:=q7.trans H
 have ba:(bN rs h2 i).length<=(bN rs h2 (i+1)).length:=k.Lo U
 have ac:(bN rs h2 (i+1)).length<=(bN rs h2 q).length:=k.kH O g.le
 obtain⟨jx,at_,bb,aR,st,xt⟩:=k.text i (w3 U)
 have aS:cH P (nI μ (bN rs h2 i).length) (bN rs h2 i) w:=by
  refine⟨λb l e=>va e,λb l blk e ae aA=>?_,λb bf l cB e e' fj av R=>?_,λb l e=>g.gW.lt b l (r4 _ _ _ _ e)⟩
  ·have aT:=va e
   obtain⟨o',J,K⟩:=g.gW.rel b l blk (r4 _ _ _ _ e) (by rw[nJ aj aT];exact ae) aA
   refine⟨o',J,?_⟩
   obtain⟨V,W⟩:∃V,jx b=I V:=by
    by_cases C:b<au.length
    ·rw[xt.eL b C,←g.ext.eL b C];exact⟨l,r4 _ _ _ _ e⟩
    ·exact xt.pd b (by omega) ⟨blk,ae,aA⟩
   obtain⟨bd,be,aU⟩:=st.rel b V blk W ae aA
   exact aU.restrict st.cc K
  ·exact g.gW.inj b bf l cB (r4 _ _ _ _ e) (r4 _ _ _ _ e') fj ((lP aj (va e)).2 av) ((lP aj (va e')).2 R)
 have aW:gF (nI μ (bN rs h2 i).length) (only r.e (gL f)) a N:=by
  refine⟨T.size,λt=>?_⟩
  have ak:=T.rel t
  unfold only at ak|-
  split
  ·rename_i aO
   rw[aQ aO]at ak
   exact bj.restrict st.cc ((aR.lr ab).rel t) ak
  ·exact .dI _
 obtain⟨bE,ad⟩:=ay.run aI
 rw[xQ (e':=only r.e (gL f)) (λt aO=>(nK (by simp [gL,aO])).symm),aB]at ad
 unfold oc
 simp only[Z]
 rw[xN m T (by
  rcases bE with bE|⟨s,b,bE,az⟩
  ·exact .inl bE
  ·exact .inr ⟨s,b,bE,by rw[nK (by simp [gL,bE])];exact az⟩)]
 simp only[aZ]
 refine xM ar m.op k.callee aW.op aS ad (λv' bu μ1 aw az af=>?_)
 rw[m.dst]
 rw[aF]at az af
 let aV:Ren:=λb=>if(bN rs h2 i).length<=b/\b<(bN rs h2 (i+1)).length then μ1 b else μ b
 have E:∀b,(bN rs h2 i).length<=b->b<(bN rs h2 (i+1)).length->aV b=μ1 b:=λb ak aH=>aQ ⟨ak,aH⟩
 have X:∀b,b<(bN rs h2 i).length->aV b=μ b:=λb ak=>a1 (by omega)
 have aX:∀b,(bN rs h2 (i+1)).length<=b->aV b=μ b:=λb ak=>a1 (by omega)
 have ag:∀b,b<(bN rs h2 i).length->μ1 b=μ b:=λb ak=>(af.eL b ak).trans (u' ak)
 have al:ef μ1 aV:=by
  intro b l e
  have ae:=az.cc b l e
  by_cases p:b<(bN rs h2 i).length
  ·rw[X b p,←ag b p];exact e
  ·rw[E b (by omega) ae];exact e
 have e_:ef μ aV:=by
  intro b l e
  by_cases p:(bN rs h2 i).length<=b/\b<(bN rs h2 (i+1)).length
  ·rw[g.free i O G b p.1 p.2]at e;cases e
  ·have:aV b=μ b:=a1 p
   rw[this];exact e
 have am:∀b l,(bN rs h2 i).length<=b->μ1 b=I l->w.heap.size<=l.blk:=by
  intro b l ae e
  rcases af.new b l ae e with ak|⟨cd,eY,ak,aH,aM,bp,cl⟩
  ·exact ak
  ·exact absurd ((lP q7 ak.lt).2 ak) cl
 obtain⟨ak,aH⟩:=Af (μ1:=aV) (S0:=S0) br k.ord.ti aC an (k.dst f aP) g.size G g.p_ (λx y h=>h.mono e_) (aw.mono al)
 refine⟨aV,q,g.le,λj A aA=>?_,λbs=>⟨(g.next bs).1,?_⟩,λj bR A a2 av a3=>?_,λu ix fL h1 h2 ak aH s aM gM n c bp cl a4 j A z bE=>g.kill u ix fL h1 h2 ak aH s aM gM n c bp cl a4 j A (xT z) bE,?_,?_,λj A z b D M ao=>?_,λj A z b D M=>?_,ak,aH,?_⟩
 ·have:=g.done j A aA
  unfold fF;split<;>first|rfl|exact this
 ·unfold fF;rw[a1 (by omega)];exact(g.next bs).2
 ·unfold fF;rw[a1 (by omega)];exact g.tj j bR A a2 av a3
 ·
  refine⟨λb l e=>?_,λb l blk e ae aA=>?_,λb bf l cB e e' fj av R=>?_,λb l e=>?_⟩
  ·by_cases p:(bN rs h2 i).length<=b/\b<(bN rs h2 (i+1)).length
   ·omega
   ·have:aV b=μ b:=a1 p
    rw[this]at e
    exact g.gW.cc b l e
  ·by_cases a5:(bN rs h2 (i+1)).length<=b
   ·rw[aX b a5]at e
    obtain⟨o',J,K⟩:=g.gW.rel b l blk e ae aA
    refine⟨o',?_,K.mono e_⟩
    rw[af.frame l.blk (g.gW.lt b l e) ?_]
    ·exact J
    ·intro a6 a7 ac aE S
     have aM:=g.gW.inj b a6 l a7 e (r4 _ _ _ _ aE) S.symm ⟨blk,ae,aA⟩ ((lP aj (va aE)).2 ac)
     have:=va aE
     omega
   ·have D:(bN rs h2 (i+1))[b]?=I blk:=by rw[←nJ H (by omega)];exact ae
    have aD:μ1 b=I l:=by
     by_cases p:b<(bN rs h2 i).length
     ·rw[ag b p,←X b p];exact e
     ·rw[←E b (by omega) (by omega)];exact e
    obtain⟨o',J,K⟩:=az.rel b l blk aD D aA
    exact⟨o',J,K.mono al⟩
  ·
   have ap:∀b l,aV b=I l->((bN rs h2 i).length<=b/\b<(bN rs h2 (i+1)).length/\μ1 b=I l/\w.heap.size<=l.blk)\/(μ b=I l/\l.blk<w.heap.size):=by
    intro b l e
    by_cases p:(bN rs h2 i).length<=b/\b<(bN rs h2 (i+1)).length
    ·rw[E b p.1 p.2]at e;exact .inl ⟨p.1,p.2,e,am b l p.1 e⟩
    ·have:aV b=μ b:=a1 p
     rw[this]at e
     exact .inr ⟨e,g.gW.lt b l e⟩
   rcases ap b l e with⟨cE,cD,dE,fe⟩|⟨cE,cD⟩<;>rcases ap bf cB e' with⟨bt,bG,cZ,cS⟩|⟨bt,bG⟩
   ·exact az.inj b bf l cB dE cZ fj ((lP H cD).1 av) ((lP H bG).1 R)
   ·omega
   ·omega
   ·exact g.gW.inj b bf l cB cE bt fj av R
  ·by_cases p:(bN rs h2 i).length<=b/\b<(bN rs h2 (i+1)).length
   ·rw[E b p.1 p.2]at e;exact az.lt b l e
   ·have:aV b=μ b:=a1 p
    rw[this]at e
    exact hF (g.gW.lt b l e) af.size
 ·
  have bg:au.length<=(bN rs h2 i).length:=xt.le
  have a8:∀c,c<w0.heap.size->(∀b l,live au b->d_ b=I l->l.blk≠c)->∀b l,live (bN rs h2 i) b->nI μ (bN rs h2 i).length b=I l->l.blk≠c:=by
   intro c aa aA b l av e S
   have e':=r4 _ _ _ _ e
   by_cases C:b<au.length
   ·rw[g.ext.eL b C]at e'
    by_cases aq:live au b
    ·exact aA b l aq e' S
    ·exact xt.dead b C aq av
   ·rcases g.ext.new b l (by omega) e' with aM|⟨cd,eY,aM,_,bp,cl,_⟩
    ·omega
    ·exact aA cd eY aM bp (cl.trans S)
  refine⟨g.ext.le,λb ae=>?_,lH g.ext.size af.size,λc aa aA=>?_,λb l e an=>?_,g.ext.pc,λb l ae e=>?_,g.ext.dead,g.ext.out.trans af.out⟩
  ·rw[X b (by omega)];exact g.ext.eL b ae
  ·rw[af.frame c (hF aa g.ext.size) (a8 c aa aA),g.ext.frame c aa aA]
  ·have C:=k.gW.cc b l e
   have e':nI μ (bN rs h2 i).length b=I l:=by rw[u' (by omega),g.ext.eL b C];exact e
   rw[af.ro b l e' (xt.xE an),g.ext.ro b l e an]
  ·by_cases p:(bN rs h2 i).length<=b/\b<(bN rs h2 (i+1)).length
   ·rw[E b p.1 p.2]at e
    exact .inl (lH g.ext.size (am b l p.1 e))
   ·have:aV b=μ b:=a1 p
    rw[this]at e
    exact g.ext.new b l ae e
 ·unfold fF at z
  split at z
  ·rename_i Y
   subst Y
   rw[E b D M]
   exact af.pd b D ((lP H M).1 ao)
  ·obtain⟨l,e⟩:=g.mapped j A z b D M ao
   exact⟨l,e_ b l e⟩
 ·have Y:j≠i:=by rintro rfl;unfold fF at z;rw[aQ rfl]at z;cases z
  have a9:L j=false:=by unfold fF at z;rw[a1 Y]at z;exact z
  have a_:¬((bN rs h2 i).length<=b/\b<(bN rs h2 (i+1)).length):=by
   rintro⟨aM,bp⟩
   by_cases W:j<i
   ·have:=k.kH (i:=j+1) (j:=i) W (w3 U)
    omega
   ·have:=k.kH (i:=i+1) (j:=j) (by omega) (by have:=g.le;omega)
    omega
  have:aV b=μ b:=a1 a_
  rw[this]
  exact g.free j A a9 b D M
 ·rw[show(a.put f.dst v').defers=a.defers from by cases f.dst<;>rfl];exact g.defers
theorem UQ(ar:kg F)(k:ho P Γ ops aY rs S0 dZ au h2 B d_ a0 w0 N){L:Nat->Bool}{μ:Ren}{q:Nat}{a:Act}{w:World}(g:kG P aY rs S0 au h2 d_ a0 w0 N L μ q a w)(aa:mh ops L){i:Nat}{o:Oper}
 (Y:ops[i]?=I o) (J:L i=false) (he:∀e∈o.after.toList,iS .any e=true->L e.on=true) {f:cX} (aC:aY[i]?=I f) (m:pf P ops o f) {r:gV} (an:rs[i]?=I r) (S:p9 Γ f r) (ay:iw r.e (ff (λj=>decide (j<i)) 0 aY rs S0))
 (Z:r.h=bN rs h2 i) (aB:r.h'=bN rs h2 (i+1)) (T:r.hh=true) (aE:ke f.op=true) (U:i<q) (ab:p6 f.op=true):oc F n P ops Q i (λa' b2=>∃aV aF,kG P aY rs S0 au h2 d_ a0 w0 N (fF L i) aV aF a' b2) a w:=by
 have ac:=k.seen aa Y aC ay J he g.p_ g.size
 have aI:f∈aY:=dH aC
 have br:=pg k.iW
 have V:i<aY.length:=(List.getElem?_eq_some_iff.1 aC).1
 obtain⟨elem,cells,be,ag,aJ⟩:=UL S T ab
 have aj:=(S.run T).2
 rw[ag]at aj
 obtain⟨M,E⟩:=ur (jR aj)
 have M:=M.symm
 have E:=E.symm
 rw[Z,aB]at E
 rw[Z]at M
 have aK:lO f.op=false:=UJ ab
 have al:=UN k g aa J aC aE aK E q U (ca _)
 have aL:=(List.getElem?_eq_some_iff.1 al).1
 have bg:(bN rs h2 (i+1)).length=(bN rs h2 i).length+1:=by rw[E];simp
 obtain⟨jx,at_,bh,bi,st,xt⟩:=k.text i (w3 V)
 have aN:au.length<=(bN rs h2 i).length:=xt.le
 have aP:μ (bN rs h2 i).length=none:=g.free i U J _ (ca _) (by omega)
 obtain⟨bE,_⟩:=S.run T
 unfold oc
 simp only[Y]
 rw[xN m ac (by
  rcases bE with bE|⟨s,b,bE,az⟩
  ·exact .inl bE
  ·exact .inr ⟨s,b,bE,by rw[nK (by simp [gL,bE])];exact az⟩)]
 simp only[aZ]
 have ad:=ag (bN rs h2 q)
 rw[xQ (e':=only r.e (gL f)) (λt aO=>(nK (by simp [gL,aO])).symm)]at ad
 obtain⟨μs,bn,ws,ey,fg,xs⟩:=k.text (i+1) V
 refine xM ar m.op k.callee ac.op g.gW ad (λv' bu μ1 aw az af=>?_)
 rw[m.dst]
 obtain⟨⟨c,K⟩,aD⟩:=af.pd (bN rs h2 q).length (ca _) ⟨_,zp ..,by simp⟩
 ·let aV:Ren:=λb=>if b=(bN rs h2 i).length then I ⟨c,K⟩else μ b
  have D:aV (bN rs h2 i).length=I ⟨c,K⟩:=aQ rfl
  have A:∀b,b≠(bN rs h2 i).length->aV b=μ b:=λb ae=>a1 ae
  have e_:ef μ aV:=λb l e=>by
   rw[A b (by rintro rfl;rw[aP]at e;cases e)];exact e
  have aR:w.heap.size<=c:=by
   rcases af.new _ _ (ca _) aD with ak|⟨cd,eY,ak,aH,aM,bp,cl⟩
   ·exact ak
   ·exact absurd ((z1 ak.lt).2 ak) cl
  obtain⟨ak,aH⟩:=Af (μ1:=aV) (S0:=S0) br k.ord.ti aC an (k.dst f aI) g.size J g.p_ (λx y h=>h.mono e_) (show bj aV r.v v' by
   rw[M]
   rcases aJ with rfl|⟨aS,rfl⟩
   ·cases aw with
    |ptr h=>rw[aD]at h;cases h;exact .ptr D
   ·generalize aT:aS=bq at aw
    simp only[aT]
    cases aw with
    |bO h hm=>rw[aD]at h;cases h;exact .bO D hm
    |gU=>exact .gU _ _)
  refine⟨aV,q,g.le,λj C aA=>?_,λbs=>⟨(g.next bs).1,?_⟩,λj bR C aU av aW=>?_,λu ix fL h1 h2 ak aH s aM gM n c bp cl aX j C z bE=>g.kill u ix fL h1 h2 ak aH s aM gM n c bp cl aX j C (xT z) bE,?_,?_,λj C z b H W a2=>?_,λj C z b H W=>?_,ak,aH,?_⟩
  ·have:=g.done j C aA
   unfold fF;split<;>first|rfl|exact this
  ·unfold fF;rw[a1 (by omega)];exact(g.next bs).2
  ·unfold fF;rw[a1 (by omega)];exact g.tj j bR C aU av aW
  ·refine⟨λb l e=>?_,λb l blk e ae aA=>?_,λb bf l cB e e' fj av a3=>?_,λb l e=>?_⟩
   ·by_cases p:b=(bN rs h2 i).length
    ·subst p;exact aL
    ·rw[A b p]at e;exact g.gW.cc b l e
   ·by_cases p:b=(bN rs h2 i).length
    ·subst p
     rw[al]at ae
     cases ae
     rw[D]at e
     cases e
     obtain⟨o',a4,a5⟩:=az.rel _ _ _ aD (zp ..) (by simp)
     refine⟨o',a4,?_⟩
     have am:(bN rs h2 (i+1))[(bN rs h2 i).length]?=I (.cells cells elem true):=by rw[E,zp]
     obtain⟨ls,c5⟩:=xs.pd (bN rs h2 i).length aN ⟨_,am,by simp⟩
     obtain⟨bt,_,a6⟩:=fg.rel _ _ _ c5 am (by simp)
     refine(a6.restrict fg.cc a5).mono λb l e=>?_
     have O:b<(bN rs h2 (i+1)).length:=by
      unfold nI at e
      split at e
      ·assumption
      ·cases e
     have e:=r4 _ _ _ _ e
     have a7:b<(bN rs h2 q).length:=hF O (k.kH U g.le)
     rw[af.eL b a7]at e
     exact e_ b l e
    ·rw[A b p]at e
     obtain⟨bv,_,G⟩:=g.gW.rel b l blk e ae aA
     have ao:=g.gW.cc b l e
     obtain⟨a8,a9,H⟩:=az.rel b l blk ((af.eL b ao).trans e) (by rw[cG ao];exact ae) aA
     exact⟨a8,a9,(G.cut (af.r2 g.gW.cc) H).mono e_⟩
   ·by_cases p:b=(bN rs h2 i).length<;>by_cases R:bf=(bN rs h2 i).length
    ·rw[p,R]
    ·subst p
     rw[D]at e
     rw[A bf R]at e'
     cases e
     have:=g.gW.lt bf cB e'
     simp only at fj
     omega
    ·subst R
     rw[D]at e'
     rw[A b p]at e
     cases e'
     have:=g.gW.lt b l e
     simp only at fj
     omega
    ·rw[A b p]at e
     rw[A bf R]at e'
     exact g.gW.inj b bf l cB e e' fj av a3
   ·by_cases p:b=(bN rs h2 i).length
    ·subst p
     rw[D]at e
     cases e
     exact az.lt _ _ aD
    ·rw[A b p]at e
     exact hF (g.gW.lt b l e) af.size
  ·have a_:∀d,d<w0.heap.size->(∀b l,live au b->d_ b=I l->l.blk≠d)->∀b l,live (bN rs h2 q) b->μ b=I l->l.blk≠d:=by
    intro d hd aA b l av e ap
    by_cases G:b<au.length
    ·rw[g.ext.eL b G]at e
     by_cases O:live au b
     ·exact aA b l O e ap
     ·exact g.ext.dead b G O av
    ·rcases g.ext.new b l (by omega) e with aM|⟨cd,eY,aM,_,bp,cl,_⟩
     ·omega
     ·exact aA cd eY aM bp (cl.trans ap)
   refine⟨g.ext.le,λb ae=>?_,lH g.ext.size af.size,λd hd aA=>?_,λb l e aq=>?_,g.ext.pc,λb l ae e=>?_,g.ext.dead,g.ext.out.trans af.out⟩
   ·rw[A b (by omega)];exact g.ext.eL b ae
   ·rw[af.frame d (hF hd g.ext.size) (a_ d hd aA),g.ext.frame d hd aA]
   ·have G:=k.gW.cc b l e
    have e':μ b=I l:=by rw[g.ext.eL b G];exact e
    rw[af.ro b l e' (g.ext.xE aq),g.ext.ro b l e aq]
   ·by_cases p:b=(bN rs h2 i).length
    ·subst p
     rw[D]at e
     cases e
     exact .inl (lH g.ext.size aR)
    ·rw[A b p]at e
     exact g.ext.new b l ae e
  ·unfold fF at z
   split at z
   ·rename_i X
    subst X
    have:b=(bN rs h2 j).length:=by omega
    subst this
    exact⟨_,D⟩
   ·obtain⟨l,e⟩:=g.mapped j C z b H W a2
    exact⟨l,e_ b l e⟩
  ·have X:j≠i:=by rintro rfl;unfold fF at z;rw[aQ rfl]at z;cases z
   have ba:L j=false:=by unfold fF at z;rw[a1 X]at z;exact z
   have bb:b≠(bN rs h2 i).length:=by
    rintro rfl
    by_cases bd:j<i
    ·have:=k.kH (i:=j+1) (j:=i) bd (w3 V)
     omega
    ·have:=k.kH (i:=i+1) (j:=j) (by omega) (by have:=g.le;omega)
     omega
   rw[A b bb]
   exact g.free j C ba b H W
  ·rw[show(a.put f.dst v').defers=a.defers from by cases f.dst<;>rfl];exact g.defers
end
end Go.bB
namespace Go.bB
variable {P : Program}
section
variable {F : Fence} {n N : Nat} {Γ : Callee} {ops : Array Oper} {aY : List cX} {rs : List gV} {S0 dZ : bJ} {au h2 : aP} {B : List Nat} {Q : Exit -> Act -> World -> Prop} {d_ : Ren} {a0 : Act} {w0 : World}
theorem tk(p:Nat->Prop):∀(d q m:Nat),m=q+d->p m->∃b,q<=b/\b<=m/\p b/\∀j,q<=j->j<b->¬p j
 |0,q,m,h,aj=>⟨q,ca _,by omega,by rw[show q=m from by omega];exact aj,λj h1 h2=>by omega⟩
 |d+1,q,m,h,aj=>by
  by_cases bs:p q
  ·exact⟨q,ca _,by omega,bs,λj h1 h2=>by omega⟩
  ·obtain⟨b,h1,h2,ak,aH⟩:=tk p d (q+1) m (by omega) aj
   refine⟨b,by omega,h2,ak,λj aM bp=>?_⟩
   by_cases c:j=q
   ·subst c;exact bs
   ·exact aH j (by omega) bp
theorem ho.soft(k:ho P Γ ops aY rs S0 dZ au h2 B d_ a0 w0 N){j:Nat}{f:cX}(aC:aY[j]?=I f)(az:ke f.op=false):bN rs h2 (j+1)=bN rs h2 j:=by
 obtain⟨r,an,b,_,e,g⟩:=ox k.iW j f aC
 rw[←e,←g]
 cases c:r.hh with
 |false=>exact(b.skip c).2.2
 |true=>exact(GD az (b.run c).2).1
theorem Ls{o:fE}(h:lO o=true):∃g n t,o=.load g n (.tmp t):=by
 cases o with
 |load g n x=>cases x<;>first|exact⟨_,_,_,rfl⟩|cases h
 |_=>cases h
theorem ho.still(k:ho P Γ ops aY rs S0 dZ au h2 B d_ a0 w0 N){j:Nat}{f:cX}(aC:aY[j]?=I f)(az:lO f.op=true):bN rs h2 (j+1)=bN rs h2 j:=by
 obtain⟨r,an,b,_,e,h⟩:=ox k.iW j f aC
 rw[←e,←h]
 cases c:r.hh with
 |false=>exact(b.skip c).2.2
 |true=>
  obtain⟨g,n,x,i⟩:=Ls az
  have:=(b.run c).2
  rw[i]at this
  simp only[c7,cN]at this
  obtain⟨v,_,aw⟩:=this
  exact(ur (jR aw)).2.symm
theorem GJ{e S:bJ}{t:Nat}{v:Value}(h:iw e S)(aw:e t=v)(b:v≠dI):S t=v:=by
 rcases h t with h1|h1
 ·rw[←h1];exact aw
 ·exact absurd (aw.symm.trans h1) b
theorem UR(k:ho P Γ ops aY rs S0 dZ au h2 B d_ a0 w0 N){L:Nat->Bool}{μ:Ren}{q:Nat}{a:Act}{w:World}(M:kG P aY rs S0 au h2 d_ a0 w0 N L μ q a w)(aa:mh ops L){i:Nat}{o:Oper}
 (aA:ops[i]?=I o) (ab:L i=false) (he:∀e∈o.after.toList,iS .any e=true->L e.on=true) {f:cX} (aC:aY[i]?=I f) {r:gV} (an:rs[i]?=I r) (aB:p9 Γ f r) (ac:iw r.e (ff (λj=>decide (j<i)) 0 aY rs S0))
 (a4:r.h=bN rs h2 i) (aF:r.hh=true) {g:Bool} {n t:Nat} (O:f.op=.load g n (.tmp t)) {b off:Nat} (aj:r.e t=.pointer (I ⟨b,off,none⟩)) {vs:List Value} {ty:aX} {en:Bool} (ae:(bN rs h2 i)[b]?=I (.cells vs ty en)) (aH:b<(bN rs h2 q).length):(bN rs h2 q)[b]?=I (.cells vs ty en):=by
 have br:=pg k.iW
 have a5:i<aY.length:=(List.getElem?_eq_some_iff.1 aC).1
 have a6:b<(bN rs h2 i).length:=(List.getElem?_eq_some_iff.1 ae).1
 have ad:loadAt f.op=I t:=by rw[O];rfl
 have al:ke f.op=true:=by rw[O];rfl
 have F:=λ(t:Nat) (L:Nat->Bool)=>xR (L:=L) (t:=t) aY rs 0 S0 br (λi j f bR am ag aI=>k.ord.ti i j f bR t am ag aI)
 rcases Nat.le_total q i with a7|aJ
 ·
  have key:∀d u,u+d=i->q<=u->(bN rs h2 u)[b]?=I (.cells vs ty en):=by
   intro d
   induction d with
   |zero=>intro u T _;rw[show u=i by omega];exact ae
   |succ d y=>
    intro u T ao
    have h1:=y (u+1) (by omega) (by omega)
    have G:u<aY.length:=by omega
    have H:b<(bN rs h2 u).length:=hF aH (k.kH ao (by omega))
    by_cases l:Calm rs h2 u
    ·rw[←nJ l H];exact h1
    ·obtain⟨ix,z,J,U⟩:=k.xS G l
     have K:L u=false:=by
      rcases Nat.lt_or_eq_of_le ao with aK|heq
      ·exact M.tj u ix aK z (Lf J) (Li J)
      ·subst heq;exact(M.next G).2
     rcases(k.ord.wr u ix z J U i f aC al).1 (by omega)with V|aL
     ·have:=vc k.ord aa i i (ca _) o aA he u V
      rw[K]at this
      cases this
     ·obtain⟨s,ap,aM,cE,cD,dE,fe⟩:=Lk aL
      rw[ad]at dE
      cases dE
      obtain⟨fL,aq,E,ar,C,A⟩:=ox k.iW u ix z
      have Q:fL.hh=true:=by
       cases an:fL.hh with
       |true=>rfl
       |false=>
        exfalso;apply l;unfold Calm
        rw[←C,←A,(E.skip an).2.2]
        exact mO _
      obtain⟨R,aN,aD,aE⟩:=Lm (aB.dX aF) fe
      rw[aj]at aD
      cases aD
      have hd:∀v,r.e ap=v->v≠dI->v=fL.v:=λv h1 h2=>by
       have:=GJ ac h1 h2
       rw[(F ap _).1 u ix fL z aq (by simp;omega) cD]at this
       exact this.symm
      have av:∀a n c,Value.slice a n c≠dI:=λ_ _ _ h=>by cases h
      rcases GI cE (E.run Q).2 with W|⟨gM,n1,cR,f1,f2,aO,f3,f4⟩
      ·exfalso;apply l;unfold Calm;rw[←C,←A];exact W
      ·rw[C,A]at f3
       rw[A]at f4
       have X:b≠gM.block:=by
        rintro rfl
        rcases f4 with f4|⟨n2,d',f4,f5⟩
        ·rw[f4]at h1;cases h1
        ·rcases aE with⟨x,aE⟩|⟨bf,o',aP,aQ,aE,Y⟩
         ·have:=hd _ aE (av _ _ _)
          rw[f4]at this
          cases this
          exact f5 ⟨rfl,rfl⟩
         ·have:=hd _ aE (av _ _ _)
          rw[f4]at this
          cases this
          exact Y rfl
       rw[←f3 b H X];exact h1
  exact key (i-q) q (by omega) (ca _)
 ·
  have key:∀u,i<=u->u<=q->(bN rs h2 u)[b]?=I (.cells vs ty en):=by
   intro u
   induction u with
   |zero=>intro h _;rw[show 0=i by omega];exact ae
   |succ u y=>
    intro h1 ak
    by_cases T:u+1=i
    ·rw[T];exact ae
    ·have y:=y (by omega) (by omega)
     have H:=(List.getElem?_eq_some_iff.1 y).1
     by_cases l:Calm rs h2 u
     ·rw[nJ l H];exact y
     ·have G:u<aY.length:=hF (by omega) M.le
      have K:=M.done u (by omega) l
      have a8:u≠i:=by rintro rfl;rw[ab]at K;cases K
      obtain⟨ix,z,J,U⟩:=k.xS G l
      have aR:u<ops.size:=by rw[←k.len];exact G
      have aw:ops[u]?=I ops[u]:=kW aR
      rcases(k.ord.wr u ix z J U i f aC al).2 (by omega)with V|aS|aT|Z
      rotate_right
      ·unfold xB at Z
       rw[O]at Z
       cases Z
      ·have:=vc k.ord aa u u (ca _) _ aw (aa u _ aw K) i V
       rw[ab]at this
       cases this
      ·obtain⟨m,blk1,a9,a_,a',aU,ba,aV⟩:=Lq k aC z l aS
       have bb:i<m:=aU.resolve_left (by rw[O];simp [om])
       have bp:=k.kH (i:=i) (j:=m) (by omega) (by omega)
       rw[aV,hj (by omega)]
       exact y
      ·obtain⟨s,aM,cE,dE,fe,gr⟩:=Ll aT
       rw[ad]at dE
       cases dE
       obtain⟨fL,aq,E,ar,C,A⟩:=ox k.iW u ix z
       have Q:fL.hh=true:=by
        cases an:fL.hh with
        |true=>rfl
        |false=>
         exfalso;apply l;unfold Calm
         rw[←C,←A,(E.skip an).2.2]
         exact mO _
       obtain⟨R,aN,aD,aE⟩:=Lm (E.dX Q) fe
       have aW:∀j bR,aY[j]?=I bR->i<=j->bR.dst≠I t:=λj bR p am hd=>by
        have hm:bR∈aY.drop i:=by
         refine dH (i:=j-i) ?_
         rw[oZ,show i+(j-i)=j by omega];exact p
        have:=List.all_eq_true.1 gr bR hm
        rw[hd]at this
        simp only at this
        rw[p0]at this
        cases this
       have aZ:ff (λj=>decide (j<u)) 0 aY rs S0 t=ff (λj=>decide (j<i)) 0 aY rs S0 t:=by
        by_cases af:∃j bR,aY[j]?=I bR/\j<i/\bR.dst=I t
        ·obtain⟨j,bR,p,S,D⟩:=af
         have a1:j<rs.length:=by rw[br];exact(List.getElem?_eq_some_iff.1 p).1
         have ay:rs[j]?=I rs[j]:=gb a1
         rw[(F t _).1 j bR _ p ay (by simp;omega) D,(F t _).1 j bR _ p ay (by simp;omega) D]
        ·rw[(F t _).2 (λj bR p az D=>?_),(F t _).2 (λj bR p az D=>?_)]
         ·exact af ⟨j,bR,p,by simpa using az,D⟩
         ·rcases Nat.lt_or_ge j i with S|S
          ·exact af ⟨j,bR,p,S,D⟩
          ·exact aW j bR p S D
       have a2:R=b:=by
        have cl:=GJ ar aD (λh=>by cases h)
        have a3:=GJ ac aj (λh=>by cases h)
        rw[aZ,a3]at cl
        cases cl
        rfl
       subst a2
       rcases GI cE (E.run Q).2 with W|⟨gM,n1,cR,f1,f2,aO,f3,f4⟩
       ·exfalso;apply l;unfold Calm;rw[←C,←A];exact W
       ·rw[C,A]at f3
        have X:R≠gM.block:=by
         rintro rfl
         rcases aE with⟨x,aE⟩|⟨bf,o',aP,aQ,aE,Y⟩
         ·rw[f1]at aE;cases aE;exact f2 ⟨rfl,rfl⟩
         ·rw[f1]at aE;cases aE;exact Y rfl
        rw[f3 R H X];exact y
  exact key q aJ (ca _)
theorem US{f:cX}{s:Nat}(h:oo f.op=I s):s∈gL f:=by
 unfold gL
 cases b:f.op with
 |append t sz x y=>
  rw[b]at h
  cases x with
  |tmp c=>cases h;simp [xy,ee]
  |_=>cases h
 |_=>rw[b]at h;cases h
theorem UT(al:kg F)(k:ho P Γ ops aY rs S0 dZ au h2 B d_ a0 w0 N){L:Nat->Bool}{μ:Ren}{q:Nat}{a:Act}{w:World}(p:kG P aY rs S0 au h2 d_ a0 w0 N L μ q a w)(aa:mh ops L){o:Oper}
 (T:ops[q]?=I o) (U:L q=false) (he:∀e∈o.after.toList,iS .any e=true->L e.on=true) {f:cX} (aC:aY[q]?=I f) (m:pf P ops o f) {r:gV} (an:rs[q]?=I r) (am:p9 Γ f r) (ao:iw r.e (ff (λj=>decide (j<q)) 0 aY rs S0))
 (ap:r.h=bN rs h2 q) (aq:r.h'=bN rs h2 (q+1)) (ar:r.hh=true):oc F n P ops Q q (λa' b2=>∃aV D,kG P aY rs S0 au h2 d_ a0 w0 N (fF L q) aV D a' b2) a w:=by
 have R:=k.seen aa T aC ao U he p.p_ p.size
 have ay:f∈aY:=dH aC
 have br:=pg k.iW
 have aW:q<aY.length:=(List.getElem?_eq_some_iff.1 aC).1
 obtain⟨bE,ad⟩:=am.run ar
 rw[xQ (e':=only r.e (gL f)) (λt aO=>(nK (by simp [gL,aO])).symm),ap]at ad
 unfold oc
 simp only[T]
 rw[xN m R (by
  rcases bE with bE|⟨s,b,bE,az⟩
  ·exact .inl bE
  ·exact .inr ⟨s,b,bE,by rw[nK (by simp [gL,bE])];exact az⟩)]
 simp only[aZ]
 refine xM al m.op k.callee R.op p.gW ad (λv' bu μ1 aw az af=>?_)
 rw[m.dst]
 rw[aq]at az af
 obtain⟨ak,aH⟩:=Af (μ1:=μ1) (S0:=S0) br k.ord.ti aC an (k.dst f ay) p.size U p.p_ (λx y h=>h.mono (af.r2 p.gW.cc)) aw
 obtain⟨D,V,W,aB,aD⟩:=tk (λj=>j=aY.length\/¬Calm rs h2 j) (aY.length-(q+1)) (q+1) aY.length (by omega) (.inl rfl)
 have S:∀j,q+1<=j->j<D->Calm rs h2 j:=λj aM bp=>pV λaA=>aD j aM bp (.inr aA)
 have aj:bN rs h2 (q+1) <+: bN rs h2 D:=Ln S V
 have A:=p.ext.trans af.toExtP k.gW.cc
 have X:(bN rs h2 (q+1)).length<=(bN rs h2 D).length:=k.kH V W
 have aE:∀j bR,q<j->aY[j]?=I bR->L j=true->bN rs h2 (j+1)=bN rs h2 j:=by
  intro j bR C E z
  cases av:ke bR.op with
  |false=>exact k.soft E av
  |true=>
   cases Y:lO bR.op with
   |true=>exact k.still E Y
   |false=>rw[p.tj j bR C E av Y]at z;cases z
 refine⟨μ1,D,W,λj C aA=>?_,λbs=>?_,λj bR C E av aF=>?_,λu ix fL h1 h2 ak Z s aM gM n c bp cl M j C z bE=>?_,?_,?_,λj C z b O G ab=>?_,λj C z b O G=>?_,ak,aH,?_⟩
 ·unfold fF
  split
  ·rfl
  ·rename_i J
   by_cases H:j<q
   ·exact p.done j H aA
   ·exact absurd (S j (by omega) C) aA
 ·have aA:¬Calm rs h2 D:=aB.resolve_left (by omega)
  obtain⟨aI,aJ,ac,_⟩:=k.xS bs aA
  refine⟨aA,?_⟩
  unfold fF
  rw[a1 (by omega)]
  exact p.tj D aI (by omega) aJ (Lf ac) (Li ac)
 ·unfold fF
  rw[a1 (by omega)]
  exact p.tj j bR (by omega) E av aF
 ·rcases Nat.lt_trichotomy u q with g|g|g
  ·exact p.kill u ix fL g h2 ak Z s aM gM n c bp cl M j C (xT z) bE
  ·subst g
   rw[aC]at h2
   cases h2
   rw[an]at ak
   cases ak
   have az:s∈gL f:=US aM
   have aw:=R.rel s
   rw[nK az,bp]at aw
   generalize a.tmps.getD s undef=y at aw
   intro ag
   have aK:=p.free j C (xT z) (bN rs h2 j).length (ca _) bE
   cases aw with
   |bO h _=>simp only at ag;rw[ag,aK]at h;cases h
   |fc=>exact M ⟨rfl,rfl⟩
   |gU=>exact cl ⟨rfl,rfl⟩
  ·exact absurd (S u (by omega) h1) Z
 ·refine⟨λb l e=>hF (az.cc b l e) X,λb l blk e ae aA=>az.rel b l blk e (by rw[←nJ aj (az.cc b l e)];exact ae) aA,λb bf l cB e e' fj av aL=>az.inj b bf l cB e e' fj ((lP aj (az.cc b l e)).1 av) ((lP aj (az.cc bf cB e')).1 aL),az.lt⟩
 ·refine⟨lH A.le X,A.eL,A.size,A.frame,A.ro,λb an=>?_,λb l ae e=>?_,λb ae aA=>?_,A.out⟩
  ·rw[nJ aj (hF an.live.lt A.le)];exact A.pc b an
  ·rcases A.new b l ae e with aM|⟨cd,eY,aM,bp,cl,M,aN⟩
   ·exact .inl aM
   ·exact .inr ⟨cd,eY,aM,bp,cl,M,λav=>aN ((lP aj (hF aM.lt A.le)).1 av)⟩
  ·exact λav=>A.dead b ae aA ((lP aj (hF ae A.le)).1 av)
 ·unfold fF at z
  split at z
  ·rename_i J
   subst J
   exact af.pd b O ((lP aj G).1 ab)
  ·rename_i J
   by_cases H:j<q
   ·have K:b<(bN rs h2 q).length:=hF G (k.kH H p.le)
    have aP:b<(bN rs h2 (q+1)).length:=hF K af.le
    have aR:=(lP aj aP).1 ab
    have aS:live (bN rs h2 q) b:=pV λaA=>af.dead b K aA aR
    obtain⟨l,e⟩:=p.mapped j H z b O G aS
    exact⟨l,(af.eL b K).trans e⟩
   ·obtain⟨bR,E⟩:∃bR,aY[j]?=I bR:=⟨_,gb (by omega)⟩
    rw[aE j bR (by omega) E z]at G
    omega
 ·have J:j≠q:=by rintro rfl;unfold fF at z;rw[aQ rfl]at z;cases z
  have aT:L j=false:=by unfold fF at z;rw[a1 J]at z;exact z
  by_cases H:j<q
  ·have K:b<(bN rs h2 q).length:=hF G (k.kH H p.le)
   rw[af.eL b K]
   exact p.free j H aT b O G
  ·cases aU:μ1 b with
   |none=>rfl
   |some l=>
    have aM:=az.cc b l aU
    have bp:=k.kH (i:=q+1) (j:=j) (by omega) (by omega)
    omega
 ·rw[show(a.put f.dst v').defers=a.defers from by cases f.dst<;>rfl];exact p.defers
theorem UU(k:ho P Γ ops aY rs S0 dZ au h2 B d_ a0 w0 N){L:Nat->Bool}{μ:Ren}{q:Nat}{a:Act}{w:World}(m:kG P aY rs S0 au h2 d_ a0 w0 N L μ q a w)(aa:mh ops L){i:Nat}{o:Oper}
 (x:ops[i]?=I o) (z:L i=false) (he:∀e∈o.after.toList,iS .any e=true->L e.on=true) {f:cX} (aC:aY[i]?=I f) {r:gV} (an:rs[i]?=I r) (A:p9 Γ f r) (C:iw r.e (ff (λj=>decide (j<i)) 0 aY rs S0))
 (D:r.h=bN rs h2 i) (E:r.hh=true) (H:lO f.op=true):c7 Γ f.op (only r.e (gL f)) (bN rs h2 q) (λv h'=>I (v,h'))=I (r.v,bN rs h2 q):=by
 obtain⟨g,n,t,u⟩:=Ls H
 have ad:=(A.run E).2
 rw[xQ (e':=only r.e (gL f)) (λt aO=>(nK (by simp [gL,aO])).symm)]at ad
 have J:=k.seen aa x aC C z he m.p_ m.size
 rw[u]at ad|-
 simp only[c7,cN]at ad
 obtain⟨v,aw,ad⟩:=ad
 obtain⟨rfl,_⟩:=ur (jR ad)
 have key:nF g n (val (only r.e (gL f)) (.tmp t)) (bN rs h2 q)=I r.v:=by
  rw[D]at aw
  have F:t∈gL f:=by unfold gL;rw[u];simp [xy,ee]
  have p:=J.rel t
  have M:val (only r.e (gL f)) (.tmp t)=r.e t:=nK F
  rw[nK F]at p
  rw[M]at aw|-
  unfold nF at aw|-
  split at aw
  ·rename_i gM aj
   rw[aj]at p
   generalize a.tmps.getD t undef=y at p
   cases p with
   |@ptr b c K o' O=>
    have Q:=m.gW.cc b _ O
    have R:∃vs ty en,(bN rs h2 i)[b]?=I (.cells vs ty en):=by
     cases g with
     |true=>
      simp only[de]at aw
      obtain⟨l,av,_⟩:=aw
      unfold hV at av
      split at av
      ·rename_i vs ty en ae;exact⟨_,_,_,ae⟩
      ·cases av
     |false=>
      simp only at aw
      unfold o8 at aw
      split at aw
      ·rename_i vs ty en ae;exact⟨_,_,_,ae⟩
      ·cases aw
    obtain⟨vs,ty,en,ae⟩:=R
    have G:=UR k m aa x z he aC an A C D E u aj ae Q
    cases g with
    |true=>
     simp only at aw|-
     unfold hV at aw|-
     rw[ae]at aw
     rw[G]
     exact aw
    |false=>
     simp only at aw|-
     unfold o8 at aw|-
     rw[ae]at aw
     rw[G]
     exact aw
  ·cases aw
 show(nF g n (val (only r.e (gL f)) (.tmp t)) (bN rs h2 q)).bind _=_
 rw[key]
 rfl
theorem UW(t:kg F)(k:ho P Γ ops aY rs S0 dZ au h2 B d_ a0 w0 N){L:Nat->Bool}{μ:Ren}{q:Nat}{a:Act}{w:World}(b:kG P aY rs S0 au h2 d_ a0 w0 N L μ q a w)(aa:mh ops L){i:Nat}{o:Oper}
 (c:ops[i]?=I o) (l:L i=false) (he:∀e∈o.after.toList,iS .any e=true->L e.on=true):
 oc F n P ops Q i (λa' b2=>∃aV E,kG P aY rs S0 au h2 d_ a0 w0 N (fF L i) aV E a' b2) a w:=by
 obtain⟨f,aC,m⟩:=k.GG i o c
 obtain⟨r,an,g,p,u,y⟩:=ox k.iW i f aC
 by_cases z:q<aY.length/\i=q
 ·obtain⟨bs,rfl⟩:=z
  have j:r.hh=true:=by
   cases j:r.hh with
   |true=>rfl
   |false=>
    exfalso
    apply(b.next bs).1
    unfold Calm
    rw[←u,←y,(g.skip j).2.2]
    exact mO _
  exact UT t k b aa c l he aC m an g p u y j
 ·have A:q<aY.length->i≠q:=λh e=>z ⟨h,e⟩
  cases j:r.hh with
  |false=>exact GH t k b aa c l he aC m an g p (.inl j) A
  |true=>
   cases av:ke f.op with
   |false=>exact GH t k b aa c l he aC m an g p (.inr (.inl av)) A
   |true=>
    cases x:lO f.op with
    |true=>exact GH t k b aa c l he aC m an g p (.inr (.inr ⟨by rw[u,y];exact k.still aC x,x,UU k b aa c l he aC an g p u j x⟩)) A
    |false=>
     have C:i<q:=by
      apply pV
      intro aA
      by_cases bs:q<i
      ·rw[k.Lp b aa c he aC bs x]at av;cases av
      ·have x:=(List.getElem?_eq_some_iff.1 aC).1
       exact z ⟨by omega,by omega⟩
     cases D:p6 f.op with
     |false=>exact UP t k b aa c l he aC m an g p u y j av x C D
     |true=>exact UQ t k b aa c l he aC m an g p u y j av C D
theorem Lt{L:Nat->Bool}{i:Nat}(ag:L i=false):∀{l:List Nat},l.Nodup->i∈l->(l.filter λj=>!fF L i j).length+1=(l.filter λj=>!L j).length
 |[],_,h=>by cases h
 |x::l,aA,h=>by
  rw[List.nodup_cons]at aA
  by_cases b:x=i
  ·subst b
   have:(l.filter λj=>!fF L x j)=l.filter λj=>!L j:=by
    apply List.filter_congr
    intro j c
    have:j≠x:=by rintro rfl;exact aA.1 c
    simp [fF,this]
   rw[F2,F2,this]
   simp [fF,ag]
  ·have e:i∈l:=by simpa [nz b]using h
   have g:=Lt ag aA.2 e
   rw[F2,F2]
   have af:fF L i x=L x:=by simp [fF,b]
   rw[af]
   split
   ·simp only[kb];omega
   ·exact g
theorem UX(ao:kg F)(k:ho P Γ ops aY rs S0 dZ au h2 B d_ a0 w0 N){opsR:Array Oper}{σ τ:Nat->Nat}(cY:opsR.size=ops.size)(C:∀i,i<ops.size->τ i<ops.size/\σ (τ i)=i)(J:∀j,j<ops.size->σ j<ops.size/\τ (σ j)=j)(ap:∀j,¬j<ops.size->σ j=j)
 (Z:∀i o,opsR[i]?=I o->∃o',ops[τ i]?=I o'/\(∀K a w,oc F n P ops Q (τ i) K a w->oc F n P opsR Q i K a w)/\(∀e'∈o'.after.toList,iS .any e'=true->∃e∈o.after.toList,iS .any e=true/\e'.on=τ e.on/\e.on<ops.size)/\
   (∀e∈o.after.toList,iS .any e=true->e.on<ops.size/\∃e'∈o'.after.toList,iS .any e'=true/\e'.on=τ e.on))
 (h_:∀a w μ,gF μ dZ a N->cH P μ h2 w->Ext d_ au w0 μ h2 w->a.defers=a0.defers->Q .normal a w):
 ∀(fuel:Nat) (c:Array Bool) (a:Act) (w:World) (μ:Ren) (q:Nat),c.size=ops.size->((fb ops.size).filter λj=>!c.getD j false).length=fuel->
  kG P aY rs S0 au h2 d_ a0 w0 N (λj=>c.getD (σ j) false) μ q a w->mh ops (λj=>c.getD (σ j) false)->wpAnyIn F n P .any opsR Q fuel c a w:=by
 have aq:∀(L:Nat->Bool) (a:Act) (w:World) (μ:Ren) (q:Nat),(∀j,j<ops.size->L j=true)->kG P aY rs S0 au h2 d_ a0 w0 N L μ q a w->Q .normal a w:=by
  intro L a w μ q A g
  have bs:q=aY.length:=by
   apply pV
   intro aA
   have M:q<aY.length:=by have:=g.le;omega
   have:=(g.next M).2
   rw[A q (by rw[←k.len];exact M)]at this
   cases this
  have ab:bN rs h2 q=h2:=by
   unfold bN
   rw[e2 (by rw[pg k.iW];omega)]
   rfl
  have ar:ff L 0 aY rs S0=dZ:=Lg k.iW (λi ag=>by rw[gR];exact A i (by rw[←k.len];exact ag))
  have ac:=g.p_
  rw[ar]at ac
  have az:=g.gW
  have af:=g.ext
  have ad:=g.mapped
  rw[ab]at az af ad
  refine h_ a w μ ⟨g.size,ac⟩ az ⟨af,λb ae av=>?_⟩ g.defers
  have T:b<h2.length:=av.lt
  obtain⟨i,aw,D,p,U⟩:=tk (λj=>b<(bN rs h2 (j+1)).length) (aY.length) 0 (aY.length) (by omega) (by
   have:bN rs h2 (aY.length+1)=h2:=by
    unfold bN
    rw[e2 (by rw[pg k.iW];omega)]
    rfl
   rw[this];exact T)
  have aj:(bN rs h2 i).length<=b:=by
   cases i with
   |zero=>rw[Ac k.iW];exact ae
   |succ i=>
    have:=U i (hQ _) (Nat.lt_succ_self _)
    omega
  have m:i<aY.length:=by
   apply pV
   intro aA
   have ay:i=aY.length:=by omega
   subst ay
   rw[←bs,ab]at aj
   omega
  exact ad i (by omega) (A i (by rw[←k.len];exact m)) b aj p av
 intro fuel
 induction fuel with
 |zero=>
  intro c a w μ q y O g aa
  have A:∀j,j<ops.size->c.getD j false=true:=by
   intro j u
   cases R:c.getD j false with
   |true=>rfl
   |false=>
    have:j∈(fb ops.size).filter λj=>!c.getD j false:=List.mem_filter.2 ⟨List.mem_range.2 u,by simp [R]⟩
    rw[gy O]at this
    cases this
  refine⟨?_,aq _ a w μ q (λj u=>A _ (J j u).1) g⟩
  refine List.eq_nil_iff_forall_not_mem.2 (λi ag=>?_)
  unfold Kl at ag
  rw[Km,uu,dx,cY]at ag
  have h1:=A i ag.1
  have h2:=ag.2.1
  have:c.getD i true=true:=by
   rw[mM]at h1|-
   rw[kW (by rw[y];exact ag.1)]at h1|-
   exact h1
  rw[this]at h2
  cases h2
 |succ fuel aB=>
  intro c a w μ q y O g aa
  refine⟨λan=>?_,λi ag=>?_⟩
  ·exfalso
   obtain⟨j,u⟩:∃j,j∈(fb ops.size).filter λj=>!c.getD j false:=by
    cases av:(fb ops.size).filter λj=>!c.getD j false with
    |nil=>rw[av]at O;cases O
    |cons x r=>exact⟨x,by simp⟩
   rw[Km,uu]at u
   obtain⟨z,aw,D,p,U⟩:=tk (λj=>c.getD (σ j) false=false) (τ j) 0 (τ j) (by omega) (by rw[(C j u.1).2];simpa using u.2)
   have E:z<ops.size:=by have:=(C j u.1).1;omega
   have m:=(J z E).1
   have G:opsR[σ z]?=I (opsR[σ z]'(by rw[cY];exact m)):=kW _
   obtain⟨o',H,_,_,aC⟩:=Z _ _ G
   rw[(J z E).2]at H
   have:σ z∈Kl .any opsR c:=by
    unfold Kl
    rw[Km,uu,dx]
    refine⟨by rw[cY];exact m,?_,?_⟩
    ·rw[mM]at p|-
     rw[kW (by rw[y];exact m)]at p|-
     simpa using p
    ·rw[G]
     simp only[dm,o2]
     rw[ahE]
     intro e he
     cases ae:iS .any e with
     |false=>rfl
     |true=>
      obtain⟨V,e',aD,aE,W⟩:=aC e (by simpa using he) ae
      have M:=k.ord.Ae z o' H e' aD aE
      have:=U e'.on (hQ _) M
      rw[W,(C _ V).2]at this
      simpa using this
   rw[an]at this
   cases this
  ·unfold Kl at ag
   rw[Km,uu,dx]at ag
   obtain⟨ak,D,p⟩:=ag
   have m:i<ops.size:=by rw[←cY];exact ak
   have G:opsR[i]?=I opsR[i]:=kW ak
   have al:c.getD i false=false:=by
    rw[mM]at D|-
    rw[kW (by rw[y];exact m)]at D|-
    simpa using D
   rw[G]at p
   simp only[dm,o2]at p
   rw[ahE]at p
   obtain⟨o',H,aF,aH,_⟩:=Z _ _ G
   have am:=(C i m).2
   have he:∀e'∈o'.after.toList,iS .any e'=true->c.getD (σ e'.on) false=true:=by
    intro e' S ae
    obtain⟨e,he,T,W,V⟩:=aH e' S ae
    have:=p e (by simpa using he)
    rw[T]at this
    rw[W,(C _ V).2]
    simpa using this
   have R:(λj=>(c.setIfInBounds i true).getD (σ j) false)=fF (λj=>c.getD (σ j) false) (τ i):=by
    funext j
    unfold fF
    rw[mM]
    by_cases t:j=τ i
    ·subst t
     rw[aQ rfl,am,TA (by rw[y];exact m)]
     rfl
    ·rw[a1 t,w2 (λh=>t ?_)]
     ·exact(mM ..).symm
     ·by_cases E:j<ops.size
      ·rw[h,(J j E).2]
      ·rw[ap j E]at h
       omega
   refine aF _ _ _ (wpOpIn_mono (λa' b2 ⟨aV,aI,aJ⟩=>?_) (UW (n:=n) (Q:=Q) ao k g aa H (by show c.getD (σ (τ i)) false=false;rw[am];exact al) he))
   refine aB (c.setIfInBounds i true) a' b2 aV aI (by simp [y]) ?_ (by rw[R];exact aJ) (by
    rw[R]
    intro j aK X Y e S ae
    unfold fF at Y|-
    split at Y
    ·rename_i t
     subst t
     rw[H]at X
     cases X
     split
     ·rfl
     ·exact he e S ae
    ·split
     ·rfl
     ·exact aa j aK X Y e S ae)
   have aM:=Lt (L:=λj=>c.getD j false) al (l:=fb ops.size) List.nodup_range (List.mem_range.2 m)
   have aL:((fb ops.size).filter λj=>!(c.setIfInBounds i true).getD j false)=(fb ops.size).filter λj=>!fF (λj=>c.getD j false) i j:=by
    apply List.filter_congr
    intro j _
    unfold fF
    rw[mM]
    by_cases t:j=i
    ·subst t
     rw[aQ rfl,TA (by rw[y];exact m)]
     rfl
    ·rw[a1 t,w2 (nz t)]
     rw[←mM]
   rw[aL]
   omega
end
end Go.bB
namespace Go.bB
variable {P : Program}
theorem UY{ops:Array Oper}{aY:List cX}{B:List Nat}(h:Gk ops aY B=true):GF ops aY B:=by
 simp only[Gk,dx]at h
 obtain⟨⟨h1,h2⟩,ak⟩:=h
 have m:∀(i j:Nat) (f bR:cX),aY[i]?=I f->aY[j]?=I bR->(i=j\/Gf f bR=false)/\(i<j->Ge f bR=true->(B.getD j 0).testBit i=true)/\
  (p5 f.op=true->zP f.dX=false->ke bR.op=true->(i<j->(B.getD j 0).testBit i=true\/xz f bR=true)/\(j<i->(B.getD i 0).testBit j=true\/ta aY i j=true\/xA aY j f bR=true\/xB f bR=true)):=by
  intro i j f bR aC b
  have ag:=(List.getElem?_eq_some_iff.1 aC).1
  have k:=(List.getElem?_eq_some_iff.1 b).1
  have:=List.all_eq_true.1 (List.all_eq_true.1 ak i (List.mem_range.2 ag)) j (List.mem_range.2 k)
  rw[aC,b]at this
  simp only[dx,mP,Bool.not_eq_true',h7,iE]at this
  obtain⟨⟨cE,cD⟩,dE⟩:=this
  refine⟨cE,λc n=>?_,λhm aa av=>?_⟩
  ·rcases cD with(g|g)|g
   ·exact absurd c g
   ·rw[n]at g;cases g
   ·exact g
  ·rcases dE with((g|g)|g)|g
   ·rw[hm]at g;cases g
   ·rw[aa]at g;cases g
   ·rw[av]at g;cases g
   ·exact⟨λc=>by
     rcases g.1 with(cD|cD)|cD
     ·exact absurd c cD
     ·exact .inl cD
     ·exact .inr cD,λp=>by
     rcases g.2 with(((cD|cD)|cD)|cD)|cD
     ·exact absurd p cD
     ·exact .inl cD
     ·exact .inr (.inl cD)
     ·exact .inr (.inr (.inl cD))
     ·exact .inr (.inr (.inr cD))⟩
 refine⟨λi o l e he ae=>?_,λi j o l k=>?_,λi j f bR t c aC b hd q=>?_,λi j f bR t c aC b aa=>?_,λi f aC hm aa j bR b av=>(m i j f bR aC b).2.2 hm aa av⟩
 ·have ag:=(Array.getElem?_eq_some_iff.1 l).1
  have:=List.all_eq_true.1 h1 i (List.mem_range.2 ag)
  rw[l]at this
  have:=List.all_eq_true.1 this e he
  rw[ae]at this
  simpa using this
 ·have ag:=(Array.getElem?_eq_some_iff.1 l).1
  have aH:=List.all_eq_true.1 h2 i (List.mem_range.2 ag)
  simp only[dx,fi]at aH
  have u:j<ops.size:=by
   apply pV
   intro aA
   have:(B.getD i 0).testBit j=false:=Nat.testBit_lt_two_pow (hF aH.1 (Nat.pow_le_pow_right (by omega) (by omega)))
   rw[this]at k
   cases k
  have aM:=List.all_eq_true.1 aH.2 j (List.mem_range.2 u)
  rw[k,l]at aM
  simp only[Bool.not_true,Bool.false_or,F0,dx,mP,iE]at aM
  obtain⟨e,he,ae,aa⟩:=aM
  exact⟨e,he,ae,aa⟩
 ·have:=(m i j f bR aC b).1.resolve_left c
  unfold Gf at this
  rw[hd,q]at this
  simp at this
 ·refine(m i j f bR aC b).2.1 c ?_
  unfold Ge
  rcases aa with⟨hd,aO⟩|⟨hd,aO⟩
  ·rw[hd];simp [aO]
  ·rw[hd];simp [aO]
theorem Lu{aY:List cX}{N:Nat}(h:(aY.all λf=>f.dst.toList.all λd=>decide (d<N))=true):∀f∈aY,∀d,f.dst=I d->d<N:=by
 intro f aC d hd
 have:=List.all_eq_true.1 h f aC
 rw[hd]at this
 simpa using this
theorem Lv{ops:Array Oper}{b:Nat->kZ}{aY:List cX}(c:r0 P ops b ops.toList 0=I aY):aY.length=ops.size/\∀(j:Nat) (o:Oper),ops[j]?=I o->∃f,aY[j]?=I f/\pf P ops o f:=by
 obtain⟨h1,h2⟩:=La c
 refine⟨by simpa using h1,λj o e=>?_⟩
 obtain⟨f,aC,hm,_⟩:=h2 j o (by simpa using e)
 exact⟨f,aC,hm⟩
theorem Lw{F:Fence}{n N:Nat}{Γ:Callee}{id:Nat}{ops opsR:Array Oper}{C aY:List cX}{e aE:bJ}{h h2:aP}{μ:Ren}{a:Act}{w:World}{Q:Exit->Act->World->Prop}{σ τ:Nat->Nat}
 (D:kg F) (E:P.follows .mixedOrders=true) (G:iH P Γ) (cY:opsR.size=ops.size) (H:∀i,i<ops.size->τ i<ops.size/\σ (τ i)=i) (J:∀j,j<ops.size->σ j<ops.size/\τ (σ j)=j) (L:∀j,¬j<ops.size->σ j=j)
 (M:∀i o,opsR[i]?=I o->∃o',ops[τ i]?=I o'/\(∀K a w,oc F n P ops Q (τ i) K a w->oc F n P opsR Q i K a w)/\((∀e'∈o'.after.toList,iS .any e'=true->e'.on<ops.size)->(∀e'∈o'.after.toList,iS .any e'=true->∃e∈o.after.toList,iS .any e=true/\e'.on=τ e.on/\e.on<ops.size)/\
   (∀e∈o.after.toList,iS .any e=true->e.on<ops.size/\∃e'∈o'.after.toList,iS .any e'=true/\e'.on=τ e.on)))
 (aa:uZ P N ops C=I aY) (t:kF Γ aY e h aE h2) (cF:gF μ e a N) (s:cH P μ h w)
 (h_:∀a' b2 aV,gF aV aE a' N->cH P aV h2 b2->Ext μ h w aV h2 b2->a'.defers=a.defers->Q .normal a' b2):(Code.region id opsR true).wpIn F n P Q a w:=by
 unfold uZ at aa
 split at aa
 ·rename_i ab O
  split at aa
  ·rename_i hd
   cases aa
   obtain⟨br,hm⟩:=Lv O
   obtain⟨rs,dZ,p,R⟩:=UF t e (iw.refl e)
   let w0:World:={ w with drawn:=w.drawn+1 }
   have c:cH P μ h w0:=⟨s.cc,s.rel,s.inj,s.lt⟩
   have k:ho P Γ ops aY rs e dZ h h2 (oj ops) μ a w0 N:=⟨p,UY hd.2,G,br,hm,Lu hd.1,cF,c⟩
   refine wpIn_region_draw λt=>?_
   simp only[Region.schedule,E,Bool.true_or,aZ]
   refine wpAnyIn_sound opsR.size t _ a w0 ?_
   rw[cY]
   have g:∀j,(zt ops.size false).getD j false=false:=by
    intro j
    rw[mM]
    by_cases z:j<ops.size
    ·rw[kW (by simpa using z)];simp
    ·rw[Array.getElem?_eq_none (by simpa using z)];rfl
   obtain⟨q,_,S,T,U⟩:=tk (λj=>j=aY.length\/¬Calm rs h2 j) aY.length 0 aY.length (by omega) (.inl rfl)
   have x:∀j,0<=j->j<q->Calm rs h2 j:=λj aM bp=>pV λaA=>U j aM bp (.inr aA)
   have aj:h <+: bN rs h2 q:=by
    have:=Ln (h2:=h2) x (hQ _)
    rwa [Ac p]at this
   have A:h.length<=(bN rs h2 q).length:=aj.length_le
   refine UX (n:=n) (Q:=Q) D k cY H J L (λi o B=>?_) (λa' b2 aV ak aH aM bp=>h_ a' b2 aV (ak.lr R) aH ⟨⟨aM.le,aM.eL,aM.size,aM.frame,aM.ro,aM.pc,aM.new,aM.dead,aM.out⟩,aM.pd⟩ bp) ops.size _ a w0 μ q (by simp) ?_ ?_ (by
    intro i o B y
    have m:(zt ops.size false).getD (σ i) false=true:=y
    rw[g]at m
    cases m)
   ·obtain⟨o',cE,cD,dE⟩:=M i o B
    obtain⟨fe,gr⟩:=dE λe' V W=>by
     have:=k.ord.Ae _ _ cE e' V W
     have:=(Array.getElem?_eq_some_iff.1 cE).1
     omega
    exact⟨o',cE,cD,fe,gr⟩
   ·have:((fb ops.size).filter λj=>!(zt ops.size false).getD j false)=fb ops.size:=by
     rw[List.filter_eq_self]
     intro j _
     rw[g]
     rfl
    rw[this,F3]
   ·refine⟨S,λi ag aA=>absurd (x i (hQ _) ag) aA,λbs=>⟨T.resolve_left (by omega),g _⟩,λi f _ _ _ _=>g _,λu _ _ X _ _ aA=>absurd (x u (hQ _) X) aA,?_,?_,λi _ y=>?_,λi ag _ b ac ad=>?_,cF.size,λt=>?_,rfl⟩
    ·exact⟨λb l e=>hF (c.cc b l e) A,λb l blk e ae aA=>c.rel b l blk e (by rw[←nJ aj (c.cc b l e)];exact ae) aA,λb bf l cB e e' fj av Y=>c.inj b bf l cB e e' fj ((lP aj (c.cc b l e)).1 av) ((lP aj (c.cc bf cB e')).1 Y),c.lt⟩
    ·exact⟨A,λ_ _=>rfl,ca _,λ_ _ _=>rfl,λ_ _ _ _=>rfl,λb an=>nJ aj an.live.lt,λb l ae e=>absurd (c.cc b l e) (by omega),λb ae aA av=>aA ((lP aj ae).1 av),kf.rfl⟩
    ·have m:(zt ops.size false).getD (σ i) false=true:=y
     rw[g]at m;cases m
    ·cases Z:μ b with
     |none=>rfl
     |some l=>
      have aM:=c.cc b l Z
      have bp:=k.kH (i:=0) (j:=i) (hQ _) (by omega)
      rw[Ac p]at bp
      omega
    ·rw[Ad _ _ _ _ (λi _=>g _)]
     exact cF.rel t
  ·cases aa
 ·cases aa
theorem Lx{l:List Nat}{i:Nat}(h:me l i<l.length):l[me l i]?=I i:=by
 unfold me at h|-
 have:=List.findIdx_getElem (w:=h)
 rw[gb h,hz this]
theorem UZ{F:Fence}{n:Nat}{o:Oper}{a:Act}{w:World}{K:Act->World->Prop}{Q:Exit->Act->World->Prop}(σ:List Nat)(h:(xC σ o).wpIn F n P a w K Q):o.wpIn F n P a w K Q:=h
theorem U0{F:Fence}{n N:Nat}{Γ:Callee}{id:Nat}{ops:Array Oper}{mS:Bool}{aY:List cX}{e aE:bJ}{h h2:aP}{μ:Ren}{a:Act}{w:World}{Q:Exit->Act->World->Prop}
 (u:kg F) (A:P.follows .mixedOrders=true) (x:iH P Γ) (aa:zQ P N ops mS=I aY) (t:kF Γ aY e h aE h2) (cF:gF μ e a N) (s:cH P μ h w)
 (h_:∀a' b2 aV,gF aV aE a' N->cH P aV h2 b2->Ext μ h w aV h2 b2->a'.defers=a.defers->Q .normal a' b2):(Code.region id ops mS).wpIn F n P Q a w:=by
 cases mS with
 |false=>
  unfold zQ at aa
  simp only[]at aa
  split at aa
  ·rename_i O G
   split at aa
   ·rename_i hd
    cases aa
    obtain⟨br,hm⟩:=Lv G
    refine wpIn_region ?_
    have:=UE (n:=n) (Q:=Q) u x br hm (Lu hd) t 0 a w μ (by simp) cF s h_
    rw[br]at this
    rw[List.range_eq_range']
    exact this
   ·cases aa
  ·cases aa
 |true=>
  have same:∀{q},uZ P N ops q=I aY->(Code.region id ops true).wpIn F n P Q a w:=λH=>
   Lw (σ:=λi=>i) (τ:=λi=>i) u A x rfl (λi ag=>⟨ag,rfl⟩) (λi ag=>⟨ag,rfl⟩) (λ_ _=>rfl) (λi o c=>⟨o,c,λ_ _ _ h=>h,λae=>⟨λe he m=>⟨e,he,m,rfl,ae e he m⟩,λe he m=>⟨ae e he m,e,he,m,rfl⟩⟩⟩) H t cF s h_
  unfold zQ at aa
  simp only[]at aa
  split at aa
  ·rename_i q _
   split at aa
   ·exact same aa
   ·rename_i R _
    cases aj:Gj ops (uY ops.size (targets q (oj ops)) (oj ops))with
    |false=>
     rw[aj]at aa
     exact same aa
    |true=>
     rw[aj]at aa
     simp only[gq]at aa
     generalize uY ops.size (targets q (oj ops)) (oj ops)=b at aj aa
     split at aa
     ·rename_i S _
      simp only[Gj,dx,fi]at aj
      obtain⟨⟨⟨av,y⟩,g⟩,z⟩:=aj
      have y:∀i∈b,i<ops.size:=λi ag=>by simpa using List.all_eq_true.1 y i ag
      have g:∀i,i<ops.size->me b i<ops.size/\me b (b.getD i 0)=i:=λi ag=>by
       have:=List.all_eq_true.1 g i (List.mem_range.2 ag)
       simp only[dx,fi]at this
       exact⟨this.1,hz this.2⟩
      have z:∀o∈ops.toList,o.guard=none/\∀e∈o.after.toList,e.on<ops.size:=λo c=>by
       have:=List.all_eq_true.1 z o c
       simp only[dx]at this
       exact⟨by simpa using this.1,λe he=>by simpa using List.all_eq_true.1 this.2 e he⟩
      have k:(q5 ops b).size=ops.size:=by simp [q5,av]
      have J:∀i o,ops[i]?=I o->(q5 ops b)[me b i]?=I (xC b o):=λi o c=>by
       have ag:=(Array.getElem?_eq_some_iff.1 c).1
       have:=Lx (l:=b) (i:=i) (by rw[av];exact(g i ag).1)
       unfold q5
       rw[List.getElem?_toArray,ja,this,dm,mM,c]
       rfl
      refine Lw (ops:=q5 ops b) (opsR:=ops) (σ:=λj=>(b[j]?).getD j) (τ:=me b) u A x k.symm (λi ag=>?_) (λj p=>?_) (λj p=>?_) (λi o c=>?_) aa t cF s h_
      ·rw[k]at ag|-
       refine⟨(g i ag).1,?_⟩
       show(b[me b i]?).getD _=i
       rw[Lx (by rw[av];exact(g i ag).1)]
       rfl
      ·rw[k]at p|-
       have B:j<b.length:=by rw[av];exact p
       have bE:b[j]?=I b[j]:=gb B
       have hd:b.getD j 0=b[j]:=by rw[jT,bE];rfl
       have h2:=(g j p).2
       rw[hd]at h2
       show(b[j]?).getD j<ops.size/\me b ((b[j]?).getD j)=j
       rw[bE]
       exact⟨y _ (List.getElem_mem B),h2⟩
      ·rw[k]at p
       show(b[j]?).getD j=j
       rw[e2 (by rw[av];omega)]
       rfl
      ·have C:=J i o c
       obtain⟨D,E⟩:=z o (by rw[Array.getElem?_eq_some_iff]at c;obtain⟨h,rfl⟩:=c;simp)
       refine⟨_,C,λK a w h=>?_,λ_=>⟨λe' L M=>?_,λe he ae=>?_⟩⟩
       ·unfold oc at h|-
        rw[C]at h
        rw[c]
        have bu:uq (xC b o) (yielded (q5 ops b) a.tmps)=true:=by
         have:(xC b o).guard=none:=D
         unfold uq
         rw[this]
        have cP:uq o (yielded ops a.tmps)=true:=by unfold uq;rw[D]
        simp only[bu,aZ]at h
        simp only[cP,aZ]
        exact UZ b h
       ·have hm:e'∈(o.after.map λe=>{ e with on:=me b e.on }).toList:=L
        simp only[Ke,iT]at hm
        obtain⟨e,he,rfl⟩:=hm
        exact⟨e,he,M,rfl,by rw[k];exact E e he⟩
       ·refine⟨by rw[k];exact E e he,{ e with on:=me b e.on },?_,ae,rfl⟩
        show _∈(o.after.map λe=>{ e with on:=me b e.on }).toList
        rw[Ke]
        exact List.mem_map_of_mem he
     ·cases aa
  ·cases aa
end Go.bB
namespace Go.bB
variable {P : Program}
theorem Ag{a b:List Nat}(h:xD a b=true):∀i∈a,i∈b:=λi ag=>z_ (List.all_eq_true.1 h i ag)
theorem GK{e aD:bJ}:∀{l:List Nat} {t:Nat},fv e l (getMany aD l) t=if t∈l then aD t else e t
 |[],t=>by simp [getMany,fv]
 |i::l,t=>by
  simp only[getMany,fv]
  by_cases h:i=t
  ·subst h;rw[ov];simp
  ·rw[cA _ _ h]
   show fv e l (getMany aD l) t=_
   rw[GK]
   have:t≠i:=nz h
   simp [this]
theorem vd{e aD:bJ}{mod tmp:List Nat}(h:∀t,t∉mod++tmp->aD t=e t):iw (fv (jV e tmp) mod (getMany aD mod)) aD:=by
 intro t
 rw[GK]
 split
 ·left;rfl
 ·rename_i hm
  by_cases aO:t∈tmp
  ·right;exact GA aO
  ·left;rw[u9 aO];exact(h t (by simp [hm,aO])).symm
theorem xU{e:bJ}{mod tmp:List Nat}{vs:List Value}{t:Nat}(h:t∉mod++tmp):fv (jV e tmp) mod vs t=e t:=by
 simp only[mN,not_or]at h
 have:∀(l:List Nat) (vs:List Value) (e:bJ),t∉l->fv e l vs t=e t:=by
  intro l
  induction l with
  |nil=>intros;simp [fv]
  |cons i l b=>
   intro vs e aA
   simp only[hk,not_or]at aA
   simp only[fv];rw[cA _ _ (nz aA.1)];exact b _ e aA.2
 rw[this mod vs _ h.1,u9 h.2]
def GL:fw->Exit
 |.normal=>.normal
 |.exit i=>.exit i
 |.ret=>.ret
variable {μ : Ren} {w : World}
def m0(lo:Nat)(μ:Ren)(h:aP)(w:World)(d0 d:List Deferred):Prop:=
 ∃rs:List Nat,d=rs.map (λr=>{ target:=.collected r,args:=#[] })++d0/\rs.Nodup/\∀r∈rs,lo<=r/\w.heap[r]?=I (.deferred (I []))/\∀b l,live h b->μ b=I l->l.blk≠r
theorem m0.rfl{lo:Nat}{h:aP}{d:List Deferred}:m0 lo μ h w d d:=⟨[],by simp,by simp,λr an=>by cases an⟩
theorem Ah{aV:Ren}{h h':aP}{b2:World}(x:Ext μ h w aV h' b2){r:Nat}(h1:w.heap[r]?=I (.deferred (I [])))(h2:∀b l,live h b->μ b=I l->l.blk≠r):
 b2.heap[r]?=I (.deferred (I []))/\∀b l,live h' b->aV b=I l->l.blk≠r:=by
 have an:r<w.heap.size:=(Array.getElem?_eq_some_iff.1 h1).1
 refine⟨by rw[x.frame r an h2];exact h1,λb l ae e=>?_⟩
 by_cases c:b<h.length
 ·have av:live h b:=pV λaA=>x.dead b c aA ae
  exact h2 b l av ((x.eL b c).symm.trans e)
 ·rcases x.new b l (by omega) e with ak|⟨cd,eY,g,_,i,aD,_⟩
  ·omega
  ·rw[←aD];exact h2 cd eY g i
theorem m0.trans{lo:Nat}{aV:Ren}{h h':aP}{b2:World}{d0 d1 c:List Deferred}(a:m0 lo μ h w d0 d1)(x:Ext μ h w aV h' b2)(b:m0 w.heap.size aV h' b2 d1 c)(j:lo<=w.heap.size):m0 lo aV h' b2 d0 c:=by
 obtain⟨e,aD,n1,bt⟩:=a
 obtain⟨g,aE,n2,bG⟩:=b
 refine⟨g++e,by rw[aE,aD];simp,?_,λr an=>?_⟩
 ·refine List.nodup_append.2 ⟨n2,n1,λr an dD gd i=>?_⟩
  subst i
  have:=(bG r an).1
  have ak:=(Array.getElem?_eq_some_iff.1 (bt r gd).2.1).1
  omega
 ·rcases List.mem_append.1 an with an|an
  ·exact⟨by have:=(bG r an).1;omega,(bG r an).2⟩
  ·exact⟨(bt r an).1,Ah x (bt r an).2.1 (bt r an).2.2⟩
def xV{R:Type}(P:Program)(K:fw->bJ->aP->Option R)(r:R)(wr:List Nat)(e:bJ)(μ:Ren)(h:aP)(w:World)(a:Act)(N:Nat):Exit->Act->World->Prop:=
 λx a' b2=>∃o e' h' aV,GL o=x/\K o e' h'=I r/\(∀t,t∉wr->e' t=e t)/\gF aV e' a' N/\cH P aV h' b2/\Ext μ h w aV h' b2/\m0 w.heap.size aV h' b2 a.defers a'.defers
noncomputable def xW(p:Nat->Prop):Nat:=open Classical in if H:∃n,p n then Kn (show ∃n,p n/\∀k,k<n->¬p k by
 obtain⟨m,hm⟩:=H
 obtain⟨q,_,_,ak,aH⟩:=tk p m 0 m (by omega) hm
 exact⟨q,ak,λk ad=>aH k (hQ _) ad⟩)else 0
theorem Ly{p:Nat->Prop}{m:Nat}(h:p m):p (xW p)/\xW p<=m:=by
 have H:∃n,p n:=⟨m,h⟩
 unfold xW
 rw[dif_pos H]
 generalize aa:Kn _=c
 have az:=Classical.choose_spec (show ∃n,p n/\∀k,k<n->¬p k by
  obtain⟨m,hm⟩:=H
  obtain⟨q,_,_,ak,aH⟩:=tk p m 0 m (by omega) hm
  exact⟨q,ak,λk ad=>aH k (hQ _) ad⟩)
 rw[aa]at az
 refine⟨az.1,?_⟩
 apply pV
 intro aA
 exact az.2 m (by omega) h
theorem U1{h:aP}{b:Nat}{o:Option fw}(c:uS b h=I o):∃c6 e g i j st,h[b]?=I (.loop c6 e g i j st o)/\st≠.busy:=by
 unfold uS at c
 split at c
 ·cases c;exact⟨_,_,_,_,_,_,by assumption,by simp⟩
 ·cases c;exact⟨_,_,_,_,_,_,by assumption,by simp⟩
 ·cases c
theorem U2{Γ:Callee}{f:Value}{args:List Value}{h:aP}{r:Value×aP}(aj:rX Γ f args h=I r):∃g xs ys,f=.func (.func g) xs ys/\fD g dP=true/\Γ g (xs.toList++args++ys.toList) h=I r:=by
 unfold rX at aj
 split at aj
 ·rename_i g xs ys
  cases b:fD g dP with
  |false=>rw[b]at aj;cases aj
  |true=>rw[b]at aj;exact⟨g,xs,ys,rfl,b,aj⟩
 ·cases aj
theorem U3{R:Type}{F:Fence}{n N:Nat}{c4 bC:List Nat}{y z:k1}{g:Operand}{K:fw->bJ->aP->Option R}{e:bJ}{h h2:aP}{r:R}{a:Act}{cP j:World}{c:Ren}{v:Value}{o:Option fw}{blk:h9}
 (s:cH P μ h w) (ay:Ext μ h w μ h (w.alloc (.deferred (I [])))) (bV:Ext μ h (w.alloc (.deferred (I []))) (grow μ h.length (w.heap.size+1) 0) (h++[blk]) cP) (fZ:Ext (grow μ h.length (w.heap.size+1) 0) (h++[blk]) cP c h2 j)
 (A:∀b l,μ b=I l->b<h.length) (L:∀b l,grow μ h.length (w.heap.size+1) 0 b=I l->b<(h++[blk]).length) (kh:cH P c h2 j)
 (ad:(match o with|none=>K .normal e (h2.set h.length .dead)|some x=>K x e (h2.set h.length .dead))=I r) (M:uS h.length h2=I o) (cF:gF μ e a N):
 rangePost F n P (w.heap.size+1) (xV P K r (mW (.ju g c4 bC y z)) e μ h w a N) { a with defers:=[{ target:=.collected w.heap.size,args:=#[] }]++a.defers } (.returned v) j:=by
 have B:c h.length=I ⟨w.heap.size+1,0⟩:=(fZ.eL h.length (by simp)).trans (pe _ _ _)
 obtain⟨c6,Y,Z,aa,ab,st,q,O⟩:=U1 M
 obtain⟨ac,Q,k,rfl,S,T,_⟩:=kh.rel _ _ _ B q (by simp)
 have U:¬k2 h2 h.length:=by rintro⟨vs,ae,aE⟩;rw[q]at aE;cases aE
 obtain⟨t,C⟩:=kh.Uq (o':=.loop { k with state:=.exhausted }) B q (by simp) U
 have m:Ext μ h w c (h2.set h.length .dead) (j.putObj (w.heap.size+1) (.loop { k with state:=.exhausted })):=ay.trans (bV.trans (fZ.trans C L) A) A
 have V:(w.alloc (.deferred (I []))).heap[w.heap.size]?=I (.deferred (I [])):=KH w _
 have D:=Ah bV V (λb l _ aE=>by have:=s.lt b l aE;omega)
 have E:=Ah fZ D.1 D.2
 have W:=Ah C E.1 E.2
 have u:m0 w.heap.size c (h2.set h.length .dead) (j.putObj (w.heap.size+1) (.loop { k with state:=.exhausted })) a.defers ([{ target:=.collected w.heap.size,args:=#[] }]++a.defers):=
  ⟨[w.heap.size],rfl,by simp,λr an=>by rw[hl]at an;subst an;exact⟨ca _,W⟩⟩
 have G:gF c e { a with defers:=[{ target:=.collected w.heap.size,args:=#[] }]++a.defers } N:=⟨cF.size,λi=>(cF.rel i).mono (m.r2 s.cc)⟩
 have H:=run_endLoop (P:=P) Q (by rw[S];cases st<;>first|exact absurd rfl O|simp [Kv])
 generalize j.putObj (w.heap.size+1) (.loop { k with state:=.exhausted })=J at H t m u
 refine⟨k.pending,J,H,?_⟩
 rw[T]
 cases o with
 |none=>exact⟨.normal,e,_,c,rfl,ad,λ_ _=>rfl,G,t,m,u⟩
 |some x=>
  have bs:∀p:fw,K p e (h2.set h.length .dead)=I r->xV P K r (mW (.ju g c4 bC y z)) e μ h w a N (GL p) { a with defers:=[{ target:=.collected w.heap.size,args:=#[] }]++a.defers } J:=
   λp X=>⟨p,e,_,c,rfl,X,λ_ _=>rfl,G,t,m,u⟩
  cases x with
  |normal=>exact wpIn_skip (bs .normal ad)
  |exit i=>exact wpIn_exit (bs (.exit i) ad)
  |ret=>exact wpIn_ret (bs .ret ad)
theorem U4{R:Type}{F:Fence}{n N fuel:Nat}{Γ:Callee}(k:kg F)(u:iH P Γ){g:Operand}{c4:List Nat}{b:Array Tmp}{c j:k1}{as l:Code}{K:fw->bJ->aP->Option R}{e:bJ}{h:aP}{r:R}{a:Act}
 (cR:(b.toList.all λp=>decide (p<N))=true) (d':b.toList.Nodup) (h1:zR P N c as) (h2:zR P N j l) (af:mV g=true) (x:F.round=none)
 (ad:hA Γ fuel (.ju g c4 b.toList c j) K e h=I r) (cF:gF μ e a N) (s:cH P μ h w):
 (Code.rangeFunc g b as l).wpIn F n P (xV P K r (mW (.ju g c4 b.toList c j)) e μ h w a N) a w:=by
 simp only[hA,cN]at ad
 obtain⟨⟨v,G⟩,aj,o,t,ad⟩:=ad
 simp only at t ad
 obtain⟨f,xs,ys,aC,z,aj⟩:=U2 aj
 have m:=cF.op g af
 rw[aC]at m
 generalize ba:a.eval g=y at m
 cases m with
 |@func _ _ _ eX eM bH b1=>
  obtain⟨A,B⟩:=u.fn f z _ _ _ _ aj
  refine wpIn_rangeFunc (λfn H=>?_)
  rw[x]
  obtain⟨s1,ay⟩:=s.spare (.deferred (I []))
  have C:(w.alloc (.deferred (I []))).heap.size=w.heap.size+1:=xK _ _
  have D:∀i,bj (grow μ h.length (w.alloc (.deferred (I []))).heap.size 0) (fv (λ_=>dI) c4 (getMany e c4) i) (a.tmps.getD i undef):=λi=>by
   rw[GK]
   split
   ·exact(cF.rel i).mono (r3 s1 _ _)
   ·exact .dI _
  obtain⟨q,bV⟩:=s1.alloc (w0:=w.alloc (.deferred (I []))) rfl kf.rfl (K:=0) (blk:=.loop (getMany e c4) c4 b.toList c j .ready none)
   (o:=.loop { state:=.ready,pending:=none,fn:=fn,tmps:=a.tmps,params:=b,assign:=as,body:=l,defers:=w.heap.size })
   ⟨_,rfl,rfl,rfl,rfl,by rw[cF.size];exact cR,d',by rw[cF.size];exact h1,by rw[cF.size];exact h2,D⟩
  rw[C]at q bV
  have e_:ef μ (grow μ h.length (w.heap.size+1) 0):=r3 s1 _ _
  have E:ct (grow μ h.length (w.heap.size+1) 0) (xs.toList++[Value.func (.yield h.length) ⟨[]⟩ ⟨[]⟩]++ys.toList) (eX.toList++[Value.func (.yield (w.heap.size+1)) ⟨[]⟩ ⟨[]⟩]++eM.toList):=
   ((bH.mono e_).append (.cons (.yield (pe _ _ _)) .nil)).append (b1.mono e_)
  refine⟨w.heap.size+1,_,_,_,_,f,(eX.toList++[Value.func (.yield (w.heap.size+1)) ⟨[]⟩ ⟨[]⟩]++eM.toList).toArray,_,run_enterLoop_outer _ _ _ _ _,K3 rfl ba,λbR _=>k.1 bR,?_,λhd=>(by rw[k.2]at hd;cases hd),
   (B _ _ _ q E F (n-1) k).mono ?_⟩
  ·have hm:eX++(rangeCall g (w.heap.size+1)).args.map a.eval++eM=(eX.toList++[Value.func (.yield (w.heap.size+1)) ⟨[]⟩ ⟨[]⟩]++eM.toList).toArray:=l_ (by simp [rangeCall,Act.eval])
   simp only[invoke,hm]
   exact A _ _
  ·rintro e' J ⟨v',L,rfl,aw,kh,fZ⟩
   exact U3 s ay bV fZ s1.cc q.cc kh ad t cF
theorem GM{R:Type}{F:Fence}{n N fuel:Nat}{Γ:Callee}(Y:kg F)(al:P.follows .mixedOrders=true)(Z:iH P Γ):
 ∀(ac:k1) (c:Code) (K:fw->bJ->aP->Option R) (e:bJ) (h:aP) (r:R) (a:Act) (w:World) (μ:Ren),dO P N c=I (dv ac)->lp ac=true->(F.round=none\/mf (dv ac)=true)->hA Γ fuel ac K e h=I r->
  gF μ e a N->cH P μ h w->c.wpIn F n P (xV P K r (mW ac) e μ h w a N) a w:=by
 intro ac
 induction ac with
 |skip=>
  intro c K e h r a w μ aa q C ad cF s
  have ab:xV P K r (mW .skip) e μ h w a N .normal a w:=⟨.normal,e,h,μ,rfl,ad,λ_ _=>rfl,cF,s,Ext.refl _ _ _ s.cc,m0.rfl⟩
  cases c with
  |skip=>exact wpIn_skip ab
  |label l=>exact wpIn_label ab
  |region _ _ _=>simp only[dO,dv]at aa;split at aa<;>cases aa
  |seq _ _=>simp only[dO,dv]at aa;split at aa<;>cases aa
  |cond _ _ _=>simp only[dO,dv]at aa;split at aa<;>cases aa
  |block _ _=>simp only[dO,dv]at aa;split at aa<;>cases aa
  |loop _=>simp only[dO,dv]at aa;split at aa<;>cases aa
  |rangeFunc _ _ _ _=>simp only[dO,dv]at aa;split at aa<;>first|cases aa|(split at aa<;>cases aa)
  |_=>cases aa
 |region mS st=>
  intro c K e h r a w μ aa q C ad cF s
  cases c with
  |region id ops aB=>
   simp only[dO,dv]at aa
   split at aa
   ·rename_i aY am
    cases aa
    obtain⟨aE,h2,aO,m,b0⟩:=Ab st [] none none _ e h r q (λc b bE=>by cases bE) ad
    exact U0 Y al Z am aO cF s (λa' b2 aV ak aH aM bp=>⟨.normal,aE,h2,aV,rfl,m,b0,ak,aH,aM,by rw[bp];exact m0.rfl⟩)
   ·cases aa
  |seq _ _=>simp only[dO,dv]at aa;split at aa<;>cases aa
  |cond _ _ _=>simp only[dO,dv]at aa;split at aa<;>cases aa
  |block _ _=>simp only[dO,dv]at aa;split at aa<;>cases aa
  |loop _=>simp only[dO,dv]at aa;split at aa<;>cases aa
  |rangeFunc _ _ _ _=>simp only[dO,dv]at aa;split at aa<;>first|cases aa|(split at aa<;>cases aa)
  |_=>cases aa
 |seq x y an G=>
  intro c K e h r a w μ aa q C ad cF s
  simp only[lp,dx]at q
  cases c with
  |seq cR d'=>
   simp only[dO,dv]at aa
   split at aa
   ·rename_i f1 f2 h1 h2
    cases aa
    refine wpIn_seq (s0 (an cR _ e h r a w μ h1 q.1 (C.imp (λh=>h) λh=>by simp only[mf,dv,dx]at h;exact h.1) ad cF s) ?_)
    rintro ay D bu ⟨o,aD,hg,μ1,rfl,m,E,u,s1,ay,hd⟩
    cases o with
    |normal=>
     refine s0 (G d' K aD hg r D bu μ1 h2 q.2 (C.imp (λh=>h) λh=>by simp only[mf,dv,dx]at h;exact h.2) m u s1) ?_
     rintro bV U cP ⟨ao,aE,L,M,rfl,ap,aq,O,Q,bV,S⟩
     exact⟨ao,aE,L,M,rfl,ap,λt aO=>by
      simp only[mW,mN,not_or]at aO
      rw[aq t aO.2,E t aO.1],O,Q,ay.trans bV s.cc,hd.trans bV S ay.size⟩
    |exit i=>exact⟨.exit i,aD,hg,μ1,rfl,m,λt aO=>E t (λh=>aO (by simp [mW,h])),u,s1,ay,hd⟩
    |ret=>exact⟨.ret,aD,hg,μ1,rfl,m,λt aO=>E t (λh=>aO (by simp [mW,h])),u,s1,ay,hd⟩
   ·cases aa
  |region _ _ _=>simp only[dO,dv]at aa;split at aa<;>cases aa
  |cond _ _ _=>simp only[dO,dv]at aa;split at aa<;>cases aa
  |block _ _=>simp only[dO,dv]at aa;split at aa<;>cases aa
  |loop _=>simp only[dO,dv]at aa;split at aa<;>cases aa
  |rangeFunc _ _ _ _=>simp only[dO,dv]at aa;split at aa<;>first|cases aa|(split at aa<;>cases aa)
  |_=>cases aa
 |cond x mod tmp y z G ar=>
  intro c K e h r a w μ aa q C ad cF s
  simp only[lp,dx]at q
  obtain⟨⟨⟨oq,au⟩,aw⟩,az⟩:=q
  cases c with
  |cond aC cR d'=>
   simp only[dO,dv]at aa
   split at aa
   ·rename_i f1 f2 af h1 h2
    cases aa
    simp only[hA,rY,zH]at ad
    have V:=cF.op x af
    split at ad
    ·rename_i t aO
     rw[aO]at V
     generalize ba:a.eval x=c0 at V
     cases V
     refine wpIn_cond ba ?_
     cases t with
     |true=>
      rw[aQ rfl]at ad
      refine s0 (G cR _ e h r a w μ h1 aw (C.imp (λh=>h) λh=>by simp only[mf,dv,dx]at h;exact h.1) ad cF s) ?_
      rintro ay D bu ⟨o,aD,hg,μ1,rfl,m,E,u,s1,ay,hd⟩
      have A:∀t,t∉mod++tmp->aD t=e t:=λt aO=>E t (λh=>aO (Ag oq t h))
      cases o with
      |normal=>exact⟨.normal,_,hg,μ1,rfl,m,λt aO=>xU aO,u.lr (vd A),s1,ay,hd⟩
      |exit i=>exact⟨.exit i,aD,hg,μ1,rfl,m,A,u,s1,ay,hd⟩
      |ret=>exact⟨.ret,aD,hg,μ1,rfl,m,A,u,s1,ay,hd⟩
     |false=>
      rw[a1 (by simp)]at ad
      refine s0 (ar d' _ e h r a w μ h2 az (C.imp (λh=>h) λh=>by simp only[mf,dv,dx]at h;exact h.2) ad cF s) ?_
      rintro ay D bu ⟨o,aD,hg,μ1,rfl,m,E,u,s1,ay,hd⟩
      have A:∀t,t∉mod++tmp->aD t=e t:=λt aO=>E t (λh=>aO (Ag au t h))
      cases o with
      |normal=>exact⟨.normal,_,hg,μ1,rfl,m,λt aO=>xU aO,u.lr (vd A),s1,ay,hd⟩
      |exit i=>exact⟨.exit i,aD,hg,μ1,rfl,m,A,u,s1,ay,hd⟩
      |ret=>exact⟨.ret,aD,hg,μ1,rfl,m,A,u,s1,ay,hd⟩
    ·cases ad
   ·cases aa
  |region _ _ _=>simp only[dO,dv]at aa;split at aa<;>cases aa
  |seq _ _=>simp only[dO,dv]at aa;split at aa<;>cases aa
  |block _ _=>simp only[dO,dv]at aa;split at aa<;>cases aa
  |loop _=>simp only[dO,dv]at aa;split at aa<;>cases aa
  |rangeFunc _ _ _ _=>simp only[dO,dv]at aa;split at aa<;>first|cases aa|(split at aa<;>cases aa)
  |_=>cases aa
 |block id mod tmp y G=>
  intro c K e h r a w μ aa q C ad cF s
  simp only[lp,dx]at q
  cases c with
  |block aF cR=>
   simp only[dO,dv]at aa
   split at aa
   ·rename_i f1 h1
    cases aa
    simp only[hA,rY]at ad
    refine wpIn_block (s0 (G cR _ e h r a w μ h1 q.2 (C.imp (λh=>h) λh=>h) ad cF s) ?_)
    rintro ay D bu ⟨o,aD,hg,μ1,rfl,m,E,u,s1,ay,hd⟩
    have A:∀t,t∉mod++tmp->aD t=e t:=λt aO=>E t (λh=>aO (Ag q.1 t h))
    cases o with
    |normal=>exact⟨.normal,_,hg,μ1,rfl,m,λt aO=>xU aO,u.lr (vd A),s1,ay,hd⟩
    |exit i=>
     simp only[GL,Exit.inBlock]
     split
     ·rename_i ag
      subst ag
      have:cC i i=true:=p0 i
      simp only[this,gq]at m
      exact⟨.normal,_,hg,μ1,rfl,m,λt aO=>xU aO,u.lr (vd A),s1,ay,hd⟩
     ·rename_i ag
      have:cC i id=false:=by
       cases ae:cC i id with
       |false=>rfl
       |true=>exact absurd (hz ae) ag
      simp only[this,lJ]at m
      exact⟨.exit i,aD,hg,μ1,rfl,m,A,u,s1,ay,hd⟩
    |ret=>exact⟨.ret,aD,hg,μ1,rfl,m,A,u,s1,ay,hd⟩
   ·cases aa
  |region _ _ _=>simp only[dO,dv]at aa;split at aa<;>cases aa
  |seq _ _=>simp only[dO,dv]at aa;split at aa<;>cases aa
  |cond _ _ _=>simp only[dO,dv]at aa;split at aa<;>cases aa
  |loop _=>simp only[dO,dv]at aa;split at aa<;>cases aa
  |rangeFunc _ _ _ _=>simp only[dO,dv]at aa;split at aa<;>first|cases aa|(split at aa<;>cases aa)
  |_=>cases aa
 |loop mod tmp y G=>
  intro c K e h r a w μ aa q C ad cF s
  simp only[lp,dx]at q
  cases c with
  |loop cR=>
   simp only[dO,dv]at aa
   split at aa
   ·rename_i f1 h1
    cases aa
    simp only[hA]at ad
    generalize jb:(λ(cont:List Value->aP->Option R) (vs:List Value) (h:aP)=>hA Γ fuel y (λo e h=>match o with|.normal=>cont (getMany e mod) h|.exit i=>K (.exit i) e h|.ret=>K .ret e h) (fv (jV e tmp) mod vs) h)=B at ad
    let H:Nat->Act->World->Prop:=λk D bu=>∃vs h1 μ1,oh B k vs h1=I r/\gF μ1 (fv (jV e tmp) mod vs) D N/\cH P μ1 h1 bu/\Ext μ h w μ1 h1 bu/\m0 w.heap.size μ1 h1 bu a.defers D.defers
    refine wpIn_loop (λD bu=>∃k,H k D bu) (λD bu=>xW λk=>H k D bu) ⟨fuel,getMany e mod,h,μ,ad,cF.lr (vd (λt _=>rfl)),s,Ext.refl _ _ _ s.cc,m0.rfl⟩ ?_
    rintro D bu ⟨aI,aA⟩
    obtain⟨av,_⟩:=Ly (p:=λk=>H k D bu) aA
    generalize xW (λk=>H k D bu)=k at av|-
    obtain⟨vs,hg,μ1,J,u,s1,ay,W⟩:=av
    cases k with
    |zero=>cases J
    |succ k=>
     simp only[oh]at J
     rw[←jb]at J
     simp only at J
     rw[jb]at J
     refine s0 (G cR _ _ hg r D bu μ1 h1 q.2 (C.imp (λh=>h) λh=>h) J u s1) ?_
     rintro bV U cP ⟨o,aE,L,M,rfl,m,E,O,Q,bV,S⟩
     have A:∀t,t∉mod++tmp->aE t=e t:=λt aO=>(E t (λh=>aO (Ag q.1 t h))).trans (xU aO)
     have X:=ay.trans bV s.cc
     cases o with
     |normal=>
      have aj:H k U cP:=⟨getMany aE mod,L,M,m,O.lr (vd A),Q,X,W.trans bV S ay.size⟩
      exact⟨⟨k,aj⟩,Nat.lt_succ_of_le (Ly (p:=λk=>H k U cP) aj).2⟩
     |exit i=>exact⟨.exit i,aE,L,M,rfl,m,A,O,Q,X,W.trans bV S ay.size⟩
     |ret=>exact⟨.ret,aE,L,M,rfl,m,A,O,Q,X,W.trans bV S ay.size⟩
   ·cases aa
  |region _ _ _=>simp only[dO,dv]at aa;split at aa<;>cases aa
  |seq _ _=>simp only[dO,dv]at aa;split at aa<;>cases aa
  |cond _ _ _=>simp only[dO,dv]at aa;split at aa<;>cases aa
  |block _ _=>simp only[dO,dv]at aa;split at aa<;>cases aa
  |rangeFunc _ _ _ _=>simp only[dO,dv]at aa;split at aa<;>first|cases aa|(split at aa<;>cases aa)
  |_=>cases aa
 |exit i=>
  intro c K e h r a w μ aa q C ad cF s
  cases c with
  |exit j=>cases aa;exact wpIn_exit ⟨.exit i,e,h,μ,rfl,ad,λ_ _=>rfl,cF,s,Ext.refl _ _ _ s.cc,m0.rfl⟩
  |region _ _ _=>simp only[dO,dv]at aa;split at aa<;>cases aa
  |seq _ _=>simp only[dO,dv]at aa;split at aa<;>cases aa
  |cond _ _ _=>simp only[dO,dv]at aa;split at aa<;>cases aa
  |block _ _=>simp only[dO,dv]at aa;split at aa<;>cases aa
  |loop _=>simp only[dO,dv]at aa;split at aa<;>cases aa
  |rangeFunc _ _ _ _=>simp only[dO,dv]at aa;split at aa<;>first|cases aa|(split at aa<;>cases aa)
  |_=>cases aa
 |ret=>
  intro c K e h r a w μ aa q C ad cF s
  cases c with
  |ret=>exact wpIn_ret ⟨.ret,e,h,μ,rfl,ad,λ_ _=>rfl,cF,s,Ext.refl _ _ _ s.cc,m0.rfl⟩
  |region _ _ _=>simp only[dO,dv]at aa;split at aa<;>cases aa
  |seq _ _=>simp only[dO,dv]at aa;split at aa<;>cases aa
  |cond _ _ _=>simp only[dO,dv]at aa;split at aa<;>cases aa
  |block _ _=>simp only[dO,dv]at aa;split at aa<;>cases aa
  |loop _=>simp only[dO,dv]at aa;split at aa<;>cases aa
  |rangeFunc _ _ _ _=>simp only[dO,dv]at aa;split at aa<;>first|cases aa|(split at aa<;>cases aa)
  |_=>cases aa
 |ju g c4 bC aJ aK aL aN=>
  intro c K e h r a w μ aa q C ad cF s
  cases c with
  |rangeFunc g' aR as aS=>
   simp only[lp,dx]at q
   simp only[dO,dv]at aa
   split at aa
   ·rename_i aT aU af h1 h2
    split at aa
    ·rename_i T
     cases aa
     exact U4 Y Z T.1 T.2.1 ⟨h1,q.1,T.2.2.1⟩ ⟨h2,q.2,T.2.2.2⟩ af (C.resolve_right (by simp [mf,dv])) ad cF s
    ·cases aa
   ·cases aa
  |region _ _ _=>simp only[dO,dv]at aa;split at aa<;>cases aa
  |seq _ _=>simp only[dO,dv]at aa;split at aa<;>cases aa
  |cond _ _ _=>simp only[dO,dv]at aa;split at aa<;>cases aa
  |block _ _=>simp only[dO,dv]at aa;split at aa<;>cases aa
  |loop _=>simp only[dO,dv]at aa;split at aa<;>cases aa
  |_=>cases aa
end Go.bB
namespace Go.bB
variable {P : Program}
def Ai(P:Program):ResultVar->Option s'
 |.tmp t=>I (.tmp t)
 |.cell a t=>match iG P t with
  |some (agg,n)=>I (.cell a agg n)
  |none=>none
structure Aj(P:Program)(f:dN)(fn:Func)(c:Code)(F:q1):Prop where
 at_:P.funcs[f]?=I fn
 body:fn.body=I c
 name : (fn.name == "runtime.NumGoroutine") = false
 code:dO P fn.ntmps c=I (dv F.code)
 ok:lp F.code=true
 nG:F.nG<=fn.ntmps
 results:fn.results.toList.mapM (Ai P)=I F.results
theorem U5{α β:Type}{f:α->Option β}{x:α}{l:List α}{r:List β}(h:(x::l).mapM f=I r):∃y ys,f x=I y/\l.mapM f=I ys/\r=y::ys:=by
 rw[List.mapM_cons]at h
 cases af:f x with
 |none=>rw[af]at h;cases h
 |some y=>
  rw[af]at h
  cases av:l.mapM f with
  |none=>rw[av]at h;cases h
  |some ys=>rw[av]at h;cases h;exact⟨y,ys,rfl,rfl,rfl⟩
theorem U6{R:Type}{μ:Ren}{e:bJ}{h:aP}{w:World}{tmps:Array Value}(s:cH P μ h w)(j:∀i,bj μ (e i) (tmps.getD i undef)):
 ∀(b:List ResultVar) (rs:List s') (k:List Value->Option R) (r:R),b.mapM (Ai P)=I rs->o_ rs e h k=I r->
  ∃vs b_,k vs=I r/\ct μ vs b_/\∀f:ResultVar->Sem Value,(∀t,f (.tmp t)=pure (tmps.getD t undef))->(∀a t,f (.cell a t)=(do loadVar t (←asAddr (tmps.getD a undef))))->(b.mapM f).run P w=.ok b_ w:=by
 intro b
 induction b with
 |nil=>
  intro rs k r aa ad
  cases aa
  exact⟨[],[],ad,.nil,λ_ _ _=>rfl⟩
 |cons x b m=>
  intro rs k r aa ad
  obtain⟨y,ys,af,av,rfl⟩:=U5 aa
  cases x with
  |tmp t=>
   cases af
   simp only[o_]at ad
   obtain⟨vs,b_,h1,h2,ak⟩:=m ys _ r av ad
   refine⟨_,_,h1,.cons (j t) h2,λf c g=>?_⟩
   rw[List.mapM_cons]
   simp only[c,er,ga,ed,ak f c g]
  |cell t ty=>
   simp only[Ai]at af
   split at af
   ·rename_i agg n q
    cases af
    simp only[o_,cN]at ad
    obtain⟨v,aw,ad⟩:=ad
    obtain⟨vs,b_,h1,h2,ak⟩:=m ys _ r av ad
    obtain⟨d,i,hd,ag,ha,aA,au⟩:=mZ q
    obtain⟨v',o,u⟩:=KI s (j t) aw hd ag ha aA
    refine⟨_,_,h1,.cons u h2,λf c g=>?_⟩
    rw[List.mapM_cons]
    have p:(do loadVar ty (←asAddr (tmps.getD t undef)):Sem Value).run P w=.ok v' w:=by
     have l:=j t
     unfold nF at aw
     split at aw
     ·rename_i heq
      rw[heq]at l
      generalize ba:tmps.getD t undef=zS at l o
      cases l with
      |ptr ae=>
       simpa only[Instr.loadAt,Instr.sureAddr,asAddr,er,ga,ed]using o
     ·cases aw
    simp only[g,er,ga,ed]at p|-
    rw[p]
    simp only[ak f c g,ed]
   ·cases af
theorem U7{μ aV:Ren}{h h':aP}{w b2:World}{r v:Value}(s:cH P μ h w)(aw:bj aV r v)(b:cH P aV h' b2)(x:Ext μ h w aV h' b2):
 ∃μ1,bj μ1 r v/\cH P μ1 (gc r h h') b2/\Ext μ h w μ1 (gc r h h') b2:=by
 exact⟨aV,aw,b,x⟩
theorem U8{μ:Ren}{vs b_:List Value}(h:ct μ vs b_):bj μ (single vs) (if h:b_.toArray.size=1 then b_.toArray[0]else .tuple b_.toArray):=by
 cases h with
 |nil=>exact .tuple .nil
 |cons h az=>
  cases az with
  |nil=>exact h
  |cons h' b=>
   simp only[single,List.size_toArray,kb]
   rw[dif_neg (by omega)]
   exact .tuple (.cons h (.cons h' b))
theorem GO {f : dN} {fn : Func} {c : Code} {xs : Array Value} {w : World} (h1 : P.funcs[f]? = I fn) (h2 : fn.body = I c) (ak : (fn.name == "runtime.NumGoroutine") = false) :
 (callFunc f xs).run P w=.ok (.enter f xs) w:=by
 have b : ¬ fn.name = "runtime.NumGoroutine" := by simpa using ak
 simp [callFunc,go_sem,h1,h2,b]
theorem cH.GP{μ:Ren}{h:aP}{w:World}(s:cH P μ h w){r:Nat}(o:Obj)(c:∀b l,live h b->μ b=I l->l.blk≠r):cH P μ h (w.putObj r o):=
 ⟨s.cc,λb l blk e ae aA=>by
  obtain⟨o',g,i⟩:=s.rel b l blk e ae aA
  exact⟨o',by rw[Ko (c b l ⟨_,ae,aA⟩ e)];exact g,i⟩,s.inj,λb l e=>by have:=s.lt b l e;simpa [uo]using this⟩
theorem Ext.GP{μ aV:Ren}{h h':aP}{w b2:World}(s:cH P μ h w)(x:Ext μ h w aV h' b2){r:Nat}(o:Obj)(an:w.heap.size<=r):Ext μ h w aV h' (b2.putObj r o):=
 ⟨⟨x.le,x.eL,by have:=x.size;simpa [uo]using this,λc aa aA=>by rw[Ko (by omega)];exact x.frame c aa aA,λb l e g=>by
   have:=s.lt b l e
   rw[Ko (by omega)];exact x.ro b l e g,x.pc,x.new,x.dead,⟨x.out.1,x.out.2.1,x.out.2.2⟩⟩,x.pd⟩
theorem Lz{F:Fence}{n:Nat}{fn:Func}{tmps:Array Value}{Q:Ending->World->Prop}{d_ μ:Ren}{au h:aP}{w0:World}(c:cH P d_ au w0)
 (h_:∀b2,cH P μ h b2->Ext d_ au w0 μ h b2->∃v,(results fn tmps).run P b2=.ok v b2/\Q (.returned v) b2):
 ∀(rs:List Nat) (w:World),cH P μ h w->Ext d_ au w0 μ h w->rs.Nodup->(∀r∈rs,w0.heap.size<=r/\w.heap[r]?=I (.deferred (I []))/\∀b l,live h b->μ b=I l->l.blk≠r)->
  LeavesInM F n P fn tmps Q (rs.map λr=>{ target:=.collected r,args:=#[] }) .returning w:=by
 intro rs
 induction rs with
 |nil=>intro w s x _ _;exact h_ w s x
 |cons r rs g=>
  intro w s x aA an
  obtain⟨bt,bG,cZ⟩:=an r (by simp)
  refine⟨by simp,.inl ⟨r,_,rfl,run_takeDeferred bG,g _ (s.GP _ cZ) (x.GP c _ bt) (List.nodup_cons.1 aA).2 λdD gd=>?_⟩⟩
  obtain⟨i,j,j3⟩:=an dD (by simp [gd])
  have k:dD≠r:=λe=>(List.nodup_cons.1 aA).1 (by rw[←e];exact gd)
  exact⟨i,by rw[Ko k];exact j,j3⟩
theorem U9{f:dN}{fn:Func}{c:Code}{g:q1}{Γ:Callee}{fuel:Nat}(A:P.follows .mixedOrders=true)(ok:Aj P f fn c g)(B:iH P Γ)
 {args:List Value} {h h1:aP} {r:Value} (ad:q2 Γ fuel g args h=I (r,h1)):
 (∀(xs:Array Value) (w:World),(callFunc f xs).run P w=.ok (.enter f xs) w)/\
 ∀(μ:Ren) (w:World) (b:List Value),cH P μ h w->ct μ args b->∀(F:Fence) (n:Nat),kg F->
  pZ F n P f b.toArray w λe b2=>∃v μ1,e=.returned v/\bj μ1 r v/\cH P μ1 h1 b2/\Ext μ h w μ1 h1 b2:=by
 refine⟨λxs w=>GO ok.at_ ok.body ok.name,λμ w b s q F n t=>?_⟩
 show pZ F.plain n P f b.toArray w _
 unfold q2 at ad
 cases aA:cC args.length g.nG with
 |false=>rw[aA]at ad;cases ad
 |true=>
  rw[aA]at ad
  simp only[gq]at ad
  have br:=hz aA
  have C:=q.length
  have D:=ok.nG
  refine callsIn_of_wp_marks ok.at_ ok.body (t.1 f) ?_ rfl
  refine s0 (GM (F:=F.plain) (n:=n) (N:=fn.ntmps) (fuel:=fuel) t A B g.code c _ (xu args) h (r,h1) _ w μ ok.code ok.ok (.inl rfl) ad ⟨?_,?_⟩ s) ?_
  ·simp only[Array.size_append,Array.size_replicate,List.size_toArray]
   omega
  ·intro i
   simp only[xu]
   by_cases ag:i<args.length
   ·have l:i<b.length:=by omega
    have bE:(b.toArray++zt (fn.ntmps-b.toArray.size) undef).getD i undef=b[i]:=by
     rw[mM,Array.getElem?_append_left (by simpa using l)]
     simp [l]
    rw[bE]
    obtain⟨y,ba,an⟩:=q.get (gb ag)
    rw[gb l]at ba
    cases ba
    rw[jT,gb ag]
    exact an
   ·have bE:(b.toArray++zt (fn.ntmps-b.toArray.size) undef).getD i undef=undef:=by
     rw[mM,Array.getElem?_append_right (by simp;omega),Array.getElem?_replicate]
     split<;>rfl
    rw[bE,jT,e2 (by omega)]
    exact .undef
  ·have fin:∀{e':bJ} {h':aP} {aV:Ren} {a':Act} {b2:World},(o_ g.results e' h' λvs=>I (single vs,gc (single vs) h h'))=I (r,h1)->gF aV e' a' fn.ntmps->cH P aV h' b2->Ext μ h w aV h' b2->
    ∃v,(results fn a'.tmps).run P b2=.ok v b2/\∃v' μ1,Ending.returned v=.returned v'/\bj μ1 r v'/\cH P μ1 h1 b2/\Ext μ h w μ1 h1 b2:=by
    intro e' h' aV a' b2 j cF s1 ay
    obtain⟨vs,b_,h2,ak,aH⟩:=U6 s1 cF.rel _ _ _ _ ok.results j
    cases h2
    obtain⟨μ1,aM,bp,cl⟩:=U7 s (U8 ak) s1 ay
    refine⟨_,?_,_,μ1,rfl,aM,bp,cl⟩
    unfold results
    rw[Array.mapM_eq_mapM_toList]
    rw[er,Sem.run_map,aH _ (λ_=>rfl) (λ_ _=>rfl)]
    simp only[ga,ed]
   rintro ay u bu ⟨o,aD,hg,μ1,rfl,j,E,k,s1,ay,rs,hd,x,z⟩
   rw[fu]at hd
   cases o with
   |normal=>
    show LeavesInM _ _ _ _ _ _ u.defers .returning bu
    rw[hd]
    exact Lz s (λb2 m p=>fin j ⟨k.size,k.rel⟩ m p) rs bu s1 ay x z
   |ret=>
    show LeavesInM _ _ _ _ _ _ u.defers .returning bu
    rw[hd]
    exact Lz s (λb2 m p=>fin j ⟨k.size,k.rel⟩ m p) rs bu s1 ay x z
   |exit i=>cases j
theorem LA{e e':bJ}:∀{l:List Nat} {vs:List Value} {i:Nat},e i=e' i->fv e l vs i=fv e' l vs i
 |[],_,_,h=>h
 |p::l,vs,i,h=>by
  simp only[fv,bK]
  rw[LA h]
theorem LB{e:bJ}:∀{l:List Nat} {vs:List Value} {i:Nat},i∉l->fv e l vs i=e i
 |[],_,_,_=>rfl
 |p::l,vs,i,h=>by
  simp only[fv]
  rw[cA _ _ (λe=>h (by simp [e])),LB (λhm=>h (by simp [hm]))]
theorem LC{μ:Ren}:∀(bC:List Nat) (vs b_:List Value) (e:bJ) (tmps:Array Value),ct μ vs b_->bC.length=vs.length->bC.Nodup->(∀p∈bC,p<tmps.size)->(∀i,bj μ (e i) (tmps.getD i undef))->
 ∀i,bj μ (fv e bC vs i) (((bC.zip b_).foldl (λtmps x=>tmps.setIfInBounds x.1 x.2) tmps).getD i undef)
 |[],vs,b_,e,tmps,aw,_,_,_,an,i=>by simpa [fv]using an i
 |p::bC,[],b_,e,tmps,aw,av,_,_,an,i=>by simp at av
 |p::bC,v::vs,b_,e,tmps,aw,av,aA,ae,an,i=>by
  cases aw with
  |@cons _ y _ ys h1 h2=>
   have c:=List.nodup_cons.1 aA
   have g:p<tmps.size:=ae p (by simp)
   have k:=LC bC vs ys (bK e p v) (tmps.setIfInBounds p y) h2 (by simpa using av) c.2 (λq bs=>by rw[Array.size_setIfInBounds];exact ae q (by simp [bs])) (λj=>by
    by_cases b:j=p
    ·subst b
     rw[ov]
     simp only[mM,TA g,o2]
     exact h1
    ·rw[cA _ _ (λh=>b h.symm)]
     have:=an j
     simp only[mM]at this|-
     rw[w2 (λh=>b h.symm)]
     exact this) i
   simp only[List.zip_cons_cons,List.foldl_cons]
   have aD:fv e (p::bC) (v::vs) i=fv (bK e p v) bC vs i:=by
    simp only[fv,List.tail_cons,List.headD_cons]
    by_cases ag:i=p
    ·subst ag
     rw[ov,LB c.1,ov]
    ·rw[cA _ _ (λh=>ag h.symm)]
     exact LA (by rw[cA _ _ (λh=>ag h.symm)])
   rw[aD]
   exact k
theorem LD:∀(l:List (Nat×Value)) (tmps:Array Value),(l.foldl (λtmps x=>tmps.setIfInBounds x.1 x.2) tmps).size=tmps.size
 |[],_=>rfl
 |x::l,tmps=>by rw[List.foldl_cons,LD l,Array.size_setIfInBounds]
theorem U_{μ:Ren}{h h1:aP}{w:World}{b c K:Nat}{o:fw}{r:Value}(s:cH P μ h w)(e:μ b=I ⟨c,K⟩)(ad:endRound b o h=I (r,h1)):
 ∃v b2,(Instr.endRound c (match o with|.normal=>none|.exit i=>I (.exit i)|.ret=>I .ret)).run P w=.ok v b2/\bj μ r v/\cH P μ h1 b2/\Ext μ h w μ h1 b2:=by
 unfold endRound at ad
 split at ad
 ·rename_i c6 c4 bC g j dY ae
  obtain⟨q,k,l,rfl,bt,bG,cZ,cS,fk,m,f_,n⟩:=s.rel _ _ _ e ae (by simp)
  have p:¬k2 h b:=by rintro⟨vs,t,aE⟩;rw[ae]at aE;cases aE
  cases o with
  |normal=>
   cases ad
   obtain⟨bH,b1⟩:=s.u4 (blk':=.loop c6 c4 bC g j .ready none) (o':=.loop { l with state:=.ready,pending:=none }) e ae (by simp) p (by simp) (by simp) ⟨_,rfl,rfl,rfl,cZ,cS,fk,m,f_,n⟩
   exact⟨_,_,run_endRound none k,.bool _,bH,b1⟩
  |exit i=>
   cases ad
   obtain⟨bH,b1⟩:=s.u4 (blk':=.loop c6 c4 bC g j .done (I (.exit i))) (o':=.loop { l with state:=.done,pending:=I (.exit i) }) e ae (by simp) p (by simp) (by simp) ⟨_,rfl,rfl,rfl,cZ,cS,fk,m,f_,n⟩
   exact⟨_,_,run_endRound (I (.exit i)) k,.bool _,bH,b1⟩
  |ret=>
   cases ad
   obtain⟨bH,b1⟩:=s.u4 (blk':=.loop c6 c4 bC g j .done (I .ret)) (o':=.loop { l with state:=.done,pending:=I .ret }) e ae (by simp) p (by simp) (by simp) ⟨_,rfl,rfl,rfl,cZ,cS,fk,m,f_,n⟩
   exact⟨_,_,run_endRound (I .ret) k,.bool _,bH,b1⟩
 ·cases ad
theorem U'{Γ:Callee}{fuel:Nat}(B:P.follows .mixedOrders=true)(C:iH P Γ){b:Nat}{args:List Value}{h h1:aP}{r:Value}(ad:p3 Γ fuel (hS b 0::args) h=I (r,h1)):
 ∀(μ:Ren) (w:World) (j:List Value) (c K:Nat),cH P μ h w->ct μ args j->μ b=I ⟨c,K⟩->
  ∃fn tmps as D,(Instr.yield c j.toArray).run P w=.ok (.round c fn tmps as D) w/\∀(F:Fence) (n:Nat),kg F->
   RoundIn F n P c fn tmps as D w λe b2=>∃v μ1,e=.returned v/\bj μ1 r v/\cH P μ1 h1 b2/\Ext μ h w μ1 h1 b2:=by
 intro μ w j c K s E e
 unfold p3 hS at ad
 simp only at ad
 split at ad
 ·rename_i c6 c4 bC L M dY ae
  cases aA:cC args.length bC.length with
  |false=>rw[aA]at ad;cases ad
  |true=>
   rw[aA]at ad
   simp only[gq]at ad
   have br:=hz aA
   obtain⟨au,O,g,rfl,bt,bG,cZ,cS,fk,u,f_,Q⟩:=s.rel _ _ _ e ae (by simp)
   have G:g.params=bC.toArray:=l_ (by simpa using cZ)
   have av:=E.length
   have cY:j.toArray.size=g.params.size:=by rw[G];simp;omega
   refine⟨_,_,_,_,run_yield O cY,λF n H=>roundIn_of_wpIn (H.1 _) ?_⟩
   have bq:((g.params.zip j.toArray).foldl (λtmps (t,a)=>tmps.setIfInBounds t a) g.tmps)=((bC.zip j).foldl (λtmps x=>tmps.setIfInBounds x.1 x.2) g.tmps):=by
    rw[G]
    simp [←Array.foldl_toList]
   rw[bq]
   have J:kg (F.inRound c):=H
   have R:gF μ (fv (fv (λ_=>dI) c4 c6) bC args) { tmps:=(bC.zip j).foldl (λtmps x=>tmps.setIfInBounds x.1 x.2) g.tmps,defers:=[] } g.tmps.size:=
    ⟨LD _ _,LC bC args j _ _ E br.symm fk (λp aj=>by simpa using List.all_eq_true.1 cS p aj) Q⟩
   refine s0 (GM (F:=F.inRound c) (n:=n) (N:=g.tmps.size) (fuel:=fuel) J B C L g.assign _ _ h (r,h1) _ w μ u.1 u.2.1 (.inr u.2.2) ad R s) ?_
   rintro ay aw bu ⟨o,aD,hg,μ1,rfl,k,az,S,s1,ay,hd⟩
   cases o with
   |exit i=>cases k
   |ret=>cases k
   |normal=>
    simp only[cN]at k
    obtain⟨h2,l,k⟩:=k
    unfold beginRound at l
    split at l
    ·rename_i T U V W X Y y
     cases l
     have m:μ1 b=I ⟨c,K⟩:=(ay.eL b (s.cc b _ e)).trans e
     obtain⟨aB,Z,aa,rfl,ab,ac,j3,af,ag,al,am,an⟩:=s1.rel _ _ _ m y (by simp)
     have ao:¬k2 hg b:=by rintro⟨vs,aC,aE⟩;rw[y]at aE;cases aE
     obtain⟨bH,b1⟩:=s1.u4 (blk':=.loop T U V W X .busy Y) (o':=.loop { aa with state:=.busy }) m y (by simp) ao (by simp) (by simp) ⟨_,rfl,rfl,ac,j3,af,ag,al,am,an⟩
     refine⟨_,run_beginRound Z ab,?_⟩
     refine s0 (GM (F:=F.inRound c) (n:=n) (N:=g.tmps.size) (fuel:=fuel) J B C M g.body _ _ _ (r,h1) _ _ μ1 f_.1 f_.2.1 (.inr f_.2.2) k S bH) ?_
     rintro fZ a3 aF ⟨ap,aH,ak,q,rfl,aq,aI,aJ,kh,fZ,aK⟩
     have ar:q b=I ⟨c,K⟩:=(fZ.eL b (by have:=s1.cc b _ m;simpa using this)).trans m
     obtain⟨v,z,cE,cD,dE,fe⟩:=U_ kh ar aq
     have A:=ay.trans (b1.trans (fZ.trans fe bH.cc) s1.cc) s.cc
     cases ap with
     |normal=>exact⟨v,z,cE,v,q,rfl,cD,dE,A⟩
     |exit i=>exact⟨v,z,cE,v,q,rfl,cD,dE,A⟩
     |ret=>exact⟨v,z,cE,v,q,rfl,cD,dE,A⟩
    ·cases l
 ·cases ad
def tl(P:Program)(T:jv):Prop:=∀f b,T.get f=I b->∃fn c,Aj P f fn c b
theorem Va:tl P []:=λf b h=>by cases h
theorem b6{g:dN}{F:q1}{T:jv}{fn:Func}{c:Code}(h:Aj P g fn c F)(aO:tl P T):tl P ((g,F)::T):=by
 intro f b aC
 unfold jv.get at aC
 cases ae:cC g f with
 |true=>
  rw[ae]at aC
  cases aC
  have:=hz ae
  subst this
  exact⟨fn,c,h⟩
 |false=>rw[ae]at aC;exact aO f b aC
theorem LF{f:dN}(h:fD f dP=true):cC f dP=false:=by
 cases ae:cC f dP with
 |false=>rfl
 |true=>
  have:=hz ae
  subst this
  exact absurd h (by decide)
theorem Ak{aJ:Callee}{T:jv}(e:P.follows .mixedOrders=true)(g:tl P T)(au:iH P aJ):∀n,iH P (hW aJ T n)
 |0=>⟨λf aC args h r h1 ad=>by
   unfold hW at ad
   rw[LF aC]at ad
   simp only[lJ]at ad
   split at ad
   ·cases ad
   ·exact au.fn f aC args h r h1 ad,
  λb args h r h1 ad=>by
   unfold hW at ad
   rw[p0]at ad
   cases ad⟩
 |n+1=>⟨λf aC args h r h1 ad=>by
   unfold hW at ad
   rw[LF aC]at ad
   simp only[lJ]at ad
   split at ad
   ·rename_i F i
    obtain⟨fn,c,ok⟩:=g f F i
    exact U9 e ok (Ak e g au n) ad
   ·exact au.fn f aC args h r h1 ad,
  λb args h r h1 ad=>by
   unfold hW at ad
   rw[p0]at ad
   exact U' e (Ak e g au n) ad⟩
theorem GQ{aJ:Callee}{T:jv}{f:dN}{args:List Value}{h:aP}{r:Value×aP}(ad:run aJ T f args h=I r):∃n,hW aJ T n f args h=I r:=by
 unfold run at ad
 split at ad
 ·exact⟨_,ad⟩
 ·cases ad
theorem Vb{aJ:Callee}{T:jv}(c:P.follows .mixedOrders=true)(e:tl P T)(au:iH P aJ):iH P (run aJ T):=by
 refine⟨λf aC args h r h1 ad=>?_,λb args h r h1 ad=>?_⟩
 ·obtain⟨n,aA⟩:=GQ ad
  exact(Ak c e au n).fn f aC args h r h1 aA
 ·obtain⟨n,aA⟩:=GQ ad
  exact(Ak c e au n).yield b args h r h1 aA
end Go.bB
namespace Go.bB
def cJ{α:Type}(xs:Nat->Option α)(x:Option α):Prop:=∀r,x=I r->∃m,∀k,m<=k->xs k=I r
theorem cJ.const{α:Type}(x:Option α):cJ (λ_=>x) x:=λr h=>⟨0,λ_ _=>h⟩
theorem cJ.bind{α β:Type}{xs:Nat->Option α}{x:Option α}{ey:Nat->α->Option β}{f:α->Option β}(h:cJ xs x)(aC:∀a,cJ (λk=>ey k a) (f a)):
 cJ (λk=>(xs k).bind (ey k)) (x.bind f):=by
 intro r an
 rw[cN]at an
 obtain⟨a,ha,an⟩:=an
 obtain⟨m1,h1⟩:=h a ha
 obtain⟨m2,h2⟩:=aC a r an
 refine⟨max m1 m2,λk ad=>?_⟩
 show(xs k).bind (ey k)=I r
 rw[h1 k (by omega)]
 exact h2 k (by omega)
variable {R : Type}
theorem Vc{b:Nat->Callee}{Γ:Callee}(c:∀f args h,cJ (λk=>b k f args h) (Γ f args h))(f:Value)(args:List Value)(h:aP):cJ (λk=>og (b k) f args h) (og Γ f args h):=by
 unfold og
 split
 ·rename_i g xs ys
  cases fD g dP
  ·exact cJ.const _
  ·exact c _ _ _
 ·exact c _ _ _
 ·exact cJ.const _
theorem Vd{b:Nat->Callee}{Γ:Callee}(c:∀f args h,cJ (λk=>b k f args h) (Γ f args h))(f:Value)(args:List Value)(h:aP):cJ (λk=>rX (b k) f args h) (rX Γ f args h):=by
 unfold rX
 split
 ·rename_i g xs ys
  cases fD g dP
  ·exact cJ.const _
  ·exact c _ _ _
 ·exact cJ.const _
theorem Ve{b:Nat->Callee}{Γ:Callee}(c:∀f args h,cJ (λk=>b k f args h) (Γ f args h))(o:fE)(e:bJ)(h:aP)
 {c3:Nat->Value->aP->Option R} {k:Value->aP->Option R} (ad:∀v h,cJ (λi=>c3 i v h) (k v h)):cJ (λi=>c7 (b i) o e h (c3 i)) (c7 Γ o e h k):=by
 cases o with
 |call f args=>exact(c f _ h).bind λp=>ad _ _
 |hU f args=>
  simp only[c7]
  exact(Vc c _ _ _).bind λp=>ad _ _
 |_=>
  simp only[c7]
  first
   |exact ad _ _
   |exact(cJ.const _).bind λv=>ad _ _
   |exact cJ.const _
theorem Vf(dX:kZ)(e:bJ)(h h':aP){b:Nat->Option R}{m:Option R}(hm:cJ b m):cJ (λk=>mU dX e h h' (b k)) (mU dX e h h' m):=by
 cases dX with
 |no=>exact hm
 |calm=>
  simp only[mU,xo]
  split
  ·exact hm
  ·exact cJ.const _
 |hf bC=>
  simp only[mU]
  split
  ·exact hm
  ·exact cJ.const _
theorem Vg{g:Nat->Callee}{Γ:Callee}(j:∀f args h,cJ (λk=>g k f args h) (Γ f args h)):
 ∀(s:lL) {Ks:Nat->bJ->aP->Option R} {K:bJ->aP->Option R},(∀e h,cJ (λk=>Ks k e h) (K e h))->∀(e:bJ) (h:aP),cJ (λk=>kd (g k) s (Ks k) e h) (kd Γ s K e h):=by
 intro s
 induction s with
 |nil=>intro Ks K b e h;exact b e h
 |op dst o dX rest l=>
  intro Ks K b e h
  exact Ve j o e h λv h'=>Vf dX e h h' (l b _ _)
 |k0 dst c gK tmp body y rest m i=>
  intro Ks K b e h
  simp only[kd,zF,zG]
  split
  ·split
   ·exact m (λe' h'=>i b _ _) _ _
   ·exact i b _ _
  ·exact cJ.const _
theorem LG{e:Nat->(List Value->aP->Option R)->List Value->aP->Option R}{B:(List Value->aP->Option R)->List Value->aP->Option R}
 (jb:∀(cs:Nat->List Value->aP->Option R) (c:List Value->aP->Option R),(∀vs h,cJ (λk=>cs k vs h) (c vs h))->∀vs h,cJ (λk=>e k (cs k) vs h) (B c vs h)):
 ∀(n:Nat) (b:Nat->Nat),(∃m,∀k,m<=k->n<=b k)->∀vs h,cJ (λk=>oh (e k) (b k) vs h) (oh B n vs h)
 |0,b,g,vs,h=>by intro r an;cases an
 |n+1,b,⟨m,hm⟩,vs,h=>by
  intro r an
  obtain⟨m2,h2⟩:=jb (λk=>oh (e k) (b k-1)) (oh B n) (λvs h=>LG jb n (λk=>b k-1) ⟨m,λk ad=>by have:=hm k ad;omega⟩ vs h) vs h r an
  refine⟨max m m2,λk ad=>?_⟩
  have ak:=hm k (by omega)
  obtain⟨j,g⟩:∃j,b k=j+1:=⟨b k-1,by omega⟩
  show oh (e k) (b k) vs h=I r
  rw[g]
  have aH:e k (oh (e k) (b k-1)) vs h=I r:=h2 k (by omega)
  rw[g]at aH
  exact aH
theorem GR{t:Nat->Callee}{Γ:Callee}(u:∀f args h,cJ (λk=>t k f args h) (Γ f args h))(n:Nat):
 ∀(c:k1) {Ks:Nat->fw->bJ->aP->Option R} {K:fw->bJ->aP->Option R},(∀o e h,cJ (λk=>Ks k o e h) (K o e h))->∀(e:bJ) (h:aP),cJ (λk=>hA (t k) k c (Ks k) e h) (hA Γ n c K e h):=by
 intro c
 induction c with
 |skip=>intro Ks K j e h;exact j _ _ _
 |region d s=>intro Ks K j e h;exact Vg u s (λe h=>j _ _ _) e h
 |seq a b l m=>
  intro Ks K j e h
  refine l (λo e h=>?_) e h
  cases o with
  |normal=>exact m j e h
  |exit i=>exact j _ _ _
  |ret=>exact j _ _ _
 |cond c mod tmp a b l m=>
  intro Ks K j e h
  simp only[hA,rY,zH]
  split
  ·split
   ·refine l (λo e h=>?_) e h
    cases o with
    |normal=>exact j _ _ _
    |exit i=>exact j _ _ _
    |ret=>exact j _ _ _
   ·refine m (λo e h=>?_) e h
    cases o with
    |normal=>exact j _ _ _
    |exit i=>exact j _ _ _
    |ret=>exact j _ _ _
  ·exact cJ.const _
 |block id mod tmp c q=>
  intro Ks K j e h
  simp only[hA,rY]
  refine q (λo e h=>?_) e h
  cases o with
  |normal=>exact j _ _ _
  |exit i=>simp only[];cases cC i id<;>exact j _ _ _
  |ret=>exact j _ _ _
 |loop mod tmp c q=>
  intro Ks K j e h
  simp only[hA]
  refine LG (λcs c aa vs h=>?_) n (λk=>k) ⟨n,λk ad=>ad⟩ _ _
  refine q (λo e h=>?_) _ _
  cases o with
  |normal=>exact aa _ _
  |exit i=>exact j _ _ _
  |ret=>exact j _ _ _
 |exit i=>intro Ks K j e h;exact j _ _ _
 |ret=>intro Ks K j e h;exact j _ _ _
 |ju g c4 bC w y l m=>
  intro Ks K j e h
  simp only[hA]
  refine(Vd u _ _ _).bind λp=>(cJ.const _).bind λo=>?_
  cases o with
  |none=>exact j _ _ _
  |some x=>exact j _ _ _
theorem LH{b:Nat->Callee}{Γ:Callee}(c:∀f args h,cJ (λk=>b k f args h) (Γ f args h))(n:Nat)(args:List Value)(h:aP):cJ (λk=>p3 (b k) k args h) (p3 Γ n args h):=by
 unfold p3
 split
 ·split
  ·rename_i cd vs x c6 c4 bC g j dY ae
   cases cC vs.length bC.length with
   |false=>exact cJ.const _
   |true=>
    simp only[gq]
    refine GR c n g (λo e h1=>?_) _ _
    cases o with
    |normal=>exact(cJ.const _).bind λh2=>GR (Ks:=λ_ o _ ak=>endRound cd o ak) (K:=λo _ ak=>endRound cd o ak) c n j (λo _ ak=>cJ.const _) e h2
    |exit i=>exact cJ.const _
    |ret=>exact cJ.const _
  ·exact cJ.const _
 ·exact cJ.const _
theorem LI{b:Nat->Callee}{Γ:Callee}(c:∀f args h,cJ (λk=>b k f args h) (Γ f args h))(n:Nat)(F:q1)(args:List Value)(h:aP):cJ (λk=>q2 (b k) k F args h) (q2 Γ n F args h):=by
 simp only[q2]
 cases cC args.length F.nG with
 |false=>exact cJ.const _
 |true=>
  simp only[gq]
  refine GR c n F.code (λo e h'=>?_) _ _
  exact cJ.const _
theorem xX{aJ:Callee}{T:jv}:∀(n:Nat) (f:dN) (args:List Value) (h:aP),cJ (λk=>hW aJ T k f args h) (hW aJ T n f args h)
 |0,f,args,h=>by
  intro r an
  unfold hW at an
  cases aC:cC f dP with
  |true=>rw[aC]at an;cases an
  |false=>
   rw[aC]at an
   simp only[lJ]at an
   split at an
   ·cases an
   ·rename_i b
    refine⟨0,λk _=>?_⟩
    cases k<;>(simp only[hW,aC,lJ,b];exact an)
 |n+1,f,args,h=>by
  intro r an
  unfold hW at an
  cases aC:cC f dP with
  |true=>
   rw[aC]at an
   simp only[gq]at an
   obtain⟨m,hm⟩:=LH (xX n) n args h r an
   refine⟨m+1,λk ad=>?_⟩
   obtain⟨j,rfl⟩:∃j,k=j+1:=⟨k-1,by omega⟩
   simp only[hW,aC,gq]
   exact hm j (by omega)
  |false=>
   rw[aC]at an
   simp only[lJ]at an
   split at an
   ·rename_i F b
    obtain⟨m,hm⟩:=LI (xX n) n F args h r an
    refine⟨m+1,λk ad=>?_⟩
    obtain⟨j,rfl⟩:∃j,k=j+1:=⟨k-1,by omega⟩
    simp only[hW,aC,lJ,b]
    exact hm j (by omega)
   ·rename_i b
    refine⟨0,λk _=>?_⟩
    cases k<;>(simp only[hW,aC,lJ,b];exact an)
theorem LJ{aJ:Callee}{T:jv}{n:Nat}{f:dN}{args:List Value}{h:aP}{r:Value×aP}(ad:hW aJ T n f args h=I r):run aJ T f args h=I r:=by
 have H:∃n,(hW aJ T n f args h).isSome=true:=⟨n,by rw[ad];rfl⟩
 unfold run
 rw[dif_pos H]
 cases aa:hW aJ T (Kn H) f args h with
 |none=>have:=Classical.choose_spec H;rw[aa]at this;cases this
 |some dD=>
  obtain⟨m1,h1⟩:=xX n f args h r ad
  obtain⟨m2,h2⟩:=xX _ f args h dD aa
  have aD:=h1 (max m1 m2) (by omega)
  have aE:=h2 (max m1 m2) (by omega)
  rw[←aD,←aE]
theorem LK{aJ:Callee}{T:jv}(f:dN)(args:List Value)(h:aP):cJ (λk=>hW aJ T k f args h) (run aJ T f args h):=by
 intro r an
 obtain⟨n,aA⟩:=GQ an
 exact xX n f args h r aA
theorem Vh{aJ:Callee}{T:jv}{f:dN}{F:q1}(b:T.get f=I F)(n:Nat){args:List Value}{h:aP}{r:Value×aP}(ad:q2 (run aJ T) n F args h=I r)(aC:cC f dP=false:=by rfl):run aJ T f args h=I r:=by
 obtain⟨m,hm⟩:=LI LK n F args h r ad
 refine LJ (n:=m+1) ?_
 simp only[hW,aC,lJ,b]
 exact hm m (ca _)
theorem Vi{aJ:Callee}{T:jv}(n:Nat){args:List Value}{h:aP}{r:Value×aP}(ad:p3 (run aJ T) n args h=I r):run aJ T dP args h=I r:=by
 obtain⟨m,hm⟩:=LH LK n args h r ad
 refine LJ (n:=m+1) ?_
 simp only[hW,p0,gq]
 exact hm m (ca _)
end Go.bB
namespace Go.bB
abbrev Vj:=Option (Value×aP)
noncomputable def fin(au h:aP)(vs:List Value):Vj:=I (single vs,gc (single vs) au h)
def Al{R:Type}(o:Option fw)(a:Option R)(x:Nat->Option R)(r:Option R):Option R:=
 match o with
 |none=>a
 |some .normal=>a
 |some (.exit i)=>x i
 |some .ret=>r
theorem Vk{Γ:Callee}{n b:Nat}{c6 vs:List Value}{c4 bC:List Nat}{c g:k1}{dY:Option fw}{h:aP}(ae:h[b]?=I (.loop c6 c4 bC c g .ready dY))(av:cC vs.length bC.length=true):
 p3 Γ n (hS b 0::vs) h=hA Γ n c (λo e h1=>match o with
  |.normal=>(beginRound b h1).bind λh2=>hA Γ n g (λo _ ak=>endRound b o ak) e h2
  |_=>none) (fv (fv (λ_=>dI) c4 c6) bC vs) h:=by
 unfold p3 hS
 simp only[ae,av,gq]
 congr 1
variable {P : Program}
def kI(W:World):Ren:=λb=>if b<W.heap.size then I ⟨b,0⟩else none
open Classical in
noncomputable def Am(W:World)(v:Value):Value:=if bj (kI W) v v then v else dI
noncomputable def GS(W:World):Obj->h9
 |.cells c elem _=>.cells (c.toList.map (Am W)) elem false
 |_=>.dead
noncomputable def ki(W:World):aP:=W.heap.toList.map (GS W)
theorem Vl(W:World)(v:Value):bj (kI W) (Am W v) v:=by
 unfold Am
 split
 ·assumption
 ·exact .dI v
theorem Vm{W:World}{v:Value}(h:bj (kI W) v v):Am W v=v:=aQ h
theorem ve{W:World}{b:Nat}{l:Loc}(h:kI W b=I l):b<W.heap.size/\l=⟨b,0⟩:=by
 unfold kI at h
 split at h
 ·cases h;exact⟨by assumption,rfl⟩
 ·cases h
theorem GU(W:World)(b:Nat):(ki W)[b]?=(W.heap[b]?).map (GS W):=by
 unfold ki
 rw[ja,Array.getElem?_toList]
theorem Vn(W:World):(ki W).length=W.heap.size:=by unfold ki;simp
theorem Vo(W:World):cH P (kI W) (ki W) W where
 cc b l h:=by rw[Vn];exact(ve h).1
 rel b l blk h ae hd:=by
  obtain⟨h1,rfl⟩:=ve h
  rw[GU,de]at ae
  obtain⟨o,g,rfl⟩:=ae
  refine⟨o,g,?_⟩
  cases o with
  |cells c elem cF=>
   refine⟨c,cF,rfl,by simp,?_,(λh=>by cases h),by simp⟩
   rw[dn,List.take_length]
   refine ct.Gn (by simp) λi x y af ba=>?_
   rw[ja,ba]at af
   cases af
   exact Vl W y
  |_=>exact absurd rfl hd
 inj b bf l cB h h' e _ _:=by
  obtain⟨_,rfl⟩:=ve h
  obtain⟨_,rfl⟩:=ve h'
  exact e
 lt b l h:=by
  obtain⟨h1,rfl⟩:=ve h
  exact h1
theorem Vp{W:World}{b:Nat}(h:live (ki W) b):k2 (ki W) b:=by
 obtain⟨blk,ae,hd⟩:=h
 have e:=ae
 rw[GU,de]at e
 obtain⟨o,g,rfl⟩:=e
 cases o with
 |cells c elem cF=>exact⟨_,_,ae⟩
 |_=>exact absurd rfl hd
theorem Vq{W c:World}{aV:Ren}{h':aP}(x:Ext (kI W) (ki W) W aV h' c):RowKit.Below W.heap.size W c:=by
 refine⟨x.out.1,x.out.2.1,x.out.2.2,x.size,λk ad=>?_⟩
 by_cases av:live (ki W) k
 ·exact x.ro k ⟨k,0⟩ (by unfold kI;rw[aQ ad]) (Vp av)
 ·refine x.frame k ad λb l g e aa=>?_
  obtain⟨_,rfl⟩:=ve e
  simp only at aa
  subst aa
  exact av g
theorem Vr{Γ:Callee}(b:iH P Γ){f:dN}{args:List Value}{W:World}{r:Value}{h1:aP}(ad:Γ f args (ki W)=I (r,h1))(c:ct (kI W) args args)(aA:xr r=true)(aC:fD f dP=true:=by rfl):
 Calls P f args.toArray W λe g=>e=.returned r/\RowKit.Below W.heap.size W g:=by
 refine callsIn_wide (n:=0).1 (((b.fn f aC args _ r h1 ad).2 (kI W) W args (Vo W) c Fence.wide 0 ⟨λ_=>trivial,rfl⟩).mono ?_)
 rintro e b2 ⟨v,μ1,rfl,aw,_,af⟩
 rw[bj.zW aA aw]
 exact⟨rfl,Vq af⟩
theorem Vs{W:World}{b o:Nat}{v:Value}(h:W.cell? ⟨b,o,none⟩=I v)(aw:bj (kI W) v v):o8 (ki W) b o=I v:=by
 unfold wR at h
 unfold o8
 rw[GU]
 simp only at h
 split at h
 ·rename_i c _ _ ae
  rw[ae]
  simp only[Option.isSome_none,bg,bd]at h
  simp [GS,h,Vm aw]
 ·cases h
theorem Vt{W:World}{a:Addr}{v:Value}(h:W.cell? a=I v):a.block<W.heap.size/\a.spot=none:=by
 unfold wR at h
 split at h
 ·rename_i c _ _ ae
  refine⟨(Array.getElem?_eq_some_iff.1 ae).1,?_⟩
  split at h
  ·cases h
  ·rename_i az
   cases b:a.spot with
   |none=>rfl
   |some x=>rw[b]at az;exact absurd rfl az
 ·cases h
theorem Vu{h:aP}{b o:Nat}{vs:List Value}(aw:∀i v,vs[i]?=I v->o8 h b (o+i)=I v)(c:vs≠[]):hV h b o vs.length=I vs:=by
 unfold o8 at aw
 unfold hV
 cases ae:h[b]? with
 |none=>cases vs with
  |nil=>exact absurd rfl c
  |cons v r=>have:=aw 0 v rfl;rw[ae]at this;cases this
 |some blk=>
  cases blk with
  |cells cs t en=>
   rw[ae]at aw
   simp only at aw|-
   have av:o+vs.length<=cs.length:=by
    have e:vs.length-1<vs.length:=by cases vs with|nil=>exact absurd rfl c|cons=>simp
    have:=aw (vs.length-1) _ (gb e)
    have:=(List.getElem?_eq_some_iff.1 this).1
    omega
   rw[aQ av]
   congr 1
   refine gn λi=>?_
   rw[F1]
   split
   ·rename_i ag
    rw[oZ,aw i _ (gb ag),gb ag]
   ·rename_i ag
    rw[e2 (by omega)]
  |_=>cases vs with
   |nil=>exact absurd rfl c
   |cons v r=>have:=aw 0 v rfl;rw[ae]at this;cases this
theorem Vv{W:World}{b:Nat}(h:b<W.heap.size):kI W b=I ⟨b,0⟩:=by unfold kI;rw[aQ h]
theorem LL:o3<et:=by decide
end Go.bB
namespace Go.bB
open Go.ChangeShapes Go.WideShapes
variable {P : Program} {H : Type} {enc : aX × Value -> H}
def GV(h:aP)(x:Value)(xs:List (Int×Int)):Prop:=
 ∃a cap,x=.slice a xs.length cap/\cap<et/\∀i p,xs[i]?=I p->∃b o,a=I ⟨b,o,none⟩/\hV h b (o+i*2) 2=I [.int .i64 p.1,.int .i64 p.2]
def dr(n:Int):Prop:=-9223372036854775808<=n/\n<=9223372036854775807
theorem Vw{n:Int}(h:(Lit.int .i64 n).wf=true):dr n:=by
 simp [Lit.wf,IntKind.min,IntKind.max,wZ,w1]at h
 unfold dr
 omega
end Go.bB
namespace Go.bB
theorem wrap64{n:Int}(h:dr n):IntKind.i64.wrap n=n:=by
 unfold dr at h
 simp [IntKind.wrap,wZ,w1]
 split<;>omega
theorem eA(v:Value)(vs:List Value):w9 (v::vs) 0=v:=rfl
theorem xY(v w:Value)(vs:List Value):w9 (v::w::vs) 1=w:=rfl
theorem xZ(v w x:Value)(vs:List Value):w9 (v::w::x::vs) 2=x:=rfl
theorem An(v w x y:Value)(vs:List Value):w9 (v::w::x::y::vs) 3=y:=rfl
theorem Vx(size b o n c:Nat)(i:Nat)(h:i<n):qZ size (.slice (I ⟨b,o,none⟩) n c) (.int .i64 i)=I (hS b (o+i*size)):=by
 simp only[qZ]
 rw[aQ (by omega)]
 simp
theorem x0(n b o:Nat)(h:aP):nF false n (hS b o) h=o8 h b o:=rfl
theorem Vy{h h':aP}(aj:h <+: h'){b o n:Nat}{l:List Value}(an:hV h b o n=I l):hV h' b o n=I l:=by
 unfold hV at an|-
 split at an
 ·rename_i vs t r ae
  rw[nJ aj (List.getElem?_eq_some_iff.1 ae).1,ae]
  exact an
 ·cases an
theorem GV.mono{h h':aP}{x:Value}{xs:List (Int×Int)}(aj:h <+: h')(p:GV h x xs):GV h' x xs:=by
 obtain⟨a,cap,e,aa,c⟩:=p
 exact⟨a,cap,e,aa,λi q bs=>by obtain⟨b,o,ha,an⟩:=c i q bs;exact⟨b,o,ha,Vy aj an⟩⟩
open Go.ChangeShapes Go.WideShapes
inductive ds where
 |v (x:Value)
 |bO (rows:List (List ds))
mutual
inductive R(S:Nat->Prop)(h:aP):Value->ds->Prop
 |v {x:Value} (af:iv x=true):R S h x (.v x)
 |nil:R S h (.slice none 0 0) (.bO [])
 |fc (a:Addr) (c:Nat):R S h (.slice (I a) 0 c) (.bO [])
 |bO {b o c n:Nat} {vs:List Value} {rows:List (List ds)} (aA:n=rows.length) (ae:S b) (aa:n<=c) (an:hV h b o vs.length=I vs) (az:fy S h vs rows.flatten):R S h (.slice (I ⟨b,o,none⟩) n c) (.bO rows)
inductive fy(S:Nat->Prop)(h:aP):List Value->List ds->Prop
 |nil:fy S h [] []
 |cons {x:Value} {d:ds} {xs:List Value} {df:List ds} (af:R S h x d) (az:fy S h xs df):fy S h (x::xs) (d::df)
end
mutual
theorem R.mono{S x1:Nat->Prop}{h h':aP}(hm:∀b,S b->x1 b/\h'[b]?=h[b]?){x:Value}{d:ds}:R S h x d->R x1 h' x d
 |.v af=>.v af
 |.nil=>.nil
 |.fc a c=>.fc a c
 |.bO aA ae aa an az=>.bO aA (hm _ ae).1 aa (by unfold hV at an |-;rw[(hm _ ae).2];exact an) (fy.mono hm az)
theorem fy.mono{S x1:Nat->Prop}{h h':aP}(hm:∀b,S b->x1 b/\h'[b]?=h[b]?){xs:List Value}{df:List ds}:fy S h xs df->fy x1 h' xs df
 |.nil=>.nil
 |.cons af az=>.cons (R.mono hm af) (fy.mono hm az)
end
theorem fy.length{S:Nat->Prop}{h:aP}{xs:List Value}{df:List ds}(r:fy S h xs df):xs.length=df.length:=by
 induction xs generalizing df with
 |nil=>cases r;rfl
 |cons x xs b=>cases r with|cons _ az=>simp [b az]
theorem fy.append{S:Nat->Prop}{h:aP}{xs ys:List Value}{df c5:List ds}(r:fy S h xs df)(q:fy S h ys c5):fy S h (xs++ys) (df++c5):=by
 induction xs generalizing df with
 |nil=>cases r;exact q
 |cons x xs b=>cases r with|cons af az=>exact .cons af (b az)
theorem fy.drop{S:Nat->Prop}{h:aP}{xs:List Value}{df:List ds}(r:fy S h xs df)(n:Nat):fy S h (xs.drop n) (df.drop n):=by
 induction n generalizing xs df with
 |zero=>exact r
 |succ n b=>cases r with
  |nil=>exact .nil
  |cons af az=>exact b az
theorem fy.take{S:Nat->Prop}{h:aP}{xs:List Value}{df:List ds}(r:fy S h xs df)(n:Nat):fy S h (xs.take n) (df.take n):=by
 induction n generalizing xs df with
 |zero=>exact .nil
 |succ n b=>cases r with
  |nil=>exact .nil
  |cons af az=>exact .cons af (b az)
theorem fy.get{S:Nat->Prop}{h:aP}{xs:List Value}{df:List ds}(r:fy S h xs df){i:Nat}{d:ds}(hd:df[i]?=I d):∃x,xs[i]?=I x/\R S h x d:=by
 induction i generalizing xs df with
 |zero=>cases r with
  |nil=>cases hd
  |cons af az=>cases hd;exact⟨_,rfl,af⟩
 |succ i b=>cases r with
  |nil=>cases hd
  |cons af az=>exact b az hd
theorem fy.Gn{S:Nat->Prop}{h:aP}{xs:List Value}{df:List ds}(av:xs.length=df.length)(an:∀(i:Nat) x d,xs[i]?=I x->df[i]?=I d->R S h x d):fy S h xs df:=by
 induction xs generalizing df with
 |nil=>cases df with|nil=>exact .nil|cons=>simp at av
 |cons x xs b=>cases df with
  |nil=>simp at av
  |cons d df=>exact .cons (an 0 x d rfl rfl) (b (by simpa using av) λi x d af hd=>an (i+1) x d af hd)
theorem R.pre{S:Nat->Prop}{h h':aP}(aj:h <+: h'){x:Value}{d:ds}(r:R S h x d)(c:∀b,S b->b<h.length):R S h' x d:=
 R.mono (λb ae=>⟨ae,nJ aj (c b ae)⟩) r
theorem R.len{S:Nat->Prop}{h:aP}{x:Value}{rows:List (List ds)}(r:R S h x (.bO rows)):xa false x=I (.int .i64 rows.length):=by
 cases r with
 |nil=>rfl
 |fc=>rfl
 |bO aA=>subst aA;rfl
theorem R.isNil{S:Nat->Prop}{h:aP}{x:Value}{rows:List (List ds)}(r:R S h x (.bO rows))(neg:Bool):∃b,s7 .slice neg x=I (.bool (neg !=b))/\(b=true->x=.slice none 0 0/\rows=[]):=by
 cases r with
 |nil=>exact⟨true,rfl,λ_=>⟨rfl,rfl⟩⟩
 |fc=>exact⟨false,rfl,λh=>by cases h⟩
 |bO=>exact⟨false,rfl,λh=>by cases h⟩
theorem GW{α:Type}{rows:List (List α)}{size:Nat}(az:∀r∈rows,r.length=size):rows.flatten.length=rows.length*size:=by
 induction rows with
 |nil=>simp
 |cons r rows b=>simp [az r (by simp),b λq bs=>az q (by simp [bs]),h8,Nat.add_comm]
theorem LM{α:Type}{rows:List (List α)}{size:Nat}(az:∀r∈rows,r.length=size){i:Nat}{r:List α}(ag:rows[i]?=I r):(rows.flatten.drop (i*size)).take size=r:=by
 induction rows generalizing i with
 |nil=>cases ag
 |cons q rows b=>
  cases i with
  |zero=>
   have e:q=r:=by simpa using ag
   subst e
   have:=az q (by simp)
   rw[Nat.zero_mul,List.drop_zero,lK,←this,List.take_left]
  |succ i=>
   have bs:=az q (by simp)
   rw[lK,show(i+1)*size=q.length+i*size by rw[h8];omega,List.drop_length_add_append]
   exact b (λq bs=>az q (by simp [bs])) ag
theorem R.elem{S:Nat->Prop}{h:aP}{x:Value}{rows:List (List ds)}(r:R S h x (.bO rows)){size:Nat}(az:∀q∈rows,q.length=size)(h1:0<size){i:Nat}{q:List ds}(ag:rows[i]?=I q):
 ∃b o ws,qZ size x (.int .i64 i)=I (hS b o)/\hV h b o size=I ws/\fy S h ws q/\S b:=by
 have j:=(List.getElem?_eq_some_iff.1 ag).1
 have br:q.length=size:=az q (dH ag)
 cases r with
 |nil=>cases ag
 |fc=>cases ag
 |@bO b o c n vs rows aA ae aa an g=>
  subst aA
  have av:vs.length=rows.length*size:=by rw[g.length,GW az]
  have b0:=(g.drop (i*size)).take size
  rw[LM az ag]at b0
  refine⟨b,o+i*size,_,Vx _ _ _ _ _ _ j,?_,b0,ae⟩
  unfold hV at an|-
  split at an
  ·rename_i cs t en l
   split at an
   ·rename_i e_
    have hm:i*size+size<=rows.length*size:=by
     have:=Nat.mul_le_mul_right size (show i+1<=rows.length by omega)
     rw[h8]at this;omega
    rw[aQ (by omega)]
    have gd:=jR an
    have e:vs.drop (i*size)=(cs.drop (o+i*size)).take (vs.length-i*size):=by
     have k:(cs.drop o).take vs.length=vs:=gd
     calc vs.drop (i*size)=((cs.drop o).take vs.length).drop (i*size):=by rw[k]
      _=_:=by rw[List.drop_take,sY]
    rw[e,List.take_take,Nat.min_eq_left (by omega)]
   ·cases an
  ·cases an
theorem R.first{S:Nat->Prop}{h:aP}{x:Value}{rows:List (List ds)}(r:R S h x (.bO rows)){size:Nat}(az:∀q∈rows,q.length=size):
 ∃ws,kC size rows.length x h=I ws/\fy S h ws rows.flatten:=by
 cases r with
 |nil=>exact⟨[],rfl,.nil⟩
 |fc a c=>exact⟨[],rfl,.nil⟩
 |@bO b o c n vs rows aA ae aa an e=>
  subst aA
  by_cases au:rows.length=0
  ·have:rows=[]:=gy au
   subst this
   exact⟨[],rfl,.nil⟩
  ·refine⟨vs,?_,e⟩
   simp only[kC,ca,aZ,a1 au]
   rw[←GW az,←e.length]
   exact an
theorem R.lenOf{S:Nat->Prop}{h:aP}{x:Value}{rows:List (List ds)}(r:R S h x (.bO rows)):lenOf x=I rows.length:=by
 cases r with
 |nil=>rfl
 |fc=>rfl
 |bO aA=>subst aA;rfl
inductive gf where
 |int (k:IntKind)
 |bool
 |str
 |bO (cells:List gf)
mutual
inductive dc:gf->ds->Prop
 |int {k:IntKind} {n:Int} (b0:(Lit.int k n).wf=true):dc (.int k) (.v (.int k n))
 |bool (b:Bool):dc .bool (.v (.bool b))
 |str {s:ByteArray} (az:s.size<=o3):dc .str (.v (.string s))
 |bO {s:List gf} {rows:List (List ds)} (av:rows.length<=o3) (an:∀r∈rows,cv s r):dc (.bO s) (.bO rows)
inductive cv:List gf->List ds->Prop
 |nil:cv [] []
 |cons {s:gf} {d:ds} {fg:List gf} {df:List ds} (hd:dc s d) (az:cv fg df):cv (s::fg) (d::df)
end
theorem cv.length{fg:List gf}{df:List ds}(r:cv fg df):df.length=fg.length:=by
 induction fg generalizing df with
 |nil=>cases r;rfl
 |cons x xs b=>cases r with|cons _ az=>simp [b az]
theorem cv.append{s1 b:List gf}{df c5:List ds}(r:cv s1 df)(q:cv b c5):cv (s1++b) (df++c5):=by
 induction s1 generalizing df with
 |nil=>cases r;exact q
 |cons x xs c=>cases r with|cons af az=>exact .cons af (c az)
section
variable (P : Program)
def Ao(rec:aX->Option (List gf)):Nat->List Field->Option (List gf)
 |_,[]=>I []
 |off,f::r=>match rec f.type with
  |some s=>bif cC f.offset off&&cC s.length (P.cellsOf f.type)then(match Ao rec (off+s.length) r with|some q=>I (s++q)|none=>none)else none
  |none=>none
def x2:Nat->aX->Option (List gf)
 |0,_=>none
 |n+1,t=>match P.underlying t with
  |some .bool=>I [.bool]
  |some (.int k)=>I [.int k]
  |some .string=>I [.str]
  |some (.slice e)=>match x2 n e with
   |some s=>bif cC s.length (P.cellsOf e)&&Nat.ble 1 s.length then I [.bO s]else none
   |none=>none
  |some (.struct ey)=>match Ao P (x2 n) 0 ey.toList with
   |some s=>bif cC s.length (P.cellsOf t)then I s else none
   |none=>none
  |_=>none
end
section
variable {P : Program} {H : Type} {enc : aX × Value -> H} {W : World}
def S0(W:World):Nat->Prop:=λb=>b<W.heap.size
theorem Vz{n:Nat}{xs:List (DataW H×List MemPlace)}{cs:List Value}{rec:aX->Option (List gf)}
 (b:∀(t:aX) (cs:List Value) (x:DataW H×List MemPlace) (s:List gf),DataW.trod enc P W 0 (λ_=>true) true n t cs=I x->rec t=I s->∃df,fy (S0 W) (ki W) cs df/\cv s df/\ct (kI W) cs cs):
 ∀(ey:List Field) (off k:Nat) (s:List gf),Ao P rec off ey=I s->(∀(i:Nat) (f:Field),ey[i]?=I f->∃x,DataW.trod enc P W 0 (λ_=>true) true n f.type ((cs.drop f.offset).take (P.cellsOf f.type))=I x)->
  off+s.length=cs.length->∃df,fy (S0 W) (ki W) (cs.drop off) df/\cv s df/\ct (kI W) (cs.drop off) (cs.drop off):=by
 intro ey
 induction ey with
 |nil=>
  intro off k s az _ av
  cases az
  refine⟨[],?_,.nil,?_⟩<;>rw[List.drop_eq_nil_of_le (by simp at av;omega)]
  ·exact .nil
  ·exact .nil
 |cons f ey c=>
  intro off k s az aC av
  unfold Ao at az
  split at az
  ·rename_i s1 h1
   cases aa:(cC f.offset off&&cC s1.length (P.cellsOf f.type))with
   |false=>rw[aa]at az;cases az
   |true=>
    rw[aa]at az
    simp only[gq,dx]at az aa
    obtain⟨cR,d'⟩:=aa
    have cR:=hz cR
    have d':=hz d'
    split at az
    ·rename_i q bs
     cases az
     obtain⟨x,af⟩:=aC 0 f rfl
     rw[cR]at af
     obtain⟨d1,h,bt,v1⟩:=b _ _ _ _ af h1
     rw[List.length_append]at av
     obtain⟨j,l,bG,v2⟩:=c (off+s1.length) (k+1) q bs (λi g bE=>aC (i+1) g bE) (by omega)
     have e:cs.drop off=(cs.drop off).take (P.cellsOf f.type)++cs.drop (off+s1.length):=by
      rw[d',←sY,List.take_append_drop]
     refine⟨d1++j,?_,bt.append bG,?_⟩
     ·rw[e];exact h.append l
     ·rw[e];exact v1.append v2
    ·cases az
  ·cases az
theorem VA:∀(m n:Nat) (t:aX) (cs:List Value) (x:DataW H×List MemPlace) (s:List gf),DataW.trod enc P W 0 (λ_=>true) true n t cs=I x->x2 P m t=I s->
 ∃df,fy (S0 W) (ki W) cs df/\cv s df/\ct (kI W) cs cs:=by
 intro m
 induction m with
 |zero=>intro n t cs x s _ h;cases h
 |succ m A=>
  intro n t cs x s af az
  unfold x2 at az
  split at az
  ·rename_i aO
   cases az
   obtain⟨b,rfl,_⟩:=DataW.trod_bool aO af
   exact⟨[.v (.bool b)],.cons (.v rfl) .nil,.cons (.bool b) .nil,.cons (.bool b) .nil⟩
  ·rename_i k aO
   cases az
   obtain⟨z,rfl,_,b0⟩:=DataW.trod_int aO af
   exact⟨[.v (.int k z)],.cons (.v rfl) .nil,.cons (.int b0) .nil,.cons (.int k z) .nil⟩
  ·rename_i aO
   cases az
   obtain⟨b,rfl,_,av⟩:=DataW.trod_string aO af
   exact⟨[.v (.string b)],.cons (.v rfl) .nil,.cons (.str av) .nil,.cons (.string b) .nil⟩
  ·rename_i e aO
   split at az
   ·rename_i s1 oq
    cases aa:(cC s1.length (P.cellsOf e)&&Nat.ble 1 s1.length)with
    |false=>rw[aa]at az;cases az
    |true=>
     rw[aa]at az
     cases az
     simp only[dx]at aa
     have cR:=hz aa.1
     have d':=Nat.le_of_ble_eq_true aa.2
     rcases Deep.open_slice aO af with⟨rfl,_⟩|⟨a,len,cap,m1,n1,D,Z,rfl,_,av,ab,hm,_,J⟩
     ·exact⟨[.bO []],.cons .nil .nil,.cons (.bO (hQ _) λr an=>by cases an) .nil,.cons .mg .nil⟩
     ·simp only[aZ]at hm
      subst hm
      have q:∀i,∃p:List Value×List ds,i<m1->fy (S0 W) (ki W) p.1 p.2/\cv s1 p.2/\ct (kI W) p.1 p.1/\p.1.length=s1.length/\∀j,j<s1.length->W.cell? ((a.add (i*s1.length)).add j)=p.1[j]?:=by
       intro i
       by_cases ag:i<m1
       ·obtain⟨B,h1,h2⟩:=J i ag
        obtain⟨df,K,L,M⟩:=A _ _ _ _ _ h2 oq
        obtain⟨_,aH,aM⟩:=World.cells?_some h1
        exact⟨(B,df),λ_=>⟨K,L,M,by show B.length=_;omega,λj N=>by rw[←cR]at aM;exact aM j N⟩⟩
       ·exact⟨([],[]),λh=>absurd h ag⟩
      obtain⟨F,g⟩:=Classical.axiomOfChoice q
      have O:=LL
      have C:0<m1->∃b o,a=⟨b,o,none⟩/\b<W.heap.size:=by
       intro au
       obtain⟨_,_,_,c8,u⟩:=g 0 au
       have c:=u 0 (by omega)
       rw[gb (by omega)]at c
       obtain⟨b,o,E⟩:=a
       have Q:((⟨b,o,E⟩:Addr).add (0*s1.length)).add 0=⟨b,o,E⟩:=by simp [Addr.add]
       rw[Q]at c
       obtain⟨ae,G⟩:=Vt c
       simp only at G ae
       exact⟨b,o,by rw[G],ae⟩
      refine⟨[.bO ((fb len).map λi=>(F i).2)],.cons ?_ .nil,.cons (.bO (by simp;omega) λr an=>?_) .nil,.cons ?_ .nil⟩
      ·by_cases au:len=0
       ·subst au
        exact .fc _ _
       ·obtain⟨b,o,rfl,ae⟩:=C (by omega)
        have R:∀k,k<=len->fy (S0 W) (ki W) ((fb k).map λi=>(F i).1).flatten ((fb k).map λi=>(F i).2).flatten:=by
         intro k
         induction k with
         |zero=>intro _;exact .nil
         |succ k S=>
          intro ad
          rw[List.range_succ,ll,ll,zv,zv]
          refine(S (by omega)).append ?_
          simpa using(g k (by omega)).1
        have cY:∀r∈((fb len).map λi=>(F i).1),r.length=s1.length:=by
         intro r an
         rw[iT]at an
         obtain⟨i,ag,rfl⟩:=an
         exact(g i (by have:=List.mem_range.1 ag;omega)).2.2.2.1
        have w:=GW cY
        rw[dn,F3]at w
        refine .bO (vs:=((fb len).map λi=>(F i).1).flatten) (by simp) ae (by omega) ?_ (R len (ca _))
        refine Vu (λi v aw=>?_) ?_
        ·have ag:=(List.getElem?_eq_some_iff.1 aw).1
         rw[w]at ag
         have bs:i / s1.length<len:=(Nat.div_lt_iff_lt_mul (by omega)).2 ag
         have an:i%s1.length<s1.length:=Nat.mod_lt _ (by omega)
         have l:((fb len).map λi=>(F i).1)[i / s1.length]?=I (F (i / s1.length)).1:=by
          rw[ja,List.getElem?_range bs];rfl
         have q:=LM cY l
         have aD:(F (i / s1.length)).1[i%s1.length]?=I v:=by
          rw[←q,F1,aQ an,oZ,Nat.mul_comm (i / s1.length),Nat.div_add_mod]
          exact aw
         obtain⟨_,_,b1,c8,u⟩:=g (i / s1.length) (by omega)
         have c:=u _ an
         rw[aD]at c
         obtain⟨y,ba,T⟩:=b1.get aD
         have U:y=v:=by rw[aD]at ba;exact(jR ba).symm
         subst U
         refine Vs ?_ T
         rw[←c]
         have V:i / s1.length*s1.length+i%s1.length=i:=Nat.div_add_mod' i _
         rw[Deep.add_add,mX,V]
        ·intro X
         have:=cV List.length X
         rw[w]at this
         rcases Nat.mul_eq_zero.1 this with h|h<;>omega
      ·rw[iT]at an
       obtain⟨i,ag,rfl⟩:=an
       exact(g i (by have:=List.mem_range.1 ag;omega)).2.1
      ·by_cases Y:m1=0
       ·subst Y
        have:len=0:=by omega
        subst this
        exact .gU _ _
       ·obtain⟨b,o,rfl,ae⟩:=C (by omega)
        exact .bO (Vv ae) (.inl ⟨by omega,rfl⟩)
   ·cases az
  ·rename_i ey aO
   split at az
   ·rename_i s1 oq
    cases aa:cC s1.length (P.cellsOf t)with
    |false=>rw[aa]at az;cases az
    |true=>
     rw[aa]at az
     cases az
     have cR:=hz aa
     obtain⟨xs,k,_,_,av,ac,aC⟩:=DataW.trod_struct aO af
     have:=Vz (xs:=xs) (cs:=cs) (λt cs x s h1 h2=>A k t cs x s h1 h2) ey.toList 0 0 s oq (λi f ag=>by
      have l:ey[i]?=I f:=by simpa using ag
      have O:i<ey.size:=(Array.getElem?_eq_some_iff.1 l).1
      exact⟨_,(aC i f l).trans (gb (by omega))⟩) (by omega)
     simpa using this
   ·cases az
  ·cases az
theorem LN{t:aX}{ey:Array Field}{v:Value}{d:DataW H}{bC:List MemPlace}{m:Nat}{s:List gf}{r:Reach}{cd:Nat}(aO:P.underlying t=I (.struct ey))(az:x2 P m t=I s)(b:Value.okWide P W r cd t v)(h:DataW.Trod enc P W 0 (λ_=>true) true t v d bC):
 ∃(cs:List Value) (df:List ds),v=.agg cs.toArray/\fy (S0 W) (ki W) cs df/\cv s df/\bj (kI W) v v:=by
 obtain⟨cs,rfl,_⟩:=okWide_struct aO b
 obtain⟨n,aA⟩:=h
 obtain⟨df,c,e,g⟩:=VA m n t _ _ _ aA az
 exact⟨cs.toList,df,by simp,c,e,.agg g⟩
end
theorem VB{α:Type}{f:α->List ds}{ok:α->Prop}{rows:List (List ds)}(h:∀r∈rows,∃a,r=f a/\ok a):∃l:List α,rows=l.map f/\∀a∈l,ok a:=by
 induction rows with
 |nil=>exact⟨[],rfl,λa ha=>by cases ha⟩
 |cons r rows c=>
  obtain⟨a,rfl,ha⟩:=h r (by simp)
  obtain⟨l,rfl,av⟩:=c λq bs=>h q (by simp [bs])
  exact⟨a::l,rfl,λb ae=>by
   rcases List.mem_cons.1 ae with rfl|ae
   ·exact ha
   ·exact av b ae⟩
theorem oy{α:Type}{s:List gf}{d:ds}{f:α->List ds}{ok:α->Prop}(h:dc (.bO s) d)(bs:∀r,cv s r->∃a,r=f a/\ok a):
 ∃(l:List α),d=.bO (l.map f)/\(l.length<=o3/\∀a∈l,ok a):=by
 cases h with
 |bO av an=>
  obtain⟨l,rfl,h1⟩:=VB λr h=>bs r (an r h)
  exact⟨l,rfl,by simpa using av,h1⟩
def q8(n:Int):List ds:=[.v (.int .i64 n)]
def ph{α:Type}(ok:α->Prop)(l:List α):Prop:=l.length<=o3/\∀a∈l,ok a
theorem cv.cons_inv{s:gf}{fg:List gf}{df:List ds}(h:cv (s::fg) df):∃d r,df=d::r/\dc s d/\cv fg r:=by
 cases h with|cons h1 h2=>exact⟨_,_,rfl,h1,h2⟩
theorem cv.p'{df:List ds}(h:cv [] df):df=[]:=by cases h;rfl
theorem dc.eN{d:ds}(h:dc (.int .i64) d):∃n,d=.v (.int .i64 n)/\dr n:=by cases h with|int b0=>exact⟨_,rfl,Vw b0⟩
theorem dc.nL{d:ds}(h:dc .bool d):∃b,d=.v (.bool b):=by cases h with|bool b=>exact⟨b,rfl⟩
theorem dc.GX{d:ds}(h:dc .str d):∃s:ByteArray,d=.v (.string s)/\s.size<=o3:=by cases h with|str az=>exact⟨_,rfl,az⟩
theorem fy.cons_inv{S:Nat->Prop}{h:aP}{ws:List Value}{d:ds}{df:List ds}(r:fy S h ws (d::df)):∃x b,ws=x::b/\R S h x d/\fy S h b df:=by
 cases r with|cons h1 h2=>exact⟨_,_,rfl,h1,h2⟩
theorem fy.p'{S:Nat->Prop}{h:aP}{ws:List Value}(r:fy S h ws []):ws=[]:=by cases r;rfl
theorem GY{r:List ds}(h:cv [.int .i64] r):∃n,r=q8 n/\dr n:=by
 obtain⟨d,q,rfl,h1,h2⟩:=cv.cons_inv h
 obtain rfl:=cv.p' h2
 obtain⟨n,rfl,aA⟩:=dc.eN h1
 exact⟨n,rfl,aA⟩
theorem R.grow{S:Nat->Prop}{h h':aP}(aj:h <+: h')(c:∀b,S b->b<h.length){x:Value}{d:ds}(r:R S h x d):R S h' x d:=r.pre aj c
end Go.bB
