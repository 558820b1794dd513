import Derived.Test.YtffennknofmjoaaGreatP8
set_option linter.unusedSimpArgs false
set_option linter.unusedVariables false
set_option maxRecDepth 20000
open Array renaming length_toList → pW
open Bool renaming and_assoc → wS,and_eq_true → dx,and_true → jt,false_and → iU,false_eq_true → bg,not_false → gp,not_true → e3,or_false → rR,or_self → rS,or_true → s6,true_and → hn,true_or → nB
open ByteArray.toList renaming loop → TF
open Decidable renaming not_not → uC
open List renaming append_assoc → eo,append_nil → fu,cons_append → jQ,eq_nil_of_length_eq_zero → gy,ext_getElem? → gn,filter_append → zy,flatMap_append → uB,flatMap_cons → w8,flatMap_singleton → zz,foldl_append → F5,getD_eq_getElem?_getD → jT,getElem?_append_left → cG,getElem?_eq_getElem → gb,getElem?_eq_none → e2,getElem?_map → ja,getElem?_mapIdx → gS,getElem?_replicate → Kr,getElem?_set → F8,getElem?_set_ne → hj,getElem?_set_self → fr,getElem_mem → pX,length_append → dW,length_cons → kb,length_filter_le → TE,length_map → dn,length_mapIdx → ln,length_take → kz,map_append → ll,map_set → zx,mem_append_left → s5,mem_cons → hk,mem_of_getElem? → dH,mem_of_mem_take → od,mem_range → uu,mem_singleton → hl,nil_append → hy,not_mem_nil → iu,range → fb,replicate → du,set_cons_succ → rQ,set_cons_zero → qX,take_length → h6
open Nat renaming beq → cC,blt → fD,le_refl → ca,lt_succ_self → fs,mul_le_mul_right → o0,reduceAdd → aT,zero_le → hQ
open Option renaming bind_some → dy,getD_some → o2,map_some → dm,some → I
open Go renaming TypeId → aX,maxLen → o3
namespace Go.aN.X
open Go.bB Go.aN
attribute [local congr] nf ng nh ni oH se sf tv
def zf(h:U)(s:aK)(q:J×U):Prop:=∃b,q.1=.agg (aW b s)/\c2 h dM q.2 b s
theorem ags{h H:U}{A:aU->J}{s:aK}(own:c2 h dM H A s)(c:s.ax≠[]):∃b n,A .ax=.ref b 0 n n 2/\h.length<=b:=by
 obtain⟨b,ae,g,-⟩:=y4 (own.at (k:=.ax) rfl) (λe=>c (by
  have:(ao A s .ax).length=s.ax.length:=by simp [ao]
  rw[e]at this
  exact gy this.symm))
 exact⟨b,_,ae,g⟩
theorem Fs{h H:U}{A:aU->J}{s:aK}(own:c2 h dM H A s)(c:s.ax≠[])(cd:H[h.length]?=I (.box (aW A s) 27 .rw))(cO:H[h.length+1]?=I eu):
 ab true 13 (.ptr h.length 0) H=I (.agg (aW A s))/\∃G,a_ 13 (.ptr (h.length+1) 0) (.agg (aW A s)) H=I G/\ab true 13 (.ptr (h.length+1) 0) G=I (.agg (aW A s))/\aL [.ah] h G [.agg (aW A s)]=I (.agg (aW A s),G)/\c2 h dM G A s:=by
 have g:a_ 13 (.ptr (h.length+1) 0) (.agg (aW A s)) H=I (H.set (h.length+1) (.box (aW A s) 27 .rw)):=by
  unfold a_
  rw[show(cC (b' (J.agg (aW A s))).length 13&&fD 0 13)=true from rfl]
  simp only[gq,cO]
  show((cy _ 0 (aW A s)).map _)=_
  rw[wm own.rs];rfl
 have i:(H.set (h.length+1) (.box (aW A s) 27 .rw))[h.length+1]?=I (.box (aW A s) 27 .rw):=fr (List.getElem?_eq_some_iff.1 cO).1
 obtain⟨b,n,e,ae⟩:=ags own c
 exact⟨jl cd rfl,_,g,jl i rfl,I_ e ae,own.box cO (by omega) _⟩
theorem yw(s:aK)(cz:aU->J)(h:U)(C:fJ h cz s)(o:gw s)(w:s.ax≠[]):fa (aJ 48 [.agg (aW cz s)] h) (zf h (fK s)):=by
 obtain⟨N,X⟩:∃N:Nat,70000<N:=⟨_,fs _⟩
 refine fa.body (F:=B1) (by kernel_rfl) N ?_
 rw[Zu];unfold Nu
 obtain⟨au,g⟩:∃au,au=h++[cq.box (aW cz s) 27 .rw,eu]:=⟨_,rfl⟩
 have y:=g
 unfold eu at y
 have eY:au.length=h.length+2:=by rw[g];simp
 have D:fJ au cz s:=by rw[g];exact C.app _
 obtain⟨⟨Y,m⟩,E,A1,z,l,H⟩:=l1 s cz au D o.small w
 simp only at z l
 subst z
 have L:=l.lower (h:=h) (by omega) (λb ae=>by rw[g,cG ae])
 have p:m[h.length]?=I (.box (aW cz s) 27 .rw):=by rw[l.cF _ (by omega),g,eQ];rfl
 have cE:m[h.length+1]?=I eu:=by rw[l.cF _ (by omega),g,fP];rfl
 have M:ab true 13 (.ptr h.length 0) au=I (.agg (aW cz s)):=by rw[g];exact jl (vs:=aW cz s) (by rw[eQ];rfl) rfl
 obtain⟨c,n⟩:∃c,c=m.set h.length (.box (aW A1 s) 27 .rw):=⟨_,rfl⟩
 have O:a_ 13 (.ptr h.length 0) (.agg (aW A1 s)) m=I c:=by
  unfold a_
  rw[show(cC (b' (J.agg (aW A1 s))).length 13&&fD 0 13)=true from rfl]
  simp only[gq,p]
  show((cy (aW cz s) 0 (aW A1 s)).map _)=_
  rw[hN (vs:=aW cz s) (cs:=aW A1 s) rfl (I' l.rs),n];rfl
 have t:c2 h dM c A1 s:=by rw[n];exact L.box p (ca _) _
 have cd:c[h.length]?=I (.box (aW A1 s) 27 .rw):=by rw[n];exact fr (List.getElem?_eq_some_iff.1 p).1
 have cO:c[h.length+1]?=I eu:=by rw[n,hj (by omega)];exact cE
 have Z:=o.ai
 have P:(ao A1 s .ai).length=s.ai.length:=by simp [ao]
 have le:=fH (t.rs .ai)
 rw[P]at le
 simp only[aS,↓aF,aT,←y,M,E,O,eJ cd (iD A1 s),le]
 have Q:ns h c c A1 A1 s 0:=⟨by rw[RT];exact t,fp.refl _,λk _=>rfl,λj _=>rfl,.inl rfl,ca _⟩
 refine oS (λi G=>∃A,ns h c G A1 A s i) s.ai.length (by omega) ⟨A1,Q⟩ (λi G ag u=>?_) λG u K=>?_
 ·obtain⟨A,q⟩:=u
  obtain⟨x,aj⟩:=cQ ag
  obtain⟨cx,R,S,T⟩:=afg (N:=N) (by omega) q t cd aj (λe=>H (.key i) (by simp only[ao,aj,e];rfl)) o.small rfl
  exact⟨cx,⟨R,S⟩,T⟩
 obtain⟨A,q⟩:=u
 have aC:((s.ai.length:Int)<(s.ai.length:Int))=False:=dK (by omega)
 have B:=q.own
 rw[RU]at B
 have V:=SJ s q.top
 have W:G[h.length]?=I (.box (aW A (fK s)) 27 .rw):=by rw[V];exact q.bx _ _ _ _ cd
 have cR:G[h.length+1]?=I eu:=q.bx _ _ _ _ cO
 obtain⟨f1,F,f2,f3,f4,f5⟩:=Fs B w W cR
 unfold vH
 simp only[aS,↓aF,aT,aC,cW,bg,bd,f1,f2,f3,f4]
 exact fa.of rfl ⟨A,rfl,f5⟩
theorem agt{N:Nat}{au H:U}{A:aU->J}{s:aK}{p:eD}{to:List Int}{m i:Nat}{j:List J->U->bh}{hd:U}(own:c2 au dM H A s)(aj:s.ax[i]?=I p)(pm:db to m)(hm:m<=70000)(aa:∀c∈p.2,g_ c.inst m)(av:p.2.length<=70000)(C:H.length=hd.length){n:Nat}(ag:n<p.2.length)(K:List J->U->bh):
 yC aJ N (dj to) (.ptr hd.length 0) [.int .i64 (i:Int)] (H++[.box (aW A s) 27 .rw]) (.int .i64 p.2.length) j K [.int .i64 (n:Int)] (wr H (A (.bZ i)) 6 41 (hb to p.2 n)++[.box (aW A s) 27 .rw])=K [.int .i64 ((n+1:Nat):Int)] (wr H (A (.bZ i)) 6 41 (hb to p.2 (n+1))++[.box (aW A s) 27 .rw]):=by
 obtain⟨c,g⟩:=cQ ag
 have az:n<9223372036854775807:=by omega
 have dp:ao A s (.bZ i)=p.2.map Cell.cs:=by simp only[ao,aj]
 have o:cU H au.length 6 41 (A (.bZ i)) (p.2.map Cell.cs):=by rw[←dp];exact own.at (k:=.bZ i) rfl
 have q:=jj o (rows':=hb to p.2 n) (by rw[R2,dn])
 have h:cU (wr H (A (.bZ i)) 6 41 (hb to p.2 n)++[.box (aW A s) 27 .rw]) au.length 6 41 (A (.bZ i)) (hb to p.2 n):=ji q λb _ ae=>cG ae
 have u:=qH (A:=A) aj
 have op:cU H au.length 2 39 (A .ax) (ao A s .ax):=own.at (k:=.ax) rfl
 have w:dG (wr H (A (.bZ i)) 6 41 (hb to p.2 n)++[.box (aW A s) 27 .rw]) 2 (A .ax) (ao A s .ax):=by
  refine pO (fl op) λb ae D=>?_
  rw[cG (by rw[eI];exact D),pP]
  intro e
  have:=own.new.inj _ _ _ ae e
  cases this
 have E:(wr H (A (.bZ i)) 6 41 (hb to p.2 n)).length=hd.length:=by rw[eI,C]
 have aD:ab false 1 (.ptr hd.length 10) (wr H (A (.bZ i)) 6 41 (hb to p.2 n)++[.box (aW A s) 27 .rw])=I (A .ax):=eJ (by rw[←E,eQ];rfl) (kR A s)
 have aE:bW 2 (A .ax) (.int .i64 (i:Int))=I (c' (A .ax) (e7 p (A (.bZ i))) i 0):=eW w .i64 u
 have y:ab false 1 (c' (A .ax) (e7 p (A (.bZ i))) i 1) (wr H (A (.bZ i)) 6 41 (hb to p.2 n)++[.box (aW A s) 27 .rw])=I (A (.bZ i)):=(e0 w u _ _ _).trans (qI _ _)
 have z:=eW (fl h) .i64 (tX g)
 have B:ab false 1 (c' (A (.bZ i)) c.cs n 1) (wr H (A (.bZ i)) 6 41 (hb to p.2 n)++[.box (aW A s) 27 .rw])=I (.int .i64 c.inst):=(e0 (fl h) (tX g) _ _ _).trans (wz c)
 unfold yC
 rcases aa c (dH g)with pb|F
 ·have l:(c.inst !=0)=false:=by rw[pb];rfl
  have G:hb to p.2 (n+1)=hb to p.2 n:=by
   rw[Jg g]
   have:({ c with inst:=ku c.inst to }:Cell)=c:=by
    have:ku c.inst to=c.inst:=by unfold ku;rw[aQ pb,pb]
    rw[this]
   rw[this]
   exact Fa (tX g)
  rw[G]
  simp only[aS,↓aF,aT,cL ag,cm,aZ,aD,aE,iO,y,z,wj,B,l,bg,bd,cI az]
  exact cV (K _) (hr _ (by simp [eI]))
 ·have l:(c.inst !=0)=true:=by rw[kX];omega
  obtain⟨t,aO,L,e⟩:=pm.te F
  have bu:IntKind.i64.wrap (c.inst-1)=(((c.inst-1).toNat:Nat):Int):=by rw[wrap64 (by unfold dr;omega)];omega
  have cP:IntKind.i64.wrap (1+(t:Int))=ku c.inst to:=by rw[wrap64 (by unfold dr;omega),e,Int.add_comm]
  have st:=ig h (tX g) (n:=1) (x:=.int .i64 (ku c.inst to)) (f:=1) rfl (by decide) (R5 c _)
  rw[oV q,k_,←Jg g]at st
  simp only[aS,↓aF,aT,cL ag,cm,aZ,aD,aE,iO,y,z,wj,B,l,bu,pR .i64 L,lf,cP,st,cI az]
  exact cV (K _) (hr _ (by simp [eI]))
theorem SL{s:aK}{A:aU->J}{au h:U}{m:Nat}{to:List Int}(own:c2 au dM h A s)(pm:db to m)(hm:m<=70000)(aa:∀p∈s.ax,∀c∈p.2,g_ c.inst m)(t:gw s):fa (aJ 100 [.agg (aW A s),dj to] h) (R8 au h A (kT s to)):=by
 obtain⟨N,L⟩:∃N:Nat,70000<N:=⟨_,fs _⟩
 refine fa.body (F:=CU) (by kernel_rfl) N ?_
 rw[abu];unfold Ob
 have M:=t.ax
 have y:(ao A s .ax).length=s.ax.length:=by simp [ao]
 have le:=fH (own.rs .ax)
 rw[y]at le
 have O:∀i,aW A (l4 s to i)=aW A s:=λi=>rfl
 simp only[aS,↓aF,aT,kR,le]
 have z:sJ au h h A s to 0:=⟨by rw[RX];exact own,fp.refl _,rfl,λb _=>.inl rfl⟩
 refine oS (λi G=>∃H,G=H++[.box (aW A s) 27 .rw]/\sJ au h H A s to i) s.ax.length (by omega) ⟨h,rfl,z⟩ (λi G ag e=>?_) λG e K=>?_
 ·obtain⟨H,rfl,q⟩:=e
  obtain⟨p,aj⟩:=cQ ag
  have l:(l4 s to i).ax[i]?=I p:=by rw[wy aj,a1 (by omega)]
  have B:=t.bZ p (dH aj)
  refine⟨_,⟨_,rfl,q.next aj⟩,λK=>?_⟩
  have dp:ao A (l4 s to i) (.bZ i)=p.2.map Cell.cs:=by simp only[ao,l]
  have o:cU H au.length 6 41 (A (.bZ i)) (p.2.map Cell.cs):=by rw[←dp];exact q.own.at (k:=.bZ i) rfl
  have rs:=q.own.rs.app [.box (aW A s) 27 .rw]
  have u:=qH (A:=A) l
  have aD:ab false 1 (.ptr h.length 10) (H++[.box (aW A s) 27 .rw])=I (A .ax):=eJ (by rw[←q.len,eQ];rfl) (kR A s)
  have aE:bW 2 (A .ax) (.int .i64 (i:Int))=I (c' (A .ax) (e7 p (A (.bZ i))) i 0):=eW (rs .ax) .i64 u
  have C:ab false 1 (c' (A .ax) (e7 p (A (.bZ i))) i 1) (H++[.box (aW A s) 27 .rw])=I (A (.bZ i)):=(e0 (rs .ax) u _ _ _).trans (qI _ _)
  have w:=fH (rs (.bZ i))
  rw[dp,dn]at w
  have az:i<9223372036854775807:=by omega
  have D:∀jj,cr (yC aJ N (dj to) (.ptr h.length 0) [.int .i64 (i:Int)] (H++[.box (aW A s) 27 .rw]) (.int .i64 p.2.length) jj) N [.int .i64 0] (H++[.box (aW A s) 27 .rw])=jj [] (wr H (A (.bZ i)) 6 41 ((jG to p).2.map Cell.cs)++[.box (aW A s) 27 .rw]):=λjj=>by
   refine hq (λn=>[.int .i64 (n:Int)]) (λn=>wr H (A (.bZ i)) 6 41 (hb to p.2 n)++[.box (aW A s) 27 .rw]) p.2.length (by omega) rfl (by rw[R3,rC o]) (λn aA K=>?_) λK=>?_
   ·have h':=agt (N:=N) (j:=jj) (hd:=h) q.own l pm hm (aa p (dH aj)) B q.len aA K
    exact h'
   ·have aC:((p.2.length:Int)<(p.2.length:Int))=False:=dK (by omega)
    unfold yC
    simp only[aS,↓aF,aT,aC,cW,bg,bd]
    rw[R4]
  unfold Ih
  simp only[aS,↓aF,aT,cL ag,cm,aZ,aD,aE,iO,C,w,D,cI az]
  exact cV (K _) (hr _ (by simp [eI,q.len]))
 obtain⟨H,rfl,q⟩:=e
 have aC:((s.ax.length:Int)<(s.ax.length:Int))=False:=dK (by omega)
 have E:=rI (g:=h) (g':=H) (rest:=[.box (aW A s) 27 .rw]) (r:=[]) q.len (by simp) q.sK
 unfold Ih
 simp only[aS,↓aF,aT,aC,cW,bg,bd,rH,E]
 have x:=q.own
 rw[RY]at x
 exact fa.of rfl ⟨rfl,x,q.bx,q.len,q.sK⟩
theorem agu(n:Nat)(aA:n<=70000)(h:U):aJ 58 [.int .i64 n] h=I (dj (dz n),h):=by
 obtain⟨N,e⟩:∃N:Nat,70000<N:=⟨_,fs _⟩
 refine cg (F:=Ce) (by kernel_rfl) N ?_
 rw[ZC];unfold NC
 have av:(dz n).length=n:=by simp [dz]
 simp only[aS,↓aF,aT]
 refine hq (λi=>[.ref h.length 0 i i 1,.int .i64 (i:Int)]) (λi=>h++[.log ((dz i).map bA) 1 3 .rw]) n (by omega) rfl rfl (λi ag K=>?_) λK=>?_
 ·have b:((i:Int)<(n:Int))=True:=jU (by omega)
  have c:∀a,([J.int .i64 a]:List J).all dd=true:=λa=>rfl
  unfold H9
  simp only[aS,↓aF,aT,lh,b,cm,aZ,pL,pM,kn,pN,SK (sz:=1) (ER i).symm (by decide) (c _) (show i<da by unfold da;omega),cI (show i<9223372036854775807 by omega)]
  rw[hr _ (by simp),QR]
 ·have aC:((n:Int)<(n:Int))=False:=dK (by omega)
  unfold H9
  simp only[aS,↓aF,aT,lh,aC,cW,bg,bd]
  exact JB av
theorem agv{G:U}{R R':List (List J)}(aj:R'.flatten.all dd=true)(hm:R.length+R'.length<=da):ek 3 1 (bQ G.length 1 R) (.bz 1 R') (G++cj 1 3 R)=I (bQ G.length 1 (R++R'),G++cj 1 3 (R++R')):=by
 by_cases bq:R.length=0
 ·have:R=[]:=gy bq
  subst this
  have aD:bQ G.length 1 ([]:List (List J))=.emp:=rfl
  have aE:cj 1 3 ([]:List (List J))=[]:=rfl
  rw[aD,aE,fu,hy]
  exact k' (by simp [kk]) (by decide) aj (by simpa using hm)
 ·have aD:bQ G.length 1 R=.ref G.length 0 R.length R.length 1:=by unfold bQ;rw[a1 bq]
  have aE:cj 1 3 R=[.log R 1 3 .rw]:=by unfold cj;rw[a1 bq]
  have b:bQ G.length 1 (R++R')=.ref G.length 0 (R.length+R'.length) (R.length+R'.length) 1:=by unfold bQ;rw[a1 (by rw[dW];omega),dW]
  have c:cj 1 3 (R++R')=[.log (R++R') 1 3 .rw]:=by unfold cj;rw[a1 (by rw[dW];omega)]
  rw[aD,aE,b,c]
  unfold ek
  have an:kk 1 (.bz 1 R') (G++[.log R 1 3 .rw])=I R':=by simp [kk]
  rw[an,dy]
  unfold ra
  rw[aQ ⟨by omega,by decide,aj⟩]
  simp only[eQ,List.getElem?_cons_zero]
  rw[aQ ⟨trivial,trivial,trivial,trivial,trivial,trivial,hm⟩,pt]
  rfl
def jr(n i:Nat):List Int:=(fb n).map λj=>if j<i then -1 else 0
theorem agw(n i:Nat):(jr n i).length=n:=by simp [jr]
theorem zg{n i j:Nat}(h:j<n):(jr n i)[j]?=I (if j<i then -1 else 0):=by simp [jr,h]
theorem agx(n:Nat):(jr n 0).map bA=du n [.int .i64 0]:=by
 refine gn λj=>?_
 by_cases h:j<n
 ·rw[nu (zg h),Kr,aQ h,a1 (by omega)];rfl
 ·rw[e2 (by simp [jr];omega),e2 (by simp;omega)]
theorem agy(n:Nat):jr n n=du n (-1):=by
 refine gn λj=>?_
 by_cases h:j<n
 ·rw[zg h,Kr,aQ h,aQ h]
 ·rw[e2 (by simp [jr];omega),e2 (by simp;omega)]
theorem agz{n i:Nat}(h:i<n):(jr n (i+1)).map bA=((jr n i).map bA).set i (bA (-1)):=by
 rw[←zx]
 congr 1
 refine gn λj=>?_
 by_cases b:j<n
 ·rw[zg b,F8,zg b,agw]
  by_cases e:i=j
  ·subst e;rw[aQ (by omega),aQ rfl,aQ h]
  ·rw[a1 e]
   by_cases aE:j<i
   ·rw[aQ aE,aQ (by omega)]
   ·rw[a1 aE,a1 (by omega)]
 ·rw[e2 (by simp [jr];omega),e2 (by simp [jr];omega)]
theorem l7(v w:J):aI [v,w] 0=v:=b9 rfl
theorem vB{h:U}{n:Nat}{l:List Int}(aA:n<=70000)(av:l.length<=10000000)(D:∀x∈l,l5 n x):aJ 51 [.int .i64 n,dj l] h=I (dj (fN l n),h):=by
 obtain⟨N,Y,Z⟩:∃N:Nat,70000<N/\20000000<N:=⟨20000001,by decide,by decide⟩
 refine cg (F:=B8) (by kernel_rfl) N ?_
 rw[Zw];unfold Nw
 have E:([J.int .i64 0]:List J).length=1:=rfl
 have j_:∀(b m:Nat),bw false (.ref b 0 m m 1)=I (.int .i64 (m:Int)):=λb m=>rfl
 simp only[aS,↓aF,aT,vx (show n<=da by unfold da;omega),E,j_]
 rw[←agx]
 refine hq (λi=>[.int .i64 (i:Int)]) (λi=>h++[.log ((jr n i).map bA) 1 3 .rw]) n (by omega) rfl rfl (λi ag K=>?_) λK=>?_
 ·have bE:=nu (zg (i:=i) ag)
  have o:cU (h++[.log ((jr n i).map bA) 1 3 .rw]) 0 1 3 (.ref h.length 0 n n 1) ((jr n i).map bA):=.ref _ _ _ (hQ _) (by rw[eQ];rfl) (by simp [jr])
  have aD:=eW (fl o) .i64 bE
  have st:=ig o bE (n:=1) (x:=.int .i64 (-1)) (f:=0) rfl (by decide) (y5 _ _)
  have p:wr (h++[.log ((jr n i).map bA) 1 3 .rw]) (.ref h.length 0 n n 1) 1 3 (((jr n i).map bA).set i (bA (-1)))=h++[.log ((jr n (i+1)).map bA) 1 3 .rw]:=by
   show(h++_).set h.length _=_
   rw[pt,agz ag];rfl
  rw[p]at st
  unfold H6
  simp only[aS,↓aF,aT,cL ag,cm,aZ,aD,st,cI (show i<9223372036854775807 by omega)]
  rw[hr _ (by simp)]
 ·have aC:((n:Int)<(n:Int))=False:=dK (by omega)
  have aj:(((dz n).map bA).flatten).all dd=true:=EY λr an=>by obtain⟨z,_,rfl⟩:=List.mem_map.1 an;rfl
  have L:((l.map bA).flatten).all dd=true:=EY λr an=>by obtain⟨z,_,rfl⟩:=List.mem_map.1 an;rfl
  have ol:(dz n).length=n:=by simp [dz]
  have O:∀H:U,aJ 35 [dj l] H=I (bQ H.length 1 (l.map bA),H++cj 1 3 (l.map bA)):=λH=>vM (.bz _) L (by rw[dn];unfold da;omega)
  have P:=λH=>agu n aA H
  obtain⟨G,j⟩:∃G,G=h++[cq.log ((jr n n).map bA) 1 3 .rw]:=⟨_,rfl⟩
  have ap:ek 3 1 (bQ G.length 1 (l.map bA)) (dj (dz n)) (G++cj 1 3 (l.map bA))=I (bQ G.length 1 ((l++dz n).map bA),G++cj 1 3 ((l++dz n).map bA)):=by
   have:=agv (G:=G) (R:=l.map bA) (R':=(dz n).map bA) aj (by rw[dn,dn,ol];unfold da;omega)
   rw[←ll]at this
   exact this
  have Q:(l++dz n).length=l.length+n:=by rw[dW,ol]
  have q:∀x∈l++dz n,0<=x/\x<(n:Int):=λx af=>by
   rcases List.mem_append.1 af with af|af
   ·exact D x af
   ·exact wG x af
  rw[←j]
  unfold H6
  simp only[aS,↓aF,aT,aC,cW,bg,bd,O,P,ap,wk,dn]
  obtain⟨M,u⟩:∃M,M=cj 1 3 ((l++dz n).map bA):=⟨_,rfl⟩
  have w:∀T:List Int,dG (h++.log (T.map bA) 1 3 .rw::M) 1 (bQ G.length 1 ((l++dz n).map bA)) ((l++dz n).map bA):=λT=>by
   unfold bQ
   split
   ·rename_i e
    rw[gy e];exact .emp
   ·rename_i e
    refine .ref _ _ 3 .rw _ ?_ rfl
    rw[j,u]
    unfold cj
    rw[a1 e,show(h++[cq.log ((jr n n).map bA) 1 3 .rw]).length=h.length+1 by simp,fP];rfl
  rw[j,←u]
  refine hq (λi=>[.int .i64 (dp n ((l++dz n).take i)).2,.int .i64 (i:Int)]) (λi=>h++.log ((dp n ((l++dz n).take i)).1.map bA) 1 3 .rw::M) (l++dz n).length (by omega) rfl (by
   rw[List.take_zero,agy]
   simp only[eo,jQ,hy];rfl) (λi ag K=>?_) λK=>?_
  ·obtain⟨x,af⟩:=cQ ag
   have S:(l++dz n).take (i+1)=(l++dz n).take i++[x]:=py af
   obtain⟨aa,ac⟩:=q x (dH af)
   have V:∀y∈(l++dz n).take i,0<=y/\y<(n:Int):=λy ba=>q y (od ba)
   obtain⟨h1,h2,ak⟩:=y' V
   rw[S,t_]
   obtain⟨st,W⟩:∃st,st=dp n ((l++dz n).take i):=⟨_,rfl⟩
   rw[←W]at h1 h2 ak|-
   obtain⟨T,g⟩:=st
   simp only at h1 h2 ak
   obtain⟨c,rfl⟩:∃c:Nat,x=(c:Int):=⟨x.toNat,by omega⟩
   obtain⟨y,ba⟩:=cQ (show c<T.length by omega)
   have az:i<9223372036854775807:=by rw[Q]at ag;omega
   have aD:=eW (w T) .i64 (nu af)
   have aE:ab false 1 (c' (bQ G.length 1 ((l++dz n).map bA)) (bA (c:Int)) i 0) (h++.log (T.map bA) 1 3 .rw::M)=I (.int .i64 (c:Int)):=(e0 (w T) (nu af) _ _ _).trans (lf _)
   have A:bW 1 (.ref h.length 0 n n 1) (.int .i64 (c:Int))=I (c' (.ref h.length 0 n n 1) (bA y) c 0):=eW (Fh (h:=h) (l:=M) (t:=3) (md:=.rw) h1) .i64 (nu ba)
   have B:ab false 1 (c' (.ref h.length 0 n n 1) (bA y) c 0) (h++.log (T.map bA) 1 3 .rw::M)=I (.int .i64 y):=(e0 (Fh h1) (nu ba) _ _ _).trans (lf y)
   have ck:rK (T,g) (c:Int)=if y<0 then(T.set c g,g+1)else(T,g):=by
    unfold rK
    simp only[Int.toNat_natCast,jT,ba,o2]
   have ad:((h++[cq.log ((jr n n).map bA) 1 3 .rw])++M)=h++.log ((jr n n).map bA) 1 3 .rw::M:=by simp
   rw[ck]
   by_cases k:y<0
   ·have o:cU (h++.log (T.map bA) 1 3 .rw::M) 0 1 3 (.ref h.length 0 n n 1) (T.map bA):=.ref _ _ _ (hQ _) (by rw[eQ];rfl) (by simp [h1])
    have C:=ig o (nu ba) (n:=1) (x:=.int .i64 g) (f:=0) rfl (by decide) (y5 _ _)
    have p:wr (h++.log (T.map bA) 1 3 .rw::M) (.ref h.length 0 n n 1) 1 3 ((T.map bA).set c (bA g))=h++.log ((T.set c g).map bA) 1 3 .rw::M:=by
     show(h++_).set h.length _=_
     rw[pt,zx];rfl
    rw[p]at C
    have b0:IntKind.i64.wrap (g+1)=g+1:=wrap64 (by unfold dr;omega)
    have jw:(y<0)=True:=jU k
    rw[aQ k]
    unfold B9
    simp only[aS,↓aF,aT,l7,lh,cL ag,cm,aZ,←j,aD,aE,A,B,jw,C,b0,cI az]
    rw[hr _ (by rw[j];simp)]
   ·have jw:(y<0)=False:=dK k
    rw[a1 k]
    unfold B9
    simp only[aS,↓aF,aT,l7,lh,cL ag,cm,aZ,←j,aD,aE,A,B,jw,cW,bg,bd,cI az]
    rw[hr _ (by rw[j];simp)]
  ·have X:(((l++dz n).length:Int)<((l++dz n).length:Int))=False:=dK (by omega)
   obtain⟨h1,_,_⟩:=y' q
   unfold B9
   simp only[aS,↓aF,aT,l7,lh,X,cW,bg,bd,h6,JB h1]
   rfl
theorem agA{n:Nat}{L:List Int}(h:∀x∈L,0<=x/\x<(n:Int)){x:Int}(af:x∈L):dp n (L++[x])=dp n L:=by
 obtain⟨os,h1,h2,ak,aH,aM⟩:=JA n L h
 have b:=aM x af
 have c:=h x af
 rw[t_]
 unfold rK
 rw[aH,jT,wF (by omega),aQ b]
 simp only[o2]
 rw[a1 (by omega)]
theorem agB{n:Nat}:∀l:List Int,(∀o∈l,mark o=false->0<=o/\o<(n:Int))->dp n (dL l)=dp n (l.filter λo=>!mark o):=by
 intro l
 refine Fe (P:=λl:List Int=>(∀o∈l,mark o=false->0<=o/\o<(n:Int))->dp n (dL l)=dp n (l.filter λo=>!mark o)) (λ_=>rfl) (λl o b h=>?_) l
 have b:=b λx af=>h x (s5 _ af)
 rw[y8,zy]
 unfold tZ
 by_cases hm:mark o=true
 ·rw[hm,nB,aQ rfl,b]
  have:List.filter (λo=>!mark o) [o]=[]:=by simp [hm]
  rw[this,fu]
 ·have c:mark o=false:=by simpa using hm
  have aC:List.filter (λo=>!mark o) [o]=[o]:=by simp [c]
  have e:∀x∈l.filter (λo=>!mark o),0<=x/\x<(n:Int):=λx af=>by
   obtain⟨h1,h2⟩:=List.mem_filter.1 af
   exact h x (s5 _ h1) (by simpa using h2)
  rw[c,Bool.false_or,aC]
  by_cases aa:(dL l).contains o=true
  ·rw[aQ aa,b,agA e]
   have:=(Ff l o).1 (by simpa using aa)
   exact List.mem_filter.2 ⟨this.1,by simp [c]⟩
  ·rw[a1 aa,t_,t_,b]
theorem agC{n:Nat}{l:List Int}(h:∀o∈l,mark o=false->0<=o/\o<(n:Int)):fN (dL l) n=fN (l.filter λo=>!mark o) n:=by
 have:=agB l h
 unfold fN dp at*
 rw[F5,F5,this]
def eP(l:List Int):List Int:=(l.filter λx=>x !=0).map λx=>x-1
theorem Ft(a b:List Int):eP (a++b)=eP a++eP b:=by unfold eP;rw[zy,ll]
theorem SM{l:List Int}(h:∀x∈l,0<=x):eP l=fU l:=by
 unfold eP fU
 congr 1
 refine List.filter_congr λx af=>?_
 have:=h x af
 by_cases e:x=0
 ·subst e;rfl
 ·have aD:(x !=0)=true:=bne_iff_ne.2 e
  rw[aD,uz (by omega)]
def ci(p:eD):List Int:=p.2.map λc=>c.inst
theorem agD(l:List Int):fU (l.filter λx=>decide (x>0))=fU l:=by
 unfold fU
 rw[List.filter_filter];simp
theorem agE{α:Type}(l:List α)(f:α->List Int):fU (l.flatMap f)=l.flatMap λa=>fU (f a):=by
 induction l with
 |nil=>rfl
 |cons a l b=>rw[w8,w8,za,b]
theorem agF{α:Type}(l:List α)(f:α->List Int):eP (l.flatMap f)=l.flatMap λa=>eP (f a):=by
 induction l with
 |nil=>rfl
 |cons a l b=>rw[w8,w8,Ft,b]
theorem agG{α β:Type}(l:List α)(d:α)(f:α->List β):(dz l.length).flatMap (λi=>f (l.getD i.toNat d))=l.flatMap f:=by
 have e:(fb l.length).map (λi=>l.getD i d)=l:=gn λi=>by
  by_cases h:i<l.length
  ·rw[ja,List.getElem?_range h,dm,jT,gb h];rfl
  ·rw[e2 (by simp;omega),e2 (by omega)]
 calc _=((fb l.length).map (λi=>l.getD i d)).flatMap f:=by unfold dz;rw[List.flatMap_map,List.flatMap_map];rfl
  _=l.flatMap f:=by rw[e]
theorem SN{α β:Type}{f g:α->List β}:∀{l:List α},(∀a∈l,f a=g a)->l.flatMap f=l.flatMap g
 |[],_=>rfl
 |a::l,h=>by rw[w8,w8,h a (by simp),SN λb ae=>h b (List.mem_cons_of_mem _ ae)]
theorem agH{s:aK}(b:hx s):l6 s=eP (s.ax.flatMap ci):=by
 unfold l6 jJ
 rw[agG s.ax (0,[]) λp=>jI p.2,agE,agF]
 refine SN λp aj=>?_
 unfold jI
 rw[agD,SM];rfl
 intro x af
 obtain⟨c,aa,rfl⟩:=List.mem_map.1 af
 have:=b.qM p aj c aa
 unfold g_ at this;omega
theorem SO{s:aK}(b:hx s):fU (s.ai.flatMap hi)=eP (s.ai.flatMap hi):=(SM λx af=>by
 have:=Fp b x af
 unfold g_ at this;omega).symm
def oa(s:aK):Prop:=∀x∈s.ai,x.keys.length>0
theorem oa.SP{s:aK}(h:oa s):fK s=s:=by
 unfold fK
 have:(s.ai.mapIdx λj x=>jF s j x)=s.ai:=by
  apply gn
  intro j
  rw[gS]
  cases e:s.ai[j]? with
  |none=>rfl
  |some x=>
   rw[dm]
   unfold jF
   rw[aQ (h x (dH e))]
 rw[this]
theorem agI(s:aK):oa (fK s):=λx af=>by
 obtain⟨i,ag,rfl⟩:=List.mem_mapIdx.1 (show x∈s.ai.mapIdx _ from af)
 unfold jF
 split
 ·assumption
 ·show(gv _ 120).length>0
  rw[Ja];decide
theorem oa.hC{s:aK}(h:oa s)(to:List Int):oa (Go.aN.X.hC s to):=h
theorem oa.jo{s:aK}(h:oa s){to:List Int}(p:db to s.ai.length):oa (Go.aN.X.jo s to):=λx af=>h x (pS p af)
theorem JQ(A:aU->J)(s:aK)(h:U):aJ 52 [.agg (aW A s)] h=I (.bool (eZ s.cb 6),h):=by
 refine cg (F:=yA) (by kernel_rfl) 1 ?_
 rw[NY];unfold H8
 have bq:=wa s.cb (vs:=eR) rfl
 simp only[aS,↓aF,aT,Sj,yF,lZ,l0,tR,bq,yL,dw]
def gm(to:List Int)(rows:List (List J))(i:Nat):List (List J):=(fb rows.length).map λj=>if ev to j<i then rows.getD (ev to j) []else rows.getD j []
theorem qN(to:List Int)(rows:List (List J))(i:Nat):(gm to rows i).length=rows.length:=by simp [gm]
theorem JR{to:List Int}{rows:List (List J)}{i j:Nat}(h:j<rows.length):(gm to rows i)[j]?=I (if ev to j<i then rows.getD (ev to j) []else rows.getD j []):=by simp [gm,h]
theorem JS(to:List Int)(rows:List (List J)):gm to rows 0=rows:=by
 refine gn λj=>?_
 by_cases h:j<rows.length
 ·rw[JR h,a1 (by omega),jT,gb h];rfl
 ·rw[e2 (by rw[qN];omega),e2 (by omega)]
theorem JT{to:List Int}{rows:List (List J)}{row:List J}{i t:Nat}(p:db to rows.length)(ag:rows[i]?=I row)(aO:t<rows.length)(az:ev to t=i):gm to rows (i+1)=(gm to rows i).set t row:=by
 refine gn λj=>?_
 by_cases h:j<rows.length
 ·rw[JR h,F8,JR h]
  by_cases e:t=j
  ·subst e
   rw[aQ (show ev to t<i+1 by omega),aQ rfl,aQ (by rw[qN];exact h),az,jT,ag];rfl
  ·rw[a1 e]
   have:ev to j≠i:=λaE=>e (p.inj aO h (by rw[az,aE]))
   by_cases b:ev to j<i
   ·rw[aQ b,aQ (by omega)]
   ·rw[a1 b,a1 (by omega)]
 ·rw[e2 (by rw[qN];omega),e2 (by rw[List.length_set,qN];omega)]
theorem JU{to:List Int}{rows:List (List J)}{z:List J}(p:db to rows.length):gm to rows rows.length=eE z rows to:=by
 unfold gm eE
 refine List.map_congr_left λj b=>?_
 rw[uu]at b
 have:=p.ev j b
 rw[aQ this,jT,jT,gb this];rfl
theorem JV{rows:List (List J)}{to:List Int}(p:db to rows.length){i:Nat}{r:List J}(h:r∈gm to rows i):r∈rows:=by
 simp only[gm,List.mem_map,uu]at h
 obtain⟨j,b,rfl⟩:=h
 have:=p.ev j b
 split
 ·rw[jT,gb this];exact pX this
 ·rw[jT,gb b];exact pX b
theorem agJ{A:aU->J}{s:aK}{to:List Int}(p:db to s.ax.length):ao (λk=>A (kU s to k)) (lE s to) .ax=eE [.int .i64 0,.bc] (ao A s .ax) to:=by
 have av:(ao A s .ax).length=s.ax.length:=by simp [ao]
 apply gn
 intro j
 show((eE wA s.ax to).mapIdx _)[j]?=_
 rw[gS]
 by_cases b:j<s.ax.length
 ·rw[iQ p b,iQ (by rw[av];exact p) (by rw[av];exact b)]
  have az:=p.ev j b
  obtain⟨x,af⟩:=cQ az
  rw[af,qH af]
  simp [kU,ij,b]
 ·rw[i' b,i' (by rw[av];exact b)];rfl
theorem c2.agK{au H:U}{A:aU->J}{s:aK}{to:List Int}(own:c2 au dM H A s)(p:db to s.ax.length):c2 au dM (wr H (A .ax) 2 39 (eE [.int .i64 0,.bc] (ao A s .ax) to)) (λk=>A (kU s to k)) (Go.aN.X.lE s to):=by
 have av:(ao A s .ax).length=s.ax.length:=by simp [ao]
 have o:cU H au.length 2 39 (A .ax) (ao A s .ax):=own.at (k:=.ax) rfl
 have bu:=own.new.perm (kU s to) (λk b4 e=>by
  cases k<;>cases b4<;>simp only[kU]at e<;>first|(cases e;done)|(cases e;rfl)|exact cV aU.bZ (oX p (aU.bZ.inj e))) (λk=>by cases k<;>rfl) (λk=>by cases k<;>rfl)
 have cP:=bu.wr .ax (rows:=eE [.int .i64 0,.bc] (ao A s .ax) to) (by rw[kt];rfl)
 refine own.of cP (by rw[eI];exact ca _) (λb ae=>rE o ae) (λk _=>⟨rfl,?_⟩) (λk ad=>by cases ad)
 by_cases e:k=.ax
 ·subst e
  rw[fm,agJ p]
 ·rw[cA _ _ e]
  cases k with
  |ax=>exact absurd rfl e
  |bZ j=>
   simp only[kU,ao,Go.aN.X.lE,ij]
   by_cases c:j<s.ax.length
   ·rw[aQ c,iQ p c]
   ·rw[a1 c,i' c,e2 (by omega)]
  |aG=>simp [kU,ao,Go.aN.X.lE]
  |ai=>simp [kU,ao,Go.aN.X.lE]
  |_=>rfl
theorem agL{N:Nat}{au H:U}{k:Nat}{t:aX}{vs:List J}{v u:J}{rows:List (List J)}{to:List Int}{m:Nat}{j:List J->U->bh}(o:cU H au.length 2 39 v rows)(fL:dG H 2 u rows)(w:∀b,jD u=I b->jD v≠I b)(ae:H[k]?=I (.box vs t .rw))(aw:vs[10]?=I v)(an:Rows rows 2 m)(p:db to rows.length)(aA:rows.length<=70000){i:Nat}(ag:i<rows.length)(K:List J->U->bh):
 B6 aJ N (dj to) (.ptr k 0) (u,H) (.int .i64 rows.length) j K [.int .i64 (i:Int)] (wr H v 2 39 (gm to rows i))=K [.int .i64 ((i+1:Nat):Int)] (wr H v 2 39 (gm to rows (i+1))):=by
 obtain⟨row,c⟩:=cQ ag
 obtain⟨y,aO,z,A⟩:=p.sI i ag
 obtain⟨e,ro,_⟩:=an row (dH c)
 have az:i<9223372036854775807:=by omega
 have l:=jj o (rows':=gm to rows i) (qN _ _ _)
 have aD:ab false 1 (.ptr k 10) (wr H v 2 39 (gm to rows i))=I v:=eJ (j8 o ae) aw
 have aE:=pR .i64 z
 have q:dG (wr H v 2 39 (gm to rows i)) 2 u rows:=pO fL λb ae _=>pP (w b ae)
 have B:=eW q .i64 c
 have C:ab true 2 (c' u row i 0) (wr H v 2 39 (gm to rows i))=I (.agg row):=(e0 q c _ _ _).trans (fQ e)
 obtain⟨g,h⟩:=cQ (show y<(gm to rows i).length by rw[qN];exact aO)
 have D:g.length=2:=(an g (JV p (dH h))).1
 have E:=eW (fl l) .i64 h
 have st:=ig l h (n:=2) (x:=.agg row) (f:=0) e (by decide) (show cy g 0 row=I row from hN (by rw[D,e]) ro)
 rw[k_,←JT p c aO A]at st
 unfold B6
 simp only[aS,↓aF,aT,cL ag,cm,aZ,aD,aE,lf,B,C,E,st,cI az]
 exact cV (K _) (hr _ (by simp [eI]))
theorem agM{A:aU->J}{s:aK}{to:List Int}(p:db to s.aG.length):ao (λk=>A (lF s to k)) (ew s to) .aG=eE [.str ⟨#[]⟩,.bc,.int .i64 0,.int .i64 0,.int .i64 0,.int .i64 0,.int .i64 0,.int .i64 0,.int .i64 0,.int .i64 0,.int .i64 0,.int .i64 0,.int .i64 0] (ao A s .aG) to:=by
 have av:(ao A s .aG).length=s.aG.length:=by simp [ao]
 apply gn
 intro j
 show((eE Jp s.aG to).mapIdx _)[j]?=_
 rw[gS]
 by_cases b:j<s.aG.length
 ·rw[iQ p b,iQ (by rw[av];exact p) (by rw[av];exact b)]
  have az:=p.ev j b
  obtain⟨x,af⟩:=cQ az
  rw[af,y2 af]
  simp [lF,ij,b]
 ·rw[i' b,i' (by rw[av];exact b)];rfl
theorem c2.agN{au H:U}{A:aU->J}{s:aK}{to:List Int}(own:c2 au dM H A s)(p:db to s.aG.length):c2 au dM (wr H (A .aG) 13 43 (eE [.str ⟨#[]⟩,.bc,.int .i64 0,.int .i64 0,.int .i64 0,.int .i64 0,.int .i64 0,.int .i64 0,.int .i64 0,.int .i64 0,.int .i64 0,.int .i64 0,.int .i64 0] (ao A s .aG) to)) (λk=>A (lF s to k)) (Go.aN.X.ew s to):=by
 have av:(ao A s .aG).length=s.aG.length:=by simp [ao]
 have o:cU H au.length 13 43 (A .aG) (ao A s .aG):=own.at (k:=.aG) rfl
 have bu:=own.new.perm (lF s to) (λk b4 e=>by
  cases k<;>cases b4<;>simp only[lF]at e<;>first|(cases e;done)|(cases e;rfl)|exact cV aU.cp (oX p (aU.cp.inj e))) (λk=>by cases k<;>rfl) (λk=>by cases k<;>rfl)
 have cP:=bu.wr .aG (rows:=eE [.str ⟨#[]⟩,.bc,.int .i64 0,.int .i64 0,.int .i64 0,.int .i64 0,.int .i64 0,.int .i64 0,.int .i64 0,.int .i64 0,.int .i64 0,.int .i64 0,.int .i64 0] (ao A s .aG) to) (by rw[kt];rfl)
 refine own.of cP (by rw[eI];exact ca _) (λb ae=>rE o ae) (λk _=>⟨rfl,?_⟩) (λk ad=>by cases ad)
 by_cases e:k=.aG
 ·subst e
  rw[fm,agM p]
 ·rw[cA _ _ e]
  cases k with
  |aG=>exact absurd rfl e
  |cp j=>
   simp only[lF,ao,Go.aN.X.ew,ij]
   by_cases c:j<s.aG.length
   ·rw[aQ c,iQ p c]
   ·rw[a1 c,i' c,e2 (by omega)]
  |ax=>simp [lF,ao,Go.aN.X.ew]
  |ai=>simp [lF,ao,Go.aN.X.ew]
  |_=>rfl
theorem agO{N:Nat}{au H:U}{k:Nat}{t:aX}{vs:List J}{v u:J}{rows:List (List J)}{to:List Int}{m:Nat}{j:List J->U->bh}(o:cU H au.length 13 43 v rows)(fL:dG H 13 u rows)(w:∀b,jD u=I b->jD v≠I b)(ae:H[k]?=I (.box vs t .rw))(aw:vs[11]?=I v)(an:Rows rows 13 m)(p:db to rows.length)(aA:rows.length<=70000){i:Nat}(ag:i<rows.length)(K:List J->U->bh):
 yz aJ N (dj to) (.ptr k 0) (u,H) (.int .i64 rows.length) j K [.int .i64 (i:Int)] (wr H v 13 43 (gm to rows i))=K [.int .i64 ((i+1:Nat):Int)] (wr H v 13 43 (gm to rows (i+1))):=by
 obtain⟨row,c⟩:=cQ ag
 obtain⟨y,aO,z,A⟩:=p.sI i ag
 obtain⟨e,ro,_⟩:=an row (dH c)
 have az:i<9223372036854775807:=by omega
 have l:=jj o (rows':=gm to rows i) (qN _ _ _)
 have aD:ab false 1 (.ptr k 11) (wr H v 13 43 (gm to rows i))=I v:=eJ (j8 o ae) aw
 have aE:=pR .i64 z
 have q:dG (wr H v 13 43 (gm to rows i)) 13 u rows:=pO fL λb ae _=>pP (w b ae)
 have B:=eW q .i64 c
 have C:ab true 13 (c' u row i 0) (wr H v 13 43 (gm to rows i))=I (.agg row):=(e0 q c _ _ _).trans (fQ e)
 obtain⟨g,h⟩:=cQ (show y<(gm to rows i).length by rw[qN];exact aO)
 have D:g.length=13:=(an g (JV p (dH h))).1
 have E:=eW (fl l) .i64 h
 have st:=ig l h (n:=13) (x:=.agg row) (f:=0) e (by decide) (show cy g 0 row=I row from hN (by rw[D,e]) ro)
 rw[k_,←JT p c aO A]at st
 unfold yz
 simp only[aS,↓aF,aT,cL ag,cm,aZ,aD,aE,lf,B,C,E,st,cI az]
 exact cV (K _) (hr _ (by simp [eI]))
theorem agP{A:aU->J}{s:aK}{to:List Int}(p:db to s.ai.length):ao (λk=>A (jn s to k)) (gH s to) .ai=eE h0 (ao A s .ai) to:=by
 have av:(ao A s .ai).length=s.ai.length:=by simp [ao]
 apply gn
 intro j
 show((eE Fb s.ai to).mapIdx _)[j]?=_
 rw[gS]
 by_cases b:j<s.ai.length
 ·rw[iQ p b,iQ (by rw[av];exact p) (by rw[av];exact b)]
  have az:=p.ev j b
  obtain⟨x,af⟩:=cQ az
  rw[af,kQ af]
  simp [jn,ij,b]
 ·rw[i' b,i' (by rw[av];exact b)];rfl
theorem c2.agQ{au H:U}{A:aU->J}{s:aK}{to:List Int}(own:c2 au dM H A s)(p:db to s.ai.length):c2 au dM (wr H (A .ai) 33 57 (eE h0 (ao A s .ai) to)) (λk=>A (jn s to k)) (Go.aN.X.gH s to):=by
 have av:(ao A s .ai).length=s.ai.length:=by simp [ao]
 have o:cU H au.length 33 57 (A .ai) (ao A s .ai):=own.at (k:=.ai) rfl
 have bu:=own.new.perm (jn s to) (λk b4 e=>by
  cases k<;>cases b4<;>simp only[jn]at e<;>first|(cases e;done)|(cases e;rfl)|exact cV aU.key (oX p (aU.key.inj e))|exact cV aU.bm (oX p (aU.bm.inj e))|exact cV aU.bk (oX p (aU.bk.inj e))|exact cV aU.bl (oX p (aU.bl.inj e))) (λk=>by cases k<;>rfl) (λk=>by cases k<;>rfl)
 have cP:=bu.wr .ai (rows:=eE h0 (ao A s .ai) to) (by rw[kt];rfl)
 refine own.of cP (by rw[eI];exact ca _) (λb ae=>rE o ae) (λk _=>⟨rfl,?_⟩) (λk ad=>by cases ad)
 by_cases e:k=.ai
 ·subst e
  rw[fm,agP p]
 ·rw[cA _ _ e]
  cases k with
  |ai=>exact absurd rfl e
  |key j=>
   simp only[jn,ao,Go.aN.X.gH,ij]
   by_cases c:j<s.ai.length
   ·rw[aQ c,iQ p c]
   ·rw[a1 c,i' c,e2 (by omega)]
  |bm j=>
   simp only[jn,ao,Go.aN.X.gH,ij]
   by_cases c:j<s.ai.length
   ·rw[aQ c,iQ p c]
   ·rw[a1 c,i' c,e2 (by omega)]
  |bk j=>
   simp only[jn,ao,Go.aN.X.gH,ij]
   by_cases c:j<s.ai.length
   ·rw[aQ c,iQ p c]
   ·rw[a1 c,i' c,e2 (by omega)]
  |bl j=>
   simp only[jn,ao,Go.aN.X.gH,ij]
   by_cases c:j<s.ai.length
   ·rw[aQ c,iQ p c]
   ·rw[a1 c,i' c,e2 (by omega)]
  |ax=>simp [jn,ao,Go.aN.X.gH]
  |aG=>simp [jn,ao,Go.aN.X.gH]
  |_=>rfl
theorem agR{N:Nat}{au H:U}{k:Nat}{t:aX}{vs:List J}{v u:J}{rows:List (List J)}{to:List Int}{m:Nat}{j:List J->U->bh}(o:cU H au.length 33 57 v rows)(fL:dG H 33 u rows)(w:∀b,jD u=I b->jD v≠I b)(ae:H[k]?=I (.box vs t .rw))(aw:vs[12]?=I v)(an:Rows rows 33 m)(p:db to rows.length)(aA:rows.length<=70000){i:Nat}(ag:i<rows.length)(K:List J->U->bh):
 B4 aJ N (dj to) (.ptr k 0) (u,H) (.int .i64 rows.length) j K [.int .i64 (i:Int)] (wr H v 33 57 (gm to rows i))=K [.int .i64 ((i+1:Nat):Int)] (wr H v 33 57 (gm to rows (i+1))):=by
 obtain⟨row,c⟩:=cQ ag
 obtain⟨y,aO,z,A⟩:=p.sI i ag
 obtain⟨e,ro,_⟩:=an row (dH c)
 have az:i<9223372036854775807:=by omega
 have l:=jj o (rows':=gm to rows i) (qN _ _ _)
 have aD:ab false 1 (.ptr k 12) (wr H v 33 57 (gm to rows i))=I v:=eJ (j8 o ae) aw
 have aE:=pR .i64 z
 have q:dG (wr H v 33 57 (gm to rows i)) 33 u rows:=pO fL λb ae _=>pP (w b ae)
 have B:=eW q .i64 c
 have C:ab true 33 (c' u row i 0) (wr H v 33 57 (gm to rows i))=I (.agg row):=(e0 q c _ _ _).trans (fQ e)
 obtain⟨g,h⟩:=cQ (show y<(gm to rows i).length by rw[qN];exact aO)
 have D:g.length=33:=(an g (JV p (dH h))).1
 have E:=eW (fl l) .i64 h
 have st:=ig l h (n:=33) (x:=.agg row) (f:=0) e (by decide) (show cy g 0 row=I row from hN (by rw[D,e]) ro)
 rw[k_,←JT p c aO A]at st
 unfold B4
 simp only[aS,↓aF,aT,cL ag,cm,aZ,aD,aE,lf,B,C,E,st,cI az]
 exact cV (K _) (hr _ (by simp [eI]))
theorem Fu{H:U}{k:Nat}{cz A1:aU->J}{s s1:aK}{t:aX}(b:H[k]?=I (.box (aW cz s) t .rw))(r:fJ H A1 s1):a_ 13 (.ptr k 0) (.agg (aW A1 s1)) H=I (H.set k (.box (aW A1 s1) t .rw)):=by
 unfold a_
 rw[show(cC (b' (J.agg (aW A1 s1))).length 13&&fD 0 13)=true from rfl]
 simp only[gq,b]
 show((cy (aW cz s) 0 (aW A1 s1)).map _)=_
 rw[hN (vs:=aW cz s) (cs:=aW A1 s1) rfl (I' r)];rfl
theorem JW{H:U}{base sz:Nat}{t:aX}{v:J}{rows:List (List J)}(o:cU H base sz t v rows)(sz':Nat)(rows':List (List J)):∀b,jD (bQ H.length sz' rows')=I b->jD v≠I b:=λb ae e=>by
 have h1:=I2 ae
 have h2:=(k9 o e).2.1
 omega
theorem agS{N:Nat}{au G:U}{v:J}{l to:List Int}{k n:Nat}{t:aX}{vs:List J}{j:List J->U->bh}(o:cU G au.length 1 3 v (l.map bA))(ae:G[k]?=I (.box vs t .rw))(aw:vs[3]?=I v)(p:db to n)(g:∀o∈l,mark o=false->0<=o/\o<n)(av:l.length<=70000){i:Nat}(ag:i<l.length)(K:List J->U->bh):
 B5 aJ N (dj to) (.ptr k 0) G v (.int .i64 l.length) j K [.int .i64 (i:Int)] (wr G v 1 3 (ik to l i))=K [.int .i64 ((i+1:Nat):Int)] (wr G v 1 3 (ik to l (i+1))):=by
 obtain⟨x,af⟩:=cQ ag
 have az:i<9223372036854775807:=by omega
 have c:=jj o (rows':=ik to l i) (by rw[R_,dn])
 have aD:=eW (fl c) .i64 (sL af)
 have aE:ab false 1 (c' v (bA x) i 0) (wr G v 1 3 (ik to l i))=I (.int .i64 x):=(e0 (fl c) (sL af) _ _ _).trans (lf x)
 have h:ab false 1 (.ptr k 3) (wr G v 1 3 (ik to l i))=I v:=eJ (j8 o ae) aw
 unfold B5
 by_cases hm:mark x=true
 ·have b:kv to x=x:=by unfold kv;rw[aQ hm]
  have:ik to l (i+1)=ik to l i:=by rw[E' af,b];exact Fa (sL af)
  simp only[aS,↓aF,aT,cL ag,cm,aZ,aD,aE,vW,hm,e3,bg,bd,cI az]
  rw[this]
  exact cV (K _) (hr _ (by simp [eI]))
 ·have e:mark x=false:=by simpa using hm
  obtain⟨u,m,rfl,q,b,_⟩:=Ji p e (g x (dH af) e)
  have st:=ig c (sL af) (n:=1) (x:=.int .i64 (m:Int)) (f:=0) rfl (by decide) (y5 _ _)
  rw[k_,←b,←E' af,b]at st
  simp only[aS,↓aF,aT,cL ag,cm,aZ,aD,aE,vW,e,gp,h,pR .i64 q,lf,st,cI az]
  exact cV (K _) (hr _ (by simp [eI]))
theorem agT(s:aK)(cz:aU->J)(h:U)(V:fJ h cz s)(t:gw s)(L:s.ax≠[]){to:List Int}(pm:db to s.ax.length)(W:∀o∈s.bo,mark o=false->0<=o/\o<s.ax.length):fa (aJ 50 [.agg (aW cz s),.int .i64 0,dj to] h) (zf h (hC s to)):=by
 obtain⟨N,av⟩:∃N:Nat,70000<N:=⟨_,fs _⟩
 refine fa.body (F:=vJ) (by kernel_rfl) N ?_
 rw[H'];unfold B7
 obtain⟨au,l⟩:∃au,au=h++[cq.box (aW cz s) 27 .rw,eu]:=⟨_,rfl⟩
 have M:=l
 unfold eu at M
 have eY:au.length=h.length+2:=by rw[l];simp
 have X:fJ au cz s:=by rw[l];exact V.app _
 obtain⟨⟨aw,C⟩,Y,A1,O,n,ay⟩:=l1 s cz au X t.small L
 simp only at O n
 subst O
 have Z:=n.lower (h:=h) (by omega) (λb ae=>by rw[l,cG ae])
 have D:C[h.length]?=I (.box (aW cz s) 27 .rw):=by rw[n.cF _ (by omega),l,eQ];rfl
 have cE:C[h.length+1]?=I eu:=by rw[n.cF _ (by omega),l,fP];rfl
 have aa:ab true 13 (.ptr h.length 0) au=I (.agg (aW cz s)):=by rw[l];exact jl (vs:=aW cz s) (by rw[eQ];rfl) rfl
 obtain⟨c,w⟩:∃c,c=C.set h.length (.box (aW A1 s) 27 .rw):=⟨_,rfl⟩
 have P:=Fu D n.rs
 rw[←w]at P
 have x:c2 h dM c A1 s:=by rw[w];exact Z.box D (ca _) _
 have cd:c[h.length]?=I (.box (aW A1 s) 27 .rw):=by rw[w];exact fr (List.getElem?_eq_some_iff.1 D).1
 have cO:c[h.length+1]?=I eu:=by rw[w,hj (by omega)];exact cE
 obtain⟨R,m⟩:∃R,R=ao A1 s .ax:=⟨_,rfl⟩
 have ac:R.length=s.ax.length:=by rw[m];simp [ao]
 have az:=t.ax
 have ad:cU c h.length 2 39 (A1 .ax) R:=by rw[m];exact x.at (k:=.ax) rfl
 have ap:ek 39 2 .emp (A1 .ax) c=I (bQ c.length 2 R,c++cj 2 39 R):=by
  rw[m];exact k' (lD (x.rs .ax)) (by decide) (x.rs.one _) (t.small.gz A1 .ax)
 obtain⟨g,p⟩:∃g,g=c++cj 2 39 R:=⟨_,rfl⟩
 obtain⟨u,y⟩:∃u,u=bQ c.length 2 R:=⟨_,rfl⟩
 have af:bw false u=I (.int .i64 R.length):=by rw[y];exact wk _ _ _
 have Q:=JW ad 2 R
 rw[←y]at Q
 have fL:dG g 2 u R:=by rw[p,y];exact fl (y1 c 2 39 R)
 rw[←p,←y]at ap
 have E:c2 h dM g A1 s:=by rw[p];exact x.app _
 have z:cU g h.length 2 39 (A1 .ax) R:=by rw[m];exact E.at (k:=.ax) rfl
 have S:g[h.length]?=I (.box (aW A1 s) 27 .rw):=by rw[p];exact fp.app _ _ _ _ _ _ cd
 have aj:g[h.length+1]?=I eu:=by rw[p];exact fp.app _ _ _ _ _ _ cO
 have ak:Rows R 2 (g.length+1):=by rw[m];exact E.rs.rows (k:=.ax) rfl
 have T:db to R.length:=by rw[ac];exact pm
 have A:=E.agK pm
 rw[←m,←JU T]at A
 obtain⟨G,B⟩:∃G,G=wr g (A1 .ax) 2 39 (gm to R R.length):=⟨_,rfl⟩
 rw[←B]at A
 have H:G[h.length]?=I (.box (aW A1 s) 27 .rw):=by rw[B];exact j8 z S
 have al:G[h.length+1]?=I eu:=by rw[B];exact j8 z aj
 have q:cU G h.length 1 3 (A1 .bo) (s.bo.map bA):=A.at (k:=.bo) rfl
 have am:=A.bo
 have on:=t.bo
 have le:=fH (fl q)
 rw[dn]at le
 obtain⟨f1,F,f2,f3,f4,f5⟩:=Fs am (λe=>L (by
  have:=cV List.length (show eE wA s.ax to=[]from e)
  rw[kt]at this
  exact gy this)) (j8 q H) (j8 q al)
 have an:((0:Int)==0)=true:=rfl
 simp only[aS,↓aF,aT,←M,an,aZ,aa,Y,P,eJ cd (kR A1 s),ap,af]
 refine fa.of (r:=(.agg (aW (λk=>A1 (kU s to k)) (hC s to)),F)) ?_ ⟨_,rfl,f5⟩
 refine hq (λi=>[.int .i64 (i:Int)]) (λi=>wr g (A1 .ax) 2 39 (gm to R i)) R.length (by omega) rfl (by rw[JS,rC z]) (λi ag K=>?_) λK=>?_
 ·have h:=agL (N:=N) (j:=?jj) z fL Q S (kR A1 s) ak T (by omega) ag K
  exact h
 have aC:((R.length:Int)<(R.length:Int))=False:=dK (by omega)
 unfold B6
 simp only[aS,↓aF,aT,aC,cW,bg,bd,←B,eJ H (rG A1 s),le]
 refine hq (λi=>[.int .i64 (i:Int)]) (λi=>wr G (A1 .bo) 1 3 (ik to s.bo i)) s.bo.length (by omega) rfl (by rw[Sa,rC q]) (λi ag K=>?_) λK=>?_
 ·have h:=agS (N:=N) (j:=?jj2) q H (rG A1 s) pm W on ag K
  exact h
 have aC:((s.bo.length:Int)<(s.bo.length:Int))=False:=dK (by omega)
 unfold B5
 simp only[aS,↓aF,aT,aC,cW,bg,bd,Sb]
 have aq:ab true 13 (.ptr h.length 0) (wr G (A1 .bo) 1 3 ((s.bo.map (kv to)).map bA))=I (.agg (aW (λk=>A1 (kU s to k)) (hC s to))):=f1
 have ar:a_ 13 (.ptr (h.length+1) 0) (.agg (aW (λk=>A1 (kU s to k)) (hC s to))) (wr G (A1 .bo) 1 3 ((s.bo.map (kv to)).map bA))=I F:=f2
 simp only[aq,ar,f3,f4,bY]
theorem agU(s:aK)(cz:aU->J)(h:U)(ac:fJ h cz s)(t:gw s)(O:s.ax≠[])(ad:oa s)(bs:eZ s.cb 6=true){to:List Int}(pm:db to s.ai.length)(aa:∀p∈s.ax,∀c∈p.2,g_ c.inst s.ai.length):fa (aJ 50 [.agg (aW cz s),.int .i64 2,dj to] h) (zf h (jo s to)):=by
 obtain⟨N,aL⟩:∃N:Nat,70000<N:=⟨_,fs _⟩
 refine fa.body (F:=vJ) (by kernel_rfl) N ?_
 rw[H'];unfold B7
 obtain⟨au,n⟩:∃au,au=h++[cq.box (aW cz s) 27 .rw,eu]:=⟨_,rfl⟩
 have P:=n
 unfold eu at P
 have eY:au.length=h.length+2:=by rw[n];simp
 have af:fJ au cz s:=by rw[n];exact ac.app _
 obtain⟨⟨aM,D⟩,aj,A1,E,o⟩:=yw s cz au af t O
 rw[ad.SP]at E o
 simp only at E o
 subst E
 have ak:=o.lower (h:=h) (by omega) (λb ae=>by rw[n,cG ae])
 have H:D[h.length]?=I (.box (aW cz s) 27 .rw):=by rw[o.cF _ (by omega),n,eQ];rfl
 have cE:D[h.length+1]?=I eu:=by rw[o.cF _ (by omega),n,fP];rfl
 have al:ab true 13 (.ptr h.length 0) au=I (.agg (aW cz s)):=by rw[n];exact jl (vs:=aW cz s) (by rw[eQ];rfl) rfl
 obtain⟨g,x⟩:∃g,g=D.set h.length (.box (aW A1 s) 27 .rw):=⟨_,rfl⟩
 have Q:=Fu H o.rs
 rw[←x]at Q
 have y:c2 h dM g A1 s:=by rw[x];exact ak.box H (ca _) _
 have cd:g[h.length]?=I (.box (aW A1 s) 27 .rw):=by rw[x];exact fr (List.getElem?_eq_some_iff.1 H).1
 have cO:g[h.length+1]?=I eu:=by rw[x,hj (by omega)];exact cE
 obtain⟨R,q⟩:∃R,R=ao A1 s .ai:=⟨_,rfl⟩
 have am:R.length=s.ai.length:=by rw[q];simp [ao]
 have aN:=t.ai
 have an:cU g h.length 33 57 (A1 .ai) R:=by rw[q];exact y.at (k:=.ai) rfl
 have ap:ek 57 33 .emp (A1 .ai) g=I (bQ g.length 33 R,g++cj 33 57 R):=by
  rw[q];exact k' (lD (y.rs .ai)) (by decide) (y.rs.one _) (t.small.gz A1 .ai)
 obtain⟨l,w⟩:∃l,l=g++cj 33 57 R:=⟨_,rfl⟩
 obtain⟨u,z⟩:∃u,u=bQ g.length 33 R:=⟨_,rfl⟩
 have aq:bw false u=I (.int .i64 R.length):=by rw[z];exact wk _ _ _
 have S:=JW an 33 R
 rw[←z]at S
 have fL:dG l 33 u R:=by rw[w,z];exact fl (y1 g 33 57 R)
 rw[←w,←z]at ap
 have L:c2 h dM l A1 s:=by rw[w];exact y.app _
 have A:cU l h.length 33 57 (A1 .ai) R:=by rw[q];exact L.at (k:=.ai) rfl
 have T:l[h.length]?=I (.box (aW A1 s) 27 .rw):=by rw[w];exact fp.app _ _ _ _ _ _ cd
 have ar:l[h.length+1]?=I eu:=by rw[w];exact fp.app _ _ _ _ _ _ cO
 have av:Rows R 33 (l.length+1):=by rw[q];exact L.rs.rows (k:=.ai) rfl
 have V:db to R.length:=by rw[am];exact pm
 have B:=L.agQ pm
 rw[←q,←JU V]at B
 obtain⟨G,C⟩:∃G,G=wr l (A1 .ai) 33 57 (gm to R R.length):=⟨_,rfl⟩
 rw[←C]at B
 obtain⟨m,W⟩:∃m,m=(λk=>A1 (jn s to k)):=⟨_,rfl⟩
 rw[←W]at B
 have aw:aW A1 s=aW m (gH s to):=by rw[W];rfl
 have X:G[h.length]?=I (.box (aW m (gH s to)) 27 .rw):=by rw[C,←aw];exact j8 A T
 have ay:G[h.length+1]?=I eu:=by rw[C];exact j8 A ar
 obtain⟨⟨aO,az⟩,aA,Y,Z,M,br,-⟩:=SL B pm t.ai aa (t.gH pm)
 simp only at Y Z M br
 subst Y
 obtain⟨f1,F,f2,f3,f4,f5⟩:=Fs Z (λe=>O (List.map_eq_nil_iff.1 e)) (M _ _ _ _ X) (M _ _ _ _ ay)
 have aB:((2:Int)==0)=false:=rfl
 have aD:((2:Int)==2)=true:=rfl
 have aE:ab true 13 (.ptr h.length 0) az=I (.agg (aW m (kT (gH s to) to))):=f1
 have aH:ab true 13 (.ptr h.length 0) G=I (.agg (aW m (gH s to))):=jl X rfl
 have aI:=λh=>JQ m (gH s to) h
 have hd:(gH s to).cb=s.cb:=rfl
 simp only[aS,↓aF,aT,←P,aB,aD,bg,bd,aZ,al,aj,Q,eJ cd (iD A1 s),ap,aq]
 refine fa.of (r:=(.agg (aW m (jo s to)),F)) ?_ ⟨_,rfl,f5⟩
 refine hq (λi=>[.int .i64 (i:Int)]) (λi=>wr l (A1 .ai) 33 57 (gm to R i)) R.length (by omega) rfl (by rw[JS,rC A]) (λi ag K=>?_) λK=>?_
 ·have h:=agR (N:=N) (j:=?jj) A fL S T (iD A1 s) av V (by omega) ag K
  exact h
 have aC:((R.length:Int)<(R.length:Int))=False:=dK (by omega)
 unfold B4
 simp only[aS,↓aF,aT,aC,cW,bg,bd,←C,aH,aI,hd,bs,aZ,aA,aE,f2,f3,f4]
 rfl
theorem agV{N:Nat}{au dJ H:U}{A:aU->J}{s:aK}{to:List Int}{k m i:Nat}{p:c1}{t:aX}{j:List J->U->bh}(q:qK au dJ H A s to i)(ae:H[k]?=I (.box (aW A s) t .rw))(pm:db to m)(hm:m<=70000)(aj:s.ai[i]?=I p)(aa:∀c∈p.keys,g_ c.2 m)(av:p.keys.length<=70000){n:Nat}(aA:n<p.keys.length)(K:List J->U->bh):
 yx aJ N (dj to) (.ptr k 0) [.int .i64 (i:Int)] H (.int .i64 p.keys.length) j K [.int .i64 (n:Int)] (wr H (A (.key i)) 2 89 (hD to p.keys n))=K [.int .i64 ((n+1:Nat):Int)] (wr H (A (.key i)) 2 89 (hD to p.keys (n+1))):=by
 obtain⟨c,g⟩:=cQ aA
 have az:n<9223372036854775807:=by omega
 have u:(jm s to i).ai[i]?=I p:=by rw[sM aj,a1 (by omega)]
 have dp:ao A (jm s to i) (.key i)=p.keys.map cM:=by simp only[ao,u]
 have o:cU H au.length 2 89 (A (.key i)) (p.keys.map cM):=by rw[←dp];exact q.own.at (k:=.key i) rfl
 have h:=jj o (rows':=hD to p.keys n) (by rw[Sf,dn])
 have w:=kQ (A:=A) u
 have op:cU H au.length 33 57 (A .ai) (ao A (jm s to i) .ai):=q.own.at (k:=.ai) rfl
 have y:dG (wr H (A (.key i)) 2 89 (hD to p.keys n)) 33 (A .ai) (ao A (jm s to i) .ai):=by
  refine pO (fl op) λb ae G=>pP λe=>?_
  have:=q.own.new.inj _ _ _ ae e
  cases this
 have aD:ab false 1 (.ptr k 12) (wr H (A (.key i)) 2 89 (hD to p.keys n))=I (A .ai):=eJ (j8 o ae) (iD A s)
 have aE:bW 33 (A .ai) (.int .i64 (i:Int))=I (c' (A .ai) (bT p (A (.key i)) (A (.bm i)) (A (.bk i)) (A (.bl i))) i 0):=eW y .i64 w
 have z:ab false 1 (c' (A .ai) (bT p (A (.key i)) (A (.bm i)) (A (.bk i)) (A (.bl i))) i 1) (wr H (A (.key i)) 2 89 (hD to p.keys n))=I (A (.key i)):=(e0 y w _ _ _).trans (jE _ _ _ _ _)
 have B:=eW (fl h) .i64 (tY g)
 have C:ab false 1 (c' (A (.key i)) (cM c) n 1) (wr H (A (.key i)) 2 89 (hD to p.keys n))=I (.int .i64 c.2):=(e0 (fl h) (tY g) _ _ _).trans (y6 c)
 unfold yx
 rcases aa c (dH g)with pb|D
 ·have l:(c.2 !=0)=false:=by rw[pb];rfl
  have E:hD to p.keys (n+1)=hD to p.keys n:=by
   rw[Jl g]
   have:wB to c=c:=by
    have:ku c.2 to=c.2:=by unfold ku;rw[aQ pb,pb]
    unfold wB
    rw[this]
   rw[this]
   exact Fa (tY g)
  rw[E]
  simp only[aS,↓aF,aT,cL aA,cm,aZ,aD,aE,iO,z,B,wj,C,l,bg,bd,cI az]
  exact cV (K _) (hr _ (by simp [eI]))
 ·have l:(c.2 !=0)=true:=by rw[kX];omega
  obtain⟨t,aO,F,e⟩:=pm.te D
  have bu:IntKind.i64.wrap (c.2-1)=(((c.2-1).toNat:Nat):Int):=by rw[wrap64 (by unfold dr;omega)];omega
  have cP:IntKind.i64.wrap (1+(t:Int))=ku c.2 to:=by rw[wrap64 (by unfold dr;omega),e,Int.add_comm]
  have st:=ig h (tY g) (n:=1) (x:=.int .i64 (ku c.2 to)) (f:=1) rfl (by decide) (Si c to)
  rw[k_,←Jl g]at st
  simp only[aS,↓aF,aT,cL aA,cm,aZ,aD,aE,iO,z,B,wj,C,l,bu,pR .i64 F,lf,cP,st,cI az]
  exact cV (K _) (hr _ (by simp [eI]))
theorem agW{N:Nat}(C:70000<N){au dJ H:U}{A:aU->J}{s:aK}{to:List Int}{k m i:Nat}{p:c1}{t:aX}{j:List J->U->bh}(q:qK au dJ H A s to i)(ae:dJ[k]?=I (.box (aW A s) t .rw))(pm:db to m)(hm:m<=70000)(aj:s.ai[i]?=I p)(aa:∀c∈p.keys,g_ c.2 m)(b:kP s)(K:List J->U->bh):
 yy aJ N (dj to) (.ptr k 0) dJ (.int .i64 s.ai.length) j K [.int .i64 (i:Int)] H=K [.int .i64 ((i+1:Nat):Int)] (wr H (A (.key i)) 2 89 ((kx to p).keys.map cM)):=by
 have x:=(List.getElem?_eq_some_iff.1 aj).1
 have y:=b A .ai
 have e:=b A (.key i)
 simp only[ao,ln,aj,dn]at y e
 have az:i<9223372036854775807:=by omega
 have g:(jm s to i).ai[i]?=I p:=by rw[sM aj,a1 (by omega)]
 have rs:=q.own.rs
 have l:=kQ (A:=A) g
 have dp:ao A (jm s to i) (.key i)=p.keys.map cM:=by simp only[ao,g]
 have o:cU H au.length 2 89 (A (.key i)) (p.keys.map cM):=by rw[←dp];exact q.own.at (k:=.key i) rfl
 have u:=q.bx _ _ _ _ ae
 have aD:ab false 1 (.ptr k 12) H=I (A .ai):=eJ u (iD A s)
 have aE:bW 33 (A .ai) (.int .i64 (i:Int))=I (c' (A .ai) (bT p (A (.key i)) (A (.bm i)) (A (.bk i)) (A (.bl i))) i 0):=eW (rs .ai) .i64 l
 have z:ab false 1 (c' (A .ai) (bT p (A (.key i)) (A (.bm i)) (A (.bk i)) (A (.bl i))) i 1) H=I (A (.key i)):=(e0 (rs .ai) l _ _ _).trans (jE _ _ _ _ _)
 have w:=fH (rs (.key i))
 rw[dp,dn]at w
 have D:=q.next aj
 have B:∀jj,cr (yx aJ N (dj to) (.ptr k 0) [.int .i64 (i:Int)] H (.int .i64 p.keys.length) jj) N [.int .i64 0] H=jj [] (wr H (A (.key i)) 2 89 ((kx to p).keys.map cM)):=λjj=>by
  refine hq (λn=>[.int .i64 (n:Int)]) (λn=>wr H (A (.key i)) 2 89 (hD to p.keys n)) p.keys.length (by omega) rfl (by rw[Sg,rC o]) (λn aA K=>?_) λK=>?_
  ·have h:=agV (N:=N) (j:=jj) q u pm hm aj aa e aA K
   exact h
  ·have aC:((p.keys.length:Int)<(p.keys.length:Int))=False:=dK (by omega)
   unfold yx
   simp only[aS,↓aF,aT,aC,cW,bg,bd]
   rw[Sh]
 unfold yy
 simp only[aS,↓aF,aT,cL x,cm,aZ,aD,aE,iO,z,w,B,cI az]
 exact cV (K _) (hr _ (by simp [eI,q.len]))
theorem agX(s:aK)(to:List Int):jH (kT s to) to=kT (jH s to) to:=rfl
theorem SQ(s:aK)(cz:aU->J)(h:U)(aE:fJ h cz s)(t:gw s)(S:s.ax≠[])(ad:oa s){to:List Int}(pm:db to s.aG.length)(aa:eZ s.cb 6=false->∀p∈s.ax,∀c∈p.2,g_ c.inst s.aG.length)(ac:∀x∈s.ai,∀c∈x.keys,g_ c.2 s.aG.length):fa (aJ 50 [.agg (aW cz s),.int .i64 1,dj to] h) (zf h (h5 s to)):=by
 obtain⟨N,aH⟩:∃N:Nat,70000<N:=⟨_,fs _⟩
 refine fa.body (F:=vJ) (by kernel_rfl) N ?_
 rw[H'];unfold B7
 obtain⟨au,y⟩:∃au,au=h++[cq.box (aW cz s) 27 .rw,eu]:=⟨_,rfl⟩
 have af:=y
 unfold eu at af
 have eY:au.length=h.length+2:=by rw[y];simp
 have aI:fJ au cz s:=by rw[y];exact aE.app _
 obtain⟨⟨bh,T⟩,aM,A1,V,z⟩:=yw s cz au aI t S
 rw[ad.SP]at V z
 simp only at V z
 subst V
 have aN:=z.lower (h:=h) (by omega) (λb ae=>by rw[y,cG ae])
 have W:T[h.length]?=I (.box (aW cz s) 27 .rw):=by rw[z.cF _ (by omega),y,eQ];rfl
 have cE:T[h.length+1]?=I eu:=by rw[z.cF _ (by omega),y,fP];rfl
 have aO:ab true 13 (.ptr h.length 0) au=I (.agg (aW cz s)):=by rw[y];exact jl (vs:=aW cz s) (by rw[eQ];rfl) rfl
 obtain⟨l,E⟩:∃l,l=T.set h.length (.box (aW A1 s) 27 .rw):=⟨_,rfl⟩
 have ak:=Fu W z.rs
 rw[←E]at ak
 have L:c2 h dM l A1 s:=by rw[E];exact aN.box W (ca _) _
 have cd:l[h.length]?=I (.box (aW A1 s) 27 .rw):=by rw[E];exact fr (List.getElem?_eq_some_iff.1 W).1
 have cO:l[h.length+1]?=I eu:=by rw[E,hj (by omega)];exact cE
 obtain⟨R,A⟩:∃R,R=ao A1 s .aG:=⟨_,rfl⟩
 have aP:R.length=s.aG.length:=by rw[A];simp [ao]
 have aR:=t.aG
 have aV:=t.ai
 have aX:cU l h.length 13 43 (A1 .aG) R:=by rw[A];exact L.at (k:=.aG) rfl
 have ap:ek 43 13 .emp (A1 .aG) l=I (bQ l.length 13 R,l++cj 13 43 R):=by
  rw[A];exact k' (lD (L.rs .aG)) (by decide) (L.rs.one _) (t.small.gz A1 .aG)
 obtain⟨m,D⟩:∃m,m=l++cj 13 43 R:=⟨_,rfl⟩
 obtain⟨u,M⟩:∃u,u=bQ l.length 13 R:=⟨_,rfl⟩
 have aY:bw false u=I (.int .i64 R.length):=by rw[M];exact wk _ _ _
 have al:=JW aX 13 R
 rw[←M]at al
 have fL:dG m 13 u R:=by rw[D,M];exact fl (y1 l 13 43 R)
 rw[←D,←M]at ap
 have X:c2 h dM m A1 s:=by rw[D];exact L.app _
 have O:cU m h.length 13 43 (A1 .aG) R:=by rw[A];exact X.at (k:=.aG) rfl
 have am:m[h.length]?=I (.box (aW A1 s) 27 .rw):=by rw[D];exact fp.app _ _ _ _ _ _ cd
 have a0:m[h.length+1]?=I eu:=by rw[D];exact fp.app _ _ _ _ _ _ cO
 have a2:Rows R 13 (m.length+1):=by rw[A];exact X.rs.rows (k:=.aG) rfl
 have an:db to R.length:=by rw[aP];exact pm
 have B:=X.agN pm
 rw[←A,←JU an]at B
 obtain⟨G,P⟩:∃G,G=wr m (A1 .aG) 13 43 (gm to R R.length):=⟨_,rfl⟩
 rw[←P]at B
 obtain⟨g,aq⟩:∃g,g=(λk=>A1 (lF s to k)):=⟨_,rfl⟩
 rw[←aq]at B
 have a3:aW A1 s=aW g (ew s to):=by rw[aq];rfl
 have Q:G[h.length]?=I (.box (aW g (ew s to)) 27 .rw):=by rw[P,←a3];exact j8 O am
 have ar:G[h.length+1]?=I eu:=by rw[P];exact j8 O a0
 have a4:((1:Int)==0)=false:=rfl
 have a5:((1:Int)==2)=false:=rfl
 have av:ab true 13 (.ptr h.length 0) G=I (.agg (aW g (ew s to))):=jl Q rfl
 have aw:=λh=>JQ g (ew s to) h
 have hd:(ew s to).cb=s.cb:=rfl
 have fin:∀(n:aK) (o:U),c2 h dM o g n->gw n->n.ax≠[]->n.ai=s.ai->o[h.length]?=I (.box (aW g n) 27 .rw)->o[h.length+1]?=I eu->∀jj,(∀w H,jj w H=Option.bind (ab true 13 (.ptr h.length 0) H) λa6=>(a_ 13 (.ptr (h.length+1) 0) a6 H).bind λay=>(ab true 13 (.ptr (h.length+1) 0) ay).bind λa7=>aL [.ah] h ay [a7])->
  fa (cr (yy aJ N (dj to) (.ptr h.length 0) o (.int .i64 s.ai.length) jj) N [.int .i64 0] o) (zf h (jH n to)):=by
  intro n o a8 a9 a' ba az cR jj bb
  have be:qK h o o g n to 0:=⟨by rw[Sc];exact a8,fp.refl _,rfl,λb _=>.inl rfl⟩
  rw[←ba]at aV ac|-
  refine oS (λi F=>qK h o F g n to i) n.ai.length (by omega) be (λi F ag q=>?_) λF q K=>?_
  ·obtain⟨p,aj⟩:=cQ ag
   exact⟨_,q.next aj,λK=>agW (N:=N) aH q az pm aR aj (ac p (dH aj)) a9.small K⟩
  have aC:((n.ai.length:Int)<(n.ai.length:Int))=False:=dK (by omega)
  have C:=q.own
  rw[Sd]at C
  obtain⟨f1,bi,f2,f3,f4,f5⟩:=Fs C a' (q.bx _ _ _ _ az) (q.bx _ _ _ _ cR)
  unfold yy
  simp only[aS,↓aF,aT,aC,cW,bg,bd,bb,f1,f2,f3,f4]
  exact fa.of rfl ⟨g,rfl,f5⟩
 simp only[aS,↓aF,aT,←af,a4,a5,bg,bd,aZ,aO,aM,ak,eJ cd (mB A1 s),ap,aY]
 have mr:∀jj,cr (yz aJ N (dj to) (.ptr h.length 0) (u,m) (.int .i64 R.length) jj) N [.int .i64 0] m=jj [] G:=λjj=>by
  refine hq (λi=>[.int .i64 (i:Int)]) (λi=>wr m (A1 .aG) 13 43 (gm to R i)) R.length (by omega) rfl (by rw[JS,rC O]) (λi ag K=>?_) λK=>?_
  ·have h:=agO (N:=N) (j:=jj) O fL al am (mB A1 s) a2 an (by omega) ag K
   exact h
  have aC:((R.length:Int)<(R.length:Int))=False:=dK (by omega)
  unfold yz
  simp only[aS,↓aF,aT,aC,cW,bg,bd,←P]
 cases bs:eZ s.cb 6 with
 |true=>
  have aj:h5 s to=jH (ew s to) to:=by unfold h5;rw[aQ bs]
  have le:=fH (B.rs .ai)
  have Y:(ao g (ew s to) .ai).length=s.ai.length:=by simp [ao,ew]
  rw[Y]at le
  simp only[aS,↓aF,aT,mr,av,aw,hd,bs,e3,bg,bd,eJ Q (iD g _),le]
  rw[aj]
  exact fin _ G B (t.ew pm) S rfl Q ar _ (λ_ _=>rfl)
 |false=>
  have aj:h5 s to=jH (kT (ew s to) to) to:=by unfold h5;rw[a1 (by rw[bs];decide),agX]
  obtain⟨⟨bj,aA⟩,bf,aB,C,Z,br,-⟩:=SL B pm t.aG (aa bs) (t.ew pm)
  simp only at aB C Z br
  subst aB
  have le:=fH (C.rs .ai)
  have Y:(ao g (kT (ew s to) to) .ai).length=s.ai.length:=by simp [ao,ew,kT]
  rw[Y]at le
  have aD:aA[h.length]?=I (.box (aW g (kT (ew s to) to)) 27 .rw):=Z _ _ _ _ Q
  simp only[aS,↓aF,aT,mr,av,aw,hd,bs,gp,aZ,bf,eJ aD (iD g _),le]
  rw[aj]
  exact fin _ aA C ((t.ew pm).kT to) (λe=>S (List.map_eq_nil_iff.1 e)) rfl aD (Z _ _ _ _ ar) _ (λ_ _=>rfl)
theorem JX(s:aK)(av:gl s)(h:U):aJ 47 [.agg s.cs] h=I (.bool ((np s).2.2==0),h):=by
 refine cg (F:=B0) (by kernel_rfl) 1 ?_
 rw[Zt];unfold Nt
 simp only[aS,↓aF,aT,iB,ad_ s av,←QK,v_,Hz,HA,HB,dw]
def j_(H:U)(L:List Int):J:=.ref H.length 0 L.length L.length 1
theorem zh{H t rest:U}{L0 L:List Int}{r:List J}(an:∀v∈r,bI (H.length+1) v):trim (H++.log (L0.map bA) 1 3 .rw::t) r (H++.log (L.map bA) 1 3 .rw::(t++rest))=H++.log (L.map bA) 1 3 .rw::t:=by
 have:=rI (g:=H++.log (L0.map bA) 1 3 .rw::t) (g':=H++.log (L.map bA) 1 3 .rw::t) (rest:=rest) (r:=r) (by simp) (λv aw=>oT (by simp) _ (an v aw)) (λk ad=>by
  by_cases h1:k<H.length
  ·left
   rw[cG h1,cG h1]
  ·obtain⟨j,rfl⟩:∃j,k=H.length+j:=⟨k-H.length,by omega⟩
   rw[fP,fP]
   cases j with
   |zero=>exact .inr ⟨_,rfl,Ss _ _ _ _⟩
   |succ j=>exact .inl rfl)
 simpa using this
theorem zi(H:U)(L:List Int)(z:Int):∀v∈[j_ H L,.int .i64 z],bI (H.length+1) v:=λv aw=>by
 simp only[hk,iu,hR]at aw
 rcases aw with rfl|rfl
 ·unfold j_;simp only[bI];omega
 ·simp only[bI]
theorem JY{H l:U}{L:List Int}{x:Int}(hm:L.length<=10000000):ek 3 1 (j_ H L) (.bz 1 [[.int .i64 x]]) (H++.log (L.map bA) 1 3 .rw::l)=I (j_ H (L++[x]),H++.log ((L++[x]).map bA) 1 3 .rw::l):=by
 have:=SK (h:=H) (l:=l) (sz:=1) (n:=L.length) (t:=3) (rows:=L.map bA) (row:=[.int .i64 x]) (by simp) (by decide) rfl (by unfold da;omega)
 unfold j_
 rw[this,ll,dW];rfl
theorem JZ(H:U)(L:List Int):∃X,dh (.flat 1) (j_ H L) (H++[.log (L.map bA) 1 3 .rw])=I (dj L,H++[X]):=by
 unfold j_
 by_cases bq:L.length=0
 ·have:L=[]:=gy bq
  subst this
  refine⟨.log (([]:List Int).map bA) 1 3 .rw,?_⟩
  simp only[dh,List.length_nil,aZ]
  rfl
 ·have e:=yl (h:=H) (l:=[.log (L.map bA) 1 3 .rw]) (k:=0) (s:=1) rfl (by rw[dn];omega) (nc (f:=bA) (λc=>rfl) _)
  rw[dn]at e
  exact⟨_,e⟩
theorem zj(l:List Int):(eP l).length<=l.length:=by
 unfold eP
 rw[dn]
 exact TE _ _
theorem lU{α β:Type}{f:α->List β}{m:Nat}:∀{l:List α},(∀a∈l,(f a).length<=m)->(l.flatMap f).length<=l.length*m
 |[],_=>by simp
 |a::l,h=>by
  rw[w8,dW,kb,Nat.succ_mul]
  have h1:=h a (by simp)
  have h2:=lU (l:=l) λb ae=>h b (List.mem_cons_of_mem _ ae)
  omega
theorem SR(l:List Int)(x:Int):eP (l++[x])=if x=0 then eP l else eP l++[x-1]:=by
 rw[Ft]
 unfold eP
 by_cases h:x=0
 ·subst h
  rw[aQ rfl]
  show _++[]=_
  rw[fu]
 ·have:(x !=0)=true:=bne_iff_ne.2 h
  rw[a1 h,List.filter_cons,this,aQ rfl];rfl
theorem agY{N:Nat}{H:U}{v:J}{l:List Int}(rd:dG H 1 v (l.map bA))(av:l.length<=70000)(g:70000<N)(jj:List J->U->bh):
 cr (Bm aJ N (H++[.log [] 1 3 .rw]) v (.int .i64 l.length) jj) N [.ref H.length 0 0 0 1,.int .i64 0] (H++[.log [] 1 3 .rw])=jj [j_ H (l.filter λo=>!mark o)] (H++[.log ((l.filter λo=>!mark o).map bA) 1 3 .rw]):=by
 refine hq (λi=>[j_ H ((l.take i).filter λo=>!mark o),.int .i64 (i:Int)]) (λi=>H++[.log (((l.take i).filter λo=>!mark o).map bA) 1 3 .rw]) l.length (by omega) rfl rfl (λi ag K=>?_) λK=>?_
 ·obtain⟨x,af⟩:=cQ ag
  have az:i<9223372036854775807:=by omega
  have aO:l.take (i+1)=l.take i++[x]:=py af
  obtain⟨L,c⟩:∃L,L=(l.take i).filter λo=>!mark o:=⟨_,rfl⟩
  have e:L.length<=10000000:=by
   have h1:=TE (λo=>!mark o) (l.take i)
   have h2:(l.take i).length<=l.length:=by rw[kz];omega
   rw[←c]at h1
   omega
  have aD:=eW rd .i64 (nu af)
  have aE:∀X,ab false 1 (c' v (bA x) i 0) (H++X)=I (.int .i64 x):=λX=>(e0 (h4 rd X) (nu af) _ _ _).trans (lf x)
  have b:=λgx=>zh (H:=H) (t:=[]) (rest:=[]) (L0:=[]) (L:=gx) (zi H gx ((i+1:Nat):Int))
  simp only[List.map_nil,fu]at b
  rw[aO,zy,←c]
  unfold Bm
  cases hm:mark x with
  |true=>
   have aC:List.filter (λo=>!mark o) [x]=[]:=by simp [hm]
   rw[aC,fu]
   simp only[aS,↓aF,aT,l7,lh,cL ag,cm,aZ,aD,aE,vW,hm,e3,bg,bd,cI az,b]
  |false=>
   have aC:List.filter (λo=>!mark o) [x]=[x]:=by simp [hm]
   rw[aC]
   simp only[aS,↓aF,aT,l7,lh,cL ag,cm,aZ,aD,aE,vW,hm,gp,pL,pM,kn,pN,JY e,cI az,b]
 ·have aC:((l.length:Int)<(l.length:Int))=False:=dK (by omega)
  unfold Bm
  simp only[aS,↓aF,aT,l7,lh,aC,cW,bg,bd,h6]
theorem agZ{N:Nat}{H:U}{v:J}{bx:cq}{L:List Int}{cs:List Cell}(rd:dG H 6 v (cs.map Cell.cs))(aa:∀c∈cs,0<=c.inst/\c.inst<=70000)(av:cs.length<=70000)(m:L.length+cs.length<=10000000)(n:70000<N)(jj:List J->U->bh):
 cr (Bk aJ N (H++[.log (L.map bA) 1 3 .rw,bx]) v (.int .i64 cs.length) jj) N [j_ H L,.int .i64 0] (H++[.log (L.map bA) 1 3 .rw,bx])=jj [j_ H (L++eP (cs.map λc=>c.inst))] (H++[.log ((L++eP (cs.map λc=>c.inst)).map bA) 1 3 .rw,bx]):=by
 refine hq (λi=>[j_ H (L++eP ((cs.take i).map λc=>c.inst)),.int .i64 (i:Int)]) (λi=>H++[.log ((L++eP ((cs.take i).map λc=>c.inst)).map bA) 1 3 .rw,bx]) cs.length (by omega) (by simp [eP]) (by simp [eP]) (λi ag K=>?_) λK=>?_
 ·obtain⟨c,b⟩:=cQ ag
  have az:i<9223372036854775807:=by omega
  have aO:cs.take (i+1)=cs.take i++[c]:=py b
  have j:(cs.map Cell.cs)[i]?=I c.cs:=by rw[ja,b];rfl
  obtain⟨Y,e⟩:∃Y,Y=L++eP ((cs.take i).map λc=>c.inst):=⟨_,rfl⟩
  have k:Y.length<=10000000:=by
   have h1:=zj ((cs.take i).map λc=>c.inst)
   rw[dn,kz]at h1
   rw[e,dW]
   omega
  have aD:=eW rd .i64 j
  have aE:∀X,ab true 6 (c' v c.cs i 0) (H++X)=I (.agg c.cs):=λX=>(e0 (h4 rd X) j _ _ _).trans (fQ rfl)
  have g:=λgx=>zh (H:=H) (t:=[bx]) (rest:=[.box c.cs 41 .rw]) (L0:=L) (L:=gx) (zi H gx ((i+1:Nat):Int))
  simp only[jQ,hy]at g
  have b0:IntKind.i64.wrap (c.inst-1)=c.inst-1:=by have:=aa c (dH b);rw[wrap64 (by unfold dr;omega)]
  have l:eP ((cs.take (i+1)).map λc=>c.inst)=if c.inst=0 then eP ((cs.take i).map λc=>c.inst)else eP ((cs.take i).map λc=>c.inst)++[c.inst-1]:=by
   rw[aO,ll];exact SR _ _
  rw[l]
  unfold Bk
  by_cases bq:c.inst=0
  ·have h:(c.inst !=0)=false:=by rw[bq];rfl
   rw[aQ bq,←e]
   simp only[aS,↓aF,aT,l7,lh,cL ag,cm,aZ,aD,aE,Fl,Fo,wz,h,bg,bd,cI az,g]
  ·have h:(c.inst !=0)=true:=bne_iff_ne.2 bq
   rw[a1 bq,←eo,←e]
   simp only[aS,↓aF,aT,l7,lh,cL ag,cm,aZ,aD,aE,Fl,Fo,wz,h,b0,pL,pM,kn,pN,JY k,cI az,g]
 ·have aC:((cs.length:Int)<(cs.length:Int))=False:=dK (by omega)
  unfold Bk
  simp only[aS,↓aF,aT,l7,lh,aC,cW,bg,bd,h6]
theorem ag0{N:Nat}{H:U}{A:aU->J}{s:aK}(rs:fJ H A s)(aj:s.ax.length<=1000)(aa:∀p∈s.ax,p.2.length<=2000/\∀c∈p.2,0<=c.inst/\c.inst<=70000)(o:70000<N)(jj:List J->U->bh):
 cr (Bl aJ N (H++[.log [] 1 3 .rw]) (A .ax) (.int .i64 s.ax.length) jj) N [.ref H.length 0 0 0 1,.int .i64 0] (H++[.log [] 1 3 .rw])=jj [j_ H (eP (s.ax.flatMap ci))] (H++[.log ((eP (s.ax.flatMap ci)).map bA) 1 3 .rw]):=by
 refine hq (λi=>[j_ H (eP ((s.ax.take i).flatMap ci)),.int .i64 (i:Int)]) (λi=>H++[.log ((eP ((s.ax.take i).flatMap ci)).map bA) 1 3 .rw]) s.ax.length (by omega) rfl rfl (λi ag K=>?_) λK=>?_
 ·obtain⟨p,e⟩:=cQ ag
  have az:i<9223372036854775807:=by omega
  have aO:s.ax.take (i+1)=s.ax.take i++[p]:=py e
  obtain⟨w,jX⟩:=aa p (dH e)
  obtain⟨L,h⟩:∃L,L=eP ((s.ax.take i).flatMap ci):=⟨_,rfl⟩
  have x:L.length<=2000000:=by
   have h1:=zj ((s.ax.take i).flatMap ci)
   have h2:=lU (l:=s.ax.take i) (f:=ci) (m:=2000) λa ha=>by
    unfold ci
    rw[dn]
    exact(aa a (od ha)).1
   rw[kz]at h2
   have ak:min i s.ax.length*2000<=1000*2000:=o0 _ (by omega)
   rw[←h]at h1
   omega
  have j:=qH (A:=A) e
  have dp:ao A s (.bZ i)=p.2.map Cell.cs:=by simp only[ao,e]
  have aD:bW 2 (A .ax) (.int .i64 (i:Int))=I (c' (A .ax) (e7 p (A (.bZ i))) i 0):=eW (rs .ax) .i64 j
  have aE:∀X,ab true 2 (c' (A .ax) (e7 p (A (.bZ i))) i 0) (H++X)=I (.agg (e7 p (A (.bZ i)))):=λX=>(e0 (h4 (rs .ax) X) j _ _ _).trans (fQ rfl)
  have g:dG H 6 (A (.bZ i)) (p.2.map Cell.cs):=by rw[←dp];exact rs (.bZ i)
  have k:=fH g
  rw[dn]at k
  have q:=λa b=>R6 p (A (.bZ i)) a b (kr g)
  have u:=λjj=>agZ (N:=N) (bx:=.box (e7 p (A (.bZ i))) 39 .rw) (L:=L) g jX (by omega) (by omega) o jj
  have n:=λgx=>zh (H:=H) (t:=[]) (rest:=[.box (e7 p (A (.bZ i))) 39 .rw]) (L0:=[]) (L:=gx) (zi H gx ((i+1:Nat):Int))
  simp only[List.map_nil,fu,hy]at n
  rw[aO,uB,Ft,←h,zz]
  unfold Bl
  simp only[aS,↓aF,aT,l7,lh,cL ag,cm,aZ,aD,aE,R7,q,qI,k,u,cI az,n]
  rfl
 ·have aC:((s.ax.length:Int)<(s.ax.length:Int))=False:=dK (by omega)
  unfold Bl
  simp only[aS,↓aF,aT,l7,lh,aC,cW,bg,bd,h6]
theorem ag1{N:Nat}{H:U}{v:J}{bx:cq}{L:List Int}{cs:List (Int×Int)}(rd:dG H 2 v (cs.map cM))(aa:∀c∈cs,0<=c.2/\c.2<=70000)(av:cs.length<=70000)(m:L.length+cs.length<=10000000)(n:70000<N)(jj:List J->U->bh):
 cr (Bi aJ N (H++[.log (L.map bA) 1 3 .rw,bx]) v (.int .i64 cs.length) jj) N [j_ H L,.int .i64 0] (H++[.log (L.map bA) 1 3 .rw,bx])=jj [j_ H (L++eP (cs.map λc=>c.2))] (H++[.log ((L++eP (cs.map λc=>c.2)).map bA) 1 3 .rw,bx]):=by
 refine hq (λi=>[j_ H (L++eP ((cs.take i).map λc=>c.2)),.int .i64 (i:Int)]) (λi=>H++[.log ((L++eP ((cs.take i).map λc=>c.2)).map bA) 1 3 .rw,bx]) cs.length (by omega) (by simp [eP]) (by simp [eP]) (λi ag K=>?_) λK=>?_
 ·obtain⟨c,b⟩:=cQ ag
  have az:i<9223372036854775807:=by omega
  have aO:cs.take (i+1)=cs.take i++[c]:=py b
  have j:(cs.map cM)[i]?=I (cM c):=by rw[ja,b];rfl
  obtain⟨Y,e⟩:∃Y,Y=L++eP ((cs.take i).map λc=>c.2):=⟨_,rfl⟩
  have k:Y.length<=10000000:=by
   have h1:=zj ((cs.take i).map λc=>c.2)
   rw[dn,kz]at h1
   rw[e,dW]
   omega
  have aD:=eW rd .i64 j
  have aE:∀X,ab true 2 (c' v (cM c) i 0) (H++X)=I (.agg (cM c)):=λX=>(e0 (h4 rd X) j _ _ _).trans (fQ rfl)
  have g:=λgx=>zh (H:=H) (t:=[bx]) (rest:=[.box (cM c) 89 .rw]) (L0:=L) (L:=gx) (zi H gx ((i+1:Nat):Int))
  simp only[jQ,hy]at g
  have b0:IntKind.i64.wrap (c.2-1)=c.2-1:=by have:=aa c (dH b);rw[wrap64 (by unfold dr;omega)]
  have l:eP ((cs.take (i+1)).map λc=>c.2)=if c.2=0 then eP ((cs.take i).map λc=>c.2)else eP ((cs.take i).map λc=>c.2)++[c.2-1]:=by
   rw[aO,ll];exact SR _ _
  rw[l]
  unfold Bi
  by_cases bq:c.2=0
  ·have h:(c.2 !=0)=false:=by rw[bq];rfl
   rw[aQ bq,←e]
   simp only[aS,↓aF,aT,l7,lh,cL ag,cm,aZ,aD,aE,JG,JH,y6,h,bg,bd,cI az,g]
  ·have h:(c.2 !=0)=true:=bne_iff_ne.2 bq
   rw[a1 bq,←eo,←e]
   simp only[aS,↓aF,aT,l7,lh,cL ag,cm,aZ,aD,aE,JG,JH,y6,h,b0,pL,pM,kn,pN,JY k,cI az,g]
 ·have aC:((cs.length:Int)<(cs.length:Int))=False:=dK (by omega)
  unfold Bi
  simp only[aS,↓aF,aT,l7,lh,aC,cW,bg,bd,h6]
theorem ag2{N:Nat}{H:U}{A:aU->J}{s:aK}(rs:fJ H A s)(aj:s.ai.length<=1000)(aa:∀x∈s.ai,x.keys.length<=2000/\∀c∈x.keys,0<=c.2/\c.2<=70000)(n:70000<N)(jj:List J->U->bh):
 cr (Bj aJ N (H++[.log [] 1 3 .rw]) (A .ai) (.int .i64 s.ai.length) jj) N [.ref H.length 0 0 0 1,.int .i64 0] (H++[.log [] 1 3 .rw])=jj [j_ H (eP (s.ai.flatMap hi))] (H++[.log ((eP (s.ai.flatMap hi)).map bA) 1 3 .rw]):=by
 refine hq (λi=>[j_ H (eP ((s.ai.take i).flatMap hi)),.int .i64 (i:Int)]) (λi=>H++[.log ((eP ((s.ai.take i).flatMap hi)).map bA) 1 3 .rw]) s.ai.length (by omega) rfl rfl (λi ag K=>?_) λK=>?_
 ·obtain⟨p,b⟩:=cQ ag
  have az:i<9223372036854775807:=by omega
  have aO:s.ai.take (i+1)=s.ai.take i++[p]:=py b
  obtain⟨u,jX⟩:=aa p (dH b)
  obtain⟨L,e⟩:∃L,L=eP ((s.ai.take i).flatMap hi):=⟨_,rfl⟩
  have w:L.length<=2000000:=by
   have h1:=zj ((s.ai.take i).flatMap hi)
   have h2:=lU (l:=s.ai.take i) (f:=hi) (m:=2000) λa ha=>by
    unfold hi
    rw[dn]
    exact(aa a (od ha)).1
   rw[kz]at h2
   have ak:min i s.ai.length*2000<=1000*2000:=o0 _ (by omega)
   rw[←e]at h1
   omega
  have g:=kQ (A:=A) b
  have dp:ao A s (.key i)=p.keys.map cM:=by simp only[ao,b]
  have aD:bW 33 (A .ai) (.int .i64 (i:Int))=I (c' (A .ai) (bT p (A (.key i)) (A (.bm i)) (A (.bk i)) (A (.bl i))) i 0):=eW (rs .ai) .i64 g
  have aE:∀X,ab true 33 (c' (A .ai) (bT p (A (.key i)) (A (.bm i)) (A (.bk i)) (A (.bl i))) i 0) (H++X)=I (.agg (bT p (A (.key i)) (A (.bm i)) (A (.bk i)) (A (.bl i)))):=λX=>(e0 (h4 (rs .ai) X) g _ _ _).trans (fQ rfl)
  have h:dG H 2 (A (.key i)) (p.keys.map cM):=by rw[←dp];exact rs (.key i)
  have j:=fH h
  rw[dn]at j
  have o:=Jm p (A (.key i)) (A (.bm i)) (A (.bk i)) (A (.bl i)) Jo (kr (rs (.key i))) (kr (rs (.bm i))) (kr (rs (.bk i))) (kr (rs (.bl i)))
  have q:=λjj=>ag1 (N:=N) (bx:=.box (bT p (A (.key i)) (A (.bm i)) (A (.bk i)) (A (.bl i))) 57 .rw) (L:=L) h jX (by omega) (by omega) n jj
  have k:=λgx=>zh (H:=H) (t:=[]) (rest:=[.box (bT p (A (.key i)) (A (.bm i)) (A (.bk i)) (A (.bl i))) 57 .rw]) (L0:=[]) (L:=gx) (zi H gx ((i+1:Nat):Int))
  simp only[List.map_nil,fu,hy]at k
  rw[aO,uB,Ft,←e,zz]
  unfold Bj
  simp only[aS,↓aF,aT,l7,lh,cL ag,cm,aZ,aD,aE,Jn,o,jE,j,q,cI az,k]
  rfl
 ·have aC:((s.ai.length:Int)<(s.ai.length:Int))=False:=dK (by omega)
  unfold Bj
  simp only[aS,↓aF,aT,l7,lh,aC,cW,bg,bd,h6]
structure mD(h H:U)(A:aU->J)(s:aK):Prop where
 own:c2 h dM H A s
 cd:H[h.length]?=I (.box (aW A s) 27 .rw)
 cO:H[h.length+1]?=I eu
theorem mD.oY{h H:U}{A:aU->J}{s:aK}(st:mD h H A s){o:Nat}{v:J}(aw:(aW A s)[o]?=I v)(X:U):ab false 1 (.ptr h.length o) (H++X)=I v:=eJ (fp.app _ _ _ _ _ _ st.cd) aw
theorem mD.zk{h H:U}{A:aU->J}{s:aK}(st:mD h H A s)(X:U):ab true 13 (.ptr h.length 0) (H++X)=I (.agg (aW A s)):=jl (fp.app _ _ _ _ _ _ st.cd) rfl
theorem mD.low{h H cx X:U}{A c:aU->J}{s e:aK}(st:mD h H A s)(own:c2 (H++X) dM cx c e):c2 h dM cx c e/\cx[h.length]?=I (.box (aW A s) 27 .rw)/\cx[h.length+1]?=I eu:=by
 have eY:=(List.getElem?_eq_some_iff.1 st.cd).1
 have g:=(List.getElem?_eq_some_iff.1 st.cO).1
 have i:(H++X).length=H.length+X.length:=by simp
 refine⟨own.lower (by omega) λb ae=>?_,?_,?_⟩
 ·rw[cG (by omega)];exact st.own.cF b ae
 ·rw[own.cF _ (by omega),cG eY];exact st.cd
 ·rw[own.cF _ (by omega),cG g];exact st.cO
theorem mD.of{h cx:U}{A b:aU->J}{s c:aK}(own:c2 h dM cx b c)(cd:cx[h.length]?=I (.box (aW A s) 27 .rw))(cO:cx[h.length+1]?=I eu):
 ∃G,a_ 13 (.ptr h.length 0) (.agg (aW b c)) cx=I G/\mD h G b c:=by
 have eY:=(List.getElem?_eq_some_iff.1 cd).1
 exact⟨_,Fu cd own.rs,own.box cd (ca _) _,fr eY,by rw[hj (by omega)];exact cO⟩
theorem mD.next{h H cx X:U}{A b:aU->J}{s c:aK}(st:mD h H A s)(own:c2 (H++X) dM cx b c):∃G,a_ 13 (.ptr h.length 0) (.agg (aW b c)) cx=I G/\mD h G b c:=by
 obtain⟨o,cd,cO⟩:=st.low own
 exact mD.of o cd cO
theorem mD.fin{h H cx X:U}{A c:aU->J}{s b:aK}(st:mD h H A s)(own:c2 (H++X) dM cx c b):∃G,a_ 13 (.ptr (h.length+1) 0) (.agg (aW c b)) cx=I G/\ab true 13 (.ptr (h.length+1) 0) G=I (.agg (aW c b))/\aL [.agg jf,.ah] h G [.agg (aW c b),.int .i64 0]=I (.tuple [.agg b.cs,.int .i64 0],h):=by
 obtain⟨o,cd,cO⟩:=st.low own
 have e:a_ 13 (.ptr (h.length+1) 0) (.agg (aW c b)) cx=I (cx.set (h.length+1) (.box (aW c b) 27 .rw)):=by
  unfold a_
  rw[show(cC (b' (J.agg (aW c b))).length 13&&fD 0 13)=true from rfl]
  simp only[gq,cO]
  show((cy _ 0 (aW c b)).map _)=_
  rw[wm o.rs];rfl
 have g:(cx.set (h.length+1) (.box (aW c b) 27 .rw))[h.length+1]?=I (.box (aW c b) 27 .rw):=fr (List.getElem?_eq_some_iff.1 cO).1
 exact⟨_,e,jl g rfl,SH (o.box cO (by omega) _) 0⟩
structure ky(s:aK):Prop where
 ax:s.ax.length<=1000
 bZ:∀p∈s.ax,p.2.length<=2000
 ai:s.ai.length<=1000
 keys:∀x∈s.ai,x.keys.length<=2000
theorem ky.zb{s:aK}(ok:wi s):ky s:=by
 have aj:=ok.EV
 have b:fT s.cb 2<=256:=qz (λr=>mu r 2<=256) (by decide) (by decide) (by decide) (by decide) (by decide) (by decide) (by decide) s.cb
 have ag:=ok.IZ
 unfold b8 at aj
 simp only[dx,fi]at aj
 refine⟨by omega,λp aj=>by have:=(JL ok aj).1;omega,by omega,λx af=>?_⟩
 have:=(JK ok af).1
 unfold pF at this
 simp only[dx,Bool.or_eq_true,iE]at this
 obtain⟨_,_,h1,_⟩:=this
 omega
theorem ky.fK{s:aK}(b:ky s):ky (Go.aN.X.fK s):=by
 refine⟨b.ax,b.bZ,?_,λx af=>?_⟩
 ·show(s.ai.mapIdx _).length<=_
  rw[ln];exact b.ai
 ·obtain⟨i,ag,rfl⟩:=List.mem_mapIdx.1 (show x∈s.ai.mapIdx _ from af)
  unfold jF
  split
  ·exact b.keys _ (pX ag)
  ·show(gv _ 120).length<=_
   rw[Ja];decide
theorem ky.hC{s:aK}{to:List Int}(b:ky s)(p:db to s.ax.length):ky (Go.aN.X.hC s to):=
 ⟨by show(eE _ _ _).length<=_;rw[kt];exact b.ax,λq bs=>b.bZ q (pS p bs),b.ai,b.keys⟩
theorem ky.jo{s:aK}{to:List Int}(b:ky s)(p:db to s.ai.length):ky (Go.aN.X.jo s to):=
 ⟨by show(s.ax.map _).length<=_;rw[dn];exact b.ax,λq bs=>by
  obtain⟨c,ck,rfl⟩:=List.mem_map.1 (show q∈s.ax.map (jG to)from bs)
  simp only[jG,dn];exact b.bZ c ck,by show(eE _ _ _).length<=_;rw[kt];exact b.ai,λx af=>b.keys x (pS p af)⟩
theorem SS{α:Type}{f:α->List Int}{m:Nat}{l:List α}(av:l.length<=1000)(hm:m<=2000)(h:∀a∈l,(f a).length<=m):(eP (l.flatMap f)).length<=10000000:=by
 have h1:=zj (l.flatMap f)
 have h2:=lU h
 have ak:l.length*m<=1000*2000:=Nat.mul_le_mul av hm
 omega
theorem ky.cells{s:aK}(b:ky s):(eP (s.ax.flatMap ci)).length<=10000000:=SS b.ax (ca _) λp aj=>by
 unfold ci
 rw[dn];exact b.bZ p aj
theorem ky.ag3{s:aK}(b:ky s):(eP (s.ai.flatMap hi)).length<=10000000:=SS b.ai (ca _) λp aj=>by
 unfold hi
 rw[dn];exact b.keys p aj
theorem hx.ag4{s:aK}(b:hx s)(t:ky s):∀p∈s.ax,p.2.length<=2000/\∀c∈p.2,0<=c.inst/\c.inst<=70000:=λp aj=>⟨t.bZ p aj,λc aa=>by
 have h1:=b.qM p aj c aa
 have h2:il s<=70000:=by unfold il;split;exact b.fS.ai;exact b.fS.aG
 unfold g_ at h1
 omega⟩
theorem hx.ag5{s:aK}(b:hx s)(t:ky s):∀x∈s.ai,x.keys.length<=2000/\∀c∈x.keys,0<=c.2/\c.2<=70000:=λp aj=>⟨t.keys p aj,λc aa=>by
 have h1:=b.keys p aj c aa
 have h2:=b.fS.aG
 unfold g_ at h1
 omega⟩
theorem sR(s:aK)(av:gl s)(h:U):aJ 15 [.agg s.cs] h=I (sQ s,h):=by
 obtain⟨N,L⟩:∃N:Nat,70000<N:=⟨_,fs _⟩
 refine cg (F:=Bh) (by kernel_rfl) N ?_
 rw[Y7];unfold M4 sQ
 have M:∀H,dh (.agg jf) (.agg s.cs) H=I (.agg s.cs,H):=λH=>AY H rfl
 cases aw:((np s).2.2==0)with
 |false=>simp only[aS,↓aF,aT,iB,M,JX s av,aw,gp,bg,bd,aZ,k5,we,yY _ _ _ _ _ _ _ _ _ _ _ _ _ _ _ _ _ _ _ _ _ yZ,yX,ET]
 |true=>
  have ok:=I0 aw
  have b:=hx.zb ok
  have a4:=ky.zb ok
  obtain⟨au,n⟩:∃au,au=h++[cq.box s.cs 27 .rw,eu]:=⟨_,rfl⟩
  have O:=n
  unfold eu at O
  have eY:au.length=h.length+2:=by rw[n];simp
  have ar:ab true 13 (.ptr h.length 0) au=I (.agg s.cs):=by rw[n];exact jl (vs:=s.cs) (by rw[eQ];rfl) rfl
  obtain⟨⟨bu,ay⟩,P,A1,az,B⟩:=yw s (jk s) au (Q_ au s) b.fS b.ne
  simp only at az B
  subst az
  rw[Q9]at P
  have a5:ay[h.length]?=I (.box (aW (jk s) s) 27 .rw):=by rw[B.cF _ (by omega),n,eQ];rfl
  have cE:ay[h.length+1]?=I eu:=by rw[B.cF _ (by omega),n,fP];rfl
  obtain⟨Q,oq,je⟩:=mD.of (B.lower (h:=h) (by omega) (λb ae=>by rw[n,cG ae])) a5 cE
  have C:=b.fK
  have a6:=a4.fK
  obtain⟨g,D⟩:∃g,g=s.bo.filter λo=>!mark o:=⟨_,rfl⟩
  have aA:=je.own.rs .bo
  have R:=fH aA
  have a7:(ao A1 (fK s) .bo).length=s.bo.length:=by simp [ao,fK]
  rw[a7]at R
  have S:=λjj=>agY (N:=N) (H:=Q) (v:=A1 .bo) (l:=s.bo) aA b.fS.bo L jj
  rw[←D]at S
  obtain⟨a8,aB⟩:=JZ Q g
  have T:=fH (je.own.rs .ax)
  have a9:(ao A1 (fK s) .ax).length=s.ax.length:=by simp [ao,fK]
  rw[a9]at T
  have aD:∀x∈g,l5 s.ax.length x:=λx af=>by
   rw[D]at af
   obtain⟨h1,h2⟩:=List.mem_filter.1 af
   exact b.bo x h1 (by simpa using h2)
  have aE:=λH=>vB (h:=H) b.fS.ax (show g.length<=10000000 by
   have h1:=TE (λo=>!mark o) s.bo
   have h2:=b.fS.bo
   rw[←D]at h1
   omega) aD
  have a_:fN g s.ax.length=fN (dL s.bo) s.ax.length:=by rw[D];exact(agC b.bo).symm
  have V:db (fN g s.ax.length) s.ax.length:=n_ aD
  obtain⟨⟨bv,bw⟩,W,ep,aH,X⟩:=agT (fK s) A1 (Q++[a8]) (je.own.rs.app _) C.fS C.ne V C.bo
  simp only at aH X
  subst aH
  have Y:hC (fK s) (fN g s.ax.length)=dq s:=by rw[a_];rfl
  rw[Y]at W X
  have cO:hx (dq s):=by rw[←Y];exact C.hC V
  have E:ky (dq s):=by rw[←Y];exact a6.hC V
  have Z:oa (dq s):=(agI s).hC _
  obtain⟨ac,aI,gE⟩:=je.next X
  have sw:(dq s).ax.length=s.ax.length:=kt _ _ _
  have ad:=fH (gE.own.rs .ax)
  have a':(ao ep (dq s) .ax).length=(dq s).ax.length:=by simp [ao]
  rw[a']at ad
  have ag:=λjj=>ag0 (N:=N) gE.own.rs E.ax (cO.ag4 E) L jj
  obtain⟨e,ak⟩:∃e,e=eP ((dq s).ax.flatMap ci):=⟨_,rfl⟩
  have G:e=l6 (dq s):=by rw[ak];exact(agH cO).symm
  have aL:e.length<=10000000:=by rw[ak];exact E.cells
  rw[←ak]at ag
  obtain⟨aM,aN⟩:=JZ ac e
  have aO:=λH=>JQ ep (dq s) H
  have hd:(dq s).cb=s.cb:=rfl
  have aP:(dq s).aG.length=s.aG.length:=rfl
  have u:(dq s).ai.length=s.ai.length:=by show(s.ai.mapIdx _).length=_;rw[ln]
  cases bs:eZ s.cb 6 with
  |false=>
   have q:il (dq s)=s.aG.length:=by unfold il;rw[hd,a1 (by rw[bs];decide),aP]
   have jw:lg s=h5 (dq s) (fN e s.aG.length):=by unfold lg;rw[a1 (by rw[bs];decide),G]
   have w:∀x∈e,l5 s.aG.length x:=by rw[G,←q];exact ua cO
   have al:=λH=>vB (h:=H) b.fS.aG aL w
   have i:db (fN e s.aG.length) (dq s).aG.length:=n_ w
   have y:=fH (gE.own.rs .aG)
   have am:(ao ep (dq s) .aG).length=s.aG.length:=by rw[←aP];simp [ao]
   rw[am]at y
   obtain⟨⟨ba,bb⟩,z,J,A,m⟩:=SQ (dq s) ep (ac++[aM]) (gE.own.rs.app _) cO.fS cO.ne Z i (λ_ p aj c aa=>by have:=cO.qM p aj c aa;rwa [q]at this) cO.keys
   simp only at A m
   subst A
   rw[←jw]at z m
   obtain⟨F,f2,f3,f4⟩:=gE.fin m
   simp only[aS,↓aF,aT,←O,ar,M,JX s av,aw,e3,gp,bg,bd,aZ,P,oq,je.oY (rG _ _),R,S,je.zk,je.oY (kR _ _),T,aB,aE,qj,W,aI,gE.oY (kR _ _),ad,ag,gE.zk,aO,hd,bs,gE.oY (mB _ _),y,aN,al,z,f2,f3,f4]
  |true=>
   have q:il (dq s)=s.ai.length:=by unfold il;rw[hd,aQ bs,u]
   have jw:lg s=h5 (fV s) (fN (eP ((fV s).ai.flatMap hi)) s.aG.length):=by
    have i:db (fN (l6 (dq s)) s.ai.length) (dq s).ai.length:=by
     rw[u];exact n_ (by rw[←q];exact ua cO)
    have j:hx (fV s):=cO.jo i (by rw[hd];exact bs)
    unfold lg;rw[aQ bs,SO j]
   have w:∀x∈e,l5 s.ai.length x:=by rw[G,←q];exact ua cO
   have al:=λH=>vB (h:=H) b.fS.ai aL w
   have i:db (fN e s.ai.length) (dq s).ai.length:=by rw[u];exact n_ w
   have y:=fH (gE.own.rs .ai)
   have am:(ao ep (dq s) .ai).length=s.ai.length:=by rw[←u];simp [ao]
   rw[am]at y
   obtain⟨⟨ba,bb⟩,z,J,A,m⟩:=agU (dq s) ep (ac++[aM]) (gE.own.rs.app _) cO.fS cO.ne Z (by rw[hd];exact bs) i (λp aj c aa=>by have:=cO.qM p aj c aa;rwa [q,←u]at this)
   simp only at A m
   subst A
   have K:jo (dq s) (fN e s.ai.length)=fV s:=by rw[G];rfl
   rw[K]at z m
   have j:hx (fV s):=by rw[←K];exact cO.jo i (by rw[hd];exact bs)
   have an:ky (fV s):=by rw[←K];exact E.jo i
   have be:oa (fV s):=by rw[←K];exact Z.jo i
   obtain⟨aR,bf,k⟩:=gE.next m
   have aU:(fV s).aG.length=s.aG.length:=rfl
   have bh:(fV s).cb=s.cb:=rfl
   have aV:=fH (k.own.rs .ai)
   have bi:(ao J (fV s) .ai).length=(fV s).ai.length:=by simp [ao]
   rw[bi]at aV
   have aX:=λjj=>ag2 (N:=N) k.own.rs an.ai (j.ag5 an) L jj
   obtain⟨t,ap⟩:∃t,t=eP ((fV s).ai.flatMap hi):=⟨_,rfl⟩
   have bj:t.length<=10000000:=by rw[ap];exact an.ag3
   rw[←ap]at aX jw
   obtain⟨bn,bp⟩:=JZ aR t
   have aY:∀x∈t,l5 s.aG.length x:=by
    rw[ap,←SO j]
    exact zc (by rw[←aU];exact Fp j)
   have bq:=λH=>vB (h:=H) b.fS.aG bj aY
   have br:db (fN t s.aG.length) (fV s).aG.length:=n_ aY
   have a0:=fH (k.own.rs .aG)
   have bt:(ao J (fV s) .aG).length=s.aG.length:=by rw[←aU];simp [ao]
   rw[bt]at a0
   obtain⟨⟨bx,bA⟩,a2,bB,a3,aq⟩:=SQ (fV s) J (aR++[bn]) (k.own.rs.app _) j.fS j.ne be br (λaC=>by rw[bh,bs]at aC;cases aC) j.keys
   simp only at a3 aq
   subst a3
   rw[←jw]at a2 aq
   obtain⟨F,f2,f3,f4⟩:=k.fin aq
   simp only[aS,↓aF,aT,←O,ar,M,JX s av,aw,e3,gp,bg,bd,aZ,P,oq,je.oY (rG _ _),R,S,je.zk,je.oY (kR _ _),T,aB,aE,qj,W,aI,gE.oY (kR _ _),ad,ag,gE.zk,aO,hd,bs,gE.oY (iD _ _),y,aN,al,z,bf,k.oY (iD _ _),aV,aX,k.zk,k.oY (mB _ _),a0,bp,bq,a2,f2,f3,f4]
theorem J0(x y:Int×Int):lu [.int,.int] true (.agg (cM x)) (.agg (cM y))=I (.bool (decide (x≠y))):=by
 obtain⟨a,b⟩:=x
 obtain⟨c,d⟩:=y
 simp only[lu,jY,cM]
 by_cases h1:a=c<;>by_cases h2:b=d<;>simp [h1,h2]
theorem SU(c:Int×Int):eT true 0 2 (cM c)=I (.agg (cM c)):=fQ rfl
theorem sS{α:Type}[DecidableEq α]{a b:List α}(br:a.length=b.length){i:Nat}{x y:α}(h1:a[i]?=I x)(h2:b[i]?=I y)(c:x≠y):decide (a=b)=false:=by
 rw[h7]
 rintro rfl
 rw[h1]at h2
 cases h2
 exact c rfl
theorem sT{α:Type}[DecidableEq α]{a b:List α}(br:a.length=b.length)(h:∀(i:Nat) (x y:α),a[i]?=I x->b[i]?=I y->x=y):decide (a=b)=true:=by
 rw[fi]
 apply List.ext_getElem br
 intro i h1 h2
 exact h i _ _ (gb h1) (gb h2)
theorem sU{α:Type}[DecidableEq α]{a b:List α}(h:a.length≠b.length):decide (a=b)=false:=by
 rw[h7]
 rintro rfl
 exact h rfl
def fW{α:Type}[DecidableEq α](a b:List α)(i:Nat):Bool:=match a[i]?,b[i]? with
 |some x,I y=>decide (x≠y)
 |_,_=>false
theorem SV(c:Int×Int):eT true 0 2 (iN c)=I (.agg (iN c)):=fQ rfl
theorem SW(x y:Int×Int):lu [.int,.int] true (.agg (iN x)) (.agg (iN y))=I (.bool (decide (x≠y))):=J0 x y
instance:DecidableEq Cell:=λx y=>
 if h:x.note=y.note/\x.inst=y.inst/\x.oJ=y.oJ/\x.lz=y.lz/\x.kp=y.kp/\x.vN=y.vN then isTrue (by
  obtain⟨a,b,c,d,e,f⟩:=x
  obtain⟨a',bf,g,i,e',bR⟩:=y
  obtain⟨rfl,rfl,rfl,rfl,rfl,rfl⟩:=h
  rfl)
 else isFalse (by rintro rfl;exact h ⟨rfl,rfl,rfl,rfl,rfl,rfl⟩)
theorem SX(x y:Cell):lu [.int,.int,.int,.int,.int,.int] true (.agg x.cs) (.agg y.cs)=I (.bool (decide (x≠y))):=by
 obtain⟨a,b,c,d,e,f⟩:=x
 obtain⟨a',bf,g,h,e',bR⟩:=y
 simp only[lu,jY,Cell.cs,aZ,dm,Bool.true_bne]
 congr 2
 rw[Bool.eq_iff_iff]
 simp [Cell.mk.injEq]
theorem SY(x y:Int):(x !=y)=decide (x≠y):=by
 by_cases h:x=y<;>simp [h]
theorem J1(a b:List Int)(hm:a.length<9223372036854775808)(h:U):aJ 33 [dj a,dj b] h=I (.bool (decide (a=b)),h):=by
 obtain⟨N,k⟩:∃N:Nat,a.length<N:=⟨_,fs _⟩
 refine cg (F:=BD) (by kernel_rfl) N ?_
 rw[Zg];unfold Nd
 by_cases br:a.length=b.length
 ·have c:((a.length:Int) !=(b.length:Int))=false:=by rw[br];simp
  simp only[aS,↓aF,aT,lx,gG,c,bg,bd]
  have e:∀(i:Nat) (K:List J->U->bh) (g:List J->U->bh),i<a.length->BE aJ N (dj a) (dj b) h h (.int .i64 a.length) g K [.int .i64 i] h=if fW a b i=true then I (.bool false,h)else K [.int .i64 ((i+1:Nat):Int)] h:=λi K g ag=>by
   obtain⟨x,af⟩:=cQ ag
   obtain⟨y,ba⟩:=cQ (show i<b.length by omega)
   unfold BE fW
   simp only[aS,↓aF,aT,cL ag,cm,aZ,nd _ af,nd _ ba,tS,gG,SY,af,ba,dR,cI (show i<9223372036854775807 by omega)]
   cases decide (x≠y)<;>simp only[aZ,bg,bd,jd]
  refine ly (fW a b) (λi=>[.int .i64 (i:Int)]) (λ_=>h) a.length k rfl rfl (λi ag ae K=>?_) (λi ag ae j K=>?_) (λj K=>?_)
  ·rw[e i K _ ag,a1 (by rw[ae];decide)]
  ·rw[e i K _ ag,aQ ae]
   obtain⟨x,af⟩:=cQ ag
   obtain⟨y,ba⟩:=cQ (show i<b.length by omega)
   unfold fW at ae
   simp only[af,ba,fi]at ae
   rw[sS br af ba ae]
  ·unfold BE
   simp only[aS,↓aF,aT,fR,cW,bg,bd,dR]
   rw[sT br]
   intro i x y af ba
   have:=j i (List.getElem?_eq_some_iff.1 af).1
   unfold fW at this
   simpa only[af,ba,h7,uC]using this
 ·have c:((a.length:Int) !=(b.length:Int))=true:=by rw[kX];omega
  simp only[aS,↓aF,aT,lx,gG,c,aZ,dR,sU br]
theorem tw(a b:List Int)(hm:a.length<9223372036854775808)(h:U):aJ 26 [dj a,dj b] h=I (.bool (decide (a=b)),h):=by
 obtain⟨N,k⟩:∃N:Nat,a.length<N:=⟨_,fs _⟩
 refine cg (F:=Bs) (by kernel_rfl) N ?_
 rw[Y'];unfold M8
 by_cases br:a.length=b.length
 ·have c:((a.length:Int) !=(b.length:Int))=false:=by rw[br];simp
  simp only[aS,↓aF,aT,lx,gG,c,bg,bd]
  have e:∀(i:Nat) (K:List J->U->bh) (g:List J->U->bh),i<a.length->Bt aJ N (dj a) (dj b) h h (.int .i64 a.length) g K [.int .i64 i] h=if fW a b i=true then I (.bool false,h)else K [.int .i64 ((i+1:Nat):Int)] h:=λi K g ag=>by
   obtain⟨x,af⟩:=cQ ag
   obtain⟨y,ba⟩:=cQ (show i<b.length by omega)
   unfold Bt fW
   simp only[aS,↓aF,aT,cL ag,cm,aZ,nd _ af,nd _ ba,tS,gG,SY,af,ba,dR,cI (show i<9223372036854775807 by omega)]
   cases decide (x≠y)<;>simp only[aZ,bg,bd,jd]
  refine ly (fW a b) (λi=>[.int .i64 (i:Int)]) (λ_=>h) a.length k rfl rfl (λi ag ae K=>?_) (λi ag ae j K=>?_) (λj K=>?_)
  ·rw[e i K _ ag,a1 (by rw[ae];decide)]
  ·rw[e i K _ ag,aQ ae]
   obtain⟨x,af⟩:=cQ ag
   obtain⟨y,ba⟩:=cQ (show i<b.length by omega)
   unfold fW at ae
   simp only[af,ba,fi]at ae
   rw[sS br af ba ae]
  ·unfold Bt
   simp only[aS,↓aF,aT,fR,cW,bg,bd,dR]
   rw[sT br]
   intro i x y af ba
   have:=j i (List.getElem?_eq_some_iff.1 af).1
   unfold fW at this
   simpa only[af,ba,h7,uC]using this
 ·have c:((a.length:Int) !=(b.length:Int))=true:=by rw[kX];omega
  simp only[aS,↓aF,aT,lx,gG,c,aZ,dR,sU br]
theorem ag6(a b:List Cell)(hm:a.length<9223372036854775808)(h:U):aJ 131 [hO a,hO b] h=I (.bool (decide (a=b)),h):=by
 obtain⟨N,k⟩:∃N:Nat,a.length<N:=⟨_,fs _⟩
 refine cg (F:=Dn) (by kernel_rfl) N ?_
 rw[abS];unfold OD
 by_cases br:a.length=b.length
 ·have c:((a.length:Int) !=(b.length:Int))=false:=by rw[br];simp
  simp only[aS,↓aF,aT,lA,gG,c,bg,bd]
  have e:∀(i:Nat) (K:List J->U->bh) (g:List J->U->bh),i<a.length->Dp aJ N (hO a) (hO b) h h (.int .i64 a.length) g K [.int .i64 i] h=if fW a b i=true then I (.bool false,h)else K [.int .i64 ((i+1:Nat):Int)] h:=λi K g ag=>by
   obtain⟨x,af⟩:=cQ ag
   obtain⟨y,ba⟩:=cQ (show i<b.length by omega)
   unfold Dp fW
   simp only[aS,↓aF,aT,cL ag,cm,aZ,oL _ af,oL _ ba,Fm,SX,af,ba,dR,cI (show i<9223372036854775807 by omega)]
   cases decide (x≠y)<;>simp only[aZ,bg,bd,jd]
  refine ly (fW a b) (λi=>[.int .i64 (i:Int)]) (λ_=>h) a.length k rfl rfl (λi ag ae K=>?_) (λi ag ae j K=>?_) (λj K=>?_)
  ·rw[e i K _ ag,a1 (by rw[ae];decide)]
  ·rw[e i K _ ag,aQ ae]
   obtain⟨x,af⟩:=cQ ag
   obtain⟨y,ba⟩:=cQ (show i<b.length by omega)
   unfold fW at ae
   simp only[af,ba,fi]at ae
   rw[sS br af ba ae]
  ·unfold Dp
   simp only[aS,↓aF,aT,fR,cW,bg,bd,dR]
   rw[sT br]
   intro i x y af ba
   have:=j i (List.getElem?_eq_some_iff.1 af).1
   unfold fW at this
   simpa only[af,ba,h7,uC]using this
 ·have c:((a.length:Int) !=(b.length:Int))=true:=by rw[kX];omega
  simp only[aS,↓aF,aT,lA,gG,c,aZ,dR,sU br]
theorem H0(a b:List Cell)(hm:a.length<9223372036854775808)(h:U):aJ 73 [hO a,hO b] h=I (.bool (decide (a=b)),h):=by
 obtain⟨N,k⟩:∃N:Nat,a.length<N:=⟨_,fs _⟩
 refine cg (F:=Cm) (by kernel_rfl) N ?_
 rw[ZI];unfold NJ
 by_cases br:a.length=b.length
 ·have c:((a.length:Int) !=(b.length:Int))=false:=by rw[br];simp
  simp only[aS,↓aF,aT,lA,gG,c,bg,bd]
  have e:∀(i:Nat) (K:List J->U->bh) (g:List J->U->bh),i<a.length->Cn aJ N (hO a) (hO b) h h (.int .i64 a.length) g K [.int .i64 i] h=if fW a b i=true then I (.bool false,h)else K [.int .i64 ((i+1:Nat):Int)] h:=λi K g ag=>by
   obtain⟨x,af⟩:=cQ ag
   obtain⟨y,ba⟩:=cQ (show i<b.length by omega)
   unfold Cn fW
   simp only[aS,↓aF,aT,cL ag,cm,aZ,oL _ af,oL _ ba,Fm,SX,af,ba,dR,cI (show i<9223372036854775807 by omega)]
   cases decide (x≠y)<;>simp only[aZ,bg,bd,jd]
  refine ly (fW a b) (λi=>[.int .i64 (i:Int)]) (λ_=>h) a.length k rfl rfl (λi ag ae K=>?_) (λi ag ae j K=>?_) (λj K=>?_)
  ·rw[e i K _ ag,a1 (by rw[ae];decide)]
  ·rw[e i K _ ag,aQ ae]
   obtain⟨x,af⟩:=cQ ag
   obtain⟨y,ba⟩:=cQ (show i<b.length by omega)
   unfold fW at ae
   simp only[af,ba,fi]at ae
   rw[sS br af ba ae]
  ·unfold Cn
   simp only[aS,↓aF,aT,fR,cW,bg,bd,dR]
   rw[sT br]
   intro i x y af ba
   have:=j i (List.getElem?_eq_some_iff.1 af).1
   unfold fW at this
   simpa only[af,ba,h7,uC]using this
 ·have c:((a.length:Int) !=(b.length:Int))=true:=by rw[kX];omega
  simp only[aS,↓aF,aT,lA,gG,c,aZ,dR,sU br]
theorem ag7(a b:List (Int×Int))(hm:a.length<9223372036854775808)(h:U):aJ 132 [jC a,jC b] h=I (.bool (decide (a=b)),h):=by
 obtain⟨N,k⟩:∃N:Nat,a.length<N:=⟨_,fs _⟩
 refine cg (F:=Dq) (by kernel_rfl) N ?_
 rw[abT];unfold OE
 by_cases br:a.length=b.length
 ·have c:((a.length:Int) !=(b.length:Int))=false:=by rw[br];simp
  simp only[aS,↓aF,aT,n0,gG,c,bg,bd]
  have e:∀(i:Nat) (K:List J->U->bh) (g:List J->U->bh),i<a.length->Dr aJ N (jC a) (jC b) h h (.int .i64 a.length) g K [.int .i64 i] h=if fW a b i=true then I (.bool false,h)else K [.int .i64 ((i+1:Nat):Int)] h:=λi K g ag=>by
   obtain⟨x,af⟩:=cQ ag
   obtain⟨y,ba⟩:=cQ (show i<b.length by omega)
   unfold Dr fW
   simp only[aS,↓aF,aT,cL ag,cm,aZ,qx _ af,qx _ ba,SU,J0,af,ba,dR,cI (show i<9223372036854775807 by omega)]
   cases decide (x≠y)<;>simp only[aZ,bg,bd,jd]
  refine ly (fW a b) (λi=>[.int .i64 (i:Int)]) (λ_=>h) a.length k rfl rfl (λi ag ae K=>?_) (λi ag ae j K=>?_) (λj K=>?_)
  ·rw[e i K _ ag,a1 (by rw[ae];decide)]
  ·rw[e i K _ ag,aQ ae]
   obtain⟨x,af⟩:=cQ ag
   obtain⟨y,ba⟩:=cQ (show i<b.length by omega)
   unfold fW at ae
   simp only[af,ba,fi]at ae
   rw[sS br af ba ae]
  ·unfold Dr
   simp only[aS,↓aF,aT,fR,cW,bg,bd,dR]
   rw[sT br]
   intro i x y af ba
   have:=j i (List.getElem?_eq_some_iff.1 af).1
   unfold fW at this
   simpa only[af,ba,h7,uC]using this
 ·have c:((a.length:Int) !=(b.length:Int))=true:=by rw[kX];omega
  simp only[aS,↓aF,aT,n0,gG,c,aZ,dR,sU br]
theorem ag8(a b:List (Int×Int))(hm:a.length<9223372036854775808)(h:U):aJ 74 [jC a,jC b] h=I (.bool (decide (a=b)),h):=by
 obtain⟨N,k⟩:∃N:Nat,a.length<N:=⟨_,fs _⟩
 refine cg (F:=Co) (by kernel_rfl) N ?_
 rw[ZJ];unfold NK
 by_cases br:a.length=b.length
 ·have c:((a.length:Int) !=(b.length:Int))=false:=by rw[br];simp
  simp only[aS,↓aF,aT,n0,gG,c,bg,bd]
  have e:∀(i:Nat) (K:List J->U->bh) (g:List J->U->bh),i<a.length->Cp aJ N (jC a) (jC b) h h (.int .i64 a.length) g K [.int .i64 i] h=if fW a b i=true then I (.bool false,h)else K [.int .i64 ((i+1:Nat):Int)] h:=λi K g ag=>by
   obtain⟨x,af⟩:=cQ ag
   obtain⟨y,ba⟩:=cQ (show i<b.length by omega)
   unfold Cp fW
   simp only[aS,↓aF,aT,cL ag,cm,aZ,qx _ af,qx _ ba,SU,J0,af,ba,dR,cI (show i<9223372036854775807 by omega)]
   cases decide (x≠y)<;>simp only[aZ,bg,bd,jd]
  refine ly (fW a b) (λi=>[.int .i64 (i:Int)]) (λ_=>h) a.length k rfl rfl (λi ag ae K=>?_) (λi ag ae j K=>?_) (λj K=>?_)
  ·rw[e i K _ ag,a1 (by rw[ae];decide)]
  ·rw[e i K _ ag,aQ ae]
   obtain⟨x,af⟩:=cQ ag
   obtain⟨y,ba⟩:=cQ (show i<b.length by omega)
   unfold fW at ae
   simp only[af,ba,fi]at ae
   rw[sS br af ba ae]
  ·unfold Cp
   simp only[aS,↓aF,aT,fR,cW,bg,bd,dR]
   rw[sT br]
   intro i x y af ba
   have:=j i (List.getElem?_eq_some_iff.1 af).1
   unfold fW at this
   simpa only[af,ba,h7,uC]using this
 ·have c:((a.length:Int) !=(b.length:Int))=true:=by rw[kX];omega
  simp only[aS,↓aF,aT,n0,gG,c,aZ,dR,sU br]
theorem ag9(a b:List (Int×Int))(hm:a.length<9223372036854775808)(h:U):aJ 161 [hP a,hP b] h=I (.bool (decide (a=b)),h):=by
 obtain⟨N,k⟩:∃N:Nat,a.length<N:=⟨_,fs _⟩
 refine cg (F:=D4) (by kernel_rfl) N ?_
 rw[acj];unfold O4
 by_cases br:a.length=b.length
 ·have c:((a.length:Int) !=(b.length:Int))=false:=by rw[br];simp
  simp only[aS,↓aF,aT,sv,gG,c,bg,bd]
  have e:∀(i:Nat) (K:List J->U->bh) (g:List J->U->bh),i<a.length->D5 aJ N (hP a) (hP b) h h (.int .i64 a.length) g K [.int .i64 i] h=if fW a b i=true then I (.bool false,h)else K [.int .i64 ((i+1:Nat):Int)] h:=λi K g ag=>by
   obtain⟨x,af⟩:=cQ ag
   obtain⟨y,ba⟩:=cQ (show i<b.length by omega)
   unfold D5 fW
   simp only[aS,↓aF,aT,cL ag,cm,aZ,qy _ af,qy _ ba,SV,SW,af,ba,dR,cI (show i<9223372036854775807 by omega)]
   cases decide (x≠y)<;>simp only[aZ,bg,bd,jd]
  refine ly (fW a b) (λi=>[.int .i64 (i:Int)]) (λ_=>h) a.length k rfl rfl (λi ag ae K=>?_) (λi ag ae j K=>?_) (λj K=>?_)
  ·rw[e i K _ ag,a1 (by rw[ae];decide)]
  ·rw[e i K _ ag,aQ ae]
   obtain⟨x,af⟩:=cQ ag
   obtain⟨y,ba⟩:=cQ (show i<b.length by omega)
   unfold fW at ae
   simp only[af,ba,fi]at ae
   rw[sS br af ba ae]
  ·unfold D5
   simp only[aS,↓aF,aT,fR,cW,bg,bd,dR]
   rw[sT br]
   intro i x y af ba
   have:=j i (List.getElem?_eq_some_iff.1 af).1
   unfold fW at this
   simpa only[af,ba,h7,uC]using this
 ·have c:((a.length:Int) !=(b.length:Int))=true:=by rw[kX];omega
  simp only[aS,↓aF,aT,sv,gG,c,aZ,dR,sU br]
theorem ag_(a b:List (Int×Int))(hm:a.length<9223372036854775808)(h:U):aJ 130 [hP a,hP b] h=I (.bool (decide (a=b)),h):=by
 obtain⟨N,k⟩:∃N:Nat,a.length<N:=⟨_,fs _⟩
 refine cg (F:=Dl) (by kernel_rfl) N ?_
 rw[abR];unfold OC
 by_cases br:a.length=b.length
 ·have c:((a.length:Int) !=(b.length:Int))=false:=by rw[br];simp
  simp only[aS,↓aF,aT,sv,gG,c,bg,bd]
  have e:∀(i:Nat) (K:List J->U->bh) (g:List J->U->bh),i<a.length->Dm aJ N (hP a) (hP b) h h (.int .i64 a.length) g K [.int .i64 i] h=if fW a b i=true then I (.bool false,h)else K [.int .i64 ((i+1:Nat):Int)] h:=λi K g ag=>by
   obtain⟨x,af⟩:=cQ ag
   obtain⟨y,ba⟩:=cQ (show i<b.length by omega)
   unfold Dm fW
   simp only[aS,↓aF,aT,cL ag,cm,aZ,qy _ af,qy _ ba,SV,SW,af,ba,dR,cI (show i<9223372036854775807 by omega)]
   cases decide (x≠y)<;>simp only[aZ,bg,bd,jd]
  refine ly (fW a b) (λi=>[.int .i64 (i:Int)]) (λ_=>h) a.length k rfl rfl (λi ag ae K=>?_) (λi ag ae j K=>?_) (λj K=>?_)
  ·rw[e i K _ ag,a1 (by rw[ae];decide)]
  ·rw[e i K _ ag,aQ ae]
   obtain⟨x,af⟩:=cQ ag
   obtain⟨y,ba⟩:=cQ (show i<b.length by omega)
   unfold fW at ae
   simp only[af,ba,fi]at ae
   rw[sS br af ba ae]
  ·unfold Dm
   simp only[aS,↓aF,aT,fR,cW,bg,bd,dR]
   rw[sT br]
   intro i x y af ba
   have:=j i (List.getElem?_eq_some_iff.1 af).1
   unfold fW at this
   simpa only[af,ba,h7,uC]using this
 ·have c:((a.length:Int) !=(b.length:Int))=true:=by rw[kX];omega
  simp only[aS,↓aF,aT,sv,gG,c,aZ,dR,sU br]
theorem J2(h:U)(a b c d:cq)(r:List J):trim (h++[a,b]) r (h++[c,d])=h++[c,d]:=hr _ (by simp)
def sV(a b:ByteArray):Bool:=a.toList==b.toList
def mE(p q:eD):Bool:=(p.1==q.1)&&decide (p.2=q.2)
def rL(a b:bJ):Bool:=decide (a.dt=b.dt)&&(a.on==b.on)&&(a.tJ==b.tJ)&&(a.fg==b.fg)&&(a.tK==b.tK)&&(a.mr==b.mr)&&(a.ls==b.ls)&&(a.le==b.le)
def mF(a b:eS):Bool:=decide (a.data=b.data)&&sV a.name b.name&&(a.bits==b.bits)&&(a.oM==b.oM)&&(a.bm==b.bm)&&(a.bk==b.bk)&&(a.j0==b.j0)&&(a.lo==b.lo)&&(a.st==b.st)&&(a.jw==b.jw)&&(a.tE==b.tE)&&(a.tF==b.tF)&&(a.tG==b.tG)
def mG(a b:c1):Bool:=decide (a.keys=b.keys)&&rL a.bm b.bm&&rL a.bk b.bk&&rL a.bl b.bl&&sV a.name b.name&&(a.tL==b.tL)&&(a.tM==b.tM)&&(a.dup==b.dup)&&(a.tN==b.tN)&&(a.tO==b.tO)&&(a.cut==b.cut)&&(a.res==b.res)
theorem zl(a b:ByteArray):ar .eql (.str a) (.str b)=I (.bool (sV a b)):=b9 rfl
theorem J3(a b:Bool):(false !=(a==b))=(a==b):=by cases a<;>cases b<;>rfl
theorem ag'(p q:eD)(aj:p.2.length<9223372036854775808)(h:U):aJ 76 [.agg (dC p),.agg (dC q)] h=I (.bool (mE p q),h):=by
 refine cg (F:=Cr) (by kernel_rfl) 1 ?_
 rw[ZL];unfold NM mE
 simp only[aS,↓aF,aT,EI,qE,ag6 p.2 q.2 aj,fh,dw]
section
variable (e : bJ)
theorem SZ:e.cs[0]?=I (.bool e.on):=b9 rfl
theorem S1:e.cs[1]?=I (hP e.dt):=b9 rfl
theorem S2:e.cs[2]?=I (.bool e.tJ):=b9 rfl
theorem S3:e.cs[3]?=I (.int .i64 e.fg):=b9 rfl
theorem S4:e.cs[4]?=I (.int .i64 e.tK):=b9 rfl
theorem S5:e.cs[5]?=I (.bool e.mr):=b9 rfl
theorem S6:e.cs[6]?=I (.int .i64 e.ls):=b9 rfl
theorem S7:e.cs[7]?=I (.int .i64 e.le):=b9 rfl
end
theorem yp(a b:bJ)(ha:a.dt.length<9223372036854775808)(h:U):aJ 133 [.agg a.cs,.agg b.cs] h=I (.bool (rL a b),h):=by
 refine cg (F:=Ds) (by kernel_rfl) 1 ?_
 rw[abU];unfold OF rL
 simp only[aS,↓aF,aT,SZ,S1,S2,S3,S4,S5,S6,S7,ag9 a.dt b.dt ha,AK,J3,fh,dw]
section
variable (e : eS)
theorem S8:e.cs[0]?=I (.str e.name):=b9 rfl
theorem S9:e.cs[1]?=I (dj e.data):=b9 rfl
theorem S_:e.cs[2]?=I (.int .i64 e.bits):=b9 rfl
theorem S':e.cs[3]?=I (.int .i64 e.oM):=b9 rfl
theorem Ta:e.cs[4]?=I (.int .i64 e.bm):=b9 rfl
theorem Tb:e.cs[5]?=I (.int .i64 e.bk):=b9 rfl
theorem Tc:e.cs[6]?=I (.int .i64 e.j0):=b9 rfl
theorem Td:e.cs[7]?=I (.int .i64 e.lo):=b9 rfl
theorem Te:e.cs[8]?=I (.int .i64 e.st):=b9 rfl
theorem Tf:e.cs[9]?=I (.int .i64 e.jw):=b9 rfl
theorem Tg:e.cs[10]?=I (.int .i64 e.tE):=b9 rfl
theorem Th:e.cs[11]?=I (.int .i64 e.tF):=b9 rfl
theorem Ti:e.cs[12]?=I (.int .i64 e.tG):=b9 rfl
theorem Tj:eT true 0 13 e.cs=I (.agg e.cs):=fQ rfl
end
theorem aha(a b:eS)(ha:a.data.length<9223372036854775808)(h:U):aJ 77 [.agg a.cs,.agg b.cs] h=I (.bool (mF a b),h):=by
 refine cg (F:=Cs) (by kernel_rfl) 1 ?_
 rw[ZM];unfold NN mF
 simp only[aS,↓aF,aT,S8,S9,S_,S',Ta,Tb,Tc,Td,Te,Tf,Tg,Th,Ti,J1 a.data b.data ha,zl,fh,dw]
section
variable (e : c1)
theorem Tk:e.cs[26]?=I (.int .i64 e.tL):=b9 rfl
theorem Tl:e.cs[27]?=I (.int .i64 e.tM):=b9 rfl
theorem Tm:e.cs[28]?=I (.int .i64 e.dup):=b9 rfl
theorem Tn:e.cs[29]?=I (.int .i64 e.tN):=b9 rfl
theorem To:e.cs[30]?=I (.int .i64 e.tO):=b9 rfl
theorem Tp:e.cs[31]?=I (.int .i64 e.cut):=b9 rfl
theorem Tq:e.cs[32]?=I (.int .i64 e.res):=b9 rfl
theorem Tr:eT true 2 8 e.cs=I (.agg e.bm.cs):=b9 rfl
theorem Ts:eT true 10 8 e.cs=I (.agg e.bk.cs):=b9 rfl
theorem Tt:eT true 18 8 e.cs=I (.agg e.bl.cs):=b9 rfl
end
theorem ahb(a b:c1)(ha:sA a)(h:U):aJ 78 [.agg a.cs,.agg b.cs] h=I (.bool (mG a b),h):=by
 obtain⟨h1,h2,ak,aH,aM⟩:=ha
 refine cg (F:=Ct) (by kernel_rfl) 1 ?_
 rw[ZN];unfold NO mG
 simp only[aS,↓aF,aT,IX,tQ,Tr,Ts,Tt,Tk,Tl,Tm,Tn,To,Tp,Tq,ag7 a.keys b.keys h2,yp a.bm b.bm ak,yp a.bk b.bk aH,yp a.bl b.bl aM,zl,fh,dw]
def l8{α:Type}(f:α->α->Bool)(a b:List α):Bool:=(fb a.length).all λi=>match a[i]?,b[i]? with|some x,I y=>f x y|_,_=>true
def jL{α:Type}(f:α->α->Bool)(a b:List α)(i:Nat):Bool:=match a[i]?,b[i]? with|some x,I y=>!f x y|_,_=>false
theorem wI{α:Type}{f:α->α->Bool}{a b:List α}(h:∀i,i<a.length->jL f a b i=false):l8 f a b=true:=by
 unfold l8
 rw[List.all_eq_true]
 intro i ag
 have:=h i (List.mem_range.1 ag)
 unfold jL at this
 split at this<;>simp_all
theorem wJ{α:Type}{f:α->α->Bool}{a b:List α}{i:Nat}(ag:i<a.length)(h:jL f a b i=true):l8 f a b=false:=by
 unfold l8
 rw[List.all_eq_false]
 refine⟨i,List.mem_range.2 ag,?_⟩
 unfold jL at h
 split at h<;>simp_all
def wK(a b:aK):Bool:=if a.ax.length=b.ax.length/\a.aG.length=b.aG.length/\a.ai.length=b.ai.length then l8 mE a.ax b.ax&&l8 mF a.aG b.aG&&l8 mG a.ai b.ai else false
theorem H7(a b:aK)(ha:gl a)(h:U):aJ 34 [.agg a.cs,.agg b.cs] h=I (.bool (wK a b),h):=by
 obtain⟨N,h1,h2,ak⟩:∃N:Nat,a.ax.length<N/\a.aG.length<N/\a.ai.length<N:=⟨a.ax.length+a.aG.length+a.ai.length+1,by omega,by omega,by omega⟩
 refine cg (F:=BF) (by kernel_rfl) N ?_
 rw[Zh];unfold Nf wK
 have ne:∀x y:Nat,((x:Int) !=(y:Int))=decide (x≠y):=λx y=>by
  by_cases e:x=y
  ·subst e;simp
  ·rw[uz e,kX];omega
 simp only[aS,↓aF,aT,pG,oO,qB,pH,nm,qC,ne,fB]
 by_cases aj:a.ax.length=b.ax.length
 case neg=>
  simp only[aj,ne_eq,not_false_eq_true,cm,nB,aZ,false_and,bd,aS,↓aF,aT,dw]
 by_cases az:a.aG.length=b.aG.length
 case neg=>
  simp only[aj,az,ne_eq,not_false_eq_true,cm,nB,s6,aZ,false_and,and_false,bd,aS,↓aF,aT,dw]
 by_cases ag:a.ai.length=b.ai.length
 case neg=>
  simp only[aj,az,ag,ne_eq,not_false_eq_true,cm,nB,s6,aZ,false_and,and_false,bd,aS,↓aF,aT,dw]
 have m:(if a.ax.length=b.ax.length/\a.aG.length=b.aG.length/\a.ai.length=b.ai.length then l8 mE a.ax b.ax&&l8 mF a.aG b.aG&&l8 mG a.ai b.ai else false)=(l8 mE a.ax b.ax&&l8 mF a.aG b.aG&&l8 mG a.ai b.ai):=aQ ⟨aj,az,ag⟩
 rw[m]
 simp only[aj,az,ag,ne_eq,not_true_eq_false,cW,rS,bg,bd,aS,↓aF,aT,pG,pH]
 rw[←aj]
 have mr:=ha.ax
 have ls:=ha.aG
 have li:=ha.ai
 have g:∀(i:Nat) (K:List J->U->bh) (j:List J->U->bh),i<a.ax.length->BI aJ N h (.ptr h.length 0) (.ptr (h.length+1) 0) (h++[.box a.cs 27 .rw,.box b.cs 27 .rw]) (.int .i64 a.ax.length) j K [.int .i64 i] (h++[.box a.cs 27 .rw,.box b.cs 27 .rw])=if jL mE a.ax b.ax i=true then I (.bool false,h)else K [.int .i64 ((i+1:Nat):Int)] (h++[.box a.cs 27 .rw,.box b.cs 27 .rw]):=λi K j ag=>by
  obtain⟨x,af⟩:=cQ ag
  obtain⟨y,ba⟩:=cQ (show i<b.ax.length by omega)
  unfold BI jL
  simp only[aS,↓aF,aT,cL ag,cm,aZ,pG,sB _ af,sB _ ba,rA,ag' x y (ha.cells x (dH af)),af,ba,dw,cI (show i<9223372036854775807 by omega),J2]
 have k:∀(i:Nat) (K:List J->U->bh) (j:List J->U->bh),i<a.aG.length->BH aJ N h (.ptr h.length 0) (.ptr (h.length+1) 0) (h++[.box a.cs 27 .rw,.box b.cs 27 .rw]) (.int .i64 a.aG.length) j K [.int .i64 i] (h++[.box a.cs 27 .rw,.box b.cs 27 .rw])=if jL mF a.aG b.aG i=true then I (.bool false,h)else K [.int .i64 ((i+1:Nat):Int)] (h++[.box a.cs 27 .rw,.box b.cs 27 .rw]):=λi K j ag=>by
  obtain⟨x,af⟩:=cQ ag
  obtain⟨y,ba⟩:=cQ (show i<b.aG.length by omega)
  unfold BH jL
  simp only[aS,↓aF,aT,cL ag,cm,aZ,oO,rv _ af,rv _ ba,Tj,aha x y (ha.lC x (dH af)).2,af,ba,dw,cI (show i<9223372036854775807 by omega),J2]
 have l:∀(i:Nat) (K:List J->U->bh) (j:List J->U->bh),i<a.ai.length->BG aJ N h (.ptr h.length 0) (.ptr (h.length+1) 0) (h++[.box a.cs 27 .rw,.box b.cs 27 .rw]) (.int .i64 a.ai.length) j K [.int .i64 i] (h++[.box a.cs 27 .rw,.box b.cs 27 .rw])=if jL mG a.ai b.ai i=true then I (.bool false,h)else K [.int .i64 ((i+1:Nat):Int)] (h++[.box a.cs 27 .rw,.box b.cs 27 .rw]):=λi K j ag=>by
  obtain⟨x,af⟩:=cQ ag
  obtain⟨y,ba⟩:=cQ (show i<b.ai.length by omega)
  unfold BG jL
  simp only[aS,↓aF,aT,cL ag,cm,aZ,qB,sC _ af,sC _ ba,tP,ahb x y (ha.ins x (dH af)),af,ba,dw,cI (show i<9223372036854775807 by omega),J2]
 refine ly (jL mE a.ax b.ax) (λi=>[.int .i64 (i:Int)]) (λ_=>h++[.box a.cs 27 .rw,.box b.cs 27 .rw]) a.ax.length h1 rfl rfl (λi ag ae K=>?_) (λi ag ae c K=>?_) (λc K=>?_)
 ·rw[g i K _ ag,a1 (by rw[ae];decide)]
 ·rw[g i K _ ag,aQ ae,wJ ag ae,iU,iU]
 unfold BI
 simp only[aS,↓aF,aT,fR,cW,bg,bd,oO,nm,wI c,hn]
 refine ly (jL mF a.aG b.aG) (λi=>[.int .i64 (i:Int)]) (λ_=>h++[.box a.cs 27 .rw,.box b.cs 27 .rw]) a.aG.length h2 rfl rfl (λi ag ae K=>?_) (λi ag ae c K=>?_) (λc K=>?_)
 ·rw[k i K _ ag,a1 (by rw[ae];decide)]
 ·rw[k i K _ ag,aQ ae,wJ ag ae,iU]
 unfold BH
 simp only[aS,↓aF,aT,fR,cW,bg,bd,qB,qC,wI c,hn]
 refine ly (jL mG a.ai b.ai) (λi=>[.int .i64 (i:Int)]) (λ_=>h++[.box a.cs 27 .rw,.box b.cs 27 .rw]) a.ai.length ak rfl rfl (λi ag ae K=>?_) (λi ag ae c K=>?_) (λc K=>?_)
 ·rw[l i K _ ag,a1 (by rw[ae];decide)]
 ·rw[l i K _ ag,aQ ae,wJ ag ae]
 unfold BG
 simp only[aS,↓aF,aT,fR,cW,bg,bd,wI c,dw]
def qO(a b:aK):Bool:=sV a.name b.name&&(a.cb==b.cb)&&(a.ch==b.ch)&&decide (a.bo=b.bo)&&(a.rest==b.rest)&&(a.ib==b.ib)&&(a.ic==b.ic)&&(a.ie==b.ie)&&(a.gY==b.gY)&&decide (a.cw=b.cw)&&wK a b
theorem B_(a b:aK)(ha:gl a)(h:U):aJ 12 [.agg a.cs,.agg b.cs] h=I (.bool (qO a b),h):=by
 refine cg (F:=Bb) (by kernel_rfl) 1 ?_
 rw[Y4];unfold M0 qO
 simp only[aS,↓aF,aT,EE,qA,yM,yN,IC,ID,IE,IF,IG,vV,iB,J1 a.bo b.bo ha.bo,J1 a.cw b.cw ha.cw,H7 a b ha,AK,J3,zl,fh,dw]
theorem ahc(b:ByteArray):∀(n i:Nat) (r:List UInt8),b.size-i=n->TF b i r=r.reverse++b.data.toList.drop i:=by
 intro n
 induction n with
 |zero=>
  intro i r h
  unfold TF
  rw[a1 (by omega),List.drop_eq_nil_of_le (by rw[pW];show b.size<=i;omega),fu]
 |succ n c=>
  intro i r h
  unfold TF
  have ag:i<b.size:=by omega
  have e:i<b.data.toList.length:=by rw[pW];exact ag
  rw[aQ ag,c (i+1) _ (by omega),List.reverse_cons,eo,List.drop_eq_getElem_cons e]
  congr 2
  show [b.data[i]!]++_=_
  rw[getElem!_pos b.data i ag]
  simp
theorem Tu(b:ByteArray):b.toList=b.data.toList:=by
 unfold ByteArray.toList
 rw[ahc b _ 0 [] rfl];rfl
theorem ahd(a b:ByteArray):(a==b)=sV a b:=by
 unfold sV
 rw[Tu,Tu]
 show(a.data==b.data)=_
 by_cases h:a.data=b.data
 ·rw[h,o1,o1]
 ·rw[beq_eq_false_iff_ne.2 h,beq_eq_false_iff_ne.2 (λe=>h (Array.toList_inj.1 e))]
theorem tx(p q:eD)(aj:p.2.length<9223372036854775808)(h:U):aJ 28 [.agg (dC p),.agg (dC q)] h=I (.bool (mE p q),h):=by
 refine cg (F:=Bw) (by kernel_rfl) 1 ?_
 rw[Zb];unfold M_ mE
 simp only[aS,↓aF,aT,EI,qE,H0 p.2 q.2 aj,fh,dw]
theorem J4(a b:bJ)(ha:a.dt.length<9223372036854775808)(h:U):aJ 75 [.agg a.cs,.agg b.cs] h=I (.bool (rL a b),h):=by
 refine cg (F:=Cq) (by kernel_rfl) 1 ?_
 rw[ZK];unfold NL rL
 simp only[aS,↓aF,aT,SZ,S1,S2,S3,S4,S5,S6,S7,ag_ a.dt b.dt ha,AK,J3,fh,dw]
theorem ahe(a b:eS)(ha:a.data.length<9223372036854775808)(h:U):aJ 30 [.agg a.cs,.agg b.cs] h=I (.bool (mF a b),h):=by
 refine cg (F:=Bz) (by kernel_rfl) 1 ?_
 rw[Zd];unfold Na mF
 simp only[aS,↓aF,aT,S8,S9,S_,S',Ta,Tb,Tc,Td,Te,Tf,Tg,Th,Ti,tw a.data b.data ha,zl,fh,dw]
theorem yn(a b:c1)(ha:sA a)(h:U):aJ 32 [.agg a.cs,.agg b.cs] h=I (.bool (mG a b),h):=by
 obtain⟨h1,h2,ak,aH,aM⟩:=ha
 refine cg (F:=BC) (by kernel_rfl) 1 ?_
 rw[Zf];unfold Nc mG
 simp only[aS,↓aF,aT,IX,tQ,Tr,Ts,Tt,Tk,Tl,Tm,Tn,To,Tp,Tq,ag8 a.keys b.keys h2,J4 a.bm b.bm ak,J4 a.bk b.bk aH,J4 a.bl b.bl aM,zl,fh,dw]
 congr 3
 simp only[wS,Bool.and_comm,Bool.and_left_comm]
def qP{α:Type}(f:α->α->Bool)(a b:List α):Bool:=if a.length=b.length then l8 f a b else false
theorem ahf(p:eD)(vs:List J)(t:aX)(l:U):a_ 2 (.ptr 0 0) (.agg (dC p)) (.box vs t .rw::l)=(cy vs 0 (dC p)).map λb_=>.box b_ t .rw::l:=iL rfl (by decide)
theorem ahg(p:eD){vs:List J}(aw:vs.length=2):cy vs 0 (dC p)=I (dC p):=hN (by rw[aw];rfl) rfl
theorem ahh(a b:List eD)(hm:a.length<9223372036854775808)(ha:∀x∈a,x.2.length<9223372036854775808)(h:U):aJ 27 [lB a,lB b,.func 28 [] []] h=I (.bool (qP mE a b),h):=by
 obtain⟨N,k⟩:∃N:Nat,a.length<N:=⟨_,fs _⟩
 refine cg (F:=Bu) (by kernel_rfl) N ?_
 rw[Za];unfold M9 qP
 by_cases br:a.length=b.length
 ·have c:((a.length:Int) !=(b.length:Int))=false:=by rw[br];simp
  rw[aQ br]
  simp only[aS,↓aF,aT,pH,gG,c,bg,bd]
  have e:∀(i:Nat) (K:List J->U->bh) (g:List J->U->bh),i<a.length->Bv aJ N (lB a) (lB b) (.func 28 [] []) h h (.int .i64 a.length) g K [.int .i64 i] h=if jL mE a b i=true then I (.bool false,h)else K [.int .i64 ((i+1:Nat):Int)] h:=λi K g ag=>by
   obtain⟨x,af⟩:=cQ ag
   obtain⟨y,ba⟩:=cQ (show i<b.length by omega)
   have bq:=λ(p:eD) (vs:List J) (aw:vs.length=2)=>ahg p aw
   have l:∀(u v:J) (H:U),gh aJ (.func 28 [] []) [u,v] H=aJ 28 [u,v] H:=λu v H=>kM aJ 28 [] [] _ H
   have m:∀X,trim h [.int .i64 ((i+1:Nat):Int)] (h++X)=h:=λX=>pw _ (λw b0=>by rw[hl]at b0;subst b0;exact j2 rfl)
   unfold Bv jL
   simp only[aS,↓aF,aT,cL ag,cm,aZ,sB _ af,sB _ ba,rA,ahf,bq x _ (show([.int .i64 0,.bc]:List J).length=2 from rfl),bq y _ (show([.int .i64 0,.bc]:List J).length=2 from rfl),l,tx x y (ha x (dH af)),af,ba,dw,cI (show i<9223372036854775807 by omega),m]
  refine ly (jL mE a b) (λi=>[.int .i64 (i:Int)]) (λ_=>h) a.length k rfl rfl (λi ag ae K=>?_) (λi ag ae j K=>?_) (λj K=>?_)
  ·rw[e i K _ ag,a1 (by rw[ae];decide)]
  ·rw[e i K _ ag,aQ ae,wJ ag ae]
  ·unfold Bv
   simp only[aS,↓aF,aT,fR,cW,bg,bd,dR]
   rw[wI j]
 ·have c:((a.length:Int) !=(b.length:Int))=true:=by rw[kX];omega
  rw[a1 br]
  simp only[aS,↓aF,aT,pH,gG,c,aZ,dR]
theorem ahi(p:eS)(vs:List J)(t:aX)(l:U):a_ 13 (.ptr 0 0) (.agg (p.cs)) (.box vs t .rw::l)=(cy vs 0 (p.cs)).map λb_=>.box b_ t .rw::l:=iL rfl (by decide)
theorem ahj(p:eS){vs:List J}(aw:vs.length=13):cy vs 0 (p.cs)=I (p.cs):=hN (by rw[aw];rfl) rfl
theorem Ia(a b:List eS)(hm:a.length<9223372036854775808)(ha:∀x∈a,x.data.length<9223372036854775808)(h:U):aJ 29 [k8 a,k8 b,.func 30 [] []] h=I (.bool (qP mF a b),h):=by
 obtain⟨N,k⟩:∃N:Nat,a.length<N:=⟨_,fs _⟩
 refine cg (F:=Bx) (by kernel_rfl) N ?_
 rw[Zc];unfold M' qP
 by_cases br:a.length=b.length
 ·have c:((a.length:Int) !=(b.length:Int))=false:=by rw[br];simp
  rw[aQ br]
  simp only[aS,↓aF,aT,nm,gG,c,bg,bd]
  have e:∀(i:Nat) (K:List J->U->bh) (g:List J->U->bh),i<a.length->By aJ N (k8 a) (k8 b) (.func 30 [] []) h h (.int .i64 a.length) g K [.int .i64 i] h=if jL mF a b i=true then I (.bool false,h)else K [.int .i64 ((i+1:Nat):Int)] h:=λi K g ag=>by
   obtain⟨x,af⟩:=cQ ag
   obtain⟨y,ba⟩:=cQ (show i<b.length by omega)
   have bq:=λ(p:eS) (vs:List J) (aw:vs.length=13)=>ahj p aw
   have l:∀(u v:J) (H:U),gh aJ (.func 30 [] []) [u,v] H=aJ 30 [u,v] H:=λu v H=>kM aJ 30 [] [] _ H
   have m:∀X,trim h [.int .i64 ((i+1:Nat):Int)] (h++X)=h:=λX=>pw _ (λw b0=>by rw[hl]at b0;subst b0;exact j2 rfl)
   unfold By jL
   simp only[aS,↓aF,aT,cL ag,cm,aZ,rv _ af,rv _ ba,Tj,ahi,bq x _ (show([.str ⟨#[]⟩,.bc,.int .i64 0,.int .i64 0,.int .i64 0,.int .i64 0,.int .i64 0,.int .i64 0,.int .i64 0,.int .i64 0,.int .i64 0,.int .i64 0,.int .i64 0]:List J).length=13 from rfl),bq y _ (show([.str ⟨#[]⟩,.bc,.int .i64 0,.int .i64 0,.int .i64 0,.int .i64 0,.int .i64 0,.int .i64 0,.int .i64 0,.int .i64 0,.int .i64 0,.int .i64 0,.int .i64 0]:List J).length=13 from rfl),l,ahe x y (ha x (dH af)),af,ba,dw,cI (show i<9223372036854775807 by omega),m]
  refine ly (jL mF a b) (λi=>[.int .i64 (i:Int)]) (λ_=>h) a.length k rfl rfl (λi ag ae K=>?_) (λi ag ae j K=>?_) (λj K=>?_)
  ·rw[e i K _ ag,a1 (by rw[ae];decide)]
  ·rw[e i K _ ag,aQ ae,wJ ag ae]
  ·unfold By
   simp only[aS,↓aF,aT,fR,cW,bg,bd,dR]
   rw[wI j]
 ·have c:((a.length:Int) !=(b.length:Int))=true:=by rw[kX];omega
  rw[a1 br]
  simp only[aS,↓aF,aT,nm,gG,c,aZ,dR]
theorem ahk(p:c1)(vs:List J)(t:aX)(l:U):a_ 33 (.ptr 0 0) (.agg (p.cs)) (.box vs t .rw::l)=(cy vs 0 (p.cs)).map λb_=>.box b_ t .rw::l:=iL rfl (by decide)
theorem ahl(p:c1){vs:List J}(aw:vs.length=33):cy vs 0 (p.cs)=I (p.cs):=hN (by rw[aw];rfl) rfl
theorem ahm(a b:List c1)(hm:a.length<9223372036854775808)(ha:∀x∈a,sA x)(h:U):aJ 31 [nn a,nn b,.func 32 [] []] h=I (.bool (qP mG a b),h):=by
 obtain⟨N,k⟩:∃N:Nat,a.length<N:=⟨_,fs _⟩
 refine cg (F:=BA) (by kernel_rfl) N ?_
 rw[Ze];unfold Nb qP
 by_cases br:a.length=b.length
 ·have c:((a.length:Int) !=(b.length:Int))=false:=by rw[br];simp
  rw[aQ br]
  simp only[aS,↓aF,aT,qC,gG,c,bg,bd]
  have e:∀(i:Nat) (K:List J->U->bh) (g:List J->U->bh),i<a.length->BB aJ N (nn a) (nn b) (.func 32 [] []) h h (.int .i64 a.length) g K [.int .i64 i] h=if jL mG a b i=true then I (.bool false,h)else K [.int .i64 ((i+1:Nat):Int)] h:=λi K g ag=>by
   obtain⟨x,af⟩:=cQ ag
   obtain⟨y,ba⟩:=cQ (show i<b.length by omega)
   have bq:=λ(p:c1) (vs:List J) (aw:vs.length=33)=>ahl p aw
   have l:∀(u v:J) (H:U),gh aJ (.func 32 [] []) [u,v] H=aJ 32 [u,v] H:=λu v H=>kM aJ 32 [] [] _ H
   have m:∀X,trim h [.int .i64 ((i+1:Nat):Int)] (h++X)=h:=λX=>pw _ (λw b0=>by rw[hl]at b0;subst b0;exact j2 rfl)
   unfold BB jL
   simp only[aS,↓aF,aT,cL ag,cm,aZ,sC _ af,sC _ ba,tP,ahk,bq x _ (show(h0:List J).length=33 from rfl),bq y _ (show(h0:List J).length=33 from rfl),l,yn x y (ha x (dH af)),af,ba,dw,cI (show i<9223372036854775807 by omega),m]
  refine ly (jL mG a b) (λi=>[.int .i64 (i:Int)]) (λ_=>h) a.length k rfl rfl (λi ag ae K=>?_) (λi ag ae j K=>?_) (λj K=>?_)
  ·rw[e i K _ ag,a1 (by rw[ae];decide)]
  ·rw[e i K _ ag,aQ ae,wJ ag ae]
  ·unfold BB
   simp only[aS,↓aF,aT,fR,cW,bg,bd,dR]
   rw[wI j]
 ·have c:((a.length:Int) !=(b.length:Int))=true:=by rw[kX];omega
  rw[a1 br]
  simp only[aS,↓aF,aT,qC,gG,c,aZ,dR]
def nx(s:aK):List J:=[.str s.name,.int .i64 s.cb,.int .i64 s.ch,.int .i64 s.rest,.int .i64 s.ib,.int .i64 s.ic,.int .i64 s.ie,.bool s.gY]
theorem sW{cells:List J}{off:Nat}{v:J}{r:List (Nat×Nat×J)}(aw:b' v=[v])(ak:off<cells.length):cK cells ((off,1,v)::r)=cK (cells.set off v) r:=by
 rw[HH (by rw[aw];rfl) (by decide) (by omega),aw,List.set_eq_take_append_cons_drop,aQ ak,eo];rfl
theorem ahn(s:aK)(a b c d e f g i:J):cK [a,b,c,d,e,f,g,i] [(0,1,.str s.name),(1,1,.int .i64 s.cb),(2,1,.int .i64 s.ch),(3,1,.int .i64 s.rest),(4,1,.int .i64 s.ib),(5,1,.int .i64 s.ic),(6,1,.int .i64 s.ie),(7,1,.bool s.gY)]=I (nx s):=by
 have ci:∀n,b' (.int .i64 n)=[.int .i64 n]:=λn=>rfl
 have cs:b' (.str s.name)=[.str s.name]:=rfl
 have h:b' (.bool s.gY)=[.bool s.gY]:=rfl
 rw[sW cs (by simp only[kb];omega)]
 simp only[qX,rQ]
 rw[sW (ci _) (by simp only[kb];omega)]
 simp only[qX,rQ]
 rw[sW (ci _) (by simp only[kb];omega)]
 simp only[qX,rQ]
 rw[sW (ci _) (by simp only[kb];omega)]
 simp only[qX,rQ]
 rw[sW (ci _) (by simp only[kb];omega)]
 simp only[qX,rQ]
 rw[sW (ci _) (by simp only[kb];omega)]
 simp only[qX,rQ]
 rw[sW (ci _) (by simp only[kb];omega)]
 simp only[qX,rQ]
 rw[sW h (by simp only[kb];omega)]
 simp only[qX,rQ]
 rw[k5]
 rfl
theorem aho(s:aK)(vs:List J)(t:aX)(l:U):a_ 8 (.ptr 0 0) (.agg (nx s)) (.box vs t .rw::l)=(cy vs 0 (nx s)).map λb_=>.box b_ t .rw::l:=iL rfl (by decide)
theorem ahp(s:aK)(a b c d e f g i:J):cy [a,b,c,d,e,f,g,i] 0 (nx s)=I (nx s):=hN rfl rfl
theorem ahq(s:aK):eT true 0 8 (nx s)=I (.agg (nx s)):=fQ rfl
theorem ahr{h l:U}(s:aK):aL [.ah] h (h++l) [.agg (nx s)]=I (.agg (nx s),h):=by
 refine rl (ws:=[.agg (nx s)]) (l:=l) (by simp only[i_,j1,k3,dy,dm]) ?_
 intro v aw
 simp only[hl]at aw
 subst aw
 exact j2 rfl
theorem ahs(s:aK)(h:U):aJ 25 [.agg s.cs] h=I (.agg (nx s),h):=by
 refine cg (F:=yr) (by kernel_rfl) 1 ?_
 rw[X7];unfold HW
 simp only[aS,↓aF,aT,EE,qA,yM,IC,ID,IE,IF,IG,ahn,aho,ahp,ahq,ahr]
theorem aht(a b:aK):lu [.str,.int,.int,.int,.int,.int,.int,.bool] false (.agg (nx a)) (.agg (nx b))=I (.bool (sV a.name b.name&&((a.cb==b.cb)&&((a.ch==b.ch)&&((a.rest==b.rest)&&((a.ib==b.ib)&&((a.ic==b.ic)&&((a.ie==b.ie)&&((a.gY==b.gY)&&true))))))))):=by
 rw[←ahd]
 simp only[lu,jY,nx,aZ,dm,Bool.false_bne]
theorem ahu(a b:aK):wK a b=(qP mE a.ax b.ax&&qP mF a.aG b.aG&&qP mG a.ai b.ai):=by
 unfold wK qP
 by_cases h1:a.ax.length=b.ax.length
 ·by_cases h2:a.aG.length=b.aG.length
  ·by_cases ak:a.ai.length=b.ai.length
   ·rw[aQ ⟨h1,h2,ak⟩,aQ h1,aQ h2,aQ ak]
   ·rw[a1 (λh=>ak h.2.2),a1 ak,Bool.and_false]
  ·rw[a1 (λh=>h2 h.2.1),a1 h2,Bool.and_false,iU]
 ·rw[a1 (λh=>h1 h.1),a1 h1,iU,iU]
theorem J5(a b:aK)(ha:gl a)(h:U):aJ 11 [.agg a.cs,.agg b.cs] h=I (.bool (qO a b),h):=by
 refine cg (F:=Ba) (by kernel_rfl) 1 ?_
 rw[Y3];unfold MZ qO
 have c:=λH=>ahh a.ax b.ax ha.ax (λx af=>ha.cells x af) H
 have e:=λH=>Ia a.aG b.aG ha.aG (λx af=>(ha.lC x af).2) H
 have g:=λH=>ahm a.ai b.ai ha.ai (λx af=>ha.ins x af) H
 simp only[aS,↓aF,aT,iB,ahs,aht,yN,vV,pG,oO,qB,tw a.bo b.bo ha.bo,tw a.cw b.cw ha.cw,c,e,g,fh,dw,ahu,jt]
 congr 3
 simp only[wS,Bool.and_comm,Bool.and_left_comm]
theorem J6{α:Type}{f:α->α->Bool}(l:List α)(h:∀a,f a a=true):l8 f l l=true:=by
 unfold l8
 rw[List.all_eq_true]
 intro i _
 cases l[i]? with
 |none=>rfl
 |some x=>exact h x
theorem J7(a:ByteArray):sV a a=true:=o1 _
theorem ahv(a:bJ):rL a a=true:=by simp [rL]
theorem ahw(a:eS):mF a a=true:=by simp [mF,J7]
theorem ahx(a:c1):mG a a=true:=by simp [mG,J7,ahv]
theorem ahy(a:eD):mE a a=true:=by simp [mE]
theorem ahz(s:aK):qO s s=true:=by
 simp only[qO,wK,J7,J6 _ ahy,J6 _ ahw,J6 _ ahx,o1,jt,and_self,aZ,cm]
structure lG(s:aK):Prop where
 lC:∀x∈s.aG,x.name.size<9223372036854775808
 ins:∀x∈s.ai,x.name.size<9223372036854775808
theorem lG.fK{s:aK}(n:lG s):lG (Go.aN.X.fK s):=⟨n.lC,λx af=>by
 obtain⟨i,ag,rfl⟩:=List.mem_mapIdx.1 (show x∈s.ai.mapIdx _ from af)
 have:=n.ins _ (pX ag)
 unfold jF
 split<;>exact this⟩
theorem lG.hC{s:aK}(n:lG s)(to:List Int):lG (Go.aN.X.hC s to):=⟨n.lC,n.ins⟩
theorem lG.jo{s:aK}(n:lG s){to:List Int}(p:db to s.ai.length):lG (Go.aN.X.jo s to):=⟨n.lC,λx af=>n.ins x (pS p af)⟩
theorem lG.h5{s:aK}(n:lG s){to:List Int}(p:db to s.aG.length):lG (Go.aN.X.h5 s to):=by
 have h:lG (Go.aN.X.jH (Go.aN.X.ew s to) to):=⟨λx af=>n.lC x (pS p af),λx af=>by
  obtain⟨y,ba,rfl⟩:=List.mem_map.1 (show x∈s.ai.map (kx to)from af)
  exact n.ins y ba⟩
 unfold Go.aN.X.h5
 split
 ·exact h
 ·exact⟨h.lC,h.ins⟩
theorem gw.h5{s:aK}(b:gw s){to:List Int}(p:db to s.aG.length):gw (Go.aN.X.h5 s to):=by
 unfold Go.aN.X.h5
 split
 ·exact(b.ew p).jH to
 ·exact((b.ew p).jH to).kT to
theorem Tv{s:aK}(b:gw s)(n:lG s)(au:s.name.size<9223372036854775808):gl s where
 name:=au
 bo:=by have:=b.bo;omega
 cw:=by have:=b.cw;omega
 ax:=by have:=b.ax;omega
 cells:=λp aj=>by have:=b.bZ p aj;omega
 aG:=by have:=b.aG;omega
 lC:=λx af=>⟨n.lC x af,by have:=b.cp x af;omega⟩
 ai:=by have:=b.ai;omega
 ins:=λx af=>by
  obtain⟨h1,h2,ak,aH⟩:=b.ins x af
  exact⟨n.ins x af,by omega,by omega,by omega,by omega⟩
theorem Tw(s:aK)(to:List Int):(h5 s to).name=s.name:=by unfold h5;split<;>rfl
theorem Tx{s:aK}(av:gl s)(aw:((np s).2.2==0)=true):gl (lg s):=by
 have b:=hx.zb (I0 aw)
 have n:lG s:=⟨λx af=>(av.lC x af).1,λx af=>(av.ins x af).name⟩
 have j:db (fN (dL s.bo) s.ax.length) s.ax.length:=n_ (JN b)
 have cO:hx (dq s):=b.fK.hC j
 have n1:lG (dq s):=n.fK.hC _
 have hd:(dq s).cb=s.cb:=rfl
 have g:(dq s).ai.length=s.ai.length:=by show(s.ai.mapIdx _).length=_;rw[ln]
 unfold lg
 cases bs:eZ s.cb 6 with
 |false=>
  have e:il (dq s)=s.aG.length:=by unfold il;rw[hd,a1 (by rw[bs];decide)];rfl
  have c:db (fN (l6 (dq s)) s.aG.length) (dq s).aG.length:=n_ (by rw[←e];exact ua cO)
  rw[a1 (by decide)]
  exact Tv (cO.fS.h5 c) (n1.h5 c) (by rw[Tw];exact av.name)
 |true=>
  have e:il (dq s)=s.ai.length:=by unfold il;rw[hd,aQ bs,g]
  have c:db (fN (l6 (dq s)) s.ai.length) (dq s).ai.length:=by
   rw[g];exact n_ (by rw[←e];exact ua cO)
  have h:hx (fV s):=cO.jo c (by rw[hd];exact bs)
  have n2:lG (fV s):=n1.jo c
  have i:db (fN (fU ((fV s).ai.flatMap hi)) s.aG.length) (fV s).aG.length:=n_ (zc (Fp h))
  rw[aQ rfl]
  exact Tv (h.fS.h5 i) (n2.h5 i) (by rw[Tw];exact av.name)
def pU(s:aK):Bool:=(np s).2.2==0
def wL(a b:aK):J:=if pU a=true/\pU b=true then .tuple [.bool (qO (lg a) (lg b)),.int .i64 0]else .tuple [.bool false,.int .i64 1]
theorem ub{h l:U}{b:Bool}{k:IntKind}{n:Int}:aL [.ah,.ah] h (h++l) [.bool b,.int k n]=I (.tuple [.bool b,.int k n],h):=by
 refine rl (ws:=[.bool b,.int k n]) (l:=l) (by simp only[i_,j1,k3,dy,dm]) ?_
 intro v aw
 simp only[hk,iu,hR]at aw
 rcases aw with rfl|rfl<;>exact j2 rfl
theorem uc{s:aK}(h:pU s=true):sQ s=.tuple [.agg (lg s).cs,.int .i64 0]:=by unfold pU at h;unfold sQ;rw[aQ h]
theorem wM{s:aK}(h:pU s=false):sQ s=.tuple [.agg wg.cs,.int .i64 1]:=by unfold sQ;rw[a1 (by unfold pU at h;rw[h];decide)]
theorem Ii(a b:aK)(ha:gl a)(ae:gl b)(h:U):aJ 9 [.agg a.cs,.agg b.cs] h=I (wL a b,h):=by
 refine cg (F:=A_) (by kernel_rfl) 1 ?_
 rw[Y1];unfold MX wL
 have c:((0:Int) !=0)=false:=rfl
 have e:((1:Int) !=0)=true:=rfl
 cases lz:pU a with
 |false=>
  rw[a1 (λh=>by cases h.1)]
  simp only[aS,↓aF,aT,iB,ze a ha,wM lz,lZ,l0,sE,sF,e,aZ,ub]
 |true=>
  cases g:pU b with
  |false=>
   rw[a1 (λh=>by cases h.2)]
   simp only[aS,↓aF,aT,iB,ze a ha,uc lz,ze b ae,wM g,lZ,l0,sE,sF,c,e,bg,bd,aZ,ite_self,ub]
  |true=>
   have aA:=Tx ha lz
   rw[aQ ⟨rfl,rfl⟩]
   simp only[aS,↓aF,aT,iB,ze a ha,uc lz,ze b ae,uc g,lZ,l0,sE,sF,c,bg,bd,J5 (lg a) (lg b) aA,ub]
theorem jg(a b:aK)(ha:gl a)(ae:gl b)(h:U):aJ 10 [.agg a.cs,.agg b.cs] h=I (wL a b,h):=by
 refine cg (F:=A') (by kernel_rfl) 1 ?_
 rw[Y2];unfold MY wL
 have e:((0:Int) !=0)=false:=rfl
 have g:((1:Int) !=0)=true:=rfl
 cases lz:pU a with
 |false=>
  rw[a1 (λh=>by cases h.1)]
  cases c:pU b with
  |false=>simp only[aS,↓aF,aT,fB,nB,s6,rR,rS,iB,sR a ha,wM lz,sR b ae,wM c,lZ,l0,sE,sF,e,g,bg,bd,aZ,ub]
  |true=>simp only[aS,↓aF,aT,fB,nB,s6,rR,rS,iB,sR a ha,wM lz,sR b ae,uc c,lZ,l0,sE,sF,e,g,bg,bd,aZ,ub]
 |true=>
  cases c:pU b with
  |false=>
   rw[a1 (λh=>by cases h.2)]
   simp only[aS,↓aF,aT,fB,nB,s6,rR,rS,iB,sR a ha,uc lz,sR b ae,wM c,lZ,l0,sE,sF,e,g,bg,bd,aZ,ite_self,ub]
  |true=>
   have aA:=Tx ha lz
   rw[aQ ⟨rfl,rfl⟩]
   simp only[aS,↓aF,aT,fB,nB,s6,rR,rS,iB,sR a ha,uc lz,sR b ae,uc c,lZ,l0,sE,sF,e,bg,bd,B_ (lg a) (lg b) aA,ub]
theorem ahA(a b:aK):∃x e,wL a b=.tuple [.bool x,.int .i64 e]:=by
 unfold wL
 split
 ·exact⟨_,_,rfl⟩
 ·exact⟨_,_,rfl⟩
theorem gj(a b:aK)(ha:gl a)(ae:gl b)(h:U):aJ 3 [.agg a.cs,.agg b.cs] h=I (.bool true,h):=by
 refine cg (F:=ep) (by kernel_rfl) 1 ?_
 rw[YY];unfold kh
 obtain⟨x,e,af⟩:=ahA a b
 cases c:decide (EK a<=60000)with
 |false=>
  simp only[aS,↓aF,aT,fB,nB,s6,rR,rS,iB,qq a ha,qq b ae,c,gp,aZ,rn,dw]
 |true=>
  cases g:decide (EK b<=60000)with
  |false=>
   simp only[aS,↓aF,aT,fB,nB,s6,rR,rS,iB,qq a ha,qq b ae,c,g,gp,e3,bg,bd,aZ,rn,dw]
  |true=>
   have i:(false !=(x==x))=true:=by cases x<;>rfl
   have j:(false !=(qO a b==qO a b))=true:=by cases qO a b<;>rfl
   simp only[aS,↓aF,aT,fB,nB,s6,rR,rS,iB,qq a ha,qq b ae,c,g,e3,bg,bd,Ii a b ha ae,jg a b ha ae,af,lZ,l0,J5 a b ha,J5 a a ha,B_ a b ha,qj,AK,j,i,fh,Bool.and_self,ahz,o1,rn,dw]
   rfl
end Go.aN.X
namespace Go.aN.X
open Go.bB Go.aN
structure gP where
 rM:Int
 Fv:Int
 Fw:Int
 Fx:Int
 Fy:Int
 Param:Int
def gP.cp(t:gP):List ds:=[.v (.int .i64 t.rM),.v (.int .i64 t.Fv),.v (.int .i64 t.Fw),.v (.int .i64 t.Fx),.v (.int .i64 t.Fy),.v (.int .i64 t.Param)]
def gP.ok(t:gP):Prop:=dr t.rM/\dr t.Fv/\dr t.Fw/\dr t.Fx/\dr t.Fy/\dr t.Param
def gP.ei:List gf:=[.int .i64,.int .i64,.int .i64,.int .i64,.int .i64,.int .i64]
theorem gP.len(t:gP):t.cp.length=6:=rfl
theorem gP.of{r:List ds}(h:cv gP.ei r):∃t,r=gP.cp t/\t.ok:=by
 unfold gP.ei at h
 obtain⟨d0,k,rfl,au,b⟩:=cv.cons_inv h
 obtain⟨al,rfl,w0⟩:=dc.eN au
 obtain⟨d1,l,rfl,h1,cE⟩:=cv.cons_inv b
 obtain⟨ay,rfl,bu⟩:=dc.eN h1
 obtain⟨m,n,rfl,h2,cD⟩:=cv.cons_inv cE
 obtain⟨bV,rfl,cP⟩:=dc.eN h2
 obtain⟨o,p,rfl,ak,dE⟩:=cv.cons_inv cD
 obtain⟨fZ,rfl,c⟩:=dc.eN ak
 obtain⟨q,u,rfl,aH,fe⟩:=cv.cons_inv dE
 obtain⟨e,rfl,g⟩:=dc.eN aH
 obtain⟨w,x,rfl,aM,gr⟩:=cv.cons_inv fe
 obtain⟨i,rfl,j⟩:=dc.eN aM
 obtain rfl:=cv.p' gr
 exact⟨⟨al,ay,bV,fZ,e,i⟩,rfl,⟨w0,bu,cP,c,g,j⟩⟩
def gP.eb(t:gP):List J:=[.int .i64 t.rM,.int .i64 t.Fv,.int .i64 t.Fw,.int .i64 t.Fx,.int .i64 t.Fy,.int .i64 t.Param]
theorem gP.lj(t:gP):hZ gP.ei t.cp=t.eb:=by
 unfold gP.ei gP.cp gP.eb
 simp only[sg,sh,si,sj,sk]
structure fX where
 Rows:Int
 Cells:List gP
def fX.cp(t:fX):List ds:=[.v (.int .i64 t.Rows),.bO (t.Cells.map gP.cp)]
def fX.ok(t:fX):Prop:=dr t.Rows/\(ph gP.ok) t.Cells
def fX.ei:List gf:=[.int .i64,.bO gP.ei]
theorem fX.len(t:fX):t.cp.length=2:=rfl
theorem fX.of{r:List ds}(h:cv fX.ei r):∃t,r=fX.cp t/\t.ok:=by
 unfold fX.ei at h
 obtain⟨d0,c,rfl,au,b⟩:=cv.cons_inv h
 obtain⟨al,rfl,w0⟩:=dc.eN au
 obtain⟨d1,e,rfl,h1,cE⟩:=cv.cons_inv b
 obtain⟨ay,rfl,bu⟩:=oy h1 (λ_ h=>gP.of h)
 obtain rfl:=cv.p' cE
 exact⟨⟨al,ay⟩,rfl,⟨w0,bu⟩⟩
def fX.eb(t:fX):List J:=[.int .i64 t.Rows,.bz 6 (t.Cells.map gP.eb)]
theorem fX.lj(t:fX):hZ fX.ei t.cp=t.eb:=by
 unfold fX.ei fX.cp fX.eb
 simp only[sg,sh,si,sj,sk,(show gX (.bO gP.ei) (.bO (t.Cells.map gP.cp))=.bz 6 (t.Cells.map gP.eb)from oG gP.lj _)]
structure gI where
 Name:ByteArray
 Data:List Int
 Fz:Int
 FA:Int
 im:Int
 FB:Int
 FC:Int
 Loop:Int
 Start:Int
 End:Int
 mH:Int
 mI:Int
 mJ:Int
def gI.cp(t:gI):List ds:=[.v (.string t.Name),.bO (t.Data.map q8),.v (.int .i64 t.Fz),.v (.int .i64 t.FA),.v (.int .i64 t.im),.v (.int .i64 t.FB),.v (.int .i64 t.FC),.v (.int .i64 t.Loop),.v (.int .i64 t.Start),.v (.int .i64 t.End),.v (.int .i64 t.mH),.v (.int .i64 t.mI),.v (.int .i64 t.mJ)]
def gI.ok(t:gI):Prop:=(λs=>s.size<=o3) t.Name/\(ph dr) t.Data/\dr t.Fz/\dr t.FA/\dr t.im/\dr t.FB/\dr t.FC/\dr t.Loop/\dr t.Start/\dr t.End/\dr t.mH/\dr t.mI/\dr t.mJ
def gI.ei:List gf:=[.str,.bO [.int .i64],.int .i64,.int .i64,.int .i64,.int .i64,.int .i64,.int .i64,.int .i64,.int .i64,.int .i64,.int .i64,.int .i64]
theorem gI.len(t:gI):t.cp.length=13:=rfl
theorem gI.of{r:List ds}(h:cv gI.ei r):∃t,r=gI.cp t/\t.ok:=by
 unfold gI.ei at h
 obtain⟨d0,O,rfl,au,b⟩:=cv.cons_inv h
 obtain⟨al,rfl,w0⟩:=dc.GX au
 obtain⟨d1,P,rfl,h1,cE⟩:=cv.cons_inv b
 obtain⟨ay,rfl,bu⟩:=oy h1 (λ_ h=>GY h)
 obtain⟨Q,R,rfl,h2,cD⟩:=cv.cons_inv cE
 obtain⟨bV,rfl,cP⟩:=dc.eN h2
 obtain⟨S,T,rfl,ak,dE⟩:=cv.cons_inv cD
 obtain⟨fZ,rfl,c⟩:=dc.eN ak
 obtain⟨U,V,rfl,aH,fe⟩:=cv.cons_inv dE
 obtain⟨e,rfl,g⟩:=dc.eN aH
 obtain⟨W,X,rfl,aM,gr⟩:=cv.cons_inv fe
 obtain⟨i,rfl,j⟩:=dc.eN aM
 obtain⟨Y,Z,rfl,bp,k⟩:=cv.cons_inv gr
 obtain⟨l,rfl,m⟩:=dc.eN bp
 obtain⟨aa,ab,rfl,cl,n⟩:=cv.cons_inv k
 obtain⟨o,rfl,p⟩:=dc.eN cl
 obtain⟨ac,ad,rfl,q,u⟩:=cv.cons_inv n
 obtain⟨w,rfl,x⟩:=dc.eN q
 obtain⟨ae,af,rfl,y,z⟩:=cv.cons_inv u
 obtain⟨A,rfl,B⟩:=dc.eN y
 obtain⟨ag,aj,rfl,C,D⟩:=cv.cons_inv z
 obtain⟨E,rfl,F⟩:=dc.eN C
 obtain⟨am,an,rfl,G,H⟩:=cv.cons_inv D
 obtain⟨I,rfl,J⟩:=dc.eN G
 obtain⟨ao,ap,rfl,K,L⟩:=cv.cons_inv H
 obtain⟨M,rfl,N⟩:=dc.eN K
 obtain rfl:=cv.p' L
 exact⟨⟨al,ay,bV,fZ,e,i,l,o,w,A,E,I,M⟩,rfl,⟨w0,bu,cP,c,g,j,m,p,x,B,F,J,N⟩⟩
def gI.eb(t:gI):List J:=[.str t.Name,.bz 1 (t.Data.map bA),.int .i64 t.Fz,.int .i64 t.FA,.int .i64 t.im,.int .i64 t.FB,.int .i64 t.FC,.int .i64 t.Loop,.int .i64 t.Start,.int .i64 t.End,.int .i64 t.mH,.int .i64 t.mI,.int .i64 t.mJ]
theorem gI.lj(t:gI):hZ gI.ei t.cp=t.eb:=by
 unfold gI.ei gI.cp gI.eb
 simp only[sg,sh,si,sj,sk,(show gX (.bO [.int .i64]) (.bO (t.Data.map q8))=.bz 1 (t.Data.map bA)from oG Hy _)]
structure gJ where
 rM:Int
 FD:Int
def gJ.cp(t:gJ):List ds:=[.v (.int .i64 t.rM),.v (.int .i64 t.FD)]
def gJ.ok(t:gJ):Prop:=dr t.rM/\dr t.FD
def gJ.ei:List gf:=[.int .i64,.int .i64]
theorem gJ.len(t:gJ):t.cp.length=2:=rfl
theorem gJ.of{r:List ds}(h:cv gJ.ei r):∃t,r=gJ.cp t/\t.ok:=by
 unfold gJ.ei at h
 obtain⟨d0,c,rfl,au,b⟩:=cv.cons_inv h
 obtain⟨al,rfl,w0⟩:=dc.eN au
 obtain⟨d1,e,rfl,h1,cE⟩:=cv.cons_inv b
 obtain⟨ay,rfl,bu⟩:=dc.eN h1
 obtain rfl:=cv.p' cE
 exact⟨⟨al,ay⟩,rfl,⟨w0,bu⟩⟩
def gJ.eb(t:gJ):List J:=[.int .i64 t.rM,.int .i64 t.FD]
theorem gJ.lj(t:gJ):hZ gJ.ei t.cp=t.eb:=by
 unfold gJ.ei gJ.cp gJ.eb
 simp only[sg,sh,si,sj,sk]
structure dV where
 FE:Int
 FF:Int
def dV.cp(t:dV):List ds:=[.v (.int .i64 t.FE),.v (.int .i64 t.FF)]
def dV.ok(t:dV):Prop:=dr t.FE/\dr t.FF
def dV.ei:List gf:=[.int .i64,.int .i64]
theorem dV.len(t:dV):t.cp.length=2:=rfl
theorem dV.of{r:List ds}(h:cv dV.ei r):∃t,r=dV.cp t/\t.ok:=by
 unfold dV.ei at h
 obtain⟨d0,c,rfl,au,b⟩:=cv.cons_inv h
 obtain⟨al,rfl,w0⟩:=dc.eN au
 obtain⟨d1,e,rfl,h1,cE⟩:=cv.cons_inv b
 obtain⟨ay,rfl,bu⟩:=dc.eN h1
 obtain rfl:=cv.p' cE
 exact⟨⟨al,ay⟩,rfl,⟨w0,bu⟩⟩
def dV.eb(t:dV):List J:=[.int .i64 t.FE,.int .i64 t.FF]
theorem dV.lj(t:dV):hZ dV.ei t.cp=t.eb:=by
 unfold dV.ei dV.cp dV.eb
 simp only[sg,sh,si,sj,sk]
structure hE where
 qQ:Bool
 jM:List dV
 mH:Bool
 mI:Int
 mJ:Int
 Loop:Bool
 qR:Int
 qS:Int
def hE.cp(t:hE):List ds:=[.v (.bool t.qQ),.bO (t.jM.map dV.cp),.v (.bool t.mH),.v (.int .i64 t.mI),.v (.int .i64 t.mJ),.v (.bool t.Loop),.v (.int .i64 t.qR),.v (.int .i64 t.qS)]
def hE.ok(t:hE):Prop:=(λ_=>True) t.qQ/\(ph dV.ok) t.jM/\(λ_=>True) t.mH/\dr t.mI/\dr t.mJ/\(λ_=>True) t.Loop/\dr t.qR/\dr t.qS
def hE.ei:List gf:=[.bool,.bO dV.ei,.bool,.int .i64,.int .i64,.bool,.int .i64,.int .i64]
theorem hE.len(t:hE):t.cp.length=8:=rfl
theorem hE.of{r:List ds}(h:cv hE.ei r):∃t,r=hE.cp t/\t.ok:=by
 unfold hE.ei at h
 obtain⟨d0,q,rfl,au,b⟩:=cv.cons_inv h
 obtain⟨al,rfl⟩:=dc.nL au
 have w0:True:=trivial
 obtain⟨d1,u,rfl,h1,cE⟩:=cv.cons_inv b
 obtain⟨ay,rfl,bu⟩:=oy h1 (λ_ h=>dV.of h)
 obtain⟨w,x,rfl,h2,cD⟩:=cv.cons_inv cE
 obtain⟨bV,rfl⟩:=dc.nL h2
 have cP:True:=trivial
 obtain⟨y,z,rfl,ak,dE⟩:=cv.cons_inv cD
 obtain⟨fZ,rfl,c⟩:=dc.eN ak
 obtain⟨A,B,rfl,aH,fe⟩:=cv.cons_inv dE
 obtain⟨e,rfl,g⟩:=dc.eN aH
 obtain⟨C,D,rfl,aM,gr⟩:=cv.cons_inv fe
 obtain⟨i,rfl⟩:=dc.nL aM
 have j:True:=trivial
 obtain⟨E,F,rfl,bp,k⟩:=cv.cons_inv gr
 obtain⟨l,rfl,m⟩:=dc.eN bp
 obtain⟨G,H,rfl,cl,n⟩:=cv.cons_inv k
 obtain⟨o,rfl,p⟩:=dc.eN cl
 obtain rfl:=cv.p' n
 exact⟨⟨al,ay,bV,fZ,e,i,l,o⟩,rfl,⟨w0,bu,cP,c,g,j,m,p⟩⟩
def hE.eb(t:hE):List J:=[.bool t.qQ,.bz 2 (t.jM.map dV.eb),.bool t.mH,.int .i64 t.mI,.int .i64 t.mJ,.bool t.Loop,.int .i64 t.qR,.int .i64 t.qS]
theorem hE.lj(t:hE):hZ hE.ei t.cp=t.eb:=by
 unfold hE.ei hE.cp hE.eb
 simp only[sg,sh,si,sj,sk,(show gX (.bO dV.ei) (.bO (t.jM.map dV.cp))=.bz 2 (t.jM.map dV.eb)from oG dV.lj _)]
structure fO where
 Name:ByteArray
 ud:List gJ
 im:hE
 jN:hE
 jO:hE
 FG:Int
 FH:Int
 FI:Int
 FJ:Int
 Global:Int
 FK:Int
 FL:Int
def fO.cp(t:fO):List ds:=[.v (.string t.Name),.bO (t.ud.map gJ.cp),.v (.bool t.im.qQ),.bO (t.im.jM.map dV.cp),.v (.bool t.im.mH),.v (.int .i64 t.im.mI),.v (.int .i64 t.im.mJ),.v (.bool t.im.Loop),.v (.int .i64 t.im.qR),.v (.int .i64 t.im.qS),.v (.bool t.jN.qQ),.bO (t.jN.jM.map dV.cp),.v (.bool t.jN.mH),.v (.int .i64 t.jN.mI),.v (.int .i64 t.jN.mJ),.v (.bool t.jN.Loop),.v (.int .i64 t.jN.qR),.v (.int .i64 t.jN.qS),.v (.bool t.jO.qQ),.bO (t.jO.jM.map dV.cp),.v (.bool t.jO.mH),.v (.int .i64 t.jO.mI),.v (.int .i64 t.jO.mJ),.v (.bool t.jO.Loop),.v (.int .i64 t.jO.qR),.v (.int .i64 t.jO.qS),.v (.int .i64 t.FG),.v (.int .i64 t.FH),.v (.int .i64 t.FI),.v (.int .i64 t.FJ),.v (.int .i64 t.Global),.v (.int .i64 t.FK),.v (.int .i64 t.FL)]
def fO.ok(t:fO):Prop:=(λs=>s.size<=o3) t.Name/\(ph gJ.ok) t.ud/\hE.ok t.im/\hE.ok t.jN/\hE.ok t.jO/\dr t.FG/\dr t.FH/\dr t.FI/\dr t.FJ/\dr t.Global/\dr t.FK/\dr t.FL
def fO.ei:List gf:=[.str,.bO gJ.ei,.bool,.bO dV.ei,.bool,.int .i64,.int .i64,.bool,.int .i64,.int .i64,.bool,.bO dV.ei,.bool,.int .i64,.int .i64,.bool,.int .i64,.int .i64,.bool,.bO dV.ei,.bool,.int .i64,.int .i64,.bool,.int .i64,.int .i64,.int .i64,.int .i64,.int .i64,.int .i64,.int .i64,.int .i64,.int .i64]
theorem fO.len(t:fO):t.cp.length=33:=rfl
theorem fO.of{r:List ds}(h:cv fO.ei r):∃t,r=fO.cp t/\t.ok:=by
 unfold fO.ei at h
 obtain⟨d0,bx,rfl,au,b⟩:=cv.cons_inv h
 obtain⟨al,rfl,w0⟩:=dc.GX au
 obtain⟨d1,bA,rfl,h1,cE⟩:=cv.cons_inv b
 obtain⟨ay,rfl,bu⟩:=oy h1 (λ_ h=>gJ.of h)
 obtain⟨bB,bC,rfl,h2,cD⟩:=cv.cons_inv cE
 obtain⟨bV,rfl⟩:=dc.nL h2
 have cP:True:=trivial
 obtain⟨bD,bE,rfl,ak,dE⟩:=cv.cons_inv cD
 obtain⟨fZ,rfl,c⟩:=oy ak (λ_ h=>dV.of h)
 obtain⟨bF,bG,rfl,aH,fe⟩:=cv.cons_inv dE
 obtain⟨e,rfl⟩:=dc.nL aH
 have g:True:=trivial
 obtain⟨bH,bI,rfl,aM,gr⟩:=cv.cons_inv fe
 obtain⟨i,rfl,j⟩:=dc.eN aM
 obtain⟨bJ,bK,rfl,bp,k⟩:=cv.cons_inv gr
 obtain⟨l,rfl,m⟩:=dc.eN bp
 obtain⟨bL,bM,rfl,cl,n⟩:=cv.cons_inv k
 obtain⟨o,rfl⟩:=dc.nL cl
 have p:True:=trivial
 obtain⟨bN,bP,rfl,q,u⟩:=cv.cons_inv n
 obtain⟨w,rfl,x⟩:=dc.eN q
 obtain⟨bQ,bR,rfl,y,z⟩:=cv.cons_inv u
 obtain⟨A,rfl,B⟩:=dc.eN y
 obtain⟨bS,bT,rfl,C,D⟩:=cv.cons_inv z
 obtain⟨E,rfl⟩:=dc.nL C
 have F:True:=trivial
 obtain⟨bU,bW,rfl,G,H⟩:=cv.cons_inv D
 obtain⟨I,rfl,J⟩:=oy G (λ_ h=>dV.of h)
 obtain⟨bX,bY,rfl,K,L⟩:=cv.cons_inv H
 obtain⟨M,rfl⟩:=dc.nL K
 have N:True:=trivial
 obtain⟨b0,b1,rfl,O,P⟩:=cv.cons_inv L
 obtain⟨Q,rfl,R⟩:=dc.eN O
 obtain⟨b2,b3,rfl,S,T⟩:=cv.cons_inv P
 obtain⟨U,rfl,V⟩:=dc.eN S
 obtain⟨b4,b5,rfl,W,X⟩:=cv.cons_inv T
 obtain⟨Y,rfl⟩:=dc.nL W
 have Z:True:=trivial
 obtain⟨b6,b7,rfl,aa,ab⟩:=cv.cons_inv X
 obtain⟨ac,rfl,ad⟩:=dc.eN aa
 obtain⟨b8,b9,rfl,ae,af⟩:=cv.cons_inv ab
 obtain⟨ag,rfl,aj⟩:=dc.eN ae
 obtain⟨b_,b',rfl,am,an⟩:=cv.cons_inv af
 obtain⟨ao,rfl⟩:=dc.nL am
 have ap:True:=trivial
 obtain⟨ca,cb,rfl,aq,ar⟩:=cv.cons_inv an
 obtain⟨av,rfl,aw⟩:=oy aq (λ_ h=>dV.of h)
 obtain⟨cc,cd,rfl,az,aA⟩:=cv.cons_inv ar
 obtain⟨aB,rfl⟩:=dc.nL az
 have aC:True:=trivial
 obtain⟨ce,cf,rfl,aD,aE⟩:=cv.cons_inv aA
 obtain⟨aF,rfl,aI⟩:=dc.eN aD
 obtain⟨cg,ch,rfl,aJ,aK⟩:=cv.cons_inv aE
 obtain⟨aL,rfl,aN⟩:=dc.eN aJ
 obtain⟨ci,cj,rfl,aO,aP⟩:=cv.cons_inv aK
 obtain⟨aQ,rfl⟩:=dc.nL aO
 have aR:True:=trivial
 obtain⟨ck,cm,rfl,aS,aT⟩:=cv.cons_inv aP
 obtain⟨aU,rfl,aV⟩:=dc.eN aS
 obtain⟨cn,co,rfl,aW,aX⟩:=cv.cons_inv aT
 obtain⟨aY,rfl,aZ⟩:=dc.eN aW
 obtain⟨cq,cr,rfl,a0,a1⟩:=cv.cons_inv aX
 obtain⟨a2,rfl,a3⟩:=dc.eN a0
 obtain⟨cs,ct,rfl,a4,a5⟩:=cv.cons_inv a1
 obtain⟨a6,rfl,a7⟩:=dc.eN a4
 obtain⟨cu,cx,rfl,a8,a9⟩:=cv.cons_inv a5
 obtain⟨a_,rfl,a'⟩:=dc.eN a8
 obtain⟨cy,cz,rfl,ba,bb⟩:=cv.cons_inv a9
 obtain⟨bd,rfl,be⟩:=dc.eN ba
 obtain⟨cA,cB,rfl,bf,bg⟩:=cv.cons_inv bb
 obtain⟨bh,rfl,bi⟩:=dc.eN bf
 obtain⟨cC,cF,rfl,bj,bn⟩:=cv.cons_inv bg
 obtain⟨bq,rfl,br⟩:=dc.eN bj
 obtain⟨cG,cH,rfl,bs,bt⟩:=cv.cons_inv bn
 obtain⟨bv,rfl,bw⟩:=dc.eN bs
 obtain rfl:=cv.p' bt
 exact⟨⟨al,ay,⟨bV,fZ,e,i,l,o,w,A⟩,⟨E,I,M,Q,U,Y,ac,ag⟩,⟨ao,av,aB,aF,aL,aQ,aU,aY⟩,a2,a6,a_,bd,bh,bq,bv⟩,rfl,⟨w0,bu,⟨cP,c,g,j,m,p,x,B⟩,⟨F,J,N,R,V,Z,ad,aj⟩,⟨ap,aw,aC,aI,aN,aR,aV,aZ⟩,a3,a7,a',be,bi,br,bw⟩⟩
def fO.eb(t:fO):List J:=[.str t.Name,.bz 2 (t.ud.map gJ.eb),.bool t.im.qQ,.bz 2 (t.im.jM.map dV.eb),.bool t.im.mH,.int .i64 t.im.mI,.int .i64 t.im.mJ,.bool t.im.Loop,.int .i64 t.im.qR,.int .i64 t.im.qS,.bool t.jN.qQ,.bz 2 (t.jN.jM.map dV.eb),.bool t.jN.mH,.int .i64 t.jN.mI,.int .i64 t.jN.mJ,.bool t.jN.Loop,.int .i64 t.jN.qR,.int .i64 t.jN.qS,.bool t.jO.qQ,.bz 2 (t.jO.jM.map dV.eb),.bool t.jO.mH,.int .i64 t.jO.mI,.int .i64 t.jO.mJ,.bool t.jO.Loop,.int .i64 t.jO.qR,.int .i64 t.jO.qS,.int .i64 t.FG,.int .i64 t.FH,.int .i64 t.FI,.int .i64 t.FJ,.int .i64 t.Global,.int .i64 t.FK,.int .i64 t.FL]
theorem fO.lj(t:fO):hZ fO.ei t.cp=t.eb:=by
 unfold fO.ei fO.cp fO.eb
 simp only[sg,sh,si,sj,sk,(show gX (.bO gJ.ei) (.bO (t.ud.map gJ.cp))=.bz 2 (t.ud.map gJ.eb)from oG gJ.lj _),(show gX (.bO dV.ei) (.bO (t.im.jM.map dV.cp))=.bz 2 (t.im.jM.map dV.eb)from oG dV.lj _),(show gX (.bO dV.ei) (.bO (t.jN.jM.map dV.cp))=.bz 2 (t.jN.jM.map dV.eb)from oG dV.lj _),(show gX (.bO dV.ei) (.bO (t.jO.jM.map dV.cp))=.bz 2 (t.jO.jM.map dV.eb)from oG dV.lj _)]
structure gQ where
 Name:ByteArray
 FM:Int
 FN:Int
 Orders:List Int
 FO:Int
 FP:Int
 FQ:Int
 Global:Int
 Linear:Bool
 wN:List Int
 ue:List fX
 uf:List gI
 Insts:List fO
def gQ.cp(t:gQ):List ds:=[.v (.string t.Name),.v (.int .i64 t.FM),.v (.int .i64 t.FN),.bO (t.Orders.map q8),.v (.int .i64 t.FO),.v (.int .i64 t.FP),.v (.int .i64 t.FQ),.v (.int .i64 t.Global),.v (.bool t.Linear),.bO (t.wN.map q8),.bO (t.ue.map fX.cp),.bO (t.uf.map gI.cp),.bO (t.Insts.map fO.cp)]
def gQ.ok(t:gQ):Prop:=(λs=>s.size<=o3) t.Name/\dr t.FM/\dr t.FN/\(ph dr) t.Orders/\dr t.FO/\dr t.FP/\dr t.FQ/\dr t.Global/\(λ_=>True) t.Linear/\(ph dr) t.wN/\(ph fX.ok) t.ue/\(ph gI.ok) t.uf/\(ph fO.ok) t.Insts
def gQ.ei:List gf:=[.str,.int .i64,.int .i64,.bO [.int .i64],.int .i64,.int .i64,.int .i64,.int .i64,.bool,.bO [.int .i64],.bO fX.ei,.bO gI.ei,.bO fO.ei]
theorem gQ.len(t:gQ):t.cp.length=13:=rfl
theorem gQ.of{r:List ds}(h:cv gQ.ei r):∃t,r=gQ.cp t/\t.ok:=by
 unfold gQ.ei at h
 obtain⟨d0,O,rfl,au,b⟩:=cv.cons_inv h
 obtain⟨al,rfl,w0⟩:=dc.GX au
 obtain⟨d1,P,rfl,h1,cE⟩:=cv.cons_inv b
 obtain⟨ay,rfl,bu⟩:=dc.eN h1
 obtain⟨Q,R,rfl,h2,cD⟩:=cv.cons_inv cE
 obtain⟨bV,rfl,cP⟩:=dc.eN h2
 obtain⟨S,T,rfl,ak,dE⟩:=cv.cons_inv cD
 obtain⟨fZ,rfl,c⟩:=oy ak (λ_ h=>GY h)
 obtain⟨U,V,rfl,aH,fe⟩:=cv.cons_inv dE
 obtain⟨e,rfl,g⟩:=dc.eN aH
 obtain⟨W,X,rfl,aM,gr⟩:=cv.cons_inv fe
 obtain⟨i,rfl,j⟩:=dc.eN aM
 obtain⟨Y,Z,rfl,bp,k⟩:=cv.cons_inv gr
 obtain⟨l,rfl,m⟩:=dc.eN bp
 obtain⟨aa,ab,rfl,cl,n⟩:=cv.cons_inv k
 obtain⟨o,rfl,p⟩:=dc.eN cl
 obtain⟨ac,ad,rfl,q,u⟩:=cv.cons_inv n
 obtain⟨w,rfl⟩:=dc.nL q
 have x:True:=trivial
 obtain⟨ae,af,rfl,y,z⟩:=cv.cons_inv u
 obtain⟨A,rfl,B⟩:=oy y (λ_ h=>GY h)
 obtain⟨ag,aj,rfl,C,D⟩:=cv.cons_inv z
 obtain⟨E,rfl,F⟩:=oy C (λ_ h=>fX.of h)
 obtain⟨am,an,rfl,G,H⟩:=cv.cons_inv D
 obtain⟨I,rfl,J⟩:=oy G (λ_ h=>gI.of h)
 obtain⟨ao,ap,rfl,K,L⟩:=cv.cons_inv H
 obtain⟨M,rfl,N⟩:=oy K (λ_ h=>fO.of h)
 obtain rfl:=cv.p' L
 exact⟨⟨al,ay,bV,fZ,e,i,l,o,w,A,E,I,M⟩,rfl,⟨w0,bu,cP,c,g,j,m,p,x,B,F,J,N⟩⟩
def gQ.eb(t:gQ):List J:=[.str t.Name,.int .i64 t.FM,.int .i64 t.FN,.bz 1 (t.Orders.map bA),.int .i64 t.FO,.int .i64 t.FP,.int .i64 t.FQ,.int .i64 t.Global,.bool t.Linear,.bz 1 (t.wN.map bA),.bz 2 (t.ue.map fX.eb),.bz 13 (t.uf.map gI.eb),.bz 33 (t.Insts.map fO.eb)]
theorem gQ.lj(t:gQ):hZ gQ.ei t.cp=t.eb:=by
 unfold gQ.ei gQ.cp gQ.eb
 simp only[sg,sh,si,sj,sk,(show gX (.bO [.int .i64]) (.bO (t.Orders.map q8))=.bz 1 (t.Orders.map bA)from oG Hy _),(show gX (.bO [.int .i64]) (.bO (t.wN.map q8))=.bz 1 (t.wN.map bA)from oG Hy _),(show gX (.bO fX.ei) (.bO (t.ue.map fX.cp))=.bz 2 (t.ue.map fX.eb)from oG fX.lj _),(show gX (.bO gI.ei) (.bO (t.uf.map gI.cp))=.bz 13 (t.uf.map gI.eb)from oG gI.lj _),(show gX (.bO fO.ei) (.bO (t.Insts.map fO.cp))=.bz 33 (t.Insts.map fO.eb)from oG fO.lj _)]
def gP.to(t:gP):Cell:=⟨t.rM,t.Fv,t.Fw,t.Fx,t.Fy,t.Param⟩
def fX.to(t:fX):eD:=(t.Rows,t.Cells.map gP.to)
def gI.to(t:gI):eS:=⟨t.Name,t.Data,t.Fz,t.FA,t.im,t.FB,t.FC,t.Loop,t.Start,t.End,t.mH,t.mI,t.mJ⟩
def gJ.to(t:gJ):Int×Int:=(t.rM,t.FD)
def dV.to(t:dV):Int×Int:=(t.FE,t.FF)
def hE.to(t:hE):bJ:=⟨t.qQ,t.jM.map dV.to,t.mH,t.mI,t.mJ,t.Loop,t.qR,t.qS⟩
def fO.to(t:fO):c1:=⟨t.Name,t.ud.map gJ.to,t.im.to,t.jN.to,t.jO.to,t.FG,t.FH,t.FI,t.FJ,t.Global,t.FK,t.FL⟩
def gQ.to(t:gQ):aK:=⟨t.Name,t.FM,t.FN,t.Orders,t.FO,t.FP,t.FQ,t.Global,t.Linear,t.wN,t.ue.map fX.to,t.uf.map gI.to,t.Insts.map fO.to⟩
theorem wO{α β:Type}{f:α->β}{g:β->List J}{k:α->List J}(h:∀a,g (f a)=k a)(l:List α):(l.map f).map g=l.map k:=by
 rw[List.map_map]
 exact List.map_congr_left λa _=>h a
theorem fX.wP(t:fX):dC t.to=t.eb:=by
 unfold dC hO fX.to fX.eb
 rw[wO (f:=gP.to) (g:=Cell.cs) (k:=gP.eb) (λa=>rfl)]
theorem hE.J8(t:hE):hP t.to.dt=.bz 2 (t.jM.map dV.eb):=by
 unfold hP hE.to
 rw[wO (f:=dV.to) (g:=iN) (k:=dV.eb) (λa=>rfl)]
theorem fO.wP(t:fO):t.to.cs=t.eb:=by
 unfold c1.cs bJ.cs
 rw[show hP t.to.bm.dt=.bz 2 (t.im.jM.map dV.eb)from t.im.J8,show hP t.to.bk.dt=.bz 2 (t.jN.jM.map dV.eb)from t.jN.J8,show hP t.to.bl.dt=.bz 2 (t.jO.jM.map dV.eb)from t.jO.J8]
 rw[show jC t.to.keys=.bz 2 (t.ud.map gJ.eb)from cV (J.bz 2) (wO (f:=gJ.to) (g:=cM) (k:=gJ.eb) (λa=>rfl) _)]
 rfl
theorem gQ.wP(t:gQ):t.to.cs=t.eb:=by
 unfold aK.cs
 rw[show lB t.to.ax=.bz 2 (t.ue.map fX.eb)from cV (J.bz 2) (wO (f:=fX.to) (g:=dC) (k:=fX.eb) fX.wP _)]
 rw[show k8 t.to.aG=.bz 13 (t.uf.map gI.eb)from cV (J.bz 13) (wO (f:=gI.to) (g:=eS.cs) (k:=gI.eb) (λa=>rfl) _)]
 rw[show nn t.to.ai=.bz 33 (t.Insts.map fO.eb)from cV (J.bz 33) (wO (f:=fO.to) (g:=c1.cs) (k:=fO.eb) fO.wP _)]
 rfl
theorem FR{α:Type}{p:α->Prop}{l:List α}(h:ph p l):l.length<9223372036854775808:=by
 have h1:=h.1
 have:o3=9223372036854775807:=rfl
 omega
theorem sX{α β:Type}{p:α->Prop}{l:List α}{f:α->β}(h:ph p l):(l.map f).length<9223372036854775808:=by rw[dn];exact FR h
theorem J9{s:ByteArray}(h:s.size<=o3):s.size<9223372036854775808:=by
 have:o3=9223372036854775807:=rfl
 omega
theorem fO.FT{t:fO}(h:t.ok):sA t.to:=by
 obtain⟨h1,h2,ak,aH,aM,_⟩:=h
 exact⟨J9 h1,sX h2,sX ak.2.1,sX aH.2.1,sX aM.2.1⟩
theorem gQ.FT{t:gQ}(h:t.ok):gl t.to:=by
 obtain⟨h1,_,_,h2,_,_,_,_,_,ak,aH,aM,bp⟩:=h
 exact {
  name:=J9 h1
  bo:=FR h2
  cw:=FR ak
  ax:=sX aH
  cells:=λp aj=>by
   obtain⟨q,bs,rfl⟩:=List.mem_map.1 aj
   exact sX (aH.2 q bs).2
  aG:=sX aM
  lC:=λp aj=>by
   obtain⟨q,bs,rfl⟩:=List.mem_map.1 aj
   exact⟨J9 (aM.2 q bs).1,FR (aM.2 q bs).2.1⟩
  ai:=sX bp
  ins:=λp aj=>by
   obtain⟨q,bs,rfl⟩:=List.mem_map.1 aj
   exact fO.FT (bp.2 q bs) }
theorem ahB{t u:gQ}(h:t.ok)(g:u.ok)(aj:U):aJ 3 [.agg t.eb,.agg u.eb] aj=I (.bool true,aj):=by
 rw[←t.wP,←u.wP]
 exact gj t.to u.to (gQ.FT h) (gQ.FT g) aj
end Go.aN.X
