/- SongEquals: THE LAW ANSWERS TRUE FOR EVERY INPUT, AND EACH ARGUMENT READS BEHIND THE CALL AS BEFORE. No condition. -/
import Derived.Test.YtffennknofmjoaaGreatP9
import Derived.Test.YtffennknofmjoaaGreatRows
import Derived.WalkKit
import Derived.ProofKit
import Derived.OpenShut
import Derived.ChangeOld
import Derived.Below
import Derived.Carry
import Derived.SizedLaws
set_option linter.unusedSimpArgs false
set_option linter.unusedVariables false
set_option linter.unusedVariables false
namespace Go.Proofs.YtffennknofmjoaaGreat.Ty
open Go.ChangeShapes Go.WideShapes Go.ChangeAt Go.RowKit Go.bB Go.aN Go.aN.X
theorem own:ownKnob Tryz.prog.godebug=none:=by kernel_rfl
theorem laidOut:laidOutB Tryz.prog=true:=by kernel_rfl
theorem mixed:Tryz.prog.follows .mixedOrders=true:=by kernel_rfl
theorem table:tl Tryz.prog (iz.erase T):=by
 obtain⟨_,_,cZ⟩:=XT
 obtain⟨_,_,f_⟩:=XU
 obtain⟨_,_,b⟩:=XV
 obtain⟨_,_,c⟩:=XW
 obtain⟨_,_,e⟩:=XX
 obtain⟨_,_,g⟩:=XY
 obtain⟨_,_,h⟩:=XZ
 obtain⟨_,_,i⟩:=X0
 obtain⟨_,_,j⟩:=X1
 obtain⟨_,_,k⟩:=X2
 obtain⟨_,_,l⟩:=X3
 obtain⟨_,_,m⟩:=X4
 obtain⟨_,_,n⟩:=X5
 obtain⟨_,_,o⟩:=X6
 obtain⟨_,_,p⟩:=X8
 obtain⟨_,_,q⟩:=X9
 obtain⟨_,_,t⟩:=X_
 obtain⟨_,_,u⟩:=X'
 obtain⟨_,_,w⟩:=Ya
 obtain⟨_,_,x⟩:=Yb
 obtain⟨_,_,y⟩:=Yc
 obtain⟨_,_,z⟩:=Yd
 obtain⟨_,_,A⟩:=Ye
 obtain⟨_,_,B⟩:=Yf
 obtain⟨_,_,C⟩:=Yg
 obtain⟨_,_,D⟩:=Yh
 obtain⟨_,_,E⟩:=Yi
 obtain⟨_,_,F⟩:=Yj
 obtain⟨_,_,G⟩:=Yk
 obtain⟨_,_,H⟩:=Ym
 obtain⟨_,_,I⟩:=Yn
 obtain⟨_,_,J⟩:=Yo
 obtain⟨_,_,K⟩:=Yp
 obtain⟨_,_,L⟩:=Yq
 obtain⟨_,_,M⟩:=Yr
 obtain⟨_,_,N⟩:=Ys
 obtain⟨_,_,O⟩:=Yt
 obtain⟨_,_,P⟩:=Yu
 obtain⟨_,_,Q⟩:=Yv
 obtain⟨_,_,R⟩:=Yw
 obtain⟨_,_,S⟩:=Yx
 obtain⟨_,_,U⟩:=Yy
 obtain⟨_,_,V⟩:=Yz
 obtain⟨_,_,wh⟩:=YA
 obtain⟨_,_,W⟩:=YB
 obtain⟨_,_,X⟩:=YC
 obtain⟨_,_,Y⟩:=YD
 obtain⟨_,_,Z⟩:=YE
 obtain⟨_,_,aa⟩:=YF
 obtain⟨_,_,ab⟩:=YG
 obtain⟨_,_,ac⟩:=YH
 obtain⟨_,_,ad⟩:=YI
 obtain⟨_,_,ae⟩:=YJ
 obtain⟨_,_,af⟩:=YK
 obtain⟨_,_,ag⟩:=YL
 obtain⟨_,_,aj⟩:=YM
 obtain⟨_,_,ak⟩:=YN
 obtain⟨_,_,al⟩:=YO
 obtain⟨_,_,am⟩:=YP
 obtain⟨_,_,an⟩:=YQ
 obtain⟨_,_,ao⟩:=YR
 obtain⟨_,_,ap⟩:=YS
 obtain⟨_,_,aq⟩:=YT
 obtain⟨_,_,ar⟩:=YU
 obtain⟨_,_,au⟩:=YV
 obtain⟨_,_,av⟩:=YW
 obtain⟨_,_,aw⟩:=YX
 obtain⟨_,_,ay⟩:=ZX
 obtain⟨_,_,az⟩:=ZY
 obtain⟨_,_,aA⟩:=ZZ
 obtain⟨_,_,aB⟩:=Z0
 obtain⟨_,_,aC⟩:=Z1
 obtain⟨_,_,aD⟩:=Z2
 obtain⟨_,_,aE⟩:=Z3
 obtain⟨_,_,aF⟩:=Z4
 obtain⟨_,_,aH⟩:=Z6
 obtain⟨_,_,aI⟩:=Z8
 obtain⟨_,_,aJ⟩:=Z9
 obtain⟨_,_,aK⟩:=Z_
 obtain⟨_,_,aL⟩:=Z'
 obtain⟨_,_,aM⟩:=aaa
 obtain⟨_,_,aN⟩:=aab
 obtain⟨_,_,aO⟩:=aac
 obtain⟨_,_,aP⟩:=aad
 obtain⟨_,_,aQ⟩:=aae
 obtain⟨_,_,aR⟩:=aaf
 obtain⟨_,_,aS⟩:=aag
 obtain⟨_,_,aT⟩:=aah
 obtain⟨_,_,aU⟩:=aai
 obtain⟨_,_,aV⟩:=aaj
 obtain⟨_,_,aW⟩:=aak
 obtain⟨_,_,aX⟩:=aal
 obtain⟨_,_,aY⟩:=aam
 obtain⟨_,_,aZ⟩:=aan
 obtain⟨_,_,a0⟩:=aao
 obtain⟨_,_,a1⟩:=aap
 obtain⟨_,_,a2⟩:=aaq
 obtain⟨_,_,a3⟩:=aar
 obtain⟨_,_,a4⟩:=aas
 obtain⟨_,_,a5⟩:=aat
 obtain⟨_,_,a6⟩:=aau
 obtain⟨_,_,a7⟩:=aav
 obtain⟨_,_,a8⟩:=aaw
 obtain⟨_,_,a9⟩:=aax
 obtain⟨_,_,a_⟩:=aay
 obtain⟨_,_,a'⟩:=aaz
 obtain⟨_,_,ba⟩:=aaA
 obtain⟨_,_,bb⟩:=aaB
 obtain⟨_,_,bd⟩:=aaC
 obtain⟨_,_,be⟩:=aaD
 obtain⟨_,_,bf⟩:=aaE
 obtain⟨_,_,bg⟩:=aaF
 obtain⟨_,_,bh⟩:=aaG
 obtain⟨_,_,bi⟩:=aaH
 obtain⟨_,_,bj⟩:=aaI
 obtain⟨_,_,bn⟩:=aaJ
 obtain⟨_,_,bp⟩:=aaK
 obtain⟨_,_,bq⟩:=aaL
 obtain⟨_,_,br⟩:=aaM
 obtain⟨_,_,bs⟩:=aaN
 obtain⟨_,_,bt⟩:=aaO
 obtain⟨_,_,bu⟩:=aaP
 obtain⟨_,_,bv⟩:=aaQ
 obtain⟨_,_,bw⟩:=aaR
 obtain⟨_,_,bx⟩:=aaS
 obtain⟨_,_,bA⟩:=aaT
 obtain⟨_,_,bB⟩:=aaV
 obtain⟨_,_,bC⟩:=aaW
 obtain⟨_,_,bD⟩:=aaX
 obtain⟨_,_,bE⟩:=aaY
 obtain⟨_,_,bF⟩:=aaZ
 obtain⟨_,_,bG⟩:=aa0
 obtain⟨_,_,bH⟩:=aa1
 obtain⟨_,_,bI⟩:=aa2
 obtain⟨_,_,bJ⟩:=aa3
 obtain⟨_,_,bK⟩:=aa4
 obtain⟨_,_,bL⟩:=aa5
 obtain⟨_,_,bM⟩:=aa6
 obtain⟨_,_,bN⟩:=aa7
 obtain⟨_,_,bP⟩:=aa8
 obtain⟨_,_,bQ⟩:=aa9
 obtain⟨_,_,bR⟩:=aa_
 obtain⟨_,_,bS⟩:=aa'
 obtain⟨_,_,bT⟩:=aba
 obtain⟨_,_,bU⟩:=abb
 obtain⟨_,_,bV⟩:=abc
 obtain⟨_,_,bW⟩:=abd
 obtain⟨_,_,bX⟩:=abe
 obtain⟨_,_,bY⟩:=abf
 obtain⟨_,_,b0⟩:=abg
 exact b6 cZ (b6 f_ (b6 b (b6 c (b6 e (b6 g (b6 h (b6 i (b6 j (b6 k (b6 l (b6 m (b6 n (b6 o (b6 p (b6 q (b6 t (b6 u (b6 w (b6 x (b6 y (b6 z (b6 A (b6 B (b6 C (b6 D (b6 E (b6 F (b6 G (b6 H (b6 I (b6 J (b6 K (b6 L (b6 M (b6 N (b6 O (b6 P (b6 Q (b6 R (b6 S (b6 U (b6 V (b6 wh (b6 W (b6 X (b6 Y (b6 Z (b6 aa (b6 ab (b6 ac (b6 ad (b6 ae (b6 af (b6 ag (b6 aj (b6 ak (b6 al (b6 am (b6 an (b6 ao (b6 ap (b6 aq (b6 ar (b6 au (b6 av (b6 aw (b6 ay (b6 az (b6 aA (b6 aB (b6 aC (b6 aD (b6 aE (b6 aF (b6 aH (b6 aI (b6 aJ (b6 aK (b6 aL (b6 aM (b6 aN (b6 aO (b6 aP (b6 aQ (b6 aR (b6 aS (b6 aT (b6 aU (b6 aV (b6 aW (b6 aX (b6 aY (b6 aZ (b6 a0 (b6 a1 (b6 a2 (b6 a3 (b6 a4 (b6 a5 (b6 a6 (b6 a7 (b6 a8 (b6 a9 (b6 a_ (b6 a' (b6 ba (b6 bb (b6 bd (b6 be (b6 bf (b6 bg (b6 bh (b6 bi (b6 bj (b6 bn (b6 bp (b6 bq (b6 br (b6 bs (b6 bt (b6 bu (b6 bv (b6 bw (b6 bx (b6 bA (b6 bB (b6 bC (b6 bD (b6 bE (b6 bF (b6 bG (b6 bH (b6 bI (b6 bJ (b6 bK (b6 bL (b6 bM (b6 bN (b6 bP (b6 bQ (b6 bR (b6 bS (b6 bT (b6 bU (b6 bV (b6 bW (b6 bX (b6 bY (b6 b0 (Va))))))))))))))))))))))))))))))))))))))))))))))))))))))))))))))))))))))))))))))))))))))))))))))))))))))))))))))))))))))))))))))))))))))))))))))))))))))
set_option maxRecDepth 100000 in
theorem lifted(os:Os)(started:os.Started)(H:Type)(enc:TypeId×Value->H):
 ReturnsInHanded {} Tryz.checked os 3 .any (Rows.songEqualsSpec.pre6 enc Tryz.prog Tryz.f3 Rows.songEqualsRow.domain false) (Rows.songEqualsSpec.post enc Tryz.prog Tryz.f3 false true false false):=by
 refine returnsInHanded_of_change_sized (C:=Tryz.checked) own started (by kernel_rfl) Tryz.func3
  (ChangeSpec.witness6 (enc:=enc) (C:=Tryz.checked) false ⟨#[],#[.agg #[.string .empty,.int .i64 0,.int .i64 0,.slice none 0 0,.int .i64 0,.int .i64 0,.int .i64 0,.int .i64 0,.bool false,.slice none 0 0,.slice none 0 0,.slice none 0 0,.slice none 0 0],.agg #[.string .empty,.int .i64 0,.int .i64 0,.slice none 0 0,.int .i64 0,.int .i64 0,.int .i64 0,.int .i64 0,.bool false,.slice none 0 0,.slice none 0 0,.slice none 0 0,.slice none 0 0]],[]⟩ 8 (by kernel_rfl) (by kernel_rfl) (by kernel_rfl) (by kernel_rfl)) ?_
 intro W base args df gs before w k R S _
 have b:∀(j:Nat) t v,Tryz.f3.params[j]?=some t->args[j]?=some v->Value.okWide Tryz.prog W .any base t v:=w
 have y:=k
 obtain⟨p,q,z,A,rfl,T,U⟩:=k
 have l:DataW.TrodAll enc Tryz.prog W 0 (λ_=>true) true Tryz.f3.params.toList args.toList df p:=z
 rw[Tryz.params3]at l b
 obtain⟨v0,V,d0,X,B,Y,Z,rfl,rfl,au,c⟩:=trodAll_cons l
 obtain⟨v1,aa,d1,ab,D,bH,nT,rfl,rfl,h1,g⟩:=trodAll_cons c
 obtain⟨E,rfl,rfl⟩:=trodAll_nil g
 obtain rfl:args=#[v0,v1]:=by
  subst E
  cases args;simp_all
 obtain⟨rfl,rfl⟩:=trodVars_none A
 have F:=b 0 27 v0 rfl rfl
 have G:∀x∈B,x.block<W.heap.size:=by obtain⟨m,hm⟩:=au;exact DataW.trod_lt m _ _ _ hm
 obtain⟨ac,ad,rfl,c,n,J⟩:=LN (m:=12) (s:=gQ.ei) Tryz.underlying27 (by kernel_rfl) F au
 have o:=AO (μ:=yh) _ n c
 obtain⟨eY,rfl,K⟩:=gQ.of n
 rw[gQ.lj eY]at o
 have L:=bn.agg o
 have M:=b 1 27 v1 rfl rfl
 have N:∀x∈D,x.block<W.heap.size:=by obtain⟨m,hm⟩:=h1;exact DataW.trod_lt m _ _ _ hm
 obtain⟨cR,aD,rfl,g,s1,O⟩:=LN (m:=12) (s:=gQ.ei) Tryz.underlying27 (by kernel_rfl) M h1
 have u:=AO (μ:=yh) _ s1 g
 obtain⟨P,rfl,Q⟩:=gQ.of s1
 rw[gQ.lj P]at u
 have wo:=bn.agg u
 refine(Xo mixed table (XP rfl rfl rfl (by kernel_rfl) (by kernel_rfl)) aeQ (ahB K Q []) (.cons L (.cons wo (.nil))) (.cons J (.cons O (.nil))) rfl).mono λe ae ⟨he,i⟩=>?_
 subst he
 exact⟨_,rfl,_,_,_,[],_,[],y,trodAll_mk1 (shut_bool Tryz.underlying4 _),(trodAll_cons_mk (Below.trod laidOut (by kernel_rfl) (of_decide_eq_true (by kernel_rfl)) au i G) (trodAll_cons_mk (Below.trod laidOut (by kernel_rfl) (of_decide_eq_true (by kernel_rfl)) h1 i N) trodAll_mk0)),rfl,i.frame _,λh=>by cases h⟩
theorem ahC:Rows.songEqualsRow.holds Tryz.pinned (OpenSpec.ofChange Rows.songEqualsSpec):=
 OpenClaim.holds_of_wide 3 Tryz.f3 rfl rfl rfl rfl rfl rfl rfl ⟨rfl,rfl,rfl,rfl,rfl⟩ rfl rfl rfl rfl rfl (by kernel_rfl) Tryz.func3 (by kernel_rfl)
  (of_decide_eq_true (by kernel_rfl)) (by unfold Func.isWrapper;first|(rw[if_pos (by decide +kernel)];kernel_rfl)|(rw[if_neg (by decide +kernel)];exact⟨rfl,rfl⟩))
  (λos started H enc _=>lifted os started H enc)
theorem proved:Rows.SongEqualsSaid:=ahC
end Go.Proofs.YtffennknofmjoaaGreat.Ty
namespace Go.Proofs.YtffennknofmjoaaGreat
theorem songEquals_holds:Rows.SongEqualsSaid:=Ty.proved
end Go.Proofs.YtffennknofmjoaaGreat
