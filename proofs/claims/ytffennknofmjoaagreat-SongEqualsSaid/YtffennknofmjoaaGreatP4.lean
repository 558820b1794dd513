import Derived.Test.YtffennknofmjoaaGreatP3
import Derived.Lib.Bytealg
import Derived.Sort.Grow
set_option linter.unusedSimpArgs false
set_option linter.unusedVariables false
open And renaming intro → dg
open Array renaming getElem?_eq_getElem → kW,getElem?_modify → J',getElem?_toList → zu
open Bool renaming false_eq_true → bg
open Go renaming CallsIn → pZ,FuncId → dN,TypeId → aX
open Eq renaming refl → iq,trans → eK
open Go.Lib renaming indexByte → qY
open List renaming append_assoc → eo,append_nil → fu,cons_append → jQ,drop_zero → o4,getElem?_append_left → cG,getElem?_append_right → ma,getElem?_cons_succ → l9,getElem?_drop → oZ,getElem?_eq_getElem → gb,getElem?_take_of_lt → l',length_map → dn,mem_cons → hk,mem_map → iT,mem_singleton → hl,nil_append → hy,not_mem_nil → iu,take_length → h6,take_zero → w4
open Nat renaming beq → cC,blt → fD,eq_of_beq_eq_true → hz,lt_of_lt_of_le → hF,zero_add → gR
open Option renaming bind_eq_some_iff → cN,bind_some → dy,map → uy,map_eq_some_iff → de,map_some → dm,none_or → F7,some_or → Kp,some → I
open Option.some renaming inj → jR
open Go.Sort renaming ahead → w6,mapBlock → F6,putRow → w5
open Go.Value renaming int → hG
namespace Go.aN
open Go.bB
def ql(g:dN):bB.Callee:=λf args h=>bif cC f g then(match args with|[.string s,.int .u8 c]=>I (.int .i64 (qY s.data.toList c.toNat.toUInt8),h)|_=>none)else none
def tt(g:dN):aR:=λf args h=>bif cC f g then(match args with|[.str s,.int .u8 c]=>I (.int .i64 (qY s.data.toList c.toNat.toUInt8),h)|_=>none)else none
theorem Mu{Γ:bB.Callee}{T:jv}{f:dN}(aC:cC f dP=false)(b:T.get f=none)(args:List Value)(h:aP):∀n,hW Γ T n f args h=Γ f args h
 |0=>by unfold hW;rw[aC,b];rfl
 |n+1=>by unfold hW;rw[aC,b];rfl
theorem Xm{Γ:bB.Callee}{T:jv}{f:dN}(aC:cC f dP=false)(b:T.get f=none){args:List Value}{h:aP}{r:Value×aP}(an:Γ f args h=I r):run Γ T f args h=I r:=by
 unfold run
 have H:∃n,(hW Γ T n f args h).isSome=true:=⟨0,by rw[Mu aC b,an];rfl⟩
 rw[dif_pos H,Mu aC b,an]
theorem Xn{P:Program}{g:dN}(he:∀(xs:Array Value) (w:World),(callFunc g xs).run P w=.ok (.enter g xs) w)
 (aa:∀(F:Fence) (n:Nat),kg F->∀(s:ByteArray) (c:Int) (w:World),pZ F.plain n P g #[.string s,.int .u8 c] w λe b2=>e=.returned (.int .i64 (qY s.data.toList c.toNat.toUInt8))/\b2=w)
 (ba:cC dP g=false):iH P (ql g):=by
 refine⟨λf aC args h r h1 ad=>?_,λb args h r h1 ad=>?_⟩
 ·unfold ql at ad
  cases ae:cC f g with
  |false=>rw[ae]at ad;cases ad
  |true=>
   have:=hz ae
   subst this
   rw[ae]at ad
   simp only[gq]at ad
   refine⟨he,λμ w k s i F n j=>?_⟩
   split at ad
   ·rename_i t c
    cases ad
    cases i with
    |cons h1 h2=>
     cases h2 with
     |cons ak aH=>
      cases aH;cases h1;cases ak
      show pZ F.plain n P f #[.string t,.int .u8 c] w _
      refine CallsIn.mono (aa F n j t c w) λe b2 q=>?_
      obtain⟨rfl,rfl⟩:=q
      exact⟨_,μ,rfl,.int _ _,s,bB.Ext.refl μ _ _ s.cc⟩
   ·cases ad
 ·unfold ql at ad
  rw[ba]at ad
  cases ad
theorem Xo{P:Program}{T:iz}{h:aR}{g:bB.Callee}(i:P.follows .mixedOrders=true)(j:tl P (iz.erase T))(az:iZ h (run g T.erase))(ae:iH P g){f:dN}{args:List J}{c:List Value}{W:World}{b:Bool}{h1:U}(ad:m8 h T f args []=I (.bool b,h1))
 (k:bL yh (vv (ki W)) args c) (aw:ct (kI W) c c) (aC:fD f dP=true:=by rfl):
 Calls P f c.toArray W λe l=>e=.returned (.bool b)/\RowKit.Below W.heap.size W l:=by
 obtain⟨dD,cf,aV,bD,bt,bG,cZ,cS⟩:=WJ (Γa0:=g) (T:=T) az f args [] _ _ ad yh (vv (ki W)) (ki W) c (Xl _) k
 cases bG
 exact Vr (Vb i j ae) bt aw rfl aC
theorem nf{α β:Type}{a b:Option α}{f:α->Option β}(h:a=b):a.bind f=b.bind f:=by rw[h]
theorem ng{R:Type}{c d:J}{a b:Option R}(h:c=d):a8 c a b=a8 d a b:=by rw[h]
theorem Xp{R:Type}{c d:J}{t:Bool}{a b:Option R}(h:c=d):a7 c t a b=a7 d t a b:=by rw[h]
theorem oH{α:Sort _}{c d:Prop}[Decidable c][Decidable d]{a b:α}(h:c=d):(if c then a else b)=(if d then a else b):=by
 subst h;congr
theorem nh{R:Type}{B:(List J->U->Option R)->List J->U->Option R}{n:Nat}{v w:List J}{h k:U}(aD:v=w)(aE:h=k):cr B n v h=cr B n w k:=by rw[aD,aE]
theorem ni{R:Type}{k:J->U->Option R}{b bf:(J->U->Option R)->Option R}(h:∀j,b j=bf j):a6 k b=a6 k bf:=by rw[show b=bf from funext h]
theorem bY{α β:Type}(a:α)(f:α->Option β):(I a).bind f=f a:=eK (dy a f) (iq _)
theorem aF{R:Type}(k:List J->U->Option R)(b:(List J->U->Option R)->Option R):aB k b=b k:=eK (WS k b) (iq _)
theorem lY{R:Type}(k:J->U->Option R)(b:(J->U->Option R)->Option R):a6 k b=b k:=eK (WT k b) (iq _)
theorem fB{R:Type}(k:J->U->Option R)(b c:Bool)(h:U):a6 k (λj=>a7 (.bool b) false (j (.bool c) h) (j (.bool true) h))=k (.bool (b||c)) h:=by cases b<;>rfl
theorem fh{R:Type}(k:J->U->Option R)(b c:Bool)(h:U):a6 k (λj=>a7 (.bool b) true (j (.bool c) h) (j (.bool false) h))=k (.bool (b&&c)) h:=by cases b<;>rfl
theorem oI{R:Type}(k:J->U->Option R)(v:J)(h:U):a6 k (λj=>j v h)=k v h:=rfl
theorem cI{i:Nat}(h:i<9223372036854775807):IntKind.i64.wrap ((i:Int)+1)=((i+1:Nat):Int):=by rw[wrap64 (by unfold dr;omega)];omega
theorem lZ(a b:J):ea (.tuple [a,b]) 0=I a:=eK (show _=I a from rfl) (iq _)
theorem l0(a b:J):ea (.tuple [a,b]) 1=I b:=eK (show _=I b from rfl) (iq _)
theorem Hz(a b c:J):ea (.tuple [a,b,c]) 0=I a:=eK (show _=I a from rfl) (iq _)
theorem HA(a b c:J):ea (.tuple [a,b,c]) 1=I b:=eK (show _=I b from rfl) (iq _)
theorem HB(a b c:J):ea (.tuple [a,b,c]) 2=I c:=eK (show _=I c from rfl) (iq _)
theorem fC(k b:Nat):aq k (.ptr b 0)=I (.ptr b k):=by rw[Mm,gR]
theorem eU{h:U}{vs:List J}{t:aX}{k:Nat}{v:J}(aw:vs[k]?=I v):ab false 1 (.ptr h.length k) (h++[.box vs t .rw])=I v:=by
 rw[lv,pv (vs:=vs) (t:=t) (md:=.rw) (by rw[eQ];rfl),dy,Hv,aw]
theorem ly{R:Type}{B:(List J->U->Option R)->List J->U->Option R}{r:Option R}{n:Nat}{v0:List J}{au:U}(b:Nat->Bool)(vs:Nat->List J)(az:Nat->U)(len:Nat)(aA:len<n)(aD:vs 0=v0)(aE:az 0=au)
 (c:∀i,i<len->b i=false->∀K,B K (vs i) (az i)=K (vs (i+1)) (az (i+1)))
 (e:∀i,i<len->b i=true->(∀j,j<i->b j=false)->∀K,B K (vs i) (az i)=r)
 (g:(∀j,j<len->b j=false)->∀K,B K (vs len) (az len)=r):cr B n v0 au=r:=by
 rw[←aD,←aE]
 have key:∀(n i:Nat),i<=len->len<n+i->(∀j,j<i->b j=false)->cr B n (vs i) (az i)=r:=by
  intro n
  induction n with
  |zero=>intro i h1 h2 _;omega
  |succ n k=>
   intro i h1 h2 ak
   show B (cr B n) (vs i) (az i)=r
   by_cases h:i<len
   ·cases ae:b i with
    |true=>exact e i h ae ak _
    |false=>
     rw[c i h ae]
     refine k (i+1) (by omega) (by omega) λj l=>?_
     by_cases m:j=i
     ·rw[m];exact ae
     ·exact ak j (by omega)
   ·have:i=len:=by omega
    subst this
    exact g ak _
 exact key n 0 (Nat.zero_le _) (by omega) λj l=>by omega
theorem nX{α R:Type}{B:(List J->U->Option R)->List J->U->Option R}{r:Option R}{n:Nat}{v0:List J}{au:U}(l:List α)(p:α->Bool)(vs:Nat->List J)(aA:l.length<n)(aD:vs 0=v0)
 (k:∀i a,i<l.length->l[i]?=I a->p a=false->∀K,B K (vs i) au=K (vs (i+1)) au)
 (m:∀i a,i<l.length->l[i]?=I a->p a=true->l.findIdx? p=I i->l.any p=true->∀K,B K (vs i) au=r)
 (o:l.findIdx? p=none->l.any p=false->∀K,B K (vs l.length) au=r):cr B n v0 au=r:=by
 refine ly (λi=>match l[i]? with|some a=>p a|none=>false) vs (λ_=>au) l.length aA aD rfl (λi ag ae K=>?_) (λi ag ae b K=>?_) (λb K=>?_)
 ·have he:=gb ag
  simp only[he]at ae
  exact k i _ ag he ae K
 ·have he:=gb ag
  simp only[he]at ae
  refine m i _ ag he ae (List.findIdx?_eq_some_iff_getElem.2 ⟨ag,ae,λj q=>?_⟩) (List.any_eq_true.2 ⟨_,List.getElem_mem ag,ae⟩) K
  have c:=b j q
  rw[gb (show j<l.length by omega)]at c
  simp only at c
  simp only[c,bg,not_false_eq_true]
 ·have e:∀x∈l,p x=false:=λx af=>by
   obtain⟨j,g,rfl⟩:=List.getElem_of_mem af
   have:=b j g
   rw[gb g]at this
   exact this
  refine o (List.findIdx?_eq_none_iff.2 e) ?_ K
  rw[Bool.eq_false_iff]
  intro h
  obtain⟨x,af,aj⟩:=List.any_eq_true.1 h
  rw[e x af]at aj
  cases aj
theorem yi{α:Type}{l:List α}{i:Nat}(h:i<l.length):∃a,l[i]?=I a:=⟨_,gb h⟩
theorem HC{h:U}{vs ws:List J}{t:aX}{k n:Nat}(av:k+n<=vs.length)(aw:(vs.drop k).take n=ws):ab true n (.ptr h.length k) (h++[.box vs t .rw])=I (.agg ws):=by
 rw[lv,pv (vs:=vs) (t:=t) (md:=.rw) (by rw[eQ];rfl),dy,Ml av,aw]
theorem yj{h:U}(l:U)(k:IntKind)(n:Int):trim h [.int k n] (h++l)=h:=pw l λv aw=>by
 simp only[hl]at aw;subst aw;exact yg _ _ _
theorem b9{α:Sort _}{a b:α}(h:a=b):a=b:=eK h (iq b)
theorem AP{R:Type}(a b:Option R):a7 (.bool true) true a b=a:=eK (sb true a b) (aQ rfl)
theorem AQ{R:Type}(a b:Option R):a7 (.bool false) true a b=b:=eK (sb false a b) (a1 (by decide))
theorem Mv{R:Type}(a b:Option R):a7 (.bool false) false a b=a:=eK (pr false a b) (aQ rfl)
theorem tu{R:Type}(a b:Option R):a8 (.bool true) a b=a:=eK (eB true a b) (aQ rfl)
theorem sd{R:Type}(a b:Option R):a8 (.bool false) a b=b:=eK (eB false a b) (a1 (by decide))
theorem qm{R:Type}(v:J)(h:U)(k:J->U->Option R):bF v h k=k v h:=eK (na v h k) (iq _)
theorem kn{R:Type}(m:Option R):hY true m=m:=eK (WU m) (iq _)
theorem se{R:Type}{v v':J}{h h':U}{k:J->U->Option R}(aD:v=v')(aE:h=h'):bF v h k=bF v' h' k:=by rw[aD,aE]
theorem sf{R:Type}{b bf:Bool}{m:Option R}(e:b=bf):hY b m=hY bf m:=by rw[e]
theorem tv{R:Type}{h h' g g':U}{k:U->Option R}(aD:h=g)(aE:h'=g'):dQ h h' k=dQ g g' k:=by rw[aD,aE]
theorem Mw{R:Type}(k:J->U->Option R)(v:J)(h:U):a6 k (λj=>j v h)=k v h:=eK (oI k v h) (iq _)
theorem AR(t:Bool){R:Type}(a b:Option R):a8 (.bool t) a b=if t=true then a else b:=eK (eB t a b) (iq _)
theorem rk(l:List J):b' (.agg l)=l:=eK (qk l) (iq _)
theorem vw(b:Bool):di .not (.bool b)=I (.bool !b):=eK (lX b) (iq _)
theorem qn{α β:Type}(a:α)(f:α->β):(I a).map f=I (f a):=eK (dm a f) (iq _)
theorem qo(b o f:Nat):aq f (.ptr b o)=I (.ptr b (o+f)):=eK (Mm b o f) (iq _)
theorem Mx(row:List J)(o f:Nat):aq f (.e6 row o)=I (.e6 row (o+f)):=eK (Mn row o f) (iq _)
theorem pz(o n:Nat)(cs:List J):eT false o n cs=cs[o]?:=eK (Hv o n cs) (iq _)
theorem My(agg:Bool)(n o:Nat)(row:List J)(h:U):ab agg n (.e6 row o) h=eT agg o n row:=eK (yc agg n o row h) (iq _)
theorem HD(agg:Bool)(n o:Nat)(vs:List J)(t:aX)(md:eg)(l:U):ab agg n (.ptr 0 o) (.box vs t md::l)=eT agg o n vs:=by
 rw[lv];rfl
theorem HE(agg:Bool)(n o k:Nat)(b:cq)(l:U):ab agg n (.ptr (k+1) o) (b::l)=ab agg n (.ptr k o) l:=by
 rw[lv,lv];rfl
theorem nj(agg:Bool)(n o:Nat)(h:U)(vs:List J)(t:aX)(md:eg)(l:U):ab agg n (.ptr h.length o) (h++.box vs t md::l)=eT agg o n vs:=by
 rw[lv,pv (vs:=vs) (t:=t) (md:=md) (by rw[eQ];rfl)];rfl
theorem HF(agg:Bool)(n o k:Nat)(h l:U):ab agg n (.ptr (h.length+k) o) (h++l)=ab agg n (.ptr k o) l:=by
 rw[lv,lv]
 unfold jZ
 rw[fP]
theorem Mz{agg:Bool}{n o i sz:Nat}{rows:List (List J)}{row:List J}{t:aX}{md:eg}{l:U}(ver:Nat)(aw:ver=rows.length)(ag:rows[i]?=I row):ab agg n (.gB 0 i o ver sz) (.log rows sz t md::l)=eT agg o n row:=Xh (h:=.log rows sz t md::l) rfl aw ag
theorem MA(agg:Bool)(n o k i ver sz:Nat)(b:cq)(l:U):ab agg n (.gB (k+1) i o ver sz) (b::l)=ab agg n (.gB k i o ver sz) l:=by
 simp only[ab,r7,l9]
theorem MB(agg:Bool)(n o k i ver sz:Nat)(h l:U):ab agg n (.gB (h.length+k) i o ver sz) (h++l)=ab agg n (.gB k i o ver sz) l:=by
 simp only[ab,r7,fP]
theorem AS{α:Type}(p:α->Bool)(l:List α):l.find? p=(l.findIdx? p).bind λi=>l[i]?:=by
 induction l with
 |nil=>rfl
 |cons x l b=>
  rw[List.find?_cons,List.findIdx?_cons]
  cases p x with
  |true=>rfl
  |false=>
   simp only[bg,bd]
   rw[b]
   cases l.findIdx? p<;>rfl
theorem iL{n o:Nat}{v:J}{vs:List J}{t:aX}{l:U}(aA:(b' v).length=n)(au:0<n):a_ n (.ptr 0 o) v (.box vs t .rw::l)=(cy vs o (b' v)).map λb_=>.box b_ t .rw::l:=by
 unfold a_
 have aD:(cC (b' v).length n&&fD 0 n)=true:=by subst aA;simp [fD];exact au
 rw[aD];rfl
theorem HG(n o k:Nat)(v:J)(b:cq)(l:U):a_ n (.ptr (k+1) o) v (b::l)=(a_ n (.ptr k o) v l).map (b::·):=by
 unfold a_
 cases (cC (b' v).length n&&fD 0 n)with
 |false=>rfl
 |true=>
  simp only[gq,l9]
  cases l[k]? with
  |none=>rfl
  |some blk=>
   cases blk with
   |box vs t md=>cases md with
    |rw=>
     show uy (λb_=>(b::l).set (k+1) (cq.box b_ t eg.rw)) (cy vs o (b' v))=uy (b::·) (uy (λb_=>l.set k (cq.box b_ t eg.rw)) (cy vs o (b' v)))
     cases cy vs o (b' v)<;>rfl
    |pj=>rfl
    |ro=>rfl
   |log a b c d=>rfl
   |map a b=>rfl
   |loop a b c d e f g i=>rfl
   |dead=>rfl
theorem AT(n o k:Nat)(v:J)(h l:U):a_ n (.ptr (h.length+k) o) v (h++l)=(a_ n (.ptr k o) v l).map (h++·):=by
 unfold a_
 cases (cC (b' v).length n&&fD 0 n)with
 |false=>rfl
 |true=>
  simp only[gq,fP]
  cases l[k]? with
  |none=>rfl
  |some blk=>
   cases blk with
   |box vs t md=>cases md with
    |rw=>
     show uy (λb_=>(h++l).set (h.length+k) (cq.box b_ t eg.rw)) (cy vs o (b' v))=uy (h++·) (uy (λb_=>l.set k (cq.box b_ t eg.rw)) (cy vs o (b' v)))
     simp only[ps]
     cases cy vs o (b' v)<;>rfl
    |pj=>rfl
    |ro=>rfl
   |log a b c d=>rfl
   |map a b=>rfl
   |loop a b c d e f g i=>rfl
   |dead=>rfl
theorem AU(n o:Nat)(v:J)(h l:U):a_ n (.ptr h.length o) v (h++l)=(a_ n (.ptr 0 o) v l).map (h++·):=AT n o 0 v h l
theorem hN{vs cs:List J}(h1:vs.length=cs.length)(aw:cs.all dd=true):cy vs 0 cs=I cs:=by
 unfold cy
 rw[aQ ⟨by omega,aw⟩]
 simp only[w4,hy,gR]
 rw[List.drop_of_length_le (by omega),fu]
theorem k5(l:List J):cK l []=I l:=b9 rfl
theorem HH{cells:List J}{off size:Nat}{v:J}{r:List (Nat×Nat×J)}(h1:(b' v).length=size)(h2:0<size)(ak:off+size<=cells.length):cK cells ((off,size,v)::r)=cK (cells.take off++b' v++cells.drop (off+size)) r:=by
 show(if _ then _ else _)=_
 rw[aQ ⟨h1,h2,ak⟩]
theorem HI{n:Nat}{k:IntKind}{i:Int}:∀v∈[J.int k i],bI n v:=λv aw=>by
 simp only[hl]at aw;subst aw;exact yg _ _ _
theorem AV{h a:U}{roots:List J}(l:U)(an:∀v∈roots,bI (h++a).length v):trim (h++a) roots (h++(a++l))=h++a:=by
 rw[←eo];exact pw l an
theorem Xq(h:U)(a:cq)(l:U)(k:IntKind)(n:Int):trim (h++[a]) [.int k n] (h++a::l)=h++[a]:=AV (a:=[a]) l HI
theorem qp(h:U)(a b:cq)(l:U)(k:IntKind)(n:Int):trim (h++[a,b]) [.int k n] (h++a::b::l)=h++[a,b]:=AV (a:=[a,b]) l HI
theorem Xr(h:U)(a b c d:cq)(l:U)(k:IntKind)(n:Int):trim (h++[a,b,c,d]) [.int k n] (h++a::b::c::d::l)=h++[a,b,c,d]:=AV (a:=[a,b,c,d]) l HI
theorem Xs{n:Nat}{k b4:IntKind}{i j:Int}:∀v∈[J.int k i,.int b4 j],bI n v:=λv aw=>by
 simp only[hk,iu,hR]at aw;rcases aw with rfl|rfl<;>exact yg _ _ _
theorem HJ(h:U)(a:cq)(l:U)(k b4:IntKind)(n m:Int):trim (h++[a]) [.int k n,.int b4 m] (h++a::l)=h++[a]:=AV (a:=[a]) l Xs
def AW:J->Bool
 |.int _ _|.bool _|.str _|.bc|.oz|.nM|.mi|.oA|.bz _ _|.emp|.dI=>true
 |_=>false
def pA:J->Bool
 |.agg cs=>cs.all AW
 |v=>AW v
theorem MC{n:Nat}{v:J}(h:AW v=true):bI n v:=by
 cases v<;>first|(simp [bI];done)|(simp [AW]at h;done)
theorem j2{n:Nat}{v:J}(h:pA v=true):bI n v:=by
 unfold pA at h
 split at h
 ·simp only[bI]
  exact λx af=>MC (List.all_eq_true.1 h x af)
 ·exact MC h
theorem MD{h l:U}{v:J}(aw:pA v=true):aL [.ah] h (h++l) [v]=I (v,h):=ye λn=>j2 aw
theorem HK{h l:U}{v w:J}(aw:pA v=true)(b0:pA w=true):aL [.ah,.ah] h (h++l) [v,w]=I (.tuple [v,w],h):=by
 simp only[nb,i_,j1,k3,dy,dm,Hw]
 rw[pw _ (λx af=>by
  simp only[hk,iu,hR]at af;rcases af with rfl|rfl
  ·exact j2 aw
  ·exact j2 b0)]
theorem Xt{h l:U}{v w u:J}(aw:pA v=true)(b0:pA w=true)(b:pA u=true):aL [.ah,.ah,.ah] h (h++l) [v,w,u]=I (.tuple [v,w,u],h):=by
 simp only[nb,i_,j1,k3,dy,dm,Xb]
 rw[pw _ (λx af=>by
  simp only[hk,iu,hR]at af;rcases af with rfl|rfl|rfl
  ·exact j2 aw
  ·exact j2 b0
  ·exact j2 b)]
theorem ME{h:U}{v w:J}(aw:pA v=true)(b0:pA w=true):aL [.ah,.ah] h h [v,w]=I (.tuple [v,w],h):=by have:=HK (h:=h) (l:=[]) aw b0;rwa [fu]at this
def AX:fx->J->Bool
 |.ah,_=>true
 |.flat _,.bz _ _=>true
 |.bO _ _,.bz _ _=>true
 |_,_=>false
def nY:List fx->List J->Bool
 |[],[]=>true
 |s::fg,v::vs=>AX s v&&nY fg vs
 |_,_=>false
theorem Xu{s:fx}{v:J}(h:U)(az:AX s v=true):dh s v h=I (v,h):=by
 unfold AX at az
 split at az
 ·exact k3 _ _
 ·exact AM _ _ _ _
 ·exact Mp _ _ _ _ _
 ·cases az
theorem HL:∀{fg:List fx} {vs:List J} (h:U),nY fg vs=true->hK fg vs h=I (vs,h)
 |[],[],h,_=>j1 h
 |s::fg,v::vs,h,az=>by
  unfold nY at az
  rw[Bool.and_eq_true]at az
  rw[i_,Xu h az.1,dy,HL h az.2,dm]
theorem AY{fg:List fx}{vs:List J}(h:U)(az:nY fg vs=true):dh (.agg fg) (.agg vs) h=I (.agg vs,h):=by
 rw[yd,HL h az,dm]
theorem getD_some{α:Type}{l:List α}{i:Nat}{d a:α}(h:l[i]?=I a):l.getD i d=a:=by rw[List.getD_eq_getElem?_getD,h];rfl
theorem MF(h:U)(a b:Nat):h.length+a+b=h.length+(a+b):=Nat.add_assoc _ _ _
theorem HM(h:U)(a:cq):(h++[a]).length=h.length+1:=by simp
theorem AZ(h:U)(a b:cq):(h++[a,b]).length=h.length+2:=by simp
theorem A0(h:U)(a b c:cq):(h++[a,b,c]).length=h.length+3:=by simp
theorem MG(h:U)(a b c d:cq):(h++[a,b,c,d]).length=h.length+4:=by simp
theorem A2(h:U)(a b c d e:cq):(h++[a,b,c,d,e]).length=h.length+5:=by simp
theorem HN{α β R:Type}{B:(List J->U->Option R)->List J->U->Option R}{r:Option R}{n:Nat}{v0:List J}{au:U}(l:List α)(f:β->α->β)(cd:β)(vs:β->Nat->List J)(aA:l.length<n)(aD:vs cd 0=v0)
 (c:∀i a b,i<l.length->l[i]?=I a->∀K,B K (vs b i) au=K (vs (f b a) (i+1)) au) (e:∀K,B K (vs (l.foldl f cd) l.length) au=r):cr B n v0 au=r:=by
 refine nV (λi=>vs ((l.take i).foldl f cd) i) l.length aA (by simpa using aD) (λi ag K=>?_) λK=>?_
 ·obtain⟨a,ha⟩:=yi ag
  rw[c i a _ ag ha K,py ha,List.foldl_append]
  rfl
 ·rw[h6]
  exact e K
theorem A3{h:U}{sz:Nat}{t:aX}{row:List J}(az:0<sz)(aj:row.all dd=true):ek t sz .bc (.bz sz [row]) h=I (.ref h.length 0 1 1 sz,h++[.log [row] sz t .rw]):=by
 simp only[ek,kk,aZ,dy,ra]
 rw[aQ ⟨by simp [da],az,by simpa using aj⟩,a1 (by simp)]
 rfl
theorem je{v:J}(aw:b' v=[v])(o:Nat)(vs:List J)(t:aX)(l:U):a_ 1 (.ptr 0 o) v (.box vs t .rw::l)=(cy vs o [v]).map λb_=>.box b_ t .rw::l:=by
 rw[iL (by rw[aw];rfl) (by decide),aw]
theorem yk{au h':U}{roots:List J}{b:Nat}{blk:cq}(ae:b<au.length)(h1:h'[b]?=I blk)(h2:au[b]?≠I blk)(ak:¬jy au.length blk):trim au roots h'=h':=by
 unfold trim
 rw[a1]
 intro k
 rcases k.2 b ae with bt|⟨blk',bt,bG⟩
 ·exact h2 (bt.symm.trans h1)
 ·rw[h1]at bt
  cases bt
  exact ak bG
theorem A4{n:Nat}{vs:List J}{t:aX}{md:eg}{b lo m v sz:Nat}(h:J.ref b lo m v sz∈vs)(ae:n<=b):¬jy n (.box vs t md):=by
 intro k
 have:=k _ h
 simp only[bI]at this
 omega
theorem MH{cs:List fx}:∀{rows:List (List J)} (h:U),(∀r∈rows,nY cs r=true)->oC cs rows h=I (rows,h)
 |[],h,_=>by unfold oC;rfl
 |r::rs,h,an=>by
  rw[oC,HL h (an r (by simp)),dy,MH h λr gd=>an r (by simp [gd])]
  rfl
theorem Xv{h l:U}{k sz s:Nat}{cs:List fx}{t:aX}{rows:List (List J)}(e:l[k]?=I (.log rows sz t .rw))(au:rows.length≠0)(an:∀r∈rows,nY cs r=true)(aj:rows.flatten.all fz=true):
 dh (.bO s cs) (.ref (h.length+k) 0 rows.length rows.length sz) (h++l)=I (.bz sz rows,h++l.set k (.log rows sz t .ro)):=by
 rw[dh]
 rw[a1 au,fP,e]
 simp only[o4,h6]
 rw[aQ ⟨trivial,trivial,by omega⟩,MH _ an]
 simp only[dy]
 rw[aQ aj,ps]
theorem yl{h l:U}{k sz s:Nat}{t:aX}{rows:List (List J)}(e:l[k]?=I (.log rows sz t .rw))(au:rows.length≠0)(aj:rows.flatten.all fz=true):
 dh (.flat s) (.ref (h.length+k) 0 rows.length rows.length sz) (h++l)=I (.bz sz rows,h++l.set k (.log rows sz t .ro)):=by
 rw[W' e aj,a1 au]
theorem rl{oD:List fx}{h h' l:U}{vs ws:List J}(bq:hK oD vs h'=I (ws,h++l))(aj:∀v∈ws,bI h.length v):aL oD h h' vs=I (tq ws,h):=by
 rw[nb,bq,dm,pw _ aj]
theorem Xw(h:U)(a b c d e f:cq):(h++[a,b,c,d,e,f]).length=h.length+6:=by simp
theorem vx{t:aX}{zero:List J}{n:Nat}{h:U}(aA:n<=da):pk t zero (.int .i64 n) (.int .i64 n) h=I (.ref h.length 0 n n zero.length,h++[.log (List.replicate n zero) zero.length t .rw]):=by
 simp only[pk]
 rw[aQ ⟨by omega,by omega,by omega⟩,Int.toNat_natCast]
open Go.ChangeShapes Go.WideShapes in
theorem sg(r:List ds):hZ [] r=[]:=by simp [hZ]
open Go.ChangeShapes Go.WideShapes in
theorem sh(s:gf)(fg:List gf)(d:ds)(df:List ds):hZ (s::fg) (d::df)=gX s d::hZ fg df:=by simp [hZ]
open Go.ChangeShapes Go.WideShapes in
theorem si(k b4:IntKind)(n:Int):gX (.int k) (.v (.int b4 n))=.int b4 n:=by simp [gX,gg]
open Go.ChangeShapes Go.WideShapes in
theorem sj(b:Bool):gX .bool (.v (.bool b))=.bool b:=by simp [gX,gg]
open Go.ChangeShapes Go.WideShapes in
theorem sk(b:ByteArray):gX .str (.v (.string b))=.str b:=by simp [gX,gg]
theorem aS:type_of% (dg @rk (dg @qm (dg @qo (dg @Mx (dg @gR (dg (@eo cq) (dg (@jQ cq) (dg (@hy cq) (dg @MF (dg @HM (dg @AZ (dg @A0 (dg @MG (dg @A2 (dg @nj (dg @HF (dg @HE (dg @HD (dg @My (dg @pz (dg @AU (dg @AT (dg @HG (dg @qn (dg @bY (dg @fB (dg @fh (dg @Mw (dg @vw (dg @AR (dg @eA (dg @ec (dg @ia (dg @iK (dg @nU (dg @fM (dg @gG (dg @km (dg @ts (dg @qj (dg @lZ (@l0)))))))))))))))))))))))))))))))))))))))))):=dg @rk (dg @qm (dg @qo (dg @Mx (dg @gR (dg (@eo cq) (dg (@jQ cq) (dg (@hy cq) (dg @MF (dg @HM (dg @AZ (dg @A0 (dg @MG (dg @A2 (dg @nj (dg @HF (dg @HE (dg @HD (dg @My (dg @pz (dg @AU (dg @AT (dg @HG (dg @qn (dg @bY (dg @fB (dg @fh (dg @Mw (dg @vw (dg @AR (dg @eA (dg @ec (dg @ia (dg @iK (dg @nU (dg @fM (dg @gG (dg @km (dg @ts (dg @qj (dg @lZ (@l0)))))))))))))))))))))))))))))))))))))))))
theorem Xx(e:ej)(i:Nat)(v:J):nN e (I i) v i=v:=by unfold nN m5;simp [Nat.beq_refl]
theorem Xy(e:ej){i j:Nat}(v:J)(h:(i==j)=false):nN e (I i) v j=e j:=by
 unfold nN m5
 have h':cC i j=false:=by
  rw[Bool.eq_false_iff]
  intro k
  rw[hz k]at h
  simp at h
 simp only[h',lJ]
end Go.aN
namespace Go.aN.G
open Go.bB Go.aN
def t(n:Nat):Operand:=.tmp n
def i(n:Int):Operand:=.const (.int .i64 n)
def z:eh:=.nil
def o(d:Nat)(x:fE)(r:eh):eh:=.op (I d) (.a x) .no r
def O(d:Nat)(x:fE)(r:eh):eh:=.op (I d) (.a x) .calm r
def n(x:fE)(r:eh):eh:=.op none (.a x) .no r
def m(d s:Nat)(r:eh):eh:=.op (I d) (.a (.move (.tmp s))) .no r
def b(d:Nat)(op:BinOp)(x y:Operand)(r:eh):eh:=.op (I d) (.a (.bin op x y)) .no r
def f(d off s:Nat)(r:eh):eh:=.op (I d) (.a (.fieldAddr off (.tmp s))) .no r
def l(d s:Nat)(r:eh):eh:=.op (I d) (.a (.load false 1 (.tmp s))) .no r
def q(d c:Nat)(is:Bool)(tmp:List Nat)(body:eh)(y:Operand)(r:eh):eh:=.k0 d c is tmp body y r
def F(s:Nat)(b:fx)(r:eh):eh:=.dh s b r
def R(s:eh):hB:=.region false s
def D(s:eh):hB:=.region true s
def S(a b:hB):hB:=.seq a b
def g:Nat->Nat->List Nat
 |_,0=>[]
 |a,n+1=>a::g (a+1) n
end Go.aN.G
namespace Go.aN
open Go.bB
def j4(b:List Int):List Int:=b.mergeSort λx y=>decide (x<=y)
theorem MI(b:List Int):(j4 b).length=b.length:=List.length_mergeSort _
def vy:List Value->Option (List Int)
 |[]=>I []
 |.int .i64 z::r=>(vy r).map (z::·)
 |_=>none
def A5:List J->Option (List Int)
 |[]=>I []
 |.int .i64 z::r=>(A5 r).map (z::·)
 |_=>none
theorem Xz(b:List Int):vy (b.map (hG .i64))=I b:=by
 induction b with
 |nil=>rfl
 |cons z b c=>simp only[List.map_cons,vy];rw[c];rfl
theorem MJ:∀{l:List Value} {b:List Int},vy l=I b->l=b.map (hG .i64)
 |[],_,h=>by cases h;rfl
 |.int .i64 z::r,_,h=>by
  simp only[vy,de]at h
  obtain⟨ys,h1,rfl⟩:=h
  rw[MJ h1]
  rfl
theorem MK:∀{l:List J} {b:List Int},A5 l=I b->l=b.map (J.int .i64)
 |[],_,h=>by cases h;rfl
 |.int .i64 z::r,_,h=>by
  simp only[A5,de]at h
  obtain⟨ys,h1,rfl⟩:=h
  rw[MK h1]
  rfl
theorem ML{μ:aN.Ren}{φ:dk}:∀(b:List Int),bL μ φ (b.map (J.int .i64)) (b.map (hG .i64))
 |[]=>.nil
 |z::b=>.cons (.int _ _) (ML b)
theorem MM{μ:aN.Ren}{φ:dk}:∀{b:List Int} {l:List Value},bL μ φ (b.map (J.int .i64)) l->l=b.map (hG .i64)
 |[],_,h=>by cases h;rfl
 |z::b,_,h=>by cases h with|cons h1 h2=>cases h1;rw[MM h2];rfl
theorem HO{μ:bB.Ren}:∀(b:List Int),ct μ (b.map (hG .i64)) (b.map (hG .i64))
 |[]=>.nil
 |z::b=>.cons (.int _ _) (HO b)
theorem MN{μ:bB.Ren}:∀{b:List Int} {l:List Value},ct μ (b.map (hG .i64)) l->l=b.map (hG .i64)
 |[],_,h=>by cases h;rfl
 |z::b,_,h=>by cases h with|cons h1 h2=>cases h1;rw[MN h2];rfl
def pB(g:dN):bB.Callee:=λf args h=>bif cC f g then(match args with
 |[.slice a n _]=>if n=0 then I (undef,h)else(match a with
  |some ⟨b,off,none⟩=>(hV h b off n).bind λl=>(vy l).bind λc=>if n<4611686018427387904 then(nE h b off ((j4 c).map (hG .i64))).map λh'=>(undef,h')else none
  |_=>none)
 |_=>none)else none
def vz(g:dN):aR:=λf args h=>bif cC f g then(match args with
 |[.bc]=>I (iI,h)
 |[.emp]=>I (iI,h)
 |[.ref b lo n ver sz]=>if n=0 then I (iI,h)else(match h[b]? with
  |some (.log rows c t .rw)=>if rows.length=ver/\sz=1/\c=1/\lo=0/\n=ver/\0<n then(A5 rows.flatten).map λe=>(iI,h.set b (.log ((j4 e).map λz=>[.int .i64 z]) 1 t .rw))else none
  |_=>none)
 |_=>none)else none
theorem XA(b:List Int):(b.map λz=>[J.int .i64 z]).flatten=b.map (J.int .i64):=by
 induction b with
 |nil=>rfl
 |cons z b c=>simp [c]
theorem XB{rows:List (List J)}(h:∀r∈rows,r.length=1):rows.flatten.length=rows.length:=by
 rw[lU (size:=1) h,Nat.mul_one]
theorem XC(g:dN):iZ (vz g) (pB g):=λf args aj r ck h μ φ ha D s i=>by
 unfold vz at h
 cases ae:cC f g with
 |false=>rw[ae]at h;cases h
 |true=>
  rw[ae]at h
  simp only[gq]at h
  split at h
  ·cases h
   cases i with|cons h1 h2=>
   cases h2;cases h1
   refine⟨undef,ha,μ,φ,?_,bn.undef,s,Ext.refl _ _ _ _⟩
   unfold pB;rw[ae];rfl
  ·cases h
   cases i with|cons h1 h2=>
   cases h2;cases h1 with|emp a=>
   refine⟨undef,ha,μ,φ,?_,bn.undef,s,Ext.refl _ _ _ _⟩
   unfold pB;rw[ae];rfl
  ·rename_i b lo n jA sz
   by_cases j:n=0
   ·rw[aQ j]at h
    cases h
    subst j
    cases i with|cons h1 h2=>
    cases h2
    cases h1<;>exact⟨undef,ha,μ,φ,by unfold pB;rw[ae];rfl,bn.undef,s,Ext.refl _ _ _ _⟩
   rw[a1 j]at h
   split at h
   ·rename_i rows E t k
    split at h
    ·rename_i aa
     obtain⟨cR,rfl,rfl,rfl,d',gj⟩:=aa
     rw[de]at h
     obtain⟨e,bq,h⟩:=h
     cases h
     cases i with|cons h1 h2=>
     cases h2
     cases h1 with
     |jz=>omega
     |@ref _ _ _ _ _ c l hm aA aa=>
      subst d'
      subst cR
      obtain⟨vs,en,bt,bG,cZ,cS,fk,u,f_⟩:=ri s k hm
      obtain rfl:=u rfl
      have w:=XB cS
      have aD:=MK bq
      have aE:e.length=rows.length:=by rw[←w,aD,dn]
      rw[aD]at cZ
      have m:=MM cZ
      rw[Nat.mul_one]at m bG
      have br:(j4 e).length=rows.length:=by rw[MI,aE]
      have y:=Hj (μ:=μ) (φ:=φ) (l:=l) (sz:=1) (t:=t) (lo:=0) (src:=(j4 e).map λz=>[J.int .i64 z]) (src':=(j4 e).map (hG .i64)) (by omega) (by rw[aD];exact cZ) cS fk f_
       (by rw[XA];exact ML _) (λr an=>by rw[iT]at an;obtain⟨z,_,rfl⟩:=an;rfl) (by rw[dn,br];omega)
      obtain⟨cO,p,A⟩:=y
      have B:(rows.take 0++((j4 e).map λz=>[J.int .i64 z])++rows.drop (0+((j4 e).map λz=>[J.int .i64 z]).length))=(j4 e).map λz=>[J.int .i64 z]:=by
       rw[w4,hy,dn,br,gR,List.drop_length,fu]
      rw[B]at cO p
      have C:((j4 e).map (hG .i64)).all bB.kB=true:=by
       rw[List.all_eq_true]
       intro x af
       rw[iT]at af
       obtain⟨z,_,rfl⟩:=af
       rfl
      have q:=vp (ha:=ha) (l:=(j4 e).map (hG .i64)) (o:=0*1) bt A C
      obtain⟨bH,b1⟩:=s.r' k trivial hm (by simp only[ver];exact p) cO
      refine⟨undef,_,μ,φ,?_,bn.undef,bH,b1⟩
      have k4:hV ha l.blk 0 rows.length=I (e.map (hG .i64)):=by
       unfold hV
       rw[bt]
       show(if _ then I _ else none)=_
       rw[aQ (by omega),o4,m]
      have F:da<4611686018427387904:=by decide
      unfold pB
      rw[ae]
      simp only[gq]
      rw[a1 (by omega)]
      simp only[Nat.zero_mul]at q|-
      rw[k4,dy,Xz,dy,aQ (by omega),q]
      rfl
    ·cases h
   ·cases h
  ·cases h
theorem MO{P:Program}{L:List dN}{k n:Nat}{g:dN}{args:Array Value}{w:World}{R:Ending->World->Prop}{F:Fence}(i:kg F)
 (H:∀D,pZ (Fence.list L (I D)) k P g args w R) (an:∀e b2,R e b2->∃v,e=.returned v):pZ F n P g args w R:=by
 refine⟨i.1 g,λcs _=>?_⟩
 obtain⟨e,b2,cF,r,s,x⟩:=(H (cs.length+1+k)).2 cs (λd hd=>by cases hd;exact Nat.le_refl _)
 obtain⟨v,rfl⟩:=an e b2 r
 exact⟨_,b2,cF,r,StepsIn.mono (λm h g bE=>let ⟨a,b,c,d⟩:=h g bE;⟨λ_=>a rfl,.inl (i.1 _),λf _=>i.1 f,λl j=>by rw[i.2]at j;cases j⟩) s,x⟩
theorem XD{P:Program}{μ:bB.Ren}{h:aP}{bu cP:World}(s:cH P μ h bu)(az:bu.heap.size<=cP.heap.size)(c:∀k,k<bu.heap.size->cP.heap[k]?=bu.heap[k]?):cH P μ h cP:=
 ⟨s.cc,λb l blk e ae aA=>by
  obtain⟨o,g,i⟩:=s.rel b l blk e ae aA
  exact⟨o,by rw[c _ (s.lt b l e)];exact g,i⟩,s.inj,λb l e=>hF (s.lt b l e) az⟩
theorem XE{P:Program}{μ μ1:bB.Ren}{h h1:aP}{w bu cP:World}(s:cH P μ h w)(x:bB.Ext μ h w μ1 h1 bu)(az:bu.heap.size<=cP.heap.size)(g:∀k,k<bu.heap.size->cP.heap[k]?=bu.heap[k]?)(i:kf bu cP):bB.Ext μ h w μ1 h1 cP:=
 ⟨⟨x.le,x.eL,Nat.le_trans x.size az,λc aa aA=>(g c (hF aa x.size)).trans (x.frame c aa aA),λb l e an=>(g _ (hF (s.lt b l e) x.size)).trans (x.ro b l e an),x.pc,x.new,x.dead,x.out.trans i⟩,x.pd⟩
theorem XF(cs:Array Value)(off:Nat)(b:List Int)(h:off+b.length<=cs.size):Sort.putCells (hG .i64) off b.toArray cs=(cs.toList.take off++b.map (hG .i64)++cs.toList.drop (off+(b.map (hG .i64)).length)).toArray:=by
 apply Array.ext'
 apply List.ext_getElem?
 intro j
 rw[zu]
 simp only[Sort.putCells,Array.getElem?_mapIdx,List.size_toArray,dn]
 by_cases h1:j<off
 ·rw[eo,cG (by simp;omega),l' h1,zu]
  rw[kW (by omega)]
  simp [show ¬off<=j by omega]
 ·by_cases h2:j<off+b.length
  ·rw[cG (by simp;omega),ma (by simp;omega)]
   rw[kW (by omega)]
   have ak:min off cs.size=off:=by omega
   have aH:j-off<b.length:=by omega
   simp [show off<=j by omega,h2,ak,aH]
  ·rw[ma (by simp;omega)]
   by_cases aM:j<cs.size
   ·rw[kW aM]
    have ak:min off cs.size=off:=by omega
    simp only[List.length_append,List.length_take,dn,Array.length_toList,ak,oZ,dm,h2,and_false,bd]
    rw[show off+b.length+(j-(off+b.length))=j by omega,zu,kW aM]
   ·rw[Array.getElem?_eq_none (by omega),List.getElem?_eq_none (by simp;omega)]
    rfl
theorem XG{P:Program}{g:dN}{L:List dN}(he:∀(xs:Array Value) (w:World),(callFunc g xs).run P w=.ok (.enter g xs) w)
 (aa:∀(D blk off cap:Nat) (u:List Int) (w:World),Sort.Holds (hG .i64) w blk off u.toArray->blk<w.heap.size->u.length<4611686018427387904->
   pZ (Fence.list L (I D)) 66 P g #[.slice (I ⟨blk,off,none⟩) u.length cap] w λe b2=>e=.returned (.tuple #[])/\∃n os,b2=Sort.grow (w5 (hG .i64) (w6 w n) blk off (u.mergeSort λx y=>decide (x<=y)).toArray) os)
 (au:∀(D:Nat) (p:Option Addr) (cap:Nat) (w:World),pZ (Fence.list L (I D)) 2 P g #[.slice p 0 cap] w λe b2=>e=.returned (.tuple #[])/\b2=w)
 (ba:cC dP g=false):iH P (pB g):=by
 refine⟨λf aC args h r h1 ad=>?_,λb args h r h1 ad=>?_⟩
 ·unfold pB at ad
  cases ae:cC f g with
  |false=>rw[ae]at ad;cases ad
  |true=>
   have:=hz ae
   subst this
   rw[ae]at ad
   simp only[gq]at ad
   refine⟨he,λμ w W s E F n G=>?_⟩
   split at ad
   ·rename_i a m c
    by_cases hm:m=0
    ·subst hm
     rw[aQ rfl]at ad
     cases ad
     cases E with
     |cons cE cD=>
      cases cD
      have fin:∀(p:Option Addr) (cap:Nat),pZ F n P f #[.slice p 0 cap] w λe b2=>∃v μ1,e=.returned v/\bj μ1 undef v/\cH P μ1 h b2/\bB.Ext μ h w μ1 h b2:=λp cap=>by
       refine CallsIn.mono (MO G (λD=>au D p cap w) (λe b2 q=>⟨_,q.1⟩)) λe b2 q=>?_
       obtain⟨rfl,rfl⟩:=q
       exact⟨_,μ,rfl,bj.undef,s,bB.Ext.refl μ _ _ s.cc⟩
      cases cE<;>exact fin _ _
    ·rw[a1 hm]at ad
     split at ad
     ·rename_i b off
      rw[cN]at ad
      obtain⟨l,k4,ad⟩:=ad
      rw[cN]at ad
      obtain⟨u,bq,ad⟩:=ad
      split at ad
      ·rename_i X
       rw[de]at ad
       obtain⟨h',b0,ad⟩:=ad
       cases ad
       cases MJ bq
       cases E with
       |cons cE cD=>
        cases cD
        have key:∀(l:bB.Loc) (cap:Nat),μ b=I l->pZ F n P f #[.slice (I ⟨l.blk,off,none⟩) m cap] w λe b2=>∃v μ1,e=.returned v/\bj μ1 undef v/\cH P μ1 h1 b2/\bB.Ext μ h w μ1 h1 b2:=λl cap e=>by
         obtain⟨c,K⟩:=l
         have br:u.length=m:=by have:=(zX s e k4).1;simpa using this
         obtain⟨bu,O,s1,ay⟩:=xJ (P:=P) s e (HO (j4 u)) b0
         unfold hV at k4
         split at k4
         ·rename_i vs t en H
          unfold nE at b0
          rw[H]at b0
          cases en with
          |false=>cases b0
          |true=>
           simp only at b0
           split at b0
           ·rename_i Q
            split at k4
            ·rename_i e_
             obtain⟨o,z,cs,cF,rfl,av,R,S,Y⟩:=s.rel b _ _ e H (by simp)
             replace z:w.heap[c]?=I (.cells cs t cF):=z
             obtain rfl:=S rfl
             have T:(j4 u).length=m:=by rw[MI,br]
             have A:=run_storeCells_at (P:=P) c off t ((j4 u).map (hG .i64)) 0 cs w z (by rw[dn,T];omega) ((HO (μ:=μ) (j4 u)).xH Q.2)
             simp only[Nat.add_zero]at A
             rw[O]at A
             cases A
             replace k4:=jR k4
             have AN:((vs.drop off).take m)=u.map (hG .i64):=k4
             have ou:((cs.toList.take vs.length).drop off).take m=u.map (hG .i64):=by
              have q:=(R.drop off).take m
              rw[AN]at q
              exact MN q
             have U:∀j,j<u.length->cs[off+j]?=I (.int .i64 (u.getD j 0)):=λj B=>by
              have J:(((cs.toList.take vs.length).drop off).take m)[j]?=I (.int .i64 (u.getD j 0)):=by
               rw[ou]
               simp [List.getD,B]
              rw[l' (by omega),oZ,l' (by omega),zu]at J
              exact J
             have V:Sort.Holds (hG .i64) w c off u.toArray:=λj B=>by
              have M:j<u.length:=by simpa using B
              refine⟨?_,by simp [World.frozen?,z]⟩
              simp only[World.cell?,z,Option.isSome_none,bg,bd]
              rw[U j M]
              simp [List.getD,M]
             show pZ F n P f #[.slice (I ⟨c,off,none⟩) m cap] w _
             rw[←br]
             refine CallsIn.mono (MO G (λD=>aa D c off cap u w V (s.lt b _ e) (by omega)) (λe b2 q=>⟨_,q.1⟩)) λe b2 q=>?_
             obtain⟨rfl,k,os,rfl⟩:=q
             have cY:(w.setRow c (cs.toList.take off++(j4 u).map (hG .i64)++cs.toList.drop (off+((j4 u).map (hG .i64)).length)).toArray).heap.size=w.heap.size:=setRow_size _ _ _
             have N:∀i,i<w.heap.size->(Sort.grow (w5 (hG .i64) (w6 w k) c off (u.mergeSort λx y=>decide (x<=y)).toArray) os).heap[i]?=
              (w.setRow c (cs.toList.take off++(j4 u).map (hG .i64)++cs.toList.drop (off+((j4 u).map (hG .i64)).length)).toArray).heap[i]?:=λi ag=>by
              rw[Sort.heap_grow_old _ _ (by simpa [w5,F6,w6]using ag)]
              by_cases C:c=i
              ·subst C
               rw[Gt z,←XF cs off (j4 u) (by omega)]
               simp [w5,F6,w6,J',z,Sort.onCells,j4]
              ·rw[xI C]
               simp [w5,F6,w6,J',C]
             refine⟨_,μ,rfl,bj.undef,XD s1 ?_ ?_,XE s ay ?_ ?_ ⟨rfl,rfl,rfl⟩⟩
             ·rw[cY];simp [Sort.grow,w5,F6,w6]
             ·rw[cY];exact N
             ·rw[cY];simp [Sort.grow,w5,F6,w6]
             ·rw[cY];exact N
            ·cases k4
           ·cases b0
         ·cases k4
        cases cE with
        |bO e _=>exact key _ _ e
        |fc=>exact absurd rfl hm
        |gU=>exact absurd rfl hm
      ·cases ad
     ·cases ad
   ·cases ad
 ·unfold pB at ad
  rw[ba]at ad
  cases ad
def pC(b c:bB.Callee):bB.Callee:=λf args h=>(b f args h).or (c f args h)
def vA(b c:aR):aR:=λf args h=>(b f args h).or (c f args h)
theorem XH{P:Program}{c e:bB.Callee}(h1:iH P c)(h2:iH P e):iH P (pC c e):=by
 refine⟨λf aC args h r hg ad=>?_,λb args h r hg ad=>?_⟩
 ·cases he:c f args h with
  |some p=>simp only[pC,he,Kp]at ad;cases ad;exact h1.fn f aC args h _ _ he
  |none=>simp only[pC,he,F7]at ad;exact h2.fn f aC args h _ _ ad
 ·cases he:c dP (hS b 0::args) h with
  |some p=>simp only[pC,he,Kp]at ad;cases ad;exact h1.yield b args h _ _ he
  |none=>simp only[pC,he,F7]at ad;exact h2.yield b args h _ _ ad
theorem XI{b e:aR}{c:bB.Callee}(h1:iZ b c)(h2:iZ e c):iZ (vA b e) c:=λf args aj r ck h=>by
 cases he:b f args aj with
 |some p=>simp only[vA,he,Kp]at h;cases h;exact h1 f args aj _ _ he
 |none=>simp only[vA,he,F7]at h;exact h2 f args aj _ _ h
theorem XJ{b:aR}{c e:bB.Callee}(h1:iZ b c):iZ b (pC c e):=λf args aj r ck h μ φ ha g s i=>by
 obtain⟨dD,cf,aV,bD,bt,bG⟩:=h1 f args aj r ck h μ φ ha g s i
 exact⟨dD,cf,aV,bD,by simp only[pC,bt,Kp],bG⟩
theorem XK{b:aR}{c e:bB.Callee}{g:dN}(bE:∀f args h r,b f args h=I r->f=g)(aA:∀args h,c g args h=none)(h2:iZ b e):iZ b (pC c e):=λf args aj r ck h μ φ ha i s j=>by
 obtain⟨dD,cf,aV,bD,bt,bG⟩:=h2 f args aj r ck h μ φ ha i s j
 obtain rfl:=bE _ _ _ _ h
 exact⟨dD,cf,aV,bD,by simp only[pC,aA,F7];exact bt,bG⟩
theorem XL{Γ:aR}{b:bB.Callee}{T:jv}(c:∀f args h r,Γ f args h=I r->cC f dP=false/\T.get f=none)(h1:iZ Γ b):iZ Γ (run b T):=λf args aj r ck h μ φ ha e s g=>by
 obtain⟨dD,cf,aV,bD,bt,bG⟩:=h1 f args aj r ck h μ φ ha e s g
 obtain⟨bH,b1⟩:=c _ _ _ _ h
 exact⟨dD,cf,aV,bD,Xm bH b1 bt,bG⟩
theorem MP{g:dN}{f:dN}{args:List J}{h:U}{r:J×U}(an:vz g f args h=I r):f=g:=by
 unfold vz at an
 cases ae:cC f g with
 |false=>rw[ae]at an;cases an
 |true=>exact hz ae
theorem XM{g:dN}{f:dN}{args:List J}{h:U}{r:J×U}(an:tt g f args h=I r):f=g:=by
 unfold tt at an
 cases ae:cC f g with
 |false=>rw[ae]at an;cases an
 |true=>exact hz ae
theorem XN{g f:dN}(ae:cC f g=false)(args:List Value)(h:aP):ql g f args h=none:=by
 unfold ql;rw[ae];rfl
theorem XO(g:dN):iZ (tt g) (ql g):=λf args aj r ck h μ φ ha c s b=>by
 unfold tt at h
 cases ae:cC f g with
 |false=>rw[ae]at h;cases h
 |true=>
  rw[ae]at h
  simp only[gq]at h
  split at h
  ·cases h
   cases b with
   |cons h1 h2=>
    cases h2 with
    |cons ak aH=>
     cases aH;cases h1;cases ak
     refine⟨_,ha,μ,φ,?_,.int _ _,s,Ext.refl _ _ _ _⟩
     unfold ql
     rw[ae]
     rfl
  ·cases h
theorem XP{i k:dN}{T:jv}(ag:cC i dP=false)(ad:cC k dP=false)(b:cC k i=false)(h1:T.get i=none)(h2:T.get k=none):iZ (vA (tt i) (vz k)) (run (pC (ql i) (pB k)) T):=
 XL (λf args h r an=>by
  unfold vA at an
  cases he:tt i f args h with
  |some p=>obtain rfl:=XM he;exact⟨ag,h1⟩
  |none=>rw[he,F7]at an;obtain rfl:=MP an;exact⟨ad,h2⟩)
 (XI (XJ (XO i)) (XK (λ_ _ _ _ an=>MP an) (λargs h=>XN b args h) (XC k)))
end Go.aN
