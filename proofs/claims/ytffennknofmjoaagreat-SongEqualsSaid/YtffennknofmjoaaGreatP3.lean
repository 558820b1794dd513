import Derived.Test.YtffennknofmjoaaGreatP2
set_option linter.unusedSimpArgs false
set_option linter.unusedVariables false
open Array renaming length_toList → pW
open BitVec renaming ofInt → j'
open Bool renaming and_eq_true → dx
open Classical renaming choose → Kn
open Go renaming FuncId → dN,TypeId → aX
open Int renaming toNat_natCast → lI
open Go.IntKind renaming bits → wZ,signed → w1
open List renaming all_cons → ny,append_nil → fu,drop_drop → sY,drop_of_length_le → F4,drop_take → uw,drop_zero → o4,eq_nil_of_length_eq_zero → gy,ext_getElem? → gn,flatten_append → zv,flatten_cons → lK,getD_eq_getElem?_getD → jT,getElem?_append_left → cG,getElem?_append_right → ma,getElem?_drop → oZ,getElem?_eq_none → e2,getElem?_map → ja,getElem?_take → F1,length_append → dW,length_drop → wT,length_map → dn,length_replicate → ux,length_set → ir,length_take → kz,mem_of_getElem? → dH,mem_of_mem_drop → rP,mem_of_mem_take → od,mem_replicate → zw,nil_append → hy,replicate → du,take_append_drop → qW,take_left → uv,take_length → h6,take_of_length_le → um,take_take → qT,take_zero → w4
open Nat renaming add_mul → h8,beq → cC,beq_refl → p0,blt → fD,eq_of_beq_eq_true → hz,le_refl → ca,le_trans → lH,lt_of_lt_of_le → hF,min → fY,min_eq_left → mb,mul_le_mul_right → o0,zero_add → gR,zero_le → hQ,zero_mul → mK
open Option renaming bind_eq_some_iff → cN,bind_some → dy,map_eq_some_iff → de,map_some → dm,some → I
open Option.some renaming inj → jR,injEq → ug
namespace Go.aN
open Go.bB
inductive J where
 |dI
 |int (k:IntKind) (n:Int)
 |bool (b:Bool)
 |str (s:ByteArray)
 |bc|oz|nM|mi|oA
  |emp
  |bz (sz:Nat) (rows:List (List J))
  |e6 (row:List J) (off:Nat)
 |ptr (b o:Nat)
  |ref (b lo n ver sz:Nat)
 |gB (b i off ver sz:Nat)
 |map (b:Nat)
 |func (f:dN) (xs ys:List J)
 |yield (b:Nat)
 |iface (t:aX) (v:J)
 |agg (cs:List J)
 |tuple (cs:List J)
def iI:J:=.tuple []
def gg:Value->J
 |.bool b=>.bool b
 |.int k n=>.int k n
 |.string s=>.str s
 |.pointer none=>.oz
 |.slice none 0 0=>.bc
 |.map none=>.nM
 |.nilFunc=>.mi
 |.nilIface=>.oA
 |_=>.dI
def tm:Value->J
 |.agg cs=>.agg (cs.toList.map gg)
 |.iface t v=>.iface t (gg v)
 |v=>gg v
abbrev ej:=Nat->J
def m5(e:ej)(i:Nat)(v:J):ej:=λj=>bif cC i j then v else e j
def nN(e:ej)(d:Option Nat)(v:J):ej:=match d with|some i=>m5 e i v|none=>e
def q9(e:ej):List Nat->ej
 |[]=>e
 |i::r=>m5 (q9 e r) i .dI
def oB(e:ej):List Nat->List J->ej
 |[],_=>e
 |i::r,vs=>m5 (oB e r vs.tail) i (vs.headD iI)
def mj(e:ej):List Nat->List J
 |[]=>[]
 |i::r=>e i::mj e r
def aI(vs:List J):Nat->J
 |0=>vs.headD iI
 |k+1=>aI vs.tail k
inductive eg where
 |rw|pj|ro
inductive fx where
 |ah
  |raw
 |flat (sz:Nat)
 |bO (sz:Nat) (cells:List fx)
 |agg (cells:List fx)
inductive vf where
 |a (o:fE)
  |r6 (elem:aX) (sz:Nat)
  |vg (om:Bool) (t:aX) (elem:aX) (sz:Nat)
  |lQ (elem:aX) (zero:List Value) (n:Nat) (parts:List (Nat×Nat×Operand))
inductive eh where
 |nil
 |op (dst:Option Nat) (o:vf) (dX:kZ) (rest:eh)
 |k0 (dst:Nat) (c:Nat) (gK:Bool) (tmp:List Nat) (body:eh) (y:Operand) (rest:eh)
  |dh (t:Nat) (s:fx) (rest:eh)
  |vh (kj:List (Nat×fx)) (dst:Option Nat) (o:vf) (dX:kZ) (rest:eh)
  |Ap (t:Nat) (fj:aX) (sz:Nat) (rest:eh)
inductive hB where
 |skip
 |region (mS:Bool) (s:eh)
 |seq (a b:hB)
 |cond (c:Operand) (mod tmp:List Nat) (a b:hB)
 |block (id:Nat) (mod tmp:List Nat) (c:hB)
 |loop (mod tmp:List Nat) (c:hB)
 |exit (id:Nat)
 |ret
 |ju (g:Operand) (c4 bC:List Nat) (assign body:hB)
def GZ:vf->fE
 |.a o=>o
 |.r6 _ _=>.move (.const (.slice none 0 0))
 |.vg false t _ _=>.box t (.const (.slice none 0 0))
 |.vg true t _ _=>.new t [.slice none 0 0]
 |.lQ t z n bC=>.buildSlice t z n bC
def kJ:eh->lL
 |.nil=>.nil
 |.op d o c r=>.op d (GZ o) c (kJ r)
 |.k0 d c i tmp b y r=>.k0 d c i tmp (kJ b) y (kJ r)
 |.dh _ _ r=>kJ r
 |.vh _ d o c r=>.op d (GZ o) c (kJ r)
 |.Ap _ _ _ r=>kJ r
def hI:hB->k1
 |.skip=>.skip
 |.region d s=>.region d (kJ s)
 |.seq a b=>.seq (hI a) (hI b)
 |.cond c m t a b=>.cond c m t (hI a) (hI b)
 |.block i m t c=>.block i m t (hI c)
 |.loop m t c=>.loop m t (hI c)
 |.exit i=>.exit i
 |.ret=>.ret
 |.ju g c4 bC a b=>.ju g c4 bC (hI a) (hI b)
inductive cq where
 |box (vs:List J) (t:aX) (md:eg)
 |log (rows:List (List J)) (sz:Nat) (elem:aX) (md:eg)
 |map (c5:List (J×J)) (md:eg)
 |loop (c6:List J) (c4 bC:List Nat) (assign body:hB) (st:s9) (dY:Option fw) (md:eg)
 |dead
abbrev U:=List cq
def fz:J->Bool
 |.int _ _|.bool _|.str _|.bc|.oz|.nM|.mi|.oA|.bz _ _=>true
 |_=>false
def dd:J->Bool
 |.agg _|.tuple _|.dI=>false
 |_=>true
def b':J->List J
 |.agg cs=>cs
 |.dI=>[]
 |v=>[v]
def ar(op:BinOp)(x y:J):Option J:=
 match x,y with
 |.int k a,.int b4 b=>
  match op with
  |.shl=>if b<0 then none else I (.int k (k.wrap (a*2 ^ (min b.toNat k.bits))))
  |.shr=>if b<0 then none else I (.int k (a.fdiv (2 ^ (min b.toNat k.bits))))
  |op=>
   if k=b4 then
    match op with
    |.add=>I (.int k (k.wrap (a+b)))
    |.sub=>I (.int k (k.wrap (a-b)))
    |.mul=>I (.int k (k.wrap (a*b)))
    |.quo=>if b=0 then none else I (.int k (k.wrap (a.tdiv b)))
    |.rem=>if b=0 then none else I (.int k (a.tmod b))
    |.and=>I (.int k (k.wrap (j' k.bits a &&& j' k.bits b).toNat))
    |.or=>I (.int k (k.wrap (j' k.bits a ||| BitVec.ofInt k.bits b).toNat))
    |.xor=>I (.int k (k.wrap (j' k.bits a ^^^ j' k.bits b).toNat))
    |.andNot=>I (.int k (k.wrap (j' k.bits a &&& ~~~(j' k.bits b)).toNat))
    |.eql=>I (.bool (a==b))
    |.neq=>I (.bool (a !=b))
    |.lss=>I (.bool (decide (a<b)))
    |.leq=>I (.bool (decide (a<=b)))
    |.gtr=>I (.bool (decide (a>b)))
    |.geq=>I (.bool (decide (a>=b)))
    |_=>none
   else none
 |.str a,.str b=>
  match op with
  |.add=>if a.size+b.size<=4611686018427387904 then I (.str (a++b))else none
  |.eql=>I (.bool (a.toList==b.toList))
  |.neq=>I (.bool !(a.toList==b.toList))
  |_=>none
 |_,_=>none
def nO(neg:Bool)(x y:J):Option J:=
 match x,y with
 |.bool a,.bool b=>I (.bool (neg !=(a==b)))
 |_,_=>none
def G0(k:p2)(neg:Bool)(x:J):Option J:=
 match k,x with
 |.slice,.bc=>I (.bool (neg !=true))
 |.slice,.bz _ (_::_)=>I (.bool (neg !=false))
 |.slice,.ref _ _ (_+1) _ _=>I (.bool (neg !=false))
 |.pointer,.oz=>I (.bool (neg !=true))
 |.pointer,.ptr _ _=>I (.bool (neg !=false))
 |.pointer,.e6 _ _=>I (.bool (neg !=false))
 |.map,.nM=>I (.bool (neg !=true))
 |.map,.map _=>I (.bool (neg !=false))
 |.func,.mi=>I (.bool (neg !=true))
 |.func,.func _ _ _=>I (.bool (neg !=false))
 |.iface,.oA=>I (.bool (neg !=true))
 |.iface,.iface _ _=>I (.bool (neg !=false))
 |_,_=>none
def G1(k:p2)(x:J):Bool:=
 match k,x with
 |.slice,.bz _ []=>true
 |.slice,.emp=>true
 |.slice,.ref _ _ 0 _ _=>true
 |_,_=>false
open Classical in
noncomputable def both{R:Type}(a b:Option R):Option R:=if a=b then a else none
noncomputable def m6{R:Type}(t:p2)(neg:Bool)(x:J)(k:J->Option R):Option R:=
 match G1 t x with
 |true=>both (k (.bool true)) (k (.bool false))
 |false=>(G0 t neg x).bind k
def jY:List e4->List J->List J->Option Bool
 |[],[],[]=>I true
 |.int::c3,.int k a::xs,.int b4 b::ys=>if k=b4 then(jY c3 xs ys).map (λr=>(a==b)&&r)else none
 |.bool::c3,.bool a::xs,.bool b::ys=>(jY c3 xs ys).map (λr=>(a==b)&&r)
 |.str::c3,.str a::xs,.str b::ys=>(jY c3 xs ys).map (λr=>(a==b)&&r)
 |_,_,_=>none
def lu(c3:List e4)(neg:Bool)(x y:J):Option J:=
 match x,y with
 |.agg xs,.agg ys=>(jY c3 xs ys).map λr=>.bool (neg !=r)
 |_,_=>none
def di(op:UnOp)(x:J):Option J:=
 match op,x with
 |.neg,.int k n=>I (.int k (k.wrap (0-n)))
 |.not,.bool b=>I (.bool !b)
 |.xor,.int k n=>I (.int k (k.wrap (j' k.bits (if k.signed then -1 else k.max) ^^^ j' k.bits n).toNat))
 |_,_=>none
def G2(x:J):Option J:=
 match x with
 |.str s=>I (.str s)
 |_=>none
def ml(k:IntKind)(x:J):Option J:=
 match x with
 |.int _ n=>I (.int k (k.wrap n))
 |_=>none
def bw(str:Bool)(x:J):Option J:=
 match str,x with
 |true,.str s=>I (.int .i64 s.size)
 |false,.bc=>I (.int .i64 0)
 |false,.emp=>I (.int .i64 0)
 |false,.bz _ rows=>I (.int .i64 rows.length)
 |false,.ref _ _ n _ _=>I (.int .i64 n)
 |_,_=>none
def G3(c x y:J):Option J:=
 match c with
 |.bool b=>I (if b then x else y)
 |_=>none
def ea(x:J)(i:Nat):Option J:=
 match x with
 |.tuple vs=>vs[i]?
 |_=>none
def eT(agg:Bool)(off size:Nat)(cs:List J):Option J:=
 match agg with
 |true=>if off+size<=cs.length then I (.agg ((cs.drop off).take size))else none
 |false=>cs[off]?
def vi(agg:Bool)(off size:Nat)(x:J):Option J:=
 match x with
 |.agg cs=>eT agg off size cs
 |_=>none
def q_(n:Nat)(agg:Bool)(size:Nat)(x i:J):Option J:=
 match x,i with
 |.agg cs,.int _ j=>if 0<=j/\j<n then eT agg (j.toNat*size) size cs else none
 |_,_=>none
def mm(x i:J):Option J:=
 match x,i with
 |.str s,.int _ j=>if 0<=j then(s.data[j.toNat]?).map λb=>.int .u8 b.toNat else none
 |_,_=>none
def aq(off:Nat)(x:J):Option J:=
 match x with
 |.ptr b o=>I (.ptr b (o+off))
 |.e6 row o=>I (.e6 row (o+off))
 |.gB b i o ver sz=>I (.gB b i (o+off) ver sz)
 |_=>none
def bW(size:Nat)(x i:J):Option J:=
 match x,i with
 |.bz sz rows,.int _ j=>if 0<=j/\sz=size then(rows[j.toNat]?).map λrow=>.e6 row 0 else none
 |.ref b lo n ver sz,.int _ j=>if 0<=j/\j<n/\sz=size then I (.gB b (lo+j.toNat) 0 ver sz)else none
 |_,_=>none
def G4(n size:Nat)(x i:J):Option J:=
 match i with
 |.int _ j=>if 0<=j/\j<n then aq (j.toNat*size) x else none
 |_=>none
def fA(x:J):Option J:=
 match x with
 |.ptr b o=>I (.ptr b o)
 |.e6 row o=>I (.e6 row o)
 |.gB b i o ver sz=>I (.gB b i o ver sz)
 |.func f xs ys=>I (.func f xs ys)
 |_=>none
def kK(d:Nat)(x:Option J)(gz:Nat):Option Nat:=
 match x with
 |none=>I d
 |some (.int _ j)=>if 0<=j/\j<=gz then I j.toNat else none
 |_=>none
def q'(size:Nat)(x:J)(lo ag mx:Option J):Option J:=
 match x with
 |.bc=>(kK 0 mx 0).bind λ_=>(kK 0 ag 0).bind λ_=>(kK 0 lo 0).bind λ_=>I .bc
 |.emp=>(kK 0 mx 0).bind λ_=>(kK 0 ag 0).bind λ_=>(kK 0 lo 0).bind λ_=>I .emp
 |.bz sz rows=>
  if sz=size then
   match mx with
   |none=>(kK rows.length ag rows.length).bind λh=>(kK 0 lo h).bind λl=>I (.bz sz ((rows.take h).drop l))
   |some m=>match ag with
    |some ag=>(kK 0 (I m) rows.length).bind λm=>(kK 0 (I ag) m).bind λh=>(kK 0 lo h).bind λl=>
     I (if m=l then .emp else .bz sz ((rows.take h).drop l))
    |none=>none
  else none
 |.ref b c n ver sz=>
  if sz=size then
   match mx with
   |none=>(kK n ag n).bind λh=>(kK 0 lo h).bind λl=>I (if h=l then .bz sz []else .ref b (c+l) (h-l) ver sz)
   |some _=>none
  else none
 |_=>none
def G5(x:J)(lo ag:Option J):Option J:=
 match x with
 |.str s=>(kK s.size ag s.size).bind λh=>(kK 0 lo h).bind λl=>I (.str (s.extract l h))
 |_=>none
def G6(x y:J):Option J:=
 match x,y with
 |.int k a,.int b4 b=>if k=b4 then I (.int k (if b>a then b else a))else none
 |_,_=>none
def G7(x y:J):Option J:=
 match x,y with
 |.int k a,.int b4 b=>if k=b4 then I (.int k (if b<a then b else a))else none
 |_,_=>none
def Aq(f:J->J->Option J)(x:J):List J->Option J
 |[]=>I x
 |y::r=>(f x y).bind λz=>Aq f z r
def G8(f:J->J->Option J):List J->Option J
 |[]=>none
 |x::r=>Aq f x r
def cK(cells:List J):List (Nat×Nat×J)->Option (List J)
 |[]=>I cells
 |(off,size,v)::r=>
  if(b' v).length=size/\0<size/\off+size<=cells.length then cK (cells.take off++b' v++cells.drop (off+size)) r else none
def jZ(h:U)(b:Nat):Option (List J):=
 match h[b]? with
 |some (.box vs _ _)=>I vs
 |_=>none
def r7(h:U)(b ver sz:Nat):Option (List (List J)):=
 match h[b]? with
 |some (.log rows sz' _ _)=>bif cC rows.length ver&&cC sz' sz then I rows else none
 |_=>none
def ab(agg:Bool)(n:Nat)(x:J)(h:U):Option J:=
 match x with
 |.ptr b o=>(jZ h b).bind λvs=>eT agg o n vs
 |.e6 row o=>eT agg o n row
 |.gB b i o ver sz=>(r7 h b ver sz).bind λrows=>(rows[i]?).bind λrow=>eT agg o n row
 |_=>none
def cy(vs:List J)(o:Nat)(l:List J):Option (List J):=
 if o+l.length<=vs.length/\l.all dd=true then I (vs.take o++l++vs.drop (o+l.length))else none
def a_(n:Nat)(x v:J)(h:U):Option U:=
 bif cC (b' v).length n&&fD 0 n then
  match x with
  |.ptr b o=>match h[b]? with
   |some (.box vs t .rw)=>(cy vs o (b' v)).map λb_=>h.set b (.box b_ t .rw)
   |_=>none
  |.gB b i o ver sz=>match h[b]? with
   |some (.log rows sz' t .rw)=>if rows.length=ver/\sz'=sz then
    (rows[i]?).bind λrow=>(cy row o (b' v)).map λrow'=>h.set b (.log (rows.set i row') sz' t .rw)else none
   |_=>none
  |_=>none
 else none
def kk(sz:Nat)(x:J)(h:U):Option (List (List J)):=
 match x with
 |.bc=>I []
 |.emp=>I []
 |.bz sz' rows=>if sz'=sz then I rows else none
 |.ref b lo n ver sz'=>if n=0 then I []else if sz'=sz then(r7 h b ver sz).bind λrows=>if lo+n<=rows.length then I ((rows.drop lo).take n)else none else none
 |.str s=>if sz=1 then I (s.data.toList.map λb=>[.int .u8 b.toNat])else none
 |_=>none
def ra(elem:aX)(sz:Nat)(s:J)(new:List (List J))(h:U):Option (J×U):=
 if new.length<=da/\0<sz/\new.flatten.all dd=true then
  match s with
  |.bc=>if new.length=0 then I (.bc,h)else I (.ref h.length 0 new.length new.length sz,h++[.log new sz elem .rw])
  |.emp=>if new.length=0 then I (.emp,h)else I (.ref h.length 0 new.length new.length sz,h++[.log new sz elem .rw])
  |.ref b lo n ver sz'=>match h[b]? with
   |some (.log rows c t .rw)=>
    if lo=0/\n=ver/\rows.length=ver/\sz'=sz/\c=sz/\t=elem/\ver+new.length<=da then
     I (.ref b 0 (ver+new.length) (ver+new.length) sz,h.set b (.log (rows++new) sz elem .rw))
    else none
   |_=>none
  |_=>none
 else none
def ek(elem:aX)(sz:Nat)(s x:J)(h:U):Option (J×U):=(kk sz x h).bind λnew=>ra elem sz s new h
def G9(elem:aX)(sz:Nat)(zero:List J)(s k:J)(h:U):Option (J×U):=
 match k with
 |.int .i64 l=>if 0<=l/\l<=da/\zero.length=sz then ra elem sz s (du l.toNat zero) h else none
 |_=>none
def rb(sz:Nat)(d s:J)(h:U):Option (J×U):=
 (kk sz s h).bind λsrc=>
   match d with
   |.bc=>I (.int .i64 0,h)
   |.emp=>I (.int .i64 0,h)
   |.ref b lo n ver sz'=>
    if ver=0 then I (.int .i64 0,h)else
    match h[b]? with
    |some (.log rows c t .rw)=>
     if rows.length=ver/\sz'=sz/\c=sz/\lo+n<=ver/\0<n/\src.flatten.all dd=true then
      I (.int .i64 (fY src.length n),h.set b (.log (rows.take lo++src.take n++rows.drop (lo+fY src.length n)) c t .rw))
     else none
    |_=>none
   |_=>none
def G_(zero:List J)(x:J)(h:U):Option (J×U):=
 match x with
 |.bc=>I (iI,h)
 |.emp=>I (iI,h)
 |.ref b lo n ver sz=>
  match h[b]? with
  |some (.log rows c t .rw)=>
   if rows.length=ver/\zero.length=sz/\c=sz/\lo+n<=ver/\0<n/\zero.all dd=true then
    I (iI,h.set b (.log (rows.take lo++du n zero++rows.drop (lo+n)) c t .rw))
   else none
  |_=>none
 |_=>none
def pk(elem:aX)(zero:List J)(n c:J)(h:U):Option (J×U):=
 match n,c with
 |.int .i64 n,.int .i64 c=>
  if 0<=n/\n<=c/\c<=da then I (.ref h.length 0 n.toNat n.toNat zero.length,h++[.log (du n.toNat zero) zero.length elem .rw])else none
 |_,_=>none
def hJ(sz:Nat):Nat->List J->List (List J)
 |0,_=>[]
 |n+1,l=>l.take sz::hJ sz n (l.drop sz)
def tn(k:e4)(x y:J):Option Bool:=
 match k,x,y with
 |.int,.int k a,.int b4 b=>if k=b4 then I (a==b)else none
 |.bool,.bool a,.bool b=>I (a==b)
 |.str,.str a,.str b=>I (a==b)
 |_,_,_=>none
def tp(k:e4)(x:J):List (J×J)->Option (Option J)
 |[]=>I none
 |(y,v)::r=>match tn k x y with
  |some true=>I (I v)
  |some false=>tp k x r
  |none=>none
def qa(k:e4)(x v:J):List (J×J)->Option (List (J×J))
 |[]=>I [(x,v)]
 |(y,u)::r=>match tn k x y with
  |some true=>I ((x,v)::r)
  |some false=>(qa k x v r).map λq=>(y,u)::q
  |none=>none
def vj(x:J)(h:U):Option (List (J×J)):=
 match x with
 |.nM=>I []
 |.map b=>match h[b]? with
  |some (.map c5 _)=>I c5
  |_=>none
 |_=>none
def re(k:e4)(zero:J)(ok:Bool)(x i:J)(h:U):Option J:=
 (vj x h).bind λc5=>(tp k i c5).map λr=>
   match r,ok with
   |some v,true=>.tuple [v,.bool true]
   |some v,false=>v
   |none,true=>.tuple [zero,.bool false]
   |none,false=>zero
def pn(k:e4)(x i v:J)(h:U):Option U:=
 match x with
 |.map b=>match h[b]? with
  |some (.map c5 .rw)=>(qa k i v c5).map λq=>h.set b (.map q .rw)
  |_=>none
 |_=>none
def G'(x:J)(h:U):Option J:=(vj x h).map λc5=>.int .i64 c5.length
def Ar:List (List J)->Option (List UInt8)
 |[]=>I []
 |[.int .u8 n]::r=>(Ar r).map λl=>UInt8.ofNat n.toNat::l
 |_=>none
def Ha(x:J)(h:U):Option J:=
 match x with
 |.str _=>none
 |x=>(kk 1 x h).bind λrows=>(Ar rows).map λb=>.str ⟨b.toArray⟩
mutual
def dh:fx->J->U->Option (J×U)
 |.ah,v,h=>I (v,h)
 |.raw,v,h=>match v with
  |.bc=>I (.emp,h)
  |v=>I (v,h)
 |.flat sz,v,h=>match v with
  |.bc=>I (.bz sz [],h)
  |.emp=>I (.bz sz [],h)
  |.bz sz' rows=>I (.bz sz' rows,h)
  |.ref b lo n ver sz=>if n=0 then I (.bz sz [],h)else match h[b]? with
   |some (.log rows sz' t .rw)=>if rows.length=ver/\sz'=sz/\lo+n<=ver/\((rows.drop lo).take n).flatten.all fz=true then I (.bz sz ((rows.drop lo).take n),h.set b (.log rows sz' t .ro))else none
   |some (.log rows sz' t .ro)=>if rows.length=ver/\sz'=sz/\lo+n<=ver/\((rows.drop lo).take n).flatten.all fz=true then I (.bz sz ((rows.drop lo).take n),h)else none
   |_=>none
  |_=>none
 |.bO sz cs,v,h=>match v with
  |.bc=>I (.bz sz [],h)
  |.emp=>I (.bz sz [],h)
  |.bz sz' rows=>I (.bz sz' rows,h)
  |.ref b lo n ver sz=>if n=0 then I (.bz sz [],h)else match h[b]? with
   |some (.log rows sz' t .rw)=>if rows.length=ver/\sz'=sz/\lo+n<=ver then
    (oC cs ((rows.drop lo).take n) (h.set b (.log rows sz' t .ro))).bind λq=>if q.1.flatten.all fz=true then I (.bz sz q.1,q.2)else none
    else none
   |some (.log rows sz' t .ro)=>if rows.length=ver/\sz'=sz/\lo+n<=ver then
    (oC cs ((rows.drop lo).take n) h).bind λq=>if q.1.flatten.all fz=true then I (.bz sz q.1,q.2)else none
    else none
   |_=>none
  |_=>none
 |.agg cs,v,h=>match v with
  |.agg vs=>(hK cs vs h).map λq=>(.agg q.1,q.2)
  |_=>none
def hK:List fx->List J->U->Option (List J×U)
 |[],[],h=>I ([],h)
 |s::fg,v::vs,h=>(dh s v h).bind λq=>(hK fg vs q.2).map λr=>(q.1::r.1,r.2)
 |_,_,_=>none
def oC(cs:List fx):List (List J)->U->Option (List (List J)×U)
 |[],h=>I ([],h)
 |r::rs,h=>(hK cs r h).bind λq=>(oC cs rs q.2).map λp=>(q.1::p.1,p.2)
end
def bI(n:Nat):J->Prop
 |.ptr b _=>b<n
 |.ref b _ _ _ _=>b<n
 |.gB b _ _ _ _=>b<n
 |.map b=>b<n
 |.yield b=>b<n
 |.func _ xs ys=>(∀x∈xs,bI n x)/\(∀y∈ys,bI n y)
 |.iface _ v=>bI n v
 |.agg cs=>∀x∈cs,bI n x
 |.tuple cs=>∀x∈cs,bI n x
 |_=>True
def jy(n:Nat):cq->Prop
 |.box vs _ _=>∀x∈vs,bI n x
 |.log rows _ _ _=>∀x∈rows.flatten,bI n x
 |.map c5 _=>∀x∈c5,bI n x.1/\bI n x.2
 |.loop c6 _ _ _ _ _ _ _=>∀x∈c6,bI n x
 |.dead=>True
open Classical in
noncomputable def trim(au:U)(roots:List J)(h:U):U:=
 if(∀v∈roots,bI au.length v)/\(∀b,b<au.length->h[b]?=au[b]?\/∃blk,h[b]?=I blk/\jy au.length blk)then h.take au.length else h
def nP:cq->cq
 |.box vs t .rw=>.box vs t .pj
 |.log rows sz t .rw=>.log rows sz t .pj
 |.map c5 .rw=>.map c5 .pj
 |.loop c6 c4 bC a b st dY .rw=>.loop c6 c4 bC a b st dY .pj
 |b=>b
def lock(h:U):U:=h.map nP
open Classical in
noncomputable def dQ{R:Type}(h h':U)(k:U->Option R):Option R:=if lock h <+: h' then k (h++h'.drop h.length)else none
def dT(e:ej):Operand->J
 |.tmp t=>e t
 |.const v=>tm v
 |.global _=>.dI
 |.func f=>.func f [] []
def r8(e:ej):List Operand->List J
 |[]=>[]
 |x::r=>dT e x::r8 e r
def vk(e:ej):Option Operand->Option J
 |none=>none
 |some x=>I (dT e x)
def vl(e:ej):List (Nat×Nat×Operand)->List (Nat×Nat×J)
 |[]=>[]
 |(i,n,x)::r=>(i,n,dT e x)::vl e r
abbrev aR:=dN->List J->U->Option (J×U)
section
variable {R : Type}
def gh(Γ:aR)(f:J)(args:List J)(h:U):Option (J×U):=
 match f with
 |.func g xs ys=>bif fD g dP then Γ g (xs++args++ys) h else none
 |.yield b=>Γ dP (.ptr b 0::args) h
 |_=>none
def po(Γ:aR)(f:J)(args:List J)(h:U):Option (J×U):=
 match f with
 |.func g xs ys=>bif fD g dP then Γ g (xs++args++ys) h else none
 |_=>none
def pq(zero:List Value):List J:=zero.map gg
def hL(zero:List J):Nat->List J
 |0=>[]
 |n+1=>zero++hL zero n
noncomputable def gC(Γ:aR)(o:vf)(e:ej)(h:U)(k:J->U->Option R):Option R:=
 match o with
 |.r6 t sz=>if 0<sz then k (.ref h.length 0 0 0 sz) (h++[.log [] sz t .rw])else none
 |.vg _ t fj sz=>if 0<sz then k (.ptr (h.length+1) 0) (h++[.log [] sz fj .rw,.box [.ref h.length 0 0 0 sz] t .rw])else none
 |.lQ t zero n parts=>if 0<zero.length/\0<n/\n<=da then(cK (hL (pq zero) n) (vl e parts)).bind λl=>if l.all fz=true then k (.bz zero.length (hJ zero.length n l)) h else none else none
 |.a o=>match o with
  |.move x=>k (dT e x) h
  |.pick c a b=>(G3 (dT e c) (dT e a) (dT e b)).bind λv=>k v h
  |.bin op x y=>(ar op (dT e x) (dT e y)).bind λv=>k v h
  |.mQ neg x y=>(nO neg (dT e x) (dT e y)).bind λv=>k v h
  |.isNil t neg x=>m6 t neg (dT e x) λv=>k v h
  |.nC c3 neg x y=>(lu c3 neg (dT e x) (dT e y)).bind λv=>k v h
  |.un op x=>(di op (dT e x)).bind λv=>k v h
  |.conv t x=>(ml t (dT e x)).bind λv=>k v h
  |.xh x=>(G2 (dT e x)).bind λv=>k v h
  |.len str x=>(bw str (dT e x)).bind λv=>k v h
  |.extract x i=>(ea (dT e x) i).bind λv=>k v h
  |.field agg off size x=>(vi agg off size (dT e x)).bind λv=>k v h
  |.q0 n agg size x i=>(q_ n agg size (dT e x) (dT e i)).bind λv=>k v h
  |.mR x i=>(mm (dT e x) (dT e i)).bind λv=>k v h
  |.fieldAddr off x=>(aq off (dT e x)).bind λv=>k v h
  |.indexAddr size x i=>(bW size (dT e x) (dT e i)).bind λv=>k v h
  |.xi n size x i=>(G4 n size (dT e x) (dT e i)).bind λv=>k v h
  |.nilCheck x=>(fA (dT e x)).bind λv=>k v h
  |.slice size x lo ag mx=>(q' size (dT e x) (vk e lo) (vk e ag) (vk e mx)).bind λv=>k v h
  |.xj x lo ag=>(G5 (dT e x) (vk e lo) (vk e ag)).bind λv=>k v h
  |.xk _ _ _ _ _ _=>none
  |.max xs=>(G8 G6 (r8 e xs)).bind λv=>k v h
  |.min xs=>(G8 G7 (r8 e xs)).bind λv=>k v h
  |.build zero parts=>(cK (pq zero) (vl e parts)).bind λl=>k (.agg l) h
  |.jW f first nD=>k (.func f (r8 e first) (r8 e nD)) h
  |.s8 t x=>k (.iface t (dT e x)) h
  |.box t x=>k (.ptr h.length 0) (h++[.box (b' (dT e x)) t .rw])
  |.new t zero=>k (.ptr h.length 0) (h++[.box (pq zero) t .rw])
  |.buildSlice t zero n parts=>if 0<zero.length/\0<n/\n<=da then(cK (hL (pq zero) n) (vl e parts)).bind λl=>k (.ref h.length 0 n n zero.length) (h++[.log (hJ zero.length n l) zero.length t .rw])
   else match n,parts with
    |0,[]=>k .emp h
    |_,_=>none
  |.mkSlice t zero n c=>if 0<zero.length then(pk t (pq zero) (dT e n) (dT e c) h).bind λp=>k p.1 p.2 else none
  |.load agg n x=>(ab agg n (dT e x) h).bind λv=>k v h
  |.store n x v=>(a_ n (dT e x) (dT e v) h).bind λh'=>k iI h'
  |.append t size s x=>(ek t size (dT e s) (dT e x) h).bind λp=>k p.1 p.2
  |.copy size d s=>(rb size (dT e d) (dT e s) h).bind λp=>k p.1 p.2
  |.clear zero x=>(G_ (pq zero) (dT e x) h).bind λp=>k p.1 p.2
  |.uI t size zero s n=>(G9 t size (pq zero) (dT e s) (dT e n) h).bind λp=>k p.1 p.2
  |.mkMap=>k (.map h.length) (h++[.map [] .rw])
  |.lookup t zero ok x i=>(re t (tm zero) ok (dT e x) (dT e i) h).bind λv=>k v h
  |.o7 t x i v=>(pn t (dT e x) (dT e i) (dT e v) h).bind λh'=>k iI h'
  |.uJ x=>(G' (dT e x) h).bind λv=>k v h
  |.uK x=>(Ha (dT e x) h).bind λv=>k v h
  |.call f args=>(Γ f (r8 e args) h).bind λp=>k p.1 p.2
  |.hU f args=>(gh Γ (dT e f) (r8 e args) h).bind λp=>k p.1 p.2
  |.fail=>none
def a6(k:J->U->Option R)(b:(J->U->Option R)->Option R):Option R:=b k
def aB(k:List J->U->Option R)(b:(List J->U->Option R)->Option R):Option R:=b k
def a7(v:J)(gK:Bool)(a b:Option R):Option R:=
 match v with
 |.bool t=>if t=gK then a else b
 |_=>none
def a8(v:J)(a b:Option R):Option R:=
 match v with
 |.bool t=>if t=true then a else b
 |_=>none
def As:J->Bool
 |.int _ _|.bool _|.str _=>true
 |_=>false
def vm:J->Bool
 |.tuple cs=>cs.all As
 |v=>As v
def qb:List (Nat×fx)->ej->U->(ej->U->Option R)->Option R
 |[],e,h,k=>k e h
 |p::r,e,h,k=>(dh p.2 (e p.1) h).bind λq=>qb r (m5 e p.1 q.1) q.2 k
def Hb(v:J)(fj:aX)(sz:Nat)(h:U):Option (J×U):=
 match v with
 |.bc=>if 0<sz then I (.ref h.length 0 0 0 sz,h++[.log [] sz fj .rw])else none
 |v=>I (v,h)
def iX(s p:J)(h:U):Bool:=
 match s,p with
 |.bc,.ptr _ _=>true
 |.emp,.ptr _ _=>true
 |.ref b _ _ ver _,.ptr bf _=>match h[b]?,h[bf]? with
  |some (.log rows _ _ _),I (.box _ _ _)=>cC rows.length ver
  |_,_=>false
 |.bc,.gB _ _ _ _ _=>true
 |.emp,.gB _ _ _ _ _=>true
 |.ref b _ _ ver _,.gB bf _ _ c _=>match h[b]?,h[bf]? with
  |some (.log rows _ _ _),I (.log rows' _ _ _)=>cC rows.length ver&&(cC rows'.length c&&!Nat.beq b bf)
  |_,_=>false
 |_,_=>false
def Au:List (Nat×Nat)->ej->U->Bool
 |[],_,_=>true
 |p::r,e,h=>iX (e p.1) (e p.2) h&&Au r e h
def hY{R:Type}(b:Bool)(m:Option R):Option R:=if b=true then m else none
noncomputable def iy(Γ:aR):eh->(ej->U->Option R)->ej->U->Option R
 |.nil,K,e,h=>K e h
 |.op d o .no rest,K,e,h=>gC Γ o e h λv h'=>iy Γ rest K (nN e d v) h'
 |.op d o (.hf bC) rest,K,e,h=>hY (Au bC e h) (gC Γ o e h λv h'=>iy Γ rest K (nN e d v) h')
 |.op d o .calm rest,K,e,h=>gC Γ o e (lock h) λv h'=>dQ h h' λh2=>iy Γ rest K (nN e d v) h2
 |.k0 d c gK tmp body y rest,K,e,h=>
  a6 (λv h=>iy Γ rest K (m5 (q9 e tmp) d v) h) λj=>
   a7 (e c) gK (iy Γ body (λe' h'=>j (dT e' y) h') e h) (j (.bool !gK) h)
 |.dh t s rest,K,e,h=>(dh s (e t) h).bind λq=>iy Γ rest K (m5 e t q.1) q.2
 |.vh _ _ _ (.hf _) _,_,_,_=>none
 |.vh kj d o .no rest,K,e,h=>qb kj e h λaD h1=>gC Γ o aD (lock h1) λv _=>if vm v=true then iy Γ rest K (nN e d v) h else none
 |.vh kj d o .calm rest,K,e,h=>qb kj e h λaD h1=>gC Γ o aD (lock h1) λv _=>if vm v=true then iy Γ rest K (nN e d v) h else none
 |.Ap t fj sz rest,K,e,h=>(Hb (e t) fj sz h).bind λq=>iy Γ rest K (m5 e t q.1) q.2
def cr(B:(List J->U->Option R)->List J->U->Option R):Nat->List J->U->Option R
 |0,_,_=>none
 |n+1,vs,h=>B (cr B n) vs h
def rf(b:Nat)(h:U):Option (Option fw):=
 match h[b]? with
 |some (.loop _ _ _ _ _ .ready dY .rw)=>I dY
 |some (.loop _ _ _ _ _ .done dY .rw)=>I dY
 |_=>none
def m7(b:Nat)(o:fw)(h:U):Option (J×U):=
 match h[b]? with
 |some (.loop c6 c4 bC c e .busy _ .rw)=>match o with
  |.normal=>I (.bool true,h.set b (.loop c6 c4 bC c e .ready none .rw))
  |.exit i=>I (.bool false,h.set b (.loop c6 c4 bC c e .done (I (.exit i)) .rw))
  |.ret=>I (.bool false,h.set b (.loop c6 c4 bC c e .done (I .ret) .rw))
 |_=>none
def qc(b:Nat)(h:U):Option U:=
 match h[b]? with
 |some (.loop c6 c4 bC c e .ready dY .rw)=>I (h.set b (.loop c6 c4 bC c e .busy dY .rw))
 |_=>none
noncomputable def iY(Γ:aR)(n:Nat):hB->(fw->ej->U->Option R)->ej->U->Option R
 |.skip,K,e,h=>K .normal e h
 |.region _ s,K,e,h=>iy Γ s (λe h=>K .normal e h) e h
 |.seq a b,K,e,h=>iY Γ n a (λo e h=>match o with|.normal=>iY Γ n b K e h|.exit i=>K (.exit i) e h|.ret=>K .ret e h) e h
 |.cond c mod tmp a b,K,e,h=>
  aB (λvs h=>K .normal (oB (q9 e tmp) mod vs) h) λj=>
   a8 (dT e c)
    (iY Γ n a (λo e h=>match o with|.normal=>j (mj e mod) h|.exit i=>K (.exit i) e h|.ret=>K .ret e h) e h)
    (iY Γ n b (λo e h=>match o with|.normal=>j (mj e mod) h|.exit i=>K (.exit i) e h|.ret=>K .ret e h) e h)
 |.block id mod tmp c,K,e,h=>
  aB (λvs h=>K .normal (oB (q9 e tmp) mod vs) h) λj=>
   iY Γ n c (λo e h=>match o with
    |.normal=>j (mj e mod) h
    |.exit i=>bif cC i id then j (mj e mod) h else K (.exit i) e h
    |.ret=>K .ret e h) e h
 |.loop mod tmp c,K,e,h=>
  cr (λcont vs h1=>iY Γ n c (λo e h2=>match o with|.normal=>cont (mj e mod) (trim h (mj e mod) h2)|.exit i=>K (.exit i) e h2|.ret=>K .ret e h2) (oB (q9 e tmp) mod vs) h1) n (mj e mod) h
 |.exit i,K,e,h=>K (.exit i) e h
 |.ret,K,e,h=>K .ret e h
 |.ju g c4 bC k l,K,e,h=>
  (po Γ (dT e g) [.yield h.length] (h++[.loop (mj e c4) c4 bC k l .ready none .rw])).bind λp=>
    (rf h.length p.2).bind λo=>match o with
      |none=>K .normal e (trim h [] (p.2.set h.length .dead))
      |some x=>K x e (trim h [] (p.2.set h.length .dead))
structure bU where
 nG:Nat
 ntmps:Nat
 code:hB
 results:List s'
 oD:List fx
def bU.erase(F:bU):q1:=⟨F.nG,F.ntmps,hI F.code,F.results⟩
def r9:List s'->ej->U->(List J->Option R)->Option R
 |[],_,_,k=>k []
 |.tmp t::r,e,h,k=>r9 r e h λvs=>k (e t::vs)
 |.cell t agg n::r,e,h,k=>(ab agg n (e t) h).bind λv=>r9 r e h λvs=>k (v::vs)
def tq:List J->J
 |[v]=>v
 |vs=>.tuple vs
end
def Hc(args:List J):ej:=λi=>args.getD i iI
noncomputable def aL(oD:List fx)(h h':U)(vs:List J):Option (J×U):=(hK oD vs h').map λq=>(tq q.1,trim h q.1 q.2)
noncomputable def bX(Γ:aR)(n:Nat)(F:bU)(args:List J)(h:U):Option (J×U):=
 bif cC args.length F.nG then
  iY Γ n F.code (λo e h'=>match o with
   |.normal=>r9 F.results e h' λvs=>aL F.oD h h' vs
   |.ret=>r9 F.results e h' λvs=>aL F.oD h h' vs
   |.exit _=>none) (Hc args) h
 else none
noncomputable def nQ(Γ:aR)(n:Nat)(args:List J)(h:U):Option (J×U):=
 match args with
 |.ptr b 0::vs=>
  match h[b]? with
  |some (.loop c6 c4 bC c g .ready _ _)=>
   bif cC vs.length bC.length then
    iY Γ n c (λo e h1=>match o with
     |.normal=>(qc b h1).bind λh2=>iY Γ n g (λo _ ak=>(m7 b o ak).map λq=>(q.1,trim h [] q.2)) e h2
     |_=>none) (oB (oB (λ_=>.dI) c4 c6) bC vs) h
   else none
  |_=>none
 |_=>none
abbrev iz:=List (dN×bU)
def iz.get(T:iz)(f:dN):Option bU:=
 match T with
 |[]=>none
 |(g,F)::r=>bif cC g f then I F else iz.get r f
def iz.erase:iz->jv
 |[]=>[]
 |(g,F)::r=>(g,F.erase)::iz.erase r
noncomputable def iA(aJ:aR)(T:iz):Nat->aR
 |0,f,args,h=>bif cC f dP then none else match T.get f with
  |some _=>none
  |none=>aJ f args h
 |n+1,f,args,h=>bif cC f dP then nQ (iA aJ T n) n args h else match T.get f with
  |some F=>bX (iA aJ T n) n F args h
  |none=>aJ f args h
open Classical in
noncomputable def m8(aJ:aR)(T:iz):aR:=λf args h=>
 if H:∃n,(iA aJ T n f args h).isSome=true then iA aJ T (Kn H) f args h else none
abbrev Ren:=Nat->Nat->Option (Option bB.Loc)
abbrev dk:=Nat->Option h9
mutual
inductive bn(μ:Ren)(φ:dk):J->Value->Prop
 |dI (v:Value):bn μ φ .dI v
 |int (k:IntKind) (n:Int):bn μ φ (.int k n) (.int k n)
 |bool (b:Bool):bn μ φ (.bool b) (.bool b)
 |str (s:ByteArray):bn μ φ (.str s) (.string s)
 |bc:bn μ φ .bc (.slice none 0 0)
 |oz:bn μ φ .oz (.pointer none)
 |nM:bn μ φ .nM (.map none)
 |mi:bn μ φ .mi .nilFunc
 |oA:bn μ φ .oA .nilIface
 |emp (a:Option Addr):bn μ φ .emp (.slice a 0 0)
 |m9 (sz:Nat):bn μ φ (.bz sz []) (.slice none 0 0)
 |lR (sz:Nat) (a:Addr) (c:Nat):bn μ φ (.bz sz []) (.slice (I a) 0 c)
 |bz {rows:List (List J)} {sz a o n c:Nat} {vs:List Value} {t:aX} {rw:Bool} (aA:n=rows.length) (aa:n<=c/\n<et) (cY:∀r∈rows,r.length=sz) (lS:φ a=I (.cells vs t rw))
  (av:o+n*sz<=vs.length) (aj:rows.flatten.all fz=true) (an:bL μ φ rows.flatten ((vs.drop o).take (n*sz))):bn μ φ (.bz sz rows) (.slice (I ⟨a,o,none⟩) n c)
 |e6 {row:List J} {off a o:Nat} {vs:List Value} {t:aX} {rw:Bool} (lS:φ a=I (.cells vs t rw)) (av:o+row.length<=vs.length) (aj:row.all fz=true)
  (an:bL μ φ row ((vs.drop o).take row.length)):bn μ φ (.e6 row off) (.pointer (I ⟨a,o+off,none⟩))
 |ptr {b o:Nat} {l:bB.Loc} (h:μ b 0=I (I l)):bn μ φ (.ptr b o) (.pointer (I ⟨l.blk,o,none⟩))
 |jz {b:Nat} (sz:Nat) (a:Option Addr) (h:μ b 0=I none):bn μ φ (.ref b 0 0 0 sz) (.slice a 0 0)
 |ref {b lo n ver sz c:Nat} {l:bB.Loc} (h:μ b ver=I (I l)) (aA:lo+n<=ver) (aa:(c=et/\0<n)\/(c<et/\n<=c/\lo+c<=l.K)):bn μ φ (.ref b lo n ver sz) (.slice (I ⟨l.blk,lo*sz,none⟩) n c)
 |gB {b i off ver sz:Nat} {l:bB.Loc} (h:μ b ver=I (I l)):bn μ φ (.gB b i off ver sz) (.pointer (I ⟨l.blk,i*sz+off,none⟩))
 |map {b:Nat} {l:bB.Loc} (h:μ b 0=I (I l)):bn μ φ (.map b) (.map (I l.blk))
 |func (f:dN) {xs ys:List J} {eX eM:List Value} (af:bL μ φ xs eX) (ba:bL μ φ ys eM):bn μ φ (.func f xs ys) (.func (.func f) eX.toArray eM.toArray)
 |yield {b:Nat} {l:bB.Loc} (h:μ b 0=I (I l)):bn μ φ (.yield b) (.func (.yield l.blk) ⟨[]⟩ ⟨[]⟩)
 |iface (t:aX) {v:J} {v':Value} (h:bn μ φ v v'):bn μ φ (.iface t v) (.iface t v')
 |agg {xs:List J} {ys:List Value} (h:bL μ φ xs ys):bn μ φ (.agg xs) (.agg ys.toArray)
 |tuple {xs:List J} {ys:List Value} (h:bL μ φ xs ys):bn μ φ (.tuple xs) (.tuple ys.toArray)
inductive bL(μ:Ren)(φ:dk):List J->List Value->Prop
 |nil:bL μ φ [] []
 |cons {x:J} {y:Value} {xs:List J} {ys:List Value} (h:bn μ φ x y) (az:bL μ φ xs ys):bL μ φ (x::xs) (y::ys)
end
def ef(μ aV:Ren):Prop:=∀b k l,μ b k=I l->aV b k=I l
def gi(φ bD:dk):Prop:=∀a blk,φ a=I blk->bD a=I blk
theorem ef.refl(μ:Ren):ef μ μ:=λ_ _ _ h=>h
theorem gi.refl(φ:dk):gi φ φ:=λ_ _ h=>h
theorem ef.trans{a b c:Ren}(h:ef a b)(h':ef b c):ef a c:=λx y z e=>h' x y z (h x y z e)
theorem gi.trans{a b c:dk}(h:gi a b)(h':gi b c):gi a c:=λx y e=>h' x y (h x y e)
mutual
theorem bn.mono{μ aV:Ren}{φ bD:dk}(hm:ef μ aV)(aC:gi φ bD){x:J}{y:Value}:bn μ φ x y->bn aV bD x y
 |.dI v=>.dI v
 |.int k n=>.int k n
 |.bool b=>.bool b
 |.str s=>.str s
 |.bc=>.bc
 |.oz=>.oz
 |.nM=>.nM
 |.mi=>.mi
 |.oA=>.oA
 |.emp a=>.emp a
 |.m9 sz=>.m9 sz
 |.lR sz a c=>.lR sz a c
 |.bz h1 h2 ak aH aM bp cl=>.bz h1 h2 ak (aC _ _ aH) aM bp (bL.mono hm aC cl)
 |.e6 aH aM bp cl=>.e6 (aC _ _ aH) aM bp (bL.mono hm aC cl)
 |.ptr h=>.ptr (hm _ _ _ h)
 |.jz sz a h=>.jz sz a (hm _ _ _ h)
 |.ref h h1 h2=>.ref (hm _ _ _ h) h1 h2
 |.gB h=>.gB (hm _ _ _ h)
 |.map h=>.map (hm _ _ _ h)
 |.func f h h'=>.func f (bL.mono hm aC h) (bL.mono hm aC h')
 |.yield h=>.yield (hm _ _ _ h)
 |.iface t h=>.iface t (bn.mono hm aC h)
 |.agg h=>.agg (bL.mono hm aC h)
 |.tuple h=>.tuple (bL.mono hm aC h)
theorem bL.mono{μ aV:Ren}{φ bD:dk}(hm:ef μ aV)(aC:gi φ bD){xs:List J}{ys:List Value}:bL μ φ xs ys->bL aV bD xs ys
 |.nil=>.nil
 |.cons h az=>.cons (bn.mono hm aC h) (bL.mono hm aC az)
end
def cut(μ:Ren)(n:Nat):Ren:=λb k=>if b<n then μ b k else none
theorem rh{μ:Ren}{n b k:Nat}(h:b<n):cut μ n b k=μ b k:=aQ h
theorem VC(μ:Ren)(n:Nat):ef (cut μ n) μ:=λb k l h=>by
 unfold cut at h
 split at h
 ·exact h
 ·cases h
mutual
theorem bn.under{μ:Ren}{φ:dk}{n:Nat}{x:J}{y:Value}(av:bI n x):bn μ φ x y->bn (cut μ n) φ x y
 |.dI v=>.dI v
 |.int k n=>.int k n
 |.bool b=>.bool b
 |.str s=>.str s
 |.bc=>.bc
 |.oz=>.oz
 |.nM=>.nM
 |.mi=>.mi
 |.oA=>.oA
 |.emp a=>.emp a
 |.m9 sz=>.m9 sz
 |.lR sz a c=>.lR sz a c
 |.bz h1 h2 ak aH aM bp cl=>.bz h1 h2 ak aH aM bp (bL.under (λx af=>by
  have:=List.all_eq_true.1 bp x af
  cases x<;>simp [fz,bI]at this |-) cl)
 |.e6 aH aM bp cl=>.e6 aH aM bp (bL.under (λx af=>by
  have:=List.all_eq_true.1 bp x af
  cases x<;>simp [fz,bI]at this |-) cl)
 |.ptr h=>.ptr (by rw[rh (by simpa [bI]using av)];exact h)
 |.jz sz a h=>.jz sz a (by rw[rh (by simpa [bI]using av)];exact h)
 |.ref h h1 h2=>.ref (by rw[rh (by simpa [bI]using av)];exact h) h1 h2
 |.gB h=>.gB (by rw[rh (by simpa [bI]using av)];exact h)
 |.map h=>.map (by rw[rh (by simpa [bI]using av)];exact h)
 |.func f h h'=>by unfold bI at av;exact .func f (bL.under av.1 h) (bL.under av.2 h')
 |.yield h=>.yield (by rw[rh (by simpa [bI]using av)];exact h)
 |.iface t h=>by unfold bI at av;exact .iface t (bn.under av h)
 |.agg h=>by unfold bI at av;exact .agg (bL.under av h)
 |.tuple h=>by unfold bI at av;exact .tuple (bL.under av h)
theorem bL.under{μ:Ren}{φ:dk}{n:Nat}{xs:List J}{ys:List Value}(av:∀x∈xs,bI n x):bL μ φ xs ys->bL (cut μ n) φ xs ys
 |.nil=>.nil
 |.cons h az=>.cons (bn.under (av _ (by simp)) h) (bL.under (λx af=>av x (by simp [af])) az)
end
mutual
theorem bn.lt{μ:Ren}{φ:dk}{n:Nat}(hd:∀b k l,μ b k=I l->b<n){aV:Ren}{bD:dk}{x:J}{y c0:Value}(h':bn aV bD x c0):bn μ φ x y->bn (cut aV n) bD x c0
 |.dI v=>.dI _
 |.int k n=>h'.under (by simp [bI])
 |.bool b=>h'.under (by simp [bI])
 |.str s=>h'.under (by simp [bI])
 |.bc=>h'.under (by simp [bI])
 |.oz=>h'.under (by simp [bI])
 |.nM=>h'.under (by simp [bI])
 |.mi=>h'.under (by simp [bI])
 |.oA=>h'.under (by simp [bI])
 |.emp a=>h'.under (by simp [bI])
 |.m9 sz=>h'.under (by simp [bI])
 |.lR sz a c=>h'.under (by simp [bI])
 |.bz ..=>h'.under (by simp [bI])
 |.e6 ..=>h'.under (by simp [bI])
 |.ptr h=>h'.under (by simpa [bI]using hd _ _ _ h)
 |.jz sz a h=>h'.under (by simpa [bI]using hd _ _ _ h)
 |.ref h h1 h2=>h'.under (by simpa [bI]using hd _ _ _ h)
 |.gB h=>h'.under (by simpa [bI]using hd _ _ _ h)
 |.map h=>h'.under (by simpa [bI]using hd _ _ _ h)
 |.func f h1 h2=>by
  cases h' with
  |func _ ak aH=>exact .func f (bL.lt hd ak h1) (bL.lt hd aH h2)
 |.yield h=>h'.under (by simpa [bI]using hd _ _ _ h)
 |.iface t h=>by
  cases h' with
  |iface _ ak=>exact .iface t (bn.lt hd ak h)
 |.agg h=>by
  cases h' with
  |agg ak=>exact .agg (bL.lt hd ak h)
 |.tuple h=>by
  cases h' with
  |tuple ak=>exact .tuple (bL.lt hd ak h)
theorem bL.lt{μ:Ren}{φ:dk}{n:Nat}(hd:∀b k l,μ b k=I l->b<n){aV:Ren}{bD:dk}{xs:List J}{ys eM:List Value}(h':bL aV bD xs eM):bL μ φ xs ys->bL (cut aV n) bD xs eM
 |.nil=>by cases h';exact .nil
 |.cons h az=>by
  cases h' with
  |cons ak aH=>exact .cons (bn.lt hd ak h) (bL.lt hd aH az)
end
theorem bL.length{μ:Ren}{φ:dk}{xs:List J}{ys:List Value}(h:bL μ φ xs ys):xs.length=ys.length:=by
 induction xs generalizing ys with
 |nil=>cases h;rfl
 |cons x xs b=>cases h with|cons _ az=>simp [b az]
theorem bL.get{μ:Ren}{φ:dk}{xs:List J}{ys:List Value}(h:bL μ φ xs ys){i:Nat}{x:J}(af:xs[i]?=I x):∃y,ys[i]?=I y/\bn μ φ x y:=by
 induction xs generalizing ys i with
 |nil=>simp at af
 |cons z xs b=>
  cases h with
  |cons au az=>
   cases i with
   |zero=>simp only[List.getElem?_cons_zero,ug]at af;subst af;exact⟨_,rfl,au⟩
   |succ i=>simp only[List.getElem?_cons_succ]at af |-;exact b az af
theorem bL.append{μ:Ren}{φ:dk}{xs eX:List J}{ys eM:List Value}(h:bL μ φ xs ys)(h':bL μ φ eX eM):bL μ φ (xs++eX) (ys++eM):=by
 induction xs generalizing ys with
 |nil=>cases h;exact h'
 |cons x xs b=>cases h with|cons au az=>exact .cons au (b az)
theorem bL.take{μ:Ren}{φ:dk}{xs:List J}{ys:List Value}(h:bL μ φ xs ys)(n:Nat):bL μ φ (xs.take n) (ys.take n):=by
 induction xs generalizing ys n with
 |nil=>cases h;simpa using bL.nil
 |cons x xs b=>
  cases h with
  |cons au az=>cases n with
   |zero=>exact .nil
   |succ n=>exact .cons au (b az n)
theorem bL.drop{μ:Ren}{φ:dk}{xs:List J}{ys:List Value}(h:bL μ φ xs ys)(n:Nat):bL μ φ (xs.drop n) (ys.drop n):=by
 induction xs generalizing ys n with
 |nil=>cases h;simpa using bL.nil
 |cons x xs b=>
  cases h with
  |cons au az=>cases n with
   |zero=>exact .cons au az
   |succ n=>exact b az n
theorem bL.Gp{μ:Ren}{φ:dk}{xs eX:List J}{ys eM:List Value}(h:bL μ φ xs ys)(h':bL μ φ eX eM)(o:Nat):bL μ φ (xs.take o++eX++xs.drop (o+eX.length)) (ys.take o++eM++ys.drop (o+eM.length)):=by
 rw[h'.length]
 exact((h.take o).append h').append (h.drop _)
theorem bL.Gn{μ:Ren}{φ:dk}{xs:List J}{ys:List Value}(av:xs.length=ys.length)(h:∀(i:Nat) x y,xs[i]?=I x->ys[i]?=I y->bn μ φ x y):bL μ φ xs ys:=by
 induction xs generalizing ys with
 |nil=>cases ys with|nil=>exact .nil|cons=>simp at av
 |cons x xs b=>cases ys with
  |nil=>simp at av
  |cons y ys=>exact .cons (h 0 x y rfl rfl) (b (by simpa using av) λi x y af ba=>h (i+1) x y af ba)
def kL:cq->Prop
 |.box _ _ .rw=>True
 |.log _ _ _ .rw=>True
 |.map _ .rw=>True
 |.loop _ _ _ _ _ _ _ .rw=>True
 |_=>False
def oE:eg->Bool
 |.ro=>false
 |_=>true
def nR:cq->Prop
 |.box _ _ md=>oE md=true
 |.log _ _ _ md=>oE md=true
 |.map _ md=>oE md=true
 |.loop _ _ _ _ _ _ _ md=>oE md=true
 |.dead=>False
theorem kL.own{b:cq}(h:kL b):nR b:=by
 unfold kL at h
 split at h<;>first|trivial|cases h|(simp [nR,oE])
theorem kL.live{b:cq}(h:kL b):b≠.dead:=by rintro rfl;exact h
def ver:cq->Nat
 |.log rows _ _ _=>rows.length
 |_=>0
def e9(μ:Ren)(φ:dk)(K:Nat):cq->h9->Prop
 |.box vs t md,blk=>∃b_ rw,blk=.cells b_ t rw/\vs.length<=b_.length/\bL μ φ vs (b_.take vs.length)/\(oE md=true->rw=true)
 |.log rows sz t md,blk=>∃b_ rw,blk=.cells b_ t rw/\rows.length*sz<=b_.length/\bL μ φ rows.flatten (b_.take (rows.length*sz))/\(∀r∈rows,r.length=sz)/\K*sz<=b_.length/\(oE md=true->rw=true)/\rows.length<=da
 |.map c5 _,blk=>∃b,blk=.map b/\bL μ φ (c5.map (·.1)) (b.map (·.1))/\bL μ φ (c5.map (·.2)) (b.map (·.2))
 |.loop c6 c4 bC e g st dY _,blk=>∃c,blk=.loop c c4 bC (hI e) (hI g) st dY/\bL μ φ c6 c
 |.dead,_=>True
theorem e9.mono{μ aV:Ren}{φ bD:dk}(hm:ef μ aV)(aC:gi φ bD){K:Nat}{b:cq}{a:h9}(h:e9 μ φ K b a):e9 aV bD K b a:=by
 cases b with
 |box vs t md=>obtain⟨v,r,h1,h2,ak,aH⟩:=h;exact⟨v,r,h1,h2,ak.mono hm aC,aH⟩
 |log rows sz t md=>obtain⟨v,r,h1,h2,ak,aH,aM,bp⟩:=h;exact⟨v,r,h1,h2,ak.mono hm aC,aH,aM,bp⟩
 |map c5=>obtain⟨e,h1,h2,ak⟩:=h;exact⟨e,h1,h2.mono hm aC,ak.mono hm aC⟩
 |loop=>obtain⟨e,h1,h2⟩:=h;exact⟨e,h1,h2.mono hm aC⟩
 |dead=>trivial
def VD(μ:Ren)(φ:dk)(ha:aP)(b:Nat)(blk:cq):Prop:=
 (μ b (ver blk)=I none/\∃sz t md,blk=.log [] sz t md)\/∃l blk',μ b (ver blk)=I (I l)/\ha[l.blk]?=I blk'/\e9 μ φ l.K blk blk'
structure cT(μ:Ren)(φ:dk)(aj:U)(ha:aP):Prop where
 cc:∀b k o,μ b k=I o->b<aj.length/\∀l,o=I l->l.blk<ha.length
 rel:∀b blk,aj[b]?=I blk->blk≠.dead->VD μ φ ha b blk
 inj:∀b bf blk blk' l cB,aj[b]?=I blk->blk≠.dead->aj[bf]?=I blk'->blk'≠.dead->μ b (ver blk)=I (I l)->μ bf (ver blk')=I (I cB)->l.blk=cB.blk->b=bf
 sep:∀b blk l,aj[b]?=I blk->nR blk->μ b (ver blk)=I (I l)->φ l.blk=none
 bz:∀a blk,φ a=I blk->ha[a]?=I blk
 top:∀b blk k o,aj[b]?=I blk->blk≠.dead->μ b k=I o->k<=ver blk
structure Ext(μ:Ren)(φ:dk)(aj:U)(ha:aP)(aV:Ren)(bD:dk)(ck:U)(cf:aP):Prop where
 le:aj.length<=ck.length
 qd:ha.length<=cf.length
 hp:ef μ aV
 hM:gi φ bD
 frame:∀a,a<ha.length->(∀b blk l,aj[b]?=I blk->kL blk->μ b (ver blk)=I (I l)->l.blk≠a)->cf[a]?=ha[a]?
 vn:∀b blk' cB,ck[b]?=I blk'->kL blk'->aV b (ver blk')=I (I cB)->ha.length<=cB.blk\/∃cd blk l,aj[cd]?=I blk/\kL blk/\μ cd (ver blk)=I (I l)/\l.blk=cB.blk
theorem Ext.refl(μ:Ren)(φ:dk)(aj:U)(ha:aP):Ext μ φ aj ha μ φ aj ha:=
 ⟨ca _,ca _,ef.refl _,gi.refl _,λ_ _ _=>rfl,λb blk l h1 h2 ak=>.inr ⟨b,blk,l,h1,h2,ak,rfl⟩⟩
theorem Ext.trans{μ1 i j:Ren}{nS m_ k:dk}{m n o:U}{p q a3:aP}(x:Ext μ1 nS m p i m_ n q)(y:Ext i m_ n q j k o a3):Ext μ1 nS m p j k o a3 where
 le:=lH x.le y.le
 qd:=lH x.qd y.qd
 hp:=x.hp.trans y.hp
 hM:=x.hM.trans y.hM
 frame a h aA:=by
  rw[y.frame a (hF h x.qd) ?_,x.frame a h aA]
  intro b blk l h1 h2 ak e
  rcases x.vn b blk l h1 h2 ak with aH|⟨cd,c,eY,bH,b1,c8,g⟩
  ·omega
  ·exact aA cd c eY bH b1 c8 (g.trans e)
 vn b blk l h1 h2 ak:=by
  rcases y.vn b blk l h1 h2 ak with aH|⟨cd,c,eY,bH,b1,c8,g⟩
  ·exact .inl (lH x.qd aH)
  ·rcases x.vn cd c eY bH b1 c8 with aH|⟨cO,blk1,t,u,w,z,A⟩
   ·exact .inl (by omega)
   ·exact .inr ⟨cO,blk1,t,u,w,z,A.trans g⟩
theorem cT.step{μ aV:Ren}{φ bD:dk}{aj ck:U}{ha cf:aP}(s:cT μ φ aj ha)(cd:Nat)(blk1:cq)(e_:aj.length<=ck.length)(w:ha.length<=cf.length)(hm:ef μ aV)(aC:gi φ bD)
 (j:ck[cd]?=I blk1) (i:∀b,b≠cd->ck[b]?=aj[b]?) (c:∀b k,b≠cd->aV b k=μ b k) (x:∀k l,aV cd k=I (I l)->l.blk<cf.length)
 (y:∀b blk l,b≠cd->aj[b]?=I blk->blk≠.dead->μ b (ver blk)=I (I l)->cf[l.blk]?=ha[l.blk]?)
 (lS:∀a blk,bD a=I blk->cf[a]?=I blk)
 (z:∀b blk l,b≠cd->nR blk->aj[b]?=I blk->μ b (ver blk)=I (I l)->bD l.blk=none)
 (A:∀k o,blk1≠.dead->aV cd k=I o->k<=ver blk1)
 (h1:blk1≠.dead->(aV cd (ver blk1)=I none/\∃sz t md,blk1=.log [] sz t md)\/∃l blk',aV cd (ver blk1)=I (I l)/\cf[l.blk]?=I blk'/\e9 aV bD l.K blk1 blk'/\(nR blk1->bD l.blk=none)/\
   ∀b blk q,b≠cd->aj[b]?=I blk->blk≠.dead->μ b (ver blk)=I (I q)->q.blk≠l.blk):cT aV bD ck cf where
 cc b k o h:=by
  by_cases ae:b=cd
  ·subst ae
   exact⟨(List.getElem?_eq_some_iff.1 j).1,λl e=>x k l (e▸h)⟩
  ·rw[c b k ae]at h
   obtain⟨bH,b1⟩:=s.cc b k o h
   exact⟨hF bH e_,λl e=>hF (b1 l e) w⟩
 rel b blk h hd:=by
  by_cases ae:b=cd
  ·subst ae
   rw[j]at h
   cases h
   rcases h1 hd with h2|⟨l,blk',bH,b1,c8,_⟩
   ·exact .inl h2
   ·exact .inr ⟨l,blk',bH,b1,c8⟩
  ·rw[i b ae]at h
   rcases s.rel b blk h hd with⟨bH,b1⟩|⟨l,blk',bH,b1,c8⟩
   ·exact .inl ⟨by rw[c b _ ae];exact bH,b1⟩
   ·exact .inr ⟨l,blk',by rw[c b _ ae];exact bH,by rw[y b blk l ae h hd bH];exact b1,c8.mono hm aC⟩
 inj b bf blk blk' l cB h hd h' m e e' fj:=by
  by_cases ae:b=cd
  ·by_cases g:bf=cd
   ·rw[ae,g]
   ·subst ae
    rw[j]at h
    cases h
    rw[i bf g]at h'
    rw[c bf _ g]at e'
    rcases h1 hd with⟨bH,_⟩|⟨u,_,bH,_,_,_,n⟩
    ·rw[bH]at e;cases e
    ·rw[bH]at e
     cases e
     exact absurd fj.symm (n bf blk' cB g h' m e')
  ·by_cases g:bf=cd
   ·subst g
    rw[j]at h'
    cases h'
    rw[i b ae]at h
    rw[c b _ ae]at e
    rcases h1 m with⟨bH,_⟩|⟨u,_,bH,_,_,_,n⟩
    ·rw[bH]at e';cases e'
    ·rw[bH]at e'
     cases e'
     exact absurd fj (n b blk l ae h hd e)
   ·rw[i b ae]at h
    rw[i bf g]at h'
    rw[c b _ ae]at e
    rw[c bf _ g]at e'
    exact s.inj b bf blk blk' l cB h hd h' m e e' fj
 sep b blk l h p e:=by
  by_cases ae:b=cd
  ·subst ae
   rw[j]at h
   cases h
   rcases h1 (by rintro rfl;exact p)with⟨bH,_⟩|⟨u,_,bH,_,_,B,_⟩
   ·rw[bH]at e;cases e
   ·rw[bH]at e
    cases e
    exact B p
  ·rw[i b ae]at h
   rw[c b _ ae]at e
   exact z b blk l ae p h e
 bz:=lS
 top b blk k o h hd e:=by
  by_cases ae:b=cd
  ·subst ae
   rw[j]at h
   cases h
   exact A k o hd e
  ·rw[i b ae]at h
   rw[c b _ ae]at e
   exact s.top b blk k o h hd e
theorem Ext.step{μ aV:Ren}{φ bD:dk}{aj ck:U}{ha cf:aP}(cd:Nat)(blk1:cq)(e_:aj.length<=ck.length)(c:ha.length<=cf.length)(hm:ef μ aV)(aC:gi φ bD)
 (e:ck[cd]?=I blk1) (g:∀b,b≠cd->ck[b]?=aj[b]?) (h:∀b k,b≠cd->aV b k=μ b k)
 (i:∀a,a<ha.length->(∀blk l,aj[cd]?=I blk->kL blk->μ cd (ver blk)=I (I l)->l.blk≠a)->cf[a]?=ha[a]?)
 (b0:∀cB,kL blk1->aV cd (ver blk1)=I (I cB)->ha.length<=cB.blk\/∃blk l,aj[cd]?=I blk/\kL blk/\μ cd (ver blk)=I (I l)/\l.blk=cB.blk):Ext μ φ aj ha aV bD ck cf:=
 ⟨e_,c,hm,aC,λa h1 h2=>i a h1 λblk l bH b1 c8=>h2 cd blk l bH b1 c8,λb blk l h1 h2 ak=>by
  by_cases ae:b=cd
  ·subst ae
   rw[e]at h1
   cases h1
   rcases b0 l h2 ak with aH|⟨blk,eY,q⟩
   ·exact .inl aH
   ·exact .inr ⟨b,blk,eY,q⟩
  ·rw[g b ae]at h1
   rw[h b _ ae]at ak
   exact .inr ⟨b,blk,l,h1,h2,ak,rfl⟩⟩
def put(μ:Ren)(b k:Nat)(o:Option bB.Loc):Ren:=λbf b4=>if bf=b/\b4=k then I o else μ bf b4
theorem jc(μ:Ren)(b k:Nat)(o:Option bB.Loc):put μ b k o b k=I o:=aQ ⟨rfl,rfl⟩
theorem r_{μ:Ren}{b k:Nat}{o:Option bB.Loc}{bf b4:Nat}(h:bf≠b):put μ b k o bf b4=μ bf b4:=a1 λq=>h q.1
theorem x3{μ:Ren}{b k:Nat}{o:Option bB.Loc}(h:∀o',μ b k=I o'->o'=o):ef μ (put μ b k o):=λbf b4 l e=>by
 unfold put
 split
 ·rename_i q
  obtain⟨rfl,rfl⟩:=q
  rw[h _ e]
 ·exact e
theorem cT.fresh{μ:Ren}{φ:dk}{aj:U}{ha:aP}(s:cT μ φ aj ha)(k:Nat):μ aj.length k=none:=by
 cases h:μ aj.length k with
 |none=>rfl
 |some o=>exact absurd (s.cc _ _ _ h).1 (by omega)
theorem qe{μ:Ren}{φ:dk}{aj:U}{ha:aP}(s:cT μ φ aj ha)(k:Nat)(o:Option bB.Loc):ef μ (put μ aj.length k o):=x3 λo' e=>by rw[s.fresh]at e;cases e
theorem Av{α:Type}{l:List α}{x:α}{b:Nat}(h:b≠l.length):(l++[x])[b]?=l[b]?:=by
 by_cases ae:b<l.length
 ·rw[cG ae]
 ·rw[e2 (by simp;omega),e2 (by omega)]
theorem m'{α:Type}{l:List α}{i:Nat}{x:α}(h:l[i]?=I x):i<l.length:=(List.getElem?_eq_some_iff.1 h).1
theorem cT.push{μ:Ren}{φ:dk}{aj:U}{ha:aP}(s:cT μ φ aj ha)(blk:cq)(blk':h9)(K:Nat)(ae:e9 (put μ aj.length (ver blk) (I ⟨ha.length,K⟩)) φ K blk blk'):
 cT (put μ aj.length (ver blk) (I ⟨ha.length,K⟩)) φ (aj++[blk]) (ha++[blk'])/\Ext μ φ aj ha (put μ aj.length (ver blk) (I ⟨ha.length,K⟩)) φ (aj++[blk]) (ha++[blk']):=by
 have hm:=qe s (ver blk) (I ⟨ha.length,K⟩)
 have c:∀a blk,φ a=I blk->a<ha.length:=λa blk e=>m' (s.bz a blk e)
 constructor
 ·refine s.step aj.length blk (by simp) (by simp) hm (gi.refl _) (by simp) (λb ae=>Av ae) (λb k ae=>r_ ae) (λk l e=>?_) (λb blk l ae h1 h2 ak=>?_) (λa blk e=>?_) (λb blk l ae h1 h2 ak=>s.sep b blk l h2 h1 ak) (λk o _ e=>?_) (λ_=>.inr ⟨_,_,jc _ _ _ _,by simp,ae,λ_=>?_,λb blk l ae h1 h2 ak=>?_⟩)
  ·unfold put at e
   split at e
   ·cases e;simp
   ·rw[s.fresh]at e;cases e
  ·rw[cG ((s.cc _ _ _ ak).2 l rfl)]
  ·rw[cG (c a blk e)];exact s.bz a blk e
  ·unfold put at e
   split at e
   ·rename_i q;omega
   ·rw[s.fresh]at e;cases e
  ·cases h:φ ha.length with
   |none=>rfl
   |some x=>exact absurd (c _ _ h) (by omega)
  ·have:=(s.cc _ _ _ ak).2 l rfl
   simp only
   omega
 ·refine Ext.step aj.length blk (by simp) (by simp) hm (gi.refl _) (by simp) (λb ae=>Av ae) (λb k ae=>r_ ae) (λa h1 _=>cG h1) (λl h1 h2=>.inl ?_)
  rw[jc]at h2
  cases h2
  exact ca _
theorem cT.ghost{μ:Ren}{φ:dk}{aj:U}{ha:aP}(s:cT μ φ aj ha)(sz:Nat)(t:aX)(md:eg):
 cT (put μ aj.length 0 none) φ (aj++[.log [] sz t md]) ha/\Ext μ φ aj ha (put μ aj.length 0 none) φ (aj++[.log [] sz t md]) ha:=by
 have hm:=qe s 0 none
 constructor
 ·refine s.step aj.length (.log [] sz t md) (by simp) (ca _) hm (gi.refl _) (by simp) (λb ae=>Av ae) (λb k ae=>r_ ae) (λk l e=>?_) (λb blk l ae h1 h2 ak=>rfl) s.bz (λb blk l ae h1 h2 ak=>s.sep b blk l h2 h1 ak) (λk o _ e=>?_) (λ_=>.inl ⟨jc _ _ _ _,_,_,_,rfl⟩)
  ·unfold put at e
   split at e
   ·cases e
   ·rw[s.fresh]at e;cases e
  ·unfold put at e
   split at e
   ·rename_i q;omega
   ·rw[s.fresh]at e;cases e
 ·refine Ext.step aj.length (.log [] sz t md) (by simp) (ca _) hm (gi.refl _) (by simp) (λb ae=>Av ae) (λb k ae=>r_ ae) (λa h1 _=>rfl) (λl h1 h2=>?_)
  have:put μ aj.length 0 none aj.length 0=I (I l):=h2
  rw[jc]at this
  cases this
theorem lT{α:Type}{l:List α}{x:α}{b bf:Nat}(h:bf≠b):(l.set b x)[bf]?=l[bf]?:=by rw[List.getElem?_set_ne (λe=>h e.symm)]
theorem qf{α:Type}{l:List α}{x:α}{b:Nat}(h:b<l.length):(l.set b x)[b]?=I x:=by rw[List.getElem?_set_self h]
theorem cT.write{μ:Ren}{φ:dk}{aj:U}{ha:aP}(s:cT μ φ aj ha){b:Nat}{blk blk1:cq}{l:bB.Loc}{blk':h9}(ae:aj[b]?=I blk)(b0:kL blk)(e:μ b (ver blk)=I (I l))
 (ad:∀o,μ b (ver blk1)=I o->o=I l) (m:ver blk<=ver blk1) (n:e9 (put μ b (ver blk1) (I l)) φ l.K blk1 blk'):
 cT (put μ b (ver blk1) (I l)) φ (aj.set b blk1) (ha.set l.blk blk')/\Ext μ φ aj ha (put μ b (ver blk1) (I l)) φ (aj.set b blk1) (ha.set l.blk blk'):=by
 have hm:ef μ (put μ b (ver blk1) (I l)):=x3 ad
 have c:=m' ae
 have g:=(s.cc _ _ _ e).2 l rfl
 have i:=s.sep b blk l ae b0.own e
 have j:∀bf blk' cB,bf≠b->aj[bf]?=I blk'->blk'≠.dead->μ bf (ver blk')=I (I cB)->cB.blk≠l.blk:=λbf blk' cB h1 h2 ak aH aM=>h1 (s.inj bf b blk' blk cB l h2 ak ae b0.live aH e aM)
 constructor
 ·refine s.step b blk1 (by simp) (by simp) hm (gi.refl _) (qf c) (λbf h=>lT h) (λbf k h=>r_ h) (λk cB h=>?_) (λbf blk' cB h1 h2 ak aH=>lT (j bf blk' cB h1 h2 ak aH)) (λa x h=>?_) (λbf blk cB p h1 h2 ak=>s.sep bf blk cB h2 h1 ak) (λk o _ h=>?_)
   (λ_=>.inr ⟨l,blk',jc _ _ _ _,qf g,n,λ_=>i,j⟩)
  ·rw[ir]
   unfold put at h
   split at h
   ·cases h;exact g
   ·exact(s.cc _ _ _ h).2 cB rfl
  ·rw[lT (by rintro rfl;rw[i]at h;cases h)]
   exact s.bz a x h
  ·unfold put at h
   split at h
   ·rename_i q;omega
   ·exact lH (s.top _ _ _ _ ae b0.live h) m
 ·refine Ext.step b blk1 (by simp) (by simp) hm (gi.refl _) (qf c) (λbf h=>lT h) (λbf k h=>r_ h) (λa h1 h2=>lT λh=>h2 blk l ae b0 e h.symm) (λcB h1 h2=>.inr ⟨blk,l,ae,b0,e,?_⟩)
  rw[jc]at h2
  cases h2
  rfl
theorem VE{μ:Ren}{b k:Nat}{o:Option bB.Loc}(h:μ b k=I o):put μ b k o=μ:=by
 funext bf b4
 unfold put
 split
 ·rename_i q
  rw[q.1,q.2,h]
 ·rfl
theorem cT.r'{μ:Ren}{φ:dk}{aj:U}{ha:aP}(s:cT μ φ aj ha){b:Nat}{blk blk1:cq}{l:bB.Loc}{blk':h9}(ae:aj[b]?=I blk)(b0:kL blk)(e:μ b (ver blk)=I (I l))
 (aw:ver blk1=ver blk) (c:e9 μ φ l.K blk1 blk'):cT μ φ (aj.set b blk1) (ha.set l.blk blk')/\Ext μ φ aj ha μ φ (aj.set b blk1) (ha.set l.blk blk'):=by
 have ck:put μ b (ver blk1) (I l)=μ:=VE (by rw[aw];exact e)
 have:=s.write (blk1:=blk1) (blk':=blk') ae b0 e (λo h=>by rw[aw,e]at h;cases h;rfl) (by omega) (by rw[ck];exact c)
 rw[ck]at this
 exact this
theorem cT.grow{μ:Ren}{φ:dk}{aj:U}{ha c:aP}(s:cT μ φ aj ha){b:Nat}{blk blk1:cq}{K:Nat}{blk':h9}(ae:aj[b]?=I blk)(b0:kL blk)(ad:ver blk<ver blk1)
 (br:c.length=ha.length) (t:∀a,(∀l,μ b (ver blk)=I (I l)->l.blk≠a)->c[a]?=ha[a]?) (u:e9 (put μ b (ver blk1) (I ⟨ha.length,K⟩)) φ K blk1 blk'):
 cT (put μ b (ver blk1) (I ⟨ha.length,K⟩)) φ (aj.set b blk1) (c++[blk'])/\Ext μ φ aj ha (put μ b (ver blk1) (I ⟨ha.length,K⟩)) φ (aj.set b blk1) (c++[blk']):=by
 have hm:ef μ (put μ b (ver blk1) (I ⟨ha.length,K⟩)):=x3 λo h=>by have:=s.top _ _ _ _ ae b0.live h;omega
 have j:=m' ae
 have m:∀a blk,φ a=I blk->a<ha.length:=λa blk e=>m' (s.bz a blk e)
 have i:∀a,a<ha.length->(∀l,μ b (ver blk)=I (I l)->l.blk≠a)->(c++[blk'])[a]?=ha[a]?:=λa h1 h2=>by rw[cG (by omega)];exact t a h2
 constructor
 ·refine s.step b blk1 (by simp) (by simp [br]) hm (gi.refl _) (qf j) (λbf h=>lT h) (λbf k h=>r_ h) (λk cB h=>?_) (λn p g h1 h2 ak aH=>?_) (λa x h=>?_) (λbf blk cB w h1 h2 ak=>s.sep bf blk cB h2 h1 ak) (λk o _ h=>?_)
   (λ_=>.inr ⟨_,blk',jc _ _ _ _,by simp only;rw[←br];simp,u,λ_=>?_,λn p g h1 h2 ak aH=>?_⟩)
  ·unfold put at h
   split at h
   ·cases h;simp [br]
   ·have:=(s.cc _ _ _ h).2 cB rfl;simp;omega
  ·exact i _ ((s.cc _ _ _ aH).2 g rfl) λl e he=>h1 (s.inj n b p blk g l h2 ak ae b0.live aH e he.symm)
  ·rw[i a (m a x h) λl e he=>?_]
   ·exact s.bz a x h
   ·have:=s.sep b blk l ae b0.own e
    rw[he,h]at this
    cases this
  ·unfold put at h
   split at h
   ·rename_i q;omega
   ·have:=s.top _ _ _ _ ae b0.live h;omega
  ·cases h:φ ha.length with
   |none=>rfl
   |some x=>exact absurd (m _ _ h) (by omega)
  ·have:=(s.cc _ _ _ aH).2 g rfl
   simp only
   omega
 ·refine Ext.step b blk1 (by simp) (by simp [br]) hm (gi.refl _) (qf j) (λbf h=>lT h) (λbf k h=>r_ h) (λa h1 h2=>i a h1 λl e=>h2 blk l ae b0 e) (λcB h1 h2=>.inl ?_)
  rw[jc]at h2
  cases h2
  exact ca _
theorem cT.freeze{μ:Ren}{φ:dk}{aj:U}{ha:aP}(s:cT μ φ aj ha){b:Nat}{blk blk1:cq}{l:bB.Loc}{blk':h9}(ae:aj[b]?=I blk)(b0:kL blk)(e:μ b (ver blk)=I (I l))(cf:ha[l.blk]?=I blk')
 (aw:ver blk1=ver blk) (n:¬nR blk1) (hd:blk1≠.dead) (u:∀bD,gi φ bD->e9 μ bD l.K blk1 blk'):∃bD,bD l.blk=I blk'/\cT μ bD (aj.set b blk1) ha/\Ext μ φ aj ha μ bD (aj.set b blk1) ha:=by
 have p:=m' ae
 have w:=s.sep b blk l ae b0.own e
 obtain⟨bD,q⟩:∃bD:dk,bD=λa=>if a=l.blk then I blk' else φ a:=⟨_,rfl⟩
 have t:bD l.blk=I blk':=by rw[q];exact aQ rfl
 have m:∀a,a≠l.blk->bD a=φ a:=λa h=>by rw[q];exact a1 h
 have aC:gi φ bD:=λa x h=>by
  by_cases c:a=l.blk
  ·subst c;rw[w]at h;cases h
  ·rw[m a c];exact h
 refine⟨bD,t,?_,?_⟩
 ·refine s.step b blk1 (by simp) (ca _) (ef.refl _) aC (qf p) (λbf h=>lT h) (λbf k h=>rfl) (λk cB h=>(s.cc _ _ _ h).2 cB rfl) (λ_ _ _ _ _ _ _=>rfl) (λa x h=>?_) (λg i j h1 h2 ak aH=>?_)
   (λk o _ h=>by rw[aw];exact s.top _ _ _ _ ae b0.live h)
   (λ_=>.inr ⟨l,blk',by rw[aw];exact e,cf,u bD aC,λh=>absurd h n,λg i j h1 h2 ak aH aM=>h1 (s.inj g b i blk j l h2 ak ae b0.live aH e aM)⟩)
  ·by_cases c:a=l.blk
   ·subst c;rw[t]at h;cases h;exact cf
   ·rw[m a c]at h;exact s.bz a x h
  ·rw[m _ λaM=>h1 (s.inj g b i blk j l ak (by rintro rfl;exact h2) ae b0.live aH e aM)]
   exact s.sep g i j ak h2 aH
 ·exact Ext.step b blk1 (by simp) (ca _) (ef.refl _) aC (qf p) (λbf h=>lT h) (λbf k h=>rfl) (λ_ _ _=>rfl) (λcB h1 h2=>absurd h1.own n)
variable {μ : Ren} {φ : dk}
theorem bn.gg(v:Value):bn μ φ (aN.gg v) v:=by
 unfold aN.gg
 split<;>constructor
theorem bL.gg(l:List Value):bL μ φ (l.map aN.gg) l:=by
 induction l with
 |nil=>exact .nil
 |cons v l b=>exact .cons (bn.gg v) b
theorem bn.tm(v:Value):bn μ φ (aN.tm v) v:=by
 unfold aN.tm
 split
 ·rename_i cs
  have:=bn.agg (bL.gg (μ:=μ) (φ:=φ) cs.toList)
  simpa using this
 ·exact .iface _ (bn.gg _)
 ·exact bn.gg _
theorem bn.undef:bn μ φ iI undef:=.tuple .nil
theorem bn.cells{v:J}{y:Value}(h:bn μ φ v y)(aA:(b' v).length≠0):bL μ φ (b' v) (kA y):=by
 cases h with
 |dI=>exact absurd rfl aA
 |agg h=>simpa [b',kA]using h
 |_=>exact .cons (by constructor<;>assumption) .nil
theorem bn.kB{v:J}{y:Value}(h:bn μ φ v y)(b:dd v=true):bB.kB y=true:=by
 cases h<;>first|rfl|(simp [dd]at b)
theorem bL.kB{vs:List J}{ys:List Value}(h:bL μ φ vs ys)(b:vs.all dd=true):ys.all bB.kB=true:=by
 induction vs generalizing ys with
 |nil=>cases h;rfl
 |cons v vs c=>
  cases h with
  |cons h az=>
   simp only[ny,dx]at b|-
   exact⟨h.kB b.1,c az b.2⟩
theorem VF(op:BinOp)(k b4:IntKind)(a b:Int):ar op (.int k a) (.int b4 b)=(rT op (.int k a) (.int b4 b)).map gg:=by
 unfold ar rT
 cases op<;>simp only[]<;>(repeat' split)<;>rfl
theorem VG(op:BinOp)(a b:ByteArray):ar op (.str a) (.str b)=(rT op (.string a) (.string b)).map gg:=by
 unfold ar rT
 cases op<;>simp only[]<;>(repeat' split)<;>rfl
theorem VH{op:BinOp}{x y v:J}{b c0:Value}(af:bn μ φ x b)(ba:bn μ φ y c0)(h:ar op x y=I v):∃v',rT op b c0=I v'/\bn μ φ v v':=by
 have au:=h
 unfold ar at au
 split at au
 ·clear au
  cases af
  cases ba
  rw[VF,de]at h
  obtain⟨v',h1,rfl⟩:=h
  exact⟨v',h1,bn.gg v'⟩
 ·clear au
  cases af
  cases ba
  rw[VG,de]at h
  obtain⟨v',h1,rfl⟩:=h
  exact⟨v',h1,bn.gg v'⟩
 ·cases au
theorem VI{neg:Bool}{x y v:J}{b c0:Value}(af:bn μ φ x b)(ba:bn μ φ y c0)(h:nO neg x y=I v):∃v',zA neg b c0=I v'/\bn μ φ v v':=by
 unfold nO at h
 split at h
 ·cases af;cases ba;cases h;exact⟨_,rfl,.bool _⟩
 ·cases h
theorem VJ{k:p2}{neg:Bool}{x v:J}{b:Value}(af:bn μ φ x b)(h:G0 k neg x=I v):∃v',s7 k neg b=I v'/\bn μ φ v v':=by
 unfold G0 at h
 split at h<;>first|(cases h;cases af<;>exact⟨_,rfl,.bool _⟩)|cases h
theorem VK{k:p2}{neg:Bool}{x:J}{c:Value}(af:bn μ φ x c)(h:G1 k x=true):∃b,s7 k neg c=I (.bool b):=by
 unfold G1 at h
 split at h
 ·cases af<;>exact⟨_,rfl⟩
 ·cases af with|emp a=>cases a<;>exact⟨_,rfl⟩
 ·cases af with
  |jz _ a=>cases a<;>exact⟨_,rfl⟩
  |ref=>exact⟨_,rfl⟩
 ·cases h
theorem VL:∀{c3:List e4} {xs ys:List J} {eX eM:List Value} {r:Bool},bL μ φ xs eX->bL μ φ ys eM->jY c3 xs ys=I r->hc c3 eX eM=I r:=by
 intro c3
 induction c3 with
 |nil=>
  intro xs ys eX eM r af ba h
  cases af with
  |nil=>cases ba with
   |nil=>exact h
   |cons ak aH=>simp [jY]at h
  |cons h1 h2=>simp [jY]at h
 |cons k c3 b=>
  intro xs ys eX eM r af ba h
  cases af with
  |nil=>cases k<;>simp [jY]at h
  |cons h1 h2=>
   cases ba with
   |nil=>cases k<;>(cases h1<;>simp [jY]at h)
   |cons ak aH=>
    cases k with
    |int=>
     cases h1<;>first|(simp [jY]at h;done)|skip
     cases ak<;>first|(simp [jY]at h;done)|skip
     simp only[jY]at h
     split at h
     ·rename_i ad
      rw[de]at h
      obtain⟨q,bs,rfl⟩:=h
      simp only[hc,aQ ad,b h2 aH bs,dm]
     ·cases h
    |bool=>
     cases h1<;>first|(simp [jY]at h;done)|skip
     cases ak<;>first|(simp [jY]at h;done)|skip
     simp only[jY,de]at h
     obtain⟨q,bs,rfl⟩:=h
     simp only[hc,b h2 aH bs,dm]
    |str=>
     cases h1<;>first|(simp [jY]at h;done)|skip
     cases ak<;>first|(simp [jY]at h;done)|skip
     simp only[jY,de]at h
     obtain⟨q,bs,rfl⟩:=h
     simp only[hc,b h2 aH bs,dm]
theorem VM{c3:List e4}{neg:Bool}{x y v:J}{b c0:Value}(af:bn μ φ x b)(ba:bn μ φ y c0)(h:lu c3 neg x y=I v):∃v',w' c3 neg b c0=I v'/\bn μ φ v v':=by
 unfold lu at h
 split at h
 ·rw[de]at h
  obtain⟨r,an,rfl⟩:=h
  cases af with|agg af=>cases ba with|agg ba=>
   refine⟨_,?_,.bool _⟩
   simp only[w',VL af ba an,dm]
 ·cases h
theorem VN{op:UnOp}{x v:J}{b:Value}(af:bn μ φ x b)(h:di op x=I v):∃v',zB op b=I v'/\bn μ φ v v':=by
 unfold di at h
 split at h<;>first|(cases h;cases af;exact⟨_,rfl,by constructor⟩)|cases h
theorem VO{x v:J}{b:Value}(af:bn μ φ x b)(h:G2 x=I v):∃v',zC b=I v'/\bn μ φ v v':=by
 unfold G2 at h
 split at h<;>first|(cases h;cases af;exact⟨_,rfl,by constructor⟩)|cases h
theorem VP{k:IntKind}{x v:J}{b:Value}(af:bn μ φ x b)(h:ml k x=I v):∃v',zD k b=I v'/\bn μ φ v v':=by
 unfold ml at h
 split at h<;>first|(cases h;cases af;exact⟨_,rfl,by constructor⟩)|cases h
theorem VQ{str:Bool}{x v:J}{b:Value}(af:bn μ φ x b)(h:bw str x=I v):∃v',xa str b=I v'/\bn μ φ v v':=by
 unfold bw at h
 split at h
 ·cases h;cases af;exact⟨_,rfl,.int _ _⟩
 ·cases h;cases af;exact⟨_,rfl,.int _ _⟩
 ·cases h;cases af;exact⟨_,rfl,.int _ _⟩
 ·cases h
  cases af with
  |m9=>exact⟨_,rfl,.int _ _⟩
  |lR=>exact⟨_,rfl,.int _ _⟩
  |bz aA=>subst aA;exact⟨_,rfl,.int _ _⟩
 ·cases h
  cases af with
  |jz=>exact⟨_,rfl,.int _ _⟩
  |ref=>exact⟨_,rfl,.int _ _⟩
 ·cases h
theorem VR{c x y v:J}{e g c0:Value}(aa:bn μ φ c e)(af:bn μ φ x g)(ba:bn μ φ y c0)(h:G3 c x y=I v):∃v',uD e g c0=I v'/\bn μ φ v v':=by
 unfold G3 at h
 split at h
 ·rename_i b
  cases h
  cases aa
  refine⟨_,rfl,?_⟩
  cases b
  ·exact ba
  ·exact af
 ·cases h
theorem VS{x v:J}{i:Nat}{b:Value}(af:bn μ φ x b)(h:ea x i=I v):∃v',xb b i=I v'/\bn μ φ v v':=by
 unfold ea at h
 split at h
 ·cases af with|tuple af=>
   obtain⟨y,h1,h2⟩:=af.get h
   exact⟨y,by simpa [xb]using h1,h2⟩
 ·cases h
theorem LO{agg:Bool}{off size:Nat}{cs:List J}{v:J}{b:List Value}(af:bL μ φ cs b)(h:eT agg off size cs=I v):∃v',uE agg off size b=I v'/\bn μ φ v v':=by
 unfold eT at h
 cases agg with
 |true=>
  simp only at h
  split at h
  ·rename_i e_
   cases h
   rw[af.length]at e_
   exact⟨_,by unfold uE;simp only;rw[aQ e_],.agg ((af.drop _).take _)⟩
  ·cases h
 |false=>
  obtain⟨y,h1,h2⟩:=af.get h
  exact⟨y,h1,h2⟩
theorem VT{agg:Bool}{off size:Nat}{x v:J}{b:Value}(af:bn μ φ x b)(h:vi agg off size x=I v):∃v',zE agg off size b=I v'/\bn μ φ v v':=by
 unfold vi at h
 split at h
 ·cases af with|agg af=>exact LO af h
 ·cases h
theorem VU{n:Nat}{agg:Bool}{size:Nat}{x i v:J}{b c:Value}(af:bn μ φ x b)(ag:bn μ φ i c)(h:q_ n agg size x i=I v):∃v',xc n agg size b c=I v'/\bn μ φ v v':=by
 unfold q_ at h
 split at h
 ·cases af with|agg af=>
   cases ag
   split at h
   ·rename_i e
    simp only[xc]
    rw[aQ e]
    exact LO af h
   ·cases h
 ·cases h
theorem VV{x i v:J}{c e:Value}(af:bn μ φ x c)(ag:bn μ φ i e)(h:mm x i=I v):∃v',xd c e=I v'/\bn μ φ v v':=by
 unfold mm at h
 split at h
 ·cases af;cases ag
  split at h
  ·rename_i g
   rw[de]at h
   obtain⟨b,h1,rfl⟩:=h
   refine⟨_,?_,.int _ _⟩
   simp only[xd]
   rw[aQ g,h1]
   rfl
  ·cases h
 ·cases h
theorem LP{off:Nat}{x v:J}{b:Value}(af:bn μ φ x b)(h:aq off x=I v):∃v',uF off b=I v'/\bn μ φ v v':=by
 unfold aq at h
 split at h
 ·cases h;cases af with|ptr h1=>exact⟨_,rfl,.ptr h1⟩
 ·cases h;cases af with|e6 h1 h2 ak aH=>exact⟨_,rfl,by rw[Nat.add_assoc];exact .e6 h1 h2 ak aH⟩
 ·cases h;cases af with|gB h1=>exact⟨_,rfl,by rw[Nat.add_assoc];exact .gB h1⟩
 ·cases h
theorem lU{α:Type}{rows:List (List α)}{size:Nat}(az:∀r∈rows,r.length=size):rows.flatten.length=rows.length*size:=by
 induction rows with
 |nil=>simp
 |cons r rows b=>simp [az r (by simp),b λq bs=>az q (by simp [bs]),h8,Nat.add_comm]
theorem VW{α:Type}{rows:List (List α)}{size:Nat}(az:∀r∈rows,r.length=size){i:Nat}{r:List α}(ag:rows[i]?=I r):(rows.flatten.drop (i*size)).take size=r:=by
 induction rows generalizing i with
 |nil=>cases ag
 |cons q rows b=>
  cases i with
  |zero=>
   have e:q=r:=by simpa using ag
   subst e
   have:=az q (by simp)
   rw[mK,o4,lK,←this,uv]
  |succ i=>
   have bs:=az q (by simp)
   rw[lK,show(i+1)*size=q.length+i*size by rw[h8];omega,List.drop_length_add_append]
   exact b (λq bs=>az q (by simp [bs])) ag
theorem vo{α:Type}{rows:List (List α)}{size:Nat}(az:∀r∈rows,r.length=size)(k:Nat):(rows.take k).flatten=rows.flatten.take (k*size):=by
 induction rows generalizing k with
 |nil=>simp
 |cons r rows b=>
  cases k with
  |zero=>simp
  |succ k=>
   have an:=az r (by simp)
   rw[List.take_succ_cons,lK,lK,b (λq bs=>az q (by simp [bs])),List.take_append,show(k+1)*size-r.length=k*size by rw[h8];omega,um (l:=r) (by rw[h8];omega)]
theorem Aw{α:Type}{rows:List (List α)}{size:Nat}(az:∀r∈rows,r.length=size)(k:Nat):(rows.drop k).flatten=rows.flatten.drop (k*size):=by
 induction rows generalizing k with
 |nil=>simp
 |cons r rows b=>
  cases k with
  |zero=>simp
  |succ k=>
   have an:=az r (by simp)
   rw[List.drop_succ_cons,lK,b (λq bs=>az q (by simp [bs])),List.drop_append,show(k+1)*size-r.length=k*size by rw[h8];omega,F4 (l:=r) (by rw[h8];omega),hy]
theorem Ax{n size i:Nat}(ag:i<n):i*size+size<=n*size:=by
 have:=o0 size (show i+1<=n by omega)
 rw[h8]at this;omega
theorem bL.row{rows:List (List J)}{sz:Nat}{vs:List Value}{o:Nat}(cY:∀r∈rows,r.length=sz)(an:bL μ φ rows.flatten ((vs.drop o).take (rows.length*sz))){i:Nat}{row:List J}(ag:rows[i]?=I row):
 bL μ φ row ((vs.drop (o+i*sz)).take sz):=by
 have:=(an.drop (i*sz)).take sz
 rw[VW cY ag,uw,qT,sY,mb (by have:=Ax (size:=sz) (m' ag);omega)]at this
 exact this
theorem VX{size:Nat}{x i v:J}{g m:Value}(af:bn μ φ x g)(ag:bn μ φ i m)(h:bW size x i=I v):∃v',qZ size g m=I v'/\bn μ φ v v':=by
 unfold bW at h
 split at h
 ·rename_i x4 rows k j
  cases ag
  split at h
  ·rename_i e
   obtain⟨e,rfl⟩:=e
   rw[de]at h
   obtain⟨row,h1,rfl⟩:=h
   have p:=m' h1
   cases af with
   |m9=>cases h1
   |lR=>cases h1
   |@bz _ sz a o n c vs t en aA aa cY lS av aj an=>
    subst aA
    have aD:=cY row (dH h1)
    have e_:=Ax (size:=x4) p
    refine⟨hS a (o+j.toNat*x4),?_,?_⟩
    ·simp only[qZ]
     rw[aQ (by omega)]
    ·have q:=bL.row cY an h1
     have:=bn.e6 (off:=0) lS (o:=o+j.toNat*x4) (row:=row) (μ:=μ) (by omega) (List.all_eq_true.2 λz bq=>List.all_eq_true.1 aj z (List.mem_flatten.2 ⟨row,dH h1,bq⟩)) (by rw[aD];exact q)
     exact this
  ·cases h
 ·rename_i b lo n ver sz k j
  cases ag
  split at h
  ·rename_i e
   obtain⟨h1,h2,ak⟩:=e
   cases h
   subst ak
   cases af with
   |jz=>omega
   |@ref _ _ _ _ _ c l hm aA aa=>
    refine⟨hS l.blk (lo*sz+j.toNat*sz),?_,?_⟩
    ·simp only[qZ]
     rw[aQ ⟨h1,h2⟩]
    ·rw[←h8]
     exact .gB (off:=0) hm
  ·cases h
 ·cases h
theorem VY(n size:Nat)(x:Value)(k:IntKind)(j:Int)(b:0<=j/\j<n):uG n size x (.int k j)=uF (j.toNat*size) x:=by
 unfold uG uF
 cases x with
 |pointer a=>
  cases a with
  |none=>rfl
  |some a=>simp only;rw[aQ b]
 |_=>rfl
theorem VZ{n size:Nat}{x i v:J}{b c:Value}(af:bn μ φ x b)(ag:bn μ φ i c)(h:G4 n size x i=I v):∃v',uG n size b c=I v'/\bn μ φ v v':=by
 unfold G4 at h
 split at h
 ·cases ag
  split at h
  ·rename_i e
   rw[VY _ _ _ _ _ e]
   exact LP af h
  ·cases h
 ·cases h
theorem V0{x v:J}{b:Value}(af:bn μ φ x b)(h:fA x=I v):∃v',F_ b=I v'/\bn μ φ v v':=by
 unfold fA at h
 split at h
 ·cases h;cases af with|ptr h1=>exact⟨_,rfl,.ptr h1⟩
 ·cases h;cases af with|e6 h1 h2 ak aH=>exact⟨_,rfl,.e6 h1 h2 ak aH⟩
 ·cases h;cases af with|gB h1=>exact⟨_,rfl,.gB h1⟩
 ·cases h;cases af with|func _ h1 h2=>exact⟨_,rfl,.func _ h1 h2⟩
 ·cases h
inductive hH(μ:Ren)(φ:dk):Option J->Option Value->Prop
 |none:hH μ φ none none
 |some {x:J} {y:Value} (h:bn μ φ x y):hH μ φ (I x) (I y)
theorem mn{d:Nat}{x:Option J}{b:Option Value}{gz n:Nat}(af:hH μ φ x b)(h:kK d x gz=I n):hT d b gz=I n:=by
 unfold kK at h
 split at h
 ·cases af;exact h
 ·cases af with|some af=>cases af;exact h
 ·cases h
theorem lV{d:Nat}{x:Option Value}{gz n:Nat}(h:hT d x gz=I n)(hd:d<=gz):n<=gz:=by
 unfold hT at h
 split at h
 ·cases h;exact hd
 ·split at h
  ·cases h;omega
  ·cases h
 ·cases h
theorem qg{d b:Nat}{x:Option Value}{m e5 n:Nat}(h:hT d x m=I n)(hm:m<=e5)(hd:x=none->b=d):hT b x e5=I n:=by
 unfold hT at h|-
 split at h
 ·cases h;rw[hd rfl]
 ·split at h
  ·cases h;rw[aQ (by omega)]
  ·cases h
 ·cases h
theorem Hd{rows:List (List J)}{sz a o:Nat}{vs:List Value}{t:aX}{en:Bool}(cY:∀r∈rows,r.length=sz)(lS:φ a=I (.cells vs t en))(av:o+rows.length*sz<=vs.length)(aj:rows.flatten.all fz=true)
 (an:bL μ φ rows.flatten ((vs.drop o).take (rows.length*sz))) {l h:Nat} (b:l<=h) (e:h<=rows.length) (g:rows.length<et) {c:Nat} (aa:h-l<=c):bn μ φ (.bz sz ((rows.take h).drop l)) (.slice (I ⟨a,o+l*sz,none⟩) (h-l) c):=by
 have br:((rows.take h).drop l).length=h-l:=by simp;omega
 have e_:l*sz+(h-l)*sz<=rows.length*sz:=by rw[←h8];exact o0 _ (by omega)
 refine .bz (sz:=sz) br.symm ⟨aa,by omega⟩ (λr an=>cY r (od (rP an))) lS (by omega) (List.all_eq_true.2 λz bq=>?_) ?_
 ·obtain⟨r,h1,h2⟩:=List.mem_flatten.1 bq
  exact List.all_eq_true.1 aj z (List.mem_flatten.2 ⟨r,od (rP h1),h2⟩)
 ·have h1:=(an.drop (l*sz)).take ((h-l)*sz)
  rw[Aw (size:=sz) (λr an=>cY r (od an)),vo cY,uw]
  rw[uw,qT,sY,mb (by omega)]at h1
  rw[show h*sz-l*sz=(h-l)*sz by rw[Nat.sub_mul]]
  exact h1
theorem none_or(x:Option Value):x=none\/∃y,x=I y:=by cases x<;>simp
theorem He{size n h l:Nat}{a:Option Addr}{lo ag:Option Value}(aE:hT n ag n=I h)(b:hT 0 lo h=I l):
 oe size (.slice a n et) lo ag none=I (.slice (a.map λa=>⟨a.block,a.off+l*size,none⟩) (h-l) et):=by
 have aD:hT n (none:Option Value) n=I n:=rfl
 simp only[oe,aZ,aD,dy,aE,b]
theorem LQ{size n m h l:Nat}{a:Option Addr}{lo ag:Option Value}{mx:Value}(aD:hT n (I mx) n=I m)(aE:hT n ag m=I h)(b:hT 0 lo h=I l)(aA:n<et):
 oe size (.slice a n et) lo ag (I mx)=I (.slice (if m=l then a else a.map λa=>⟨a.block,a.off+l*size,none⟩) (h-l) (m-l)):=by
 have c:=lV aD (ca _)
 simp only[oe,aZ,aD,dy,aE,b]
 rw[aQ (by omega)]
theorem qh{size n c m h l:Nat}{a:Option Addr}{lo ag mx:Option Value}(aa:c≠et)(aD:hT c mx c=I m)(aE:hT n ag m=I h)(b:hT 0 lo h=I l):
 oe size (.slice a n c) lo ag mx=I (.slice (if m=l then a else a.map λa=>⟨a.block,a.off+l*size,none⟩) (h-l) (m-l)):=by
 simp only[oe,a1 aa,aD,dy,aE,b]
theorem x5(sz:Nat)(a:Option Addr)(c:Nat)(h:a=none->c=0):bn μ φ (.bz sz []) (.slice a 0 c):=by
 cases a with
 |none=>rw[h rfl];exact .m9 sz
 |some a=>exact .lR sz a c
theorem V1{α:Type}{l:List α}{h b:Nat}(e:h=b):(l.take h).drop b=[]:=by subst e;rw[List.drop_eq_nil_of_le];simp;omega
theorem V2{size:Nat}{x v:J}{lo ag mx:Option J}{C:Value}{z D mx':Option Value}(af:bn μ φ x C)(j:hH μ φ lo z)(k:hH μ φ ag D)(p:hH μ φ mx mx')
 (h:q' size x lo ag mx=I v):∃v',oe size C z D mx'=I v'/\bn μ φ v v':=by
 have u:(0:Nat)≠et:=by decide
 unfold q' at h
 split at h
 ·simp only[cN]at h
  obtain⟨m,h1,a,h2,b,ak,aH⟩:=h
  cases aH
  cases af
  have aD:=mn p h1
  have aE:=mn k h2
  have g:=mn j ak
  obtain rfl:m=0:=by have:=lV aD (ca _);omega
  obtain rfl:a=0:=by have:=lV aE (ca _);omega
  obtain rfl:b=0:=by have:=lV g (ca _);omega
  exact⟨_,qh u aD aE g,.bc⟩
 ·simp only[cN]at h
  obtain⟨m,h1,a,h2,b,ak,aH⟩:=h
  cases aH
  cases af with
  |emp gM=>
   have aD:=mn p h1
   have aE:=mn k h2
   have g:=mn j ak
   obtain rfl:m=0:=by have:=lV aD (ca _);omega
   obtain rfl:a=0:=by have:=lV aE (ca _);omega
   obtain rfl:b=0:=by have:=lV g (ca _);omega
   exact⟨_,qh u aD aE g,.emp _⟩
 ·rename_i sz rows
  split at h
  ·rename_i A
   subst A
   split at h
   ·simp only[cN]at h
    obtain⟨a,h2,b,ak,aH⟩:=h
    cases aH
    cases p
    have aE:=mn k h2
    have g:=mn j ak
    have i:=lV aE (ca _)
    have w:=lV g (hQ _)
    cases af with
    |m9=>
     obtain rfl:a=0:=by simpa using i
     obtain rfl:b=0:=by omega
     exact⟨_,qh u (m:=0) rfl aE g,.m9 _⟩
    |lR _ gM c=>
     obtain rfl:a=0:=by simpa using i
     obtain rfl:b=0:=by omega
     by_cases aa:c=et
     ·subst aa
      exact⟨_,He aE g,.lR _ _ _⟩
     ·refine⟨_,qh aa (m:=c) rfl (qg aE (hQ _) λ_=>rfl) g,?_⟩
      split<;>exact .lR _ _ _
    |@bz _ _ gM o n c vs t en aA aa cY lS av aj an=>
     subst aA
     by_cases y:c=et
     ·subst y
      exact⟨_,He aE g,Hd cY lS av aj an w i aa.2 (by omega)⟩
     ·refine⟨_,qh y (m:=c) rfl (qg aE aa.1 λ_=>rfl) g,?_⟩
      split
      ·rename_i N
       have e:a=b:=by omega
       rw[V1 e,show a-b=0 by omega]
       exact .lR _ _ _
      ·exact Hd cY lS av aj an w i aa.2 (by omega)
   ·rename_i te
    split at h
    case h_2=>cases h
    rename_i aw
    simp only[cN]at h
    obtain⟨m,h1,a,h2,b,ak,aH⟩:=h
    cases aH
    cases p with|@some _ E K=>
    cases k with|@some _ F L=>
    have aD:=mn (hH.some K) h1
    have aE:=mn (hH.some L) h2
    have g:=mn j ak
    have G:=lV aD (hQ _)
    have w:=lV g (hQ _)
    cases af with
    |m9=>
     obtain rfl:m=0:=by simpa using G
     have i:=lV aE (ca _)
     obtain rfl:a=0:=by simpa using i
     obtain rfl:b=0:=by omega
     exact⟨_,qh u (qg aD (ca _) λh=>by cases h) aE g,.emp _⟩
    |lR _ gM c=>
     obtain rfl:m=0:=by simpa using G
     have i:=lV aE (ca _)
     obtain rfl:a=0:=by simpa using i
     obtain rfl:b=0:=by omega
     by_cases aa:c=et
     ·subst aa
      exact⟨_,LQ (qg aD (ca _) λh=>by cases h) aE g (by decide),.emp _⟩
     ·exact⟨_,qh aa (qg aD (hQ _) λh=>by cases h) aE g,.emp _⟩
    |@bz _ _ gM o n c vs t en aA aa cY lS av aj an=>
     subst aA
     have j0:∀(q:Value),oe sz (.slice (I ⟨gM,o,none⟩) rows.length c) z (I F) (I E)=I (.slice (if m=b then I ⟨gM,o,none⟩else(I (⟨gM,o,none⟩:Addr)).map λa=>⟨a.block,a.off+b*sz,none⟩) (a-b) (m-b))->
      a<=m->∃v',oe sz (.slice (I ⟨gM,o,none⟩) rows.length c) z (I F) (I E)=I v'/\bn μ φ (if m=b then .emp else .bz sz ((rows.take a).drop b)) v':=by
      intro _ az B
      refine⟨_,az,?_⟩
      split
      ·rename_i O
       rw[show a-b=0 by omega,show m-b=0 by omega]
       exact .emp _
      ·exact Hd cY lS av aj an w (by omega) aa.2 (by omega)
     have B:a<=m:=lV aE (hQ _)
     by_cases y:c=et
     ·subst y
      exact j0 (.int .i64 0) (LQ (qg aD (ca _) λh=>by cases h) (qg aE (ca _) λh=>by cases h) g aa.2) B
     ·exact j0 (.int .i64 0) (qh y (qg aD aa.1 λh=>by cases h) (qg aE (ca _) λh=>by cases h) g) B
  ·cases h
 ·rename_i cd H n jA sz
  split at h
  ·rename_i A
   subst A
   split at h
   ·simp only[cN]at h
    obtain⟨a,h2,b,ak,aH⟩:=h
    cases aH
    cases p
    have aE:=mn k h2
    have g:=mn j ak
    have i:=lV aE (ca _)
    have w:=lV g (hQ _)
    cases af with
    |jz _ gM hm=>
     obtain rfl:a=0:=by omega
     obtain rfl:b=0:=by omega
     rw[aQ rfl]
     exact⟨_,qh u (m:=0) rfl aE g,x5 _ _ _ λ_=>rfl⟩
    |@ref _ _ _ _ _ c l hm aA aa=>
     rcases aa with⟨rfl,aa⟩|⟨P,jX,Q⟩
     ·refine⟨_,He aE g,?_⟩
      split
      ·rename_i M
       rw[show a-b=0 by omega]
       exact .lR _ _ _
      ·show bn μ φ _ (.slice (I ⟨l.blk,H*sz+b*sz,none⟩) _ _)
       rw[←h8]
       exact .ref hm (by omega) (.inl ⟨rfl,by omega⟩)
     ·refine⟨_,qh (by omega) (m:=c) rfl (qg aE jX λ_=>rfl) g,?_⟩
      split
      ·rename_i M
       rw[show a-b=0 by omega]
       exact x5 _ _ _ λh=>by split at h<;>cases h
      ·rw[a1 (by omega)]
       show bn μ φ _ (.slice (I ⟨l.blk,H*sz+b*sz,none⟩) _ _)
       rw[←h8]
       exact .ref hm (by omega) (.inr ⟨by omega,by omega,by omega⟩)
   ·cases h
  ·cases h
 ·cases h
theorem V3{x v:J}{lo ag:Option J}{c:Value}{e g:Option Value}(af:bn μ φ x c)(i:hH μ φ lo e)(j:hH μ φ ag g)(h:G5 x lo ag=I v):∃v',xe c e g=I v'/\bn μ φ v v':=by
 unfold G5 at h
 split at h
 ·cases af
  rw[cN]at h
  obtain⟨a,h1,h⟩:=h
  rw[cN]at h
  obtain⟨b,h2,h⟩:=h
  cases h
  refine⟨_,?_,.str _⟩
  simp only[xe,mn j h1,mn i h2,dy]
 ·cases h
theorem V4{x y v:J}{b c0:Value}(af:bn μ φ x b)(ba:bn μ φ y c0)(h:G6 x y=I v):∃v',xf b c0=I v'/\bn μ φ v v':=by
 unfold G6 at h
 split at h
 ·cases af;cases ba
  split at h
  ·rename_i ad;cases h;exact⟨_,by simp only[xf];rw[aQ ad],.int _ _⟩
  ·cases h
 ·cases h
theorem V5{x y v:J}{b c0:Value}(af:bn μ φ x b)(ba:bn μ φ y c0)(h:G7 x y=I v):∃v',xg b c0=I v'/\bn μ φ v v':=by
 unfold G7 at h
 split at h
 ·cases af;cases ba
  split at h
  ·rename_i ad;cases h;exact⟨_,by simp only[xg];rw[aQ ad],.int _ _⟩
  ·cases h
 ·cases h
theorem V6{f:J->J->Option J}{g:Value->Value->Option Value}(c:∀x y v b c0,bn μ φ x b->bn μ φ y c0->f x y=I v->∃v',g b c0=I v'/\bn μ φ v v'):
 ∀{l:List J} {cB:List Value} {x v:J} {b:Value},bL μ φ l cB->bn μ φ x b->Aq f x l=I v->∃v',uH g b cB=I v'/\bn μ φ v v':=by
 intro l
 induction l with
 |nil=>intro cB x v b av af h;cases av;cases h;exact⟨_,rfl,af⟩
 |cons y r e=>
  intro cB x v b av af h
  cases av with|cons h1 h2=>
   simp only[Aq,cN]at h
   obtain⟨z,bq,h⟩:=h
   obtain⟨i,bt,bG⟩:=c _ _ _ _ _ af h1 bq
   obtain⟨v',cZ,cS⟩:=e h2 bG h
   exact⟨v',by simp only[uH,bt,dy,cZ],cS⟩
theorem LR{f:J->J->Option J}{g:Value->Value->Option Value}(c:∀x y v b c0,bn μ φ x b->bn μ φ y c0->f x y=I v->∃v',g b c0=I v'/\bn μ φ v v')
 {l:List J} {cB:List Value} {v:J} (av:bL μ φ l cB) (h:G8 f l=I v):∃v',Ga g cB=I v'/\bn μ φ v v':=by
 cases av with
 |nil=>cases h
 |cons h1 h2=>exact V6 c h2 h1 h
inductive x6(μ:Ren)(φ:dk):List (Nat×Nat×J)->List (Nat×Nat×Value)->Prop
 |nil:x6 μ φ [] []
 |cons {i n:Nat} {x:J} {y:Value} {xs:List (Nat×Nat×J)} {ys:List (Nat×Nat×Value)} (h:bn μ φ x y) (az:x6 μ φ xs ys):x6 μ φ ((i,n,x)::xs) ((i,n,y)::ys)
theorem Hf:∀{bC:List (Nat×Nat×J)} {b:List (Nat×Nat×Value)} {cs:List J} {c:List Value} {r:List J},bL μ φ cs c->x6 μ φ bC b->cK cs bC=I r->∃dD,o6 c b=I dD/\bL μ φ r dD:=by
 intro bC
 induction bC with
 |nil=>intro b cs c r aa aj h;cases aj;cases h;exact⟨_,rfl,aa⟩
 |cons p bC g=>
  intro b cs c r aa aj h
  cases aj with
  |@cons i n x y _ ys h1 h2=>
   simp only[cK]at h
   split at h
   ·rename_i ad
    obtain⟨bt,bG,cZ⟩:=ad
    have e:=h1.cells (by omega)
    obtain⟨dD,cS,fk⟩:=g ((((aa.take i).append e)).append (aa.drop (i+n))) h2 h
    refine⟨dD,?_,fk⟩
    simp only[o6]
    rw[aQ ⟨by rw[←e.length];exact bt,by rw[←aa.length];exact cZ⟩]
    exact cS
   ·cases h
end Go.aN
namespace Go.aN
open Go.bB
variable {μ : Ren} {φ : dk} {aj : U} {ha : aP}
def x7(μ:Ren)(φ:dk)(ha:aP)(a o:Nat)(row:List J):Prop:=∃vs t rw,ha[a]?=I (.cells vs t rw)/\o+row.length<=vs.length/\bL μ φ row ((vs.drop o).take row.length)
theorem x7.load{a o:Nat}{row:List J}(w:x7 μ φ ha a o row){agg:Bool}{off n:Nat}{v:J}(h:eT agg off n row=I v):∃v',nF agg n (.pointer (I ⟨a,o+off,none⟩)) ha=I v'/\bn μ φ v v':=by
 obtain⟨vs,t,en,h1,h2,ak⟩:=w
 unfold eT at h
 cases agg with
 |true=>
  simp only at h
  split at h
  ·rename_i e_
   cases h
   have aH:=(ak.drop off).take n
   rw[uw,qT,sY,mb (by omega)]at aH
   refine⟨.agg ((vs.drop (o+off)).take n).toArray,?_,.agg aH⟩
   simp only[nF,hV,h1]
   rw[aQ (by omega)]
   rfl
  ·cases h
 |false=>
  simp only at h
  obtain⟨y,bt,bG⟩:=ak.get h
  refine⟨y,?_,bG⟩
  rw[F1,aQ (m' h),oZ]at bt
  simp only[nF,o8,h1]
  exact bt
theorem V7{b:Nat}{vs:List J}{t:aX}{md:eg}{l:bB.Loc}(s:cT μ φ aj ha)(ae:aj[b]?=I (.box vs t md))(e:μ b 0=I (I l)):x7 μ φ ha l.blk 0 vs:=by
 rcases s.rel b _ ae (by simp)with⟨_,_,_,_,h⟩|⟨cB,blk',h1,h2,ak⟩
 ·cases h
 ·have:μ b 0=I (I cB):=h1
  rw[e]at this
  cases this
  obtain⟨b_,en,rfl,bt,bG,cZ⟩:=ak
  exact⟨b_,t,en,h2,by omega,by simpa using bG⟩
theorem ri{b:Nat}{rows:List (List J)}{sz:Nat}{t:aX}{md:eg}{l:bB.Loc}(s:cT μ φ aj ha)(ae:aj[b]?=I (.log rows sz t md))(e:μ b rows.length=I (I l)):
 ∃vs rw,ha[l.blk]?=I (.cells vs t rw)/\rows.length*sz<=vs.length/\bL μ φ rows.flatten (vs.take (rows.length*sz))/\(∀r∈rows,r.length=sz)/\l.K*sz<=vs.length/\(oE md=true->rw=true)/\rows.length<=da:=by
 rcases s.rel b _ ae (by simp)with⟨h,_⟩|⟨cB,blk',h1,h2,ak⟩
 ·have:μ b rows.length=I none:=h
  rw[e]at this
  cases this
 ·have:μ b rows.length=I (I cB):=h1
  rw[e]at this
  cases this
  obtain⟨b_,en,rfl,bt,bG,cZ,cS,fk,c⟩:=ak
  exact⟨b_,en,h2,bt,bG,cZ,cS,fk,c⟩
theorem V8{b i:Nat}{rows:List (List J)}{row:List J}{sz:Nat}{t:aX}{md:eg}{l:bB.Loc}(s:cT μ φ aj ha)(ae:aj[b]?=I (.log rows sz t md))(e:μ b rows.length=I (I l))(ag:rows[i]?=I row):x7 μ φ ha l.blk (i*sz) row:=by
 obtain⟨vs,en,h1,h2,ak,aH,_⟩:=ri s ae e
 have an:=bL.row (o:=0) aH (by simpa using ak) ag
 have aD:=aH row (dH ag)
 have:=Ax (size:=sz) (m' ag)
 exact⟨vs,t,en,h1,by omega,by rw[aD];simpa using an⟩
theorem LS(s:cT μ φ aj ha){agg:Bool}{n:Nat}{x v:J}{c:Value}(af:bn μ φ x c)(h:ab agg n x aj=I v):∃v',nF agg n c ha=I v'/\bn μ φ v v':=by
 unfold ab at h
 split at h
 ·rename_i b o
  simp only[cN]at h
  obtain⟨vs,h1,h2⟩:=h
  cases af with|@ptr _ _ l hm=>
   unfold jZ at h1
   split at h1
   ·rename_i ae
    cases h1
    have:=(V7 s ae hm).load h2
    rwa [gR]at this
   ·cases h1
 ·cases af with|e6 h1 h2 ak aH=>exact x7.load ⟨_,_,_,s.bz _ _ h1,h2,aH⟩ h
 ·rename_i b i off jA sz
  simp only[cN]at h
  obtain⟨rows,h1,row,h2,ak⟩:=h
  cases af with|@gB _ _ _ _ _ l hm=>
   unfold r7 at h1
   split at h1
   ·rename_i e sz' _ _ ae
    cases aa:(cC e.length jA&&cC sz' sz)with
    |false=>rw[aa]at h1;cases h1
    |true=>
     rw[aa]at h1
     cases h1
     rw[dx]at aa
     obtain rfl:=hz aa.1
     obtain rfl:=hz aa.2
     exact(V8 s ae hm h2).load ak
   ·cases h1
 ·cases h
theorem V9{α:Type}{a l:List α}{o n:Nat}(h1:o+l.length<=n)(h2:n<=a.length):(a.take o++l++a.drop (o+l.length)).take n=(a.take n).take o++l++(a.take n).drop (o+l.length):=by
 rw[List.take_append,um (l:=a.take o++l) (by simp;omega),qT,mb (by omega),uw]
 congr 2
 simp
 omega
theorem bL.put{vs l:List J}{b_ cB:List Value}{o:Nat}(h:bL μ φ vs (b_.take vs.length))(av:vs.length<=b_.length)(h':bL μ φ l cB)(b:o+l.length<=vs.length):
 bL μ φ (vs.take o++l++vs.drop (o+l.length)) ((b_.take o++cB++b_.drop (o+cB.length)).take vs.length):=by
 have e:=h'.length
 rw[V9 (by omega) av]
 exact h.Gp h' o
theorem qi{α:Type}{vs l:List α}{o:Nat}(b:o+l.length<=vs.length):(vs.take o++l++vs.drop (o+l.length)).length=vs.length:=by simp;omega
theorem V_{α:Type}{rows:List (List α)}{sz i o:Nat}{row l:List α}(az:∀r∈rows,r.length=sz)(ag:rows[i]?=I row)(c:o+l.length<=row.length):
 (rows.set i (row.take o++l++row.drop (o+l.length))).flatten=rows.flatten.take (i*sz+o)++l++rows.flatten.drop (i*sz+o+l.length):=by
 induction rows generalizing i with
 |nil=>cases ag
 |cons r rows b=>
  have an:=az r (by simp)
  cases i with
  |zero=>
   have e:r=row:=by simpa using ag
   subst e
   rw[List.set_cons_zero,lK,lK,mK,gR,List.take_append_of_le_length (by omega),List.drop_append_of_le_length (by omega)]
   simp
  |succ i=>
   rw[List.set_cons_succ,lK,lK,b (λq bs=>az q (by simp [bs])) (by simpa using ag)]
   rw[show(i+1)*sz+o=r.length+(i*sz+o)by rw[h8];omega,List.take_length_add_append,Nat.add_assoc r.length,List.drop_length_add_append]
   simp
theorem vp{vs l:List Value}{t:aX}{a o:Nat}(h1:ha[a]?=I (.cells vs t true))(h2:o+l.length<=vs.length)(ak:l.all bB.kB=true):nE ha a o l=I (ha.set a (.cells (vs.take o++l++vs.drop (o+l.length)) t true)):=by
 unfold nE
 rw[h1]
 show(if _ then I _ else none)=_
 rw[aQ ⟨h2,ak⟩]
theorem LU{v:Value}{a o n:Nat}{cf:aP}(h1:(kA v).length=n)(h2:nE ha a o (kA v)=I cf):rU n (.pointer (I ⟨a,o,none⟩)) v ha=I cf:=by
 simp only[rU]
 rw[aQ h1]
 exact h2
theorem V'(s:cT μ φ aj ha){n:Nat}{x v:J}{j v':Value}{ck:U}(af:bn μ φ x j)(aw:bn μ φ v v')(h:a_ n x v aj=I ck):∃cf,rU n j v' ha=I cf/\cT μ φ ck cf/\Ext μ φ aj ha μ φ ck cf:=by
 unfold a_ at h
 cases aA:(cC (b' v).length n&&fD 0 n)with
 |false=>rw[aA]at h;cases h
 |true=>
  rw[aA]at h
  simp only[gq]at h
  rw[dx]at aA
  have n1:=hz aA.1
  have n2:0<n:=Nat.le_of_ble_eq_true aA.2
  have c:=aw.cells (by omega)
  split at h
  ·rename_i b o
   split at h
   ·rename_i vs t ae
    rw[de]at h
    obtain⟨b_,h1,rfl⟩:=h
    unfold cy at h1
    split at h1
    ·rename_i aa
     cases h1
     cases af with|@ptr _ _ l hm=>
      obtain⟨e,en,bt,bG,cZ,cS⟩:∃e en,ha[l.blk]?=I (.cells e t en)/\vs.length<=e.length/\bL μ φ vs (e.take vs.length)/\en=true:=by
       rcases s.rel b _ ae (by simp)with⟨_,_,_,_,h⟩|⟨cB,blk',h1,h2,ak⟩
       ·cases h
       ·have:μ b 0=I (I cB):=h1
        rw[hm]at this
        cases this
        obtain⟨b_,en,rfl,bt,bG,cZ⟩:=ak
        exact⟨b_,en,h2,bt,bG,cZ rfl⟩
      subst cS
      have br:=c.length
      refine⟨_,LU (by omega) (vp bt (by omega) (c.kB aa.2)),?_⟩
      have k:=qi aa.1
      refine s.r' ae trivial hm rfl ⟨_,true,rfl,?_,?_,λ_=>rfl⟩
      ·rw[k,qi (by omega)];exact bG
      ·rw[k];exact cZ.put bG c aa.1
    ·cases h1
   ·cases h
  ·rename_i b i o jA sz
   split at h
   ·rename_i rows sz' t ae
    split at h
    ·rename_i aa
     obtain⟨rfl,rfl⟩:=aa
     simp only[cN,de]at h
     obtain⟨row,h1,row',h2,rfl⟩:=h
     unfold cy at h2
     split at h2
     ·rename_i aa
      cases h2
      cases af with|@gB _ _ _ _ _ l hm=>
       obtain⟨vs,en,bt,bG,cZ,cS,fk,m,f_⟩:=ri s ae hm
       obtain rfl:=m rfl
       have br:=c.length
       have aD:=cS row (dH h1)
       have e_:=Ax (size:=sz') (m' h1)
       refine⟨_,LU (by omega) (vp bt (by omega) (c.kB aa.2)),?_⟩
       have g:=lU cS
       have aw:ver (.log (rows.set i (row.take o++b' v++row.drop (o+(b' v).length))) sz' t .rw)=ver (.log rows sz' t .rw):=by simp [ver]
       refine s.r' ae trivial hm aw ⟨_,true,rfl,?_,?_,?_,?_,λ_=>rfl,?_⟩
       ·rw[qi (by omega),ir];exact bG
       ·rw[V_ cS h1 aa.1,ir]
        have:=bL.put (o:=i*sz'+o) (by rw[g];exact cZ) (by rw[g];exact bG) c (by rw[g];omega)
        rw[g]at this
        exact this
       ·intro r an
        rcases List.mem_or_eq_of_mem_set an with h|rfl
        ·exact cS r h
        ·rw[qi aa.1];exact aD
       ·rw[qi (by omega)];exact fk
       ·rw[ir];exact f_
     ·cases h2
    ·cases h
   ·cases h
  ·cases h
theorem Wa(l:List UInt8):bL μ φ (l.map λb=>[J.int .u8 b.toNat]).flatten (l.map λb=>Value.int .u8 b.toNat):=by
 induction l with
 |nil=>exact .nil
 |cons b l c=>exact .cons (.int _ _) c
theorem Hg(s:cT μ φ aj ha){sz:Nat}{x:J}{m:Value}{rows:List (List J)}(af:bn μ φ x m)(h:kk sz x aj=I rows):
 lenOf m=I rows.length/\(∀r∈rows,r.length=sz)/\∀k,k<=rows.length->∃l,kC sz k m ha=I l/\bL μ φ (rows.take k).flatten l:=by
 unfold kk at h
 split at h
 ·cases h;cases af
  refine⟨rfl,λr an=>(by cases an),λk ad=>?_⟩
  obtain rfl:k=0:=by simpa using ad
  exact⟨[],rfl,.nil⟩
 ·cases h;cases af
  refine⟨rfl,λr an=>(by cases an),λk ad=>?_⟩
  obtain rfl:k=0:=by simpa using ad
  rename_i a
  cases a<;>exact⟨[],rfl,.nil⟩
 ·rename_i sz rows'
  split at h
  ·rename_i az
   subst az
   cases h
   cases af with
   |m9=>
    refine⟨rfl,λr an=>(by cases an),λk ad=>?_⟩
    obtain rfl:k=0:=by simpa using ad
    exact⟨[],rfl,.nil⟩
   |lR=>
    refine⟨rfl,λr an=>(by cases an),λk ad=>?_⟩
    obtain rfl:k=0:=by simpa using ad
    exact⟨[],rfl,.nil⟩
   |@bz _ _ a o n c vs t en aA aa cY lS av aj an=>
    subst aA
    refine⟨rfl,cY,λk ad=>?_⟩
    by_cases i:k=0
    ·subst i
     exact⟨[],by simp [kC],.nil⟩
    ·have e_:k*sz<=rows.length*sz:=o0 _ ad
     have h1:=an.take (k*sz)
     rw[qT,mb e_,←vo cY]at h1
     refine⟨_,?_,h1⟩
     simp only[kC]
     rw[a1 i,aQ ad]
     unfold hV
     rw[s.bz _ _ lS]
     show(if _ then I _ else none)=_
     rw[aQ (by omega)]
  ·cases h
 ·rename_i b lo n jA sz'
  split at h
  ·rename_i aA
   cases h
   subst aA
   have:∃a c,m=.slice a 0 c:=by cases af<;>exact⟨_,_,rfl⟩
   obtain⟨a,c,rfl⟩:=this
   refine⟨rfl,λr an=>(by cases an),λk ad=>?_⟩
   obtain rfl:k=0:=by simpa using ad
   cases a<;>exact⟨[],rfl,.nil⟩
  ·rename_i aA
   split at h
   ·rename_i az
    subst az
    simp only[cN]at h
    obtain⟨q,h1,h2⟩:=h
    split at h2
    ·rename_i e_
     cases h2
     cases af with
     |jz=>exact absurd rfl aA
     |@ref _ _ _ _ _ c l hm y aa=>
      unfold r7 at h1
      split at h1
      ·rename_i u g A B ae
       cases j:(cC u.length jA&&cC g sz')with
       |false=>rw[j]at h1;cases h1
       |true=>
        rw[j]at h1
        cases h1
        rw[dx]at j
        obtain rfl:=hz j.1
        obtain rfl:=hz j.2
        obtain⟨vs,en,bt,bG,cZ,cS,fk,C,f_⟩:=ri s ae hm
        have br:((q.drop lo).take n).length=n:=by simp;omega
        refine⟨by rw[br];rfl,λr an=>cS r (rP (od an)),λk ad=>?_⟩
        rw[br]at ad
        by_cases i:k=0
        ·subst i
         exact⟨[],by simp [kC],.nil⟩
        ·have D:lo*g+k*g<=q.length*g:=by rw[←h8];exact o0 _ (by omega)
         have h1:=(cZ.drop (lo*g)).take (k*g)
         rw[←Aw cS,←vo (size:=g) (λr an=>cS r (rP an)),uw,qT,mb (by omega)]at h1
         refine⟨_,?_,by rw[qT,mb ad];exact h1⟩
         simp only[kC]
         rw[a1 i,aQ ad]
         unfold hV
         rw[bt]
         show(if _ then I _ else none)=_
         rw[aQ (by omega)]
      ·cases h1
    ·cases h2
   ·cases h
 ·rename_i p
  split at h
  ·rename_i az
   subst az
   cases h
   cases af with|str _=>
    refine⟨?_,λr an=>?_,λk ad=>?_⟩
    ·simp only[lenOf,dn,pW];rfl
    ·obtain⟨z,_,rfl⟩:=List.mem_map.1 an;rfl
    ·simp only[dn,pW]at ad
     have w:k<=p.size:=ad
     refine⟨(((p.extract 0 k).data.toList).map λb=>.int .u8 b.toNat),?_,?_⟩
     ·simp only[kC]
      rw[aQ ⟨trivial,w⟩]
     ·have e:(p.extract 0 k).data.toList=p.data.toList.take k:=by
       rw[ByteArray.data_extract,Array.toList_extract]
       simp [List.extract]
      rw[e,←List.map_take]
      exact Wa _
  ·cases h
 ·cases h
theorem vq{α:Type}{l:List α}{i:Nat}{x:α}(h:l[i]?=I x):l.set i x=l:=by
 refine gn λj=>?_
 by_cases b:j=i
 ·subst b;rw[qf (m' h),h]
 ·rw[lT b]
theorem Hh{aV:Ren}{rows:List (List J)}{vs:List Value}{sz:Nat}{t:aX}(h:bL μ φ rows.flatten vs)(hm:ef μ aV)(az:∀r∈rows,r.length=sz)(av:rows.length<=da):e9 aV φ 0 (.log rows sz t .rw) (.cells vs t true):=by
 have e:=h.length
 rw[lU az]at e
 exact⟨vs,true,rfl,by omega,by rw[e,h6];exact h.mono hm (gi.refl _),az,by omega,λ_=>rfl,av⟩
theorem Hi{new:List (List J)}{elem:aX}(b sz a:Nat)(h:0<new.length){sz':Nat}{md:eg}:bn (put μ b (ver (.log new sz' elem md)) (I ⟨a,0⟩)) φ (.ref b 0 new.length new.length sz) (.slice (I ⟨a,0,none⟩) (0+new.length) et):=by
 have:=bn.ref (μ:=put μ b new.length (I ⟨a,0⟩)) (φ:=φ) (b:=b) (lo:=0) (n:=new.length) (ver:=new.length) (sz:=sz) (c:=et) (jc _ _ _ _) (by omega) (.inl ⟨rfl,h⟩)
 rw[mK]at this
 rw[gR]
 exact this
theorem LV(s:cT μ φ aj ha){elem:aX}{sz:Nat}{x v:J}{w:Value}{new:List (List J)}{jB:List Value}{ck:U}(af:bn μ φ x w)(i:bL μ φ new.flatten jB)(cY:∀r∈new,r.length=sz)
 (h:ra elem sz x new aj=I (v,ck)):∃v' cf aV,mc elem sz w new.length jB ha=I (v',cf)/\bn aV φ v v'/\cT aV φ ck cf/\Ext μ φ aj ha aV φ ck cf:=by
 unfold ra at h
 split at h
 ·rename_i E
  obtain⟨mY,T,F⟩:=E
  have G:=i.length
  rw[lU cY]at G
  have y:=i.kB F
  have V:da<et:=by decide
  have z:(0:Nat)≠et:=by decide
  have fresh:∀(a:Option Addr),0<new.length->mc elem sz (.slice a 0 0) new.length jB ha=I (.slice (I ⟨ha.length,0,none⟩) (0+new.length) et,ha++[.cells ([]++jB) elem true]):=by
   intro a A
   simp only[mc]
   rw[a1 z,a1 (by omega),aQ (by omega)]
   have:kC sz 0 (.slice a 0 0) ha=I []:=by cases a<;>rfl
   rw[this]
   rfl
  have same:∀(a:Option Addr),new.length=0->mc elem sz (.slice a 0 0) new.length jB ha=I (.slice a 0 0,ha):=by
   intro a bq
   simp only[mc,bq]
   rw[a1 z,aQ (ca _)]
   cases a<;>rfl
  split at h
  ·cases af
   split at h
   ·rename_i bq
    cases h
    exact⟨_,_,_,same none bq,.bc,s,Ext.refl _ _ _ _⟩
   ·rename_i bq
    cases h
    have aw:ver (.log new sz elem .rw)=new.length:=rfl
    obtain⟨bH,b1⟩:=s.push (.log new sz elem .rw) (.cells jB elem true) 0 (Hh i (qe s _ _) cY mY)
    refine⟨_,_,_,fresh none (by omega),?_,bH,b1⟩
    exact Hi aj.length sz ha.length (by omega)
  ·cases af with|emp a=>
   split at h
   ·rename_i bq
    cases h
    exact⟨_,_,_,same a bq,.emp _,s,Ext.refl _ _ _ _⟩
   ·rename_i bq
    cases h
    obtain⟨bH,b1⟩:=s.push (.log new sz elem .rw) (.cells jB elem true) 0 (Hh i (qe s _ _) cY mY)
    refine⟨_,_,_,fresh a (by omega),?_,bH,b1⟩
    exact Hi aj.length sz ha.length (by omega)
  ·rename_i b lo n jA sz'
   split at h
   ·rename_i rows g t ae
    split at h
    ·rename_i aa
     obtain⟨rfl,rfl,p,rfl,rfl,rfl,W⟩:=aa
     cases h
     have b0:kL (.log rows g t .rw):=trivial
     have B:∀r∈rows++new,(∀r∈rows,r.length=g)->r.length=g:=λr h k=>by
      rcases List.mem_append.1 h with h|h
      ·exact k r h
      ·exact cY r h
     have m:0<new.length->ver (.log rows g t .rw)<ver (.log (rows++new) g t .rw):=λh=>by simp [ver];omega
     have q:∀(eL:List Value) (j:aP) (k:Nat),k=rows.length->0<new.length->bL μ φ rows.flatten eL->(∀r∈rows,r.length=g)->j.length=ha.length->(∀a,(∀l,μ b rows.length=I (I l)->l.blk≠a)->j[a]?=ha[a]?)->
      ∃aV,bn aV φ (.ref b 0 (k+new.length) (k+new.length) g) (.slice (I ⟨ha.length,0,none⟩) (k+new.length) et)/\cT aV φ (aj.set b (.log (rows++new) g t .rw)) (j++[.cells (eL++jB) t true])/\
       Ext μ φ aj ha aV φ (aj.set b (.log (rows++new) g t .rw)) (j++[.cells (eL++jB) t true]):=by
      intro eL j k ad A H tr br L
      have M:=m A
      have e_:ef μ (put μ b (ver (.log (rows++new) g t .rw)) (I ⟨ha.length,0⟩)):=x3 λo h=>by have:=s.top _ _ _ _ ae b0.live h;omega
      obtain⟨bH,b1⟩:=s.grow (blk1:=.log (rows++new) g t .rw) (K:=0) ae b0 M br L (Hh (by rw[zv];exact H.append i) e_ (λr h=>B r h tr) (by rw[dW,p];omega))
      refine⟨_,?_,bH,b1⟩
      have:=Hi (μ:=μ) (φ:=φ) (new:=rows++new) (elem:=t) b g ha.length (by simp;omega) (sz':=g) (md:=.rw)
      rw[dW,←ad,gR]at this
      exact this
     cases af with
     |jz _ a hm=>
      have N:rows=[]:=gy p
      subst N
      by_cases bq:new.length=0
      ·have:new=[]:=gy bq
       subst this
       refine⟨_,_,μ,same a bq,.jz _ _ hm,?_,?_⟩
       ·rw[fu,vq ae];exact s
       ·rw[fu,vq ae];exact Ext.refl _ _ _ _
      ·obtain⟨aV,bH,b1,c8⟩:=q [] ha 0 rfl (by omega) .nil (λr h=>by cases h) rfl (λ_ _=>rfl)
       exact⟨_,_,aV,fresh a (by omega),bH,b1,c8⟩
     |@ref _ _ _ _ _ c l hm aA aa=>
      subst p
      obtain⟨vs,en,bt,bG,cZ,cS,fk,O,f_⟩:=ri s ae hm
      obtain rfl:=O rfl
      rw[mK]
      by_cases bq:new.length=0
      ·have:new=[]:=gy bq
       subst this
       rw[fu,vq ae]
       refine⟨.slice (I ⟨l.blk,0,none⟩) rows.length c,ha,μ,?_,?_,s,Ext.refl _ _ _ _⟩
       ·rcases aa with⟨rfl,aa⟩|⟨C,jX,D⟩
        ·simp [mc]
        ·simp only[mc,List.length_nil,Nat.add_zero]
         rw[a1 (by omega),aQ jX]
         rfl
       ·have:=bn.ref (φ:=φ) (sz:=g) hm (by omega) aa
        rw[mK]at this
        exact this
      ·have tr:=cS
       rcases aa with⟨rfl,aa⟩|⟨C,jX,D⟩
       ·obtain⟨aV,bH,b1,c8⟩:=q (vs.take (rows.length*g)) (ha.set l.blk .dead) rows.length rfl (by omega) cZ cS (by simp) (λa h=>lT λe=>h l hm e.symm)
        refine⟨_,_,aV,?_,bH,b1,c8⟩
        simp only[mc,aZ,bt]
        rw[a1 bq,aQ ⟨bG,by omega,trivial,aa,y⟩]
       ·by_cases u:rows.length+new.length<=c
        ·have P:rows.length*g+new.length*g<=vs.length:=by
          rw[←h8]
          exact lH (o0 _ (by omega)) fk
         have Q:=vp (ha:=ha) (l:=jB) (o:=rows.length*g) bt (by omega) y
         have R:ef μ (put μ b (ver (.log (rows++new) g t .rw)) (I l)):=x3 λo h=>by have:=s.top _ _ _ _ ae b0.live h;have:=m (by omega);omega
         have X:=lU cS
         have S:e9 (put μ b (ver (.log (rows++new) g t .rw)) (I l)) φ l.K (.log (rows++new) g t .rw) (.cells (vs.take (rows.length*g)++jB++vs.drop (rows.length*g+jB.length)) t true):=by
          refine⟨_,true,rfl,?_,?_,λr h=>B r h cS,?_,λ_=>rfl,by rw[dW];omega⟩
          ·rw[qi (by omega),dW,h8];exact P
          ·have e:(vs.take (rows.length*g)++jB++vs.drop (rows.length*g+jB.length)).take ((rows++new).length*g)=vs.take (rows.length*g)++jB:=by
            have aE:(rows++new).length*g=(vs.take (rows.length*g)++jB).length:=by rw[dW,dW,kz,h8];omega
            rw[aE,uv]
           rw[e,zv]
           exact(cZ.append i).mono R (gi.refl _)
          ·rw[qi (by omega)];exact fk
         obtain⟨bH,b1⟩:=s.write (blk1:=.log (rows++new) g t .rw) ae b0 hm (λo h=>by have:=s.top _ _ _ _ ae b0.live h;have:=m (by omega);omega) (by have:=m (by omega);omega) S
         refine⟨.slice (I ⟨l.blk,0,none⟩) (rows.length+new.length) c,_,_,?_,?_,bH,b1⟩
         ·simp only[mc,gR]
          rw[a1 (by omega),aQ u,a1 bq,Q]
          rfl
         ·have:=bn.ref (μ:=put μ b (ver (.log (rows++new) g t .rw)) (I l)) (φ:=φ) (sz:=g) (lo:=0) (n:=rows.length+new.length) (c:=c) (jc _ _ _ _) (by simp [ver]) (.inr ⟨C,u,D⟩)
          rw[mK]at this
          simpa [ver]using this
        ·obtain⟨aV,bH,b1,c8⟩:=q (vs.take (rows.length*g)) ha rows.length rfl (by omega) cZ cS rfl (λ_ _=>rfl)
         refine⟨_,_,aV,?_,bH,b1,c8⟩
         simp only[mc]
         rw[a1 (by omega),a1 u,aQ (by omega)]
         have:kC g rows.length (.slice (I ⟨l.blk,0,none⟩) rows.length c) ha=I (vs.take (rows.length*g)):=by
          simp only[kC]
          by_cases au:rows.length=0
          ·rw[aQ au,au];simp
          ·rw[a1 au,aQ (ca _)]
           unfold hV
           rw[bt]
           simp only[gR,o4]
           rw[aQ bG]
         rw[this]
         rfl
    ·cases h
   ·cases h
  ·cases h
 ·cases h
theorem Wb(s:cT μ φ aj ha){elem:aX}{sz:Nat}{x y v:J}{b c0:Value}{ck:U}(af:bn μ φ x b)(ba:bn μ φ y c0)(h:ek elem sz x y aj=I (v,ck)):
 ∃v' cf aV,rV elem sz b c0 ha=I (v',cf)/\bn aV φ v v'/\cT aV φ ck cf/\Ext μ φ aj ha aV φ ck cf:=by
 unfold ek at h
 rw[cN]at h
 obtain⟨new,h1,h2⟩:=h
 obtain⟨bt,bG,cZ⟩:=Hg s ba h1
 obtain⟨jB,cS,fk⟩:=cZ new.length (ca _)
 rw[h6]at fk
 obtain⟨v',cf,aV,bH,q⟩:=LV s af fk bG h2
 exact⟨v',cf,aV,by simp only[rV,bt,dy,cS,bH],q⟩
theorem x8{zero:List J}{b:List Value}(h:bL μ φ zero b)(n:Nat):bL μ φ (du n zero).flatten (rep b n):=by
 induction n with
 |zero=>exact .nil
 |succ n c=>rw[List.replicate_succ,lK];exact h.append c
theorem Wc(s:cT μ φ aj ha){elem:aX}{sz:Nat}{zero:List J}{b:List Value}{x y v:J}{c c0:Value}{ck:U}(bq:bL μ φ zero b)(af:bn μ φ x c)(ba:bn μ φ y c0)(h:G9 elem sz zero x y aj=I (v,ck)):
 ∃v' cf aV,uL elem sz b c c0 ha=I (v',cf)/\bn aV φ v v'/\cT aV φ ck cf/\Ext μ φ aj ha aV φ ck cf:=by
 unfold G9 at h
 split at h
 ·split at h
  ·rename_i aa
   cases ba
   obtain⟨v',cf,aV,bH,q⟩:=LV s af (x8 bq _) (λr an=>by rw[zw]at an;rw[an.2];exact aa.2.2) h
   rw[ux]at bH
   refine⟨v',cf,aV,?_,q⟩
   simp only[uL]
   rw[aQ ⟨aa.1,aa.2.1⟩]
   exact bH
  ·cases h
 ·cases h
theorem Wd(s:cT μ φ aj ha){elem:aX}{zero:List J}{e:List Value}{x y v:J}{g c0:Value}{ck:U}(bq:bL μ φ zero e)(af:bn μ φ x g)(ba:bn μ φ y c0)(h:pk elem zero x y aj=I (v,ck)):
 ∃v' cf aV,s_ elem e g c0 ha=I (v',cf)/\bn aV φ v v'/\cT aV φ ck cf/\Ext μ φ aj ha aV φ ck cf:=by
 unfold pk at h
 split at h
 ·rename_i n c
  split at h
  ·rename_i aa
   cases af;cases ba
   cases h
   have i:(rep e c.toNat).length=c.toNat*zero.length:=by
    have:=(x8 bq c.toNat).length
    rw[lU (size:=zero.length) (λr an=>by rw[zw]at an;rw[an.2]),ux]at this
    omega
   have e_:n.toNat*zero.length<=c.toNat*zero.length:=o0 _ (by omega)
   have j:bL μ φ (du n.toNat zero).flatten ((rep e c.toNat).take (n.toNat*zero.length)):=by
    have h1:=(x8 bq c.toNat).take (n.toNat*zero.length)
    rw[←vo (size:=zero.length) (λr an=>by rw[zw]at an;rw[an.2]),List.take_replicate,mb (by omega)]at h1
    exact h1
   obtain⟨bH,b1⟩:=s.push (.log (du n.toNat zero) zero.length elem .rw) (.cells (rep e c.toNat) elem true) c.toNat
    ⟨_,true,rfl,by rw[i,ux];exact e_,by rw[ux];exact j.mono (qe s _ _) (gi.refl _),λr an=>by rw[zw]at an;rw[an.2],by rw[i];exact ca _,λ_=>rfl,by rw[ux];omega⟩
   refine⟨.slice (I ⟨ha.length,0,none⟩) n.toNat c.toNat,_,_,?_,?_,bH,b1⟩
   ·simp only[s_]
    rw[aQ aa]
   ·have k:da<et:=by decide
    have:=bn.ref (μ:=put μ aj.length (ver (.log (du n.toNat zero) zero.length elem .rw)) (I ⟨ha.length,c.toNat⟩)) (φ:=φ) (b:=aj.length) (lo:=0) (n:=n.toNat) (sz:=zero.length) (c:=c.toNat) (jc _ _ _ _) (by simp [ver]) (.inr ⟨by omega,by omega,by simp⟩)
    rw[mK]at this
    simpa [ver]using this
  ·cases h
 ·cases h
theorem Hj{rows:List (List J)}{l:bB.Loc}{sz:Nat}{t:aX}{vs:List Value}{lo:Nat}{src:List (List J)}{src':List Value}(bG:rows.length*sz<=vs.length)(cZ:bL μ φ rows.flatten (vs.take (rows.length*sz)))(cS:∀r∈rows,r.length=sz)(fk:l.K*sz<=vs.length)(f_:rows.length<=da)
 (az:bL μ φ src.flatten src') (cY:∀r∈src,r.length=sz) (e_:lo+src.length<=rows.length):
 e9 μ φ l.K (.log (rows.take lo++src++rows.drop (lo+src.length)) sz t .rw) (.cells (vs.take (lo*sz)++src'++vs.drop (lo*sz+src'.length)) t true)/\(rows.take lo++src++rows.drop (lo+src.length)).length=rows.length/\lo*sz+src'.length<=vs.length:=by
 have aD:=az.length
 rw[lU cY]at aD
 have aE:lo*sz+src.length*sz<=rows.length*sz:=by rw[←h8];exact o0 _ e_
 have b:=qi (vs:=rows) (l:=src) (o:=lo) e_
 have c:=lU cS
 refine⟨⟨_,true,rfl,?_,?_,λr an=>?_,?_,λ_=>rfl,by rw[b];exact f_⟩,b,by omega⟩
 ·rw[b,qi (by omega)];exact bG
 ·rw[b,zv,zv,vo cS,Aw cS,h8]
  have:=bL.put (o:=lo*sz) (by rw[c];exact cZ) (by rw[c];exact bG) az (by rw[c,lU cY];omega)
  rw[c,lU cY]at this
  exact this
 ·rcases List.mem_append.1 an with an|an
  ·rcases List.mem_append.1 an with an|an
   ·exact cS r (od an)
   ·exact cY r an
  ·exact cS r (rP an)
 ·rw[qi (by omega)];exact fk
theorem We(s:cT μ φ aj ha){sz:Nat}{x y v:J}{i c0:Value}{ck:U}(af:bn μ φ x i)(ba:bn μ φ y c0)(h:rb sz x y aj=I (v,ck)):
 ∃v' cf,o9 sz i c0 ha=I (v',cf)/\bn μ φ v v'/\cT μ φ ck cf/\Ext μ φ aj ha μ φ ck cf:=by
 unfold rb at h
 rw[cN]at h
 obtain⟨src,h1,h2⟩:=h
 obtain⟨cE,cD,dE⟩:=Hg s ba h1
 have e:kC sz 0 c0 ha=I []:=by
  obtain⟨l,bt,bG⟩:=dE 0 (hQ _)
  rw[w4]at bG
  cases bG
  exact bt
 split at h2
 ·cases h2;cases af
  refine⟨.int .i64 0,ha,?_,.int _ _,s,Ext.refl _ _ _ _⟩
  simp [o9,cE,e,Nat.min_def]
 ·cases h2;cases af with|emp a=>
  refine⟨.int .i64 0,ha,?_,.int _ _,s,Ext.refl _ _ _ _⟩
  cases a<;>simp [o9,cE,e,Nat.min_def]
 ·rename_i b lo n jA sz'
  by_cases j:jA=0
  ·subst j
   rw[aQ rfl]at h2
   cases h2
   cases af with
   |jz _ a _=>
    refine⟨.int .i64 0,ha,?_,.int _ _,s,Ext.refl _ _ _ _⟩
    cases a<;>simp [o9,cE,e,Nat.min_def]
   |@ref _ _ _ _ _ c l hm aA aa=>
    obtain rfl:n=0:=by omega
    refine⟨.int .i64 0,ha,?_,.int _ _,s,Ext.refl _ _ _ _⟩
    simp [o9,cE,e,Nat.min_def]
  rw[a1 j]at h2
  split at h2
  ·rename_i rows g t ae
   split at h2
   ·rename_i aa
    obtain⟨w,rfl,rfl,cR,d',gj⟩:=aa
    cases h2
    cases af with
    |jz=>omega
    |@ref _ _ _ _ _ c l hm aA aa=>
     subst w
     obtain⟨vs,en,bt,bG,cZ,cS,fk,A,f_⟩:=ri s ae hm
     obtain rfl:=A rfl
     have k:fY src.length n<=src.length:=Nat.min_le_left _ _
     have F:fY src.length n<=n:=Nat.min_le_right _ _
     obtain⟨src',m,p⟩:=dE (fY src.length n) k
     have q:src.take n=src.take (fY src.length n):=by
      rw[show fY src.length n=min n src.length from Nat.min_comm _ _]
      rw[List.take_eq_take_min]
     have aD:(src.take (fY src.length n)).length=fY src.length n:=by rw[kz];exact mb k
     have u:=Hj (μ:=μ) (φ:=φ) (l:=l) (sz:=g) (t:=t) (lo:=lo) (src:=src.take (fY src.length n)) bG cZ cS fk f_ p (λr an=>cD r (od an)) (by rw[aD];omega)
     rw[aD]at u
     obtain⟨cO,B,C⟩:=u
     have D:src'.all bB.kB=true:=p.kB (List.all_eq_true.2 λz bq=>List.all_eq_true.1 gj z (by
      obtain⟨r,an,bq⟩:=List.mem_flatten.1 bq
      exact List.mem_flatten.2 ⟨r,od an,bq⟩))
     have E:=vp (ha:=ha) (l:=src') (o:=lo*g) bt C D
     by_cases bq:fY src.length n=0
     ·refine⟨.int .i64 (fY src.length n:Nat),ha,?_,.int _ _,?_⟩
      ·simp only[o9,cE,dy,m]
       rw[aQ bq]
       rfl
      ·rw[q,bq,w4,fu,Nat.add_zero,qW,vq ae]
       exact⟨s,Ext.refl _ _ _ _⟩
     ·refine⟨.int .i64 (fY src.length n:Nat),ha.set l.blk (.cells (vs.take (lo*g)++src'++vs.drop (lo*g+src'.length)) t true),?_,.int _ _,?_⟩
      ·simp only[o9,cE,dy,m]
       rw[a1 bq,E]
       rfl
      ·rw[q]
       exact s.r' ae trivial hm (by simp only[ver];exact B) cO
   ·cases h2
  ·cases h2
 ·cases h2
theorem Wf(s:cT μ φ aj ha){zero:List J}{e:List Value}{x v:J}{g:Value}{ck:U}(bq:bL μ φ zero e)(af:bn μ φ x g)(h:G_ zero x aj=I (v,ck)):
 ∃v' cf,uM e g ha=I (v',cf)/\bn μ φ v v'/\cT μ φ ck cf/\Ext μ φ aj ha μ φ ck cf:=by
 unfold G_ at h
 split at h
 ·cases h;cases af
  exact⟨_,_,rfl,bn.undef,s,Ext.refl _ _ _ _⟩
 ·cases h;cases af with|emp a=>
  exact⟨undef,ha,by cases a<;>rfl,bn.undef,s,Ext.refl _ _ _ _⟩
 ·rename_i b lo n jA sz
  split at h
  ·rename_i rows w t ae
   split at h
   ·rename_i aa
    obtain⟨j,rfl,rfl,cR,d',gj⟩:=aa
    cases h
    cases af with
    |jz=>omega
    |@ref _ _ _ _ _ c l hm aA aa=>
     subst j
     obtain⟨vs,en,bt,bG,cZ,cS,fk,k,f_⟩:=ri s ae hm
     obtain rfl:=k rfl
     have i:=Hj (μ:=μ) (φ:=φ) (l:=l) (sz:=zero.length) (t:=t) (lo:=lo) (src:=du n zero) bG cZ cS fk f_ (x8 bq n) (λr an=>by rw[zw]at an;rw[an.2]) (by simpa using cR)
     rw[ux]at i
     obtain⟨cO,m,p⟩:=i
     have q:(rep e n).all bB.kB=true:=(x8 bq n).kB (List.all_eq_true.2 λz bq=>by
      obtain⟨r,an,bq⟩:=List.mem_flatten.1 bq
      rw[zw]at an
      rw[an.2]at bq
      exact List.all_eq_true.1 gj z bq)
     have u:=vp (ha:=ha) (l:=rep e n) (o:=lo*zero.length) bt p q
     refine⟨undef,_,?_,bn.undef,s.r' ae trivial hm (by simp only[ver];exact m) cO⟩
     simp only[uM]
     rw[a1 (by omega),u]
     rfl
   ·cases h
  ·cases h
 ·cases h
end Go.aN
namespace Go.aN
open Go.bB
variable {μ : Ren} {φ : dk} {aj : U} {ha : aP}
theorem Ay{k:e4}{x y:J}{b c0:Value}{r:Bool}(af:bn μ φ x b)(ba:bn μ φ y c0)(h:tn k x y=I r):rW k b c0=I r:=by
 unfold tn at h
 split at h<;>first|(cases af;cases ba;exact h)|cases h
theorem Wg{k:e4}{x:J}{c:Value}(af:bn μ φ x c):∀{c5:List (J×J)} {b:List (Value×Value)} {r:Option J},bL μ φ (c5.map (·.1)) (b.map (·.1))->bL μ φ (c5.map (·.2)) (b.map (·.2))->tp k x c5=I r->
 ∃dD,uN k c b=I dD/\hH μ φ r dD:=by
 intro c5
 induction c5 with
 |nil=>
  intro b r h1 h2 h
  cases b with
  |nil=>cases h;exact⟨_,rfl,.none⟩
  |cons=>cases h1
 |cons p c5 g=>
  intro b r h1 h2 h
  cases b with
  |nil=>cases h1
  |cons i b=>
   obtain⟨y,v⟩:=p
   obtain⟨c0,v'⟩:=i
   cases h1 with|cons e j=>cases h2 with|cons cO l=>
    simp only[tp]at h
    simp only[uN]
    split at h
    ·rename_i ad
     cases h
     rw[Ay af e ad]
     exact⟨_,rfl,.some cO⟩
    ·rename_i ad
     rw[Ay af e ad]
     exact g j l h
    ·cases h
theorem Wh{k:e4}{x v:J}{g v':Value}(af:bn μ φ x g)(aw:bn μ φ v v'):∀{c5 q:List (J×J)} {b:List (Value×Value)},bL μ φ (c5.map (·.1)) (b.map (·.1))->bL μ φ (c5.map (·.2)) (b.map (·.2))->qa k x v c5=I q->
 ∃c,uO k g v' b=I c/\bL μ φ (q.map (·.1)) (c.map (·.1))/\bL μ φ (q.map (·.2)) (c.map (·.2)):=by
 intro c5
 induction c5 with
 |nil=>
  intro q b h1 h2 h
  cases b with
  |nil=>cases h;exact⟨_,rfl,.cons af .nil,.cons aw .nil⟩
  |cons=>cases h1
 |cons p c5 l=>
  intro q b h1 h2 h
  cases b with
  |nil=>cases h1
  |cons m b=>
   obtain⟨y,u⟩:=p
   obtain⟨c0,n⟩:=m
   cases h1 with|cons e i=>cases h2 with|cons cO j=>
    simp only[qa]at h
    simp only[uO]
    split at h
    ·rename_i ad
     cases h
     rw[Ay af e ad]
     exact⟨_,rfl,.cons af i,.cons aw j⟩
    ·rename_i ad
     rw[Ay af e ad]
     rw[de]at h
     obtain⟨r,an,rfl⟩:=h
     obtain⟨dD,bt,bG,cZ⟩:=l i j an
     exact⟨(c0,n)::dD,by rw[bt];rfl,.cons e bG,.cons cO cZ⟩
    ·cases h
theorem LW{b:Nat}{c5:List (J×J)}{md:eg}{l:bB.Loc}(s:cT μ φ aj ha)(ae:aj[b]?=I (.map c5 md))(e:μ b 0=I (I l)):∃c,ha[l.blk]?=I (.map c)/\bL μ φ (c5.map (·.1)) (c.map (·.1))/\bL μ φ (c5.map (·.2)) (c.map (·.2)):=by
 rcases s.rel b _ ae (by simp)with⟨_,_,_,_,h⟩|⟨cB,blk',h1,h2,ak⟩
 ·cases h
 ·have:μ b 0=I (I cB):=h1
  rw[e]at this
  cases this
  obtain⟨c,rfl,bt,bG⟩:=ak
  exact⟨c,h2,bt,bG⟩
theorem LX(s:cT μ φ aj ha){x:J}{e:Value}{c5:List (J×J)}(af:bn μ φ x e)(h:vj x aj=I c5):∃c,uP e ha=I c/\bL μ φ (c5.map (·.1)) (c.map (·.1))/\bL μ φ (c5.map (·.2)) (c.map (·.2)):=by
 unfold vj at h
 split at h
 ·cases h;cases af;exact⟨[],rfl,.nil,.nil⟩
 ·rename_i b
  split at h
  ·rename_i g md ae
   cases h
   cases af with|@map _ l hm=>
    obtain⟨c,bt,bG,cZ⟩:=LW s ae hm
    exact⟨c,by simp only[uP,bt],bG,cZ⟩
  ·cases h
 ·cases h
theorem Wi(s:cT μ φ aj ha){k:e4}{zero x i v:J}{ok:Bool}{b c e:Value}(bq:bn μ φ zero b)(af:bn μ φ x c)(ag:bn μ φ i e)(h:re k zero ok x i aj=I v):∃v',xl k b ok c e ha=I v'/\bn μ φ v v':=by
 unfold re at h
 simp only[cN,de]at h
 obtain⟨c5,h1,r,h2,ak⟩:=h
 obtain⟨j,bt,bG,cZ⟩:=LX s af h1
 obtain⟨dD,cS,fk⟩:=Wg ag bG cZ h2
 simp only[xl,bt,dy,cS,dm]
 cases fk with
 |none=>cases ok with
  |false=>subst ak;exact⟨_,rfl,bq⟩
  |true=>subst ak;exact⟨_,rfl,.tuple (ys:=[b,.bool false]) (.cons bq (.cons (.bool _) .nil))⟩
 |@some _ g an=>cases ok with
  |false=>subst ak;exact⟨_,rfl,an⟩
  |true=>subst ak;exact⟨_,rfl,.tuple (ys:=[g,.bool true]) (.cons an (.cons (.bool _) .nil))⟩
theorem Wj(s:cT μ φ aj ha){k:e4}{x i v:J}{c e v':Value}{ck:U}(af:bn μ φ x c)(ag:bn μ φ i e)(aw:bn μ φ v v')(h:pn k x i v aj=I ck):
 ∃cf,uQ k c e v' ha=I cf/\cT μ φ ck cf/\Ext μ φ aj ha μ φ ck cf:=by
 unfold pn at h
 split at h
 ·rename_i b
  split at h
  ·rename_i c5 ae
   rw[de]at h
   obtain⟨q,h1,rfl⟩:=h
   cases af with|@map _ l hm=>
    obtain⟨m,bt,bG,cZ⟩:=LW s ae hm
    obtain⟨g,cS,fk,j⟩:=Wh ag aw bG cZ h1
    exact⟨_,by simp only[uQ,bt,cS,dm],s.r' ae trivial hm rfl ⟨g,rfl,fk,j⟩⟩
  ·cases h
 ·cases h
theorem Wk(s:cT μ φ aj ha){x v:J}{b:Value}(af:bn μ φ x b)(h:G' x aj=I v):∃v',xm b ha=I v'/\bn μ φ v v':=by
 unfold G' at h
 rw[de]at h
 obtain⟨c5,h1,rfl⟩:=h
 obtain⟨c,bt,bG,cZ⟩:=LX s af h1
 have:=bG.length
 simp only[dn]at this
 exact⟨.int .i64 c.length,by simp only[xm,bt,dm],by rw[this];exact .int _ _⟩
theorem Wl:∀{rows:List (List J)} {l:List Value} {b:List UInt8},bL μ φ rows.flatten l->Ar rows=I b->uR l=I b:=by
 intro rows
 induction rows with
 |nil=>intro l b h1 h;cases h1;exact h
 |cons r rows c=>
  intro l b h1 h
  unfold Ar at h
  split at h
  ·rename_i e;cases e
  ·rename_i n j e
   cases e
   rw[de]at h
   obtain⟨q,bs,rfl⟩:=h
   simp only[lK,List.cons_append,hy]at h1
   cases h1 with|cons g i=>
    cases g
    simp only[uR,c i bs,dm]
  ·cases h
theorem Wm(s:cT μ φ aj ha){x v:J}{b:Value}(af:bn μ φ x b)(h:Ha x aj=I v):∃v',xn b ha=I v'/\bn μ φ v v':=by
 unfold Ha at h
 split at h
 ·cases h
 ·rename_i e
  simp only[cN,de]at h
  obtain⟨rows,h1,i,h2,rfl⟩:=h
  obtain⟨bt,bG,cZ⟩:=Hg s af h1
  obtain⟨l,cS,fk⟩:=cZ rows.length (ca _)
  rw[h6]at fk
  have ak:=Wl fk h2
  have g:(∃a n c,b=.slice a n c):=by
   unfold kk at h1
   cases af<;>first|exact⟨_,_,_,rfl⟩|(simp at h1;done)|skip
   exact absurd rfl (e _)
  obtain⟨a,n,c,rfl⟩:=g
  have aA:n=rows.length:=jR bt
  subst aA
  cases a with
  |none=>
   simp only[kC]at cS
   split at cS
   ·cases cS
    cases ak
    exact⟨_,rfl,.str _⟩
   ·cases cS
  |some a=>
   simp only[kC]at cS
   simp only[xn]
   split at cS
   ·rename_i bq
    cases cS
    cases ak
    rw[aQ bq]
    exact⟨_,rfl,.str _⟩
   ·rename_i bq
    rw[aQ (ca _),Nat.mul_one]at cS
    rw[a1 bq,cS]
    exact⟨_,by simp only[dy,ak,dm],.str _⟩
theorem Az{lo n sz:Nat}{rows:List (List J)}{rows':List (List J)}{t:aX}{l:bB.Loc}{vs:List Value}{en:Bool}{c:Nat}(lS:φ l.blk=I (.cells vs t en))(bG:rows.length*sz<=vs.length)(cS:∀r∈rows,r.length=sz)(f_:rows.length<=da)
 (aA:lo+n<=rows.length) (aa:n<=c) (br:rows'.length=n) (cY:∀r∈rows',r.length=sz) (ck:rows'.flatten.all fz=true) (an:bL μ φ rows'.flatten ((vs.drop (lo*sz)).take (n*sz))):bn μ φ (.bz sz rows') (.slice (I ⟨l.blk,lo*sz,none⟩) n c):=by
 have b:da<et:=by decide
 have e_:lo*sz+n*sz<=rows.length*sz:=by rw[←h8];exact o0 _ aA
 exact .bz br.symm ⟨aa,by omega⟩ cY lS (by omega) ck an
theorem AA{rows:List (List J)}{sz lo n:Nat}{vs:List Value}(cZ:bL μ φ rows.flatten (vs.take (rows.length*sz)))(cS:∀r∈rows,r.length=sz)(aA:lo+n<=rows.length):bL μ φ ((rows.drop lo).take n).flatten ((vs.drop (lo*sz)).take (n*sz)):=by
 have e_:lo*sz+n*sz<=rows.length*sz:=by rw[←h8];exact o0 _ aA
 have h1:=(cZ.drop (lo*sz)).take (n*sz)
 rw[←Aw cS,←vo (size:=sz) (λr an=>cS r (rP an)),uw,qT,mb (by omega)]at h1
 exact h1
theorem LY(s:cT μ φ aj ha){b sz:Nat}{rows:List (List J)}{t:aX}{l:bB.Loc}(ae:aj[b]?=I (.log rows sz t .rw))(hm:μ b rows.length=I (I l)):
 ∃bD vs en,bD l.blk=I (.cells vs t en)/\cT μ bD (aj.set b (.log rows sz t .ro)) ha/\Ext μ φ aj ha μ bD (aj.set b (.log rows sz t .ro)) ha/\rows.length*sz<=vs.length/\bL μ φ rows.flatten (vs.take (rows.length*sz))/\(∀r∈rows,r.length=sz)/\rows.length<=da:=by
 obtain⟨vs,en,bt,bG,cZ,cS,fk,c,f_⟩:=ri s ae hm
 obtain⟨bD,bH,b1,c8⟩:=s.freeze (blk1:=.log rows sz t .ro) ae trivial hm bt rfl (λh=>by simp [nR,oE]at h) (by simp) (λbD aC=>⟨vs,en,rfl,bG,cZ.mono (ef.refl _) aC,cS,fk,(λh=>by simp [oE]at h),f_⟩)
 exact⟨bD,vs,en,bH,b1,c8,bG,cZ,cS,f_⟩
theorem LZ(s:cT μ φ aj ha){b sz:Nat}{rows:List (List J)}{t:aX}{l:bB.Loc}(ae:aj[b]?=I (.log rows sz t .ro))(hm:μ b rows.length=I (I l)):
 ∃bD vs en,bD l.blk=I (.cells vs t en)/\cT μ bD aj ha/\Ext μ φ aj ha μ bD aj ha/\rows.length*sz<=vs.length/\bL μ φ rows.flatten (vs.take (rows.length*sz))/\(∀r∈rows,r.length=sz)/\rows.length<=da:=by
 obtain⟨vs,en,bt,bG,cZ,cS,fk,o,f_⟩:=ri s ae hm
 obtain⟨bD,j⟩:∃bD:dk,bD=λa=>if a=l.blk then I (.cells vs t en)else φ a:=⟨_,rfl⟩
 have g:bD l.blk=I (.cells vs t en):=by rw[j];exact aQ rfl
 have i:∀a,a≠l.blk->bD a=φ a:=λa h=>by rw[j];exact a1 h
 have aC:gi φ bD:=λa x h=>by
  by_cases c:a=l.blk
  ·subst c
   rw[g,←s.bz _ _ h,bt]
  ·rw[i a c];exact h
 refine⟨bD,vs,en,g,⟨s.cc,λb blk h1 h2=>?_,s.inj,λk m n h1 h2 ak=>?_,λa x h=>?_,s.top⟩,⟨ca _,ca _,ef.refl _,aC,λ_ _ _=>rfl,λb blk l h1 h2 ak=>.inr ⟨b,blk,l,h1,h2,ak,rfl⟩⟩,bG,cZ,cS,f_⟩
 ·rcases s.rel b blk h1 h2 with h|⟨cB,blk',bH,b1,c8⟩
  ·exact .inl h
  ·exact .inr ⟨cB,blk',bH,b1,c8.mono (ef.refl _) aC⟩
 ·rw[i _ λe=>?_]
  ·exact s.sep k m n h1 h2 ak
  ·have:=s.inj k b m _ n l h1 (by rintro rfl;exact h2) ae (by simp) ak hm e
   subst this
   rw[ae]at h1
   cases h1
   simp [nR,oE]at h2
 ·by_cases c:a=l.blk
  ·subst c;rw[g]at h;cases h;exact bt
  ·rw[i a c]at h;exact s.bz a x h
def Wn(μ:Ren)(φ:dk)(aj:U)(ha:aP)(v:J)(v':Value)(q:J×U):Prop:=∃bD,bn μ bD q.1 v'/\cT μ bD q.2 ha/\Ext μ φ aj ha μ bD q.2 ha
theorem L1{b lo n jA sz:Nat}{v':Value}(h:bn μ φ (.ref b lo n jA sz) v'):(n=0/\∃a c,v'=.slice a 0 c/\(a=none->c=0))\/(0<n/\∃l c,μ b jA=I (I l)/\lo+n<=jA/\(c=et\/n<=c)/\v'=.slice (I ⟨l.blk,lo*sz,none⟩) n c):=by
 cases h with
 |jz _ a h=>exact .inl ⟨rfl,a,0,rfl,λ_=>rfl⟩
 |@ref _ _ _ _ _ c l h aA aa=>
  by_cases au:n=0
  ·subst au;exact .inl ⟨rfl,_,c,rfl,λh=>by cases h⟩
  ·refine .inr ⟨by omega,l,c,h,aA,?_,rfl⟩
   rcases aa with⟨rfl,_⟩|⟨_,h,_⟩
   ·exact .inl rfl
   ·exact .inr h
theorem bL.split{xs ys:List J}{b:List Value}(h:bL μ φ (xs++ys) b):∃c e,b=c++e/\bL μ φ xs c/\bL μ φ ys e:=by
 refine⟨b.take xs.length,b.drop xs.length,(qW _ _).symm,?_,?_⟩
 ·have:=h.take xs.length;rwa [uv]at this
 ·have:=h.drop xs.length;rwa [List.drop_left]at this
theorem AB{v:J}{v':Value}{sz:Nat}(h:bn μ φ v v')(aw:v=.bc\/v=.emp):bn μ φ (.bz sz []) v':=by
 rcases aw with rfl|rfl
 ·cases h;exact .m9 _
 ·cases h with|emp a=>exact x5 _ _ _ λ_=>rfl
theorem AD{n c k:Nat}(h:c=et\/n<=c)(aA:n<=k)(ad:k<=da):n<=c:=by
 rcases h with rfl|h
 ·have:da<et:=by decide
  omega
 ·exact h
mutual
theorem Hk:∀(f:fx) {φ:dk} {aj:U} {v:J} {v':Value} {q:J×U},cT μ φ aj ha->bn μ φ v v'->dh f v aj=I q->Wn μ φ aj ha v v' q
 |.ah,φ,aj,v,v',q,s,aw,h=>by
  unfold dh at h
  cases h
  exact⟨φ,aw,s,Ext.refl _ _ _ _⟩
 |.raw,φ,aj,v,v',q,s,aw,h=>by
  unfold dh at h
  split at h
  ·cases h
   cases aw
   exact⟨φ,.emp none,s,Ext.refl _ _ _ _⟩
  ·cases h
   exact⟨φ,aw,s,Ext.refl _ _ _ _⟩
 |.flat x4,φ,aj,v,v',q,s,aw,h=>by
  unfold dh at h
  split at h
  ·cases h;exact⟨φ,AB aw (.inl rfl),s,Ext.refl _ _ _ _⟩
  ·cases h;exact⟨φ,AB aw (.inr rfl),s,Ext.refl _ _ _ _⟩
  ·cases h;exact⟨φ,aw,s,Ext.refl _ _ _ _⟩
  ·rename_i b lo n jA sz
   rcases L1 aw with⟨rfl,a,c,rfl,aa⟩|⟨au,l,c,hm,aA,aa,rfl⟩
   ·rw[aQ rfl]at h
    cases h
    exact⟨φ,x5 _ _ _ aa,s,Ext.refl _ _ _ _⟩
   ·rw[a1 (by omega)]at h
    split at h
    ·rename_i rows sz' t ae
     split at h
     ·rename_i jX
      obtain⟨rfl,rfl,cR,d'⟩:=jX
      cases h
      obtain⟨bD,vs,en,bH,b1,c8,bG,cZ,cS,f_⟩:=LY s ae hm
      exact⟨bD,Az bH bG cS f_ cR (AD aa (by omega) f_) (by simp;omega) (λr an=>cS r (rP (od an))) d' ((AA cZ cS cR).mono (ef.refl _) c8.hM),b1,c8⟩
     ·cases h
    ·rename_i rows sz' t ae
     split at h
     ·rename_i jX
      obtain⟨rfl,rfl,cR,d'⟩:=jX
      cases h
      obtain⟨bD,vs,en,bH,b1,c8,bG,cZ,cS,f_⟩:=LZ s ae hm
      exact⟨bD,Az bH bG cS f_ cR (AD aa (by omega) f_) (by simp;omega) (λr an=>cS r (rP (od an))) d' ((AA cZ cS cR).mono (ef.refl _) c8.hM),b1,c8⟩
     ·cases h
    ·cases h
  ·cases h
 |.bO x4 cs,φ,aj,v,v',q,s,aw,h=>by
  unfold dh at h
  split at h
  ·cases h;exact⟨φ,AB aw (.inl rfl),s,Ext.refl _ _ _ _⟩
  ·cases h;exact⟨φ,AB aw (.inr rfl),s,Ext.refl _ _ _ _⟩
  ·cases h;exact⟨φ,aw,s,Ext.refl _ _ _ _⟩
  ·rename_i b lo n jA sz
   rcases L1 aw with⟨rfl,a,c,rfl,aa⟩|⟨au,l,c,hm,aA,aa,rfl⟩
   ·rw[aQ rfl]at h
    cases h
    exact⟨φ,x5 _ _ _ aa,s,Ext.refl _ _ _ _⟩
   ·rw[a1 (by omega)]at h
    split at h
    ·rename_i rows sz' t ae
     split at h
     ·rename_i jX
      obtain⟨rfl,rfl,cR⟩:=jX
      rw[cN]at h
      obtain⟨r,h1,h2⟩:=h
      split at h2
      ·rename_i x9
       cases h2
       obtain⟨bD,vs,en,bH,b1,c8,bG,cZ,cS,f_⟩:=LY s ae hm
       obtain⟨m_,cE,cD,dE,fe,gr⟩:=Hl cs ((rows.drop lo).take n) b1 ((AA cZ cS cR).mono (ef.refl _) c8.hM) h1
       refine⟨m_,Az (dE.hM _ _ bH) bG cS f_ cR (AD aa (by omega) f_) (by rw[fe];simp;omega) (gr _ λr an=>cS r (rP (od an))) x9 cE,cD,c8.trans dE⟩
      ·cases h2
     ·cases h
    ·rename_i rows sz' t ae
     split at h
     ·rename_i jX
      obtain⟨rfl,rfl,cR⟩:=jX
      rw[cN]at h
      obtain⟨r,h1,h2⟩:=h
      split at h2
      ·rename_i x9
       cases h2
       obtain⟨bD,vs,en,bH,b1,c8,bG,cZ,cS,f_⟩:=LZ s ae hm
       obtain⟨m_,cE,cD,dE,fe,gr⟩:=Hl cs ((rows.drop lo).take n) b1 ((AA cZ cS cR).mono (ef.refl _) c8.hM) h1
       refine⟨m_,Az (dE.hM _ _ bH) bG cS f_ cR (AD aa (by omega) f_) (by rw[fe];simp;omega) (gr _ λr an=>cS r (rP (od an))) x9 cE,cD,c8.trans dE⟩
      ·cases h2
     ·cases h
    ·cases h
  ·cases h
 |.agg cs,φ,aj,v,v',q,s,aw,h=>by
  unfold dh at h
  split at h
  ·rw[de]at h
   obtain⟨r,h1,rfl⟩:=h
   cases aw with|agg aw=>
    obtain⟨bD,cE,cD,dE⟩:=AE cs s aw h1
    exact⟨bD,.agg cE,cD,dE⟩
  ·cases h
theorem AE:∀(f:List fx) {φ:dk} {aj:U} {vs:List J} {b_:List Value} {q:List J×U},cT μ φ aj ha->bL μ φ vs b_->hK f vs aj=I q->∃bD,bL μ bD q.1 b_/\cT μ bD q.2 ha/\Ext μ φ aj ha μ bD q.2 ha
 |[],φ,aj,vs,b_,q,s,aw,h=>by
  cases aw with
  |nil=>unfold hK at h;cases h;exact⟨φ,.nil,s,Ext.refl _ _ _ _⟩
  |cons=>unfold hK at h;cases h
 |f::ey,φ,aj,vs,b_,q,s,aw,h=>by
  cases aw with
  |nil=>unfold hK at h;cases h
  |cons h1 h2=>
   unfold hK at h
   simp only[cN,de]at h
   obtain⟨a,nT,r,an,rfl⟩:=h
   obtain⟨nS,cE,cD,dE⟩:=Hk f s h1 nT
   obtain⟨m_,bt,bG,cZ⟩:=AE ey cD (h2.mono dE.hp dE.hM) an
   exact⟨m_,.cons (cE.mono cZ.hp cZ.hM) bt,bG,dE.trans cZ⟩
theorem Hl:∀(f:List fx) (rows:List (List J)) {φ:dk} {aj:U} {ws:List Value} {q:List (List J)×U},cT μ φ aj ha->bL μ φ rows.flatten ws->oC f rows aj=I q->
 ∃bD,bL μ bD q.1.flatten ws/\cT μ bD q.2 ha/\Ext μ φ aj ha μ bD q.2 ha/\q.1.length=rows.length/\∀sz,(∀r∈rows,r.length=sz)->∀r∈q.1,r.length=sz
 |f,[],φ,aj,ws,q,s,aw,h=>by
  unfold oC at h
  cases h
  exact⟨φ,aw,s,Ext.refl _ _ _ _,rfl,λ_ h=>h⟩
 |f,r::rows,φ,aj,ws,q,s,aw,h=>by
  unfold oC at h
  simp only[cN,de]at h
  obtain⟨a,nT,p,q7,rfl⟩:=h
  rw[lK]at aw
  obtain⟨bu,cP,rfl,h1,h2⟩:=aw.split
  obtain⟨nS,cE,cD,dE⟩:=AE f s h1 nT
  obtain⟨m_,bt,bG,cZ,cS,fk⟩:=Hl f rows cD (h2.mono dE.hp dE.hM) q7
  refine⟨m_,?_,bG,dE.trans cZ,by simp [cS],λsz az dD gd=>?_⟩
  ·rw[lK];exact(cE.mono cZ.hp cZ.hM).append bt
  ·rcases List.mem_cons.1 gd with rfl|gd
   ·have aD:=cE.length
    have aE:=h1.length
    have:=az r (by simp)
    omega
   ·exact fk sz (λr an=>az r (by simp [an])) dD gd
end
theorem e9.cut{aV:Ren}{bD:dk}{K c n:Nat}{b:cq}{a a0:h9}(hd:∀b k l,μ b k=I l->b<n)(au:e9 μ φ c b a0)(h:e9 aV bD K b a):e9 (aN.cut aV n) bD K b a:=by
 cases b with
 |box vs t md=>
  obtain⟨_,_,_,_,g,_⟩:=au
  obtain⟨v,r,h1,h2,ak,aH⟩:=h
  exact⟨v,r,h1,h2,bL.lt hd ak g,aH⟩
 |log rows sz t md=>
  obtain⟨_,_,_,_,g,_⟩:=au
  obtain⟨v,r,h1,h2,ak,aH,aM,bp⟩:=h
  exact⟨v,r,h1,h2,bL.lt hd ak g,aH,aM,bp⟩
 |map c5=>
  obtain⟨_,_,cE,cD⟩:=au
  obtain⟨e,h1,h2,ak⟩:=h
  exact⟨e,h1,bL.lt hd h2 cE,bL.lt hd ak cD⟩
 |loop=>
  obtain⟨_,_,g⟩:=au
  obtain⟨e,h1,h2⟩:=h
  exact⟨e,h1,bL.lt hd h2 g⟩
 |dead=>trivial
theorem e9.under{K n:Nat}{b:cq}{a:h9}(av:jy n b)(h:e9 μ φ K b a):e9 (aN.cut μ n) φ K b a:=by
 cases b with
 |box vs t md=>obtain⟨v,r,h1,h2,ak,aH⟩:=h;exact⟨v,r,h1,h2,ak.under av,aH⟩
 |log rows sz t md=>obtain⟨v,r,h1,h2,ak,aH,aM,bp⟩:=h;exact⟨v,r,h1,h2,ak.under av,aH,aM,bp⟩
 |map c5=>
  obtain⟨e,h1,h2,ak⟩:=h
  exact⟨e,h1,h2.under (λx af=>by obtain⟨y,ba,rfl⟩:=List.mem_map.1 af;exact(av y ba).1),ak.under (λx af=>by obtain⟨y,ba,rfl⟩:=List.mem_map.1 af;exact(av y ba).2)⟩
 |loop=>obtain⟨e,h1,h2⟩:=h;exact⟨e,h1,h2.under av⟩
 |dead=>trivial
theorem AF{d_:Ren}{g:dk}{au:U}{i:aP}(j:cT d_ g au i)(s:cT μ φ aj ha)(x:Ext d_ g au i μ φ aj ha){roots:List J}{roots':List Value}(an:bL μ φ roots roots'):
 ∃aV,bL aV φ roots roots'/\cT aV φ (trim au roots aj) ha/\Ext d_ g au i aV φ (trim au roots aj) ha:=by
 unfold trim
 split
 ·rename_i aa
  obtain⟨cR,d'⟩:=aa
  have hd:∀b k l,d_ b k=I l->b<au.length:=λb k l h=>(j.cc b k l h).1
  have c:∀b blk,(aj.take au.length)[b]?=I blk->b<au.length/\aj[b]?=I blk:=λb blk h=>by
   have:=m' h
   rw[kz]at this
   refine⟨by omega,?_⟩
   rwa [F1,aQ (by omega)]at h
  have e:∀{b k o},cut μ au.length b k=I o->μ b k=I o:=λh=>VC _ _ _ _ _ h
  refine⟨cut μ au.length,an.under cR,⟨λb k o h=>?_,λb blk h m=>?_,λb bf blk blk' l cB h1 h2 ak aH aM bp cl=>?_,λb blk l h1 h2 ak=>?_,s.bz,λb blk k o h1 h2 ak=>?_⟩,⟨?_,x.qd,λb k l h=>?_,x.hM,x.frame,λb blk l h1 h2 ak=>?_⟩⟩
  ·have h1:=e h
   obtain⟨bH,b1⟩:=s.cc b k o h1
   refine⟨?_,b1⟩
   unfold cut at h
   split at h
   ·rw[kz];omega
   ·cases h
  ·obtain⟨ae,h⟩:=c b blk h
   rcases s.rel b blk h m with⟨bH,b1⟩|⟨l,blk',bH,b1,c8⟩
   ·exact .inl ⟨by rw[rh ae];exact bH,b1⟩
   ·refine .inr ⟨l,blk',by rw[rh ae];exact bH,b1,?_⟩
    rcases d' b ae with aM|⟨p,aM,bp⟩
    ·rw[h]at aM
     rcases j.rel b blk aM.symm m with⟨_,_,_,_,rfl⟩|⟨eY,q,_,_,n⟩
     ·exact c8.under (λx af=>by simp at af)
     ·exact e9.cut hd n c8
    ·rw[h]at aM
     cases aM
     exact c8.under bp
  ·exact s.inj b bf blk blk' l cB (c b blk h1).2 h2 (c bf blk' ak).2 aH (e aM) (e bp) cl
  ·exact s.sep b blk l (c b blk h1).2 h2 (e ak)
  ·exact s.top b blk k o (c b blk h1).2 h2 (e ak)
  ·rw[kz];have:=x.le;omega
  ·rw[rh (hd _ _ _ h)];exact x.hp _ _ _ h
  ·exact x.vn b blk l (c b blk h1).2 h2 (e ak)
 ·exact⟨μ,an,s,x⟩
theorem kl(h:U):(lock h).length=h.length:=by simp [lock]
theorem sa{h:U}{b:Nat}{blk:cq}(e:(lock h)[b]?=I blk):∃c,h[b]?=I c/\blk=nP c:=by
 unfold lock at e
 rw[ja,de]at e
 obtain⟨cd,h1,h2⟩:=e
 exact⟨cd,h1,h2.symm⟩
theorem vr(b:cq):ver (nP b)=ver b:=by
 unfold nP
 split<;>rfl
theorem x_{b:cq}:nP b=.dead↔b=.dead:=by
 unfold nP
 split<;>simp
theorem L2{b:cq}:nR (nP b)↔nR b:=by
 unfold nP
 split<;>simp [nR,oE]
theorem Hm(b:cq):¬kL (nP b):=by
 intro h
 unfold nP at h
 split at h<;>first|exact h|skip
 rename_i b h1 h2 ak aH
 unfold kL at h
 split at h
 ·exact h1 _ _ rfl
 ·exact h2 _ _ _ rfl
 ·exact ak _ rfl
 ·exact aH _ _ _ _ _ _ _ rfl
 ·exact h
theorem Wo{K:Nat}{b:cq}{a:h9}(h:e9 μ φ K b a):e9 μ φ K (nP b) a:=by
 unfold nP
 split
 ·obtain⟨v,r,h1,h2,ak,aH⟩:=h;exact⟨v,r,h1,h2,ak,λ_=>aH rfl⟩
 ·obtain⟨v,r,h1,h2,ak,aH,aM,bp,cl⟩:=h;exact⟨v,r,h1,h2,ak,aH,aM,λ_=>bp rfl,cl⟩
 ·exact h
 ·exact h
 ·exact h
theorem L3(s:cT μ φ aj ha):cT μ φ (lock aj) ha where
 cc b k o h:=by rw[kl];exact s.cc b k o h
 rel b blk h hd:=by
  obtain⟨cd,h1,rfl⟩:=sa h
  rcases s.rel b cd h1 (λe=>hd (x_.2 e))with⟨bH,sz,t,md,rfl⟩|⟨l,blk',bH,b1,c8⟩
  ·refine .inl ⟨by rw[vr];exact bH,?_⟩
   cases md<;>exact⟨_,_,_,rfl⟩
  ·exact .inr ⟨l,blk',by rw[vr];exact bH,b1,Wo c8⟩
 inj b bf blk blk' l cB h1 h2 ak aH aM bp cl:=by
  obtain⟨cd,bt,rfl⟩:=sa h1
  obtain⟨cO,bG,rfl⟩:=sa ak
  rw[vr]at aM bp
  exact s.inj b bf cd cO l cB bt (λe=>h2 (x_.2 e)) bG (λe=>aH (x_.2 e)) aM bp cl
 sep b blk l h1 h2 ak:=by
  obtain⟨cd,bt,rfl⟩:=sa h1
  rw[vr]at ak
  exact s.sep b cd l bt (L2.1 h2) ak
 bz:=s.bz
 top b blk k o h1 h2 ak:=by
  obtain⟨cd,bt,rfl⟩:=sa h1
  rw[vr]
  exact s.top b cd k o bt (λe=>h2 (x_.2 e)) ak
theorem Wp{aV:Ren}{bD:dk}{ck:U}{cf:aP}(x:Ext μ φ (lock aj) ha aV bD ck cf):∀a,a<ha.length->cf[a]?=ha[a]?:=λa h=>x.frame a h λb blk l h1 h2 ak=>by
 obtain⟨cd,bt,rfl⟩:=sa h1
 exact absurd h2 (Hm cd)
theorem Wq{α:Type}{a b:List α}(av:a.length<=b.length)(h:∀i,i<a.length->b[i]?=a[i]?):a <+: b:=by
 refine⟨b.drop a.length,gn λi=>?_⟩
 by_cases ag:i<a.length
 ·rw[cG ag,h i ag]
 ·rw[ma (by omega),oZ];congr 1;omega
theorem Wr{aV:Ren}{bD:dk}{ck:U}{cf:aP}(s:cT μ φ aj ha)(g:cT aV bD ck cf)(x:Ext μ φ (lock aj) ha aV bD ck cf)(u:lock aj <+: ck):
 ha <+: cf/\cT aV bD (aj++ck.drop aj.length) cf/\Ext μ φ aj ha aV bD (aj++ck.drop aj.length) cf:=by
 have p:=Wp x
 obtain⟨t,aO⟩:=u
 have br:aj.length<=ck.length:=by rw[←aO,dW,kl];omega
 have w:∀b,b<aj.length->(aj++ck.drop aj.length)[b]?=aj[b]?:=λb ae=>cG ae
 have y:∀b,aj.length<=b->(aj++ck.drop aj.length)[b]?=ck[b]?:=λb ae=>by
  rw[ma ae,oZ];congr 1;omega
 have z:∀b blk,b<aj.length->aj[b]?=I blk->ck[b]?=I (nP blk):=λb blk ae h=>by
  rw[←aO,cG (by rw[kl];exact ae)]
  unfold lock
  rw[ja,h]
  rfl
 have i:∀b blk,(aj++ck.drop aj.length)[b]?=I blk->∃blk',ck[b]?=I blk'/\ver blk'=ver blk/\(blk'=.dead↔blk=.dead)/\(nR blk'↔nR blk)/\(b<aj.length/\aj[b]?=I blk\/aj.length<=b/\blk'=blk):=λb blk h=>by
  by_cases ae:b<aj.length
  ·rw[w b ae]at h
   exact⟨_,z b blk ae h,vr _,x_,L2,.inl ⟨ae,h⟩⟩
  ·rw[y b (by omega)]at h
   exact⟨blk,h,rfl,Iff.rfl,Iff.rfl,.inr ⟨by omega,rfl⟩⟩
 refine⟨Wq x.qd p,⟨λb k o h=>?_,λb blk h hd=>?_,λb bf blk blk' l cB h1 h2 ak aH aM bp cl=>?_,λb blk l h1 h2 ak=>?_,g.bz,λb blk k o h1 h2 ak=>?_⟩,⟨by simp,x.qd,x.hp,x.hM,λa h1 h2=>p a h1,λb blk l h1 h2 ak=>?_⟩⟩
 ·obtain⟨bH,b1⟩:=g.cc b k o h
  exact⟨by rw[dW,wT];omega,b1⟩
 ·obtain⟨blk',bt,bG,cZ,cS,fk⟩:=i b blk h
  rcases fk with⟨ae,fk⟩|⟨ae,rfl⟩
  ·rcases s.rel b blk fk hd with⟨bH,b1⟩|⟨l,q,bH,b1,c8⟩
   ·exact .inl ⟨x.hp _ _ _ bH,b1⟩
   ·exact .inr ⟨l,q,x.hp _ _ _ bH,by rw[p _ ((s.cc _ _ _ bH).2 l rfl)];exact b1,c8.mono x.hp x.hM⟩
  ·exact g.rel b _ bt hd
 ·obtain⟨cR,d1,j,m,n,c⟩:=i b blk h1
  obtain⟨d',aD,aE,A,B,C⟩:=i bf blk' ak
  exact g.inj b bf cR d' l cB d1 (λe=>h2 (m.1 e)) aD (λe=>aH (A.1 e)) (by rw[j];exact aM) (by rw[aE];exact bp) cl
 ·obtain⟨cR,d1,j,m,n,c⟩:=i b blk h1
  exact g.sep b cR l d1 (n.2 h2) (by rw[j];exact ak)
 ·obtain⟨cR,d1,j,m,n,c⟩:=i b blk h1
  have:=g.top b cR k o d1 (λe=>h2 (m.1 e)) ak
  omega
 ·obtain⟨cR,d1,j,m,n,c⟩:=i b blk h1
  rcases c with⟨ae,c⟩|⟨ae,rfl⟩
  ·rcases s.rel b blk c h2.live with⟨bH,b1⟩|⟨eY,q,bH,b1,c8⟩
   ·have:=x.hp _ _ _ bH
    rw[ak]at this
    cases this
   ·have:=x.hp _ _ _ bH
    rw[ak]at this
    cases this
    exact .inr ⟨b,blk,l,c,h2,bH,rfl⟩
  ·rcases x.vn b cR l d1 h2 ak with aH|⟨cd,D,eY,bH,b1,_⟩
   ·exact .inl aH
   ·obtain⟨cO,_,rfl⟩:=sa bH
    exact absurd b1 (Hm _)
end Go.aN
namespace Go.aN
open Go.bB
variable {μ : Ren} {φ : dk} {aj : U} {ha : aP}
def fG(μ:Ren)(φ:dk)(e:ej)(b:bJ):Prop:=∀i,bn μ φ (e i) (b i)
theorem fG.mono{aV:Ren}{bD:dk}{e:ej}{b:bJ}(h:fG μ φ e b)(hm:ef μ aV)(aC:gi φ bD):fG aV bD e b:=λi=>(h i).mono hm aC
theorem fG.bK{e:ej}{b:bJ}(h:fG μ φ e b){v:J}{v':Value}(aw:bn μ φ v v')(i:Nat):fG μ φ (m5 e i v) (bB.bK b i v'):=λj=>by
 unfold m5 bB.bK
 cases cC i j
 ·exact h j
 ·exact aw
theorem fG.gT{e:ej}{b:bJ}(h:fG μ φ e b){v:J}{v':Value}(aw:bn μ φ v v')(d:Option Nat):fG μ φ (nN e d v) (bB.gT b d v'):=by
 cases d with
 |none=>exact h
 |some i=>exact h.bK aw i
theorem fG.dI{e:ej}{b:bJ}(h:fG μ φ e b)(l:List Nat):fG μ φ (q9 e l) (jV b l):=by
 induction l with
 |nil=>exact h
 |cons i r c=>exact c.bK (.dI _) i
theorem Ws{vs:List J}{b_:List Value}(h:bL μ φ vs b_):bn μ φ (vs.headD iI) (b_.headD Go.undef):=by
 cases h with
 |nil=>exact bn.undef
 |cons h _=>exact h
theorem Wt{vs:List J}{b_:List Value}(h:bL μ φ vs b_):bL μ φ vs.tail b_.tail:=by
 cases h with
 |nil=>exact .nil
 |cons _ h=>exact h
theorem fG.fv{e:ej}{b:bJ}:∀(l:List Nat) {vs:List J} {b_:List Value},fG μ φ e b->bL μ φ vs b_->fG μ φ (oB e l vs) (bB.fv b l b_)
 |[],_,_,h,_=>h
 |i::r,_,_,h,aw=>(fG.fv r h (Wt aw)).bK (Ws aw) i
theorem fG.getMany{e:ej}{b:bJ}(h:fG μ φ e b):∀(l:List Nat),bL μ φ (mj e l) (bB.getMany b l)
 |[]=>.nil
 |i::r=>.cons (h i) (fG.getMany h r)
theorem fG.val{e:ej}{b:bJ}(h:fG μ φ e b)(x:Operand):bn μ φ (dT e x) (bB.val b x):=by
 cases x with
 |tmp t=>exact h t
 |const v=>exact bn.tm v
 |global g=>exact .dI _
 |func f=>exact .func f .nil .nil
theorem fG.c6{e:ej}{b:bJ}(h:fG μ φ e b):∀(l:List Operand),bL μ φ (r8 e l) (bB.c6 b l)
 |[]=>.nil
 |x::r=>.cons (h.val x) (fG.c6 h r)
theorem fG.iF{e:ej}{b:bJ}(h:fG μ φ e b)(x:Option Operand):hH μ φ (vk e x) (bB.iF b x):=by
 cases x with
 |none=>exact .none
 |some x=>exact .some (h.val x)
theorem fG.mT{e:ej}{b:bJ}(h:fG μ φ e b):∀(l:List (Nat×Nat×Operand)),x6 μ φ (vl e l) (bB.mT b l)
 |[]=>.nil
 |(i,n,x)::r=>.cons (h.val x) (fG.mT h r)
def iZ(Γ:aR)(c:bB.Callee):Prop:=∀f args aj r ck,Γ f args aj=I (r,ck)->∀μ φ ha b,cT μ φ aj ha->bL μ φ args b->
 ∃dD cf aV bD,c f b ha=I (dD,cf)/\bn aV bD r dD/\cT aV bD ck cf/\Ext μ φ aj ha aV bD ck cf
theorem Wu{b:Nat}{args:List J}{c:List Value}{l:bB.Loc}(h:μ b 0=I (I l))(ha:bL μ φ args c):bL μ φ (.ptr b 0::args) (hS l.blk 0::c):=.cons (.ptr h) ha
theorem Wv{Γ:aR}{c:bB.Callee}(e:iZ Γ c)(s:cT μ φ aj ha){f:J}{bR:Value}{args:List J}{i:List Value}{r:J}{ck:U}(aC:bn μ φ f bR)(j:bL μ φ args i)(h:gh Γ f args aj=I (r,ck)):
 ∃dD cf aV bD,og c bR i ha=I (dD,cf)/\bn aV bD r dD/\cT aV bD ck cf/\Ext μ φ aj ha aV bD ck cf:=by
 unfold gh at h
 split at h
 ·rename_i g xs ys
  cases aC with|@func _ _ _ eX eM af ba=>
   cases ae:fD g dP with
   |false=>rw[ae]at h;cases h
   |true=>
    rw[ae]at h
    obtain⟨dD,cf,aV,bD,bH,q⟩:=e _ _ _ _ _ h μ φ ha _ s ((af.append j).append ba)
    exact⟨dD,cf,aV,bD,by unfold og;simp only[ae,gq];exact bH,q⟩
 ·rename_i b
  cases aC with|@yield _ l hm=>
   obtain⟨dD,cf,aV,bD,bH,q⟩:=e _ _ _ _ _ h μ φ ha _ s (Wu hm j)
   exact⟨dD,cf,aV,bD,bH,q⟩
 ·cases h
theorem Ww{Γ:aR}{b:bB.Callee}(e:iZ Γ b)(s:cT μ φ aj ha){f:J}{bR:Value}{args:List J}{c:List Value}{r:J}{ck:U}(aC:bn μ φ f bR)(i:bL μ φ args c)(h:po Γ f args aj=I (r,ck)):
 ∃dD cf aV bD,rX b bR c ha=I (dD,cf)/\bn aV bD r dD/\cT aV bD ck cf/\Ext μ φ aj ha aV bD ck cf:=by
 unfold po at h
 split at h
 ·rename_i g xs ys
  cases aC with|@func _ _ _ eX eM af ba=>
   cases ae:fD g dP with
   |false=>rw[ae]at h;cases h
   |true=>
    rw[ae]at h
    obtain⟨dD,cf,aV,bD,bH,q⟩:=e _ _ _ _ _ h μ φ ha _ s ((af.append i).append ba)
    exact⟨dD,cf,aV,bD,by unfold rX;simp only[ae,gq];exact bH,q⟩
 ·cases h
theorem L4{zero:List J}{b:List Value}(h:bL μ φ zero b)(n:Nat):bL μ φ (hL zero n) (rep b n):=by
 induction n with
 |zero=>exact .nil
 |succ n c=>exact h.append c
theorem L5(zero:List J)(n:Nat):(hL zero n).length=n*zero.length:=by
 induction n with
 |zero=>simp [hL]
 |succ n b=>rw[hL,dW,b,h8];omega
theorem L6:∀{bC:List (Nat×Nat×J)} {cs r:List J},cK cs bC=I r->r.length=cs.length:=by
 intro bC
 induction bC with
 |nil=>intro cs r h;cases h;rfl
 |cons p bC b=>
  intro cs r h
  obtain⟨off,size,v⟩:=p
  simp only[cK]at h
  split at h
  ·rename_i aa
   have:=b h
   rw[this]
   simp
   omega
  ·cases h
theorem L7(sz n:Nat)(l:List J):(hJ sz n l).length=n:=by
 induction n generalizing l with
 |zero=>rfl
 |succ n b=>simp [hJ,b]
theorem Hn(sz n:Nat)(l:List J)(h:l.length=n*sz):(hJ sz n l).flatten=l:=by
 induction n generalizing l with
 |zero=>rw[mK]at h;rw[gy h];rfl
 |succ n b=>
  rw[h8]at h
  rw[hJ,lK,b _ (by rw[wT];omega),qW]
theorem L8(sz n:Nat)(l:List J)(h:l.length=n*sz):∀r∈hJ sz n l,r.length=sz:=by
 induction n generalizing l with
 |zero=>intro r an;cases an
 |succ n b=>
  rw[h8]at h
  intro r an
  rcases List.mem_cons.1 an with rfl|an
  ·rw[kz];omega
  ·exact b _ (by rw[wT];omega) r an
theorem cT.L9(s:cT μ φ aj ha)(blk':h9):∃bD,bD ha.length=I blk'/\gi φ bD/\cT μ bD aj (ha++[blk'])/\Ext μ φ aj ha μ bD aj (ha++[blk']):=by
 have g:∀a blk,φ a=I blk->a<ha.length:=λa blk e=>m' (s.bz a blk e)
 obtain⟨bD,i⟩:∃bD:dk,bD=λa=>if a=ha.length then I blk' else φ a:=⟨_,rfl⟩
 have j:bD ha.length=I blk':=by rw[i];exact aQ rfl
 have c:∀a,a≠ha.length->bD a=φ a:=λa h=>by rw[i];exact a1 h
 have aC:gi φ bD:=λa x h=>by rw[c a (by have:=g a x h;omega)];exact h
 refine⟨bD,j,aC,⟨λb k o h=>?_,λb blk h hd=>?_,s.inj,λb blk l h1 h2 ak=>?_,λa x h=>?_,s.top⟩,⟨ca _,by simp,ef.refl _,aC,λa h _=>cG h,λb blk l h1 h2 ak=>.inr ⟨b,blk,l,h1,h2,ak,rfl⟩⟩⟩
 ·obtain⟨bH,b1⟩:=s.cc b k o h
  exact⟨bH,λl e=>by rw[dW];have:=b1 l e;omega⟩
 ·rcases s.rel b blk h hd with h|⟨l,n,bH,b1,c8⟩
  ·exact .inl h
  ·exact .inr ⟨l,n,bH,by rw[cG ((s.cc _ _ _ bH).2 l rfl)];exact b1,c8.mono (ef.refl _) aC⟩
 ·rw[c _ (by have:=(s.cc _ _ _ ak).2 l rfl;omega)]
  exact s.sep b blk l h1 h2 ak
 ·by_cases m:a=ha.length
  ·subst m;rw[j]at h;cases h;simp
  ·rw[c a m]at h
   rw[cG (g a x h)]
   exact s.bz a x h
section
variable {R lW : Type} {Q : R -> lW -> Prop}
def L_(Q:R->lW->Prop)(μ:Ren)(φ:dk)(aj:U)(ha:aP)(k:J->U->Option R)(ka:Value->aP->Option lW):Prop:=
 ∀v ck r v' cf aV bD,k v ck=I r->bn aV bD v v'->cT aV bD ck cf->Ext μ φ aj ha aV bD ck cf->∃b,ka v' cf=I b/\Q r b
theorem iJ{x:Option J}{y:Option Value}{k:J->U->Option R}{ka:Value->aP->Option lW}(s:cT μ φ aj ha)(ad:L_ Q μ φ aj ha k ka)(c:∀v,x=I v->∃v',y=I v'/\bn μ φ v v'){r:R}(h:(x.bind λv=>k v aj)=I r):
 ∃b,(y.bind λv=>ka v ha)=I b/\Q r b:=by
 rw[cN]at h
 obtain⟨v,h1,h2⟩:=h
 obtain⟨v',ak,aH⟩:=c v h1
 obtain⟨b,aM,bp⟩:=ad v aj r v' ha μ φ h2 aH s (Ext.refl _ _ _ _)
 exact⟨b,by rw[ak];exact aM,bp⟩
theorem AG{Γ:aR}{q:bB.Callee}(w:iZ Γ q)(o:vf){e:ej}{p:bJ}(he:fG μ φ e p)(s:cT μ φ aj ha){k:J->U->Option R}{ka:Value->aP->Option lW}(ad:L_ Q μ φ aj ha k ka){r:R}(h:gC Γ o e aj k=I r):
 ∃g,c7 q (GZ o) p ha ka=I g/\Q r g:=by
 cases o with
 |r6 t sz=>
  simp only[gC]at h
  split at h
  ·obtain⟨bH,b1⟩:=s.ghost sz t .rw
   exact ad _ _ _ _ _ _ _ h (.jz _ none (jc _ _ _ _)) bH b1
  ·cases h
 |vg om t fj sz=>
  simp only[gC]at h
  split at h
  ·obtain⟨bH,b1⟩:=s.ghost sz fj .rw
   have an:bn (put μ aj.length 0 none) φ (.ref aj.length 0 0 0 sz) (.slice none 0 0):=.jz _ none (jc _ _ _ _)
   obtain⟨cE,cD⟩:=bH.push (.box [.ref aj.length 0 0 0 sz] t .rw) (.cells [.slice none 0 0] t true) 0 ⟨_,true,rfl,by simp,.cons (an.mono (qe bH _ _) (gi.refl _)) .nil,λ_=>rfl⟩
   have br:(aj++[cq.log [] sz fj .rw]).length=aj.length+1:=by simp
   rw[br]at cE cD
   have aD:aj++[cq.log [] sz fj .rw]++[cq.box [.ref aj.length 0 0 0 sz] t .rw]=aj++[cq.log [] sz fj .rw,cq.box [.ref aj.length 0 0 0 sz] t .rw]:=by simp
   rw[aD]at cE cD
   cases om
   ·exact ad _ _ _ (hS ha.length 0) _ _ _ h (.ptr (jc _ _ _ _)) cE (b1.trans cD)
   ·exact ad _ _ _ (hS ha.length 0) _ _ _ h (.ptr (jc _ _ _ _)) cE (b1.trans cD)
  ·cases h
 |lQ t zero n parts=>
  simp only[gC]at h
  split at h
  ·rename_i aa
   rw[cN]at h
   obtain⟨l,h1,h2⟩:=h
   split at h2
   ·rename_i x9
    obtain⟨cB,ak,aH⟩:=Hf (L4 (bL.gg zero) n) (he.mT parts) h1
    obtain⟨bD,bH,b1,c8,j⟩:=s.L9 (.cells cB t true)
    have av:l.length=n*zero.length:=by rw[L6 h1,L5];simp [pq]
    have u:=aH.length
    have z:da<et:=by decide
    obtain⟨g,bt,bG⟩:=ad _ _ _ (.slice (I ⟨ha.length,0,none⟩) n n) _ _ _ h2 (.bz (vs:=cB) (t:=t) (rw:=true) (L7 _ _ _).symm ⟨ca _,by omega⟩ (L8 _ _ _ av) bH (by omega) (by rw[Hn _ _ _ av];exact x9) (by
     rw[Hn _ _ _ av,o4,←av,u,h6];exact aH.mono (ef.refl _) b1)) c8 j
    refine⟨g,?_,bG⟩
    show((o6 _ _).bind _)=_
    rw[ak]
    exact bt
   ·cases h2
  ·cases h
 |a o=>
  cases o with
  |move x=>exact ad _ _ _ _ _ _ _ h (he.val x) s (Ext.refl _ _ _ _)
  |pick c a b=>exact iJ s ad (λv h=>VR (he.val _) (he.val _) (he.val _) h) h
  |bin op x y=>exact iJ s ad (λv h=>VH (he.val _) (he.val _) h) h
  |mQ neg x y=>exact iJ s ad (λv h=>VI (he.val _) (he.val _) h) h
  |isNil t neg x=>
   simp only[gC,m6]at h
   split at h
   ·rename_i A
    obtain⟨b,ae⟩:=VK (neg:=neg) (he.val x) A
    unfold both at h
    split at h
    ·rename_i B
     have h':k (.bool b) aj=I r:=by
      cases b
      ·rw[←B];exact h
      ·exact h
     obtain⟨g,bt,bG⟩:=ad _ _ _ _ _ _ _ h' (.bool b) s (Ext.refl _ _ _ _)
     exact⟨g,by show((s7 _ _ _).bind _)=_;rw[ae];exact bt,bG⟩
    ·cases h
   ·exact iJ s ad (λv h=>VJ (he.val _) h) h
  |nC c3 neg x y=>exact iJ s ad (λv h=>VM (he.val _) (he.val _) h) h
  |un op x=>exact iJ s ad (λv h=>VN (he.val _) h) h
  |conv t x=>exact iJ s ad (λv h=>VP (he.val _) h) h
  |xh x=>exact iJ s ad (λv h=>VO (he.val _) h) h
  |len str x=>exact iJ s ad (λv h=>VQ (he.val _) h) h
  |extract x i=>exact iJ s ad (λv h=>VS (he.val _) h) h
  |field agg off size x=>exact iJ s ad (λv h=>VT (he.val _) h) h
  |q0 n agg size x i=>exact iJ s ad (λv h=>VU (he.val _) (he.val _) h) h
  |mR x i=>exact iJ s ad (λv h=>VV (he.val _) (he.val _) h) h
  |fieldAddr off x=>exact iJ s ad (λv h=>LP (he.val _) h) h
  |indexAddr size x i=>exact iJ s ad (λv h=>VX (he.val _) (he.val _) h) h
  |xi n size x i=>exact iJ s ad (λv h=>VZ (he.val _) (he.val _) h) h
  |nilCheck x=>exact iJ s ad (λv h=>V0 (he.val _) h) h
  |slice size x lo ag mx=>exact iJ s ad (λv h=>V2 (he.val _) (he.iF _) (he.iF _) (he.iF _) h) h
  |xj x lo ag=>exact iJ s ad (λv h=>V3 (he.val _) (he.iF _) (he.iF _) h) h
  |xk=>cases h
  |max xs=>exact iJ s ad (λv h=>LR (λ_ _ _ _ _=>V4) (he.c6 _) h) h
  |min xs=>exact iJ s ad (λv h=>LR (λ_ _ _ _ _=>V5) (he.c6 _) h) h
  |build zero parts=>
   simp only[gC,cN]at h
   obtain⟨l,h1,h2⟩:=h
   obtain⟨cB,ak,aH⟩:=Hf (bL.gg zero) (he.mT parts) h1
   obtain⟨g,bt,bG⟩:=ad _ _ _ _ _ _ _ h2 (.agg aH) s (Ext.refl _ _ _ _)
   exact⟨g,by show((o6 _ _).bind _)=_;rw[ak];exact bt,bG⟩
  |jW f first nD=>exact ad _ _ _ _ _ _ _ h (.func f (he.c6 _) (he.c6 _)) s (Ext.refl _ _ _ _)
  |s8 t x=>exact ad _ _ _ _ _ _ _ h (.iface t (he.val x)) s (Ext.refl _ _ _ _)
  |box t x=>
   by_cases aA:(b' (dT e x)).length=0
   ·have C:b' (dT e x)=[]:=gy aA
    simp only[gC,C]at h
    obtain⟨bH,b1⟩:=s.push (.box [] t .rw) (.cells (kA (bB.val p x)) t true) 0 ⟨_,true,rfl,by simp,.nil,λ_=>rfl⟩
    exact ad _ _ _ (hS ha.length 0) _ _ _ h (.ptr (jc _ _ _ _)) bH b1
   ·have m:=(he.val x).cells aA
    obtain⟨bH,b1⟩:=s.push (.box (b' (dT e x)) t .rw) (.cells (kA (bB.val p x)) t true) 0 ⟨_,true,rfl,by rw[m.length];exact ca _,by rw[m.length,h6];exact m.mono (qe s _ _) (gi.refl _),λ_=>rfl⟩
    exact ad _ _ _ (hS ha.length 0) _ _ _ h (.ptr (jc _ _ _ _)) bH b1
  |new t zero=>
   have m:bL μ φ (pq zero) zero:=bL.gg zero
   obtain⟨bH,b1⟩:=s.push (.box (pq zero) t .rw) (.cells zero t true) 0 ⟨_,true,rfl,by rw[m.length];exact ca _,by rw[m.length,h6];exact m.mono (qe s _ _) (gi.refl _),λ_=>rfl⟩
   exact ad _ _ _ (hS ha.length 0) _ _ _ h (.ptr (jc _ _ _ _)) bH b1
  |buildSlice t zero n parts=>
   simp only[gC]at h
   split at h
   ·rename_i aa
    rw[cN]at h
    obtain⟨l,h1,h2⟩:=h
    obtain⟨cB,ak,aH⟩:=Hf (L4 (bL.gg zero) n) (he.mT parts) h1
    have av:l.length=n*zero.length:=by rw[L6 h1,L5];simp [pq]
    have u:=aH.length
    have z:da<et:=by decide
    have m:=L7 zero.length n l
    have D:=Hn zero.length n l av
    obtain⟨bH,b1⟩:=s.push (.log (hJ zero.length n l) zero.length t .rw) (.cells cB t true) n ⟨_,true,rfl,by rw[m];omega,by rw[m,D,←av,u,h6];exact aH.mono (qe s _ _) (gi.refl _),L8 _ _ _ av,by omega,λ_=>rfl,by rw[m];exact aa.2.2⟩
    obtain⟨g,bt,bG⟩:=ad _ _ _ (.slice (I ⟨ha.length,0,none⟩) n n) _ _ _ h2 (by
     have:=bn.ref (μ:=put μ aj.length (ver (.log (hJ zero.length n l) zero.length t .rw)) (I ⟨ha.length,n⟩)) (φ:=φ) (b:=aj.length) (lo:=0) (n:=n) (sz:=zero.length) (c:=n) (jc _ _ _ _) (by simp [ver,m]) (.inr ⟨by omega,by omega,by simp⟩)
     rw[mK]at this
     simpa [ver,m]using this) bH b1
    exact⟨g,by show((o6 _ _).bind _)=_;rw[ak];exact bt,bG⟩
   ·split at h
    ·obtain⟨bD,bH,b1,c8,j⟩:=s.L9 (.cells [] t true)
     exact ad _ _ _ (.slice (I ⟨ha.length,0,none⟩) 0 0) _ _ _ h (.emp _) c8 j
    ·cases h
  |mkSlice t zero n c=>
   simp only[gC]at h
   split at h
   ·rw[cN]at h
    obtain⟨⟨v,ck⟩,h1,h2⟩:=h
    obtain⟨v',cf,aV,bH,b1,c8,j⟩:=Wd s (bL.gg zero) (he.val n) (he.val c) h1
    obtain⟨g,bt,bG⟩:=ad _ _ _ _ _ _ _ h2 b1 c8 j
    exact⟨g,by show((s_ _ _ _ _ _).bind _)=_;rw[bH];exact bt,bG⟩
   ·cases h
  |load agg n x=>exact iJ s ad (λv h=>LS s (he.val _) h) h
  |store n x v=>
   simp only[gC,cN]at h
   obtain⟨ck,h1,h2⟩:=h
   obtain⟨cf,bH,b1,c8⟩:=V' s (he.val x) (he.val v) h1
   obtain⟨g,bt,bG⟩:=ad _ _ _ _ _ _ _ h2 bn.undef b1 c8
   exact⟨g,by show((rU _ _ _ _).bind _)=_;rw[bH];exact bt,bG⟩
  |append t size x y=>
   simp only[gC,cN]at h
   obtain⟨⟨v,ck⟩,h1,h2⟩:=h
   obtain⟨v',cf,aV,bH,b1,c8,j⟩:=Wb s (he.val x) (he.val y) h1
   obtain⟨g,bt,bG⟩:=ad _ _ _ _ _ _ _ h2 b1 c8 j
   exact⟨g,by show((rV _ _ _ _ _).bind _)=_;rw[bH];exact bt,bG⟩
  |copy size d x=>
   simp only[gC,cN]at h
   obtain⟨⟨v,ck⟩,h1,h2⟩:=h
   obtain⟨v',cf,bH,b1,c8,j⟩:=We s (he.val d) (he.val x) h1
   obtain⟨g,bt,bG⟩:=ad _ _ _ _ _ _ _ h2 b1 c8 j
   exact⟨g,by show((o9 _ _ _ _).bind _)=_;rw[bH];exact bt,bG⟩
  |clear zero x=>
   simp only[gC,cN]at h
   obtain⟨⟨v,ck⟩,h1,h2⟩:=h
   obtain⟨v',cf,bH,b1,c8,j⟩:=Wf s (bL.gg zero) (he.val x) h1
   obtain⟨g,bt,bG⟩:=ad _ _ _ _ _ _ _ h2 b1 c8 j
   exact⟨g,by show((uM _ _ _).bind _)=_;rw[bH];exact bt,bG⟩
  |uI t size zero x y=>
   simp only[gC,cN]at h
   obtain⟨⟨v,ck⟩,h1,h2⟩:=h
   obtain⟨v',cf,aV,bH,b1,c8,j⟩:=Wc s (bL.gg zero) (he.val x) (he.val y) h1
   obtain⟨g,bt,bG⟩:=ad _ _ _ _ _ _ _ h2 b1 c8 j
   exact⟨g,by show((uL _ _ _ _ _ _).bind _)=_;rw[bH];exact bt,bG⟩
  |mkMap=>
   obtain⟨bH,b1⟩:=s.push (.map [] .rw) (.map []) 0 ⟨[],rfl,.nil,.nil⟩
   exact ad _ _ _ (.map (I ha.length)) _ _ _ h (.map (jc _ _ _ _)) bH b1
  |lookup t zero ok x i=>exact iJ s ad (λv h=>Wi s (bn.tm zero) (he.val _) (he.val _) h) h
  |o7 t x i v=>
   simp only[gC,cN]at h
   obtain⟨ck,h1,h2⟩:=h
   obtain⟨cf,bH,b1,c8⟩:=Wj s (he.val x) (he.val i) (he.val v) h1
   obtain⟨g,bt,bG⟩:=ad _ _ _ _ _ _ _ h2 bn.undef b1 c8
   exact⟨g,by show((uQ _ _ _ _ _).bind _)=_;rw[bH];exact bt,bG⟩
  |uJ x=>exact iJ s ad (λv h=>Wk s (he.val _) h) h
  |uK x=>exact iJ s ad (λv h=>Wm s (he.val _) h) h
  |call f args=>
   simp only[gC,cN]at h
   obtain⟨⟨v,ck⟩,h1,h2⟩:=h
   obtain⟨v',cf,aV,bD,bH,b1,c8,j⟩:=w _ _ _ _ _ h1 μ φ ha _ s (he.c6 args)
   obtain⟨g,bt,bG⟩:=ad _ _ _ _ _ _ _ h2 b1 c8 j
   exact⟨g,by show((q _ _ _).bind _)=_;rw[bH];exact bt,bG⟩
  |hU f args=>
   simp only[gC,cN]at h
   obtain⟨⟨v,ck⟩,h1,h2⟩:=h
   obtain⟨v',cf,aV,bD,bH,b1,c8,j⟩:=Wv w s (he.val f) (he.c6 args) h1
   obtain⟨g,bt,bG⟩:=ad _ _ _ _ _ _ _ h2 b1 c8 j
   exact⟨g,by show((og _ _ _ _).bind _)=_;rw[bH];exact bt,bG⟩
  |fail=>cases h
end
end Go.aN
namespace Go.aN
open Go.bB
variable {μ : Ren} {φ : dk} {aj : U} {ha : aP}
section
variable {R lW : Type} {Q : R -> lW -> Prop}
def AH(Q:R->lW->Prop)(μ:Ren)(φ:dk)(aj:U)(ha:aP)(K:ej->U->Option R)(Ka:bJ->aP->Option lW):Prop:=
 ∀e ck r b cf aV bD,K e ck=I r->fG aV bD e b->cT aV bD ck cf->Ext μ φ aj ha aV bD ck cf->∃c,Ka b cf=I c/\Q r c
theorem AH.ext{aV:Ren}{bD:dk}{ck:U}{cf:aP}{K:ej->U->Option R}{Ka:bJ->aP->Option lW}(h:AH Q μ φ aj ha K Ka)(x:Ext μ φ aj ha aV bD ck cf):AH Q aV bD ck cf K Ka:=
 λe h1 r b h2 m f ad he s y=>h e h1 r b h2 m f ad he s (x.trans y)
theorem Wx(s:cT μ φ aj ha){cf:aP}(av:ha.length<=cf.length)(az:∀a,a<ha.length->cf[a]?=ha[a]?):cT μ φ aj cf where
 cc b k o h:=⟨(s.cc b k o h).1,λl e=>hF ((s.cc b k o h).2 l e) av⟩
 rel b blk h1 h2:=by
  rcases s.rel b blk h1 h2 with q|⟨l,blk',bH,b1,c8⟩
  ·exact .inl q
  ·exact .inr ⟨l,blk',bH,by rw[az _ (List.getElem?_eq_some_iff.1 b1).1];exact b1,c8⟩
 inj:=s.inj
 sep:=s.sep
 bz a blk h:=by
  have:=s.bz a blk h
  rw[az _ (List.getElem?_eq_some_iff.1 this).1];exact this
 top:=s.top
theorem Wy{aV:Ren}{bD:dk}{v:J}{v':Value}(h:bn μ φ v v')(az:As v=true):bn aV bD v v':=by
 cases h<;>first|(cases az;done)|exact .int _ _|exact .bool _|exact .str _
theorem L'{aV:Ren}{bD:dk}:∀{l:List J} {cB:List Value},bL μ φ l cB->l.all As=true->bL aV bD l cB
 |[],_,h,_=>by cases h;exact .nil
 |x::l,_,h,az=>by
  rw[ny,dx]at az
  cases h with
  |cons h1 h2=>exact .cons (Wy h1 az.1) (L' h2 az.2)
theorem Wz{aV:Ren}{bD:dk}{v:J}{v':Value}(h:bn μ φ v v')(az:vm v=true):bn aV bD v v':=by
 cases h with
 |tuple h=>exact .tuple (L' h az)
 |int=>exact .int _ _
 |bool=>exact .bool _
 |str=>exact .str _
 |_=>cases az
theorem Ma:∀(kj:List (Nat×fx)) {φ:dk} {aj:U} {e:ej} {b:bJ} {k:ej->U->Option R} {r:R},cT μ φ aj ha->fG μ φ e b->qb kj e aj k=I r->∃bD aD h1,k aD h1=I r/\fG μ bD aD b/\cT μ bD h1 ha/\Ext μ φ aj ha μ bD h1 ha
 |[],_,_,_,_,_,_,s,he,h=>⟨_,_,_,h,he,s,Ext.refl _ _ _ _⟩
 |p::kj,_,_,e,_,k,r,s,he,h=>by
  simp only[qb,cN]at h
  obtain⟨bH,h1,h2⟩:=h
  obtain⟨bD,cE,cD,dE⟩:=Hk p.2 s (he p.1) h1
  obtain⟨m_,aD,c,g,bt,bG,cZ⟩:=Ma kj cD (λi=>by
   unfold m5
   cases ag:cC p.1 i with
   |false=>exact(he i).mono dE.hp dE.hM
   |true=>
    obtain rfl:=hz ag
    exact cE) h2
  exact⟨m_,aD,c,g,bt,bG,dE.trans cZ⟩
theorem WA{μ:Ren}{φ:dk}{aj:U}{ha:aP}(s:cT μ φ aj ha){v:J}{v':Value}{fj:aX}{sz:Nat}{q:J×U}(aw:bn μ φ v v')(h:Hb v fj sz aj=I q):∃aV,bn aV φ q.1 v'/\cT aV φ q.2 ha/\Ext μ φ aj ha aV φ q.2 ha:=by
 unfold Hb at h
 split at h
 ·split at h
  ·cases h
   cases aw
   obtain⟨bH,b1⟩:=s.ghost sz fj .rw
   exact⟨_,.jz _ none (jc _ _ _ _),bH,b1⟩
  ·cases h
 ·cases h
  exact⟨_,aw,s,Ext.refl _ _ _ _⟩
theorem WB(s:cT μ φ aj ha){x y:J}{j c0:Value}(af:bn μ φ x j)(ba:bn μ φ y c0)(h:iX x y aj=true):bB.xp j c0:=by
 unfold iX at h
 split at h
 ·cases af;cases ba;exact⟨_,_,rfl,.inl ⟨none,rfl⟩⟩
 ·cases af;cases ba;exact⟨_,_,rfl,.inl ⟨_,rfl⟩⟩
 ·rename_i b lo n jA sz bf o
  split at h
  ·rename_i rows g t md vs t2 md2 h1 h2
   have aw:rows.length=jA:=hz h
   cases ba with
   |@ptr _ _ cB aH=>
    cases af with
    |jz _ a _=>exact⟨_,_,rfl,.inl ⟨_,rfl⟩⟩
    |@ref _ _ _ _ _ c l ak _ _=>
     refine⟨_,_,rfl,.inr ⟨_,_,_,_,rfl,λe=>?_⟩⟩
     have:=s.inj b bf _ _ l cB h1 (λh=>by cases h) h2 (λh=>by cases h) (by rw[show ver (.log rows g t md)=jA from aw];exact ak) aH e
     subst this
     rw[h1]at h2
     cases h2
  ·cases h
 ·cases af;cases ba;exact⟨_,_,rfl,.inl ⟨none,rfl⟩⟩
 ·cases af;cases ba;exact⟨_,_,rfl,.inl ⟨_,rfl⟩⟩
 ·rename_i b lo n jA sz bf i o k sz'
  split at h
  ·rename_i rows g t md m p t2 md2 h1 h2
   simp only[dx,Bool.not_eq_true']at h
   have aw:rows.length=jA:=hz h.1
   have q:m.length=k:=hz h.2.1
   have u:b≠bf:=λe=>by rw[e,p0]at h;cases h.2.2
   cases ba with
   |gB aH=>
    cases af with
    |jz _ a _=>exact⟨_,_,rfl,.inl ⟨_,rfl⟩⟩
    |@ref _ _ _ _ _ c l ak _ _=>
     refine⟨_,_,rfl,.inr ⟨_,_,_,_,rfl,λe=>u ?_⟩⟩
     exact s.inj b bf _ _ l _ h1 (λh=>by cases h) h2 (λh=>by cases h) (by rw[show ver (.log rows g t md)=jA from aw];exact ak) (by rw[show ver (.log m p t2 md2)=k from q];exact aH) e
  ·cases h
 ·cases h
theorem Mb(s:cT μ φ aj ha){e:ej}{b:bJ}(he:fG μ φ e b):∀{bC:List (Nat×Nat)},Au bC e aj=true->∀p∈bC,bB.xp (b p.1) (b p.2)
 |[],_,p,aj=>by cases aj
 |q::bC,h,p,aj=>by
  simp only[Au,dx]at h
  rcases List.mem_cons.1 aj with rfl|aj
  ·exact WB s (he _) (he _) h.1
  ·exact Mb s he h.2 p aj
theorem WC{Γ:aR}{p:bB.Callee}(u:iZ Γ p):∀(st:eh) {μ:Ren} {φ:dk} {aj:U} {ha:aP} {K:ej->U->Option R} {Ka:bJ->aP->Option lW} {e:ej} {g:bJ} {r:R},
 fG μ φ e g->cT μ φ aj ha->AH Q μ φ aj ha K Ka->iy Γ st K e aj=I r->∃m,kd p (kJ st) Ka g ha=I m/\Q r m:=by
 intro st
 induction st with
 |nil=>intro μ φ aj ha K Ka e g r he s j h;exact j _ _ _ _ _ _ _ h he s (Ext.refl _ _ _ _)
 |op d o dX rest k=>
  intro μ φ aj ha K Ka e g r he s j h
  cases dX with
  |hf bC=>
   simp only[iy,hY]at h
   split at h
   ·rename_i aC
    simp only[kJ,kd]
    refine AG u o he s (ka:=λv h'=>mU (.hf bC) g ha h' (kd p (kJ rest) Ka (bB.gT g d v) h')) (λv ck r v' cf aV bD ad aw n x=>?_) h
    obtain⟨m,bt,bG⟩:=k ((he.mono x.hp x.hM).gT aw d) n (j.ext x) ad
    refine⟨m,?_,bG⟩
    simp only[mU]
    rw[aQ (Mb s he aC)]
    exact bt
   ·cases h
  |no=>
   simp only[iy]at h
   simp only[kJ,kd]
   refine AG u o he s (ka:=λv h'=>mU .no g ha h' (kd p (kJ rest) Ka (bB.gT g d v) h')) (λv ck r v' cf aV bD ad aw n x=>?_) h
   exact k ((he.mono x.hp x.hM).gT aw d) n (j.ext x) ad
  |calm=>
   simp only[iy]at h
   simp only[kJ,kd]
   refine AG u o he (L3 s) (ka:=λv h'=>mU .calm g ha h' (kd p (kJ rest) Ka (bB.gT g d v) h')) (λv ck r v' cf aV bD ad aw n x=>?_) h
   unfold dQ at ad
   split at ad
   ·rename_i z
    obtain⟨bH,b1,c8⟩:=Wr s n x z
    obtain⟨m,bt,bG⟩:=k ((he.mono x.hp x.hM).gT aw d) b1 (j.ext c8) ad
    refine⟨m,?_,bG⟩
    simp only[mU,xo]
    rw[aQ bH]
    exact bt
   ·cases ad
 |k0 d c gK tmp body y rest D C=>
  intro μ φ aj ha K Ka e g r he s j h
  simp only[iy,a6,a7]at h
  simp only[kJ,kd,zF,zG]
  have aa:=he c
  split at h
  ·rename_i t aO
   rw[aO]at aa
   generalize J:g c=w at aa
   cases aa
   simp only
   split at h
   ·rename_i A
    rw[aQ A]
    refine D he s (λe' ck r L cf aV bD ad E n x=>?_) h
    exact C (((he.mono x.hp x.hM).dI tmp).bK (E.val y) d) n (j.ext x) ad
   ·rename_i A
    rw[a1 A]
    exact C ((he.dI tmp).bK (.bool _) d) s j h
  ·cases h
 |dh t F rest k=>
  intro μ φ aj ha K Ka e g r he s j h
  simp only[iy,cN]at h
  obtain⟨q,h1,h2⟩:=h
  obtain⟨bD,bH,b1,c8⟩:=Hk F s (he t) h1
  simp only[kJ]
  refine k (λi=>?_) b1 (j.ext c8) h2
  unfold m5
  cases ag:cC t i with
  |false=>exact(he i).mono c8.hp c8.hM
  |true=>
   obtain rfl:=hz ag
   exact bH
 |Ap t fj sz rest k=>
  intro μ φ aj ha K Ka e g r he s j h
  simp only[iy,cN]at h
  obtain⟨q,h1,h2⟩:=h
  obtain⟨aV,bH,b1,c8⟩:=WA s (he t) h1
  simp only[kJ]
  refine k (λi=>?_) b1 (j.ext c8) h2
  unfold m5
  cases ag:cC t i with
  |false=>exact(he i).mono c8.hp c8.hM
  |true=>
   obtain rfl:=hz ag
   exact bH
 |vh kj d o dX rest k=>
  intro μ φ aj ha K Ka e g r he s j h
  have h:dX≠.calm/\dX≠.no->False:=λaA=>by
   cases dX with
   |no=>exact aA.2 rfl
   |calm=>exact aA.1 rfl
   |hf bC=>simp only[iy]at h;cases h
  rename_i au
  have ae:qb kj e aj (λaD h1=>gC Γ o aD (lock h1) λv _=>if vm v=true then iy Γ rest K (nN e d v) aj else none)=I r:=by
   cases dX with
   |no=>exact au
   |calm=>exact au
   |hf bC=>exact(h ⟨λh=>(by cases h),λh=>(by cases h)⟩).elim
  obtain⟨nS,aD,h1,h2,cE,cD,dE⟩:=Ma kj s he ae
  simp only[kJ,kd]
  refine AG u o cE (L3 cD) (ka:=λv h'=>mU dX g ha h' (kd p (kJ rest) Ka (bB.gT g d v) h')) (λv ck r v' cf aV bD ad aw n x=>?_) h2
  have az:∀a,a<ha.length->cf[a]?=ha[a]?:=λa B=>x.frame a B λb blk l ae b0 _=>by
   obtain⟨cd,_,rfl⟩:=sa ae
   exact absurd b0 (Hm cd)
  have z:ha <+: cf:=by
   rw[List.prefix_iff_eq_take]
   apply gn
   intro i
   by_cases ag:i<ha.length
   ·rw[List.getElem?_take_of_lt ag,az i ag]
   ·rw[e2 (by omega),e2 (by rw[kz];omega)]
  split at ad
  ·rename_i G
   have H:=Wx s x.qd az
   obtain⟨m,bt,bG⟩:=k (he.gT (Wz aw G) d) H (j.ext ⟨ca _,x.qd,ef.refl _,gi.refl _,λa B _=>az a B,λb blk l h1 h2 ak=>.inr ⟨b,blk,l,h1,h2,ak,rfl⟩⟩) ad
   refine⟨m,?_,bG⟩
   cases dX with
   |no=>exact bt
   |calm=>simp only[mU,xo];rw[aQ z];exact bt
   |hf bC=>exact(h ⟨λh=>(by cases h),λh=>(by cases h)⟩).elim
  ·cases ad
def x'(Q:R->lW->Prop)(μ:Ren)(φ:dk)(aj:U)(ha:aP)(K:fw->ej->U->Option R)(Ka:fw->bJ->aP->Option lW):Prop:=
 ∀o e ck r b cf aV bD,K o e ck=I r->fG aV bD e b->cT aV bD ck cf->Ext μ φ aj ha aV bD ck cf->∃c,Ka o b cf=I c/\Q r c
theorem x'.ext{aV:Ren}{bD:dk}{ck:U}{cf:aP}{K:fw->ej->U->Option R}{Ka:fw->bJ->aP->Option lW}(h:x' Q μ φ aj ha K Ka)(x:Ext μ φ aj ha aV bD ck cf):x' Q aV bD ck cf K Ka:=
 λo e h1 r b h2 m f ad he s y=>h o e h1 r b h2 m f ad he s (x.trans y)
theorem WD(s:cT μ φ aj ha){b:Nat}{blk:cq}{l:bB.Loc}(ae:aj[b]?=I blk)(b0:kL blk)(e:μ b (ver blk)=I (I l)):cT μ φ (aj.set b .dead) (ha.set l.blk .dead)/\Ext μ φ aj ha μ φ (aj.set b .dead) (ha.set l.blk .dead):=by
 have c:=m' ae
 have g:=s.sep b blk l ae b0.own e
 constructor
 ·refine s.step b .dead (by simp) (by simp) (ef.refl _) (gi.refl _) (qf c) (λbf h=>lT h) (λbf k h=>rfl) (λk cB h=>by rw[ir];exact(s.cc _ _ _ h).2 cB rfl) (λbf blk' cB h1 h2 ak aH=>lT λaM=>h1 (s.inj bf b blk' blk cB l h2 ak ae b0.live aH e aM))
   (λa x h=>?_) (λbf blk cB i h1 h2 ak=>s.sep bf blk cB h2 h1 ak) (λk o h _=>absurd rfl h) (λh=>absurd rfl h)
  rw[lT (by rintro rfl;rw[g]at h;cases h)]
  exact s.bz a x h
 ·exact Ext.step b .dead (by simp) (by simp) (ef.refl _) (gi.refl _) (qf c) (λbf h=>lT h) (λbf k h=>rfl) (λa h1 h2=>lT λh=>h2 blk l ae b0 e h.symm) (λcB h1 _=>h1.elim)
theorem AI{b:Nat}{c6:List J}{c4 bC:List Nat}{c g:hB}{st:s9}{dY:Option fw}{md:eg}{l:bB.Loc}(s:cT μ φ aj ha)(ae:aj[b]?=I (.loop c6 c4 bC c g st dY md))(e:μ b 0=I (I l)):
 ∃i,ha[l.blk]?=I (.loop i c4 bC (hI c) (hI g) st dY)/\bL μ φ c6 i:=by
 rcases s.rel b _ ae (by simp)with⟨_,_,_,_,h⟩|⟨cB,blk',h1,h2,ak⟩
 ·cases h
 ·have:μ b 0=I (I cB):=h1
  rw[e]at this
  cases this
  obtain⟨j,rfl,bt⟩:=ak
  exact⟨j,h2,bt⟩
theorem Ho{Γ:aR}{B:bB.Callee}(E:iZ Γ B)(n:Nat):∀(c:hB) {μ:Ren} {φ:dk} {aj:U} {ha:aP} {K:fw->ej->U->Option R} {Ka:fw->bJ->aP->Option lW} {e:ej} {k:bJ} {r:R},
 fG μ φ e k->cT μ φ aj ha->x' Q μ φ aj ha K Ka->iY Γ n c K e aj=I r->∃q,hA B n (hI c) Ka k ha=I q/\Q r q:=by
 intro c
 induction c with
 |skip=>intro μ φ aj ha K Ka e k r he s j h;exact j _ _ _ _ _ _ _ _ h he s (Ext.refl _ _ _ _)
 |region d st=>intro μ φ aj ha K Ka e k r he s j h;exact WC E st he s (λe' ck r y cf aV bD ad l p x=>j _ _ _ _ _ _ _ _ ad l p x) h
 |seq a b z A=>
  intro μ φ aj ha K Ka e k r he s j h
  refine z he s (λo e' ck r y cf aV bD ad l p x=>?_) h
  cases o with
  |normal=>exact A l p (j.ext x) ad
  |exit i=>exact j _ _ _ _ _ _ _ _ ad l p x
  |ret=>exact j _ _ _ _ _ _ _ _ ad l p x
 |cond c mod tmp a b z A=>
  intro μ φ aj ha K Ka e k r he s j h
  simp only[iY,aB,a8]at h
  simp only[hI,hA,rY,zH]
  have aa:=he.val c
  have j0:x' Q μ φ aj ha (λo e' h'=>match o with|.normal=>K .normal (oB (q9 e tmp) mod (mj e' mod)) h'|.exit i=>K (.exit i) e' h'|.ret=>K .ret e' h')
   (λo e' h'=>match o with|.normal=>Ka .normal (bB.fv (jV k tmp) mod (bB.getMany e' mod)) h'|.exit i=>Ka (.exit i) e' h'|.ret=>Ka .ret e' h'):=by
   intro o e' ck r y cf aV bD ad l p x
   cases o with
   |normal=>exact j _ _ _ _ _ _ _ _ ad (((he.mono x.hp x.hM).dI tmp).fv mod (l.getMany mod)) p x
   |exit i=>exact j _ _ _ _ _ _ _ _ ad l p x
   |ret=>exact j _ _ _ _ _ _ _ _ ad l p x
  split at h
  ·rename_i t aO
   rw[aO]at aa
   generalize ab:bB.val k c=w at aa
   cases aa
   simp only
   split at h
   ·rename_i C
    rw[aQ C]
    exact z he s j0 h
   ·rename_i C
    rw[a1 C]
    exact A he s j0 h
  ·cases h
 |block id mod tmp c D=>
  intro μ φ aj ha K Ka e k r he s j h
  simp only[iY,aB]at h
  simp only[hI,hA,rY]
  refine D he s (λo e' ck r y cf aV bD ad l p x=>?_) h
  have F:∀r,K .normal (oB (q9 e tmp) mod (mj e' mod)) ck=I r->∃q,Ka .normal (bB.fv (jV k tmp) mod (bB.getMany y mod)) cf=I q/\Q r q:=λr ad=>
   j _ _ _ _ _ _ _ _ ad (((he.mono x.hp x.hM).dI tmp).fv mod (l.getMany mod)) p x
  cases o with
  |normal=>exact F _ ad
  |exit i=>
   simp only at ad|-
   cases ag:cC i id with
   |true=>rw[ag]at ad;exact F _ ad
   |false=>rw[ag]at ad;exact j _ _ _ _ _ _ _ _ ad l p x
  |ret=>exact j _ _ _ _ _ _ _ _ ad l p x
 |loop mod tmp c D=>
  intro μ φ aj ha K Ka e k r he s j h
  simp only[iY]at h
  simp only[hI,hA]
  have V:∀(m:Nat) {vs:List J} {b_:List Value} {μ1:Ren} {nS:dk} {h1:U} {nT:aP} {r:R},bL μ1 nS vs b_->cT μ1 nS h1 nT->Ext μ φ aj ha μ1 nS h1 nT->
   cr (λcont vs h1=>iY Γ n c (λo e h2=>match o with|.normal=>cont (mj e mod) (trim aj (mj e mod) h2)|.exit i=>K (.exit i) e h2|.ret=>K .ret e h2) (oB (q9 e tmp) mod vs) h1) m vs h1=I r->
   ∃q,oh (λcont vs h=>hA B n (hI c) (λo e h=>match o with|.normal=>cont (bB.getMany e mod) h|.exit i=>Ka (.exit i) e h|.ret=>Ka .ret e h) (bB.fv (jV k tmp) mod vs) h) m b_ nT=I q/\Q r q:=by
   intro m
   induction m with
   |zero=>intro vs b_ μ1 nS h1 nT r _ _ _ h;cases h
   |succ m W=>
    intro vs b_ μ1 nS h1 nT r aw s1 ay h
    simp only[cr]at h
    simp only[oh]
    refine D (((he.mono ay.hp ay.hM).dI tmp).fv mod aw) s1 (λo e' ck r y cf aV bD ad l p x=>?_) h
    cases o with
    |normal=>
     obtain⟨G,bH,b1,c8⟩:=AF s p (ay.trans x) (l.getMany mod)
     exact W bH b1 c8 ad
    |exit i=>exact j _ _ _ _ _ _ _ _ ad l p (ay.trans x)
    |ret=>exact j _ _ _ _ _ _ _ _ ad l p (ay.trans x)
  exact V n (he.getMany mod) s (Ext.refl _ _ _ _) h
 |exit i=>intro μ φ aj ha K Ka e k r he s j h;exact j _ _ _ _ _ _ _ _ h he s (Ext.refl _ _ _ _)
 |ret=>intro μ φ aj ha K Ka e k r he s j h;exact j _ _ _ _ _ _ _ _ h he s (Ext.refl _ _ _ _)
 |ju g c4 bC H L z A=>
  intro μ φ aj ha K Ka e k r he s j h
  simp only[iY,cN]at h
  obtain⟨⟨v,h1⟩,aa,o,u,h⟩:=h
  obtain⟨bH,b1⟩:=s.push (.loop (mj e c4) c4 bC H L .ready none .rw) (.loop (bB.getMany k c4) c4 bC (hI H) (hI L) .ready none) 0 ⟨_,rfl,(he.getMany c4).mono (qe s _ _) (gi.refl _)⟩
  obtain⟨v',nT,μ1,nS,bt,bG,cZ,cS⟩:=Ww E bH ((he.val g).mono b1.hp b1.hM) (.cons (.yield (jc _ _ _ _)) .nil) aa
  have hm:μ1 aj.length 0=I (I ⟨ha.length,0⟩):=cS.hp _ _ _ (jc _ _ _ _)
  have ay:=b1.trans cS
  have X:∃c6 M N O P st dY,h1[aj.length]?=I (.loop c6 M N O P st dY .rw)/\(st=.ready\/st=.done)/\o=dY:=by
   unfold rf at u
   simp only at u
   split at u
   ·rename_i ae;cases u;exact⟨_,_,_,_,_,_,_,ae,.inl rfl,rfl⟩
   ·rename_i ae;cases u;exact⟨_,_,_,_,_,_,_,ae,.inr rfl,rfl⟩
   ·cases u
  obtain⟨c6,M,N,O,P,st,dY,ae,Y,rfl⟩:=X
  obtain⟨ac,S,_⟩:=AI cZ ae hm
  have Z:uS ha.length nT=I o:=by
   unfold uS
   simp only at S
   rw[S]
   rcases Y with rfl|rfl<;>rfl
  obtain⟨cE,cD⟩:=WD cZ ae trivial hm
  obtain⟨G,_,fe,gr⟩:=AF (roots:=[]) (roots':=[]) s cE (ay.trans cD) .nil
  have T:fG G nS e k:=he.mono gr.hp gr.hM
  simp only[hI,hA]
  rw[bt]
  simp only[dy]
  rw[Z]
  simp only[dy]
  cases o with
  |none=>exact j _ _ _ _ _ _ _ _ h T fe gr
  |some x=>exact j _ _ _ _ _ _ _ _ h T fe gr
theorem Hp(s:cT μ φ aj ha){e:ej}{c:bJ}(he:fG μ φ e c):∀(rs:List s') {k:List J->Option R} {ka:List Value->Option lW} {r:R},(∀vs b_ r,k vs=I r->bL μ φ vs b_->∃b,ka b_=I b/\Q r b)->r9 rs e aj k=I r->∃b,o_ rs c ha ka=I b/\Q r b
 |[],k,ka,r,ad,h=>ad _ _ _ h .nil
 |.tmp t::rs,k,ka,r,ad,h=>Hp s he rs (λvs b_ r h1 h2=>ad _ _ _ h1 (.cons (he t) h2)) h
 |.cell t agg n::rs,k,ka,r,ad,h=>by
  simp only[r9,cN]at h
  obtain⟨v,h1,h2⟩:=h
  obtain⟨v',bt,bG⟩:=LS s (he t) h1
  obtain⟨b,cZ,cS⟩:=Hp s he rs (λvs b_ r h1 h2=>ad _ _ _ h1 (.cons bG h2)) h2
  exact⟨b,by simp only[o_,bt,dy];exact cZ,cS⟩
end
def ya(μ:Ren)(φ:dk)(aj:U)(ha:aP)(r:J×U)(b:Value×aP):Prop:=∃aV bD,bn aV bD r.1 b.1/\cT aV bD r.2 b.2/\Ext μ φ aj ha aV bD r.2 b.2
theorem WE{vs:List J}{b_:List Value}(h:bL μ φ vs b_):bn μ φ (tq vs) (single b_):=by
 cases h with
 |nil=>exact .tuple .nil
 |cons h az=>
  cases az with
  |nil=>exact h
  |cons h' b=>exact .tuple (.cons h (.cons h' b))
theorem WG{args:List J}{b:List Value}(h:bL μ φ args b):fG μ φ (Hc args) (xu b):=by
 intro i
 unfold Hc xu
 rw[jT,jT]
 cases ag:args[i]? with
 |none=>
  have:b[i]?=none:=by
   rw[List.getElem?_eq_none_iff]at ag|-
   rw[←h.length];exact ag
  rw[this]
  exact bn.undef
 |some x=>
  obtain⟨y,h1,h2⟩:=h.get ag
  rw[h1]
  exact h2
theorem WH{Γ:aR}{l:bB.Callee}(p:iZ Γ l)(n:Nat)(F:bU)(s:cT μ φ aj ha){args:List J}{k:List Value}(m:bL μ φ args k){r:J×U}(h:bX Γ n F args aj=I r):
 ∃b,q2 l n F.erase k ha=I b/\ya μ φ aj ha r b:=by
 unfold bX at h
 unfold q2
 cases aA:cC args.length F.nG with
 |false=>rw[aA]at h;cases h
 |true=>
  rw[aA]at h
  have t:cC k.length F.erase.nG=true:=by rw[←m.length];exact aA
  rw[t]
  simp only[gq]at h|-
  have j0:∀{e:ej} {ck:U} {r:J×U} {g:bJ} {cf:aP} {aV:Ren} {bD:dk},(r9 F.results e ck λvs=>aL F.oD aj ck vs)=I r->fG aV bD e g->cT aV bD ck cf->Ext μ φ aj ha aV bD ck cf->
   ∃b,(o_ F.results g cf λvs=>I (single vs,gc (single vs) ha cf))=I b/\ya μ φ aj ha r b:=by
   intro e ck r g cf aV bD ad j c x
   refine Hp c j F.results (λvs b_ r h1 h2=>?_) ad
   unfold aL at h1
   rw[de]at h1
   obtain⟨q,ak,rfl⟩:=h1
   obtain⟨m_,bH,b1,c8⟩:=AE F.oD c h2 ak
   obtain⟨u,cE,cD,dE⟩:=AF s b1 (x.trans c8) bH
   exact⟨_,rfl,u,m_,WE cE,cD,dE⟩
  refine Ho p n F.code (WG m) s (λo e ck r g cf aV bD ad j c x=>?_) h
  cases o with
  |normal=>exact j0 ad j c x
  |ret=>exact j0 ad j c x
  |exit i=>cases ad
theorem WI{Γ:aR}{w:bB.Callee}(G:iZ Γ w)(n:Nat)(s:cT μ φ aj ha){args:List J}{H:List Value}(T:bL μ φ args H){r:J×U}(h:nQ Γ n args aj=I r):
 ∃j,p3 w n H ha=I j/\ya μ φ aj ha r j:=by
 unfold nQ at h
 split at h
 ·rename_i b vs
  split at h
  ·rename_i c6 c4 bC V W dY md ae
   cases T with|cons h1 h2=>
    cases h1 with|@ptr _ _ l hm=>
     obtain⟨au,X,Y⟩:=AI s ae hm
     cases aA:cC vs.length bC.length with
     |false=>rw[aA]at h;cases h
     |true=>
      rw[aA]at h
      simp only[gq]at h
      have:=Vk (Γ:=w) (n:=n) (h:=ha) X (show cC _ bC.length=true by rw[←h2.length];exact aA)
      unfold hS at this
      rw[this]
      have Z:fG μ φ (λ_=>.dI) (λ_=>bB.dI):=λ_=>.dI _
      refine Ho G n V ((Z.fv c4 Y).fv bC h2) s (λo e ck r av cf aV bD ad aa K x=>?_) h
      cases o with
      |exit i=>cases ad
      |ret=>cases ad
      |normal=>
       simp only[cN]at ad|-
       obtain⟨aw,k,ad⟩:=ad
       unfold qc at k
       split at k
       ·rename_i ab y z A B C L
        cases k
        have D:=x.hp _ _ _ hm
        obtain⟨M,ac,ag⟩:=AI K L D
        obtain⟨bH,b1⟩:=K.r' (blk1:=.loop ab y z A B .busy C .rw) (blk':=.loop M y z (hI A) (hI B) .busy C) L trivial D rfl ⟨_,rfl,ag⟩
        have al:beginRound l.blk cf=I (cf.set l.blk (.loop M y z (hI A) (hI B) .busy C)):=by unfold beginRound;rw[ac]
        refine(Ho (Q:=ya μ φ aj ha) G n W (Ka:=λo _ ak=>endRound l.blk o ak) (aa.mono b1.hp b1.hM) bH (λam ay an az aB ao aC ap c aD kh fZ=>?_) ad).elim λj N=>⟨j,⟨_,al,N.1⟩,N.2⟩
        ·rw[de]at c
         obtain⟨q,c,rfl⟩:=c
         unfold m7 at c
         split at c
         ·rename_i O m p t u aE P
          have R:=fZ.hp _ _ _ (b1.hp _ _ _ D)
          obtain⟨S,E,aq⟩:=AI kh P R
          have af:=(x.trans b1).trans fZ
          have go:∀(st:s9) (g:Option fw) (F:Bool),ya μ φ aj ha (.bool F,trim aj [] (an.set b (.loop O m p t u st g .rw))) (.bool F,ao.set l.blk (.loop S m p (hI t) (hI u) st g)):=by
           intro st g F
           obtain⟨cE,cD⟩:=kh.r' (blk1:=.loop O m p t u st g .rw) (blk':=.loop S m p (hI t) (hI u) st g) P trivial R rfl ⟨_,rfl,aq⟩
           obtain⟨ar,_,fe,gr⟩:=AF (roots:=[]) (roots':=[]) s cE (af.trans cD) .nil
           exact⟨ar,ap,.bool _,fe,gr⟩
          cases am with
          |normal=>cases c;exact⟨_,by simp only[endRound,E],go .ready none true⟩
          |exit i=>cases c;exact⟨_,by simp only[endRound,E],go .done (I (.exit i)) false⟩
          |ret=>cases c;exact⟨_,by simp only[endRound,E],go .done (I .ret) false⟩
         ·cases c
       ·cases k
  ·cases h
 ·cases h
theorem Mc:∀(T:iz) (f:dN),(iz.erase T).get f=(T.get f).map bU.erase
 |[],f=>rfl
 |(g,F)::r,f=>by
  simp only[iz.erase,iz.get,jv.get]
  cases cC g f
  ·exact Mc r f
  ·rfl
theorem Hq{aJ:aR}{Γa0:bB.Callee}{T:iz}(au:iZ aJ (bB.run Γa0 T.erase)):∀n,iZ (iA aJ T n) (bB.run Γa0 T.erase)
 |0=>λf args aj r ck h μ φ ha e s b=>by
  unfold iA at h
  cases aC:cC f dP with
  |true=>rw[aC]at h;cases h
  |false=>
   rw[aC]at h
   simp only[lJ]at h
   split at h
   ·cases h
   ·exact au _ _ _ _ _ h μ φ ha _ s b
 |n+1=>λf args aj r ck h μ φ ha e s b=>by
  unfold iA at h
  cases aC:cC f dP with
  |true=>
   rw[aC]at h
   simp only[gq]at h
   obtain rfl:=hz aC
   obtain⟨c,bt,aV,bD,bG,cZ,cS⟩:=WI (Hq au n) n s b h
   exact⟨c.1,c.2,aV,bD,Vi n bt,bG,cZ,cS⟩
  |false=>
   rw[aC]at h
   simp only[lJ]at h
   split at h
   ·rename_i F g
    obtain⟨c,bt,aV,bD,bG,cZ,cS⟩:=WH (Hq au n) n F s b h
    exact⟨c.1,c.2,aV,bD,Vh (by rw[Mc,g];rfl) n bt aC,bG,cZ,cS⟩
   ·exact au _ _ _ _ _ h μ φ ha _ s b
theorem Md{aJ:aR}{T:iz}{f:dN}{args:List J}{h:U}{r:J×U}(ad:m8 aJ T f args h=I r):∃n,iA aJ T n f args h=I r:=by
 unfold m8 at ad
 split at ad
 ·exact⟨_,ad⟩
 ·cases ad
theorem WJ{aJ:aR}{Γa0:bB.Callee}{T:iz}(au:iZ aJ (bB.run Γa0 T.erase)):iZ (m8 aJ T) (bB.run Γa0 T.erase):=λf args aj r ck h=>by
 obtain⟨n,aA⟩:=Md h
 exact Hq au n f args aj r ck aA
end Go.aN
namespace Go.aN
open Go.bB
variable {R : Type}
theorem WK{b:Nat->aR}{Γ:aR}(c:∀f args h,cJ (λk=>b k f args h) (Γ f args h))(f:J)(args:List J)(h:U):cJ (λk=>gh (b k) f args h) (gh Γ f args h):=by
 unfold gh
 split
 ·rename_i g xs ys
  cases fD g dP
  ·exact cJ.const _
  ·exact c _ _ _
 ·exact c _ _ _
 ·exact cJ.const _
theorem WL{b:Nat->aR}{Γ:aR}(c:∀f args h,cJ (λk=>b k f args h) (Γ f args h))(f:J)(args:List J)(h:U):cJ (λk=>po (b k) f args h) (po Γ f args h):=by
 unfold po
 split
 ·rename_i g xs ys
  cases fD g dP
  ·exact cJ.const _
  ·exact c _ _ _
 ·exact cJ.const _
theorem AJ{b:Nat->aR}{Γ:aR}(g:∀f args h,cJ (λk=>b k f args h) (Γ f args h))(o:vf)(e:ej)(h:U)
 {c3:Nat->J->U->Option R} {k:J->U->Option R} (ad:∀v h,cJ (λi=>c3 i v h) (k v h)):cJ (λi=>gC (b i) o e h (c3 i)) (gC Γ o e h k):=by
 cases o with
 |r6 t sz=>simp only[gC];split<;>first|exact ad _ _|exact cJ.const _
 |vg om t fj sz=>simp only[gC];split<;>first|exact ad _ _|exact cJ.const _
 |lQ t zero n parts=>
  simp only[gC]
  split
  ·refine(cJ.const _).bind λl=>?_
   split<;>first|exact ad _ _|exact cJ.const _
  ·exact cJ.const _
 |a o=>
  cases o with
  |call f args=>exact(g f _ h).bind λp=>ad _ _
  |isNil t neg x=>
   simp only[gC,m6]
   split
   ·intro r an
    unfold both at an
    split at an
    ·rename_i j
     obtain⟨m1,h1⟩:=ad (.bool true) h r an
     obtain⟨m2,h2⟩:=ad (.bool false) h r (by rw[←j];exact an)
     refine⟨max m1 m2,λi ag=>?_⟩
     have aD:c3 i (.bool true) h=I r:=h1 i (by omega)
     have aE:c3 i (.bool false) h=I r:=h2 i (by omega)
     show both (c3 i (.bool true) h) (c3 i (.bool false) h)=I r
     rw[aD,aE]
     exact aQ rfl
    ·cases an
   ·exact(cJ.const _).bind λv=>ad _ _
  |hU f args=>
   simp only[gC]
   exact(WK g _ _ _).bind λp=>ad _ _
  |buildSlice t zero n parts=>
   simp only[gC]
   split
   ·exact(cJ.const _).bind λl=>ad _ _
   ·split<;>first|exact ad _ _|exact cJ.const _
  |mkSlice t zero n c=>
   simp only[gC]
   split
   ·exact(cJ.const _).bind λl=>ad _ _
   ·exact cJ.const _
  |_=>
   simp only[gC]
   first
    |exact ad _ _
    |exact(cJ.const _).bind λv=>ad _ _
    |exact cJ.const _
theorem WM{i:Nat->aR}{Γ:aR}(j:∀f args h,cJ (λk=>i k f args h) (Γ f args h)):
 ∀(s:eh) {Ks:Nat->ej->U->Option R} {K:ej->U->Option R},(∀e h,cJ (λk=>Ks k e h) (K e h))->∀(e:ej) (h:U),cJ (λk=>iy (i k) s (Ks k) e h) (iy Γ s K e h):=by
 intro s
 induction s with
 |nil=>intro Ks K b e h;exact b e h
 |op dst o dX rest g=>
  intro Ks K b e h
  cases dX with
  |no=>exact AJ j o e h λv h'=>g b _ _
  |hf bC=>
   simp only[iy,hY]
   split
   ·exact AJ j o e h λv h'=>g b _ _
   ·exact cJ.const _
  |calm=>
   refine AJ j o e (lock h) λv h'=>?_
   simp only[dQ]
   split
   ·exact g b _ _
   ·exact cJ.const _
 |k0 dst c gK tmp body y rest m l=>
  intro Ks K b e h
  simp only[iy,a6,a7]
  split
  ·split
   ·exact m (λe' h'=>l b _ _) _ _
   ·exact l b _ _
  ·exact cJ.const _
 |dh t u rest g=>
  intro Ks K b e h
  exact(cJ.const _).bind λq=>g b _ _
 |Ap t fj sz rest g=>
  intro Ks K b e h
  exact(cJ.const _).bind λq=>g b _ _
 |vh kj d o dX rest g=>
  intro Ks K b e h
  have key:∀(kj:List (Nat×fx)) (aD:ej) (h1:U),cJ (λk=>qb kj aD h1 λaD h1=>gC (i k) o aD (lock h1) λv _=>if vm v=true then iy (i k) rest (Ks k) (nN e d v) h else none)
   (qb kj aD h1 λaD h1=>gC Γ o aD (lock h1) λv _=>if vm v=true then iy Γ rest K (nN e d v) h else none):=by
   intro kj
   induction kj with
   |nil=>
    intro aD h1
    simp only[qb]
    refine AJ j o _ _ λv h'=>?_
    split
    ·exact g b _ _
    ·exact cJ.const _
   |cons p kj n=>
    intro aD h1
    simp only[qb]
    exact(cJ.const _).bind λq=>n _ _
  cases dX with
  |no=>exact key kj e h
  |calm=>exact key kj e h
  |hf bC=>exact cJ.const _
theorem Me{e:Nat->(List J->U->Option R)->List J->U->Option R}{B:(List J->U->Option R)->List J->U->Option R}
 (jb:∀(cs:Nat->List J->U->Option R) (c:List J->U->Option R),(∀vs h,cJ (λk=>cs k vs h) (c vs h))->∀vs h,cJ (λk=>e k (cs k) vs h) (B c vs h)):
 ∀(n:Nat) (b:Nat->Nat),(∃m,∀k,m<=k->n<=b k)->∀vs h,cJ (λk=>cr (e k) (b k) vs h) (cr B n vs h)
 |0,b,g,vs,h=>by intro r an;cases an
 |n+1,b,⟨m,hm⟩,vs,h=>by
  intro r an
  obtain⟨m2,h2⟩:=jb (λk=>cr (e k) (b k-1)) (cr B n) (λvs h=>Me jb n (λk=>b k-1) ⟨m,λk ad=>by have:=hm k ad;omega⟩ vs h) vs h r an
  refine⟨max m m2,λk ad=>?_⟩
  have ak:=hm k (by omega)
  obtain⟨j,g⟩:∃j,b k=j+1:=⟨b k-1,by omega⟩
  show cr (e k) (b k) vs h=I r
  rw[g]
  have aH:e k (cr (e k) (b k-1)) vs h=I r:=h2 k (by omega)
  rw[g]at aH
  exact aH
theorem Hr{t:Nat->aR}{Γ:aR}(u:∀f args h,cJ (λk=>t k f args h) (Γ f args h))(n:Nat):
 ∀(c:hB) {Ks:Nat->fw->ej->U->Option R} {K:fw->ej->U->Option R},(∀o e h,cJ (λk=>Ks k o e h) (K o e h))->∀(e:ej) (h:U),cJ (λk=>iY (t k) k c (Ks k) e h) (iY Γ n c K e h):=by
 intro c
 induction c with
 |skip=>intro Ks K j e h;exact j _ _ _
 |region d s=>intro Ks K j e h;exact WM u s (λe h=>j _ _ _) e h
 |seq a b l m=>
  intro Ks K j e h
  refine l (λo e h=>?_) e h
  cases o with
  |normal=>exact m j e h
  |exit i=>exact j _ _ _
  |ret=>exact j _ _ _
 |cond c mod tmp a b l m=>
  intro Ks K j e h
  simp only[iY,aB,a8]
  split
  ·split
   ·refine l (λo e h=>?_) e h
    cases o with
    |normal=>exact j _ _ _
    |exit i=>exact j _ _ _
    |ret=>exact j _ _ _
   ·refine m (λo e h=>?_) e h
    cases o with
    |normal=>exact j _ _ _
    |exit i=>exact j _ _ _
    |ret=>exact j _ _ _
  ·exact cJ.const _
 |block id mod tmp c q=>
  intro Ks K j e h
  simp only[iY,aB]
  refine q (λo e h=>?_) e h
  cases o with
  |normal=>exact j _ _ _
  |exit i=>simp only[];cases cC i id<;>exact j _ _ _
  |ret=>exact j _ _ _
 |loop mod tmp c q=>
  intro Ks K j e h
  simp only[iY]
  refine Me (λcs c aa vs h=>?_) n (λk=>k) ⟨n,λk ad=>ad⟩ _ _
  refine q (λo e h=>?_) _ _
  cases o with
  |normal=>exact aa _ _
  |exit i=>exact j _ _ _
  |ret=>exact j _ _ _
 |exit i=>intro Ks K j e h;exact j _ _ _
 |ret=>intro Ks K j e h;exact j _ _ _
 |ju g c4 bC w y l m=>
  intro Ks K j e h
  simp only[iY]
  refine(WL u _ _ _).bind λp=>(cJ.const _).bind λo=>?_
  cases o with
  |none=>exact j _ _ _
  |some x=>exact j _ _ _
theorem Mf{b:Nat->aR}{Γ:aR}(c:∀f args h,cJ (λk=>b k f args h) (Γ f args h))(n:Nat)(args:List J)(h:U):cJ (λk=>nQ (b k) k args h) (nQ Γ n args h):=by
 unfold nQ
 split
 ·split
  ·rename_i cd vs x c6 c4 bC g j dY md ae
   cases cC vs.length bC.length with
   |false=>exact cJ.const _
   |true=>
    simp only[gq]
    refine Hr c n g (λo e h1=>?_) _ _
    cases o with
    |normal=>exact(cJ.const _).bind λh2=>Hr (Ks:=λ_ o _ ak=>(m7 cd o ak).map λq=>(q.1,trim h [] q.2)) (K:=λo _ ak=>(m7 cd o ak).map λq=>(q.1,trim h [] q.2)) c n j (λo _ ak=>cJ.const _) e h2
    |exit i=>exact cJ.const _
    |ret=>exact cJ.const _
  ·exact cJ.const _
 ·exact cJ.const _
theorem Mg{b:Nat->aR}{Γ:aR}(c:∀f args h,cJ (λk=>b k f args h) (Γ f args h))(n:Nat)(F:bU)(args:List J)(h:U):cJ (λk=>bX (b k) k F args h) (bX Γ n F args h):=by
 simp only[bX]
 cases cC args.length F.nG with
 |false=>exact cJ.const _
 |true=>
  simp only[gq]
  refine Hr c n F.code (λo e h'=>?_) _ _
  exact cJ.const _
theorem yb{aJ:aR}{T:iz}:∀(n:Nat) (f:dN) (args:List J) (h:U),cJ (λk=>iA aJ T k f args h) (iA aJ T n f args h)
 |0,f,args,h=>by
  intro r an
  unfold iA at an
  cases aC:cC f dP with
  |true=>rw[aC]at an;cases an
  |false=>
   rw[aC]at an
   simp only[lJ]at an
   split at an
   ·cases an
   ·rename_i b
    refine⟨0,λk _=>?_⟩
    cases k<;>(simp only[iA,aC,lJ,b];exact an)
 |n+1,f,args,h=>by
  intro r an
  unfold iA at an
  cases aC:cC f dP with
  |true=>
   rw[aC]at an
   simp only[gq]at an
   obtain⟨m,hm⟩:=Mf (yb n) n args h r an
   refine⟨m+1,λk ad=>?_⟩
   obtain⟨j,rfl⟩:∃j,k=j+1:=⟨k-1,by omega⟩
   simp only[iA,aC,gq]
   exact hm j (by omega)
  |false=>
   rw[aC]at an
   simp only[lJ]at an
   split at an
   ·rename_i F b
    obtain⟨m,hm⟩:=Mg (yb n) n F args h r an
    refine⟨m+1,λk ad=>?_⟩
    obtain⟨j,rfl⟩:∃j,k=j+1:=⟨k-1,by omega⟩
    simp only[iA,aC,lJ,b]
    exact hm j (by omega)
   ·rename_i b
    refine⟨0,λk _=>?_⟩
    cases k<;>(simp only[iA,aC,lJ,b];exact an)
theorem Mh{aJ:aR}{T:iz}{n:Nat}{f:dN}{args:List J}{h:U}{r:J×U}(ad:iA aJ T n f args h=I r):m8 aJ T f args h=I r:=by
 have H:∃n,(iA aJ T n f args h).isSome=true:=⟨n,by rw[ad];rfl⟩
 unfold m8
 rw[dif_pos H]
 cases aa:iA aJ T (Kn H) f args h with
 |none=>have:=Classical.choose_spec H;rw[aa]at this;cases this
 |some dD=>
  obtain⟨m1,h1⟩:=yb n f args h r ad
  obtain⟨m2,h2⟩:=yb _ f args h dD aa
  have aD:=h1 (max m1 m2) (by omega)
  have aE:=h2 (max m1 m2) (by omega)
  rw[←aD,←aE]
theorem Mi{aJ:aR}{T:iz}(f:dN)(args:List J)(h:U):cJ (λk=>iA aJ T k f args h) (m8 aJ T f args h):=by
 intro r an
 obtain⟨n,aA⟩:=Md an
 exact yb n f args h r aA
theorem WN{aJ:aR}{T:iz}{f:dN}{F:bU}(b:T.get f=I F)(n:Nat){args:List J}{h:U}{r:J×U}(ad:bX (m8 aJ T) n F args h=I r)(aC:cC f dP=false:=by rfl):m8 aJ T f args h=I r:=by
 obtain⟨m,hm⟩:=Mg Mi n F args h r ad
 refine Mh (n:=m+1) ?_
 simp only[iA,aC,lJ,b]
 exact hm m (ca _)
theorem WO{aJ:aR}{T:iz}(n:Nat){args:List J}{h:U}{r:J×U}(ad:nQ (m8 aJ T) n args h=I r):m8 aJ T dP args h=I r:=by
 obtain⟨m,hm⟩:=Mf Mi n args h r ad
 refine Mh (n:=m+1) ?_
 simp only[iA,p0,gq]
 exact hm m (ca _)
end Go.aN
namespace Go.aN
open Go.bB
abbrev bh:=Option (J×U)
def bF{R:Type}(v:J)(h:U)(k:J->U->Option R):Option R:=k v h
theorem Hs{Γ:aR}{n b:Nat}{c6 vs:List J}{c4 bC:List Nat}{c g:hB}{dY:Option fw}{md:eg}{h:U}(ae:h[b]?=I (.loop c6 c4 bC c g .ready dY md))(av:cC vs.length bC.length=true):
 nQ Γ n (.ptr b 0::vs) h=iY Γ n c (λo e h1=>match o with
  |.normal=>(qc b h1).bind λh2=>iY Γ n g (λo _ ak=>(m7 b o ak).map λq=>(q.1,trim h [] q.2)) e h2
  |_=>none) (oB (oB (λ_=>.dI) c4 c6) bC vs) h:=by
 unfold nQ
 simp only[ae,av,gq]
 all_goals congr 1
theorem wrap64{n:Int}(h:dr n):IntKind.i64.wrap n=n:=by
 unfold dr at h
 simp [IntKind.wrap,wZ,w1]
 split<;>omega
theorem ec(k:IntKind)(a b:Int):ar .lss (.int k a) (.int k b)=I (.bool (decide (a<b))):=by simp [ar]
theorem iK(k:IntKind)(a b:Int):ar .leq (.int k a) (.int k b)=I (.bool (decide (a<=b))):=by simp [ar]
theorem ia(k:IntKind)(a b:Int):ar .gtr (.int k a) (.int k b)=I (.bool (decide (a>b))):=by simp [ar]
theorem nU(k:IntKind)(a b:Int):ar .geq (.int k a) (.int k b)=I (.bool (decide (a>=b))):=by simp [ar]
theorem fM(k:IntKind)(a b:Int):ar .eql (.int k a) (.int k b)=I (.bool (a==b)):=by simp [ar]
theorem gG(k:IntKind)(a b:Int):ar .neq (.int k a) (.int k b)=I (.bool (a !=b)):=by simp [ar]
theorem km(k:IntKind)(a b:Int):ar .add (.int k a) (.int k b)=I (.int k (k.wrap (a+b))):=by simp [ar]
theorem ts(k:IntKind)(a b:Int):ar .sub (.int k a) (.int k b)=I (.int k (k.wrap (a-b))):=by simp [ar]
theorem Ht(k:IntKind)(a b:Int):ar .mul (.int k a) (.int k b)=I (.int k (k.wrap (a*b))):=by simp [ar]
theorem WQ(a b:ByteArray):ar .eql (.str a) (.str b)=I (.bool (a.toList==b.toList)):=rfl
theorem AK(neg a b:Bool):nO neg (.bool a) (.bool b)=I (.bool (neg !=(a==b))):=rfl
theorem lX(b:Bool):di .not (.bool b)=I (.bool !b):=rfl
theorem Hu(k b4:IntKind)(n:Int):ml k (.int b4 n)=I (.int k (k.wrap n)):=rfl
theorem eA(v:J)(vs:List J):aI (v::vs) 0=v:=rfl
theorem xY(v w:J)(vs:List J):aI (v::w::vs) 1=w:=rfl
theorem xZ(v w x:J)(vs:List J):aI (v::w::x::vs) 2=x:=rfl
theorem An(v w x y:J)(vs:List J):aI (v::w::x::y::vs) 3=y:=rfl
theorem WR(v w x y z:J)(vs:List J):aI (v::w::x::y::z::vs) 4=z:=rfl
theorem sb(t:Bool){R:Type}(a b:Option R):a7 (.bool t) true a b=if t=true then a else b:=rfl
theorem pr(t:Bool){R:Type}(a b:Option R):a7 (.bool t) false a b=if t=false then a else b:=rfl
theorem eB(t:Bool){R:Type}(a b:Option R):a8 (.bool t) a b=if t=true then a else b:=rfl
theorem WS{R:Type}(k:List J->U->Option R)(b:(List J->U->Option R)->Option R):aB k b=b k:=rfl
theorem WT{R:Type}(k:J->U->Option R)(b:(J->U->Option R)->Option R):a6 k b=b k:=rfl
theorem na{R:Type}(v:J)(h:U)(k:J->U->Option R):bF v h k=k v h:=rfl
theorem WU{R:Type}(m:Option R):hY true m=m:=rfl
theorem WV{R:Type}(a:Option R):both a a=a:=by unfold both;rw[aQ rfl]
theorem Mj{R:Type}{a b r:Option R}(h1:a=r)(h2:b=r):both a b=r:=by rw[h1,h2,WV]
theorem WW{R:Type}(neg:Bool)(sz:Nat)(r:List J)(rs:List (List J))(k:J->Option R):m6 .slice neg (.bz sz (r::rs)) k=k (.bool neg):=by cases neg<;>rfl
theorem WX{R:Type}(neg:Bool)(sz:Nat)(k:J->Option R):m6 .slice neg (.bz sz []) k=both (k (.bool true)) (k (.bool false)):=rfl
theorem WY{R:Type}{neg:Bool}{sz:Nat}{rows:List (List J)}{k:J->Option R}{r:Option R}(h1:rows=[]->k (.bool !neg)=r)(h2:k (.bool neg)=r):m6 .slice neg (.bz sz rows) k=r:=by
 cases rows with
 |cons x l=>rw[WW];exact h2
 |nil=>
  rw[WX]
  have h1:=h1 rfl
  cases neg
  ·exact Mj h1 h2
  ·exact Mj h2 h1
theorem Mk{R:Type}{B:(List J->U->Option R)->List J->U->Option R}(vs:Nat->List J)(az:Nat->U)(len:Nat)(r:Option R)
 (b:∀i,i<len->∀K,B K (vs i) (az i)=K (vs (i+1)) (az (i+1))) (c:∀K,B K (vs len) (az len)=r):∀(n i:Nat),i<=len->len<n+i->cr B n (vs i) (az i)=r
 |0,i,h1,h2=>by omega
 |n+1,i,h1,h2=>by
  show B (cr B n) (vs i) (az i)=r
  by_cases h:i<len
  ·rw[b i h]
   exact Mk vs az len r b c n (i+1) h (by omega)
  ·have:i=len:=by omega
   subst this
   exact c _
theorem hq{R:Type}{B:(List J->U->Option R)->List J->U->Option R}{r:Option R}{n:Nat}{v0:List J}{au:U}(vs:Nat->List J)(az:Nat->U)(len:Nat)(aA:len<n)(aD:vs 0=v0)(aE:az 0=au)
 (b:∀i,i<len->∀K,B K (vs i) (az i)=K (vs (i+1)) (az (i+1))) (c:∀K,B K (vs len) (az len)=r):cr B n v0 au=r:=by
 rw[←aD,←aE]
 exact Mk vs az len r b c n 0 (hQ _) (by omega)
theorem nV{R:Type}{B:(List J->U->Option R)->List J->U->Option R}{r:Option R}{n:Nat}{v0:List J}{au:U}(vs:Nat->List J)(len:Nat)(aA:len<n)(aD:vs 0=v0)
 (b:∀i,i<len->∀K,B K (vs i) au=K (vs (i+1)) au) (c:∀K,B K (vs len) au=r):cr B n v0 au=r:=
 hq vs (λ_=>au) len aA aD rfl b c
theorem fP(h l:U)(k:Nat):(h++l)[h.length+k]?=l[k]?:=by
 rw[ma (by omega)];congr 1;omega
theorem eQ(h l:U):(h++l)[h.length]?=l[0]?:=fP h l 0
theorem ps(h l:U)(k:Nat)(b:cq):(h++l).set (h.length+k) b=h++l.set k b:=by
 rw[List.set_append_right _ _ (by omega)];congr 2;omega
theorem pt(h l:U)(b:cq):(h++l).set h.length b=h++l.set 0 b:=ps h l 0 b
theorem pv{h:U}{b:Nat}{vs:List J}{t:aX}{md:eg}(e:h[b]?=I (.box vs t md)):jZ h b=I vs:=by unfold jZ;rw[e]
theorem AL{h:U}{b sz:Nat}{rows:List (List J)}{t:aX}{md:eg}(e:h[b]?=I (.log rows sz t md)):r7 h b rows.length sz=I rows:=by unfold r7;rw[e];simp
theorem lv(agg:Bool)(n b o:Nat)(h:U):ab agg n (.ptr b o) h=(jZ h b).bind λvs=>eT agg o n vs:=rfl
theorem yc(agg:Bool)(n o:Nat)(row:List J)(h:U):ab agg n (.e6 row o) h=eT agg o n row:=rfl
theorem Hv(o n:Nat)(cs:List J):eT false o n cs=cs[o]?:=rfl
theorem Ml{o n:Nat}{cs:List J}(h:o+n<=cs.length):eT true o n cs=I (.agg ((cs.drop o).take n)):=aQ h
theorem fQ{n:Nat}{cs:List J}(h:cs.length=n):eT true 0 n cs=I (.agg cs):=by rw[Ml (by omega),o4,um (by omega)]
theorem Mm(b o f:Nat):aq f (.ptr b o)=I (.ptr b (o+f)):=rfl
theorem Mn(row:List J)(o f:Nat):aq f (.e6 row o)=I (.e6 row (o+f)):=rfl
theorem WZ{h:U}{b o n:Nat}{v:J}{vs b_:List J}{t:aX}(e:h[b]?=I (.box vs t .rw))(aA:(b' v).length=n)(au:0<n)(aj:cy vs o (b' v)=I b_):a_ n (.ptr b o) v h=I (h.set b (.box b_ t .rw)):=by
 unfold a_
 have aD:(cC (b' v).length n&&fD 0 n)=true:=by subst aA;simp [fD];exact au
 rw[aD]
 simp only[gq,e,aj,dm]
theorem W0{h:U}{b n:Nat}{cs vs:List J}{t:aX}(e:h[b]?=I (.box vs t .rw))(h1:vs.length=n)(h2:cs.length=n)(au:0<n)(aw:cs.all dd=true):a_ n (.ptr b 0) (.agg cs) h=I (h.set b (.box cs t .rw)):=by
 refine WZ e h2 au ?_
 unfold cy
 rw[aQ ⟨by simp only[b'];omega,aw⟩]
 simp only[b',w4,hy,gR]
 rw[F4 (by omega),fu]
theorem W1{sz:Nat}{rows:List (List J)}{i:Nat}{row:List J}(k:IntKind)(h:rows[i]?=I row):bW sz (.bz sz rows) (.int k i)=I (.e6 row 0):=by
 simp only[bW]
 rw[aQ ⟨by omega,trivial⟩,lI,h]
 rfl
theorem rj{α:Type}{f:α->List J}{l:List α}{sz:Nat}{i:Nat}{a:α}(k:IntKind)(h:l[i]?=I a):bW sz (.bz sz (l.map f)) (.int k i)=I (.e6 (f a) 0):=W1 k (by rw[ja,h];rfl)
theorem Mo{b lo n v sz:Nat}{i:Nat}(k:IntKind)(h:i<n):bW sz (.ref b lo n v sz) (.int k i)=I (.gB b (lo+i) 0 v sz):=by
 simp only[bW]
 rw[aQ ⟨by omega,by omega,trivial⟩,lI]
theorem W2{sz:Nat}{rows:List (List J)}:bw false (.bz sz rows)=I (.int .i64 rows.length):=rfl
theorem sc{α:Type}{sz:Nat}{f:α->List J}{l:List α}:bw false (.bz sz (l.map f))=I (.int .i64 l.length):=by rw[W2,dn]
theorem W3(b lo n v sz:Nat):bw false (.ref b lo n v sz)=I (.int .i64 n):=rfl
theorem nW(s:ByteArray):bw true (.str s)=I (.int .i64 s.size):=rfl
theorem W4(z v:J)(aw:b' v=[v]:=by rfl):cK (hL [z] 1) [(0,1,v)]=I [v]:=by
 simp [cK,hL,aw]
theorem W5(z:J)(k:IntKind)(n:Int):cK (hL [z] 1) [(0,1,.int k n)]=I [.int k n]:=W4 _ _
theorem W6{h:U}{b sz:Nat}{t:aX}{rows new:List (List J)}{x:J}(e:h[b]?=I (.log rows sz t .rw))(af:kk sz x h=I new)(az:0<sz)(aj:new.flatten.all dd=true)(hm:rows.length+new.length<=da):
 ek t sz (.ref b 0 rows.length rows.length sz) x h=I (.ref b 0 (rows.length+new.length) (rows.length+new.length) sz,h.set b (.log (rows++new) sz t .rw)):=by
 simp only[ek,af,dy,ra]
 rw[aQ ⟨by omega,az,aj⟩,e]
 simp only
 rw[aQ ⟨trivial,trivial,trivial,trivial,trivial,trivial,hm⟩]
theorem W7(sz:Nat)(rows:List (List J))(h:U):kk sz (.bz sz rows) h=I rows:=aQ rfl
theorem vt{h l:U}{k sz:Nat}{t:aX}{rows:List (List J)}{row:List J}(e:l[k]?=I (.log rows sz t .rw))(az:0<sz)(aj:row.all dd=true)(hm:rows.length<da):
 ek t sz (.ref (h.length+k) 0 rows.length rows.length sz) (.bz sz [row]) (h++l)=I (.ref (h.length+k) 0 (rows.length+1) (rows.length+1) sz,h++l.set k (.log (rows++[row]) sz t .rw)):=by
 rw[W6 (by rw[fP];exact e) (W7 _ _ _) az (by simpa using aj) (by simp;omega),ps]
 rfl
theorem jd(h:U)(roots:List J):trim h roots h=h:=by
 unfold trim
 split
 ·exact h6
 ·rfl
theorem hr{h h':U}(roots:List J)(e:h'.length=h.length):trim h roots h'=h':=by
 unfold trim
 split
 ·rw[←e];exact h6
 ·rfl
theorem pw{h:U}{roots:List J}(l:U)(an:∀v∈roots,bI h.length v):trim h roots (h++l)=h:=by
 unfold trim
 rw[aQ ⟨an,λb ae=>.inl (cG ae)⟩]
 exact uv
theorem k3(v:J)(h:U):dh .ah v h=I (v,h):=by unfold dh;rfl
theorem AM(sz sz':Nat)(rows:List (List J))(h:U):dh (.flat sz) (.bz sz' rows) h=I (.bz sz' rows,h):=by unfold dh;rfl
theorem Mp(sz sz':Nat)(cs:List fx)(rows:List (List J))(h:U):dh (.bO sz cs) (.bz sz' rows) h=I (.bz sz' rows,h):=by unfold dh;rfl
theorem W8(sz:Nat)(h:U):dh (.flat sz) .bc h=I (.bz sz [],h):=by unfold dh;rfl
theorem Mq(sz:Nat)(cs:List fx)(h:U):dh (.bO sz cs) .bc h=I (.bz sz [],h):=by unfold dh;rfl
theorem W9(sz:Nat)(h:U):dh (.flat sz) .emp h=I (.bz sz [],h):=by unfold dh;rfl
theorem W_(sz:Nat)(cs:List fx)(h:U):dh (.bO sz cs) .emp h=I (.bz sz [],h):=by unfold dh;rfl
theorem yd(cs:List fx)(vs:List J)(h:U):dh (.agg cs) (.agg vs) h=(hK cs vs h).map λq=>(.agg q.1,q.2):=by unfold dh;rfl
theorem j1(h:U):hK [] [] h=I ([],h):=by unfold hK;rfl
theorem i_(s:fx)(fg:List fx)(v:J)(vs:List J)(h:U):hK (s::fg) (v::vs) h=(dh s v h).bind λq=>(hK fg vs q.2).map λr=>(q.1::r.1,r.2):=by rw[hK]
theorem W'{h l:U}{k sz s:Nat}{t:aX}{rows:List (List J)}(e:l[k]?=I (.log rows sz t .rw))(aj:rows.flatten.all fz=true):
 dh (.flat s) (.ref (h.length+k) 0 rows.length rows.length sz) (h++l)=I (.bz sz rows,h++if rows.length=0 then l else l.set k (.log rows sz t .ro)):=by
 unfold dh
 simp only
 by_cases au:rows.length=0
 ·rw[aQ au,aQ au,gy au]
 ·rw[a1 au,a1 au,fP,e]
  simp only[o4,h6]
  rw[aQ ⟨trivial,trivial,by omega,aj⟩,ps]
theorem nb(oD:List fx)(h h':U)(vs:List J):aL oD h h' vs=(hK oD vs h').map λq=>(tq q.1,trim h q.1 q.2):=rfl
theorem Xa(v:J):tq [v]=v:=rfl
theorem Hw(v w:J):tq [v,w]=.tuple [v,w]:=rfl
theorem Xb(v w x:J):tq [v,w,x]=.tuple [v,w,x]:=rfl
theorem ye{h l:U}{v:J}(aw:∀n,bI n v):aL [.ah] h (h++l) [v]=I (v,h):=by
 simp only[nb,i_,j1,k3,dy,dm,Xa]
 rw[pw _ (λx af=>by simp only[List.mem_singleton]at af;subst af;exact aw _)]
theorem px{h l:U}{k:IntKind}{n:Int}:aL [.ah] h (h++l) [.int k n]=I (.int k n,h):=ye λ_=>by simp [bI]
theorem dw{h l:U}{b:Bool}:aL [.ah] h (h++l) [.bool b]=I (.bool b,h):=ye λ_=>by simp [bI]
theorem oF{h:U}{k:IntKind}{n:Int}:aL [.ah] h h [.int k n]=I (.int k n,h):=by have:=px (h:=h) (l:=[]) (k:=k) (n:=n);rwa [fu]at this
theorem dR{h:U}{b:Bool}:aL [.ah] h h [.bool b]=I (.bool b,h):=by have:=dw (h:=h) (l:=[]) (b:=b);rwa [fu]at this
theorem nc{α:Type}{f:α->List J}(aC:∀a,(f a).all fz=true)(l:List α):(l.map f).flatten.all fz=true:=by
 refine List.all_eq_true.2 λx af=>?_
 obtain⟨r,an,af⟩:=List.mem_flatten.1 af
 obtain⟨a,_,rfl⟩:=List.mem_map.1 an
 exact List.all_eq_true.1 (aC a) x af
theorem py{α:Type}{l:List α}{i:Nat}{a:α}(ag:l[i]?=I a):l.take (i+1)=l.take i++[a]:=by rw[List.take_add_one,ag];rfl
theorem qj{R:Type}(h:U)(k:U->Option R):dQ h (lock h) k=k h:=by
 unfold dQ
 rw[aQ (List.prefix_refl _),F4 (by rw[kl];exact ca _),fu]
theorem Xc{R:Type}(h l:U)(k:U->Option R):dQ h (lock h++l) k=k (h++l):=by
 unfold dQ
 rw[aQ (List.prefix_append _ _),←kl h,List.drop_left]
theorem kM(Γ:aR)(g:dN)(xs ys args:List J)(h:U)(bE:fD g dP=true:=by rfl):gh Γ (.func g xs ys) args h=Γ g (xs++args++ys) h:=by
 show(bif fD g dP then _ else _)=_
 rw[bE];rfl
theorem yf(Γ:aR)(g:dN)(xs ys args:List J)(h:U)(bE:fD g dP=true:=by rfl):po Γ (.func g xs ys) args h=Γ g (xs++args++ys) h:=by
 show(bif fD g dP then _ else _)=_
 rw[bE];rfl
def bA(n:Int):List J:=[.int .i64 n]
def dj(l:List Int):J:=.bz 1 (l.map bA)
theorem lx(l:List Int):bw false (dj l)=I (.int .i64 l.length):=sc
theorem nd{l:List Int}{i:Nat}{a:Int}(k:IntKind)(h:l[i]?=I a):bW 1 (dj l) (.int k i)=I (.e6 (bA a) 0):=rj k h
theorem vu(a:Int)(h:U):ab false 1 (.e6 (bA a) 0) h=I (.int .i64 a):=rfl
theorem Xd(s:Nat)(l:List Int)(h:U):dh (.flat s) (dj l) h=I (dj l,h):=AM _ _ _ _
theorem cL{i n:Nat}(h:i<n):((i:Int)<(n:Int))=True:=jU (by omega)
theorem fR(n:Nat):((n:Int)<(n:Int))=False:=dK (by omega)
theorem yg(n:Nat)(k:IntKind)(x:Int):bI n (.int k x):=by simp [bI]
theorem Xe(n:Nat)(x:Bool):bI n (.bool x):=by simp [bI]
theorem Xf(n:Nat)(s:ByteArray):bI n (.str s):=by simp [bI]
theorem Xg(n:Int):IntKind.u8.wrap n=n%256:=by simp [IntKind.wrap,wZ,w1]
theorem Xh{agg:Bool}{n b i o sz ver:Nat}{rows:List (List J)}{row:List J}{t:aX}{md:eg}{h:U}(e:h[b]?=I (.log rows sz t md))(aw:ver=rows.length)(ag:rows[i]?=I row):ab agg n (.gB b i o ver sz) h=eT agg o n row:=by
 subst aw
 simp only[ab,AL e,dy,ag]
def ahF{α:Type}(g:Nat->α)(z:α)(n i:Nat):List α:=(List.range n).map λj=>if j<i then g j else z
theorem Mr(k:IntKind)(n:Int):b' (.int k n)=[.int k n]:=rfl
theorem qk(cs:List J):b' (.agg cs)=cs:=rfl
open Go.ChangeShapes Go.WideShapes
mutual
def gX:gf->ds->J
 |.bO s,d=>match d with
  |.bO rows=>.bz s.length (rows.map (hZ s))
  |.v x=>gg x
 |.int _,d=>match d with
  |.v x=>gg x
  |.bO _=>.dI
 |.bool,d=>match d with
  |.v x=>gg x
  |.bO _=>.dI
 |.str,d=>match d with
  |.v x=>gg x
  |.bO _=>.dI
def hZ:List gf->List ds->List J
 |[],_=>[]
 |s::fg,df=>match df with
  |[]=>[]
  |d::df=>gX s d::hZ fg df
end
theorem Xi{S:Nat->Prop}{h:aP}{ws:List Value}{d1 b:List ds}(r:fy S h ws (d1++b)):∃bu cP,ws=bu++cP/\fy S h bu d1/\fy S h cP b:=by
 refine⟨ws.take d1.length,ws.drop d1.length,(qW _ _).symm,?_,?_⟩
 ·have:=r.take d1.length;rwa [uv]at this
 ·have:=r.drop d1.length;rwa [List.drop_left]at this
theorem Hx:∀{s:List gf} {r:List ds},cv s r->(hZ s r).length=s.length
 |[],_,h=>by simp [hZ]
 |s::fg,_,h=>by
  cases h with
  |cons h1 h2=>simp [hZ,Hx h2]
theorem Xj{s:gf}{d:ds}(h:dc s d):fz (gX s d)=true:=by
 cases h with
 |int=>simp [gX,gg,fz]
 |bool=>simp [gX,gg,fz]
 |str=>simp [gX,gg,fz]
 |bO=>simp [gX,fz]
theorem Ms:∀{s:List gf} {r:List ds},cv s r->(hZ s r).all fz=true
 |[],_,h=>by simp [hZ]
 |s::fg,_,h=>by
  cases h with
  |cons h1 h2=>simp only[hZ,ny,Xj h1,Ms h2,Bool.and_self]
def vv(h:aP):dk:=λa=>h[a]?
mutual
theorem Xk{μ:Ren}{S:Nat->Prop}{h:aP}:∀(s:gf) {d:ds} {x:Value},dc s d->R S h x d->bn μ (vv h) (gX s d) x
 |.int k,_,_,az,an=>by
  cases az with
  |int b0=>cases an with|v af=>simp only[gX];exact bn.gg _
 |.bool,_,_,az,an=>by
  cases az with
  |bool=>cases an with|v af=>simp only[gX];exact bn.gg _
 |.str,_,_,az,an=>by
  cases az with
  |str=>cases an with|v af=>simp only[gX];exact bn.gg _
 |.bO s,_,_,az,an=>by
  cases az with
  |@bO _ rows av tr=>
   simp only[gX]
   cases an with
   |nil=>exact .m9 _
   |fc=>exact .lR _ _ _
   |@bO b o c n vs _ aA ae aa k4 az=>
    have br:=az.length
    have aC:(rows.map (hZ s)).flatten.length=rows.length*s.length:=by
     rw[lU (size:=s.length) (λr an=>by obtain⟨q,h1,rfl⟩:=List.mem_map.1 an;exact Hx (tr q h1)),dn]
    have u7:=Mt (μ:=μ) s rows tr az
    have AN:=u7.length
    rw[aC]at AN
    unfold hV at k4
    split at k4
    ·rename_i cs t en ou
     split at k4
     ·rename_i e_
      have e:=jR k4
      have mY:maxLen<et:=LL
      refine .bz (vs:=cs) (t:=t) (rw:=en) (by rw[dn];exact aA) ⟨aa,by omega⟩ (λr an=>by obtain⟨q,h1,rfl⟩:=List.mem_map.1 an;exact Hx (tr q h1)) ou (by rw[aA];omega) (List.all_eq_true.2 λz bq=>?_) ?_
      ·obtain⟨r,h1,h2⟩:=List.mem_flatten.1 bq
       obtain⟨q,ak,rfl⟩:=List.mem_map.1 h1
       exact List.all_eq_true.1 (Ms (tr q ak)) z h2
      ·rw[aA,AN,e]
       exact u7
     ·cases k4
    ·cases k4
theorem AO{μ:Ren}{S:Nat->Prop}{h:aP}:∀(s:List gf) {r:List ds} {ws:List Value},cv s r->fy S h ws r->bL μ (vv h) (hZ s r) ws
 |[],_,_,az,an=>by cases az;cases an;exact .nil
 |s::fg,_,_,az,an=>by
  cases az with
  |cons h1 h2=>cases an with
   |cons ak aH=>
    simp only[hZ]
    exact .cons (Xk s h1 ak) (AO fg h2 aH)
theorem Mt{μ:Ren}{S:Nat->Prop}{h:aP}(s:List gf):∀(rows:List (List ds)) {ws:List Value},(∀r∈rows,cv s r)->fy S h ws rows.flatten->bL μ (vv h) (rows.map (hZ s)).flatten ws
 |[],_,_,an=>by cases an;exact .nil
 |r::rows,_,az,an=>by
  rw[lK]at an
  obtain⟨bu,cP,rfl,h1,h2⟩:=Xi an
  rw[List.map_cons,lK]
  exact(AO s (az r (by simp)) h1).append (Mt s rows (λq bs=>az q (by simp [bs])) h2)
end
def yh:Ren:=λ_ _=>none
theorem Xl(h:aP):cT yh (vv h) [] h:=
 ⟨λb k o e=>(by cases e),λb blk e=>(by cases e),λb bf blk blk' l cB e=>(by cases e),λb blk l e=>(by cases e),λa blk e=>e,λb blk k o e=>(by cases e)⟩
theorem Hy(n:Int):hZ [.int .i64] (q8 n)=bA n:=by simp only[q8,hZ,gX,gg,bA]
theorem oG{α:Type}{s:List gf}{f:α->List ds}{g:α->List J}(b:∀a,hZ s (f a)=g a)(l:List α):gX (.bO s) (.bO (l.map f))=.bz s.length (l.map g):=by
 simp only[gX,List.map_map]
 congr 1
 exact List.map_congr_left λa _=>b a
end Go.aN
