import Derived.CallsIn
import Derived.OrdersIn
import Derived.KernelRfl
import Derived.Laws.StructEq
import Derived.ChangeKeysEq
import Derived.Laws.Entries
import Derived.Laws.Cells
import Derived.Laws.CopyRow
import Derived.Laws.BitsLemmas
import Derived.Laws.BytesString
import Derived.RangeFuncLeaves
import Derived.RangeFuncRecord
import Derived.Great.BuildSlice
set_option linter.unusedSimpArgs false
set_option linter.unusedVariables false
open Array renaming eq_empty_of_size_eq_zero → ahD,ext' → l_,getElem?_eq_getElem → kW,getElem?_modify → J',getElem?_setIfInBounds_ne → w2,length_toList → pW,range → sZ,toList_map → Ke
open BitVec renaming ofInt → j'
open Bool renaming and_assoc → wS,and_eq_true → dx,and_true → jt,false_eq_true → bg,not_false → gp,not_true → e3
open Go.Builtin renaming append_ → pY,clear_ → Kh,firstCells → ob,len_ → wU,nextslicecap → zr,zeroCells → mL
open Go.Call renaming operands → FY
open Classical renaming byContradiction → pV
open Eq renaming refl → iq
open Go renaming FuncId → dN,TypeId → aX,asIntOf → uh,binOp → lk,eqGuard → kV,execOp → jS,loadCells → uj,loadCellsFrom → uk,run_bytesToString → Ki,run_convert_bytes_string → FW,run_loadCells_list → Kb,run_newObj → wX,storeCells → zo,zeroValue → zm
open Go.Instr renaming checkKey → Kj,fill → FV,findKey → FX,findNow → qU,index → Kc,indexAt → Kd,lookup → Kk,sameBits → zs,sliceAt → wV,sliceBounds → Tz,sureAddr → zq
open Int renaming mul_le_mul → wW,toNat_natCast → lI
open Go.IntKind renaming bits → wZ,signed → w1
open List renaming all_cons → ny,append_assoc → eo,drop_drop → sY,eq_nil_of_length_eq_zero → gy,ext_getElem? → gn,getElem?_append_left → cG,getElem?_append_right → ma,getElem?_concat_length → zp,getElem?_cons_succ → l9,getElem?_cons_zero → jP,getElem?_drop → oZ,getElem?_eq_none → e2,getElem?_set_ne → hj,getElem?_set_self → fr,getElem?_take_of_lt → l',getElem?_toArray → wY,length_append → dW,length_cons → kb,length_drop → wT,length_map → dn,length_set → ir,length_take → kz,map_cons → qV,range → fb,take_length → h6,take_of_length_le → um,take_succ_cons → J_,take_take → qT
open Nat renaming add_mul → h8,beq → cC,blt → fD,le_refl → ca,le_trans → lH,lt_of_lt_of_le → hF,min → fY,min_eq_left → mb,zero_add → gR,zero_le → hQ,zero_mul → mK
open Go.Op renaming equalIn → js,operands → ft
open Option renaming bind_eq_some_iff → cN,isSome_none → FU,map_eq_some_iff → de,map_some → dm,some → I
open Option.some renaming inj → jR,injEq → ug
open Go.Question renaming appendCap → Kf
open Go.Result renaming andThen_ok → ed
open Go.Sem renaming run_bind → er,run_pure → ga
open UInt8 renaming ofNat → wQ
open Go.Value renaming int → hG
open Go.World renaming cell? → wR,putObj → uo
namespace Go
theorem kc:type_of% @beq_eq_false_iff_ne:=@beq_eq_false_iff_ne
theorem iE:type_of% @beq_iff_eq:=@beq_iff_eq
theorem o1:type_of% @beq_self_eq_true:=@beq_self_eq_true
theorem kX:type_of% @bne_iff_ne:=@bne_iff_ne
theorem lJ:type_of% @cond_false:=@cond_false
theorem gq:type_of% @cond_true:=@cond_true
theorem cV:type_of% @congrArg:=@congrArg
theorem h7:type_of% @decide_eq_false_iff_not:=@decide_eq_false_iff_not
theorem uz:type_of% @decide_eq_true:=@decide_eq_true
theorem fi:type_of% @decide_eq_true_eq:=@decide_eq_true_eq
theorem cW:type_of% @decide_false:=@decide_false
theorem cm:type_of% @decide_true:=@decide_true
theorem dK:type_of% @eq_false:=@eq_false
theorem jU:type_of% @eq_true:=@eq_true
theorem bd:type_of% @if_false:=@if_false
theorem a1:type_of% @if_neg:=@if_neg
theorem aQ:type_of% @if_pos:=@if_pos
theorem aZ:type_of% @if_true:=@if_true
theorem hR:type_of% @or_false:=@or_false
end Go
namespace Go.bB
abbrev bJ:=Nat->Value
def dI:Value:=.complex .f64 7 7
def et:Nat:=1180591620717411303424
def bK(e:bJ)(i:Nat)(v:Value):bJ:=λj=>bif cC i j then v else e j
def gT(e:bJ)(d:Option Nat)(v:Value):bJ:=match d with|some i=>bK e i v|none=>e
def jV(e:bJ):List Nat->bJ
 |[]=>e
 |i::r=>bK (jV e r) i dI
def fv(e:bJ):List Nat->List Value->bJ
 |[],_=>e
 |i::r,vs=>bK (fv e r vs.tail) i (vs.headD undef)
def w9(vs:List Value):Nat->Value
 |0=>vs.headD undef
 |k+1=>w9 vs.tail k
def kA:Value->List Value
 |.agg cs=>cs.toList
 |.complex _ _ _=>[]
 |v=>[v]
def hS(b o:Nat):Value:=.pointer (I ⟨b,o,none⟩)
def rT(op:BinOp)(x y:Value):Option Value:=
 match x,y with
 |.int k a,.int b4 b=>
  match op with
  |.shl=>if b<0 then none else I (.int k (k.wrap (a*2 ^ (min b.toNat k.bits))))
  |.shr=>if b<0 then none else I (.int k (a.fdiv (2 ^ (min b.toNat k.bits))))
  |op=>
   if k=b4 then
    match op with
    |.add=>I (.int k (k.wrap (a+b)))
    |.sub=>I (.int k (k.wrap (a-b)))
    |.mul=>I (.int k (k.wrap (a*b)))
    |.quo=>if b=0 then none else I (.int k (k.wrap (a.tdiv b)))
    |.rem=>if b=0 then none else I (.int k (a.tmod b))
    |.and=>I (.int k (k.wrap (j' k.bits a &&& j' k.bits b).toNat))
    |.or=>I (.int k (k.wrap (j' k.bits a ||| BitVec.ofInt k.bits b).toNat))
    |.xor=>I (.int k (k.wrap (j' k.bits a ^^^ j' k.bits b).toNat))
    |.andNot=>I (.int k (k.wrap (j' k.bits a &&& ~~~(j' k.bits b)).toNat))
    |.eql=>I (.bool (a==b))
    |.neq=>I (.bool (a !=b))
    |.lss=>I (.bool (decide (a<b)))
    |.leq=>I (.bool (decide (a<=b)))
    |.gtr=>I (.bool (decide (a>b)))
    |.geq=>I (.bool (decide (a>=b)))
    |_=>none
   else none
 |.string a,.string b=>
  match op with
  |.add=>if a.size+b.size<=4611686018427387904 then I (.string (a++b))else none
  |.eql=>I (.bool (a.toList==b.toList))
  |.neq=>I (.bool !(a.toList==b.toList))
  |_=>none
 |_,_=>none
def zA(neg:Bool)(x y:Value):Option Value:=
 match x,y with
 |.bool a,.bool b=>I (.bool (neg !=(a==b)))
 |_,_=>none
def w_(neg:Bool)(x:Value):Option Value:=
 match x with
 |.slice none _ _|.pointer none|.nilFunc|.map none|.nilIface=>I (.bool (neg !=true))
 |.slice (I _) _ _|.pointer (I _)|.func _ _ _|.map (I _)|.iface _ _=>I (.bool (neg !=false))
 |_=>none
inductive p2 where
 |slice|pointer|map|func|iface
def F9:p2->Value->Bool
 |.slice,.slice ..=>true
 |.pointer,.pointer _=>true
 |.map,.map _=>true
 |.func,.func ..=>true
 |.func,.nilFunc=>true
 |.iface,.iface ..=>true
 |.iface,.nilIface=>true
 |_,_=>false
def s7(k:p2)(neg:Bool)(x:Value):Option Value:=
 match F9 k x with
 |true=>w_ neg x
 |false=>none
inductive e4 where
 |int|bool|str
def hc:List e4->List Value->List Value->Option Bool
 |[],[],[]=>I true
 |.int::c3,.int k a::xs,.int b4 b::ys=>if k=b4 then(hc c3 xs ys).map (λr=>(a==b)&&r)else none
 |.bool::c3,.bool a::xs,.bool b::ys=>(hc c3 xs ys).map (λr=>(a==b)&&r)
 |.str::c3,.string a::xs,.string b::ys=>(hc c3 xs ys).map (λr=>(a==b)&&r)
 |_,_,_=>none
def w'(c3:List e4)(neg:Bool)(x y:Value):Option Value:=
 match x,y with
 |.agg xs,.agg ys=>(hc c3 xs.toList ys.toList).map λr=>.bool (neg !=r)
 |_,_=>none
def zB(op:UnOp)(x:Value):Option Value:=
 match op,x with
 |.neg,.int k n=>I (.int k (k.wrap (0-n)))
 |.not,.bool b=>I (.bool !b)
 |.xor,.int k n=>I (.int k (k.wrap (j' k.bits (if k.signed then -1 else k.max) ^^^ j' k.bits n).toNat))
 |_,_=>none
def zC(x:Value):Option Value:=
 match x with
 |.string s=>I (.string s)
 |_=>none
def zD(k:IntKind)(x:Value):Option Value:=
 match x with
 |.int _ n=>I (.int k (k.wrap n))
 |_=>none
def xa(str:Bool)(x:Value):Option Value:=
 match str,x with
 |true,.string s=>I (.int .i64 s.size)
 |false,.slice _ n _=>I (.int .i64 n)
 |_,_=>none
def uD(c x y:Value):Option Value:=
 match c with
 |.bool b=>I (if b then x else y)
 |_=>none
def xb(x:Value)(i:Nat):Option Value:=
 match x with
 |.tuple vs=>vs[i]?
 |_=>none
def uE(agg:Bool)(off size:Nat)(cs:List Value):Option Value:=
 match agg with
 |true=>if off+size<=cs.length then I (.agg ((cs.drop off).take size).toArray)else none
 |false=>cs[off]?
def zE(agg:Bool)(off size:Nat)(x:Value):Option Value:=
 match x with
 |.agg cs=>uE agg off size cs.toList
 |_=>none
def xc(n:Nat)(agg:Bool)(size:Nat)(x i:Value):Option Value:=
 match x,i with
 |.agg cs,.int _ j=>if 0<=j/\j<n then uE agg (j.toNat*size) size cs.toList else none
 |_,_=>none
def xd(x i:Value):Option Value:=
 match x,i with
 |.string s,.int _ j=>if 0<=j then(s.data[j.toNat]?).map λb=>.int .u8 b.toNat else none
 |_,_=>none
def uF(off:Nat)(x:Value):Option Value:=
 match x with
 |.pointer (I a)=>I (hS a.block (a.off+off))
 |_=>none
def qZ(size:Nat)(x i:Value):Option Value:=
 match x,i with
 |.slice (I a) n _,.int _ j=>if 0<=j/\j<n then I (hS a.block (a.off+j.toNat*size))else none
 |_,_=>none
def uG(n size:Nat)(x i:Value):Option Value:=
 match x,i with
 |.pointer (I a),.int _ j=>if 0<=j/\j<n then I (hS a.block (a.off+j.toNat*size))else none
 |_,_=>none
def F_(x:Value):Option Value:=
 match x with
 |.pointer (I a)=>I (.pointer (I a))
 |.func (.func f) xs ys=>I (.func (.func f) xs ys)
 |_=>none
def hT(d:Nat)(x:Option Value)(gz:Nat):Option Nat:=
 match x with
 |none=>I d
 |some (.int _ j)=>if 0<=j/\j<=gz then I j.toNat else none
 |_=>none
def oe(size:Nat)(x:Value)(lo ag mx:Option Value):Option Value:=
 match x with
 |.slice a n c=>
  let gz:=if c=et then n else c
  (hT gz mx gz).bind λm=>(hT n ag m).bind λh=>(hT 0 lo h).bind λl=>
    if c=et then
     match mx with
     |none=>I (.slice (a.map λa=>⟨a.block,a.off+l*size,none⟩) (h-l) et)
     |some _=>if m<et then I (.slice (if m=l then a else a.map λa=>⟨a.block,a.off+l*size,none⟩) (h-l) (m-l))else none
    else I (.slice (if m=l then a else a.map λa=>⟨a.block,a.off+l*size,none⟩) (h-l) (m-l))
 |_=>none
def xe(x:Value)(lo ag:Option Value):Option Value:=
 match x with
 |.string s=>(hT s.size ag s.size).bind λh=>(hT 0 lo h).bind λl=>I (.string (s.extract l h))
 |_=>none
def F'(n size:Nat)(x:Value)(lo ag mx:Option Value):Option Value:=
 match x with
 |.pointer (I a)=>
  (hT n mx n).bind λm=>(hT n ag m).bind λh=>(hT 0 lo h).bind λl=>
    I (.slice (I (if m=l then a else⟨a.block,a.off+l*size,none⟩)) (h-l) (m-l))
 |_=>none
def xf(x y:Value):Option Value:=
 match x,y with
 |.int k a,.int b4 b=>if k=b4 then I (.int k (if b>a then b else a))else none
 |_,_=>none
def xg(x y:Value):Option Value:=
 match x,y with
 |.int k a,.int b4 b=>if k=b4 then I (.int k (if b<a then b else a))else none
 |_,_=>none
def uH(f:Value->Value->Option Value)(x:Value):List Value->Option Value
 |[]=>I x
 |y::r=>(f x y).bind λz=>uH f z r
def Ga(f:Value->Value->Option Value):List Value->Option Value
 |[]=>none
 |x::r=>uH f x r
def o6(cells:List Value):List (Nat×Nat×Value)->Option (List Value)
 |[]=>I cells
 |(off,size,v)::r=>
  if(kA v).length=size/\off+size<=cells.length then o6 (cells.take off++kA v++cells.drop (off+size)) r else none
inductive fE where
 |move (x:Operand)
 |pick (c a b:Operand)
 |bin (op:BinOp) (x y:Operand)
 |mQ (neg:Bool) (x y:Operand)
 |isNil (k:p2) (neg:Bool) (x:Operand)
 |nC (c3:List e4) (neg:Bool) (x y:Operand)
 |un (op:UnOp) (x:Operand)
 |conv (k:IntKind) (x:Operand)
 |xh (x:Operand)
 |len (str:Bool) (x:Operand)
 |extract (x:Operand) (i:Nat)
 |field (agg:Bool) (off size:Nat) (x:Operand)
 |q0 (n:Nat) (agg:Bool) (size:Nat) (x i:Operand)
 |mR (x i:Operand)
 |fieldAddr (off:Nat) (x:Operand)
 |indexAddr (size:Nat) (x i:Operand)
 |xi (n size:Nat) (x i:Operand)
 |nilCheck (x:Operand)
 |slice (size:Nat) (x:Operand) (lo ag mx:Option Operand)
 |xj (x:Operand) (lo ag:Option Operand)
 |xk (n size:Nat) (x:Operand) (lo ag mx:Option Operand)
 |max (xs:List Operand)
 |min (xs:List Operand)
 |build (zero:List Value) (parts:List (Nat×Nat×Operand))
 |jW (f:dN) (first nD:List Operand)
 |s8 (t:aX) (x:Operand)
 |box (elem:aX) (x:Operand)
 |new (elem:aX) (zero:List Value)
 |buildSlice (elem:aX) (zero:List Value) (len:Nat) (parts:List (Nat×Nat×Operand))
 |mkSlice (elem:aX) (zero:List Value) (n c:Operand)
 |load (agg:Bool) (n:Nat) (x:Operand)
 |store (n:Nat) (x v:Operand)
 |append (elem:aX) (size:Nat) (s x:Operand)
 |copy (size:Nat) (d s:Operand)
 |clear (zero:List Value) (x:Operand)
 |uI (elem:aX) (size:Nat) (zero:List Value) (s k:Operand)
 |mkMap
 |lookup (k:e4) (zero:Value) (ok:Bool) (x i:Operand)
 |o7 (k:e4) (x i v:Operand)
 |uJ (x:Operand)
 |uK (x:Operand)
 |call (f:dN) (args:List Operand)
 |hU (f:Operand) (args:List Operand)
 |fail
inductive kZ where
 |no
 |calm
 |hf (bC:List (Nat×Nat))
inductive lL where
 |nil
 |op (dst:Option Nat) (o:fE) (dX:kZ) (rest:lL)
 |k0 (dst:Nat) (c:Nat) (gK:Bool) (tmp:List Nat) (body:lL) (y:Operand) (rest:lL)
inductive k1 where
 |skip
 |region (mS:Bool) (s:lL)
 |seq (a b:k1)
 |cond (c:Operand) (mod tmp:List Nat) (a b:k1)
 |block (id:Nat) (mod tmp:List Nat) (c:k1)
 |loop (mod tmp:List Nat) (c:k1)
 |exit (id:Nat)
 |ret
  |ju (g:Operand) (c4 bC:List Nat) (assign body:k1)
inductive fw where
 |normal
 |exit (id:Nat)
 |ret
inductive s9 where
 |ready|busy|done
inductive h9 where
 |cells (vs:List Value) (elem:aX) (rw:Bool)
 |map (c5:List (Value×Value))
 |loop (c6:List Value) (c4 bC:List Nat) (assign body:k1) (st:s9) (dY:Option fw)
 |dead
abbrev aP:=List h9
def hV(h:aP)(b off n:Nat):Option (List Value):=
 match h[b]? with
 |some (.cells vs _ _)=>if off+n<=vs.length then I ((vs.drop off).take n)else none
 |_=>none
def o8(h:aP)(b off:Nat):Option Value:=
 match h[b]? with
 |some (.cells vs _ _)=>vs[off]?
 |_=>none
def kB:Value->Bool
 |.agg _|.tuple _|.complex _ _ _=>false
 |_=>true
def nE(h:aP)(b off:Nat)(l:List Value):Option aP:=
 match h[b]? with
 |some (.cells vs t true)=>if off+l.length<=vs.length/\l.all kB=true then I (h.set b (.cells (vs.take off++l++vs.drop (off+l.length)) t true))else none
 |_=>none
def nF(agg:Bool)(n:Nat)(x:Value)(h:aP):Option Value:=
 match x with
 |.pointer (I a)=>
  match agg with
  |true=>(hV h a.block a.off n).map λl=>.agg l.toArray
  |false=>o8 h a.block a.off
 |_=>none
def rU(n:Nat)(x v:Value)(h:aP):Option aP:=
 match x with
 |.pointer (I a)=>if(kA v).length=n then nE h a.block a.off (kA v)else none
 |_=>none
def kC(size n:Nat)(x:Value)(h:aP):Option (List Value):=
 match x with
 |.slice (I a) m _=>if n=0 then I []else if n<=m then hV h a.block a.off (n*size)else none
 |.slice none _ _=>if n=0 then I []else none
 |.string s=>if size=1/\n<=s.size then I (((s.extract 0 n).data.toList).map λb=>.int .u8 b.toNat)else none
 |_=>none
def lenOf(x:Value):Option Nat:=
 match x with
 |.slice _ n _=>I n
 |.string s=>I s.size
 |_=>none
def rep(zero:List Value):Nat->List Value
 |0=>[]
 |n+1=>zero++rep zero n
def da:Nat:=4294967296
def mc(elem:aX)(size:Nat)(s:Value)(m:Nat)(new:List Value)(h:aP):Option (Value×aP):=
 match s with
 |.slice a n c=>
  if c=et then
   match a with
   |some ⟨b,0,none⟩=>
    if m=0 then I (.slice (I ⟨b,0,none⟩) n et,h)else
    match h[b]? with
    |some (.cells vs t true)=>
     if n*size<=vs.length/\n+m<=da/\t=elem/\0<n/\new.all kB=true then
      I (.slice (I ⟨h.length,0,none⟩) (n+m) et,h.set b .dead++[.cells (vs.take (n*size)++new) elem true])
     else none
    |_=>none
   |_=>none
  else if n+m<=c then
   match a with
   |some a=>(if m=0 then I h else nE h a.block (a.off+n*size) new).map λh'=>(.slice (I a) (n+m) c,h')
   |none=>if m=0 then I (.slice none n c,h)else none
  else if n+m<=da then
   (kC size n s h).map λeL=>(.slice (I ⟨h.length,0,none⟩) (n+m) et,h++[.cells (eL++new) elem true])
  else none
 |_=>none
def rV(elem:aX)(size:Nat)(s x:Value)(h:aP):Option (Value×aP):=
 (lenOf x).bind λm=>(kC size m x h).bind λnew=>mc elem size s m new h
def uL(elem:aX)(size:Nat)(zero:List Value)(s k:Value)(h:aP):Option (Value×aP):=
 match k with
 |.int .i64 l=>if 0<=l/\l<=da then mc elem size s l.toNat (rep zero l.toNat) h else none
 |_=>none
def o9(size:Nat)(d s:Value)(h:aP):Option (Value×aP):=
 match d with
 |.slice a n _=>
  (lenOf s).bind λm=>(kC size (fY m n) s h).bind λnew=>
    match a with
    |some a=>(if fY m n=0 then I h else nE h a.block a.off new).map λh'=>(.int .i64 (fY m n),h')
    |none=>if fY m n=0 then I (.int .i64 0,h)else none
 |_=>none
def uM(zero:List Value)(x:Value)(h:aP):Option (Value×aP):=
 match x with
 |.slice none _ _=>I (undef,h)
 |.slice (I a) n _=>if n=0 then I (undef,h)else(nE h a.block a.off (rep zero n)).map λh'=>(undef,h')
 |_=>none
def s_(elem:aX)(zero:List Value)(n c:Value)(h:aP):Option (Value×aP):=
 match n,c with
 |.int .i64 n,.int .i64 c=>
  if 0<=n/\n<=c/\c<=da then I (.slice (I ⟨h.length,0,none⟩) n.toNat c.toNat,h++[.cells (rep zero c.toNat) elem true])else none
 |_,_=>none
def rW(k:e4)(x y:Value):Option Bool:=
 match k,x,y with
 |.int,.int k a,.int b4 b=>if k=b4 then I (a==b)else none
 |.bool,.bool a,.bool b=>I (a==b)
 |.str,.string a,.string b=>I (a==b)
 |_,_,_=>none
def uN(k:e4)(x:Value):List (Value×Value)->Option (Option Value)
 |[]=>I none
 |(y,v)::r=>match rW k x y with
  |some true=>I (I v)
  |some false=>uN k x r
  |none=>none
def uO(k:e4)(x v:Value):List (Value×Value)->Option (List (Value×Value))
 |[]=>I [(x,v)]
 |(y,u)::r=>match rW k x y with
  |some true=>I ((x,v)::r)
  |some false=>(uO k x v r).map λq=>(y,u)::q
  |none=>none
def uP(x:Value)(h:aP):Option (List (Value×Value)):=
 match x with
 |.map none=>I []
 |.map (I b)=>match h[b]? with
  |some (.map c5)=>I c5
  |_=>none
 |_=>none
def xl(k:e4)(zero:Value)(ok:Bool)(x i:Value)(h:aP):Option Value:=
 (uP x h).bind λc5=>(uN k i c5).map λr=>
   match r,ok with
   |some v,true=>.tuple #[v,.bool true]
   |some v,false=>v
   |none,true=>.tuple #[zero,.bool false]
   |none,false=>zero
def uQ(k:e4)(x i v:Value)(h:aP):Option aP:=
 match x with
 |.map (I b)=>match h[b]? with
  |some (.map c5)=>(uO k i v c5).map λq=>h.set b (.map q)
  |_=>none
 |_=>none
def xm(x:Value)(h:aP):Option Value:=(uP x h).map λc5=>.int .i64 c5.length
def uR:List Value->Option (List UInt8)
 |[]=>I []
 |.int .u8 n::r=>(uR r).map λl=>wQ n.toNat::l
 |_=>none
def xn(x:Value)(h:aP):Option Value:=
 match x with
 |.slice (I a) n _=>if n=0 then I (.string ⟨#[]⟩)else(hV h a.block a.off n).bind λl=>(uR l).map λb=>.string ⟨b.toArray⟩
 |.slice none _ _=>I (.string .empty)
 |_=>none
def val(e:bJ):Operand->Value
 |.tmp t=>e t
 |.const v=>v
 |.global _=>dI
 |.func f=>.func (.func f) #[] #[]
def dP:dN:=1152921504606846976
abbrev Callee:=dN->List Value->aP->Option (Value×aP)
section
variable {R : Type}
def og(Γ:Callee)(f:Value)(args:List Value)(h:aP):Option (Value×aP):=
 match f with
 |.func (.func g) first nD=>bif fD g dP then Γ g (first.toList++args++nD.toList) h else none
 |.func (.yield b) ⟨[]⟩ ⟨[]⟩=>Γ dP (hS b 0::args) h
 |_=>none
def rX(Γ:Callee)(f:Value)(args:List Value)(h:aP):Option (Value×aP):=
 match f with
 |.func (.func g) first nD=>bif fD g dP then Γ g (first.toList++args++nD.toList) h else none
 |_=>none
def c6(e:bJ):List Operand->List Value
 |[]=>[]
 |x::r=>val e x::c6 e r
def iF(e:bJ):Option Operand->Option Value
 |none=>none
 |some x=>I (val e x)
def mT(e:bJ):List (Nat×Nat×Operand)->List (Nat×Nat×Value)
 |[]=>[]
 |(i,n,x)::r=>(i,n,val e x)::mT e r
def c7(Γ:Callee)(o:fE)(e:bJ)(h:aP)(k:Value->aP->Option R):Option R:=
 match o with
 |.move x=>k (val e x) h
 |.pick c a b=>(uD (val e c) (val e a) (val e b)).bind λv=>k v h
 |.bin op x y=>(rT op (val e x) (val e y)).bind λv=>k v h
 |.mQ neg x y=>(zA neg (val e x) (val e y)).bind λv=>k v h
 |.isNil t neg x=>(s7 t neg (val e x)).bind λv=>k v h
 |.nC c3 neg x y=>(w' c3 neg (val e x) (val e y)).bind λv=>k v h
 |.un op x=>(zB op (val e x)).bind λv=>k v h
 |.conv t x=>(zD t (val e x)).bind λv=>k v h
 |.xh x=>(zC (val e x)).bind λv=>k v h
 |.len str x=>(xa str (val e x)).bind λv=>k v h
 |.extract x i=>(xb (val e x) i).bind λv=>k v h
 |.field agg off size x=>(zE agg off size (val e x)).bind λv=>k v h
 |.q0 n agg size x i=>(xc n agg size (val e x) (val e i)).bind λv=>k v h
 |.mR x i=>(xd (val e x) (val e i)).bind λv=>k v h
 |.fieldAddr off x=>(uF off (val e x)).bind λv=>k v h
 |.indexAddr size x i=>(qZ size (val e x) (val e i)).bind λv=>k v h
 |.xi n size x i=>(uG n size (val e x) (val e i)).bind λv=>k v h
 |.nilCheck x=>(F_ (val e x)).bind λv=>k v h
 |.slice size x lo ag mx=>(oe size (val e x) (iF e lo) (iF e ag) (iF e mx)).bind λv=>k v h
 |.xj x lo ag=>(xe (val e x) (iF e lo) (iF e ag)).bind λv=>k v h
 |.xk n size x lo ag mx=>(F' n size (val e x) (iF e lo) (iF e ag) (iF e mx)).bind λv=>k v h
 |.max xs=>(Ga xf (c6 e xs)).bind λv=>k v h
 |.min xs=>(Ga xg (c6 e xs)).bind λv=>k v h
 |.build zero parts=>(o6 zero (mT e parts)).bind λl=>k (.agg l.toArray) h
 |.jW f first nD=>k (.func (.func f) (c6 e first).toArray (c6 e nD).toArray) h
 |.s8 t x=>k (.iface t (val e x)) h
 |.box t x=>k (hS h.length 0) (h++[.cells (kA (val e x)) t true])
 |.new t zero=>k (hS h.length 0) (h++[.cells zero t true])
 |.buildSlice t zero n parts=>(o6 (rep zero n) (mT e parts)).bind λl=>k (.slice (I ⟨h.length,0,none⟩) n n) (h++[.cells l t true])
 |.mkSlice t zero n c=>(s_ t zero (val e n) (val e c) h).bind λp=>k p.1 p.2
 |.load agg n x=>(nF agg n (val e x) h).bind λv=>k v h
 |.store n x v=>(rU n (val e x) (val e v) h).bind λh'=>k undef h'
 |.append t size s x=>(rV t size (val e s) (val e x) h).bind λp=>k p.1 p.2
 |.copy size d s=>(o9 size (val e d) (val e s) h).bind λp=>k p.1 p.2
 |.clear zero x=>(uM zero (val e x) h).bind λp=>k p.1 p.2
 |.uI t size zero s n=>(uL t size zero (val e s) (val e n) h).bind λp=>k p.1 p.2
 |.mkMap=>k (.map (I h.length)) (h++[.map []])
 |.lookup t zero ok x i=>(xl t zero ok (val e x) (val e i) h).bind λv=>k v h
 |.o7 t x i v=>(uQ t (val e x) (val e i) (val e v) h).bind λh'=>k undef h'
 |.uJ x=>(xm (val e x) h).bind λv=>k v h
 |.uK x=>(xn (val e x) h).bind λv=>k v h
 |.call f args=>(Γ f (c6 e args) h).bind λp=>k p.1 p.2
 |.hU f args=>(og Γ (val e f) (c6 e args) h).bind λp=>k p.1 p.2
 |.fail=>none
open Classical in
noncomputable def xo(h h':aP)(m:Option R):Option R:=if h <+: h' then m else none
def xp(s p:Value):Prop:=∃a o,p=.pointer (I ⟨a,o,none⟩)/\((∃x,s=.slice x 0 0)\/∃b o' n c,s=.slice (I ⟨b,o',none⟩) n c/\b≠a)
open Classical in
noncomputable def mU(dX:kZ)(e:bJ)(h h':aP)(m:Option R):Option R:=
 match dX with
 |.no=>m
 |.calm=>xo h h' m
 |.hf bC=>if ∀p∈bC,xp (e p.1) (e p.2)then m else none
def zF(k:Value->aP->Option R)(b:(Value->aP->Option R)->Option R):Option R:=b k
def rY(k:List Value->aP->Option R)(b:(List Value->aP->Option R)->Option R):Option R:=b k
def zG(v:Value)(gK:Bool)(a b:Option R):Option R:=
 match v with
 |.bool t=>if t=gK then a else b
 |_=>none
def zH(v:Value)(a b:Option R):Option R:=
 match v with
 |.bool t=>if t=true then a else b
 |_=>none
noncomputable def kd(Γ:Callee):lL->(bJ->aP->Option R)->bJ->aP->Option R
 |.nil,K,e,h=>K e h
 |.op d o dX rest,K,e,h=>c7 Γ o e h λv h'=>mU dX e h h' (kd Γ rest K (gT e d v) h')
 |.k0 d c gK tmp body y rest,K,e,h=>
  zF (λv h=>kd Γ rest K (bK (jV e tmp) d v) h) λj=>
   zG (e c) gK (kd Γ body (λe' h'=>j (val e' y) h') e h) (j (.bool !gK) h)
def oh(B:(List Value->aP->Option R)->List Value->aP->Option R):Nat->List Value->aP->Option R
 |0,_,_=>none
 |n+1,vs,h=>B (oh B n) vs h
def getMany(e:bJ):List Nat->List Value
 |[]=>[]
 |i::r=>e i::getMany e r
def uS(b:Nat)(h:aP):Option (Option fw):=
 match h[b]? with
 |some (.loop _ _ _ _ _ .ready dY)=>I dY
 |some (.loop _ _ _ _ _ .done dY)=>I dY
 |_=>none
def endRound(b:Nat)(o:fw)(h:aP):Option (Value×aP):=
 match h[b]? with
 |some (.loop c6 c4 bC c e .busy _)=>match o with
  |.normal=>I (.bool true,h.set b (.loop c6 c4 bC c e .ready none))
  |.exit i=>I (.bool false,h.set b (.loop c6 c4 bC c e .done (I (.exit i))))
  |.ret=>I (.bool false,h.set b (.loop c6 c4 bC c e .done (I .ret)))
 |_=>none
def beginRound(b:Nat)(h:aP):Option aP:=
 match h[b]? with
 |some (.loop c6 c4 bC c e .ready dY)=>I (h.set b (.loop c6 c4 bC c e .busy dY))
 |_=>none
noncomputable def hA(Γ:Callee)(n:Nat):k1->(fw->bJ->aP->Option R)->bJ->aP->Option R
 |.skip,K,e,h=>K .normal e h
 |.region _ s,K,e,h=>kd Γ s (λe h=>K .normal e h) e h
 |.seq a b,K,e,h=>hA Γ n a (λo e h=>match o with|.normal=>hA Γ n b K e h|.exit i=>K (.exit i) e h|.ret=>K .ret e h) e h
 |.cond c mod tmp a b,K,e,h=>
  rY (λvs h=>K .normal (fv (jV e tmp) mod vs) h) λj=>
   zH (val e c)
    (hA Γ n a (λo e h=>match o with|.normal=>j (getMany e mod) h|.exit i=>K (.exit i) e h|.ret=>K .ret e h) e h)
    (hA Γ n b (λo e h=>match o with|.normal=>j (getMany e mod) h|.exit i=>K (.exit i) e h|.ret=>K .ret e h) e h)
 |.block id mod tmp c,K,e,h=>
  rY (λvs h=>K .normal (fv (jV e tmp) mod vs) h) λj=>
   hA Γ n c (λo e h=>match o with
    |.normal=>j (getMany e mod) h
    |.exit i=>bif cC i id then j (getMany e mod) h else K (.exit i) e h
    |.ret=>K .ret e h) e h
 |.loop mod tmp c,K,e,h=>
  oh (λcont vs h=>hA Γ n c (λo e h=>match o with|.normal=>cont (getMany e mod) h|.exit i=>K (.exit i) e h|.ret=>K .ret e h) (fv (jV e tmp) mod vs) h) n (getMany e mod) h
 |.exit i,K,e,h=>K (.exit i) e h
 |.ret,K,e,h=>K .ret e h
 |.ju g c4 bC k l,K,e,h=>
  (rX Γ (val e g) [.func (.yield h.length) ⟨[]⟩ ⟨[]⟩] (h++[.loop (getMany e c4) c4 bC k l .ready none])).bind λp=>
    (uS h.length p.2).bind λo=>match o with
      |none=>K .normal e (p.2.set h.length .dead)
      |some x=>K x e (p.2.set h.length .dead)
inductive s' where
 |tmp (t:Nat)
 |cell (t:Nat) (agg:Bool) (n:Nat)
structure q1 where
 nG:Nat
 ntmps:Nat
 code:k1
 results:List s'
def o_:List s'->bJ->aP->(List Value->Option R)->Option R
 |[],_,_,k=>k []
 |.tmp t::r,e,h,k=>o_ r e h λvs=>k (e t::vs)
 |.cell t agg n::r,e,h,k=>(nF agg n (e t) h).bind λv=>o_ r e h λvs=>k (v::vs)
def single:List Value->Value
 |[v]=>v
 |vs=>.tuple vs.toArray
end
def iv:Value->Bool
 |.bool _|.int _ _|.string _|.pointer none|.slice none 0 0|.map none|.nilFunc|.nilIface=>true
 |_=>false
def xq:Value->Bool
 |.agg cs=>cs.toList.all iv
 |.iface _ v=>iv v
 |v=>iv v
def xr:Value->Bool
 |.tuple vs=>vs.toList.all xq
 |v=>xq v
noncomputable def gc(r:Value)(h h':aP):aP:=h'
def xu(args:List Value):bJ:=λi=>args.getD i undef
noncomputable def q2(Γ:Callee)(n:Nat)(F:q1)(args:List Value)(h:aP):Option (Value×aP):=
 bif cC args.length F.nG then
  hA Γ n F.code (λo e h'=>match o with
   |.normal=>o_ F.results e h' λvs=>I (single vs,gc (single vs) h h')
   |.ret=>o_ F.results e h' λvs=>I (single vs,gc (single vs) h h')
   |.exit _=>none) (xu args) h
 else none
noncomputable def p3(Γ:Callee)(n:Nat)(args:List Value)(h:aP):Option (Value×aP):=
 match args with
 |.pointer (I ⟨b,0,none⟩)::vs=>
  match h[b]? with
  |some (.loop c6 c4 bC c g .ready _)=>
   bif cC vs.length bC.length then
    hA Γ n c (λo e h1=>match o with
     |.normal=>(beginRound b h1).bind λh2=>hA Γ n g (λo _ ak=>endRound b o ak) e h2
     |_=>none) (fv (fv (λ_=>dI) c4 c6) bC vs) h
   else none
  |_=>none
 |_=>none
abbrev jv:=List (dN×q1)
def jv.get(T:jv)(f:dN):Option q1:=
 match T with
 |[]=>none
 |(g,F)::r=>bif cC g f then I F else jv.get r f
noncomputable def hW(aJ:Callee)(T:jv):Nat->Callee
 |0,f,args,h=>bif cC f dP then none else match T.get f with
  |some _=>none
  |none=>aJ f args h
 |n+1,f,args,h=>bif cC f dP then p3 (hW aJ T n) n args h else match T.get f with
  |some F=>q2 (hW aJ T n) n F args h
  |none=>aJ f args h
open Classical in
noncomputable def run(aJ:Callee)(T:jv):Callee:=λf args h=>
 if H:∃n,(hW aJ T n f args h).isSome=true then hW aJ T (Classical.choose H) f args h else none
def lM:TypeDesc->Bool
 |.struct _|.array _ _=>true
 |_=>false
def uT:TypeDesc->Option Value
 |.slice _=>I (.slice none 0 0)
 |.pointer _=>I (.pointer none)
 |.map _ _=>I (.map none)
 |.func _ _ _=>I .nilFunc
 |.interface _=>I .nilIface
 |_=>none
def lN:Option TypeDesc->Option e4
 |some (.int _)=>I .int
 |some .bool=>I .bool
 |some .string=>I .str
 |_=>none
def iG(P:Program)(t:aX):Option (Bool×Nat):=
 match P.underlying t,P.info? t with
 |some d,I i=>if 0<i.size then I (lM d,i.size)else none
 |_,_=>none
def zI(g:aX->Option (List e4))(P:Program):Nat->List Field->Option (List e4)
 |_,[]=>I []
 |i,f::ey=>match g f.type,iG P f.type with
  | some c3, I l => if f.offset = i ∧ (f.name == "_") = false ∧ c3.length = l.2 then (zI g P (i + l.2) ey).map (c3 ++ ·) else none
  |_,_=>none
def xv(c3:List e4):Nat->List e4
 |0=>[]
 |n+1=>c3++xv c3 n
def uU(P:Program):Nat->aX->Option (List e4)
 |0,_=>none
 |m+1,t=>match lN (P.underlying t)with
  |some b=>I [b]
  |none=>match P.underlying t with
   |some (.struct ey)=>if P.stoodInHeld t=false then zI (uU P m) P 0 ey.toList else none
   |some (.array n e)=>match uU P m e,iG P e with
    |some c3,I l=>if c3.length=l.2/\P.cellsOf e=l.2 then I (xv c3 n)else none
    |_,_=>none
   |_=>none
def zJ(P:Program)(t:aX):Option (List e4):=
 match P.underlying t with
 |some (.struct _)|some (.array _ _)=>if P.eqGuardType P.depth t=false then uU P 16 t else none
 |_=>none
def mV:Operand->Bool
 |.const v=>xr v
 |.global _=>false
 |_=>true
def pa(P:Program)(t:aX):Option (List Value):=
 match P.info? t with
 |some i=>
  match i.zero with
  |some z=>if z.cells.toList.all iv=true/\z.cells.size=i.size/\0<i.size/\i.bytes<=16384 then I z.cells.toList else none
  |none=>none
 |none=>none
def zK(d:TypeDesc)(x:Operand):Bool:=
 match x,d with
 |.const (.slice none 0 0),.slice _=>true
 |.const (.pointer none),.pointer _=>true
 |.const (.map none),.map _ _=>true
 |.const .nilFunc,.func _ _ _=>true
 |.const .nilIface,.interface _=>true
 |_,_=>false
def uV:BinOp->Option Bool
 |.eql=>I false
 |.neq=>I true
 |_=>none
def Gb:TypeDesc->Option p2
 |.slice _=>I .slice
 |.pointer _=>I .pointer
 |.map _ _=>I .map
 |.func _ _ _=>I .func
 |.interface _=>I .iface
 |_=>none
def zL(P:Program)(op:BinOp)(t:aX)(x y:Operand):Option fE:=
 match P.underlying t with
 |some (.int _)=>I (.bin op x y)
 |some .string=>I (.bin op x y)
 |some .bool=>(uV op).map λneg=>.mQ neg x y
 |some (.struct _)=>match uV op,zJ P t with
  |some neg,I c3=>I (.nC c3 neg x y)
  |_,_=>none
 |some (.array _ _)=>match uV op,zJ P t with
  |some neg,I c3=>I (.nC c3 neg x y)
  |_,_=>none
 |some d=>
  match uV op,Gb d with
  |some neg,I k=>if zK d y=true then I (.isNil k neg x)else if zK d x=true then I (.isNil k neg y)else none
  |_,_=>none
 |none=>none
def zM(P:Program)(s d:aX)(x:Operand):Option fE:=
 match P.underlying s,P.underlying d with
 |some _,I (.int k)=>I (.conv k x)
 |some .string,I .string=>I (.xh x)
 |some (.slice e),I .string=>match P.underlying e with
  |some (.int .u8)=>I (.uK x)
  |_=>none
 |_,_=>none
def zN(P:Program)(t:aX)(f:Nat):Option (Field×Bool×Nat):=
 match P.underlying t with
 |some (.struct ey)=>match ey[f]? with
  |some b=>(iG P b.type).map λl=>(b,l.1,l.2)
  |none=>none
 |_=>none
def xw(place:Nat->Option (Nat×Nat)):List (Nat×Operand)->Option (List (Nat×Nat×Operand))
 |[]=>I []
 |(i,x)::r=>
  match place i,xw place r with
  |some (off,size),I bC=>if 0<size then I ((off,size,x)::bC)else none
  |_,_=>none
def Gc(P:Program)(t:aX):Option (Nat->Option (Nat×Nat)):=
 match P.underlying t with
 |some (.array _ e)=>(P.info? e).map λi=>λj=>I (j*i.size,i.size)
 |some (.struct ey)=>(ey.toList.mapM (λf=>(P.info? f.type).map λi=>(f.offset,i.size))).map λl=>λj=>l.toArray[j]?
 |_=>none
def kD(l:List Operand):Bool:=l.all mV
def zO(P:Program)(b:Builtin)(args:List Operand)(argTypes:Array aX):Option fE:=
 match b,args with
 |.len,[x]=>match argTypes with
  |⟨[t]⟩=>match P.underlying t with
   |some .string=>I (.len true x)
   |some (.slice _)=>I (.len false x)
   |some (.array n _)=>I (.move (.const (.int .i64 n)))
   |some (.map _ _)=>I (.uJ x)
   |_=>none
  |_=>none
 |.append,[x,y]=>match argTypes with
  |⟨[st,xt]⟩=>match P.underlying st,P.underlying xt with
   |some (.slice e),I (.slice _)=>match pa P e,iG P e with
    |some _,I (_,n)=>I (.append e n x y)
    |_,_=>none
   |some (.slice e),I .string=>match pa P e,iG P e with
    |some _,I (_,n)=>I (.append e n x y)
    |_,_=>none
   |some (.slice e),I (.int _)=>match pa P e,iG P e with
    |some z,I (_,n)=>I (.uI e n z x y)
    |_,_=>none
   |_,_=>none
  |_=>none
 |.copy,[x,y]=>match argTypes with
  |⟨[c,_]⟩=>match P.underlying c with
   |some (.slice e)=>(iG P e).map λl=>.copy l.2 x y
   |_=>none
  |_=>none
 |.clear,[x]=>match argTypes with
  |⟨[t]⟩=>match P.underlying t with
   |some (.slice e)=>(pa P e).map λz=>.clear z x
   |_=>none
  |_=>none
 |.max,xs=>I (.max xs)
 |.min,xs=>I (.min xs)
 |_,_=>none
def iV(P:Program):Op->Option fE
 |.move x=>I (.move x)
 |.assign x=>I (.move x)
 |.pick c a b=>I (.pick c a b)
 |.binOp op t x y _=>zL P op t x y
 |.unOp op _ x=>I (.un op x)
 |.convert s d x=>zM P s d x
 |.extract x i=>I (.extract x i)
 |.field t x f=>(zN P t f).map λr=>.field r.2.1 r.1.offset r.2.2 x
 |.fieldAddr t x f=>(zN P t f).map λr=>.fieldAddr r.1.offset x
 |.indexAddr t x i=>match P.underlying t with
  |some (.slice e)=>(iG P e).map λl=>.indexAddr l.2 x i
  |some (.array n e)=>(iG P e).map λl=>.xi n l.2 x i
  |_=>none
 |.index t x i=>match P.underlying t with
  |some (.array n e)=>(iG P e).map λl=>.q0 n l.1 l.2 x i
  |some .string=>I (.mR x i)
  |_=>none
 |.nilCheck x=>I (.nilCheck x)
 |.slice t x lo ag mx=>if mx.isSome=true->ag.isSome=true then
  match P.underlying t with
  |some (.slice e)=>(iG P e).map λl=>.slice l.2 x lo ag mx
  |some .string=>if mx.isNone=true then I (.xj x lo ag)else none
  |some (.array n e)=>if n<et then(iG P e).map λl=>.xk n l.2 x lo ag mx else none
  |_=>none
  else none
 |.build t parts=>match pa P t,Gc P t with
  |some z,I place=>(xw place parts.toList).map λbC=>.build z bC
  |_,_=>none
 |.buildSlice t n parts=>match P.underlying t with
  |some (.slice e)=>match pa P e,iG P e with
   |some z,I (_,s)=>if n*s<=2 ^ 24/\0<n then(xw (λi=>I (i*s,s)) parts.toList).map λbC=>.buildSlice e z n bC else if n=0/\parts.toList.isEmpty=true then I (.buildSlice e [] 0 [])else none
   |_,_=>none
  |_=>none
 |.makeFunc (.func f) first nD=>I (.jW f first.toList nD.toList)
 |.makeInterface t x=>match P.underlying t with
  |some (.interface _)=>none
  |some _=>I (.s8 t x)
  |none=>none
 |.box t x=>I (.box t x)
 |.alloc t=>(pa P t).map λz=>.new t z
 |.makeSlice t n c=>match P.underlying t with
  |some (.slice e)=>(pa P e).map λz=>.mkSlice e z n c
  |_=>none
 |.load t x=>(iG P t).map λl=>.load l.1 l.2 x
 |.store t x v=>(iG P t).map λl=>.store l.2 x v
 |.call c=>match c.callee with
  |.value (.func f)=>if fD f dP=true then I (.call f c.args.toList)else none
  |.value f=>I (.hU f c.args.toList)
  |.builtin b=>zO P b c.args.toList c.argTypes
  |.invoke _ _=>none
 |.makeMap _ none=>I .mkMap
 |.lookup t x i ok=>match P.underlying t with
  |some (.map key elem)=>match lN (P.underlying key),P.info? elem with
   |some k,I g=>match g.zero with
    |some z=>if xr z=true then I (.lookup k z ok x i)else none
    |none=>none
   |_,_=>none
  |_=>none
 |.mapUpdate t m k v=>match P.underlying t with
  |some (.map key _)=>(lN (P.underlying key)).map λb=>.o7 b m k v
  |_=>none
 |.insert t m k v=>match P.underlying t with
  |some (.map key _)=>(lN (P.underlying key)).map λb=>.o7 b m k v
  |_=>none
 |.panic _=>I .fail
 |_=>none
def oi(P:Program)(o:Op):Option fE:=if kD o.operands.toList=true then iV P o else none
structure cX where
 dst:Option Nat
 op:fE
 guard:Option (Nat×Bool)
 dX:kZ
def rZ:lL->Option (Nat×Bool)->List cX
 |.nil,_=>[]
 |.op d o dX rest,g=>⟨d,o,g,dX⟩::rZ rest g
 |.k0 d c gK tmp body y rest,g=>
  rZ body (I (c,gK))++⟨I d,.pick (.tmp c) (if gK then y else .const (.bool true)) (if gK then .const (.bool false)else y),g,.no⟩::rZ rest g
def p4:lL->List Nat
 |.nil=>[]
 |.op d _ _ rest=>d.toList++p4 rest
 |.k0 d _ _ tmp body _ rest=>d::(tmp++p4 body++p4 rest)
def kE:lL->List Nat
 |.nil=>[]
 |.op d _ _ rest=>d.toList++kE rest
 |.k0 d _ _ _ body _ rest=>kE body++d::kE rest
def nH:List Nat->Option (List Nat)->lL->Bool
 |_,_,.nil=>true
 |gs,hX,.op d _ _ rest=>(d.toList.all λi=>!gs.contains i)&&nH gs (hX.map (d.toList++·)) rest
 |gs,hX,.k0 d c _ tmp body _ rest=>
  !gs.contains d&&(tmp.all λi=>!gs.contains i&&i !=c)&&(hX.toList.all λl=>l.contains c)&&((kE body).all tmp.contains)&&((p4 body).all tmp.contains)&&d !=c&&nH (c::gs) (I []) body&&nH gs (hX.map (kE body++[d]++·)) rest
def Gd(P:Program)(ops:Array Oper)(dX:kZ)(o:Oper):Option cX:=
 match oi P o.op with
 |some c=>
  match o.guard with
  |none=>I ⟨o.dst,c,none,dX⟩
  |some (j,b)=>
   match (ops[j]?).bind (·.dst)with
   |some d=>I ⟨o.dst,c,I (d,b),dX⟩
   |none=>none
 |none=>none
def r0(P:Program)(ops:Array Oper)(b:Nat->kZ):List Oper->Nat->Option (List cX)
 |[],_=>I []
 |o::r,i=>
  match Gd P ops (b i) o,r0 P ops b r (i+1)with
  |some f,I ey=>I (f::ey)
  |_,_=>none
def ee:Operand->List Nat
 |.tmp t=>[t]
 |_=>[]
def q3:List Operand->List Nat
 |[]=>[]
 |x::r=>ee x++q3 r
def q4:Option Operand->List Nat
 |some x=>ee x
 |none=>[]
def xx:List (Nat×Nat×Operand)->List Nat
 |[]=>[]
 |x::r=>ee x.2.2++xx r
def xy:fE->List Nat
 |.move x=>ee x
 |.pick c a b=>ee c++(ee a++ee b)
 |.bin _ x y=>ee x++ee y
 |.mQ _ x y=>ee x++ee y
 |.isNil _ _ x=>ee x
 |.nC _ _ x y=>ee x++ee y
 |.un _ x=>ee x
 |.conv _ x=>ee x
 |.xh x=>ee x
 |.len _ x=>ee x
 |.extract x _=>ee x
 |.field _ _ _ x=>ee x
 |.q0 _ _ _ x i=>ee x++ee i
 |.mR x i=>ee x++ee i
 |.fieldAddr _ x=>ee x
 |.indexAddr _ x i=>ee x++ee i
 |.xi _ _ x i=>ee x++ee i
 |.nilCheck x=>ee x
 |.slice _ x lo ag mx=>ee x++(q4 lo++(q4 ag++q4 mx))
 |.xj x lo ag=>ee x++(q4 lo++q4 ag)
 |.xk _ _ x lo ag mx=>ee x++(q4 lo++(q4 ag++q4 mx))
 |.max xs=>q3 xs
 |.min xs=>q3 xs
 |.build _ bC=>xx bC
 |.jW _ a b=>q3 a++q3 b
 |.s8 _ x=>ee x
 |.box _ x=>ee x
 |.new _ _=>[]
 |.buildSlice _ _ _ bC=>xx bC
 |.mkSlice _ _ n c=>ee n++ee c
 |.load _ _ x=>ee x
 |.store _ x v=>ee x++ee v
 |.append _ _ s x=>ee s++ee x
 |.copy _ d s=>ee d++ee s
 |.clear _ x=>ee x
 |.uI _ _ _ s k=>ee s++ee k
 |.mkMap=>[]
 |.lookup _ _ _ x i=>ee x++ee i
 |.o7 _ x i v=>ee x++(ee i++ee v)
 |.uJ x=>ee x
 |.uK x=>ee x
 |.call _ args=>q3 args
 |.hU f args=>ee f++q3 args
 |.fail=>[]
def p5:fE->Bool
 |.store _ _ _|.append _ _ _ _|.copy _ _ _|.clear _ _|.uI _ _ _ _ _|.o7 _ _ _ _|.call _ _|.hU _ _=>true
 |_=>false
def ke:fE->Bool
 |.box _ _|.new _ _|.buildSlice _ _ _ _|.mkSlice _ _ _ _|.load _ _ _|.uK _|.mkMap|.lookup _ _ _ _ _|.uJ _=>true
 |o=>p5 o
def gL(f:cX):List Nat:=xy f.op++(match f.guard with|some (s,_)=>[s]|none=>[])
def oj(ops:Array Oper):List Nat:=(Region.before ops).toList
def TG(ops:Array Oper):Bool:=
 (fb ops.size).all λi=>match ops[i]? with
   |some o=>o.after.toList.all λe=>!Region.binds .any e||decide (e.on<i)
   |none=>true
def TH(ops:Array Oper)(B:List Nat):Bool:=
 (fb ops.size).all λi=>decide (B.getD i 0<2 ^ ops.size)&&(fb ops.size).all λj=>!(B.getD i 0).testBit j||match ops[i]? with
   |some o=>o.after.toList.any λe=>Region.binds .any e&&(j==e.on||(B.getD e.on 0).testBit j)
   |none=>true
def Ge(f bR:cX):Bool:=(match f.dst with|some t=>(gL bR).contains t|none=>false)||(match bR.dst with|some t=>(gL f).contains t|none=>false)
def Gf(f bR:cX):Bool:=match f.dst,bR.dst with|some t,I b=>t==b|_,_=>false
def om:fE->Bool
 |.new _ zero=>zero.all iv
 |_=>false
def Ku(aY:List cX)(i j:Nat)(b:Bool):Bool:=
 match aY[i]? with
 |some f=>match f.op with
  |.store _ (.tmp t) _=>(fb i).any λm=>!(cC m j)&&(b||Nat.blt j m)&&match aY[m]? with
   |some g=>om g.op&&g.guard.isNone&&(g.dst==I t)
   |none=>false
  |_=>false
 |none=>false
def ta(aY:List cX)(i j:Nat):Bool:=decide (j<i)&&Ku aY i j (match aY[j]? with
 |some g=>om g.op
 |none=>false)
def loadAt:fE->Option Nat
 |.load _ _ (.tmp t)=>I t
 |_=>none
def oo:fE->Option Nat
 |.append _ _ (.tmp s) _=>I s
 |_=>none
def zP:kZ->Bool
 |.calm=>true
 |_=>false
def uW:kZ->List (Nat×Nat)
 |.hf bC=>bC
 |_=>[]
def uX(bC:List (Nat×Nat))(a b:Nat):Bool:=bC.any λp=>cC p.1 a&&cC p.2 b
def Gg(aY:List cX)(j t:Nat):Bool:=(aY.drop j).all λf=>match f.dst with
 |some d=>!(cC d t)
 |none=>true
def xz(f bR:cX):Bool:=match oo f.op,f.dst,loadAt bR.op with
 |some _,I d,I t=>uX (uW bR.dX) d t
 |_,_,_=>false
def xA(aY:List cX)(j:Nat)(f bR:cX):Bool:=match oo f.op,loadAt bR.op with
 |some s,I t=>uX (uW f.dX) s t&&Gg aY j t
 |_,_=>false
def p6:fE->Bool
 |.new _ _=>true
 |.box _ _=>true
 |.buildSlice _ _ _ _=>true
 |_=>false
def xB(f bR:cX):Bool:=p6 bR.op&&(oo f.op).isSome
def TI(aY:List cX)(B:List Nat):Bool:=
 (fb aY.length).all λi=>(fb aY.length).all λj=>match aY[i]?,aY[j]? with
   |some f,I bR=>(i==j||!Gf f bR)&&(!(decide (i<j))||!Ge f bR||(B.getD j 0).testBit i)&&
    (!(p5 f.op)||zP f.dX||!(ke bR.op)||((!(decide (i<j))||(B.getD j 0).testBit i||xz f bR)&&(!(decide (j<i))||(B.getD i 0).testBit j||ta aY i j||xA aY j f bR||xB f bR)))
   |_,_=>true
def Gh(aY:List cX)(B:List Nat)(i:Nat):Bool:=
 match aY[i]? with
 |some f=>p5 f.op&&!((fb aY.length).all λj=>match aY[j]? with
  |some bR=>!(ke bR.op)||((!(decide (i<j))||(B.getD j 0).testBit i)&&(!(decide (j<i))||(B.getD i 0).testBit j||ta aY i j))
  |none=>true)
 |none=>false
def Gi(aY:List cX)(B:List Nat)(i:Nat):Bool:=
 match aY[i]? with
 |some f=>(oo f.op).isSome&&f.dst.isSome&&((fb aY.length).all λj=>match aY[j]? with
  |some bR=>!(ke bR.op)||((!(decide (i<j))||(B.getD j 0).testBit i)&&(!(decide (j<i))||(B.getD i 0).testBit j||ta aY i j))||(match loadAt bR.op with
   |some t=>!(decide (j<i))||Gg aY j t
   |none=>decide (j<i)&&p6 bR.op)
  |none=>true)
 |none=>false
def TJ(aY:List cX)(B:List Nat)(i:Nat):kZ:=
 match aY[i]? with
 |some f=>
  match loadAt f.op with
  |some t=>
   match (fb i).filterMap (λk=>match aY[k]? with
    |some g=>match oo g.op,g.dst with
     |some _,I d=>if(B.getD i 0).testBit k then none else if Gh aY B k&&Gi aY B k then I (d,t)else none
     |_,_=>none
    |none=>none)with
   |[]=>.no
   |bC=>.hf bC
  |none=>if Gh aY B i then match oo f.op with
   |some s=>if Gi aY B i then .hf ((fb i).filterMap λj=>match aY[j]? with
    |some g=>match loadAt g.op with
     |some t=>if(B.getD i 0).testBit j then none else I (s,t)
     |none=>none
    |none=>none)else .calm
   |none=>.calm
   else .no
 |none=>.no
def targets(aY:List cX)(B:List Nat):List Nat:=
 (fb aY.length).filter λi=>match aY[i]? with
   |some f=>(oo f.op).isSome&&Gh aY B i&&!Gi aY B i
   |none=>false
def uY(n:Nat)(b B:List Nat):List Nat:=
 ((fb n).filter λi=>!(b.any λt=>cC t i||(B.getD i 0).testBit t))++(fb n).filter λi=>b.any λt=>cC t i||(B.getD i 0).testBit t
def me(σ:List Nat)(i:Nat):Nat:=σ.findIdx λx=>cC x i
def xC(σ:List Nat)(o:Oper):Oper:={ o with after:=o.after.map λe=>{ e with on:=me σ e.on } }
def q5(ops:Array Oper)(σ:List Nat):Array Oper:=(σ.map λi=>xC σ (ops.getD i default)).toArray
def Gj(ops:Array Oper)(σ:List Nat):Bool:=
 decide (σ.length=ops.size)&&(σ.all λi=>decide (i<ops.size))&&((fb ops.size).all λi=>decide (me σ i<ops.size)&&cC (me σ (σ.getD i 0)) i)&&(ops.toList.all λo=>o.guard.isNone&&o.after.toList.all λe=>decide (e.on<ops.size))
def Gk(ops:Array Oper)(aY:List cX)(B:List Nat):Bool:=TG ops&&TH ops B&&TI aY B
def uZ(P:Program)(N:Nat)(ops:Array Oper)(b:List cX):Option (List cX):=
 match r0 P ops (TJ b (oj ops)) ops.toList 0 with
 |some aY=>if(aY.all λf=>f.dst.toList.all λd=>decide (d<N))=true/\Gk ops aY (oj ops)=true then I aY else none
 |none=>none
def zQ(P:Program)(N:Nat)(ops:Array Oper)(mS:Bool):Option (List cX):=
 match mS with
 |false=>match r0 P ops (λ_=>.no) ops.toList 0 with
  |some aY=>if(aY.all λf=>f.dst.toList.all λd=>decide (d<N))=true then I aY else none
  |none=>none
 |true=>match r0 P ops (λ_=>.no) ops.toList 0 with
  |some c=>match targets c (oj ops)with
   |[]=>uZ P N ops c
   |b=>bif Gj ops (uY ops.size b (oj ops))then match r0 P (q5 ops (uY ops.size b (oj ops))) (λ_=>.no) (q5 ops (uY ops.size b (oj ops))).toList 0 with
    |some e=>uZ P N (q5 ops (uY ops.size b (oj ops))) e
    |none=>none
    else uZ P N ops c
  |none=>none
inductive r1 where
 |skip
 |region (mS:Bool) (aY:List cX)
 |seq (a b:r1)
 |cond (c:Operand) (a b:r1)
 |block (id:Nat) (c:r1)
 |loop (c:r1)
 |exit (id:Nat)
 |ret
 |ju (g:Operand) (bC:List Nat) (a b:r1)
def mf:r1->Bool
 |.ju _ _ _ _=>false
 |.seq a b=>mf a&&mf b
 |.cond _ a b=>mf a&&mf b
 |.block _ c=>mf c
 |.loop c=>mf c
 |_=>true
def dv:k1->r1
 |.skip=>.skip
 |.region mS s=>.region mS (rZ s none)
 |.seq a b=>.seq (dv a) (dv b)
 |.cond c _ _ a b=>.cond c (dv a) (dv b)
 |.block id _ _ c=>.block id (dv c)
 |.loop _ _ c=>.loop (dv c)
 |.exit i=>.exit i
 |.ret=>.ret
 |.ju g _ bC a b=>.ju g bC (dv a) (dv b)
def dO(P:Program)(N:Nat):Code->Option r1
 |.skip=>I .skip
 |.label _=>I .skip
 |.region _ ops mS=>match zQ P N ops mS with
  |some aY=>I (.region mS aY)
  |none=>none
 |.seq a b=>match dO P N a,dO P N b with
  |some a,I b=>I (.seq a b)
  |_,_=>none
 |.cond c a b=>match mV c,dO P N a,dO P N b with
  |true,I a,I b=>I (.cond c a b)
  |_,_,_=>none
 |.block id c=>match dO P N c with
  |some c=>I (.block id c)
  |none=>none
 |.loop c=>match dO P N c with
  |some c=>I (.loop c)
  |none=>none
 |.exit i=>I (.exit i)
 |.ret=>I .ret
 |.rangeFunc g bC assign body=>match mV g,dO P N assign,dO P N body with
  |true,I a,I b=>if(bC.toList.all λp=>decide (p<N))=true/\bC.toList.Nodup/\mf a=true/\mf b=true then I (.ju g bC.toList a b)else none
  |_,_,_=>none
 |_=>none
def mW:k1->List Nat
 |.region _ s=>p4 s
 |.seq a b=>mW a++mW b
 |.cond _ mod tmp _ _=>mod++tmp
 |.block _ mod tmp _=>mod++tmp
 |.loop mod tmp _=>mod++tmp
 |_=>[]
def xD(a b:List Nat):Bool:=a.all b.contains
def lp:k1->Bool
 |.region _ s=>nH [] none s
 |.seq a b=>lp a&&lp b
 |.cond _ mod tmp a b=>xD (mW a) (mod++tmp)&&xD (mW b) (mod++tmp)&&lp a&&lp b
 |.block _ mod tmp c=>xD (mW c) (mod++tmp)&&lp c
 |.loop mod tmp c=>xD (mW c) (mod++tmp)&&lp c
 |.ju _ _ _ a b=>lp a&&lp b
 |_=>true
def zR(P:Program)(N:Nat)(ac:k1)(c:Code):Prop:=dO P N c=I (dv ac)/\lp ac=true/\mf (dv ac)=true
def Kv:s9->LoopState
 |.ready=>.ready
 |.busy=>.busy
 |.done=>.done
def TK:fw->Code
 |.normal=>.skip
 |.exit i=>.exit i
 |.ret=>.ret
structure Loc where
 blk:Nat
 K:Nat
abbrev Ren:=Nat->Option Loc
mutual
inductive bj(μ:Ren):Value->Value->Prop
 |dI (v:Value):bj μ dI v
 |bool (b:Bool):bj μ (.bool b) (.bool b)
 |int (k:IntKind) (n:Int):bj μ (.int k n) (.int k n)
 |string (s:ByteArray):bj μ (.string s) (.string s)
 |tb:bj μ (.pointer none) (.pointer none)
 |ptr {b c K o:Nat} (h:μ b=I ⟨c,K⟩):bj μ (.pointer (I ⟨b,o,none⟩)) (.pointer (I ⟨c,o,none⟩))
 |mg:bj μ (.slice none 0 0) (.slice none 0 0)
 |bO {b c K o n m e5:Nat} (h:μ b=I ⟨c,K⟩) (hm:(m<et/\e5=m)\/(m=et/\n<=e5/\(o=0->e5<=K))):bj μ (.slice (I ⟨b,o,none⟩) n m) (.slice (I ⟨c,o,none⟩) n e5)
 |fc (a a':Addr) (e5:Nat):bj μ (.slice (I a) 0 et) (.slice (I a') 0 e5)
 |gU (a a':Addr):bj μ (.slice (I a) 0 0) (.slice (I a') 0 0)
 |tc:bj μ (.map none) (.map none)
 |map {b c K:Nat} (h:μ b=I ⟨c,K⟩):bj μ (.map (I b)) (.map (I c))
 |func (f:dN) {xs ys eX eM:Array Value} (af:ct μ xs.toList eX.toList) (ba:ct μ ys.toList eM.toList):bj μ (.func (.func f) xs ys) (.func (.func f) eX eM)
 |yield {b c K:Nat} (h:μ b=I ⟨c,K⟩):bj μ (.func (.yield b) ⟨[]⟩ ⟨[]⟩) (.func (.yield c) ⟨[]⟩ ⟨[]⟩)
 |nilFunc:bj μ .nilFunc .nilFunc
 |nilIface:bj μ .nilIface .nilIface
 |iface (t:aX) {v v':Value} (h:bj μ v v'):bj μ (.iface t v) (.iface t v')
 |agg {xs ys:Array Value} (h:ct μ xs.toList ys.toList):bj μ (.agg xs) (.agg ys)
 |tuple {xs ys:Array Value} (h:ct μ xs.toList ys.toList):bj μ (.tuple xs) (.tuple ys)
inductive ct(μ:Ren):List Value->List Value->Prop
 |nil:ct μ [] []
 |cons {x y:Value} {xs ys:List Value} (h:bj μ x y) (az:ct μ xs ys):ct μ (x::xs) (y::ys)
end
def ef(μ aV:Ren):Prop:=∀b c,μ b=I c->aV b=I c
theorem ef.refl(μ:Ren):ef μ μ:=λ_ _ h=>h
theorem ef.trans{a b c:Ren}(h:ef a b)(h':ef b c):ef a c:=λx y e=>h' x y (h x y e)
mutual
theorem bj.mono{μ aV:Ren}(hm:ef μ aV){x y:Value}:bj μ x y->bj aV x y
 |.dI v=>.dI v
 |.bool b=>.bool b
 |.int k n=>.int k n
 |.string s=>.string s
 |.tb=>.tb
 |.ptr h=>.ptr (hm _ _ h)
 |.mg=>.mg
 |.bO h h'=>.bO (hm _ _ h) h'
 |.fc a a' e5=>.fc a a' e5
 |.gU a a'=>.gU a a'
 |.tc=>.tc
 |.map h=>.map (hm _ _ h)
 |.func f h h'=>.func f (ct.mono hm h) (ct.mono hm h')
 |.yield h=>.yield (hm _ _ h)
 |.nilFunc=>.nilFunc
 |.nilIface=>.nilIface
 |.iface t h=>.iface t (bj.mono hm h)
 |.agg h=>.agg (ct.mono hm h)
 |.tuple h=>.tuple (ct.mono hm h)
theorem ct.mono{μ aV:Ren}(hm:ef μ aV){xs ys:List Value}:ct μ xs ys->ct aV xs ys
 |.nil=>.nil
 |.cons h az=>.cons (bj.mono hm h) (ct.mono hm az)
end
mutual
theorem bj.cut{μ aV:Ren}(hm:ef μ aV){x zS y:Value}:bj μ x zS->bj aV x y->bj μ x y
 |.dI _,_=>.dI _
 |.bool _,h=>by cases h;exact .bool _
 |.int _ _,h=>by cases h;exact .int _ _
 |.string _,h=>by cases h;exact .string _
 |.tb,h=>by cases h;exact .tb
 |.ptr au,h=>by
  cases h with
  |ptr h1=>
   have e:=(hm _ _ au).symm.trans h1
   cases e
   exact .ptr au
 |.mg,h=>by cases h;exact .mg
 |.bO au _,h=>by
  cases h with
  |bO h1 h2=>
   have e:=(hm _ _ au).symm.trans h1
   cases e
   exact .bO au h2
  |fc _ _ _=>exact .fc _ _ _
  |gU _ _=>exact .gU _ _
 |.fc a _ _,h=>by
  cases h with
  |bO h1 h2=>exact .fc _ _ _
  |fc _ _ _=>exact .fc _ _ _
 |.gU a _,h=>by
  cases h with
  |bO h1 h2=>
   rcases h2 with⟨_,rfl⟩|⟨e,_⟩
   ·exact .gU _ _
   ·exact absurd e (by decide)
  |gU _ _=>exact .gU _ _
 |.tc,h=>by cases h;exact .tc
 |.map au,h=>by
  cases h with
  |map h1=>
   have e:=(hm _ _ au).symm.trans h1
   cases e
   exact .map au
 |.func _ au pb,h=>by
  cases h with
  |func _ h1 hg=>exact .func _ (ct.cut hm au h1) (ct.cut hm pb hg)
 |.yield au,h=>by
  cases h with
  |yield h1=>
   have e:=(hm _ _ au).symm.trans h1
   cases e
   exact .yield au
 |.nilFunc,h=>by cases h;exact .nilFunc
 |.nilIface,h=>by cases h;exact .nilIface
 |.iface _ au,h=>by
  cases h with
  |iface _ h1=>exact .iface _ (bj.cut hm au h1)
 |.agg au,h=>by
  cases h with
  |agg h1=>exact .agg (ct.cut hm au h1)
 |.tuple au,h=>by
  cases h with
  |tuple h1=>exact .tuple (ct.cut hm au h1)
theorem ct.cut{μ aV:Ren}(hm:ef μ aV){xs Gl ys:List Value}:ct μ xs Gl->ct aV xs ys->ct μ xs ys
 |.nil,h=>by cases h;exact .nil
 |.cons au Gm,h=>by
  cases h with
  |cons h1 oq=>exact .cons (bj.cut hm au h1) (ct.cut hm Gm oq)
end
theorem ct.length{μ:Ren}{xs ys:List Value}(h:ct μ xs ys):xs.length=ys.length:=by
 induction xs generalizing ys with
 |nil=>cases h;rfl
 |cons x xs b=>
  cases h with
  |cons _ az=>simp [b az]
theorem ct.get{μ:Ren}{xs ys:List Value}(h:ct μ xs ys){i:Nat}{x:Value}(af:xs[i]?=I x):∃y,ys[i]?=I y/\bj μ x y:=by
 induction xs generalizing ys i with
 |nil=>simp at af
 |cons z xs b=>
  cases h with
  |cons au az=>
   cases i with
   |zero=>simp only[jP,ug]at af;subst af;exact⟨_,rfl,au⟩
   |succ i=>simp only[l9]at af |-;exact b az af
theorem ct.Gn{μ:Ren}{xs ys:List Value}(av:xs.length=ys.length)(h:∀(i:Nat) (x y:Value),xs[i]?=I x->ys[i]?=I y->bj μ x y):ct μ xs ys:=by
 induction xs generalizing ys with
 |nil=>cases ys with
  |nil=>exact .nil
  |cons _ _=>simp at av
 |cons x xs c=>
  cases ys with
  |nil=>simp at av
  |cons y ys=>exact .cons (h 0 x y rfl rfl) (c (by simpa using av) (λi a b ha ae=>h (i+1) a b ha ae))
theorem ct.append{μ:Ren}{xs ys eX eM:List Value}(h:ct μ xs ys)(h':ct μ eX eM):ct μ (xs++eX) (ys++eM):=by
 induction xs generalizing ys with
 |nil=>cases h;exact h'
 |cons x xs b=>cases h with|cons au az=>exact .cons au (b az)
theorem ct.take{μ:Ren}{xs ys:List Value}(h:ct μ xs ys)(n:Nat):ct μ (xs.take n) (ys.take n):=by
 induction xs generalizing ys n with
 |nil=>cases h;simpa using ct.nil
 |cons x xs b=>
  cases h with
  |cons au az=>
   cases n with
   |zero=>exact .nil
   |succ n=>exact .cons au (b az n)
theorem ct.drop{μ:Ren}{xs ys:List Value}(h:ct μ xs ys)(n:Nat):ct μ (xs.drop n) (ys.drop n):=by
 induction xs generalizing ys n with
 |nil=>cases h;simpa using ct.nil
 |cons x xs b=>
  cases h with
  |cons au az=>
   cases n with
   |zero=>exact .cons au az
   |succ n=>exact b az n
theorem ct.Gp{μ:Ren}{xs ys eX eM:List Value}(h:ct μ xs ys)(h':ct μ eX eM)(o:Nat):ct μ (xs.take o++eX++xs.drop (o+eX.length)) (ys.take o++eM++ys.drop (o+eM.length)):=by
 rw[h'.length]
 exact((h.take o).append h').append (h.drop _)
theorem bj.ot{μ:Ren}{v:Value}(h:iv v=true):bj μ v v:=by
 cases v with
 |bool b=>exact .bool b
 |int k n=>exact .int k n
 |string s=>exact .string s
 |pointer a=>cases a with
  |none=>exact .tb
  |some a=>simp [iv]at h
 |slice a n c=>cases a with
  |none=>
   cases n with
   |zero=>cases c with
    |zero=>exact .mg
    |succ c=>simp [iv]at h
   |succ n=>simp [iv]at h
  |some a=>simp [iv]at h
 |map r=>cases r with
  |none=>exact .tc
  |some a=>simp [iv]at h
 |nilFunc=>exact .nilFunc
 |nilIface=>exact .nilIface
 |_=>simp [iv]at h
theorem ct.zT{μ:Ren}{p:Value->Bool}(aj:∀v,p v=true->bj μ v v):∀{l:List Value},l.all p=true->ct μ l l
 |[],_=>.nil
 |v::l,h=>by
  simp only[ny,dx]at h
  exact .cons (aj v h.1) (ct.zT aj h.2)
theorem bj.Kw{μ:Ren}{v:Value}(h:xq v=true):bj μ v v:=by
 cases v with
 |agg cs=>exact .agg (ct.zT (λv=>bj.ot) h)
 |iface t v=>exact .iface t (bj.ot h)
 |_=>exact bj.ot h
theorem bj.Kx{μ:Ren}{v:Value}(h:xr v=true):bj μ v v:=by
 cases v with
 |tuple cs=>exact .tuple (ct.zT (λv=>bj.Kw) h)
 |_=>exact bj.Kw h
theorem bj.undef{μ:Ren}:bj μ undef undef:=.tuple .nil
theorem bj.zU{μ:Ren}{v y:Value}(h:iv v=true)(aw:bj μ v y):y=v:=by
 cases aw<;>first|rfl|(simp [iv,bB.dI]at h)
theorem ct.zV{μ:Ren}{p:Value->Bool}(aj:∀v y,p v=true->bj μ v y->y=v):∀{l ys:List Value},l.all p=true->ct μ l ys->ys=l
 |[],_,_,aw=>by cases aw;rfl
 |v::l,_,h,aw=>by
  simp only[ny,dx]at h
  cases aw with
  |cons au az=>rw[aj v _ h.1 au,ct.zV aj h.2 az]
theorem bj.Ky{μ:Ren}{v y:Value}(h:xq v=true)(aw:bj μ v y):y=v:=by
 cases v with
 |agg cs=>
  cases aw with
  |agg av=>
   have e:=ct.zV (p:=iv) (λv y h aw=>bj.zU h aw) h av
   exact cV Value.agg (l_ e)
 |iface t v=>
  cases aw with
  |iface _ h'=>rw[bj.zU h h']
 |_=>exact bj.zU h aw
theorem bj.zW{μ:Ren}{v y:Value}(h:xr v=true)(aw:bj μ v y):y=v:=by
 cases v with
 |tuple cs=>
  cases aw with
  |tuple av=>
   have e:=ct.zV (p:=xq) (λv y h aw=>bj.Ky h aw) h av
   exact cV Value.tuple (l_ e)
 |_=>exact bj.Ky h aw
theorem bj.cells{μ:Ren}{v y:Value}(h:bj μ v y)(b:v≠bB.dI):ct μ (kA v) y.cells.toList:=by
 cases h with
 |dI=>exact absurd rfl b
 |agg h=>exact h
 |_=>exact .cons (by constructor<;>assumption) .nil
theorem bj.TL{μ:Ren}{v y:Value}(h:bj μ v y):(kA v).length<=y.cells.size/\ct μ (kA v) (y.cells.toList.take (kA v).length):=by
 by_cases b:v=bB.dI
 ·subst b
  exact⟨hQ _,.nil⟩
 ·have aa:=h.cells b
  have av:=aa.length
  rw[av,h6]
  exact⟨by simp,aa⟩
theorem bj.Kz{μ:Ren}{v y:Value}(h:bj μ v y)(aA:(kA v).length≠0):ct μ (kA v) y.cells.toList:=
 h.cells (by rintro rfl;exact aA rfl)
def e9(P:Program)(μ:Ren)(K:Nat)(blk:h9)(o:Obj):Prop:=
 match blk with
 |.cells vs elem rw=>∃c cF,o=.cells c elem cF/\vs.length<=c.size/\ct μ vs (c.toList.take vs.length)/\(rw=true->cF=(0,0))/\K*P.cellsOf elem<=c.size
 |.map c5=>∃l clock,o=.map l clock/\ct μ (c5.map (·.1)) (l.toList.map (·.key))/\ct μ (c5.map (·.2)) (l.toList.map (·.val))
 |.loop c6 c4 bC b e st dY=>∃r:Loop,o=.loop r/\r.state=Kv st/\r.pending=dY.map TK/\r.params.toList=bC/\(bC.all λp=>decide (p<r.tmps.size))=true/\bC.Nodup/\
  zR P r.tmps.size b r.assign/\zR P r.tmps.size e r.body/\∀i,bj μ (fv (λ_=>bB.dI) c4 c6 i) (r.tmps.getD i undef)
 |.dead=>True
theorem e9.mono{P:Program}{μ aV:Ren}(hm:ef μ aV){K:Nat}{blk:h9}{o:Obj}(h:e9 P μ K blk o):e9 P aV K blk o:=by
 cases blk with
 |cells vs elem rw=>obtain⟨c,cF,h1,h2,ak,aH,aM⟩:=h;exact⟨c,cF,h1,h2,ak.mono hm,aH,aM⟩
 |map c5=>obtain⟨l,k,h1,h2,ak⟩:=h;exact⟨l,k,h1,h2.mono hm,ak.mono hm⟩
 |loop=>obtain⟨r,h1,h2,ak,aH,aM,bp,cl,b,e⟩:=h;exact⟨r,h1,h2,ak,aH,aM,bp,cl,b,λi=>(e i).mono hm⟩
 |dead=>trivial
theorem e9.cut{P:Program}{μ aV:Ren}(hm:ef μ aV){e K:Nat}{blk:h9}{g o:Obj}(au:e9 P μ e blk g)(h:e9 P aV K blk o):e9 P μ K blk o:=by
 cases blk with
 |cells vs elem rw=>
  obtain⟨_,_,_,_,ak,_⟩:=au
  obtain⟨c,cF,h1,h2,b,aH,aM⟩:=h
  exact⟨c,cF,h1,h2,ak.cut hm b,aH,aM⟩
 |map c5=>
  obtain⟨_,_,_,h2,ak⟩:=au
  obtain⟨l,k,h1,j,b⟩:=h
  exact⟨l,k,h1,h2.cut hm j,ak.cut hm b⟩
 |loop=>
  obtain⟨_,_,_,_,_,_,_,_,_,m⟩:=au
  obtain⟨r,h1,h2,ak,aH,aM,bp,cl,n,p⟩:=h
  exact⟨r,h1,h2,ak,aH,aM,bp,cl,n,λi=>(m i).cut hm (p i)⟩
 |dead=>trivial
def live(h:aP)(b:Nat):Prop:=∃blk,h[b]?=I blk/\blk≠.dead
theorem live.lt{h:aP}{b:Nat}(av:live h b):b<h.length:=by
 obtain⟨blk,e,_⟩:=av
 exact(List.getElem?_eq_some_iff.1 e).1
def k2(h:aP)(b:Nat):Prop:=∃vs t,h[b]?=I (.cells vs t false)
theorem k2.live{h:aP}{b:Nat}(an:k2 h b):live h b:=by
 obtain⟨vs,t,e⟩:=an
 exact⟨_,e,by simp⟩
structure cH(P:Program)(μ:Ren)(h:aP)(w:World):Prop where
 cc:∀b l,μ b=I l->b<h.length
 rel:∀b l blk,μ b=I l->h[b]?=I blk->blk≠.dead->∃o,w.heap[l.blk]?=I o/\e9 P μ l.K blk o
 inj:∀b bf l cB,μ b=I l->μ bf=I cB->l.blk=cB.blk->live h b->live h bf->b=bf
 lt:∀b l,μ b=I l->l.blk<w.heap.size
def kf(w b2:World):Prop:=b2.os=w.os/\b2.tape=w.tape/\b2.output=w.output
theorem kf.rfl{w:World}:kf w w:=⟨iq _,iq _,iq _⟩
theorem kf.trans{a b c:World}(h:kf a b)(h':kf b c):kf a c:=⟨h'.1.trans h.1,h'.2.1.trans h.2.1,h'.2.2.trans h.2.2⟩
structure ExtP(μ:Ren)(h:aP)(w:World)(aV:Ren)(h':aP)(b2:World):Prop where
 le:h.length<=h'.length
 eL:∀b,b<h.length->aV b=μ b
 size:w.heap.size<=b2.heap.size
 frame:∀c,c<w.heap.size->(∀b l,live h b->μ b=I l->l.blk≠c)->b2.heap[c]?=w.heap[c]?
 ro:∀b l,μ b=I l->k2 h b->b2.heap[l.blk]?=w.heap[l.blk]?
 pc:∀b,k2 h b->h'[b]?=h[b]?
 new:∀b l,h.length<=b->aV b=I l->w.heap.size<=l.blk\/∃cd eY,live h cd/\¬k2 h cd/\μ cd=I eY/\eY.blk=l.blk/\¬live h' cd
 dead:∀b,b<h.length->¬live h b->¬live h' b
 out:kf w b2
theorem ExtP.refl(μ:Ren)(h:aP)(w:World)(hd:∀b l,μ b=I l->b<h.length):ExtP μ h w μ h w:=
 ⟨ca _,λ_ _=>rfl,ca _,λ_ _ _=>rfl,λ_ _ _ _=>rfl,λ_ _=>rfl,λb l ae e=>absurd (hd b l e) (by omega),λ_ _ h=>h,kf.rfl⟩
theorem ExtP.r2{μ aV:Ren}{h h':aP}{w b2:World}(x:ExtP μ h w aV h' b2)(hd:∀b l,μ b=I l->b<h.length):ef μ aV:=
 λb l e=>(x.eL b (hd b l e)).trans e
theorem ExtP.xE{μ aV:Ren}{h h':aP}{w b2:World}(x:ExtP μ h w aV h' b2){b:Nat}:k2 h b->k2 h' b
 |⟨vs,t,aD⟩=>⟨vs,t,(x.pc b ⟨vs,t,aD⟩).trans aD⟩
theorem ExtP.trans{μ aV m:Ren}{h h' n:aP}{w b2 o:World}(x:ExtP μ h w aV h' b2)(y:ExtP aV h' b2 m n o)
 (hd:∀b l,μ b=I l->b<h.length):ExtP μ h w m n o where
 le:=lH x.le y.le
 eL b ae:=(y.eL b (hF ae x.le)).trans (x.eL b ae)
 size:=lH x.size y.size
 frame c aa aA:=by
  rw[y.frame c (hF aa x.size) ?_,x.frame c aa aA]
  intro b l av e
  by_cases ae:b<h.length
  ·rw[x.eL b ae]at e
   by_cases p:live h b
   ·exact aA b l p e
   ·exact absurd av (x.dead b ae p)
  ·rcases x.new b l (by omega) e with h1|⟨cd,eY,i,_,g,aD,_⟩
   ·omega
   ·rw[←aD];exact aA cd eY i g
 ro b l e an:=by
  rw[y.ro b l ((x.eL b (hd b l e)).trans e) (x.xE an),x.ro b l e an]
 pc b an:=by
  rw[y.pc b (x.xE an),x.pc b an]
 new b l ae e:=by
  by_cases u:b<h'.length
  ·rw[y.eL b u]at e
   rcases x.new b l ae e with h1|⟨cd,eY,i,j,g,aD,k⟩
   ·exact .inl h1
   ·exact .inr ⟨cd,eY,i,j,g,aD,y.dead cd (hF i.lt x.le) k⟩
  ·rcases y.new b l (by omega) e with h1|⟨cd,eY,i,j,g,aD,k⟩
   ·exact .inl (lH x.size h1)
   ·by_cases q:cd<h.length
    ·rw[x.eL cd q]at g
     have z:live h cd:=pV λaA=>x.dead cd q aA i
     exact .inr ⟨cd,eY,z,λan=>j (x.xE an),g,aD,k⟩
    ·rcases x.new cd eY (by omega) g with h1|⟨cO,A,t,B,aE,C,D⟩
     ·exact .inl (by omega)
     ·exact .inr ⟨cO,A,t,B,aE,C.trans aD,y.dead cO (hF t.lt x.le) D⟩
 dead b ae aA:=y.dead b (hF ae x.le) (x.dead b ae aA)
 out:=x.out.trans y.out
structure Ext(μ:Ren)(h:aP)(w:World)(aV:Ren)(h':aP)(b2:World):Prop extends ExtP μ h w aV h' b2 where
 pd:∀b,h.length<=b->live h' b->∃l,aV b=I l
theorem Ext.refl(μ:Ren)(h:aP)(w:World)(hd:∀b l,μ b=I l->b<h.length):Ext μ h w μ h w:=
 ⟨ExtP.refl μ h w hd,λb ae av=>absurd av.lt (by omega)⟩
theorem Ext.r2{μ aV:Ren}{h h':aP}{w b2:World}(x:Ext μ h w aV h' b2)(hd:∀b l,μ b=I l->b<h.length):ef μ aV:=x.toExtP.r2 hd
theorem Ext.trans{μ aV c:Ren}{h h' g:aP}{w b2 i:World}(x:Ext μ h w aV h' b2)(y:Ext aV h' b2 c g i)
 (hd:∀b l,μ b=I l->b<h.length):Ext μ h w c g i:=by
 refine⟨x.toExtP.trans y.toExtP hd,λb ae av=>?_⟩
 by_cases j:b<h'.length
 ·have k:live h' b:=pV λaA=>y.dead b j aA av
  obtain⟨l,e⟩:=x.pd b ae k
  exact⟨l,(y.eL b j).trans e⟩
 ·exact y.pd b (by omega) av
theorem TM{P:Program}{μ:Ren}{w:World}{vs:List Value}{t:aX}{rw:Bool}{c K:Nat}{o:Obj}(b0:w.heap[c]?=I o)(ae:e9 P μ K (.cells vs t rw) o){i:Nat}{x:Value}(af:vs[i]?=I x):
 ∃y,w.cell? ⟨c,i,none⟩=I y/\bj μ x y:=by
 obtain⟨cs,cF,rfl,av,aw,_⟩:=ae
 obtain⟨y,ba,an⟩:=aw.get af
 have ag:i<vs.length:=(List.getElem?_eq_some_iff.1 af).1
 refine⟨y,?_,an⟩
 rw[l' ag]at ba
 simp only[wR,b0,FU,bg,bd]
 simpa using ba
theorem TN{P:Program}{μ:Ren}{h:aP}{w:World}(s:cH P μ h w){b c K off:Nat}{x:Value}(e:μ b=I ⟨c,K⟩)(af:o8 h b off=I x):
 ∃y,w.cell? ⟨c,off,none⟩=I y/\bj μ x y:=by
 unfold o8 at af
 split at af
 ·rename_i vs t r ae
  obtain⟨o,g,i⟩:=s.rel b _ _ e ae (by simp)
  exact TM g i af
 ·cases af
theorem zX{P:Program}{μ:Ren}{h:aP}{w:World}(s:cH P μ h w){b c K off n:Nat}{xs:List Value}(e:μ b=I ⟨c,K⟩)(af:hV h b off n=I xs):
 xs.length=n/\∃ys,ct μ xs ys/\∀j y,ys[j]?=I y->w.cell? ⟨c,off+j,none⟩=I y:=by
 unfold hV at af
 split at af
 ·rename_i vs t r ae
  obtain⟨o,g,i⟩:=s.rel b _ _ e ae (by simp)
  split at af
  ·rename_i e_
   cases af
   refine⟨by simp;omega,?_⟩
   obtain⟨cs,cF,rfl,av,aw,_⟩:=i
   refine⟨_,(aw.drop off).take n,λj y ba=>?_⟩
   have k:j<n:=by
    have:=(List.getElem?_eq_some_iff.1 ba).1
    simp at this
    omega
   rw[l' k,oZ,l' (by omega)]at ba
   simp only[wR,g,FU,bg,bd]
   simpa using ba
  ·cases af
 ·cases af
variable {P : Program} {μ : Ren}
theorem KA{op:BinOp}{x y c c0 v:Value}{t:aX}{X Y:Operand}{w:World}(af:bj μ x c)(ba:bj μ y c0)(h:rT op x y=I v):
 (do kV op t X Y c c0;lk op t c c0:Sem Value).run P w=.ok v w/\bj μ v v:=by
 unfold rT at h
 split at h
 ·rename_i k a b4 b
  cases af
  cases ba
  have bE:(kV op t X Y (.int k a) (.int b4 b)).run P w=.ok () w:=by
   unfold kV
   cases op<;>rfl
  simp only[er,bE,ed]
  cases op<;>simp only[]at h<;>first
   |(split at h
     ·cases h
     ·rename_i ae
      cases h
      refine⟨?_,.int _ _⟩
      simp [lk,Op.shift,ae])
   |(split at h
     ·rename_i ad
      subst ad
      first
       |(cases h;refine⟨?_,by constructor⟩;simp [lk,Op.intArith,Op.intBits,Op.intCmp];done)
       |(split at h
         ·cases h
         ·rename_i ae
          cases h
          refine⟨?_,.int _ _⟩
          simp [lk,Op.intDiv,ae])
     ·cases h)
 ·rename_i a b
  cases af
  cases ba
  have bE:(kV op t X Y (.string a) (.string b)).run P w=.ok () w:=by
   unfold kV
   cases op<;>rfl
  simp only[er,bE,ed]
  cases op<;>simp only[]at h<;>first
   |(split at h
     ·rename_i e_
      cases h
      refine⟨?_,.string _⟩
      have e:(IntKind.i64.max:Int)=9223372036854775807:=by decide
      simp only[lk,Op.stringOp]
      rw[a1 (by rw[e];omega)]
      rfl
     ·cases h)
   |(cases h;refine⟨?_,.bool _⟩;simp [lk,Op.stringOp];done)
   |cases h
 ·cases h
theorem eF{t:aX}{d:TypeDesc}{w:World}(h:P.underlying t=I d):(underlying t).run P w=.ok d w:=by
 simp [underlying,h]
theorem lq{t:aX}{i:TypeInfo}{w:World}(h:P.info? t=I i):(sizeOf t).run P w=.ok i.size w:=by
 simp [sizeOf,typeInfo,h]
theorem xF{t:aX}{i:TypeInfo}{z:Value}{w:World}(h:P.info? t=I i)(bq:i.zero=I z):(zm t).run P w=.ok z w:=by
 simp [zm,typeInfo,h,bq]
theorem q6{t:aX}{i:TypeInfo}{w:World}(h:P.info? t=I i):(typeInfo t).run P w=.ok i w:=by
 simp [typeInfo,h]
theorem Gq{t:aX}{d:TypeDesc}{w:World}(h:P.underlying t=I d):(isAgg t).run P w=.ok (lM d) w:=by
 simp only[isAgg,er,eF h,ed]
 cases d<;>rfl
theorem KB(d:Nat){t:aX}{w:World}(aO:P.underlying t=I .bool)(a b:Bool):(js (d+1) t (.bool a) (.bool b)).run P w=.ok (a==b) w:=by
 simp [js,eF aO]
theorem TO{neg:Bool}{op:BinOp}{x y c c0 v:Value}{t:aX}{X Y:Operand}{w:World}(af:bj μ x c)(ba:bj μ y c0)(h:zA neg x y=I v)
 (aO:P.underlying t=I .bool) (e:op=if neg then .neq else .eql):
 (do kV op t X Y c c0;lk op t c c0:Sem Value).run P w=.ok v w/\bj μ v v:=by
 unfold zA at h
 split at h
 ·rename_i a b
  cases af
  cases ba
  cases h
  refine⟨?_,.bool _⟩
  subst e
  have he:(Op.equal t (.bool a) (.bool b)).run P w=.ok (a==b) w:=KB 9999 aO a b
  cases neg
  ·have bE:(kV .eql t X Y (.bool a) (.bool b)).run P w=.ok () w:=rfl
   simp [bE,lk,he]
  ·have bE:(kV .neq t X Y (.bool a) (.bool b)).run P w=.ok () w:=rfl
   simp [bE,lk,he]
 ·cases h
def kindOk:TypeDesc->Value->Bool
 |.slice _,.slice ..=>true
 |.pointer _,.pointer _=>true
 |.map _ _,.map _=>true
 |.func _ _ _,.func ..=>true
 |.func _ _ _,.nilFunc=>true
 |.interface _,.iface ..=>true
 |.interface _,.nilIface=>true
 |_,_=>false
theorem TP(d:Nat){t e:aX}{w:World}(aO:P.underlying t=I (.slice e))(a:Option Addr)(n c:Nat):
 (js (d+1) t (.slice a n c) (.slice none 0 0)).run P w=.ok a.isNone w/\(js (d+1) t (.slice none 0 0) (.slice a n c)).run P w=.ok a.isNone w:=by
 cases a<;>simp [js,eF aO]
theorem TQ(d:Nat){t k e:aX}{w:World}(aO:P.underlying t=I (.map k e))(a:Option Nat):
 (js (d+1) t (.map a) (.map none)).run P w=.ok a.isNone w/\(js (d+1) t (.map none) (.map a)).run P w=.ok a.isNone w:=by
 cases a<;>simp [js,eF aO]
theorem TR(d:Nat){t e:aX}{w:World}(aO:P.underlying t=I (.pointer e))(a:Option Addr):
 (js (d+1) t (.pointer a) (.pointer none)).run P w=.ok a.isNone w/\(js (d+1) t (.pointer none) (.pointer a)).run P w=.ok a.isNone w:=by
 cases a<;>simp [js,eF aO]
theorem KC(d:Nat){t:aX}{bC rs:Array aX}{b:Bool}{w:World}(aO:P.underlying t=I (.func bC rs b))(f:Fn)(xs ys:Array Value):
 (js (d+1) t (.func f xs ys) .nilFunc).run P w=.ok false w/\(js (d+1) t .nilFunc (.func f xs ys)).run P w=.ok false w/\(js (d+1) t .nilFunc .nilFunc).run P w=.ok true w:=by
 simp [js,eF aO]
theorem KD(d:Nat){t:aX}{b:Array (String×aX)}{w:World}(aO:P.underlying t=I (.interface b))(u:aX)(v:Value):
 (js (d+1) t (.iface u v) .nilIface).run P w=.ok false w/\(js (d+1) t .nilIface (.iface u v)).run P w=.ok false w/\(js (d+1) t .nilIface .nilIface).run P w=.ok true w:=by
 simp [js,eF aO]
def u0:Value->Bool
 |.slice none _ _|.pointer none|.nilFunc|.map none|.nilIface=>true
 |_=>false
theorem TS{neg:Bool}{x v:Value}(h:w_ neg x=I v):v=.bool (neg !=u0 x):=by
 unfold w_ at h
 split at h<;>first|(cases h;rfl)|cases h
theorem TT{d:TypeDesc}{t:aX}{x z:Value}{w:World}(aO:P.underlying t=I d)(bq:uT d=I z)(ad:kindOk d x=true):
 (Op.equal t x z).run P w=.ok (u0 x) w/\(Op.equal t z x).run P w=.ok (u0 x) w:=by
 cases d with
 |slice e=>
  cases bq
  cases x with
  |slice a n c=>have:=TP 9999 (w:=w) aO a n c;cases a<;>exact this
  |_=>simp [kindOk]at ad
 |pointer e=>
  cases bq
  cases x with
  |pointer a=>have:=TR 9999 (w:=w) aO a;cases a<;>exact this
  |_=>simp [kindOk]at ad
 |map k e=>
  cases bq
  cases x with
  |map a=>have:=TQ 9999 (w:=w) aO a;cases a<;>exact this
  |_=>simp [kindOk]at ad
 |func bC rs b=>
  cases bq
  cases x with
  |func f xs ys=>have:=KC 9999 (w:=w) aO f xs ys;exact⟨this.1,this.2.1⟩
  |nilFunc=>have:=(KC 9999 (w:=w) aO (.func 0) #[] #[]).2.2;exact⟨this,this⟩
  |_=>simp [kindOk]at ad
 |interface g=>
  cases bq
  cases x with
  |iface u v=>have:=KD 9999 (w:=w) aO u v;exact⟨this.1,this.2.1⟩
  |nilIface=>have:=(KD 9999 (w:=w) aO 0 .nilIface).2.2;exact⟨this,this⟩
  |_=>simp [kindOk]at ad
 |_=>cases bq
theorem TU(d:Nat){t:aX}{c:IntKind}{w:World}(aO:P.underlying t=I (.int c))(k:IntKind)(a b:Int):(js (d+1) t (.int k a) (.int k b)).run P w=.ok (a==b) w:=by
 simp [js,eF aO]
theorem TV(d:Nat){t:aX}{w:World}(aO:P.underlying t=I .string)(a b:ByteArray):(js (d+1) t (.string a) (.string b)).run P w=.ok (a==b) w:=by
 simp [js,eF aO]
theorem TW{μ:Ren}:∀{c3:List e4} {xs ys eX eM:List Value} {r:Bool},hc c3 xs ys=I r->ct μ xs eX->ct μ ys eM->eX=xs/\eM=ys:=by
 intro c3
 induction c3 with
 |nil=>
  intro xs ys eX eM r h af ba
  cases af with
  |nil=>cases ba with
   |nil=>exact⟨rfl,rfl⟩
   |cons=>simp [hc]at h
  |cons=>simp [hc]at h
 |cons k c3 b=>
  intro xs ys eX eM r h af ba
  unfold hc at h
  split at h
  ·rename_i heq;cases heq
  ·rename_i heq
   cases heq
   cases af with
   |cons h1 h2=>
   cases ba with
   |cons cE cD=>
   cases h1
   cases cE
   split at h
   ·rw[de]at h
    obtain⟨dD,h,_⟩:=h
    obtain⟨rfl,rfl⟩:=b h h2 cD
    exact⟨rfl,rfl⟩
   ·cases h
  ·rename_i heq
   cases heq
   cases af with
   |cons h1 h2=>
   cases ba with
   |cons cE cD=>
   cases h1
   cases cE
   rw[de]at h
   obtain⟨dD,h,_⟩:=h
   obtain⟨rfl,rfl⟩:=b h h2 cD
   exact⟨rfl,rfl⟩
  ·rename_i heq
   cases heq
   cases af with
   |cons h1 h2=>
   cases ba with
   |cons cE cD=>
   cases h1
   cases cE
   rw[de]at h
   obtain⟨dD,h,_⟩:=h
   obtain⟨rfl,rfl⟩:=b h h2 cD
   exact⟨rfl,rfl⟩
  ·cases h
theorem KE:∀{bt bG:List e4} {e g:List Value} {r:Bool},hc (bt++bG) e g=I r->∃i c,hc bt (e.take bt.length) (g.take bt.length)=I i/\hc bG (e.drop bt.length) (g.drop bt.length)=I c/\r=(i&&c):=by
 intro bt
 induction bt with
 |nil=>intro bG e g r h;exact⟨true,r,by simp [hc],by simpa using h,by simp⟩
 |cons b bt j=>
  intro bG e g r h
  rw[List.cons_append]at h
  unfold hc at h
  split at h
  ·rename_i heq;cases heq
  ·rename_i heq
   cases heq
   split at h
   ·rename_i ad
    rw[de]at h
    obtain⟨q,bs,rfl⟩:=h
    obtain⟨i,c,h1,h2,rfl⟩:=j bs
    refine⟨_,c,?_,by simpa using h2,(wS _ _ _).symm⟩
    simp only[kb,J_,hc,aQ ad,h1,dm]
   ·cases h
  ·rename_i heq
   cases heq
   rw[de]at h
   obtain⟨q,bs,rfl⟩:=h
   obtain⟨i,c,h1,h2,rfl⟩:=j bs
   refine⟨_,c,?_,by simpa using h2,(wS _ _ _).symm⟩
   simp only[kb,J_,hc,h1,dm]
  ·rename_i heq
   cases heq
   rw[de]at h
   obtain⟨q,bs,rfl⟩:=h
   obtain⟨i,c,h1,h2,rfl⟩:=j bs
   refine⟨_,c,?_,by simpa using h2,(wS _ _ _).symm⟩
   simp only[kb,J_,hc,h1,dm]
  ·cases h
theorem Gr:∀{c3:List e4} {c e:List Value} {r:Bool},hc c3 c e=I r->c.length=c3.length/\e.length=c3.length:=by
 intro c3
 induction c3 with
 |nil=>
  intro c e r h
  unfold hc at h
  split at h
  ·exact⟨rfl,rfl⟩
  all_goals first|contradiction|cases h
 |cons b c3 g=>
  intro c e r h
  unfold hc at h
  split at h
  ·rename_i heq;cases heq
  ·rename_i heq
   cases heq
   split at h
   ·rw[de]at h
    obtain⟨q,bs,_⟩:=h
    obtain⟨h1,h2⟩:=g bs
    exact⟨by simp [h1],by simp [h2]⟩
   ·cases h
  ·rename_i heq
   cases heq
   rw[de]at h
   obtain⟨q,bs,_⟩:=h
   obtain⟨h1,h2⟩:=g bs
   exact⟨by simp [h1],by simp [h2]⟩
  ·rename_i heq
   cases heq
   rw[de]at h
   obtain⟨q,bs,_⟩:=h
   obtain⟨h1,h2⟩:=g bs
   exact⟨by simp [h1],by simp [h2]⟩
  ·cases h
def bQ(P:Program)(t:aX)(cs:List Value):Value:=match P.underlying t with
 |some d=>if lM d=true then .agg cs.toArray else cs.headD (.tuple #[])
 |none=>.tuple #[]
theorem zY{t:aX}{l:Bool×Nat}{w:World}(av:iG P t=I l){cs:Array Value}{off:Nat}(ae:off+l.2<=cs.size)(az:l.1=true\/0<l.2):(part t cs off).run P w=.ok (bQ P t ((cs.toList.drop off).take l.2)) w:=by
 unfold iG at av
 split at av
 ·rename_i d i hd ag
  split at av
  ·rename_i c
   cases av
   unfold bQ
   simp only[part,er,Gq hd,ed,hd]
   cases ha:lM d with
   |true=>
    simp only[aZ,er,lq ag,ed,ga]
    congr 2
    apply l_
    rw[Array.toList_extract]
    simp [List.extract]
   |false=>
    simp only[bg,bd]
    have b:off<cs.size:=by simp only at ae;omega
    have aD:cs[off]?=I cs[off]:=kW b
    have aE:((cs.toList.drop off).take i.size).headD (.tuple #[])=cs[off]:=by
     have af:cs.toList.drop off=cs[off]::cs.toList.drop (off+1):=by
      rw[List.drop_eq_getElem_cons (by simpa using b)]
      simp
     rw[af]
     obtain⟨k,ad⟩:∃k,i.size=k+1:=⟨i.size-1,by omega⟩
     rw[ad]
     rfl
    rw[aD,aE]
    simp
  ·cases av
 ·cases av
def zZ(P:Program)(d:Nat)(t:aX)(c3:List e4):Prop:=∀(w:World) (b c:List Value) (r:Bool),hc c3 b c=I r->(js d t (bQ P t b) (bQ P t c)).run P w=.ok r w
theorem xG{t:aX}{l:Bool×Nat}(av:iG P t=I l):0<l.2:=by
 unfold iG at av
 split at av
 ·split at av
  ·rename_i b;cases av;exact b
  ·cases av
 ·cases av
theorem TX{d:Nat}{t:aX}{b:e4}(ae:lN (P.underlying t)=I b):zZ P (d+1) t [b]:=by
 intro w e g r h
 unfold hc at h
 unfold lN at ae
 unfold bQ
 split at h
 ·rename_i heq;cases heq
 ·rename_i heq
  cases heq
  split at h
  ·rename_i ad
   rw[de]at h
   obtain⟨q,bs,rfl⟩:=h
   have av:=Gr bs
   unfold hc at bs
   split at bs
   ·cases bs
    split at ae
    ·rename_i c
     subst ad
     simp only[c,lM,bg,bd,List.headD_cons,jt]
     exact TU d c _ _ _
    all_goals cases ae
   all_goals first|contradiction|cases bs
  ·cases h
 ·rename_i heq
  cases heq
  rw[de]at h
  obtain⟨q,bs,rfl⟩:=h
  unfold hc at bs
  split at bs
  ·cases bs
   split at ae
   ·cases ae
   ·rename_i c
    simp only[c,lM,bg,bd,List.headD_cons,jt]
    exact KB d c _ _
   all_goals cases ae
  all_goals first|contradiction|cases bs
 ·rename_i heq
  cases heq
  rw[de]at h
  obtain⟨q,bs,rfl⟩:=h
  unfold hc at bs
  split at bs
  ·cases bs
   split at ae
   ·cases ae
   ·cases ae
   ·rename_i c
    simp only[c,lM,bg,bd,List.headD_cons,jt]
    exact TV d c _ _
   all_goals cases ae
  all_goals first|contradiction|cases bs
 ·cases h
theorem TY{d:Nat}{g:aX->Option (List e4)}(bE:∀t c3,g t=I c3->zZ P d t c3)(w:World){xs ys:Array Value}:∀{ey:List Field} {c3:List e4} {i:Nat} {r:Bool},zI g P i ey=I c3->hc c3 (xs.toList.drop i) (ys.toList.drop i)=I r->
 (Op.eqFields d xs ys ey).run P w=.ok r w:=by
 intro ey
 induction ey with
 |nil=>
  intro c3 i r aC h
  cases aC
  unfold hc at h
  split at h
  ·cases h;simp [Op.eqFields]
  all_goals first|contradiction|cases h
 |cons f ey k=>
  intro c3 i r aC h
  unfold zI at aC
  split at aC
  ·rename_i bt l ad b
   split at aC
   ·rename_i m
    obtain⟨c,aA,br⟩:=m
    rw[de]at aC
    obtain⟨bG,u1,rfl⟩:=aC
    have n : f.name ≠ "_" := by simpa using aA
    have e:=Gr h
    obtain⟨o,x,h1,h2,rfl⟩:=KE h
    have p:i+l.2<=xs.size:=by
     have:=e.1
     have aj:=xG b
     simp only[wT,dW,pW]at this
     omega
    have q:i+l.2<=ys.size:=by
     have:=e.2
     have aj:=xG b
     simp only[wT,dW,pW]at this
     omega
    rw[br]at h1 h2
    rw[sY,sY]at h2
    have u:=k u1 h2
    have q7:=zY (w:=w) b p (.inr (xG b))
    have j:=zY (w:=w) b q (.inr (xG b))
    rw[←c]at q7 j
    have bs:=bE f.type bt ad w _ _ _ h1
    rw[←c]at bs
    rw[Op.eqFields]
    simp only[aQ n,er,q7,j,bs,ed]
    cases o
    ·simp
    ·simpa using u
   ·cases aC
  ·cases aC
theorem TZ{d:Nat}{e:aX}{c3:List e4}{l:Bool×Nat}(bE:zZ P d e c3)(b:iG P e=I l)(br:c3.length=l.2)(w:World){xs ys:Array Value}:∀(n j:Nat) {r:Bool},hc (xv c3 n) (xs.toList.drop (j*l.2)) (ys.toList.drop (j*l.2))=I r->
 (Op.eqItems d e l.2 xs ys (List.range' j n)).run P w=.ok r w:=by
 intro n
 induction n with
 |zero=>
  intro j r h
  unfold xv hc at h
  split at h
  ·cases h;simp [Op.eqItems]
  all_goals first|contradiction|cases h
 |succ n g=>
  intro j r h
  unfold xv at h
  have c:=Gr h
  obtain⟨i,q,h1,h2,rfl⟩:=KE h
  have aj:=xG b
  have k:j*l.2+l.2<=xs.size:=by
   have:=c.1
   simp only[wT,dW,pW]at this
   omega
  have m:j*l.2+l.2<=ys.size:=by
   have:=c.2
   simp only[wT,dW,pW]at this
   omega
  rw[br]at h1 h2
  rw[sY,sY,←Nat.succ_mul]at h2
  have o:=g (j+1) h2
  have q7:=zY (w:=w) b k (.inr aj)
  have p:=zY (w:=w) b m (.inr aj)
  have bs:=bE w _ _ _ h1
  rw[List.range'_succ,Op.eqItems]
  simp only[er,q7,p,bs,ed]
  cases i
  ·simp
  ·simpa using o
theorem Gs(d:Nat):∀(m:Nat) (t:aX) (c3:List e4),uU P m t=I c3->zZ P (d+m) t c3
 |0,t,c3,h=>by cases h
 |m+1,t,c3,h=>by
  unfold uU at h
  split at h
  ·rename_i b ae
   cases h
   exact TX ae
  ·split at h
   ·rename_i ey c
    split at h
    ·rename_i o
     intro w p q r aa
     have j:P.fieldsOf t=ey:=by simp [Program.fieldsOf,c]
     unfold bQ
     simp only[c,lM,aZ]
     rw[show d+(m+1)=(d+m)+1 from rfl,run_equalIn_struct (P:=P) w (d+m) t _ _ (by rw[j];exact c) o,j]
     exact TY (λt c3 ad=>Gs d m t c3 ad) w h (by simpa using aa)
    ·cases h
   ·rename_i n e c
    split at h
    ·rename_i bt l ad g
     split at h
     ·rename_i k
      cases h
      intro w p q r aa
      unfold bQ
      simp only[c,lM,aZ]
      obtain⟨i,ag⟩:∃i,P.info? e=I i:=by
       unfold iG at g
       split at g
       ·rename_i x y _ u;exact⟨_,u⟩
       ·cases g
      rw[show d+(m+1)=(d+m)+1 from rfl,run_equalIn_array w (d+m) _ _ c ag,k.2,List.range_eq_range']
      exact TZ (Gs d m e bt ad) g k.1 w n 0 (by simpa using aa)
     ·cases h
    ·cases h
   ·cases h
theorem KF{μ:Ren}{c3:List e4}{neg:Bool}{op:BinOp}{x y c c0 v:Value}{t:aX}{X Y:Operand}{w:World}(af:bj μ x c)(ba:bj μ y c0)(h:w' c3 neg x y=I v)
 (aO:zJ P t=I c3) (g:op=if neg then .neq else .eql):
 (do kV op t X Y c c0;lk op t c c0:Sem Value).run P w=.ok v w/\bj μ v v:=by
 unfold w' at h
 split at h
 ·rename_i xs ys
  cases af with
  |agg af=>
  cases ba with
  |agg ba=>
  rename_i eX eM
  rw[de]at h
  obtain⟨r,h,rfl⟩:=h
  obtain⟨aD,aE⟩:=TW h af ba
  obtain rfl:eX=xs:=l_ aD
  obtain rfl:eM=ys:=l_ aE
  have key:∀d,P.underlying t=I d->lM d=true->P.eqGuardType P.depth t=false->uU P 16 t=I c3->(do kV op t X Y (.agg eX) (.agg eM);lk op t (.agg eX) (.agg eM):Sem Value).run P w=.ok (.bool (neg !=r)) w:=by
   intro d b ha aa aC
   have he:(Op.equal t (.agg eX) (.agg eM)).run P w=.ok r w:=by
    have bs:=Gs 9984 16 t c3 aC w eX.toList eM.toList r h
    unfold bQ at bs
    simp only[b,ha,aZ]at bs
    exact bs
   subst g
   cases neg
   ·have bE:(kV .eql t X Y (.agg eX) (.agg eM)).run P w=.ok () w:=by
     simp [kV,aa]
    simp [bE,lk,he]
   ·have bE:(kV .neq t X Y (.agg eX) (.agg eM)).run P w=.ok () w:=by
     simp [kV,aa]
    simp [bE,lk,he]
  unfold zJ at aO
  split at aO
  ·rename_i ey b
   split at aO
   ·rename_i aa
    exact⟨key _ b rfl aa aO,.bool _⟩
   ·cases aO
  ·rename_i n e b
   split at aO
   ·rename_i aa
    exact⟨key _ b rfl aa aO,.bool _⟩
   ·cases aO
  ·cases aO
 ·cases h
end Go.bB
namespace Go.bB
variable {P : Program} {μ : Ren}
theorem mX(c o n:Nat):(⟨c,o,none⟩:Addr).add n=⟨c,o+n,none⟩:=by
 unfold Addr.add
 split
 ·rename_i h;subst h;rfl
 ·rfl
theorem bj.xH{x y:Value}(h:bj μ x y)(af:kB x=true):y.oneCell'=true:=by
 cases h<;>first|rfl|(simp [kB,bB.dI]at af)
theorem ct.xH{xs ys:List Value}(h:ct μ xs ys)(af:xs.all kB=true):∀v∈ys,v.oneCell'=true:=by
 intro v aw
 obtain⟨i,ag⟩:=List.getElem?_of_mem aw
 have av:=h.length
 have b:i<xs.length:=by have:=(List.getElem?_eq_some_iff.1 ag).1;omega
 obtain⟨y,ba,an⟩:=h.get (List.getElem?_eq_getElem b)
 rw[ag]at ba
 cases ba
 exact an.xH (List.all_eq_true.1 af _ (List.getElem_mem b))
theorem KG{h:aP}{b bf:Nat}{blk:h9}(ae:live h b)(aA:blk≠.dead):live (h.set b blk) bf↔live h bf:=by
 have c:=ae.lt
 unfold live
 by_cases e:b=bf
 ·subst e
  rw[fr c]
  exact⟨λ_=>ae,λ_=>⟨blk,rfl,aA⟩⟩
 ·rw[hj e]
theorem Gt{w:World}{c:Nat}{cs b:Array Value}{t:aX}{cF:Nat×Nat}(h:w.heap[c]?=I (.cells cs t cF)):
 (w.setRow c b).heap[c]?=I (.cells b t cF):=by
 have e:=(Array.getElem?_eq_some_iff.1 h).1
 simp only[World.setRow]
 rw[J',aQ rfl,h]
 rfl
theorem xI{w:World}{c d:Nat}{b:Array Value}(h:c≠d):(w.setRow c b).heap[d]?=w.heap[d]?:=by
 simp only[World.setRow]
 rw[J',a1 h]
theorem setRow_size(w:World)(c:Nat)(b:Array Value):(w.setRow c b).heap.size=w.heap.size:=by
 simp [World.setRow]
theorem xJ{h h':aP}{w:World}(s:cH P μ h w){b c K off:Nat}{l ys:List Value}(e:μ b=I ⟨c,K⟩)(aw:ct μ l ys)(b0:nE h b off l=I h'):
 ∃b2,(zo ⟨c,off,none⟩ ys).run P w=.ok () b2/\cH P μ h' b2/\Ext μ h w μ h' b2:=by
 unfold nE at b0
 split at b0
 ·rename_i vs t ae
  split at b0
  ·rename_i aa
   cases b0
   obtain⟨o,p,cs,cF,rfl,av,z,A,B⟩:=s.rel b _ _ e ae (by simp)
   replace p:w.heap[c]?=I (.cells cs t cF):=p
   have C:=A rfl
   subst C
   have br:=aw.length
   have m:live h b:=⟨_,ae,by simp⟩
   have x:=run_storeCells_at (P:=P) c off t ys 0 cs w p (by omega) (aw.xH aa.2)
   simp only[Nat.add_zero]at x
   have q:∀bf,live (h.set b (.cells (vs.take off++l++vs.drop (off+l.length)) t true)) bf↔live h bf:=λbf=>KG m (by simp)
   refine⟨_,x,⟨λbf g e'=>by rw[ir];exact s.cc bf g e',λbf g blk e' j aA=>?_,λcO y D E aD aE F G H=>s.inj cO y D E aD aE F ((q cO).1 G) ((q y).1 H),λbf g e'=>by rw[setRow_size];exact s.lt bf g e'⟩,?_⟩
   ·by_cases k:b=bf
    ·subst k
     rw[e]at e'
     cases e'
     rw[fr m.lt]at j
     cases j
     have cY:(cs.toList.take off++ys++cs.toList.drop (off+ys.length)).toArray.size=cs.size:=by simp;omega
     refine⟨_,Gt p,_,_,rfl,?_,?_,λ_=>rfl,by rw[cY];exact B⟩
     ·rw[cY]
      simp
      omega
     ·have h1:(vs.take off++l++vs.drop (off+l.length)).length=vs.length:=by simp;omega
      rw[h1]
      have h2:=z.Gp aw off
      have ak:((cs.toList.take off++ys++cs.toList.drop (off+ys.length)).toArray.toList.take vs.length)=((cs.toList.take vs.length).take off++ys++(cs.toList.take vs.length).drop (off+ys.length)):=by
       have ou:vs.length<=cs.toList.length:=by simpa using av
       apply gn
       intro i
       by_cases ag:i<vs.length
       ·rw[l' ag]
        by_cases aH:i<off
        ·rw[eo,cG (by simp;omega),l' aH,eo,cG (by simp;omega),l' aH,l' ag]
        ·by_cases aM:i<off+ys.length
         ·rw[cG (by simp;omega),ma (by simp;omega),cG (by simp;omega),ma (by simp;omega)]
          simp only[kz]
          congr 1
          omega
         ·rw[ma (by simp;omega),ma (by simp;omega),oZ,oZ]
          simp only[dW,kz]
          rw[l' (by omega)]
          congr 1
          omega
       ·rw[e2 (by simp;omega),e2 (by simp;omega)]
      rw[ak]
      exact h2
    ·rw[hj k]at j
     have J:c≠g.blk:=λn=>k (s.inj b bf _ _ e e' n m ⟨_,j,aA⟩)
     obtain⟨o',L,M⟩:=s.rel bf g blk e' j aA
     exact⟨o',by rw[xI J];exact L,M⟩
   ·refine⟨⟨by rw[ir];exact ca _,λ_ _=>rfl,by rw[setRow_size];exact ca _,λg _ aA=>xI (λn=>aA b _ m e n),λbf g e' an=>xI (λn=>?_),λbf an=>?_,λbf g j e'=>absurd (s.cc bf g e') (by omega),λbf _ aA u=>aA ((q bf).1 u),⟨rfl,rfl,rfl⟩⟩,λbf j u=>absurd ((q bf).1 u).lt (by omega)⟩
    ·have:=s.inj b bf _ _ e e' n m an.live
     subst this
     obtain⟨b_,N,aE⟩:=an
     rw[ae]at aE
     cases aE
    ·by_cases k:b=bf
     ·subst k
      obtain⟨b_,N,aE⟩:=an
      rw[ae]at aE
      cases aE
     ·exact hj k
  ·cases b0
 ·cases b0
def grow(μ:Ren)(b c K:Nat):Ren:=λx=>if x=b then I ⟨c,K⟩else μ x
theorem r3{h:aP}{w:World}(s:cH P μ h w)(c K:Nat):ef μ (grow μ h.length c K):=λb l e=>by
 unfold grow
 rw[a1 (by have:=s.cc b l e;omega)]
 exact e
theorem KH(w:World)(o:Obj):(w.alloc o).heap[w.heap.size]?=I o:=by
 show(w.heap.push o)[w.heap.size]?=I o
 simp
theorem u2(w:World)(o:Obj){c:Nat}(h:c<w.heap.size):(w.alloc o).heap[c]?=w.heap[c]?:=by
 show(w.heap.push o)[c]?=w.heap[c]?
 rw[Array.getElem?_push_lt h,←kW h]
theorem xK(w:World)(o:Obj):(w.alloc o).heap.size=w.heap.size+1:=by
 show(w.heap.push o).size=w.heap.size+1
 simp
theorem z1{h:aP}{blk:h9}{b:Nat}(ae:b<h.length):live (h++[blk]) b↔live h b:=by
 unfold live
 rw[cG ae]
theorem cH.alloc{h:aP}{w w0:World}(s:cH P μ h w)(b0:w0.heap=w.heap)(j:kf w w0){K:Nat}{blk:h9}{o:Obj}(ae:e9 P (grow μ h.length w.heap.size K) K blk o):
 cH P (grow μ h.length w.heap.size K) (h++[blk]) (w0.alloc o)/\Ext μ h w (grow μ h.length w.heap.size K) (h++[blk]) (w0.alloc o):=by
 have az:w0.heap.size=w.heap.size:=by rw[b0]
 have i:∀b l,grow μ h.length w.heap.size K b=I l->(b=h.length/\l=⟨w.heap.size,K⟩)\/(b<h.length/\l.blk<w.heap.size/\μ b=I l):=by
  intro b l e
  unfold grow at e
  split at e
  ·rename_i g;cases e;exact .inl ⟨g,rfl⟩
  ·exact .inr ⟨s.cc b l e,s.lt b l e,e⟩
 constructor
 ·refine⟨λb l e=>?_,λb l blk' e g aA=>?_,λb bf l cB e e' fj av k=>?_,λb l e=>?_⟩
  ·rcases i b l e with⟨au,_⟩|⟨h1,_,_⟩<;>simp<;>omega
  ·rcases i b l e with⟨rfl,rfl⟩|⟨h1,h2,ak⟩
   ·rw[zp]at g
    cases g
    exact⟨o,by rw[←az];exact KH w0 o,ae⟩
   ·rw[cG h1]at g
    obtain⟨o',m,n⟩:=s.rel b l blk' ak g aA
    exact⟨o',by rw[u2 w0 o (by omega),b0];exact m,n.mono (r3 s _ _)⟩
  ·rcases i b l e with⟨rfl,rfl⟩|⟨h1,h2,ak⟩<;>rcases i bf cB e' with⟨rfl,rfl⟩|⟨hg,q,p⟩
   ·rfl
   ·simp only at fj;omega
   ·simp only at fj;omega
   ·exact s.inj b bf l cB ak p fj ((z1 h1).1 av) ((z1 hg).1 k)
  ·rw[xK,az]
   rcases i b l e with⟨_,rfl⟩|⟨_,h2,_⟩
   ·exact Nat.lt_succ_self _
   ·omega
 ·refine⟨⟨by simp,λb g=>?_,by rw[xK,az];omega,λc aa _=>by rw[u2 w0 o (by omega),b0],λb l e _=>by rw[u2 w0 o (by have:=s.lt b l e;omega),b0],λb an=>cG an.live.lt,λb l g e=>?_,λb g aA av=>aA ((z1 g).1 av),j⟩,λb g av=>⟨⟨w.heap.size,K⟩,by have:=av.lt;simp only[dW,List.length_singleton]at this;unfold grow;rw[aQ (by omega)]⟩⟩
  ·unfold grow;rw[a1 (by omega)]
  ·rcases i b l e with⟨_,rfl⟩|⟨h1,_,_⟩
   ·exact .inl (ca _)
   ·omega
theorem pe(b c K:Nat):grow μ b c K b=I ⟨c,K⟩:=by simp [grow]
theorem KI{agg:Bool}{n:Nat}{x g v:Value}{h:aP}{w:World}(s:cH P μ h w)(af:bj μ x g)(aw:nF agg n x h=I v)
 {t:aX} {d:TypeDesc} {i:TypeInfo} (aO:P.underlying t=I d) (ag:P.info? t=I i) (ha:lM d=agg) (aA:i.size=n):
 ∃v',(Instr.loadAt t g).run P w=.ok v' w/\bj μ v v':=by
 unfold nF at aw
 split at aw
 ·cases af with
  |@ptr b c K o e=>
   simp only[Instr.loadAt,zq,er,ga,ed,loadVar,Gq aO,ha]
   cases agg with
   |true=>
    simp only[de]at aw
    obtain⟨l,av,rfl⟩:=aw
    obtain⟨br,ys,k,aa⟩:=zX s e av
    have m:ys.length=n:=by rw[←k.length,br]
    have:=Kb (P:=P) w ⟨c,o,none⟩ ys (λj v p=>by rw[mX];exact aa j v p)
    rw[m]at this
    exact⟨.agg ys.toArray,by simp [lq ag,aA,this],.agg k⟩
   |false=>
    obtain⟨y,ba,an⟩:=TN s e aw
    exact⟨y,by simp [ba],an⟩
 ·cases aw
theorem T0{n:Nat}{x b v v':Value}{h h':aP}{w:World}(s:cH P μ h w)(af:bj μ x b)(aw:bj μ v v')(az:rU n x v h=I h')
 {t:aX} {i:TypeInfo} (ag:P.info? t=I i) (aA:i.size=n) (au:0<n):
 ∃b2,(Instr.storeAt t b v').run P w=.ok () b2/\cH P μ h' b2/\Ext μ h w μ h' b2:=by
 unfold rU at az
 split at az
 ·rename_i a
  cases af with
  |ptr e=>
   split at az
   ·rename_i br
    have ou:=aw.Kz (by omega)
    obtain⟨b2,c,h1,h2⟩:=xJ (P:=P) s e ou az
    refine⟨b2,?_,h1,h2⟩
    have cY:v'.cells.size=i.size:=by
     have:=ou.length
     rw[br]at this
     rw[aA,this]
     simp
    simp only[Instr.storeAt,zq,er,ga,ed,storeVar,lq ag,cY,ne_eq,not_true_eq_false,bd]
    simpa using c
   ·cases az
 ·cases az
end Go.bB
namespace Go.bB
variable {P : Program} {μ : Ren} {w : World}
theorem KJ{neg:Bool}{op:BinOp}{x c v z:Value}{d:TypeDesc}{t:aX}{X Y:Operand}(af:bj μ x c)(h:w_ neg x=I v)
 (aO:P.underlying t=I d) (bq:uT d=I z) (ad:kindOk d x=true) (g:op=if neg then .neq else .eql):
 (Y=.const z->(do kV op t X Y c z;lk op t c z:Sem Value).run P w=.ok v w)/\
 (X=.const z->(do kV op t X Y z c;lk op t z c:Sem Value).run P w=.ok v w)/\bj μ v v:=by
 have aw:=TS h
 subst aw
 have i:kindOk d c=true:=by cases af<;>simp_all [kindOk,bB.dI]<;>(cases d<;>simp_all)
 have aA:u0 c=u0 x:=by cases af<;>simp_all [u0,bB.dI,w_]
 have heq:=TT (P:=P) (w:=w) aO bq i
 rw[aA]at heq
 have bE:∀a b:Value,(X=.const z\/Y=.const z)->(a=z\/b=z)->(kV op t X Y a b).run P w=.ok () w:=by
  intro a b aa j
  have k:∀cs,z≠.agg cs:=by intro cs e;subst e;cases d<;>simp [uT]at bq
  unfold kV
  subst g
  cases neg<;>
  ·simp only[bg,bd,aZ]
   cases a<;>cases b<;>first
    |rfl
    |(rcases aa with rfl|rfl<;>first|rfl|(cases X<;>rfl))
    |(rcases j with e|e<;>exact absurd e.symm (k _))
 refine⟨λl=>?_,λm=>?_,.bool _⟩
 ·simp only[er,bE c z (.inr l) (.inr rfl),ed]
  subst g
  cases d<;>simp only[uT,ug,reduceCtorEq]at bq<;>subst bq<;>cases c<;>simp only[kindOk,bg]at i<;>cases neg<;>
   simp [lk,heq.1,Bool.xor_false,Bool.xor_true]
 ·simp only[er,bE z c (.inl m) (.inl rfl),ed]
  subst g
  cases d<;>simp only[uT,ug,reduceCtorEq]at bq<;>subst bq<;>cases c<;>simp only[kindOk,bg]at i<;>cases neg<;>
   simp [lk,heq.2,Bool.xor_false,Bool.xor_true]
theorem T1{op:UnOp}{x b v:Value}(af:bj μ x b)(h:zB op x=I v):(Op.unary op b).run P w=.ok v w/\bj μ v v:=by
 unfold zB at h
 split at h
 ·cases af;cases h;exact⟨by simp [Op.unary,Op.intArith],.int _ _⟩
 ·cases af;cases h;exact⟨by simp [Op.unary],.bool _⟩
 ·cases af;cases h;exact⟨by simp [Op.unary,Op.intBits],.int _ _⟩
 ·cases h
theorem T2{k:IntKind}{x b v:Value}{s d:aX}{df:TypeDesc}(af:bj μ x b)(h:zD k x=I v)(az:P.underlying s=I df)(hd:P.underlying d=I (.int k)):
 (convert s d b).run P w=.ok v w/\bj μ v v:=by
 unfold zD at h
 split at h
 ·cases af
  cases h
  refine⟨?_,.int _ _⟩
  simp only[convert,er,eF az,eF hd,ed]
  cases df<;>rfl
 ·cases h
theorem T3{x b v:Value}{s d:aX}(af:bj μ x b)(h:zC x=I v)(az:P.underlying s=I .string)(hd:P.underlying d=I .string):
 (convert s d b).run P w=.ok v w/\bj μ v v:=by
 unfold zC at h
 split at h
 ·cases af
  cases h
  refine⟨?_,.string _⟩
  simp only[convert,er,eF az,eF hd,ed]
  rfl
 ·cases h
theorem T4{c e x g y c0 v:Value}(aa:bj μ c e)(af:bj μ x g)(ba:bj μ y c0)(h:uD c x y=I v):
 ∃b,e=.bool b/\bj μ v (if b then g else c0):=by
 unfold uD at h
 split at h
 ·rename_i b
  cases aa
  cases h
  refine⟨b,rfl,?_⟩
  cases b<;>simpa
 ·cases h
theorem KK{str:Bool}{x b v:Value}{t ty:aX}(af:bj μ x b)(h:xa str x=I v)(aO:if str=true then P.underlying t=I .string else ∃e,P.underlying t=I (.slice e)):
 (wU #[t] ty #[b]).run P w=.ok v w/\bj μ v v:=by
 unfold xa at h
 split at h
 ·cases af
  cases h
  exact⟨by simp [wU,eF aO,goInt],.int _ _⟩
 ·obtain⟨e,aO⟩:=aO
  cases h
  cases af<;>exact⟨by simp [wU,eF aO,goInt],.int _ _⟩
 ·cases h
theorem T5{x b v:Value}{i:Nat}(af:bj μ x b)(h:xb x i=I v):∃v',(Instr.extract b i).run P w=.ok v' w/\bj μ v v':=by
 unfold xb at h
 split at h
 ·rename_i vs
  cases af with
  |@tuple _ ys av=>
   have h':vs.toList[i]?=I v:=by simpa using h
   obtain⟨y,ba,an⟩:=av.get h'
   refine⟨y,?_,an⟩
   have c:ys[i]?=I y:=by simpa using ba
   simp [Instr.extract,c]
 ·cases h
theorem KL{agg:Bool}{off size:Nat}{xs:List Value}{ys:Array Value}{v:Value}(av:ct μ xs ys.toList)(h:uE agg off size xs=I v)
 {t:aX} {d:TypeDesc} {i:TypeInfo} (aO:P.underlying t=I d) (ag:P.info? t=I i) (ha:lM d=agg) (aA:i.size=size):
 ∃v',(part t ys off).run P w=.ok v' w/\bj μ v v':=by
 unfold uE at h
 simp only[part,er,Gq aO,ha,ed]
 cases agg with
 |true=>
  simp only[]at h
  split at h
  ·rename_i e_
   cases h
   refine⟨.agg (ys.extract off (off+size)),by simp [lq ag,aA],.agg ?_⟩
   have h1:=(av.drop off).take size
   have h2:(ys.extract off (off+size)).toList=(ys.toList.drop off).take size:=by
    rw[Array.toList_extract]
    simp [List.extract]
   rw[h2]
   exact h1
  ·cases h
 |false=>
  simp only[]at h
  obtain⟨y,ba,an⟩:=av.get h
  refine⟨y,?_,an⟩
  have b:ys[off]?=I y:=by simpa using ba
  simp [b]
theorem T6{agg:Bool}{off size f:Nat}{x c v:Value}(af:bj μ x c)(h:zE agg off size x=I v)
 {t:aX} {ey:Array Field} {b:Field} {d:TypeDesc} {i:TypeInfo} (e:P.underlying t=I (.struct ey)) (aC:ey[f]?=I b) (g:b.offset=off)
 (aO:P.underlying b.type=I d) (ag:P.info? b.type=I i) (ha:lM d=agg) (aA:i.size=size):
 ∃v',(Instr.field t c f).run P w=.ok v' w/\bj μ v v':=by
 unfold zE at h
 split at h
 ·cases af with
  |agg av=>
   obtain⟨v',an,aw⟩:=KL (P:=P) (w:=w) av h aO ag ha aA
   refine⟨v',?_,aw⟩
   simp [Instr.field,eF e,aC,asAgg,g,an]
 ·cases h
theorem T7{n:Nat}{agg:Bool}{size:Nat}{x b i c v:Value}(af:bj μ x b)(ag:bj μ i c)(h:xc n agg size x i=I v)
 {t e:aX} {d:TypeDesc} {g:TypeInfo} (m:P.underlying t=I (.array n e)) (aO:P.underlying e=I d) (l:P.info? e=I g) (ha:lM d=agg) (aA:g.size=size):
 ∃v',(Kc t b c).run P w=.ok v' w/\bj μ v v':=by
 unfold xc at h
 split at h
 ·rename_i cs k j
  cases ag
  cases af with
  |agg av=>
   split at h
   ·rename_i o
    obtain⟨v',an,aw⟩:=KL (P:=P) (w:=w) av h aO l ha aA
    refine⟨v',?_,aw⟩
    simp only[Kc,uh,er,ga,ed,eF m]
    simp [o,lq l,aA,an]
   ·cases h
 ·cases h
theorem T8{x c i e v:Value}(af:bj μ x c)(ag:bj μ i e)(h:xd x i=I v){t:aX}(g:P.underlying t=I .string):
 (Kc t c e).run P w=.ok v w/\bj μ v v:=by
 unfold xd at h
 split at h
 ·rename_i s k j
  cases ag
  cases af
  split at h
  ·rename_i l
   simp only[de]at h
   obtain⟨b,ae,rfl⟩:=h
   refine⟨?_,.int _ _⟩
   have m:s[j.toNat]?=I b:=by
    rw[←ae]
    obtain⟨h1,h2⟩:=Array.getElem?_eq_some_iff.1 ae
    have ak:j.toNat<s.size:=h1
    rw[getElem?_pos s j.toNat ak,ae]
    exact cV I h2
   simp only[Kc,uh,er,ga,ed,eF g]
   simp [l,m]
  ·cases h
 ·cases h
theorem T9{off f:Nat}{x j v:Value}(af:bj μ x j)(h:uF off x=I v){t:aX}{ey:Array Field}{g:Field}{i:TypeInfo}
 (k:P.underlying t=I (.struct ey)) (aC:ey[f]?=I g) (l:g.offset=off) (ag:P.info? g.type=I i) (aA:i.size≠0):
 ∃v',(Instr.fieldAt t j f).run P w=.ok v' w/\bj μ v v':=by
 unfold uF at h
 split at h
 ·cases af with
  |@ptr b c K o e=>
   cases h
   refine⟨.pointer (I ⟨c,o+off,none⟩),?_,.ptr e⟩
   simp [Instr.fieldAt,eF k,aC,zq,fieldPlace,lq ag,aA,mX,l]
 ·cases h
theorem T_{size:Nat}{x l i m v:Value}(af:bj μ x l)(ag:bj μ i m)(h:qZ size x i=I v){t e:aX}{p:TypeInfo}
 (q:P.underlying t=I (.slice e)) (u:P.info? e=I p) (aA:p.size=size):
 ∃v',(Kd t l m).run P w=.ok v' w/\bj μ v v':=by
 unfold qZ at h
 split at h
 ·rename_i a n c k j
  cases ag
  split at h
  ·rename_i g
   cases h
   cases af with
   |@bO b y K o _ _ _ e=>
    refine⟨.pointer (I ⟨y,o+j.toNat*size,none⟩),?_,.ptr e⟩
    simp only[Kd,uh,er,ga,ed,eF q]
    simp [g,lq u,aA,mX]
   |fc=>simp at g;omega
   |gU=>simp at g;omega
  ·cases h
 ·cases h
theorem T'{n size:Nat}{x c i g v:Value}(af:bj μ x c)(ag:bj μ i g)(h:uG n size x i=I v){t e:aX}{l:TypeInfo}
 (m:P.underlying t=I (.array n e)) (p:P.info? e=I l) (aA:l.size=size):
 ∃v',(Kd t c g).run P w=.ok v' w/\bj μ v v':=by
 unfold uG at h
 split at h
 ·rename_i a k j
  cases ag
  split at h
  ·rename_i q
   cases h
   cases af with
   |@ptr b u K o e=>
    refine⟨.pointer (I ⟨u,o+j.toNat*size,none⟩),?_,.ptr e⟩
    simp only[Kd,uh,er,ga,ed,eF m,zq]
    simp [q,lq p,aA,mX]
  ·cases h
 ·cases h
theorem Gu{f:Value->Value->Option Value}{g:Value->Value->Sem Value}(c:∀x y b c0 v,bj μ x b->bj μ y c0->f x y=I v->(g b c0).run P w=.ok v w/\bj μ v v):
 ∀{xs ys:List Value} {x b v:Value},bj μ x b->ct μ xs ys->uH f x xs=I v->∃v',(ys.foldlM g b).run P w=.ok v' w/\bj μ v v'
 |[],_,x,b,v,af,av,h=>by
  cases av
  cases h
  exact⟨b,rfl,af⟩
 |y::xs,_,x,b,v,af,av,h=>by
  cases av with
  |@cons _ c0 _ ys ba az=>
   simp only[uH,cN]at h
   obtain⟨z,bq,h⟩:=h
   obtain⟨h1,h2⟩:=c _ _ _ _ _ af ba bq
   obtain⟨v',ak,aH⟩:=Gu c h2 az h
   exact⟨v',by simp [List.foldlM_cons,h1,ak],aH⟩
theorem Ua{x y b c0 v:Value}(af:bj μ x b)(ba:bj μ y c0)(h:xf x y=I v):(Builtin.max2 b c0).run P w=.ok v w/\bj μ v v:=by
 unfold xf at h
 split at h
 ·cases af;cases ba
  split at h
  ·cases h;exact⟨rfl,.int _ _⟩
  ·cases h
 ·cases h
theorem Ub{x y b c0 v:Value}(af:bj μ x b)(ba:bj μ y c0)(h:xg x y=I v):(Builtin.min2 b c0).run P w=.ok v w/\bj μ v v:=by
 unfold xg at h
 split at h
 ·cases af;cases ba
  split at h
  ·cases h;exact⟨rfl,.int _ _⟩
  ·cases h
 ·cases h
end Go.bB
namespace Go.bB
variable {P : Program} {μ : Ren} {w : World}
def hH(μ:Ren)(x b:Option Value):Prop:=match x,b with
 |none,none=>True
 |some v,I v'=>bj μ v v'
 |_,_=>False
theorem u3{d gz:Nat}{x b:Option Value}{m most':Nat}(af:hH μ x b)(h:hT d x gz=I m)(hm:gz<=most'):
 (x=none/\b=none/\m=d)\/∃v v',x=I v/\b=I v'/\m<=gz/\∀code,(Instr.sliceBound v' most' code).run P w=.ok m w:=by
 cases x with
 |none=>
  cases b with
  |none=>cases h;exact .inl ⟨rfl,rfl,rfl⟩
  |some v'=>exact af.elim
 |some v=>
  cases b with
  |none=>exact af.elim
  |some v'=>
   unfold hT at h
   split at h
   ·rename_i e;cases e
   ·rename_i k j e
    cases e
    have aw:bj μ (.int k j) v':=af
    cases aw
    split at h
    ·rename_i c
     cases h
     refine .inr ⟨_,_,rfl,rfl,by omega,λcode=>?_⟩
     simp only[Instr.sliceBound,uh,er,ga,ed]
     rw[aQ (by omega)]
     rfl
    ·cases h
   ·cases h
theorem td{isS:Bool}{n gz most':Nat}{lo j ag k mx mx':Option Value}{l h m:Nat}(h1:hH μ lo j)(h2:hH μ ag k)(ak:hH μ mx mx')
 (q:mx.isSome=true->ag.isSome=true) (hm:gz<=most')
 (t:hT gz mx gz=I m) (aE:hT n ag m=I h) (aD:hT 0 lo h=I l):
 ∃e5,(Tz isS n most' j k mx').run P w=.ok (l,h,e5) w/\l<=h/\(n<=gz->h<=m)/\m<=gz/\((mx=none/\m=gz/\e5=most')\/(mx≠none/\e5=m)):=by
 unfold Tz
 rcases u3 (P:=P) (w:=w) (most':=most') ak t hm with⟨rfl,rfl,c⟩|⟨v3,x,rfl,rfl,c,o⟩
 ·rcases u3 (P:=P) (w:=w) (most':=most') h2 aE (by omega)with⟨rfl,rfl,e⟩|⟨v2,u,rfl,rfl,e,g⟩
  ·rcases u3 (P:=P) (w:=w) (most':=h) h1 aD (ca _)with⟨rfl,rfl,b⟩|⟨v1,p,rfl,rfl,b,i⟩
   ·exact⟨most',by subst e b;simp,by omega,by omega,by omega,.inl ⟨rfl,c,rfl⟩⟩
   ·exact⟨most',by subst e;simp [i],by omega,by omega,by omega,.inl ⟨rfl,c,rfl⟩⟩
  ·rcases u3 (P:=P) (w:=w) (most':=h) h1 aD (ca _)with⟨rfl,rfl,b⟩|⟨v1,p,rfl,rfl,b,i⟩
   ·exact⟨most',by subst b;simp [g],by omega,by omega,by omega,.inl ⟨rfl,c,rfl⟩⟩
   ·exact⟨most',by simp [i,g],by omega,by omega,by omega,.inl ⟨rfl,c,rfl⟩⟩
 ·rcases u3 (P:=P) (w:=w) (most':=m) h2 aE (ca _)with⟨rfl,rfl,e⟩|⟨v2,u,rfl,rfl,e,g⟩
  ·simp at q
  ·rcases u3 (P:=P) (w:=w) (most':=h) h1 aD (ca _)with⟨rfl,rfl,b⟩|⟨v1,p,rfl,rfl,b,i⟩
   ·exact⟨m,by subst b;simp [g,o],by omega,by omega,by omega,.inr ⟨by simp,rfl⟩⟩
   ·exact⟨m,by simp [i,g,o],by omega,by omega,by omega,.inr ⟨by simp,rfl⟩⟩
theorem Uc{size:Nat}{x H v:Value}{lo z ag A mx mx':Option Value}(af:bj μ x H)(h1:hH μ lo z)(h2:hH μ ag A)(ak:hH μ mx mx')
 (p:mx.isSome=true->ag.isSome=true) (h:oe size x lo ag mx=I v) {t e:aX} {i:TypeInfo} (aO:P.underlying t=I (.slice e)) (M:P.info? e=I i) (aA:i.size=size) (V:0<size):
 ∃v',(wV t H z A mx').run P w=.ok v' w/\bj μ v v':=by
 have key:∀a' n F l h e5,(Tz true n F z A mx').run P w=.ok (l,h,e5) w->
  (wV t (.slice a' n F) z A mx').run P w=.ok (.slice (if e5=l then a' else a'.map (·.add (l*size))) (h-l) (e5-l)) w:=by
  intro a' n F l h e5 an
  simp only[wV,er,eF aO,ed,Instr.slice,an,lq M,aA,ga]
 unfold oe at h
 split at h
 ·rename_i a n c
  simp only[cN]at h
  obtain⟨m,g,B,aE,l,aD,h⟩:=h
  cases af with
  |mg=>
   have aa:(0:Nat)≠et:=by decide
   rw[a1 aa]at g
   rw[a1 aa]at h
   cases h
   obtain⟨e5,an,C,k,D,j⟩:=td (P:=P) (w:=w) (isS:=true) (most':=0) h1 h2 ak p (ca _) g aE aD
   refine⟨_,key _ _ _ _ _ _ an,?_⟩
   have q:m=0:=by omega
   have G:e5=0:=by rcases j with⟨_,_,aM⟩|⟨_,aM⟩<;>omega
   have u:B=0:=by have:=k (ca _);omega
   subst q G u
   have:(if(0:Nat)=l then(none:Option Addr)else none.map λa:Addr=>⟨a.block,a.off+l*size,none⟩)=none:=by split<;>rfl
   have cl:(if(0:Nat)=l then(none:Option Addr)else none.map λa:Addr=>a.add (l*size))=none:=by split<;>rfl
   simp only[Option.map_none]at this cl|-
   rw[this,Nat.zero_sub]
   exact .mg
  |@bO b W K o _ _ cR e N=>
   rcases N with⟨aa,rfl⟩|⟨aa,e_,O⟩
   ·have J:cR≠et:=by omega
    rw[a1 J]at g
    rw[a1 J]at h
    cases h
    obtain⟨e5,an,C,k,D,j⟩:=td (P:=P) (w:=w) (isS:=true) (most':=cR) h1 h2 ak p (ca _) g aE aD
    have Q:e5=m:=by rcases j with⟨_,aH,aM⟩|⟨_,aM⟩<;>omega
    subst Q
    refine⟨_,key _ _ _ _ _ _ an,?_⟩
    have L:e5-l<et:=by omega
    split
    ·exact .bO e (.inl ⟨L,rfl⟩)
    ·simp only[dm,mX]
     exact .bO e (.inl ⟨L,rfl⟩)
   ·subst aa
    rw[aQ rfl]at g
    obtain⟨e5,an,C,k,D,j⟩:=td (P:=P) (w:=w) (isS:=true) (most':=cR) h1 h2 ak p e_ g aE aD
    refine⟨_,key _ _ _ _ _ _ an,?_⟩
    have R:=k (ca _)
    rw[aQ rfl]at h
    rcases j with⟨rfl,aH,aM⟩|⟨aH,rfl⟩
    ·cases h
     simp only[dm,mX]
     by_cases mY:e5=l
     ·rw[aQ mY]
      have:B-l=0:=by omega
      rw[this]
      exact .fc _ _ _
     ·rw[a1 mY]
      exact .bO e (.inr ⟨rfl,by omega,λX=>by
       have y:l*size=0:=by omega
       have Y:l=0:=by rcases Nat.mul_eq_zero.1 y with S|S<;>omega
       have:=O (by omega)
       omega⟩)
    ·cases mx with
     |none=>exact absurd rfl aH
     |some te=>
      simp only[]at h
      split at h
      ·rename_i Z
       cases h
       simp only[dm,mX]
       by_cases mY:e5=l
       ·rw[aQ mY,aQ mY]
        exact .bO e (.inl ⟨by omega,rfl⟩)
       ·rw[a1 mY,a1 mY]
        exact .bO e (.inl ⟨by omega,rfl⟩)
      ·cases h
  |fc T E cR=>
   rw[aQ rfl]at g
   obtain⟨e5,an,C,k,D,j⟩:=td (P:=P) (w:=w) (isS:=true) (most':=cR) h1 h2 ak p (hQ _) g aE aD
   refine⟨_,key _ _ _ _ _ _ an,?_⟩
   have R:=k (ca _)
   have q:m=0:=by omega
   have u:B=0:=by omega
   have y:l=0:=by omega
   subst q u y
   rw[aQ rfl]at h
   have U:(if e5=0 then I E else(I E).map λa=>a.add (0*size))=I E:=by
    split
    ·rfl
    ·rw[mK];rfl
   rw[U,Nat.sub_self]
   rcases j with⟨rfl,aH,aM⟩|⟨aH,aM⟩
   ·cases h
    exact .fc _ _ _
   ·cases mx with
    |none=>exact absurd rfl aH
    |some te=>
     simp only[]at h
     split at h
     ·cases h
      subst aM
      exact .gU _ _
     ·cases h
  |gU T E=>
   have aa:(0:Nat)≠et:=by decide
   rw[a1 aa]at g h
   cases h
   obtain⟨e5,an,C,k,D,j⟩:=td (P:=P) (w:=w) (isS:=true) (most':=0) h1 h2 ak p (ca _) g aE aD
   refine⟨_,key _ _ _ _ _ _ an,?_⟩
   have q:m=0:=by omega
   have G:e5=0:=by rcases j with⟨_,_,aM⟩|⟨_,aM⟩<;>omega
   have u:B=0:=by have:=k (ca _);omega
   have y:l=0:=by omega
   subst q G u y
   exact .gU _ _
 ·cases h
theorem Ud{x b v:Value}{lo c ag e:Option Value}(af:bj μ x b)(h1:hH μ lo c)(h2:hH μ ag e)(h:xe x lo ag=I v)
 {t:aX} (aO:P.underlying t=I .string):(wV t b c e none).run P w=.ok v w/\bj μ v v:=by
 unfold xe at h
 split at h
 ·rename_i s
  cases af
  simp only[cN]at h
  obtain⟨g,aE,l,aD,h⟩:=h
  cases h
  obtain⟨e5,an,_⟩:=td (P:=P) (w:=w) (isS:=false) (n:=s.size) (most':=s.size) (mx:=none) (mx':=none) h1 h2 trivial (by simp) (ca s.size) rfl aE aD
  refine⟨?_,.string _⟩
  simp [wV,eF aO,Instr.slice,an]
 ·cases h
theorem Ue{n size:Nat}{x g v:Value}{lo j ag k mx mx':Option Value}(af:bj μ x g)(h1:hH μ lo j)(h2:hH μ ag k)(ak:hH μ mx mx')
 (p:mx.isSome=true->ag.isSome=true) (h:F' n size x lo ag mx=I v) {t e:aX} {i:TypeInfo} (aO:P.underlying t=I (.array n e)) (q:P.info? e=I i) (aA:i.size=size) (B:n<et):
 ∃v',(wV t g j k mx').run P w=.ok v' w/\bj μ v v':=by
 unfold F' at h
 split at h
 ·cases af with
  |@ptr b c K o e=>
   simp only[cN]at h
   obtain⟨m,u,y,aE,l,aD,h⟩:=h
   cases h
   obtain⟨e5,an,C,D,E,z⟩:=td (P:=P) (w:=w) (isS:=false) (most':=n) h1 h2 ak p (ca _) u aE aD
   have A:e5=m:=by rcases z with⟨_,aH,aM⟩|⟨_,aM⟩<;>omega
   subst A
   refine⟨.slice (I (if e5=l then⟨c,o,none⟩else(⟨c,o,none⟩:Addr).add (l*size))) (y-l) (e5-l),?_,?_⟩
   ·simp only[wV,er,eF aO,ed,zq,ga,an,lq q,aA]
   ·rw[mX]
    split
    ·exact .bO e (.inl ⟨by omega,rfl⟩)
    ·exact .bO e (.inl ⟨by omega,rfl⟩)
 ·cases h
end Go.bB
namespace Go.bB
variable {P : Program} {μ : Ren} {w : World}
theorem KM:∀(l:List Value) (k off:Nat) (cs:Array Value),off+k+l.length<=cs.size->
 (l.zipIdx k).foldl (λcs (p:Value×Nat)=>cs.setIfInBounds (off+p.2) p.1) cs=(cs.toList.take (off+k)++l++cs.toList.drop (off+k+l.length)).toArray
 |[],k,off,cs,_=>by simp
 |x::l,k,off,cs,h=>by
  simp only[kb]at h
  simp only[List.zipIdx_cons,List.foldl_cons]
  rw[KM l (k+1) off _ (by simp;omega)]
  apply l_
  simp only[Array.toList_setIfInBounds,kb]
  have b:off+k<cs.toList.length:=by simp;omega
  apply gn
  intro i
  by_cases h1:i<off+k
  ·rw[eo,cG (by simp;omega),l' (by omega),hj (by omega),eo,cG (by simp;omega),l' h1]
  ·by_cases h2:i=off+k
   ·subst h2
    rw[eo,cG (by simp;omega),l' (by omega),fr b,eo,ma (by simp;omega)]
    simp only[kz]
    rw[show off+k-min (off+k) cs.toList.length=0 from by omega]
    rfl
   ·by_cases ak:i<off+k+1+l.length
    ·rw[cG (by simp;omega),ma (by simp;omega),cG (by simp;omega),ma (by simp;omega)]
     simp only[kz,ir]
     rw[show i-min (off+k) cs.toList.length=(i-min (off+(k+1)) cs.toList.length)+1 from by omega,l9]
    ·rw[ma (by simp;omega),ma (by simp;omega),oZ,oZ,hj (by simp;omega)]
     congr 1
     simp only[dW,kz,ir,kb]
     omega
def Gv(μ:Ren)(place:Nat->Option (Nat×Nat)):List (Nat×Nat×Value)->List (Nat×Value)->Prop
 |[],[]=>True
 |(off,size,v)::bC,(i,v')::b=>place i=I (off,size)/\0<size/\bj μ v v'/\Gv μ place bC b
 |_,_=>False
theorem Gw{place:Nat->Option (Nat×Nat)}:∀{bC:List (Nat×Nat×Value)} {b:List (Nat×Value)} {cells l:List Value} {cs:Array Value},
 Gv μ place bC b->ct μ cells cs.toList->o6 cells bC=I l->∃c,FV place cs b=I c/\ct μ l c.toList
 |[],[],cells,l,cs,_,aa,h=>by cases h;exact⟨cs,rfl,aa⟩
 |[],_::_,_,_,_,aj,_,_=>aj.elim
 |_::_,[],_,_,_,aj,_,_=>aj.elim
 |(off,size,v)::bC,(i,v')::b,cells,l,cs,aj,aa,h=>by
  obtain⟨h1,h2,ak,aH⟩:=aj
  simp only[o6]at h
  split at h
  ·rename_i e
   have ou:=ak.Kz (by omega)
   have av:=ou.length
   have k:cells.length=cs.size:=by have:=aa.length;simpa using this
   have cY:v'.cells.size=size:=by rw[←e.1,av];simp
   have g:v'.cells.zipIdx.foldl (λcs (p:Value×Nat)=>cs.setIfInBounds (off+p.2) p.1) cs=(cs.toList.take off++v'.cells.toList++cs.toList.drop (off+size)).toArray:=by
    rw[←Array.foldl_toList,Array.toList_zipIdx,KM _ 0 off cs (by simp;omega)]
    simp [cY]
   have j:ct μ (cells.take off++kA v++cells.drop (off+size)) (cs.toList.take off++v'.cells.toList++cs.toList.drop (off+size)):=
    ((aa.take off).append ou).append (aa.drop _)
   obtain⟨c,aC,an⟩:=Gw (cs:=(cs.toList.take off++v'.cells.toList++cs.toList.drop (off+size)).toArray) aH j h
   refine⟨c,?_,an⟩
   simp only[FV,h1]
   rw[a1 (by simp [cY];omega)]
   exact(cV (λz=>FV place z b) g).trans aC
  ·cases h
theorem Uf(zero:List Value)(n:Nat):(rep zero n).length=n*zero.length:=by
 induction n with
 |zero=>simp [rep]
 |succ n b=>simp [rep,b,Nat.succ_mul,Nat.add_comm]
theorem z6(zero:Array Value)(n:Nat):((sZ (n*zero.size)).map (zero[·%zero.size]!)).toList=rep zero.toList n:=by
 simp only[Ke,Array.toList_range]
 induction n with
 |zero=>simp [rep]
 |succ n b=>
  have an:fb ((n+1)*zero.size)=fb zero.size++(fb (n*zero.size)).map (zero.size+·):=by
   rw[show(n+1)*zero.size=zero.size+n*zero.size from by rw[Nat.succ_mul,Nat.add_comm],List.range_add]
  rw[an,List.map_append,List.map_map,rep]
  congr 1
  ·apply List.ext_getElem
   ·simp
   ·intro i h1 h2
    have ak:i<zero.size:=by simpa using h1
    simp [Nat.mod_eq_of_lt ak,ak]
  ·rw[←b]
   apply List.map_congr_left
   intro i _
   simp only[Function.comp]
   rw[Nat.add_mod_left]
theorem ct.ot{l:List Value}(h:l.all iv=true):ct μ l l:=ct.zT (λ_=>bj.ot) h
theorem ct.rep{zero:List Value}(h:ct μ zero zero)(n:Nat):ct μ (rep zero n) (rep zero n):=by
 induction n with
 |zero=>exact .nil
 |succ n b=>exact h.append b
theorem Ug{elem:aX}{zero:List Value}{n e c g:Value}{h:aP}{v:Value}{h1:aP}(s:cH P μ h w)(aA:bj μ n e)(aa:bj μ c g)
 (hm:s_ elem zero n c h=I (v,h1)) {t:aX} {i:TypeInfo} {z:Value} (aO:P.underlying t=I (.slice elem)) (ag:P.info? elem=I i) (bq:i.zero=I z)
 (j:z.cells.toList=zero) (k:z.cells.size=i.size) (ae:i.bytes<=16384) (l:zero.all iv=true):
 ∃v' bu μ1,(Instr.makeSlice t e g).run P w=.ok v' bu/\bj μ1 v v'/\cH P μ1 h1 bu/\Ext μ h w μ1 h1 bu:=by
 unfold s_ at hm
 split at hm
 ·rename_i a b
  cases aA
  cases aa
  split at hm
  ·rename_i m
   cases hm
   simp only[da]at m
   have C:P.cellsOf elem=i.size:=by simp [Program.cellsOf,ag]
   have o:((sZ (b.toNat*i.size)).map (z.cells[·%z.cells.size]!)).toList=rep zero b.toNat:=by
    rw[←k,←j]
    exact z6 _ _
   have br:((sZ (b.toNat*i.size)).map (z.cells[·%z.cells.size]!)).size=b.toNat*i.size:=by simp
   have p:e9 P (grow μ h.length w.heap.size 0) 0 (.cells (rep zero b.toNat) elem true) (.cells ((sZ (b.toNat*i.size)).map (z.cells[·%z.cells.size]!)) elem (0,0)):=by
    refine⟨_,_,rfl,?_,?_,λ_=>rfl,by omega⟩
    ·rw[br,Uf,←j]
     simp [k]
    ·rw[o,h6]
     exact(ct.ot l).rep _
   obtain⟨h2,ak⟩:=s.alloc (w0:=w) rfl kf.rfl p
   have q:IntKind.i64.wrap a=a:=by rw[IntKind.wrap_i64];omega
   have u:IntKind.i64.wrap b=b:=by rw[IntKind.wrap_i64];omega
   refine⟨.slice (I ⟨w.heap.size,0,none⟩) a.toNat b.toNat,_,_,?_,.bO (pe _ _ _) (.inl ⟨by unfold et;omega,rfl⟩),h2,ak⟩
   have y:¬((i.bytes:Int)*b>2 ^ 48):=by
    have:(i.bytes:Int)*b<=16384*4294967296:=by
     apply wW<;>omega
    omega
   simp only[Instr.makeSlice,er,eF aO,asInt,uh,ga,ed,q6 ag,q,u]
   have A:((decide (b<0)||decide ((i.bytes:Int)*b>2 ^ 48))||decide (a<0)||decide (a>b))=false:=by
    simp only[Bool.or_eq_false_iff,h7]
    exact⟨⟨⟨by omega,y⟩,by omega⟩,by omega⟩
   rw[A]
   simp only[bg,bd,er,run_askRoom,ed,lq ag]
   by_cases au:b.toNat*i.size=0
   ·rw[aQ au]
    simp only[er,ga,ed,newRow,wX]
    have B:(sZ (b.toNat*i.size)).map (λx=>(#[]:Array Value)[x%(#[]:Array Value).size]!)=(sZ (b.toNat*i.size)).map (z.cells[·%z.cells.size]!):=by
     rw[au];apply l_;simp
    rw[B]
    rfl
   ·rw[a1 au]
    simp only[er,xF ag bq,ga,ed,newRow,wX]
    rfl
  ·cases hm
 ·cases hm
theorem KN{w0 w:World}(e:w0.heap=w.heap)(a:Addr):w0.cell? a=w.cell? a:=by simp only[wR,e]
theorem Gx{size n:Nat}{x i:Value}{h:aP}{l:List Value}(s:cH P μ h w)(af:bj μ x i)(aC:kC size n x h=I l):
 ∃ys:Array Value,(∀w0:World,w0.heap=w.heap->(ob size n i).run P w0=.ok ys w0)/\ct μ l ys.toList/\l.length=n*size:=by
 unfold kC at aC
 split at aC
 ·rename_i a m c
  split at aC
  ·rename_i g
   cases aC
   subst g
   cases af with
   |bO=>exact⟨#[],λw0 _=>by simp [ob,uj,uk],.nil,by simp⟩
   |fc=>exact⟨#[],λw0 _=>by simp [ob,uj,uk],.nil,by simp⟩
   |gU=>exact⟨#[],λw0 _=>by simp [ob,uj,uk],.nil,by simp⟩
  rename_i y
  split at aC
  ·rename_i z
   have br:l.length=n*size:=by
    unfold hV at aC
    split at aC
    ·split at aC
     ·cases aC;simp;omega
     ·cases aC
    ·cases aC
   cases af with
   |@bO b p K o _ _ e5 e _=>
    obtain⟨_,ys,k,aa⟩:=zX s e aC
    have q:ys.length=n*size:=by rw[←k.length,br]
    refine⟨ys.toArray,λw0 t=>?_,k,br⟩
    have:=Kb (P:=P) w0 ⟨p,o,none⟩ ys (λj v u=>by rw[mX,KN t];exact aa j v u)
    rw[q]at this
    simp [ob,this]
   |fc a a' e5=>
    have g:n=0:=by omega
    subst g
    have av:l=[]:=by rw[mK]at br;exact gy br
    subst av
    exact⟨#[],λw0 _=>by simp [ob,uj,uk],.nil,br⟩
   |gU a a'=>
    have g:n=0:=by omega
    subst g
    have av:l=[]:=by rw[mK]at br;exact gy br
    subst av
    exact⟨#[],λw0 _=>by simp [ob,uj,uk],.nil,br⟩
  ·cases aC
 ·cases af with
  |mg=>
   split at aC
   ·rename_i g
    cases aC
    subst g
    exact⟨#[],λw0 _=>rfl,.nil,by simp⟩
   ·cases aC
 ·rename_i st
  cases af
  split at aC
  ·rename_i aa
   cases aC
   refine⟨(st.extract 0 n).data.map λb=>.int .u8 b.toNat,λw0 _=>rfl,?_,?_⟩
   ·rw[Ke]
    refine ct.ot (List.all_eq_true.2 λv aw=>?_)
    obtain⟨b,_,rfl⟩:=List.mem_map.1 aw
    rfl
   ·rw[dn,aa.1,Nat.mul_one]
    have:(st.extract 0 n).size=n:=by rw[ByteArray.size_extract];omega
    exact this
  ·cases aC
 ·cases aC
theorem KO{x b:Value}{m:Nat}(af:bj μ x b)(h:lenOf x=I m):(Builtin.lenOf b).run P w=.ok m w:=by
 unfold lenOf at h
 split at h<;>first
  |(cases h;cases af<;>rfl)
  |cases h
theorem nextslicecap_le{b cap:Nat}(h:cap<b):zr b cap<=2*b+1024:=by
 have bE:∀r c,c<=2*b+1024->Builtin.growBy b r c<=2*b+1024:=by
  intro r
  induction r with
  |zero=>intro c aa;exact aa
  |succ r e=>
   intro c aa
   simp only[Builtin.growBy]
   split
   ·exact aa
   ·exact e _ (by omega)
 unfold zr
 split
 ·omega
 ·split
  ·omega
  ·exact bE 4 cap (by omega)
theorem cH.kill{h:aP}{w bu:World}{b c K:Nat}{blk:h9}{o:Obj}(s:cH P μ h w)(e:μ b=I ⟨c,K⟩)(av:live h b)(p:¬k2 h b)
 (b0:bu.heap[c]?=I o) (q:∀d,d≠c->bu.heap[d]?=w.heap[d]?) (cY:bu.heap.size=w.heap.size) (A:kf w bu) (ae:e9 P (grow μ h.length c K) K blk o):
 cH P (grow μ h.length c K) (h.set b .dead++[blk]) bu/\Ext μ h w (grow μ h.length c K) (h.set b .dead++[blk]) bu:=by
 have br:(h.set b .dead).length=h.length:=ir
 have k:∀bf l,grow μ h.length c K bf=I l->(bf=h.length/\l=⟨c,K⟩)\/(bf<h.length/\μ bf=I l):=by
  intro bf l e'
  unfold grow at e'
  split at e'
  ·rename_i g;cases e';exact .inl ⟨g,rfl⟩
  ·exact .inr ⟨s.cc bf l e',e'⟩
 have t:∀bf,bf<h.length->(h.set b .dead++[blk])[bf]?=if b=bf then I .dead else h[bf]?:=by
  intro bf g
  rw[cG (by rw[br];exact g)]
  split
  ·rename_i m;subst m;rw[fr g]
  ·rename_i m;rw[hj m]
 have j:∀bf,bf<h.length->live (h.set b .dead++[blk]) bf->live h bf/\b≠bf:=by
  rintro bf g ⟨x,af,aA⟩
  rw[t bf g]at af
  split at af
  ·cases af;exact absurd rfl aA
  ·rename_i m;exact⟨⟨x,af,aA⟩,m⟩
 constructor
 ·refine⟨λbf l e'=>?_,λbf l blk' e' g aA=>?_,λcO n u y aD aE fj h1 h2=>?_,λbf l e'=>?_⟩
  ·rcases k bf l e' with⟨au,_⟩|⟨h1,_⟩<;>simp<;>omega
  ·rcases k bf l e' with⟨rfl,rfl⟩|⟨h1,h2⟩
   ·rw[←br,zp]at g
    cases g
    exact⟨o,b0,ae⟩
   ·have i:=j bf h1 ⟨_,g,aA⟩
    rw[t bf h1,a1 i.2]at g
    obtain⟨o',B,C⟩:=s.rel bf l blk' h2 g aA
    have D:l.blk≠c:=λaa=>i.2 (s.inj b bf _ l e h2 aa.symm av i.1)
    exact⟨o',by rw[q _ D];exact B,C.mono (r3 s _ _)⟩
  ·rcases k cO u aD with⟨rfl,rfl⟩|⟨hg,ak⟩<;>rcases k n y aE with⟨rfl,rfl⟩|⟨z,aH⟩
   ·rfl
   ·have:=j n z h2
    exact absurd (s.inj b n _ _ e aH fj av this.1) this.2
   ·have:=j cO hg h1
    exact absurd (s.inj b cO _ _ e ak fj.symm av this.1) this.2
   ·exact s.inj cO n u y ak aH fj (j cO hg h1).1 (j n z h2).1
  ·rw[cY]
   rcases k bf l e' with⟨_,rfl⟩|⟨_,h2⟩
   ·exact s.lt b _ e
   ·exact s.lt bf l h2
 ·refine⟨⟨by simp,λbf g=>?_,by omega,λE _ aA=>q E (λaa=>aA b _ av e aa.symm),λbf l e' an=>q _ (λaa=>?_),λbf an=>?_,λbf l g e'=>?_,λbf g aA i=>aA (j bf g i).1,A⟩,λbf g i=>⟨⟨c,K⟩,by have:=i.lt;simp only[dW,List.length_singleton,ir]at this;unfold grow;rw[aQ (by omega)]⟩⟩
  ·unfold grow;rw[a1 (by omega)]
  ·have:=s.inj bf b l _ e' e aa an.live av
   subst this
   exact p an
  ·rw[t bf an.live.lt,a1]
   rintro rfl
   exact p an
  ·rcases k bf l e' with⟨_,rfl⟩|⟨h1,_⟩
   ·refine .inr ⟨b,_,av,p,e,rfl,λi=>(j b av.lt i).2 rfl⟩
   ·omega
theorem cH.giveUp{h:aP}{b:Nat}(s:cH P μ h w)(n:¬k2 h b):cH P μ (h.set b .dead) w/\Ext μ h w μ (h.set b .dead) w:=by
 have i:∀bf,bf<h.length->(h.set b .dead)[bf]?=if b=bf then I .dead else h[bf]?:=by
  intro bf c
  split
  ·rename_i j;subst j;rw[fr c]
  ·rename_i j;rw[hj j]
 have g:∀bf,live (h.set b .dead) bf->live h bf:=by
  rintro bf ⟨x,af,aA⟩
  have c:bf<h.length:=by have:=(List.getElem?_eq_some_iff.1 af).1;simpa using this
  rw[i bf c]at af
  split at af
  ·cases af;exact absurd rfl aA
  ·exact⟨x,af,aA⟩
 constructor
 ·refine⟨λbf l e=>by rw[ir];exact s.cc bf l e,λbf l blk e c aA=>?_,λcO m o p aD aE fj h1 h2=>s.inj cO m o p aD aE fj (g cO h1) (g m h2),s.lt⟩
  rw[i bf (s.cc bf l e)]at c
  split at c
  ·cases c;exact absurd rfl aA
  ·exact s.rel bf l blk e c aA
 ·refine⟨⟨by simp,λ_ _=>rfl,ca _,λ_ _ _=>rfl,λ_ _ _ _=>rfl,λbf an=>?_,λbf l c e=>absurd (s.cc bf l e) (by omega),λbf _ aA k=>aA (g bf k),kf.rfl⟩,λbf c k=>absurd (g bf k).lt (by omega)⟩
  rw[i bf an.live.lt,a1]
  rintro rfl
  exact n an
theorem Uh{size n m c:Nat}{a':Option Addr}{c0:Value}{ys:Array Value}{elem ty st xt:aX}{i:TypeInfo}{b:TypeDesc}(e:P.underlying st=I (.slice elem))(g:P.underlying xt=I b)(h:∀k,b≠.int k)
 (ag:P.info? elem=I i) (cY:i.size=size) (br:(Builtin.lenOf c0).run P w=.ok m w) (j:(ob size m c0).run P w=.ok ys w) (l:n+m<=c):
 (pY #[st,xt] ty #[.slice a' n c,c0]).run P w=
   (match a' with|some a=>(zo (a.add (n*size)) ys.toList).run P w|none=>.ok () w).andThen λ_ b2=>.ok (.slice a' (n+m) c) b2:=by
 have bq:(b matches .int _)=false:=by cases b<;>first|rfl|exact absurd rfl (h _)
 simp only[pY,wY,jP,l9,er,eF e,eF g,lq ag,cY,ed,ga,bq,bg,bd,br,l,aZ,gp,j]
 cases a' with
 |none=>simp
 |some a=>simp
theorem Ui{size n m b:Nat}{a':Option Addr}{c0:Value}{ys olds:Array Value}{elem ty st xt:aX}{i:TypeInfo}{z:Value}{c:TypeDesc}(e:P.underlying st=I (.slice elem))(g:P.underlying xt=I c)(h:∀k,c≠.int k)
 (ag:P.info? elem=I i) (cY:i.size=size) (bq:i.zero=I z) (j:i.bytes<=16384) (br:(Builtin.lenOf c0).run P w=.ok m w)
 (l:∀w0:World,w0.heap=w.heap->(ob size m c0).run P w0=.ok ys w0) (o:∀w0:World,w0.heap=w.heap->(ob size n (.slice a' n b)).run P w0=.ok olds w0)
 (p:b<n+m) (q:n+m<=da):
 ∃cap,n+m<=cap/\(pY #[st,xt] ty #[.slice a' n b,c0]).run P w=
  .ok (.slice (I ⟨w.heap.size,0,none⟩) (n+m) cap) (w.drew.alloc (.cells (olds++ys++mL z.cells (cap-(n+m))) elem)):=by
 have t:(c matches .int _)=false:=by cases c<;>first|rfl|exact absurd rfl (h _)
 refine⟨(Kf (n+m) b elem).cut (w.tape w.drawn (.appendCap (n+m) b elem)),?_,?_⟩
 ·simp only[Question.cut]
  omega
 ·have C:=nextslicecap_le p
  unfold da at q
  have u:¬(zr (n+m) b*i.bytes>2 ^ 48):=by
   have:zr (n+m) b*i.bytes<=(2*4294967296+1024)*16384:=Nat.mul_le_mul (by omega) j
   omega
  have x:(IntKind.i64.max:Int)=9223372036854775807:=by decide
  have y:¬(((n+m:Nat):Int)>IntKind.i64.max/\(False\/i.bytes=0)):=by rw[x];omega
  have A:(Kf (n+m) b elem).forced=false:=rfl
  have B:({ w with drawn:=w.drawn+1 }:World)=w.drew:=rfl
  simp only[pY,wY,jP,l9,er,eF e,eF g,lq ag,cY,ed,ga,t,bg,bd,br,
   show ¬(n+m<=b)from by omega,q6 ag,gp,aZ]
  rw[a1 y]
  simp only[er,q6 ag,ed]
  rw[a1 u]
  simp only[er,run_choose,A,bg,bd,B,ed,q6 ag,run_askRoom,o w.drew rfl,l w.drew rfl,xF ag bq,newRow,wX,ga]
  rfl
theorem KP{elem:aX}{size m:Nat}{x N:Value}{new:List Value}{ys:Array Value}{h:aP}{v:Value}{h1:aP}(s:cH P μ h w)(af:bj μ x N)
 (ha:mc elem size x m new h=I (v,h1)) {i:TypeInfo} {z:Value} (A:Value->Sem Value) (C:ct μ new ys.toList) (G:new.length=m*size)
 (u:∀(n:Nat) (a':Option Addr) (g:Nat),n+m<=g->(A (.slice a' n g)).run P w=(match a' with|some a=>(zo (a.add (n*size)) ys.toList).run P w|none=>.ok () w).andThen λ_ b2=>.ok (.slice a' (n+m) g) b2)
 (aA:∀(n:Nat) (a':Option Addr) (g:Nat) (olds:Array Value),(∀w0:World,w0.heap=w.heap->(ob size n (.slice a' n g)).run P w0=.ok olds w0)->g<n+m->n+m<=da->
   ∃cap,n+m<=cap/\(A (.slice a' n g)).run P w=.ok (.slice (I ⟨w.heap.size,0,none⟩) (n+m) cap) (w.drew.alloc (.cells (olds++ys++mL z.cells (cap-(n+m))) elem)))
 (ag:P.info? elem=I i) (cY:i.size=size) (bq:i.zero=I z) (aB:z.cells.size=i.size):
 ∃v' bu μ1,(A N).run P w=.ok v' bu/\bj μ1 v v'/\cH P μ1 h1 bu/\Ext μ h w μ1 h1 bu:=by
 have X:P.cellsOf elem=size:=by simp [Program.cellsOf,ag,cY]
 have aC:∀k,(mL z.cells k).size=k*size:=by intro k;simp [mL,aB,cY]
 unfold mc at ha
 split at ha
 ·rename_i a n c
  replace u:=u n
  have aj:m=0->ys=#[]:=by
   rintro rfl
   have h2:=C.length
   rw[G,mK]at h2
   exact l_ (gy h2.symm)
  have al:ys.toList.length=m*size:=by rw[←C.length,G]
  have O:∀{a':Option Addr} {g:Nat},bj μ (.slice a n c) (.slice a' n g)->∀(olds:Array Value) (eL:List Value),(∀w0:World,w0.heap=w.heap->(ob size n (.slice a' n g)).run P w0=.ok olds w0)->ct μ eL olds.toList->
   eL.length=n*size->g<n+m->n+m<=da->∀{H:aP},(H=h\/∃b l,μ b=I l/\live h b/\¬k2 h b/\H=h.set b .dead)->
   ∃v' bu μ1,(A (.slice a' n g)).run P w=.ok v' bu/\bj μ1 (.slice (I ⟨h.length,0,none⟩) (n+m) et) v'/\cH P μ1 (H++[.cells (eL++new) elem true]) bu/\Ext μ h w μ1 (H++[.cells (eL++new) elem true]) bu:=by
   intro a' g _ olds eL Y F Q aD J H aF
   obtain⟨cap,q,bE⟩:=aA n a' g olds Y aD J
   have holds:olds.size=n*size:=by have:=F.length;rw[Q]at this;simpa using this.symm
   have R:ys.size=m*size:=by simpa using al
   have S:∀am,e9 P (grow μ h.length w.heap.size am) cap (.cells (eL++new) elem true) (.cells (olds++ys++mL z.cells (cap-(n+m))) elem (0,0)):=by
    intro am
    refine⟨_,_,rfl,?_,?_,λ_=>rfl,?_⟩
    ·simp [holds,R,Q,G]
    ·simp only[Array.toList_append]
     rw[eo olds.toList,←eo,List.take_append_of_le_length (by simp [holds,R,Q,G]),um (by simp [holds,R,Q,G])]
     exact(F.append C).mono (r3 s _ _)
    ·rw[X]
     simp only[Array.size_append,holds,R,aC]
     rw[←h8,←h8]
     exact Nat.le_of_eq (cV (·*size) (by omega))
   rcases aF with rfl|⟨b,l,aV,aW,aI,rfl⟩
   ·obtain⟨aM,bp⟩:=s.alloc (w0:=w.drew) rfl ⟨rfl,rfl,rfl⟩ (S cap)
    refine⟨_,_,_,bE,.bO (pe _ _ _) (.inr ⟨rfl,q,λ_=>ca _⟩),aM,bp⟩
   ·obtain⟨aJ,N⟩:=s.giveUp aI
    have ao:=S cap
    rw[←ir (i:=b) (a:=h9.dead)]at ao
    obtain⟨aM,bp⟩:=aJ.alloc (w0:=w.drew) rfl ⟨rfl,rfl,rfl⟩ ao
    have ap:=pe (μ:=μ) (h.set b .dead).length w.heap.size cap
    rw[ir]at ap aM bp
    refine⟨_,_,_,bE,.bO ap (.inr ⟨rfl,q,λ_=>ca _⟩),aM,N.trans bp s.cc⟩
  by_cases y:c=et
  ·subst y
   rw[aQ rfl]at ha
   split at ha
   ·rename_i b
    by_cases D:m=0
    ·subst D
     rw[aQ rfl]at ha
     cases ha
     have Z:=aj rfl
     subst Z
     have aY:∀a:Addr,(zo a (#[]:Array Value).toList).run P w=.ok () w:=λa=>rfl
     cases af with
     |@bO _ B K _ _ _ cR e q=>
      rcases q with⟨p,_⟩|⟨_,ab,T⟩
      ·omega
      ·refine⟨_,w,μ,?_,.bO e (.inr ⟨rfl,ab,T⟩),s,Ext.refl _ _ _ s.cc⟩
       rw[u _ _ (by omega)]
       rfl
     |fc L E cR=>
      refine⟨_,w,μ,?_,.fc _ E cR,s,Ext.refl _ _ _ s.cc⟩
      rw[u _ _ (by omega)]
      rfl
    ·rw[a1 D]at ha
     split at ha
     ·rename_i vs t ae
      split at ha
      ·rename_i aa
       cases ha
       obtain⟨aq,jX,rfl,aZ,aK⟩:=aa
       cases af with
       |@bO _ B K _ _ _ cR e q=>
        rcases q with⟨p,_⟩|⟨_,ab,T⟩
        ·omega
        have ar:=T rfl
        obtain⟨o,M,cs,cF,rfl,av,au,aL,U⟩:=s.rel b _ _ e ae (by simp)
        replace M:w.heap[B]?=I (.cells cs t cF):=M
        have aN:=aL rfl
        subst aN
        have aw:live h b:=⟨_,ae,by simp⟩
        have ay:¬k2 h b:=by
         rintro⟨b_,a0,aE⟩
         rw[ae]at aE
         cases aE
        rw[X]at U
        replace U:K*size<=cs.size:=U
        by_cases an:n+m<=cR
        ·
         have aO:(n+m)*size<=cs.size:=lH (Nat.mul_le_mul_right _ (show n+m<=K from lH an ar)) U
         rw[h8]at aO
         have az:=run_storeCells_at (P:=P) B (n*size) t ys.toList 0 cs w M (by omega) (C.xH aK)
         simp only[Nat.add_zero]at az
         have S:e9 P (grow μ h.length B K) K (.cells (vs.take (n*size)++new) t true) (.cells (cs.toList.take (n*size)++ys.toList++cs.toList.drop (n*size+ys.toList.length)).toArray t (0,0)):=by
          have aR:=C.length
          refine⟨_,_,rfl,?_,?_,λ_=>rfl,?_⟩
          ·have h2:ys.size=m*size:=by simpa using al
           simp
           omega
          ·have h2:(vs.take (n*size)++new).length=n*size+ys.toList.length:=by rw[dW,kz,aR];omega
           rw[h2]
           have ak:(cs.toList.take (n*size)++ys.toList++cs.toList.drop (n*size+ys.toList.length)).take (n*size+ys.toList.length)=cs.toList.take (n*size)++ys.toList:=by
            rw[List.take_append_of_le_length (by simp;omega),um (by simp;omega)]
           simp only[List.toList_toArray]
           rw[ak]
           have aH:=(au.take (n*size)).append C
           rw[qT,mb aq]at aH
           exact aH.mono (r3 s _ _)
          ·rw[X]
           simp
           omega
         obtain⟨aM,bp⟩:=cH.kill s e aw ay (Gt M) (λd hd=>xI (Ne.symm hd)) (setRow_size _ _ _) ⟨rfl,rfl,rfl⟩ S
         refine⟨_,_,_,?_,.bO (pe _ _ _) (.inr ⟨rfl,an,λ_=>ar⟩),aM,bp⟩
         rw[u _ _ an]
         simp only[mX,gR,az,ed]
        ·
         exact O (.bO e (.inr ⟨rfl,ab,T⟩)) (cs.toList.take (n*size)).toArray (vs.take (n*size)) (λw0 aS=>by
          have h2:=Kb (P:=P) w0 ⟨B,0,none⟩ (cs.toList.take (n*size)) (λj v ac=>by
           have aT:j<n*size:=by
            have cl:=(List.getElem?_eq_some_iff.1 ac).1
            rw[kz]at cl
            omega
           rw[l' aT]at ac
           rw[mX,KN aS]
           simp only[wR,M,FU,bg,bd,gR]
           simpa using ac)
          rw[show(cs.toList.take (n*size)).length=n*size from by simp;omega]at h2
          simpa [ob]using h2) (by
          have aH:=au.take (n*size)
          rw[qT,mb aq]at aH
          exact aH) (by simp;omega) (by omega) jX (.inr ⟨b,_,e,aw,ay,rfl⟩)
       |fc L E cR=>omega
      ·cases ha
     ·cases ha
   ·cases ha
  ·rw[a1 y]at ha
   split at ha
   ·rename_i V
    split at ha
    ·rename_i a
     rw[de]at ha
     obtain⟨h2,W,ha⟩:=ha
     cases ha
     by_cases D:m=0
     ·subst D
      rw[aQ rfl]at W
      cases W
      have Z:=aj rfl
      subst Z
      cases af with
      |@bO b B K o _ _ cR e q=>
       rcases q with⟨p,rfl⟩|⟨p,_⟩
       ·refine⟨_,w,μ,?_,.bO e (.inl ⟨p,rfl⟩),s,Ext.refl _ _ _ s.cc⟩
        rw[u _ _ V]
        rfl
       ·exact absurd p y
      |fc=>exact absurd rfl y
      |gU L E=>
       refine⟨_,w,μ,?_,.gU _ E,s,Ext.refl _ _ _ s.cc⟩
       rw[u _ _ V]
       rfl
     ·rw[a1 D]at W
      cases af with
      |@bO b B K o _ _ cR e q=>
       rcases q with⟨p,rfl⟩|⟨p,_⟩
       ·obtain⟨cP,aU,aM,bp⟩:=xJ (P:=P) s e C W
        refine⟨_,cP,μ,?_,.bO e (.inl ⟨p,rfl⟩),aM,bp⟩
        rw[u _ _ V]
        simp only[mX,aU,ed]
       ·exact absurd p y
      |fc=>exact absurd rfl y
      |gU L E=>omega
    ·cases af with
     |mg=>
      split at ha
      ·rename_i D
       cases ha
       subst D
       refine⟨_,w,μ,?_,.mg,s,Ext.refl _ _ _ s.cc⟩
       rw[u _ _ (by omega)]
       rfl
      ·cases ha
   ·rename_i V
    split at ha
    ·rename_i J
     rw[de]at ha
     obtain⟨eL,Y,ha⟩:=ha
     cases ha
     obtain⟨olds,holds,F,ad⟩:=Gx s af Y
     cases af with
     |mg=>exact O .mg olds eL holds F ad (by omega) J (.inl rfl)
     |@bO b B K o _ _ cR e q=>
      rcases q with⟨p,rfl⟩|⟨p,_⟩
      ·exact O (.bO e (.inl ⟨p,rfl⟩)) olds eL holds F ad (by omega) J (.inl rfl)
      ·exact absurd p y
     |fc=>exact absurd rfl y
     |gU L E=>exact O (.gU L E) olds eL holds F ad (by omega) J (.inl rfl)
    ·cases ha
 ·cases ha
theorem Uj{elem:aX}{size:Nat}{x b y c0:Value}{h:aP}{v:Value}{h1:aP}(s:cH P μ h w)(af:bj μ x b)(ba:bj μ y c0)
 (ha:rV elem size x y h=I (v,h1)) {ty st xt:aX} {i:TypeInfo} {z:Value} {c:TypeDesc} (e:P.underlying st=I (.slice elem)) (g:P.underlying xt=I c) (j:∀k,c≠.int k)
 (ag:P.info? elem=I i) (cY:i.size=size) (bq:i.zero=I z) (o:z.cells.size=i.size) (p:i.bytes<=16384):
 ∃v' bu μ1,(pY #[st,xt] ty #[b,c0]).run P w=.ok v' bu/\bj μ1 v v'/\cH P μ1 h1 bu/\Ext μ h w μ1 h1 bu:=by
 unfold rV at ha
 simp only[cN]at ha
 obtain⟨m,hm,new,q,ha⟩:=ha
 obtain⟨ys,l,t,u⟩:=Gx s ba q
 have br:=KO (w:=w) (P:=P) ba hm
 exact KP s af ha (λb=>pY #[st,xt] ty #[b,c0]) t u (λn a' A an=>Uh (P:=P) (w:=w) (ty:=ty) (a':=a') e g j ag cY br (l w rfl) an)
  (λn a' A olds B C D=>Ui (P:=P) (w:=w) (ty:=ty) (a':=a') (olds:=olds) e g j ag cY bq p br l B C D) ag cY bq o
theorem Uk{size:Nat}{d p x j v:Value}{h h1:aP}(s:cH P μ h w)(hd:bj μ d p)(af:bj μ x j)(aa:o9 size d x h=I (v,h1))
 {ty k xt elem:aX} {i:TypeInfo} (u:P.underlying k=I (.slice elem)) (ag:P.info? elem=I i) (cY:i.size=size):
 ∃bu,(Builtin.copy_ #[k,xt] ty #[p,j]).run P w=.ok v bu/\bj μ v v/\cH P μ h1 bu/\Ext μ h w μ h1 bu:=by
 unfold o9 at aa
 split at aa
 ·rename_i a n c
  simp only[cN]at aa
  obtain⟨m,hm,new,y,aa⟩:=aa
  obtain⟨ys,z,q,A⟩:=Gx s af y
  have br:=KO (w:=w) (P:=P) af hm
  have l:∀a' t,(Builtin.copy_ #[k,xt] ty #[.slice a' n t,j]).run P w=(match a' with|some a=>(zo a ys.toList).run P w|none=>.ok () w).andThen λ_ b2=>.ok (goInt (fY m n)) b2:=by
   intro a' t
   simp only[Builtin.copy_,wY,jP,l9,er,eF u,lq ag,cY,ed,ga,br,z w rfl]
   cases a' with
   |none=>simp
   |some a=>simp
  have B:fY m n=0->ys=#[]:=by
   intro e
   have h2:=q.length
   rw[A,e,mK]at h2
   exact l_ (gy h2.symm)
  split at aa
  ·rename_i a
   rw[de]at aa
   obtain⟨h2,g,aa⟩:=aa
   cases aa
   by_cases bq:fY m n=0
   ·rw[aQ bq]at g
    cases g
    have ba:=B bq
    subst ba
    cases hd<;>exact⟨w,by rw[l];rfl,.int _ _,s,Ext.refl _ _ _ s.cc⟩
   ·rw[a1 bq]at g
    cases hd with
    |@bO b D K o _ _ cR e E=>
     obtain⟨cP,C,aM,bp⟩:=xJ (P:=P) s e q g
     exact⟨cP,by rw[l];simp only[C,ed];rfl,.int _ _,aM,bp⟩
    |fc=>exact absurd (Nat.le_zero.1 (Nat.min_le_right m 0)) bq
    |gU=>exact absurd (Nat.le_zero.1 (Nat.min_le_right m 0)) bq
  ·cases hd
   split at aa
   ·rename_i bq
    cases aa
    exact⟨w,by rw[l,bq];rfl,.int _ _,s,Ext.refl _ _ _ s.cc⟩
   ·cases aa
 ·cases aa
theorem Ul{x g v:Value}{h h1:aP}(s:cH P μ h w)(af:bj μ x g)
 {ty t elem:aX} {i:TypeInfo} {z:Value} (aO:P.underlying t=I (.slice elem)) (ag:P.info? elem=I i) (bq:i.zero=I z) (aA:z.cells.toList.all iv=true)
 (aa:uM z.cells.toList x h=I (v,h1)):
 ∃bu,(Kh #[t] ty #[g]).run P w=.ok v bu/\bj μ v v/\cH P μ h1 bu/\Ext μ h w μ h1 bu:=by
 unfold uM at aa
 split at aa
 ·cases aa
  cases af
  exact⟨w,by simp [Kh,eF aO];rfl,.undef,s,Ext.refl _ _ _ s.cc⟩
 ·rename_i a n c
  split at aa
  ·rename_i au
   cases aa
   subst au
   refine⟨w,?_,.undef,s,Ext.refl _ _ _ s.cc⟩
   cases af<;>(simp [Kh,eF aO];rfl)
  ·rename_i au
   rw[de]at aa
   obtain⟨h2,j,aa⟩:=aa
   cases aa
   have l:(mL z.cells n).toList=rep z.cells.toList n:=z6 _ _
   cases af with
   |@bO b p K o _ _ cR e q=>
    obtain⟨cP,m,aM,bp⟩:=xJ (P:=P) s e ((ct.ot aA).rep n) j
    refine⟨cP,?_,.undef,aM,bp⟩
    obtain⟨k,rfl⟩:∃k,n=k+1:=⟨n-1,by omega⟩
    simp only[Kh,wY,jP,er,eF aO,ed,zm,typeInfo,ag,bq]
    simp [ag,bq,l,m]
    rfl
   |fc=>exact absurd rfl au
   |gU=>exact absurd rfl au
 ·cases aa
theorem KQ{size m:Nat}{elem:aX}{i:TypeInfo}{z:Value}(ag:P.info? elem=I i)(cY:i.size=size)(bq:i.zero=I z)(b:z.cells.size=i.size)(w0:World):
 (if m*size=0 then pure #[]else do pure (mL (←zm elem).cells m):Sem (Array Value)).run P w0=.ok (mL z.cells m) w0:=by
 split
 ·rename_i au
  have:(mL z.cells m).size=0:=by simp [mL,b,cY,au]
  rw[ahD this]
  rfl
 ·simp only[er,xF ag bq,ed,ga]
theorem Um{size n m b:Nat}{a':Option Addr}{elem ty st xt:aX}{i:TypeInfo}{z:Value}{k:IntKind}(c:P.underlying st=I (.slice elem))(e:P.underlying xt=I (.int k))
 (ag:P.info? elem=I i) (cY:i.size=size) (bq:i.zero=I z) (g:z.cells.size=i.size) (p:i.bytes<=16384) (hm:m<=da) (h:n+m<=b):
 (pY #[st,xt] ty #[.slice a' n b,.int .i64 m]).run P w=
   (match a' with|some a=>(zo (a.add (n*size)) (mL z.cells m).toList).run P w|none=>.ok () w).andThen λ_ b2=>.ok (.slice a' (n+m) b) b2:=by
 unfold da at hm
 have b0:IntKind.i64.wrap (m:Int)=(m:Int):=by simp [IntKind.wrap,wZ,w1];split<;>omega
 have j:¬((m:Int)*(i.bytes:Int)>2 ^ 48):=by
  have h1:(m:Int)*(i.bytes:Int)<=4294967296*16384:=wW (by omega) (by omega) (by omega) (by omega)
  omega
 have l:=KQ (P:=P) (m:=m) ag cY bq g w
 have o:(asInt (.int .i64 (m:Int))).run P w=.ok (m:Int) w:=by simp [asInt,uh]
 simp only[pY,wY,jP,l9,er,eF c,eF e,lq ag,cY,ed,ga,aZ,o,b0]
 rw[a1 (by omega)]
 simp only[er,q6 ag,ed,ga]
 rw[a1 j]
 simp only[ga,ed,lI,h,aZ,e3,bg,bd,er,l]
 cases a' with
 |none=>simp
 |some a=>simp
theorem Un{size n m b:Nat}{a':Option Addr}{olds:Array Value}{elem ty st xt:aX}{i:TypeInfo}{z:Value}{k:IntKind}(c:P.underlying st=I (.slice elem))(e:P.underlying xt=I (.int k))
 (ag:P.info? elem=I i) (cY:i.size=size) (bq:i.zero=I z) (g:z.cells.size=i.size) (h:i.bytes<=16384)
 (j:∀w0:World,w0.heap=w.heap->(ob size n (.slice a' n b)).run P w0=.ok olds w0) (l:b<n+m) (o:n+m<=da):
 ∃cap,n+m<=cap/\(pY #[st,xt] ty #[.slice a' n b,.int .i64 m]).run P w=
  .ok (.slice (I ⟨w.heap.size,0,none⟩) (n+m) cap) (w.drew.alloc (.cells (olds++mL z.cells m++mL z.cells (cap-(n+m))) elem)):=by
 refine⟨(Kf (n+m) b elem).cut (w.tape w.drawn (.appendCap (n+m) b elem)),?_,?_⟩
 ·simp only[Question.cut]
  omega
 ·have C:=nextslicecap_le l
  unfold da at o
  have b0:IntKind.i64.wrap (m:Int)=(m:Int):=by simp [IntKind.wrap,wZ,w1];split<;>omega
  have p:¬((m:Int)*(i.bytes:Int)>2 ^ 48):=by
   have h1:(m:Int)*(i.bytes:Int)<=4294967296*16384:=wW (by omega) (by omega) (by omega) (by omega)
   omega
  have q:¬(zr (n+m) b*i.bytes>2 ^ 48):=by
   have:zr (n+m) b*i.bytes<=(2*4294967296+1024)*16384:=Nat.mul_le_mul (by omega) h
   omega
  have t:(IntKind.i64.max:Int)=9223372036854775807:=by decide
  have u:¬(((n+m:Nat):Int)>IntKind.i64.max/\(True\/i.bytes=0)):=by rw[t];omega
  have x:(Kf (n+m) b elem).forced=false:=rfl
  have y:({ w with drawn:=w.drawn+1 }:World)=w.drew:=rfl
  have A:=KQ (P:=P) (m:=m) ag cY bq g w.drew
  have B:(asInt (.int .i64 (m:Int))).run P w=.ok (m:Int) w:=by simp [asInt,uh]
  simp only[pY,wY,jP,l9,er,eF c,eF e,lq ag,cY,ed,ga,aZ,B,b0]
  rw[a1 (by omega)]
  simp only[er,q6 ag,ed,ga]
  rw[a1 p]
  simp only[ga,ed,lI,show ¬(n+m<=b)from by omega,bd,er,q6 ag]
  rw[a1 u]
  simp only[er,q6 ag,ed]
  rw[a1 q]
  simp only[er,run_choose,x,bg,bd,y,ed,q6 ag,run_askRoom,j w.drew rfl,e3,A,xF ag bq,newRow,wX,ga]
  rfl
theorem Uo{elem:aX}{size:Nat}{zero:List Value}{x b y c0:Value}{h:aP}{v:Value}{h1:aP}(s:cH P μ h w)(af:bj μ x b)(ba:bj μ y c0)
 (ha:uL elem size zero x y h=I (v,h1)) {ty st xt:aX} {i:TypeInfo} {z:Value} {k:IntKind} (e:P.underlying st=I (.slice elem)) (g:P.underlying xt=I (.int k))
 (ag:P.info? elem=I i) (cY:i.size=size) (bq:i.zero=I z) (c:z.cells.size=i.size) (j:i.bytes<=16384) (p:z.cells.toList=zero) (aA:zero.all iv=true):
 ∃v' bu μ1,(pY #[st,xt] ty #[b,c0]).run P w=.ok v' bu/\bj μ1 v v'/\cH P μ1 h1 bu/\Ext μ h w μ1 h1 bu:=by
 unfold uL at ha
 split at ha
 ·rename_i l
  split at ha
  ·rename_i av
   cases ba
   obtain⟨m,rfl⟩:∃m:Nat,l=m:=⟨l.toNat,by omega⟩
   have hm:m<=da:=by omega
   rw[lI]at ha
   have o:(mL z.cells m).toList=rep zero m:=by rw[←p];exact z6 _ _
   refine KP (ys:=mL z.cells m) s af ha (λb=>pY #[st,xt] ty #[b,.int .i64 m]) (by rw[o];exact(ct.ot aA).rep m) ?_
    (λn a' q an=>Um e g ag cY bq c j hm an) (λn a' q olds t an u=>Un e g ag cY bq c j t an u) ag cY bq c
   rw[←o,pW]
   simp [mL,c,cY]
  ·cases ha
 ·cases ha
theorem KR:∀{l:List Value} {c:List UInt8},uR l=I c->∃b:List Int,l=b.map (hG .u8)/\c=b.map λn=>wQ n.toNat
 |[],_,h=>by cases h;exact⟨[],rfl,rfl⟩
 |v::l,c,h=>by
  unfold uR at h
  split at h
  ·rename_i e;cases e
  ·rename_i n r e
   cases e
   rw[de]at h
   obtain⟨g,h',rfl⟩:=h
   obtain⟨b,rfl,rfl⟩:=KR h'
   exact⟨n::b,rfl,rfl⟩
  ·cases h
theorem KS:∀(b:List Int) (s:ByteArray),b.foldl (λr n=>r.push (wQ n.toNat)) s=⟨s.data++(b.map λn=>wQ n.toNat).toArray⟩
 |[],s=>by simp
 |n::b,s=>by
  rw[List.foldl_cons,KS b]
  congr 1
  apply l_
  simp [ByteArray.push]
theorem Up{x m v:Value}{h:aP}(s:cH P μ h w)(af:bj μ x m)(aw:xn x h=I v)
 {src dst e:aX} (az:P.underlying src=I (.slice e)) (he:P.underlying e=I (.int .u8)) (hd:P.underlying dst=I .string):
 (convert src dst m).run P w=.ok v w/\bj μ v v:=by
 unfold xn at aw
 split at aw
 ·rename_i a n c
  split at aw
  ·rename_i t
   subst t
   cases aw
   refine⟨?_,.string _⟩
   cases af<;>
   ·rw[FW w src dst e _ _ _ az he hd,Ki w _ _ _ [] (by simp [uj,uk])]
    rfl
  simp only[cN,de]at aw
  obtain⟨l,av,E,ae,rfl⟩:=aw
  obtain⟨g,rfl,rfl⟩:=KR ae
  refine⟨?_,.string _⟩
  have u:(ByteArray.empty.data++(g.map λn=>wQ n.toNat).toArray)=(g.map λn=>wQ n.toNat).toArray:=by
   apply l_
   simp [ByteArray.empty,ByteArray.emptyWithCapacity]
   rfl
  have i:g.length=n:=by
   unfold hV at av
   split at av
   ·split at av
    ·rename_i e_
     have:=cV (λz=>(z.getD []).length) av
     simp at this
     omega
    ·cases av
   ·cases av
  cases af with
  |@bO b A K o _ _ cR aD F=>
   obtain⟨_,ys,B,aa⟩:=zX s aD av
   have C:ys=g.map (hG .u8):=ct.zV (p:=iv) (λv y h aw=>bj.zU h aw) (List.all_eq_true.2 λv aw=>by obtain⟨n,_,rfl⟩:=List.mem_map.1 aw;rfl) B
   subst C
   have q:=Kb (P:=P) w ⟨A,o,none⟩ (g.map (hG .u8)) (λj v D=>by rw[mX];exact aa j v D)
   rw[dn,i]at q
   rw[FW w src dst e _ _ _ az he hd,Ki w _ _ _ g q,KS,u]
  |fc a a' e5=>
   have k:g=[]:=gy i
   subst k
   rw[FW w src dst e _ _ _ az he hd,Ki w _ _ _ [] (by simp [uj,uk])]
   rfl
  |gU a a'=>
   have k:g=[]:=gy i
   subst k
   rw[FW w src dst e _ _ _ az he hd,Ki w _ _ _ [] (by simp [uj,uk])]
   rfl
 ·cases af
  cases aw
  refine⟨?_,.string _⟩
  rw[FW w src dst e _ _ _ az he hd]
  rfl
 ·cases aw
end Go.bB
namespace Go.bB
variable {P : Program} {μ : Ren} {w : World}
theorem cH.u4{h:aP}(s:cH P μ h w){b c K:Nat}{blk blk':h9}{o':Obj}(e:μ b=I ⟨c,K⟩)(ae:h[b]?=I blk)(hd:blk≠.dead)(q:¬k2 h b)(x:blk'≠.dead)(L:∀vs t,blk'≠.cells vs t false)(y:e9 P μ K blk' o'):
 cH P μ (h.set b blk') (w.putObj c o')/\Ext μ h w μ (h.set b blk') (w.putObj c o'):=by
 have l:live h b:=⟨_,ae,hd⟩
 have aa:c<w.heap.size:=s.lt b _ e
 have z:(w.putObj c o').heap[c]?=I o':=by simp [uo,aa]
 have o:∀k,k≠c->(w.putObj c o').heap[k]?=w.heap[k]?:=λk ad=>by
  simp only[uo]
  rw[w2 (by omega)]
 have cY:(w.putObj c o').heap.size=w.heap.size:=by simp [uo]
 have n:∀bf,live (h.set b blk') bf↔live h bf:=λbf=>KG l x
 refine⟨⟨λbf g e'=>by rw[ir];exact s.cc bf g e',λbf g k e' i aA=>?_,λcO u A B aD aE C D E=>s.inj cO u A B aD aE C ((n cO).1 D) ((n u).1 E),λbf g e'=>by rw[cY];exact s.lt bf g e'⟩,
  ⟨⟨by rw[ir];exact ca _,λ_ _=>rfl,by rw[cY];exact ca _,λg _ aA=>o g (λm=>aA b _ l e m.symm),λbf g e' an=>o _ (λm=>?_),λbf an=>?_,λbf g i e'=>absurd (s.cc bf g e') (by omega),λbf _ aA p=>aA ((n bf).1 p),⟨rfl,rfl,rfl⟩⟩,λbf i p=>absurd ((n bf).1 p).lt (by omega)⟩⟩
 ·by_cases j:b=bf
  ·subst j
   rw[e]at e'
   cases e'
   rw[fr l.lt]at i
   cases i
   exact⟨o',z,y⟩
  ·rw[hj j]at i
   have F:c≠g.blk:=λm=>j (s.inj b bf _ _ e e' m l ⟨_,i,aA⟩)
   obtain⟨G,H,J⟩:=s.rel bf g k e' i aA
   exact⟨G,by rw[o _ (λh=>F h.symm)];exact H,J⟩
 ·have:=s.inj b bf _ _ e e' m.symm l an.live
  subst this
  exact q an
 ·by_cases j:b=bf
  ·subst j;exact absurd an q
  ·exact hj j
theorem z7{k:e4}{x c y c0:Value}{t:Bool}(af:bj μ x c)(ba:bj μ y c0){d:TypeDesc}(hd:lN (I d)=I k)(h:rW k x y=I t):Instr.sameNow d c c0=I t/\c=x/\c0=y:=by
 unfold rW at h
 split at h
 ·split at h
  ·rename_i a b _ _ ad
   cases h
   subst ad
   cases af;cases ba
   cases d<;>simp [lN]at hd
   exact⟨by simp [Instr.sameNow],rfl,rfl⟩
  ·cases h
 ·cases h
  cases af;cases ba
  cases d<;>simp [lN]at hd
  exact⟨rfl,rfl,rfl⟩
 ·cases h
  cases af;cases ba
  cases d<;>simp [lN]at hd
  exact⟨rfl,rfl,rfl⟩
 ·cases h
theorem cH.Uq{h:aP}(s:cH P μ h w){b c K:Nat}{blk:h9}{o':Obj}(e:μ b=I ⟨c,K⟩)(ae:h[b]?=I blk)(hd:blk≠.dead)(n:¬k2 h b):
 cH P μ (h.set b .dead) (w.putObj c o')/\Ext μ h w μ (h.set b .dead) (w.putObj c o'):=by
 have i:live h b:=⟨_,ae,hd⟩
 have aa:c<w.heap.size:=s.lt b _ e
 have m:∀k,k≠c->(w.putObj c o').heap[k]?=w.heap[k]?:=λk ad=>by
  simp only[uo]
  rw[w2 (by omega)]
 have cY:(w.putObj c o').heap.size=w.heap.size:=by simp [uo]
 obtain⟨s1,ay⟩:=s.giveUp n (b:=b)
 have o:¬live (h.set b .dead) b:=by
  rintro⟨blk,h1,h2⟩
  rw[fr i.lt]at h1
  cases h1;exact h2 rfl
 have q:∀bf,live (h.set b .dead) bf->live h bf:=λbf av=>by
  obtain⟨blk,h1,h2⟩:=av
  by_cases p:b=bf
  ·subst p;exact absurd ⟨blk,h1,h2⟩ o
  ·rw[hj p]at h1;exact⟨blk,h1,h2⟩
 refine⟨⟨s1.cc,λbf l k e' j aA=>?_,s1.inj,λbf l e'=>by rw[cY];exact s1.lt bf l e'⟩,⟨⟨ay.le,ay.eL,by rw[cY];exact ca _,λk ad aA=>m k (λg=>aA b _ i e g.symm),λbf l e' an=>m _ (λg=>?_),ay.pc,λbf l j e'=>absurd (s.cc bf l e') (by omega),ay.dead,⟨rfl,rfl,rfl⟩⟩,ay.pd⟩⟩
 ·obtain⟨t,u,x⟩:=s1.rel bf l k e' j aA
  have y:=q bf ⟨_,j,aA⟩
  have z:l.blk≠c:=λg=>by
   have:=s.inj bf b _ _ e' e g y i
   subst this
   exact o ⟨_,j,aA⟩
  exact⟨t,by rw[m _ z];exact u,x⟩
 ·have:=s.inj bf b _ _ e' e g an.live i
  subst this
  exact n an
theorem cH.spare{h:aP}(s:cH P μ h w)(o:Obj):cH P μ h (w.alloc o)/\Ext μ h w μ h (w.alloc o):=
 ⟨⟨s.cc,λb l blk e ae aA=>by obtain⟨o',g,i⟩:=s.rel b l blk e ae aA;exact⟨o',by rw[u2 w o (s.lt b l e)];exact g,i⟩,s.inj,λb l e=>by rw[xK];have:=s.lt b l e;omega⟩,
   ⟨⟨ca _,λ_ _=>rfl,by rw[xK];omega,λc aa _=>u2 w o aa,λb l e _=>u2 w o (s.lt b l e),λ_ _=>rfl,λb l ae e=>absurd (s.cc b l e) (by omega),λ_ _ h=>h,⟨rfl,rfl,rfl⟩⟩,λb ae av=>absurd av.lt (by omega)⟩⟩
theorem KT(a b:ByteArray):(a==b)=true↔a=b:=by
 constructor
 ·intro h
  have h':(a.data==b.data)=true:=h
  have:=eq_of_beq h'
  cases a;cases b
  simp_all
 ·rintro rfl
  show(a.data==a.data)=true
  exact o1 _
theorem Ur{k:e4}{x y:Value}(h:rW k x y=I true):x=y/\iv x=true/\∀n,zs n x x=true:=by
 cases k<;>cases x<;>simp only[rW]at h<;>try (cases h;done)
 all_goals (cases y<;>simp only[rW]at h<;>try (cases h;done))
 ·split at h
  ·rename_i e
   subst e
   simp at h
   subst h
   exact⟨rfl,rfl,λn=>by cases n<;>simp [zs]⟩
  ·cases h
 ·simp at h
  subst h
  exact⟨rfl,rfl,λn=>by cases n<;>simp [zs]⟩
 ·have e:=(KT _ _).1 (jR h)
  subst e
  exact⟨rfl,rfl,λn=>by cases n<;>simp [zs,KT]⟩
theorem KU{k:e4}{x b:Value}{d:TypeDesc}(hd:lN (I d)=I k)(af:bj μ x b):∀{c5:List (Value×Value)} {l:List MapEntry} {r:Option Value} (i:Nat),ct μ (c5.map (·.1)) (l.map (·.key))->ct μ (c5.map (·.2)) (l.map (·.val))->uN k x c5=I r->
 (r=none/\qU d b l i=I none)\/∃v v' j,r=I v/\bj μ v v'/\qU d b l i=I (I (j,v'))
 |[],l,r,i,h1,h2,aC=>by
  cases l with
  |nil=>cases aC;exact .inl ⟨rfl,rfl⟩
  |cons a l=>cases h1
 |(y,v)::c5,l,r,i,h1,h2,aC=>by
  cases l with
  |nil=>cases h1
  |cons a l=>
   simp only[qV]at h1 h2
   cases h1 with
   |cons bt bG=>
    cases h2 with
    |cons m1 m2=>
     unfold uN at aC
     split at aC
     ·rename_i ad
      cases aC
      obtain⟨bH,b1,c8⟩:=z7 af bt hd ad
      exact .inr ⟨v,a.val,i,rfl,m1,by unfold qU;rw[bH]⟩
     ·rename_i ad
      obtain⟨bH,b1,c8⟩:=z7 af bt hd ad
      rcases KU hd af (i+1) bG m2 aC with⟨aD,aE⟩|⟨v1,v2,j,aD,aE,c⟩
      ·exact .inl ⟨aD,by unfold qU;rw[bH];exact aE⟩
      ·exact .inr ⟨v1,v2,j,aD,aE,by unfold qU;rw[bH];exact c⟩
     ·cases aC
theorem KV{k:e4}{x b v v':Value}{d:TypeDesc}(hd:lN (I d)=I k)(af:bj μ x b)(aw:bj μ v v'):∀{c5 c:List (Value×Value)} {l:List MapEntry} (i:Nat),ct μ (c5.map (·.1)) (l.map (·.key))->ct μ (c5.map (·.2)) (l.map (·.val))->uO k x v c5=I c->
 (qU d b l i=I none/\c=c5++[(x,v)])\/∃(j:Nat) (u:Value) (e:MapEntry),qU d b l i=I (I (i+j,u))/\l[j]?=I e/\e.key=b/\iv b=true/\(∀n,zs n b b=true)/\
   ct μ (c.map (·.1)) ((l.modify j λe=>{ e with key:=b,val:=v' }).map (·.key))/\ct μ (c.map (·.2)) ((l.modify j λe=>{ e with key:=b,val:=v' }).map (·.val))
 |[],c,l,i,h1,h2,aC=>by
  cases l with
  |nil=>cases aC;exact .inl ⟨rfl,rfl⟩
  |cons a l=>cases h1
 |(y,u)::c5,c,l,i,h1,h2,aC=>by
  cases l with
  |nil=>cases h1
  |cons a l=>
   simp only[qV]at h1 h2
   cases h1 with
   |cons bt bG=>
    cases h2 with
    |cons m1 m2=>
     unfold uO at aC
     split at aC
     ·rename_i ad
      cases aC
      obtain⟨bH,b1,c8⟩:=z7 af bt hd ad
      obtain⟨h,m,z3⟩:=Ur ad
      have g:iv b=true/\(∀n,zs n b b=true)/\a.key=b:=by
       rw[b1]
       exact⟨m,z3,by rw[c8,h]⟩
      refine .inr ⟨0,a.val,a,by unfold qU;rw[bH];rfl,rfl,g.2.2,g.1,g.2.1,?_,?_⟩
      ·simp only[qV,List.modify_zero_cons]
       exact .cons af bG
      ·simp only[qV,List.modify_zero_cons]
       exact .cons aw m2
     ·rename_i ad
      rw[de]at aC
      obtain⟨q,bs,rfl⟩:=aC
      obtain⟨bH,b1,c8⟩:=z7 af bt hd ad
      rcases KV hd af aw (i+1) bG m2 bs with⟨aD,rfl⟩|⟨j,o,e,aD,aE,p,t,w,z,A⟩
      ·exact .inl ⟨by unfold qU;rw[bH];exact aD,rfl⟩
      ·refine .inr ⟨j+1,o,e,by unfold qU;rw[bH];rw[show i+(j+1)=i+1+j by omega];exact aD,by simpa using aE,p,t,w,?_,?_⟩
       ·simp only[qV,List.modify_succ_cons]
        exact .cons bt z
       ·simp only[qV,List.modify_succ_cons]
        exact .cons m1 A
     ·cases aC
theorem KW{empty:Bool}{n:Nat}{t:aX}{d:TypeDesc}{k:e4}{v:Value}(aO:P.underlying t=I d)(hd:lN (I d)=I k):(Kj empty (n+1) t v).run P w=.ok () w:=by
 unfold Kj
 simp only[er,eF aO,ed]
 cases d<;>simp [lN]at hd<;>simp [ga]
theorem KX{x g:Value}{h:aP}{c5:List (Value×Value)}(s:cH P μ h w)(af:bj μ x g)(hm:uP x h=I c5):
 (x=.map none/\g=.map none/\c5=[])\/∃b c K l clock,x=.map (I b)/\g=.map (I c)/\μ b=I ⟨c,K⟩/\h[b]?=I (.map c5)/\w.heap[c]?=I (.map l clock)/\ct μ (c5.map (·.1)) (l.toList.map (·.key))/\ct μ (c5.map (·.2)) (l.toList.map (·.val)):=by
 unfold uP at hm
 split at hm
 ·cases hm;cases af;exact .inl ⟨rfl,rfl,rfl⟩
 ·rename_i b
  split at hm
  ·rename_i j ae
   cases hm
   cases af with
   |@map _ c K e=>
    obtain⟨o,i,l,clock,rfl,h2,ak⟩:=s.rel b _ _ e ae (by simp)
    exact .inr ⟨b,c,K,l,clock,rfl,rfl,e,ae,i,h2,ak⟩
  ·cases hm
 ·cases hm
theorem Us{k:e4}{zero:Value}{ok:Bool}{x p i m v:Value}{h:aP}(s:cH P μ h w)(af:bj μ x p)(ag:bj μ i m)(av:xl k zero ok x i h=I v)
 {t key elem:aX} {d:TypeDesc} (aO:P.underlying t=I (.map key elem)) (ad:P.underlying key=I d) (hd:lN (I d)=I k) {q:TypeInfo} (y:P.info? elem=I q) (bq:q.zero=I zero) (g:bj μ zero zero):
 ∃v',(Kk t p m ok).run P w=.ok v' w/\bj μ v v':=by
 unfold xl at av
 simp only[cN,de]at av
 obtain⟨c5,hm,r,aC,rfl⟩:=av
 have u:(zm elem).run P w=.ok zero w:=by simp [zm,typeInfo,y,bq]
 have o:∀b,(Kj b 10000 key m).run P w=.ok () w:=λb=>KW (n:=9999) ad hd
 rcases KX s af hm with⟨rfl,rfl,rfl⟩|⟨b,c,K,l,clock,rfl,rfl,e,ae,z,h2,ak⟩
 ·cases aC
  refine⟨if ok then .tuple #[zero,.bool false]else zero,?_,?_⟩
  ·simp only[Kk,er,eF aO,ed,ga,o,FX,eF ad,qU,u]
  ·cases ok
   ·exact g
   ·exact .tuple (.cons g (.cons (.bool _) .nil))
 ·have bE:(getObj c).run P w=.ok (.map l clock) w:=by simp [getObj,Sem.run,z]
  rcases KU hd ag 0 h2 ak aC with⟨rfl,aE⟩|⟨v1,v2,j,rfl,aE,A⟩
  ·refine⟨if ok then .tuple #[zero,.bool false]else zero,?_,?_⟩
   ·simp only[Kk,er,eF aO,ed,ga,bE,o,FX,eF ad,aE,u]
   ·cases ok
    ·exact g
    ·exact .tuple (.cons g (.cons (.bool _) .nil))
  ·refine⟨if ok then .tuple #[v2,.bool true]else v2,?_,?_⟩
   ·simp only[Kk,er,eF aO,ed,ga,bE,o,FX,eF ad,A]
   ·cases ok
    ·exact aE
    ·exact .tuple (.cons aE (.cons (.bool _) .nil))
theorem KY{k:e4}{x p i g v v':Value}{h h1:aP}(s:cH P μ h w)(af:bj μ x p)(ag:bj μ i g)(aw:bj μ v v')(av:uQ k x i v h=I h1)
 {t key elem:aX} {d:TypeDesc} (aO:P.underlying t=I (.map key elem)) (ad:P.underlying key=I d) (hd:lN (I d)=I k):
 ∃bu,(Instr.mapUpdate t p g v').run P w=.ok () bu/\cH P μ h1 bu/\Ext μ h w μ h1 bu:=by
 unfold uQ at av
 split at av
 ·rename_i b
  split at av
  ·rename_i c5 ae
   rw[de]at av
   obtain⟨B,az,rfl⟩:=av
   have q:∀b,(Kj b 10000 key g).run P w=.ok () w:=λb=>KW (n:=9999) ad hd
   cases af with
   |@map _ c K e=>
    obtain⟨o,y,l,clock,rfl,h2,ak⟩:=s.rel b _ _ e ae (by simp)
    have bE:(getObj c).run P w=.ok (.map l clock) w:=by simp [getObj,Sem.run,y]
    have z:∀m,(setObj c m).run P w=.ok () (w.putObj c m):=λm=>by simp [setObj,Sem.run,y,uo]
    have A:¬k2 h b:=by rintro⟨vs,J,aE⟩;rw[ae]at aE;cases aE
    rcases KV hd ag aw 0 h2 ak az with⟨aD,rfl⟩|⟨j,u,jw,aD,aE,C,L,D,E,F⟩
    ·obtain⟨bH,b1⟩:=s.u4 (blk':=.map (c5++[(i,v)])) (o':=.map (l.push { key:=g,val:=v',born:=clock }) (clock+1)) e ae (by simp) A (by simp) (by simp)
      ⟨_,_,rfl,by simpa using h2.append (.cons ag .nil),by simpa using ak.append (.cons aw .nil)⟩
     refine⟨_,?_,bH,b1⟩
     simp only[Instr.mapUpdate,er,eF aO,ed,bE,q,FX,eF ad,aD,ga,z]
    ·obtain⟨bH,b1⟩:=s.u4 (blk':=.map B) (o':=.map (l.modify j λe=>{ e with key:=g,val:=v' }) clock) e ae (by simp) A (by simp) (by simp)
      ⟨_,_,rfl,by simpa using E,by simpa using F⟩
     refine⟨_,?_,bH,b1⟩
     have G:(((l[j]?).map (·.key)).getD g)=g:=by
      have H:l[j]?=I jw:=by simpa using aE
      rw[H]
      simpa using C
     rw[gR]at aD
     simp only[Instr.mapUpdate,er,eF aO,ed,bE,q,FX,eF ad,aD,ga,G,Instr.keyThatStays,D,aZ,gR,z]
  ·cases av
 ·cases av
theorem Ut{h:aP}(s:cH P μ h w){t:aX}:∃bu μ1 v',(Instr.makeMap t none).run P w=.ok v' bu/\bj μ1 (.map (I h.length)) v'/\cH P μ1 (h++[.map []]) bu/\Ext μ h w μ1 (h++[.map []]) bu:=by
 obtain⟨bH,b1⟩:=s.alloc (w0:=w) rfl kf.rfl (K:=0) (blk:=.map []) (o:=.map #[] 0) ⟨_,_,rfl,.nil,.nil⟩
 refine⟨_,_,.map (I w.heap.size),?_,.map (pe h.length w.heap.size 0),bH,b1⟩
 simp only[Instr.makeMap,er,wX,ed,ga]
 rfl
theorem Uu{x g v:Value}{h:aP}(s:cH P μ h w)(af:bj μ x g)(av:xm x h=I v){ty t k e:aX}(aO:P.underlying t=I (.map k e)):
 (wU #[t] ty #[g]).run P w=.ok v w/\bj μ v v:=by
 unfold xm at av
 rw[de]at av
 obtain⟨c5,hm,rfl⟩:=av
 refine⟨?_,.int _ _⟩
 rcases KX s af hm with⟨rfl,rfl,rfl⟩|⟨b,c,K,l,clock,rfl,rfl,e,ae,j,h2,ak⟩
 ·simp [wU,eF aO,goInt]
 ·have i:=h2.length
  simp only[dn,pW]at i
  have bE:(getObj c).run P w=.ok (.map l clock) w:=by simp [getObj,Sem.run,j]
  simp [wU,eF aO,bE,i,goInt]
end Go.bB
namespace Go.bB
variable {P : Program} {μ : Ren} {w : World}
theorem mZ{t:aX}{agg:Bool}{n:Nat}(h:iG P t=I (agg,n)):∃d i,P.underlying t=I d/\P.info? t=I i/\lM d=agg/\i.size=n/\0<n:=by
 unfold iG at h
 split at h
 ·rename_i d i hd ag
  split at h
  ·rename_i au
   cases h
   exact⟨d,i,hd,ag,rfl,rfl,au⟩
  ·cases h
 ·cases h
theorem tf{t:aX}{zero:List Value}(h:pa P t=I zero):∃i z,P.info? t=I i/\i.zero=I z/\z.cells.toList=zero/\zero.all iv=true/\z.cells.size=i.size/\0<i.size/\i.bytes<=16384:=by
 unfold pa at h
 split at h
 ·rename_i i ag
  split at h
  ·rename_i z bq
   split at h
   ·rename_i aa
    cases h
    exact⟨i,z,ag,bq,rfl,aa.1,aa.2.1,aa.2.2.1,aa.2.2.2⟩
   ·cases h
  ·cases h
 ·cases h
theorem KZ{d:TypeDesc}{x:Operand}(h:zK d x=true):∃z,x=.const z/\uT d=I z:=by
 unfold zK at h
 split at h<;>first|exact⟨_,rfl,rfl⟩|cases h
theorem xL{op:BinOp}{neg:Bool}(h:uV op=I neg):op=if neg then .neq else .eql:=by
 cases op<;>simp [uV]at h<;>subst h<;>rfl
theorem K0{d:TypeDesc}{k:p2}{x:Value}(h:Gb d=I k)(ad:F9 k x=true):kindOk d x=true:=by
 cases d<;>simp [Gb]at h<;>subst h<;>cases x<;>simp_all [F9,kindOk]
theorem K1{t:aX}{f:Nat}{b:Field}{agg:Bool}{n:Nat}(h:zN P t f=I (b,agg,n)):
 ∃ey d i,P.underlying t=I (.struct ey)/\ey[f]?=I b/\P.underlying b.type=I d/\P.info? b.type=I i/\lM d=agg/\i.size=n/\0<n:=by
 unfold zN at h
 split at h
 ·rename_i ey c
  split at h
  ·rename_i g aC
   rw[de]at h
   obtain⟨⟨a,m⟩,av,e⟩:=h
   cases e
   obtain⟨d,i,h1,h2,ak,aH,aM⟩:=mZ av
   exact⟨ey,d,i,c,aC,h1,h2,ak,aH,aM⟩
  ·cases h
 ·cases h
theorem Uv{t:aX}{place:Nat->Option (Nat×Nat)}{i:TypeInfo}{z:Value}(h:Gc P t=I place)(ag:P.info? t=I i)(bq:i.zero=I z)(parts:List (Nat×Value)):
 P.built t parts=FV place z.cells parts:=by
 unfold Gc at h
 unfold Program.built
 rw[ag]
 split at h
 ·rename_i n e b
  rw[de]at h
  obtain⟨g,c,rfl⟩:=h
  simp only[b,bq,c]
 ·rename_i ey b
  rw[de]at h
  obtain⟨l,av,rfl⟩:=h
  simp only[b,bq,av]
 ·cases h
def tg(μ:Ren)(e:bJ)(ez:Operand->Value):Prop:=∀x,mV x=true->bj μ (val e x) (ez x)
theorem Gy{place:Nat->Option (Nat×Nat)}{e:bJ}{ez:Operand->Value}(he:tg μ e ez):∀{l:List (Nat×Operand)} {bC:List (Nat×Nat×Operand)},xw place l=I bC->(l.all λx=>mV x.2)=true->
 Gv μ place (mT e bC) (l.map λx=>(x.1,ez x.2))
 |[],bC,h,_=>by cases h;trivial
 |(i,x)::r,bC,h,ad=>by
  simp only[ny,dx]at ad
  unfold xw at h
  split at h
  ·rename_i off size c aj b
   split at h
   ·rename_i au
    cases h
    exact⟨aj,au,he x ad.1,Gy he b ad.2⟩
   ·cases h
  ·cases h
theorem p7{e:bJ}{ez:Operand->Value}(he:tg μ e ez):∀{l:List Operand},kD l=true->ct μ (c6 e l) (l.map ez)
 |[],_=>.nil
 |x::l,h=>by
  simp only[kD,ny,dx]at h
  exact .cons (he x h.1) (p7 he h.2)
theorem Gz{e:bJ}{ez:Operand->Value}(he:tg μ e ez){x:Option Operand}(h:(x.all mV)=true):hH μ (iF e x) (x.map ez):=by
 cases x with
 |none=>trivial
 |some x=>exact he x h
end Go.bB
namespace Go.bB
variable {P : Program} {μ : Ren} {w : World}
def u5(P:Program)(o:Oper)(ez:Operand->Value)(μ:Ren)(h:aP)(w:World)(v:Value)(h1:aP):Prop:=
 ∃v' bu μ1,((jS ez o).run P w=.ok (.value v') bu\/((jS ez o).run P w=.ok .skip bu/\v'=undef))/\bj μ1 v v'/\cH P μ1 h1 bu/\Ext μ h w μ1 h1 bu
def th:fE->Bool
 |.call _ _|.hU _ _=>true
 |_=>false
section
variable {o : Oper} {ez : Operand -> Value} {h : aP} {v : Value} {h1 : aP}
theorem u5.pure(s:cH P μ h w){v':Value}(an:(jS ez o).run P w=.ok (.value v') w)(aw:bj μ v v'):u5 P o ez μ h w v h:=
 ⟨v',w,μ,.inl an,aw,s,Ext.refl _ _ _ s.cc⟩
theorem u5.val{v':Value}{bu:World}{μ1:Ren}(an:(jS ez o).run P w=.ok (.value v') bu)(aw:bj μ1 v v')(s:cH P μ1 h1 bu)(x:Ext μ h w μ1 h1 bu):u5 P o ez μ h w v h1:=
 ⟨v',bu,μ1,.inl an,aw,s,x⟩
end
theorem gA{x:Sem Value}{y:Value}{bu:World}(h:x.run P w=.ok y bu):(do pure (Next.value (←x)):Sem Next).run P w=.ok (.value y) bu:=by
 simp only[er,h,ed,ga]
theorem p8{b:Builtin}{args:Array Operand}{argTypes:Array aX}{dst:Option Tmp}{type:aX}{pos:String}{after:Array Edge}{guard:Option (Nat×Bool)}{ez:Operand->Value}{v:Value}{bu:World}
 (h:(builtin b argTypes type (args.map fun|.const _=>true|_=>false) (args.toList.map ez).toArray).run P w=.ok (.value v) bu):
 (jS ez ⟨dst,.call ⟨.builtin b,args,argTypes⟩,type,pos,after,guard⟩).run P w=.ok (.value v) bu:=by
 have hm:args.map ez=(args.toList.map ez).toArray:=l_ (by simp)
 simp only[jS,resolve,er,ga,ed,invoke]
 rw[hm]
 exact h
theorem u6{l:List Operand}(h:kD l=true){x:Operand}(af:x∈l):mV x=true:=List.all_eq_true.1 h x af
theorem K2{o:Oper}{Q:fE}{e:bJ}{ez:Operand->Value}{h h1:aP}{v:Value}{Γ:Callee}(aa:oi P o.op=I Q)(aA:th Q=false)(he:tg μ e ez)(s:cH P μ h w)
 (ad:c7 Γ Q e h (λv h'=>I (v,h'))=I (v,h1)):u5 P o ez μ h w v h1:=by
 unfold oi at aa
 split at aa
 ·rename_i A
  obtain⟨dst,op,type,pos,after,guard⟩:=o
  simp only at aa A
  have p:∀{x:Operand},x∈op.operands.toList->bj μ (val e x) (ez x):=λaf=>he _ (u6 A af)
  cases op with
  |move x=>
   cases aa
   cases ad
   exact .pure s rfl (p (by simp [ft]))
  |assign x=>
   cases aa
   cases ad
   exact .pure s rfl (p (by simp [ft]))
  |pick c a b=>
   cases aa
   simp only[c7,cN]at ad
   obtain⟨u,j,ad⟩:=ad
   cases ad
   obtain⟨t,aO,aw⟩:=T4 (p (x:=c) (by simp [ft])) (p (x:=a) (by simp [ft])) (p (x:=b) (by simp [ft])) j
   exact .pure s (by simp [jS,aO,asBool]) aw
  |binOp op t x y aZ=>
   have af:=p (x:=x) (by simp [ft])
   have ba:=p (x:=y) (by simp [ft])
   simp only[iV,zL]at aa
   split at aa
   ·cases aa
    simp only[c7,cN]at ad
    obtain⟨u,j,ad⟩:=ad
    cases ad
    obtain⟨an,aw⟩:=KA (P:=P) (w:=w) (t:=t) (X:=x) (Y:=y) af ba j
    exact .pure s (gA an) aw
   ·cases aa
    simp only[c7,cN]at ad
    obtain⟨u,j,ad⟩:=ad
    cases ad
    obtain⟨an,aw⟩:=KA (P:=P) (w:=w) (t:=t) (X:=x) (Y:=y) af ba j
    exact .pure s (gA an) aw
   ·rename_i aO
    rw[de]at aa
    obtain⟨neg,C,aa⟩:=aa
    cases aa
    simp only[c7,cN]at ad
    obtain⟨u,j,ad⟩:=ad
    cases ad
    obtain⟨an,aw⟩:=TO (P:=P) (w:=w) (t:=t) (X:=x) (Y:=y) af ba j aO (xL C)
    exact .pure s (gA an) aw
   ·split at aa
    ·rename_i neg c3 C R
     cases aa
     simp only[c7,cN]at ad
     obtain⟨u,j,ad⟩:=ad
     cases ad
     obtain⟨an,aw⟩:=KF (P:=P) (w:=w) (t:=t) (X:=x) (Y:=y) af ba j R (xL C)
     exact .pure s (gA an) aw
    ·cases aa
   ·split at aa
    ·rename_i neg c3 C R
     cases aa
     simp only[c7,cN]at ad
     obtain⟨u,j,ad⟩:=ad
     cases ad
     obtain⟨an,aw⟩:=KF (P:=P) (w:=w) (t:=t) (X:=x) (Y:=y) af ba j R (xL C)
     exact .pure s (gA an) aw
    ·cases aa
   ·rename_i d _ _ _ _ _ aO
    split at aa
    ·rename_i neg k C q
     split at aa
     ·rename_i S
      cases aa
      simp only[c7,cN]at ad
      obtain⟨u,j,ad⟩:=ad
      cases ad
      obtain⟨z,rfl,bq⟩:=KZ S
      unfold s7 at j
      split at j
      ·rename_i D
       obtain⟨an,_,aw⟩:=KJ (P:=P) (w:=w) (t:=t) (X:=x) (Y:=.const z) af j aO bq (K0 q D) (xL C)
       have T:ez (.const z)=z:=bj.zW (v:=z) (show mV (.const z)=true from u6 A (by simp [ft])) ba
       refine .pure s (gA (x:=do kV op t x (.const z) (ez x) (ez (.const z));lk op t (ez x) (ez (.const z))) ?_) aw
       rw[T]
       exact an rfl
      ·cases j
     ·split at aa
      ·rename_i S
       cases aa
       simp only[c7,cN]at ad
       obtain⟨u,j,ad⟩:=ad
       cases ad
       obtain⟨z,rfl,bq⟩:=KZ S
       unfold s7 at j
       split at j
       ·rename_i D
        obtain⟨_,an,aw⟩:=KJ (P:=P) (w:=w) (t:=t) (X:=.const z) (Y:=y) ba j aO bq (K0 q D) (xL C)
        have T:ez (.const z)=z:=bj.zW (v:=z) (show mV (.const z)=true from u6 A (by simp [ft])) af
        refine .pure s (gA (x:=do kV op t (.const z) y (ez (.const z)) (ez y);lk op t (ez (.const z)) (ez y)) ?_) aw
        rw[T]
        exact an rfl
       ·cases j
      ·cases aa
    ·cases aa
   ·cases aa
  |unOp op t x=>
   cases aa
   simp only[c7,cN]at ad
   obtain⟨u,j,ad⟩:=ad
   cases ad
   obtain⟨an,aw⟩:=T1 (P:=P) (w:=w) (p (x:=x) (by simp [ft])) j
   exact .pure s (by simp [jS,an]) aw
  |convert a0 d x=>
   have af:=p (x:=x) (by simp [ft])
   simp only[iV,zM]at aa
   split at aa
   ·rename_i h2 ak
    cases aa
    simp only[c7,cN]at ad
    obtain⟨u,j,ad⟩:=ad
    cases ad
    obtain⟨an,aw⟩:=T2 (P:=P) (w:=w) af j h2 ak
    exact .pure s (gA an) aw
   ·rename_i h2 ak
    cases aa
    simp only[c7,cN]at ad
    obtain⟨u,j,ad⟩:=ad
    cases ad
    obtain⟨an,aw⟩:=T3 (P:=P) (w:=w) af j h2 ak
    exact .pure s (gA an) aw
   ·rename_i h2 ak
    split at aa
    ·rename_i aH
     cases aa
     simp only[c7,cN]at ad
     obtain⟨u,j,ad⟩:=ad
     cases ad
     obtain⟨an,aw⟩:=Up (P:=P) (w:=w) s af j h2 aH ak
     exact .pure s (gA an) aw
    ·cases aa
   ·cases aa
  |extract x i=>
   cases aa
   simp only[c7,cN]at ad
   obtain⟨u,j,ad⟩:=ad
   cases ad
   obtain⟨v',an,aw⟩:=T5 (P:=P) (w:=w) (p (x:=x) (by simp [ft])) j
   exact .pure s (by simp [jS,an]) aw
  |field t x f=>
   simp only[iV,de]at aa
   obtain⟨⟨ay,agg,n⟩,aC,aa⟩:=aa
   cases aa
   simp only[c7,cN]at ad
   obtain⟨u,j,ad⟩:=ad
   cases ad
   obtain⟨ey,d,i,h1,h2,ak,aH,aM,bp,cl⟩:=K1 aC
   obtain⟨v',an,aw⟩:=T6 (P:=P) (w:=w) (p (x:=x) (by simp [ft])) j h1 h2 rfl ak aH aM bp
   exact .pure s (by simp [jS,an]) aw
  |fieldAddr t x f=>
   simp only[iV,de]at aa
   obtain⟨⟨ay,agg,n⟩,aC,aa⟩:=aa
   cases aa
   simp only[c7,cN]at ad
   obtain⟨u,j,ad⟩:=ad
   cases ad
   obtain⟨ey,d,i,h1,h2,ak,aH,aM,bp,cl⟩:=K1 aC
   obtain⟨v',an,aw⟩:=T9 (P:=P) (w:=w) (p (x:=x) (by simp [ft])) j h1 h2 rfl aH (by omega)
   exact .pure s (by simp [jS,an]) aw
  |indexAddr t x U=>
   have af:=p (x:=x) (by simp [ft])
   have ba:=p (x:=U) (by simp [ft])
   simp only[iV]at aa
   split at aa
   ·rename_i e' aO
    rw[de]at aa
    obtain⟨⟨agg,n⟩,av,aa⟩:=aa
    cases aa
    simp only[c7,cN]at ad
    obtain⟨u,j,ad⟩:=ad
    cases ad
    obtain⟨d,i,h1,h2,ak,aH,aM⟩:=mZ av
    obtain⟨v',an,aw⟩:=T_ (P:=P) (w:=w) af ba j aO h2 aH
    exact .pure s (gA an) aw
   ·rename_i ao e' aO
    rw[de]at aa
    obtain⟨⟨agg,n⟩,av,aa⟩:=aa
    cases aa
    simp only[c7,cN]at ad
    obtain⟨u,j,ad⟩:=ad
    cases ad
    obtain⟨d,i,h1,h2,ak,aH,aM⟩:=mZ av
    obtain⟨v',an,aw⟩:=T' (P:=P) (w:=w) af ba j aO h2 aH
    exact .pure s (gA an) aw
   ·cases aa
  |index t x U=>
   have af:=p (x:=x) (by simp [ft])
   have ba:=p (x:=U) (by simp [ft])
   simp only[iV]at aa
   split at aa
   ·rename_i ao e' aO
    rw[de]at aa
    obtain⟨⟨agg,n⟩,av,aa⟩:=aa
    cases aa
    simp only[c7,cN]at ad
    obtain⟨u,j,ad⟩:=ad
    cases ad
    obtain⟨d,i,h1,h2,ak,aH,aM⟩:=mZ av
    obtain⟨v',an,aw⟩:=T7 (P:=P) (w:=w) af ba j aO h1 h2 ak aH
    exact .pure s (gA an) aw
   ·rename_i aO
    cases aa
    simp only[c7,cN]at ad
    obtain⟨u,j,ad⟩:=ad
    cases ad
    obtain⟨an,aw⟩:=T8 (P:=P) (w:=w) af ba j aO
    exact .pure s (gA an) aw
   ·cases aa
  |nilCheck x=>
   cases aa
   simp only[c7,cN]at ad
   obtain⟨u,j,ad⟩:=ad
   cases ad
   have af:=p (x:=x) (by simp [ft])
   have H:=af
   unfold F_ at j
   split at j
   ·rename_i a ha
    cases j
    rw[ha]at H
    generalize ba:ez x=y at H
    cases H with
    |ptr aD=>exact .pure s (by simp [jS,ba]) (.ptr aD)
   ·rename_i f xs ys ha
    cases j
    rw[ha]at H
    generalize ba:ez x=y at H
    cases H with
    |func f aD aE=>exact .pure s (by simp [jS,ba]) (.func f aD aE)
   ·cases j
  |slice t x lo ag mx=>
   have af:=p (x:=x) (by simp [ft])
   have h1:hH μ (iF e lo) (lo.map ez):=Gz he (by cases lo<;>first|rfl|exact u6 A (by simp [ft]))
   have h2:hH μ (iF e ag) (ag.map ez):=Gz he (by cases ag<;>first|rfl|exact u6 A (by simp [ft]))
   have ak:hH μ (iF e mx) (mx.map ez):=Gz he (by cases mx<;>first|rfl|exact u6 A (by simp [ft]))
   simp only[iV]at aa
   split at aa
   ·rename_i aB
    have ap:(iF e mx).isSome=true->(iF e ag).isSome=true:=by
     intro az
     have:=aB (by cases mx<;>simp_all [iF])
     cases ag<;>simp_all [iF]
    split at aa
    ·rename_i e' aO
     rw[de]at aa
     obtain⟨⟨agg,n⟩,av,aa⟩:=aa
     cases aa
     simp only[c7,cN]at ad
     obtain⟨u,j,ad⟩:=ad
     cases ad
     obtain⟨d,i,aH,aM,bp,cl,J⟩:=mZ av
     obtain⟨v',an,aw⟩:=Uc (P:=P) (w:=w) af h1 h2 ak ap j aO aM cl J
     exact .pure s (gA an) aw
    ·rename_i aO
     split at aa
     ·rename_i aF
      cases aa
      simp only[c7,cN]at ad
      obtain⟨u,j,ad⟩:=ad
      cases ad
      obtain⟨an,aw⟩:=Ud (P:=P) (w:=w) af h1 h2 j aO
      cases mx with
      |none=>exact .pure s (gA an) aw
      |some _=>cases aF
     ·cases aa
    ·rename_i ao e' aO
     split at aa
     ·rename_i aI
      rw[de]at aa
      obtain⟨⟨agg,n⟩,av,aa⟩:=aa
      cases aa
      simp only[c7,cN]at ad
      obtain⟨u,j,ad⟩:=ad
      cases ad
      obtain⟨d,i,aH,aM,bp,cl,J⟩:=mZ av
      obtain⟨v',an,aw⟩:=Ue (P:=P) (w:=w) af h1 h2 ak ap j aO aM cl aI
      exact .pure s (gA an) aw
     ·cases aa
    ·cases aa
   ·cases aa
  |build t parts=>
   simp only[iV]at aa
   split at aa
   ·rename_i z0 place bq aj
    rw[de]at aa
    obtain⟨bC,V,aa⟩:=aa
    cases aa
    simp only[c7,cN]at ad
    obtain⟨l,av,ad⟩:=ad
    cases ad
    obtain⟨i,z,h2,ak,rfl,aM,bp,cl,J⟩:=tf bq
    have u7:=Gy he V (by simpa [kD,ft]using A)
    obtain⟨K,aC,aw⟩:=Gw u7 (ct.ot aM) av
    have ae:=Uv aj h2 ak (parts.toList.map λx=>(x.1,ez x.2))
    rw[aC]at ae
    refine .pure s (v':=.agg K) (gA ?_) (.agg aw)
    refine run_build w t _ K ?_
    simpa using ae
   ·cases aa
  |buildSlice t n parts=>
   simp only[iV]at aa
   split at aa
   ·rename_i e' aO
    split at aa
    ·rename_i z0 agg sz bq av
     split at aa
     ·rename_i aJ
      rw[de]at aa
      obtain⟨bC,V,aa⟩:=aa
      cases aa
      simp only[c7,cN]at ad
      obtain⟨l,aK,ad⟩:=ad
      cases ad
      obtain⟨i,z,h2,ak,rfl,aM,bp,cl,J⟩:=tf bq
      obtain⟨d,O,cE,cD,dE,fe,gr⟩:=mZ av
      rw[h2]at cD
      cases cD
      subst fe
      have u7:=Gy he V (by simpa [kD,ft]using A)
      have aL:((sZ (n*i.size)).map (z.cells[·%z.cells.size]!)).toList=rep z.cells.toList n:=by
       rw[←bp]
       exact z6 _ _
      obtain⟨K,aC,aw⟩:=Gw (cs:=(sZ (n*i.size)).map (z.cells[·%z.cells.size]!)) u7 (by rw[aL];exact(ct.ot aM).rep _) aK
      have br:l.length=K.size:=by simpa using aw.length
      have E:e9 P (grow μ h.length w.heap.size 0) 0 (.cells l e' true) (.cells K e' (0,0)):=
       ⟨_,_,rfl,by omega,by rw[br,um (by simp)];exact aw.mono (r3 s _ _),λ_=>rfl,by omega⟩
      obtain⟨F,G⟩:=s.alloc (w0:=w) rfl kf.rfl E
      have aN:n<et:=by
       have:n<=n*i.size:=Nat.le_mul_of_pos_right _ gr
       unfold et
       omega
      refine .val (gA (run_buildSlice w t e' n _ K i z aO h2 ak (by omega) ?_ ?_)) (.bO (pe _ _ _) (.inl ⟨aN,rfl⟩)) F G
      ·have:0<n*i.size:=Nat.mul_pos aJ.2 gr
       omega
      ·simpa using aC
     ·split at aa
      ·rename_i au
       cases aa
       obtain⟨rfl,aQ⟩:=au
       have aR:parts=#[]:=by
        cases parts with
        |mk l=>cases l with
         |nil=>rfl
         |cons=>cases aQ
       subst aR
       have aS:v=.slice (I ⟨h.length,0,none⟩) 0 0/\h1=h++[.cells [] e' true]:=by
        simp only[c7,rep,mT,o6,Option.bind_some]at ad
        cases ad
        exact⟨rfl,rfl⟩
       obtain⟨rfl,rfl⟩:=aS
       obtain⟨d,O,cE,cD,dE,fe,gr⟩:=mZ av
       have E:e9 P (grow μ h.length w.heap.size 0) 0 (.cells [] e' true) (.cells #[] e' (0,0)):=
        ⟨_,_,rfl,by simp,.nil,λ_=>rfl,by omega⟩
       obtain⟨F,G⟩:=s.alloc (w0:=w) rfl kf.rfl E
       have aT:(Instr.buildSlice t 0 #[]).run P w=.ok (.slice (I ⟨w.heap.size,0,none⟩) 0 0) (w.alloc (.cells #[] e')):=by
        simp [Instr.buildSlice,eF aO,lq cD,newRow,FV]
        have aU:(sZ 0).map (λ_=>(default:Value))=#[]:=ahD (by simp)
        rw[aU]
       exact .val (gA (by simpa using aT)) (.bO (pe _ _ _) (.inl ⟨by decide,rfl⟩)) F G
      ·cases aa
    ·cases aa
   ·cases aa
  |makeFunc fn first nD=>
   cases fn with
   |func f=>
    cases aa
    cases ad
    have h2:kD first.toList=true/\kD nD.toList=true:=by
     simpa [kD,ft]using A
    exact .pure s rfl (.func f (by simpa using p7 he h2.1) (by simpa using p7 he h2.2))
   |_=>cases aa
  |makeMap t r=>
   cases r with
   |some x=>cases aa
   |none=>
    cases aa
    cases ad
    obtain⟨bu,μ1,v',an,aw,az,af⟩:=Ut (P:=P) (w:=w) s (t:=t)
    exact .val (gA an) aw az af
  |lookup t x i ok=>
   have af:=p (x:=x) (by simp [ft])
   have ag:=p (x:=i) (by simp [ft])
   simp only[iV]at aa
   split at aa
   ·rename_i key elem aO
    split at aa
    ·rename_i k a1 ae aV
     split at aa
     ·rename_i z bq
      split at aa
      ·rename_i W
       cases aa
       simp only[c7,cN]at ad
       obtain⟨u,j,ad⟩:=ad
       cases ad
       cases q:P.underlying key with
       |none=>rw[q]at ae;cases ae
       |some d=>
        rw[q]at ae
        obtain⟨v',an,aw⟩:=Us (P:=P) (w:=w) s af ag j aO q ae aV bq (bj.Kx W)
        exact .pure s (gA an) aw
      ·cases aa
     ·cases aa
    ·cases aa
   ·cases aa
  |mapUpdate t m k v=>
   have hm:=p (x:=m) (by simp [ft])
   have D:=p (x:=k) (by simp [ft])
   have Z:=p (x:=v) (by simp [ft])
   simp only[iV]at aa
   split at aa
   ·rename_i key elem aO
    rw[de]at aa
    obtain⟨b,ae,aa⟩:=aa
    cases aa
    simp only[c7,cN]at ad
    obtain⟨u,j,ad⟩:=ad
    cases ad
    cases q:P.underlying key with
    |none=>rw[q]at ae;cases ae
    |some d=>
     rw[q]at ae
     obtain⟨bu,an,az,B⟩:=KY (P:=P) (w:=w) s hm D Z j aO q ae
     exact⟨undef,bu,μ,.inr ⟨by simp [jS,an],rfl⟩,.undef,az,B⟩
   ·cases aa
  |insert t m k v=>
   have hm:=p (x:=m) (by simp [ft])
   have D:=p (x:=k) (by simp [ft])
   have Z:=p (x:=v) (by simp [ft])
   simp only[iV]at aa
   split at aa
   ·rename_i key elem aO
    rw[de]at aa
    obtain⟨b,ae,aa⟩:=aa
    cases aa
    simp only[c7,cN]at ad
    obtain⟨u,j,ad⟩:=ad
    cases ad
    cases q:P.underlying key with
    |none=>rw[q]at ae;cases ae
    |some d=>
     rw[q]at ae
     obtain⟨bu,an,az,B⟩:=KY (P:=P) (w:=w) s hm D Z j aO q ae
     exact⟨undef,bu,μ,.inr ⟨by simp [jS,an],rfl⟩,.undef,az,B⟩
   ·cases aa
  |makeInterface t x=>
   simp only[iV]at aa
   split at aa
   ·cases aa
   ·rename_i d aW aO
    cases aa
    cases ad
    refine .pure s (gA ?_) (.iface t (p (x:=x) (by simp [ft])))
    simp only[Instr.makeInterface,er,eF aO,ed]
    cases d<;>first|rfl|exact absurd rfl (aW _)
   ·cases aa
  |box t x=>
   cases aa
   cases ad
   have af:=(p (x:=x) (by simp [ft])).TL
   have E:e9 P (grow μ h.length w.heap.size 0) 0 (.cells (kA (val e x)) t true) (.cells (ez x).cells t (0,0)):=
    ⟨_,_,rfl,af.1,af.2.mono (r3 s _ _),λ_=>rfl,by omega⟩
   obtain⟨F,G⟩:=s.alloc (w0:=w) rfl kf.rfl E
   refine .val (v':=.pointer (I ⟨w.heap.size,0,none⟩)) (gA ?_) (.ptr (pe _ _ _)) F G
   simp only[Instr.box,newVar,newRow,er,wX,ed,ga]
   rfl
  |alloc t=>
   simp only[iV,de]at aa
   obtain⟨z0,bq,aa⟩:=aa
   cases aa
   cases ad
   obtain⟨i,z,h2,ak,rfl,aM,bp,cl,J⟩:=tf bq
   have E:e9 P (grow μ h.length w.heap.size 0) 0 (.cells z.cells.toList t true) (.cells z.cells t (0,0)):=
    ⟨_,_,rfl,by simp,by rw[um (by simp)];exact ct.ot aM,λ_=>rfl,by omega⟩
   obtain⟨F,G⟩:=s.alloc (w0:=w) rfl kf.rfl E
   refine .val (v':=.pointer (I ⟨w.heap.size,0,none⟩)) (gA ?_) (.ptr (pe _ _ _)) F G
   simp only[Instr.alloc,er,xF h2 ak,newVar,newRow,wX,ed,ga]
   rfl
  |makeSlice t n c=>
   simp only[iV]at aa
   split at aa
   ·rename_i e' aO
    rw[de]at aa
    obtain⟨z0,bq,aa⟩:=aa
    cases aa
    simp only[c7,cN]at ad
    obtain⟨⟨u,h2⟩,j,ad⟩:=ad
    cases ad
    obtain⟨i,z,cD,dE,fe,gr,M,aq,N⟩:=tf bq
    obtain⟨v',bu,μ1,an,aw,az,af⟩:=Ug (P:=P) (w:=w) s (p (x:=n) (by simp [ft])) (p (x:=c) (by simp [ft])) j aO cD dE fe M N gr
    exact .val (gA an) aw az af
   ·cases aa
  |load t x=>
   simp only[iV,de]at aa
   obtain⟨⟨agg,n⟩,av,aa⟩:=aa
   cases aa
   simp only[c7,cN]at ad
   obtain⟨u,j,ad⟩:=ad
   cases ad
   obtain⟨d,i,h1,h2,ak,aH,aM⟩:=mZ av
   obtain⟨v',an,aw⟩:=KI s (p (x:=x) (by simp [ft])) j h1 h2 ak aH
   exact .pure s (by simp [jS,an]) aw
  |store t x y=>
   simp only[iV,de]at aa
   obtain⟨⟨agg,n⟩,av,aa⟩:=aa
   cases aa
   simp only[c7,cN]at ad
   obtain⟨u,j,ad⟩:=ad
   cases ad
   obtain⟨d,i,h1,h2,ak,aH,aM⟩:=mZ av
   obtain⟨b2,an,az,af⟩:=T0 s (p (x:=x) (by simp [ft])) (p (x:=y) (by simp [ft])) j h2 aH aM
   exact⟨undef,b2,μ,.inr ⟨by simp [jS,an],rfl⟩,bj.undef,az,af⟩
  |call c=>
   obtain⟨callee,args,argTypes⟩:=c
   cases callee with
   |value f=>
    cases f with
    |func g=>
     simp only[iV]at aa
     split at aa
     ·cases aa;cases aA
     ·cases aa
    |_=>cases aa;cases aA
   |invoke _ _=>cases aa
   |builtin b=>
    have L:∀{x:Operand},x∈args.toList->bj μ (val e x) (ez x):=λaf=>p (by simpa [ft,FY]using af)
    have ar:kD args.toList=true:=by simpa [kD,ft,FY]using A
    obtain⟨args⟩:=args
    simp only[iV,zO]at aa
    split at aa
    ·rename_i x
     have af:=L (x:=x) (by simp)
     split at aa
     ·rename_i t
      split at aa
      ·rename_i aO
       cases aa
       simp only[c7,cN]at ad
       obtain⟨u,j,ad⟩:=ad
       cases ad
       obtain⟨an,aw⟩:=KK (P:=P) (w:=w) (ty:=type) af j (by simpa using aO)
       exact .pure s (p8 (gA an)) aw
      ·rename_i e' aO
       cases aa
       simp only[c7,cN]at ad
       obtain⟨u,j,ad⟩:=ad
       cases ad
       obtain⟨an,aw⟩:=KK (P:=P) (w:=w) (ty:=type) af j (by simpa using⟨e',aO⟩)
       exact .pure s (p8 (gA an)) aw
      ·rename_i n e' aO
       cases aa
       cases ad
       refine .pure s (v':=.int .i64 n) (p8 (gA ?_)) (.int _ _)
       simp [wU,eF aO,goInt]
      ·rename_i b4 e' aO
       cases aa
       simp only[c7,cN]at ad
       obtain⟨u,j,ad⟩:=ad
       cases ad
       obtain⟨an,aw⟩:=Uu (P:=P) (w:=w) (ty:=type) s af j aO
       exact .pure s (p8 (gA an)) aw
      ·cases aa
     ·cases aa
    ·rename_i x y
     have af:=L (x:=x) (by simp)
     have ba:=L (x:=y) (by simp)
     have key:∀(st xt elem:aX) (ab:TypeDesc) (z0:List Value) (l:Bool×Nat),argTypes=#[st,xt]->P.underlying st=I (.slice elem)->P.underlying xt=I ab->(∀k,ab≠.int k)->pa P elem=I z0->iG P elem=I l->
      ∀u,rV elem l.2 (val e x) (val e y) h=I u->u5 P ⟨dst,.call ⟨.builtin .append,⟨[x,y]⟩,argTypes⟩,type,pos,after,guard⟩ ez μ h w u.1 u.2:=by
      rintro st xt elem ab z0 ⟨agg,n⟩ rfl h1 h2 ak aH aM ⟨ac,al⟩ j
      obtain⟨i,z,cD,dE,fe,gr,M,aq,N⟩:=tf aH
      obtain⟨d,O,bt,bG,cZ,cS,fk⟩:=mZ aM
      rw[cD]at bG
      cases bG
      obtain⟨v',bu,μ1,an,aw,az,B⟩:=Uj (P:=P) (w:=w) (ty:=type) s af ba j h1 h2 ak cD cS dE M N
      exact .val (p8 (gA an)) aw az B
     split at aa
     ·rename_i st xt
      split at aa
      ·rename_i e' a2 h1 h2
       split at aa
       ·rename_i z0 agg n ak aH
        cases aa
        simp only[c7,cN]at ad
        obtain⟨u,j,ad⟩:=ad
        cases ad
        exact key _ _ _ _ _ _ rfl h1 h2 (by simp) ak aH u j
       ·cases aa
      ·rename_i e' h1 h2
       split at aa
       ·rename_i z0 agg n ak aH
        cases aa
        simp only[c7,cN]at ad
        obtain⟨u,j,ad⟩:=ad
        cases ad
        exact key _ _ _ _ _ _ rfl h1 h2 (by simp) ak aH u j
       ·cases aa
      ·rename_i e' b4 h1 h2
       split at aa
       ·rename_i z0 agg n ak aH
        cases aa
        simp only[c7,cN]at ad
        obtain⟨⟨ac,al⟩,j,ad⟩:=ad
        cases ad
        obtain⟨i,z,cD,dE,fe,gr,M,aq,N⟩:=tf ak
        obtain⟨d,O,bt,bG,cZ,cS,fk⟩:=mZ aH
        rw[cD]at bG
        cases bG
        obtain⟨v',bu,μ1,an,aw,az,B⟩:=Uo (P:=P) (w:=w) (ty:=type) s af ba j h1 h2 cD cS dE M N fe gr
        exact .val (p8 (gA an)) aw az B
       ·cases aa
      ·cases aa
     ·cases aa
    ·rename_i x y
     have af:=L (x:=x) (by simp)
     have ba:=L (x:=y) (by simp)
     split at aa
     ·rename_i a3 xt
      split at aa
      ·rename_i e' h1
       rw[de]at aa
       obtain⟨⟨agg,n⟩,av,aa⟩:=aa
       cases aa
       simp only[c7,cN]at ad
       obtain⟨⟨ac,al⟩,j,ad⟩:=ad
       cases ad
       obtain⟨d,O,bt,bG,cZ,cS,fk⟩:=mZ av
       obtain⟨bu,an,aw,az,B⟩:=Uk (P:=P) (w:=w) (ty:=type) (xt:=xt) s af ba j h1 bG cS
       exact .val (p8 (gA an)) aw az B
      ·cases aa
     ·cases aa
    ·rename_i x
     have af:=L (x:=x) (by simp)
     split at aa
     ·rename_i t
      split at aa
      ·rename_i e' h1
       rw[de]at aa
       obtain⟨z0,W,aa⟩:=aa
       cases aa
       simp only[c7,cN]at ad
       obtain⟨⟨ac,al⟩,j,ad⟩:=ad
       cases ad
       obtain⟨i,z,h2,ak,rfl,aM,bp,cl,J⟩:=tf W
       obtain⟨bu,an,aw,az,B⟩:=Ul (P:=P) (w:=w) (ty:=type) s af h1 h2 ak aM j
       exact .val (p8 (gA an)) aw az B
      ·cases aa
     ·cases aa
    ·cases aa
     simp only[c7,cN]at ad
     obtain⟨u,j,ad⟩:=ad
     cases ad
     have am:=p7 he ar
     cases args with
     |nil=>cases j
     |cons x xs=>
      cases am with
      |cons h1 h2=>
       obtain⟨v',an,aw⟩:=Gu (P:=P) (w:=w) (g:=Builtin.max2) (λx y aY c0 v af ba h=>Ua af ba h) h1 h2 j
       refine .pure s (p8 (gA ?_)) aw
       simpa [Builtin.max_]using an
    ·cases aa
     simp only[c7,cN]at ad
     obtain⟨u,j,ad⟩:=ad
     cases ad
     have am:=p7 he ar
     cases args with
     |nil=>cases j
     |cons x xs=>
      cases am with
      |cons h1 h2=>
       obtain⟨v',an,aw⟩:=Gu (P:=P) (w:=w) (g:=Builtin.min2) (λx y aY c0 v af ba h=>Ub af ba h) h1 h2 j
       refine .pure s (p8 (gA ?_)) aw
       simpa [Builtin.min_]using an
    ·cases aa
  |panic x=>cases aa;simp only[c7]at ad;cases ad
  |_=>cases aa
 ·cases aa
end Go.bB
