import Derived.CallsIn
import Derived.OrdersIn
import Derived.KernelRfl
import Derived.Laws.StructEq
import Derived.ChangeKeysEq
import Derived.Laws.Entries
import Derived.Laws.Cells
import Derived.Laws.CopyRow
import Derived.Laws.BitsLemmas
import Derived.Laws.BytesString
import Derived.RangeFuncLeaves
import Derived.RangeFuncRecord
import Derived.Great.BuildSlice
set_option linter.unusedSimpArgs false
set_option linter.unusedVariables false
open Array renaming eq_empty_of_size_eq_zero->akj,ext'->mL,getD_eq_getD_getElem?->nt,getElem?_eq_getElem->lh,getElem?_modify->LM,getElem?_setIfInBounds_ne->x1,length_toList->pL,range->tM,toList_append->LS,toList_map->LQ
open BitVec renaming ofInt->kC
open Bool renaming and_assoc->xQ,and_eq_true->dn,and_true->jT,false_eq_true->bn,not_false->gN,not_true->fg,false->M,true->V
open Go.Builtin renaming append_->qC,clear_->LU,firstCells->oX,len_->xS,nextslicecap->AH,zeroCells->nr
open Go.Call renaming operands->Hp
open Classical renaming byContradiction->qB
open Eq renaming refl->iK
open Go renaming FuncId->dU,TypeId->a1,asIntOf->vd,binOp->lM,eqGuard->lg,execOp->kj,loadCells->vf,loadCellsFrom->vg,run_bytesToString->LV,run_convert_bytes_string->Hn,run_loadCells_list->LN,run_newObj->xX,storeCells->AE,zeroValue->AB
open Go.Instr renaming checkKey->LW,fill->Hm,findKey->Ho,findNow->rF,index->LO,indexAt->LP,lookup->LX,sameBits->AI,sliceAt->xT,sliceBounds->Vy,sureAddr->AG
open Int renaming mul_le_mul->xW,toNat_natCast->mc
open Go.IntKind renaming bits->xZ,signed->x0
open List renaming all_cons->n',append_assoc->eb,drop_drop->vb,eq_nil_of_length_eq_zero->gF,ext_getElem?->fx,foldl_cons->ve,getElem?_append_left->cI,getElem?_append_right->lN,getElem?_concat_length->AF,getElem?_cons_succ->mK,getElem?_cons_zero->ki,getElem?_drop->pK,getElem?_eq_getElem->fJ,getElem?_eq_none->eE,getElem?_set_ne->hP,getElem?_set_self->fK,getElem?_take_of_lt->mb,getElem?_toArray->xY,length_append->dV,length_cons->jS,length_drop->xR,length_map->c9,length_set->iz,length_take->kD,map_cons->me,mem_append->lO,mem_cons->hF,mem_of_getElem?->dN,mem_singleton->hp,prefix_append->Hq,prefix_refl->nu,range->fj,range'->AD,range'_succ->Vx,take_length->iy,take_of_length_le->vh,take_succ_cons->LL,take_take->sx
open Nat renaming add_mul->iL,add_zero->vc,beq->cM,blt->fX,eq_of_beq_eq_true->hW,le_refl->cj,le_trans->ma,lt_of_lt_of_le->h4,min->gn,min_eq_left->ns,zero_add->hh,zero_le->hO,zero_mul->nq
open Ne renaming symm->oa
open Go.Op renaming equalIn->jR,operands->fL
open Option renaming bind_eq_some_iff->cX,bind_some->dy,isSome_none->Hl,map_eq_some_iff->du,map_some->dw,some->y
open Option.some renaming inj->jU,injEq->sw
open Go.Question renaming appendCap->LR
open Go.Region renaming binds->jr,wanted->vj
open Go.Result renaming andThen_ok->et
open Go.Sem renaming run_bind->eN,run_pure->gx
open UInt8 renaming ofNat->xO
open Go.Value renaming int->h5
open Go.World renaming cell?->xP,putObj->vi
namespace Go
theorem jV:type_of% @beq_eq_false_iff_ne:=@beq_eq_false_iff_ne
theorem i':type_of% @beq_iff_eq:=@beq_iff_eq
theorem pN:type_of% @beq_self_eq_true:=@beq_self_eq_true
theorem kl:type_of% @bne_iff_ne:=@bne_iff_ne
theorem mg:type_of% @cond_false:=@cond_false
theorem gG:type_of% @cond_true:=@cond_true
theorem cZ:type_of% @congrArg:=@congrArg
theorem iA:type_of% @decide_eq_false_iff_not:=@decide_eq_false_iff_not
theorem nv:type_of% @decide_eq_true:=@decide_eq_true
theorem eJ:type_of% @decide_eq_true_eq:=@decide_eq_true_eq
theorem c4:type_of% @decide_false:=@decide_false
theorem cr:type_of% @decide_true:=@decide_true
theorem dI:type_of% @eq_false:=@eq_false
theorem kk:type_of% @eq_true:=@eq_true
theorem bh:type_of% @if_false:=@if_false
theorem aW:type_of% @if_neg:=@if_neg
theorem aP:type_of% @if_pos:=@if_pos
theorem a_:type_of% @if_true:=@if_true
theorem h6:type_of% @or_false:=@or_false
end Go
namespace Go.bF
abbrev bP:=Nat->Value
def dR:Value:=.complex .f64 7 7
def eQ:Nat:=1180591620717411303424
def bQ(e:bP)(i:Nat)(v:Value):bP:=λj=>bif cM i j then v else e j
def hr(e:bP)(d:Option Nat)(v:Value):bP:=match d with|some i=>bQ e i v|none=>e
def kn(e:bP):List Nat->bP
 |[]=>e
 |i::r=>bQ (kn e r) i dR
def fM(e:bP):List Nat->List Value->bP
 |[],_=>e
 |i::r,vs=>bQ (fM e r vs.tail) i (vs.headD undef)
def x_(vs:List Value):Nat->Value
 |0=>vs.headD undef
 |k+1=>x_ vs.tail k
def kU:Value->List Value
 |.agg cs=>cs.toList
 |.complex _ _ _=>[]
 |v=>[v]
def iO(b o:Nat):Value:=.pointer (y ⟨b,o,none⟩)
def sD(op:BinOp)(x au:Value):Option Value:=
 match x,au with
 |.int k a,.int k' b=>
  match op with
  |.shl=>if b<0 then none else y (.int k (k.wrap (a*2 ^ (min b.toNat k.bits))))
  |.shr=>if b<0 then none else y (.int k (a.fdiv (2 ^ (min b.toNat k.bits))))
  |op=>
   if k=k' then
    match op with
    |.add=>y (.int k (k.wrap (a+b)))
    |.sub=>y (.int k (k.wrap (a-b)))
    |.mul=>y (.int k (k.wrap (a*b)))
    |.quo=>if b=0 then none else y (.int k (k.wrap (a.tdiv b)))
    |.rem=>if b=0 then none else y (.int k (a.tmod b))
    |.and=>y (.int k (k.wrap (kC k.bits a &&& kC k.bits b).toNat))
    |.or=>y (.int k (k.wrap (kC k.bits a ||| BitVec.ofInt k.bits b).toNat))
    |.xor=>y (.int k (k.wrap (kC k.bits a ^^^ kC k.bits b).toNat))
    |.andNot=>y (.int k (k.wrap (kC k.bits a &&& ~~~(kC k.bits b)).toNat))
    |.eql=>y (.bool (a==b))
    |.neq=>y (.bool (a !=b))
    |.lss=>y (.bool (decide (a<b)))
    |.leq=>y (.bool (decide (a<=b)))
    |.gtr=>y (.bool (decide (a>b)))
    |.geq=>y (.bool (decide (a>=b)))
    |_=>none
   else none
 |.string a,.string b=>
  match op with
  |.add=>if a.size+b.size<=4611686018427387904 then y (.string (a++b))else none
  |.eql=>y (.bool (a.toList==b.toList))
  |.neq=>y (.bool !(a.toList==b.toList))
  |_=>none
 |_,_=>none
def AU(neg:Bool)(x au:Value):Option Value:=
 match x,au with
 |.bool a,.bool b=>y (.bool (neg !=(a==b)))
 |_,_=>none
def x'(neg:Bool)(x:Value):Option Value:=
 match x with
 |.slice none _ _|.pointer none|.nilFunc|.map none|.nilIface=>y (.bool (neg !=V))
 |.slice (y _) _ _|.pointer (y _)|.func _ _ _|.map (y _)|.iface _ _=>y (.bool (neg !=M))
 |_=>none
inductive qH where
 |slice|pointer|map|func|iface
def HA:qH->Value->Bool
 |.slice,.slice ..=>V
 |.pointer,.pointer _=>V
 |.map,.map _=>V
 |.func,.func ..=>V
 |.func,.nilFunc=>V
 |.iface,.iface ..=>V
 |.iface,.nilIface=>V
 |_,_=>M
def vu(k:qH)(neg:Bool)(x:Value):Option Value:=
 match HA k x with
 |true=>x' neg x
 |false=>none
inductive fk where
 |int|bool|str
def hG:List fk->List Value->List Value->Option Bool
 |[],[],[]=>y V
 |.int::dc,.int k a::xs,.int k' b::ys=>if k=k' then(hG dc xs ys).map (λr=>(a==b)&&r)else none
 |.bool::dc,.bool a::xs,.bool b::ys=>(hG dc xs ys).map (λr=>(a==b)&&r)
 |.str::dc,.string a::xs,.string b::ys=>(hG dc xs ys).map (λr=>(a==b)&&r)
 |_,_,_=>none
def ya(dc:List fk)(neg:Bool)(x au:Value):Option Value:=
 match x,au with
 |.agg xs,.agg ys=>(hG dc xs.toList ys.toList).map λr=>.bool (neg !=r)
 |_,_=>none
def AV(op:UnOp)(x:Value):Option Value:=
 match op,x with
 |.neg,.int k n=>y (.int k (k.wrap (0-n)))
 |.not,.bool b=>y (.bool !b)
 |.xor,.int k n=>y (.int k (k.wrap (kC k.bits (if k.signed then -1 else k.max) ^^^ kC k.bits n).toNat))
 |_,_=>none
def AW(x:Value):Option Value:=
 match x with
 |.string s=>y (.string s)
 |_=>none
def AX(k:IntKind)(x:Value):Option Value:=
 match x with
 |.int _ n=>y (.int k (k.wrap n))
 |_=>none
def AY(str:Bool)(x:Value):Option Value:=
 match str,x with
 |true,.string s=>y (.int .i64 s.size)
 |false,.slice _ n _=>y (.int .i64 n)
 |_,_=>none
def vv(c x au:Value):Option Value:=
 match c with
 |.bool b=>y (if b then x else au)
 |_=>none
def yb(x:Value)(i:Nat):Option Value:=
 match x with
 |.tuple vs=>vs[i]?
 |_=>none
def vw(agg:Bool)(off size:Nat)(cs:List Value):Option Value:=
 match agg with
 |true=>if off+size<=cs.length then y (.agg ((cs.drop off).take size).toArray)else none
 |false=>cs[off]?
def AZ(agg:Bool)(off size:Nat)(x:Value):Option Value:=
 match x with
 |.agg cs=>vw agg off size cs.toList
 |_=>none
def yc(n:Nat)(agg:Bool)(size:Nat)(x i:Value):Option Value:=
 match x,i with
 |.agg cs,.int _ j=>if 0<=j/\j<n then vw agg (j.toNat*size) size cs.toList else none
 |_,_=>none
def yd(x i:Value):Option Value:=
 match x,i with
 |.string s,.int _ j=>if 0<=j then(s.data[j.toNat]?).map λb=>.int .u8 b.toNat else none
 |_,_=>none
def vx(off:Nat)(x:Value):Option Value:=
 match x with
 |.pointer (y a)=>y (iO a.block (a.off+off))
 |_=>none
def vy(size:Nat)(x i:Value):Option Value:=
 match x,i with
 |.slice (y a) n _,.int _ j=>if 0<=j/\j<n then y (iO a.block (a.off+j.toNat*size))else none
 |_,_=>none
def vz(n size:Nat)(x i:Value):Option Value:=
 match x,i with
 |.pointer (y a),.int _ j=>if 0<=j/\j<n then y (iO a.block (a.off+j.toNat*size))else none
 |_,_=>none
def HB(x:Value):Option Value:=
 match x with
 |.pointer (y a)=>y (.pointer (y a))
 |.func (.func f) xs ys=>y (.func (.func f) xs ys)
 |_=>none
def il(d:Nat)(x:Option Value)(gO:Nat):Option Nat:=
 match x with
 |none=>y d
 |some (.int _ j)=>if 0<=j/\j<=gO then y j.toNat else none
 |_=>none
def o1(size:Nat)(x:Value)(lo ai mx:Option Value):Option Value:=
 match x with
 |.slice a n c=>
  let gO:=if c=eQ then n else c
  (il gO mx gO).bind λm=>(il n ai m).bind λh=>(il 0 lo h).bind λl=>
    if c=eQ then
     match mx with
     |none=>y (.slice (a.map λa=>⟨a.block,a.off+l*size,none⟩) (h-l) eQ)
     |some _=>if m<eQ then y (.slice (if m=l then a else a.map λa=>⟨a.block,a.off+l*size,none⟩) (h-l) (m-l))else none
    else y (.slice (if m=l then a else a.map λa=>⟨a.block,a.off+l*size,none⟩) (h-l) (m-l))
 |_=>none
def ye(x:Value)(lo ai:Option Value):Option Value:=
 match x with
 |.string s=>(il s.size ai s.size).bind λh=>(il 0 lo h).bind λl=>y (.string (s.extract l h))
 |_=>none
def HC(n size:Nat)(x:Value)(lo ai mx:Option Value):Option Value:=
 match x with
 |.pointer (y a)=>
  (il n mx n).bind λm=>(il n ai m).bind λh=>(il 0 lo h).bind λl=>
    y (.slice (y (if m=l then a else⟨a.block,a.off+l*size,none⟩)) (h-l) (m-l))
 |_=>none
def yf(x au:Value):Option Value:=
 match x,au with
 |.int k a,.int k' b=>if k=k' then y (.int k (if b>a then b else a))else none
 |_,_=>none
def yg(x au:Value):Option Value:=
 match x,au with
 |.int k a,.int k' b=>if k=k' then y (.int k (if b<a then b else a))else none
 |_,_=>none
def vA(f:Value->Value->Option Value)(x:Value):List Value->Option Value
 |[]=>y x
 |au::r=>(f x au).bind λz=>vA f z r
def HD(f:Value->Value->Option Value):List Value->Option Value
 |[]=>none
 |x::r=>vA f x r
def pQ(cells:List Value):List (Nat×Nat×Value)->Option (List Value)
 |[]=>y cells
 |(off,size,v)::r=>
  if(kU v).length=size/\off+size<=cells.length then pQ (cells.take off++kU v++cells.drop (off+size)) r else none
inductive fY where
 |move (x:Operand)
 |pick (c a b:Operand)
 |bin (op:BinOp) (x au:Operand)
 |o2 (neg:Bool) (x au:Operand)
 |isNil (k:qH) (neg:Bool) (x:Operand)
 |od (dc:List fk) (neg:Bool) (x au:Operand)
 |un (op:UnOp) (x:Operand)
 |conv (k:IntKind) (x:Operand)
 |yh (x:Operand)
 |len (str:Bool) (x:Operand)
 |extract (x:Operand) (i:Nat)
 |field (agg:Bool) (off size:Nat) (x:Operand)
 |rJ (n:Nat) (agg:Bool) (size:Nat) (x i:Operand)
 |nw (x i:Operand)
 |fieldAddr (off:Nat) (x:Operand)
 |indexAddr (size:Nat) (x i:Operand)
 |yi (n size:Nat) (x i:Operand)
 |nilCheck (x:Operand)
 |slice (size:Nat) (x:Operand) (lo ai mx:Option Operand)
 |yj (x:Operand) (lo ai:Option Operand)
 |yk (n size:Nat) (x:Operand) (lo ai mx:Option Operand)
 |max (xs:List Operand)
 |min (xs:List Operand)
 |build (zero:List Value) (parts:List (Nat×Nat×Operand))
 |ko (f:dU) (first oe:List Operand)
 |tT (t:a1) (x:Operand)
 |box (elem:a1) (x:Operand)
 |new (elem:a1) (zero:List Value)
 |buildSlice (elem:a1) (zero:List Value) (len:Nat) (parts:List (Nat×Nat×Operand))
 |mkSlice (elem:a1) (zero:List Value) (n c:Operand)
 |load (agg:Bool) (n:Nat) (x:Operand)
 |store (n:Nat) (x v:Operand)
 |append (elem:a1) (size:Nat) (s x:Operand)
 |copy (size:Nat) (d s:Operand)
 |clear (zero:List Value) (x:Operand)
 |vB (elem:a1) (size:Nat) (zero:List Value) (s k:Operand)
 |mkMap
 |lookup (k:fk) (zero:Value) (ok:Bool) (x i:Operand)
 |pR (k:fk) (x i v:Operand)
 |vC (x:Operand)
 |vD (x:Operand)
 |call (f:dU) (args:List Operand)
 |im (f:Operand) (args:List Operand)
 |fail
inductive lk where
 |no
 |calm
 |hH (bH:List (Nat×Nat))
inductive mi where
 |nil
 |op (dst:Option Nat) (o:fY) (ef:lk) (rest:mi)
 |ll (dst:Nat) (c:Nat) (hi:Bool) (tmp:List Nat) (body:mi) (au:Operand) (rest:mi)
inductive ln where
 |skip
 |region (nx:Bool) (s:mi)
 |seq (a b:ln)
 |cond (c:Operand) (mod tmp:List Nat) (a b:ln)
 |block (id:Nat) (mod tmp:List Nat) (c:ln)
 |loop (mod tmp:List Nat) (c:ln)
 |exit (id:Nat)
 |ret
  |jW (g:Operand) (dd bH:List Nat) (assign body:ln)
inductive fN where
 |normal
 |exit (id:Nat)
 |ret
inductive tU where
 |ready|busy|done
inductive iB where
 |cells (vs:List Value) (elem:a1) (rw:Bool)
 |map (df:List (Value×Value))
 |loop (dg:List Value) (dd bH:List Nat) (assign body:ln) (st:tU) (eg:Option fN)
 |dead
abbrev aX:=List iB
def jX(h:aX)(b off n:Nat):Option (List Value):=
 match h[b]? with
 |some (.cells vs _ _)=>if off+n<=vs.length then y ((vs.drop off).take n)else none
 |_=>none
def pS(h:aX)(b off:Nat):Option Value:=
 match h[b]? with
 |some (.cells vs _ _)=>vs[off]?
 |_=>none
def kV:Value->Bool
 |.agg _|.tuple _|.complex _ _ _=>M
 |_=>V
def og(h:aX)(b off:Nat)(l:List Value):Option aX:=
 match h[b]? with
 |some (.cells vs t V)=>if off+l.length<=vs.length/\l.all kV=V then y (h.set b (.cells (vs.take off++l++vs.drop (off+l.length)) t V))else none
 |_=>none
def oh(agg:Bool)(n:Nat)(x:Value)(h:aX):Option Value:=
 match x with
 |.pointer (y a)=>
  match agg with
  |true=>(jX h a.block a.off n).map λl=>.agg l.toArray
  |false=>pS h a.block a.off
 |_=>none
def sE(n:Nat)(x v:Value)(h:aX):Option aX:=
 match x with
 |.pointer (y a)=>if(kU v).length=n then og h a.block a.off (kU v)else none
 |_=>none
def lP(size n:Nat)(x:Value)(h:aX):Option (List Value):=
 match x with
 |.slice (y a) m _=>if n=0 then y []else if n<=m then jX h a.block a.off (n*size)else none
 |.slice none _ _=>if n=0 then y []else none
 |.string s=>if size=1/\n<=s.size then y (((s.extract 0 n).data.toList).map λb=>.int .u8 b.toNat)else none
 |_=>none
def lenOf(x:Value):Option Nat:=
 match x with
 |.slice _ n _=>y n
 |.string s=>y s.size
 |_=>none
def rep(zero:List Value):Nat->List Value
 |0=>[]
 |n+1=>zero++rep zero n
def dp:Nat:=4294967296
def mN(elem:a1)(size:Nat)(s:Value)(m:Nat)(new:List Value)(h:aX):Option (Value×aX):=
 match s with
 |.slice a n c=>
  if c=eQ then
   match a with
   |some ⟨b,0,none⟩=>
    if m=0 then y (.slice (y ⟨b,0,none⟩) n eQ,h)else
    match h[b]? with
    |some (.cells vs t V)=>
     if n*size<=vs.length/\n+m<=dp/\t=elem/\0<n/\new.all kV=V then
      y (.slice (y ⟨h.length,0,none⟩) (n+m) eQ,h.set b .dead++[.cells (vs.take (n*size)++new) elem V])
     else none
    |_=>none
   |_=>none
  else if n+m<=c then
   match a with
   |some a=>(if m=0 then y h else og h a.block (a.off+n*size) new).map λh'=>(.slice (y a) (n+m) c,h')
   |none=>if m=0 then y (.slice none n c,h)else none
  else if n+m<=dp then
   (lP size n s h).map λe1=>(.slice (y ⟨h.length,0,none⟩) (n+m) eQ,h++[.cells (e1++new) elem V])
  else none
 |_=>none
def sF(elem:a1)(size:Nat)(s x:Value)(h:aX):Option (Value×aX):=
 (lenOf x).bind λm=>(lP size m x h).bind λnew=>mN elem size s m new h
def vE(elem:a1)(size:Nat)(zero:List Value)(s k:Value)(h:aX):Option (Value×aX):=
 match k with
 |.int .i64 l=>if 0<=l/\l<=dp then mN elem size s l.toNat (rep zero l.toNat) h else none
 |_=>none
def pT(size:Nat)(d s:Value)(h:aX):Option (Value×aX):=
 match d with
 |.slice a n _=>
  (lenOf s).bind λm=>(lP size (gn m n) s h).bind λnew=>
    match a with
    |some a=>(if gn m n=0 then y h else og h a.block a.off new).map λh'=>(.int .i64 (gn m n),h')
    |none=>if gn m n=0 then y (.int .i64 0,h)else none
 |_=>none
def vF(zero:List Value)(x:Value)(h:aX):Option (Value×aX):=
 match x with
 |.slice none _ _=>y (undef,h)
 |.slice (y a) n _=>if n=0 then y (undef,h)else(og h a.block a.off (rep zero n)).map λh'=>(undef,h')
 |_=>none
def tV(elem:a1)(zero:List Value)(n c:Value)(h:aX):Option (Value×aX):=
 match n,c with
 |.int .i64 n,.int .i64 c=>
  if 0<=n/\n<=c/\c<=dp then y (.slice (y ⟨h.length,0,none⟩) n.toNat c.toNat,h++[.cells (rep zero c.toNat) elem V])else none
 |_,_=>none
def sG(k:fk)(x au:Value):Option Bool:=
 match k,x,au with
 |.int,.int k a,.int k' b=>if k=k' then y (a==b)else none
 |.bool,.bool a,.bool b=>y (a==b)
 |.str,.string a,.string b=>y (a==b)
 |_,_,_=>none
def vG(k:fk)(x:Value):List (Value×Value)->Option (Option Value)
 |[]=>y none
 |(au,v)::r=>match sG k x au with
  |some V=>y (y v)
  |some M=>vG k x r
  |none=>none
def vH(k:fk)(x v:Value):List (Value×Value)->Option (List (Value×Value))
 |[]=>y [(x,v)]
 |(au,aZ)::r=>match sG k x au with
  |some V=>y ((x,v)::r)
  |some M=>(vH k x v r).map λq=>(au,aZ)::q
  |none=>none
def vI(x:Value)(h:aX):Option (List (Value×Value)):=
 match x with
 |.map none=>y []
 |.map (y b)=>match h[b]? with
  |some (.map df)=>y df
  |_=>none
 |_=>none
def yl(k:fk)(zero:Value)(ok:Bool)(x i:Value)(h:aX):Option Value:=
 (vI x h).bind λdf=>(vG k i df).map λr=>
   match r,ok with
   |some v,V=>.tuple #[v,.bool V]
   |some v,M=>v
   |none,V=>.tuple #[zero,.bool M]
   |none,M=>zero
def vJ(k:fk)(x i v:Value)(h:aX):Option aX:=
 match x with
 |.map (y b)=>match h[b]? with
  |some (.map df)=>(vH k i v df).map λq=>h.set b (.map q)
  |_=>none
 |_=>none
def ym(x:Value)(h:aX):Option Value:=(vI x h).map λdf=>.int .i64 df.length
def vK:List Value->Option (List UInt8)
 |[]=>y []
 |.int .u8 n::r=>(vK r).map λl=>xO n.toNat::l
 |_=>none
def yn(x:Value)(h:aX):Option Value:=
 match x with
 |.slice (y a) n _=>if n=0 then y (.string ⟨#[]⟩)else(jX h a.block a.off n).bind λl=>(vK l).map λb=>.string ⟨b.toArray⟩
 |.slice none _ _=>y (.string .empty)
 |_=>none
def val(e:bP):Operand->Value
 |.tmp t=>e t
 |.const v=>v
 |.global _=>dR
 |.func f=>.func (.func f) #[] #[]
def dX:dU:=1152921504606846976
abbrev Callee:=dU->List Value->aX->Option (Value×aX)
section
variable {R : Type}
def o3(Γ:Callee)(f:Value)(args:List Value)(h:aX):Option (Value×aX):=
 match f with
 |.func (.func g) first oe=>bif fX g dX then Γ g (first.toList++args++oe.toList) h else none
 |.func (.yield b) ⟨[]⟩ ⟨[]⟩=>Γ dX (iO b 0::args) h
 |_=>none
def sH(Γ:Callee)(f:Value)(args:List Value)(h:aX):Option (Value×aX):=
 match f with
 |.func (.func g) first oe=>bif fX g dX then Γ g (first.toList++args++oe.toList) h else none
 |_=>none
def dg(e:bP):List Operand->List Value
 |[]=>[]
 |x::r=>val e x::dg e r
def ja(e:bP):Option Operand->Option Value
 |none=>none
 |some x=>y (val e x)
def ny(e:bP):List (Nat×Nat×Operand)->List (Nat×Nat×Value)
 |[]=>[]
 |(i,n,x)::r=>(i,n,val e x)::ny e r
def dh(Γ:Callee)(o:fY)(e:bP)(h:aX)(k:Value->aX->Option R):Option R:=
 match o with
 |.move x=>k (val e x) h
 |.pick c a b=>(vv (val e c) (val e a) (val e b)).bind λv=>k v h
 |.bin op x au=>(sD op (val e x) (val e au)).bind λv=>k v h
 |.o2 neg x au=>(AU neg (val e x) (val e au)).bind λv=>k v h
 |.isNil t neg x=>(vu t neg (val e x)).bind λv=>k v h
 |.od dc neg x au=>(ya dc neg (val e x) (val e au)).bind λv=>k v h
 |.un op x=>(AV op (val e x)).bind λv=>k v h
 |.conv t x=>(AX t (val e x)).bind λv=>k v h
 |.yh x=>(AW (val e x)).bind λv=>k v h
 |.len str x=>(AY str (val e x)).bind λv=>k v h
 |.extract x i=>(yb (val e x) i).bind λv=>k v h
 |.field agg off size x=>(AZ agg off size (val e x)).bind λv=>k v h
 |.rJ n agg size x i=>(yc n agg size (val e x) (val e i)).bind λv=>k v h
 |.nw x i=>(yd (val e x) (val e i)).bind λv=>k v h
 |.fieldAddr off x=>(vx off (val e x)).bind λv=>k v h
 |.indexAddr size x i=>(vy size (val e x) (val e i)).bind λv=>k v h
 |.yi n size x i=>(vz n size (val e x) (val e i)).bind λv=>k v h
 |.nilCheck x=>(HB (val e x)).bind λv=>k v h
 |.slice size x lo ai mx=>(o1 size (val e x) (ja e lo) (ja e ai) (ja e mx)).bind λv=>k v h
 |.yj x lo ai=>(ye (val e x) (ja e lo) (ja e ai)).bind λv=>k v h
 |.yk n size x lo ai mx=>(HC n size (val e x) (ja e lo) (ja e ai) (ja e mx)).bind λv=>k v h
 |.max xs=>(HD yf (dg e xs)).bind λv=>k v h
 |.min xs=>(HD yg (dg e xs)).bind λv=>k v h
 |.build zero parts=>(pQ zero (ny e parts)).bind λl=>k (.agg l.toArray) h
 |.ko f first oe=>k (.func (.func f) (dg e first).toArray (dg e oe).toArray) h
 |.tT t x=>k (.iface t (val e x)) h
 |.box t x=>k (iO h.length 0) (h++[.cells (kU (val e x)) t V])
 |.new t zero=>k (iO h.length 0) (h++[.cells zero t V])
 |.buildSlice t zero n parts=>(pQ (rep zero n) (ny e parts)).bind λl=>k (.slice (y ⟨h.length,0,none⟩) n n) (h++[.cells l t V])
 |.mkSlice t zero n c=>(tV t zero (val e n) (val e c) h).bind λp=>k p.1 p.2
 |.load agg n x=>(oh agg n (val e x) h).bind λv=>k v h
 |.store n x v=>(sE n (val e x) (val e v) h).bind λh'=>k undef h'
 |.append t size s x=>(sF t size (val e s) (val e x) h).bind λp=>k p.1 p.2
 |.copy size d s=>(pT size (val e d) (val e s) h).bind λp=>k p.1 p.2
 |.clear zero x=>(vF zero (val e x) h).bind λp=>k p.1 p.2
 |.vB t size zero s n=>(vE t size zero (val e s) (val e n) h).bind λp=>k p.1 p.2
 |.mkMap=>k (.map (y h.length)) (h++[.map []])
 |.lookup t zero ok x i=>(yl t zero ok (val e x) (val e i) h).bind λv=>k v h
 |.pR t x i v=>(vJ t (val e x) (val e i) (val e v) h).bind λh'=>k undef h'
 |.vC x=>(ym (val e x) h).bind λv=>k v h
 |.vD x=>(yn (val e x) h).bind λv=>k v h
 |.call f args=>(Γ f (dg e args) h).bind λp=>k p.1 p.2
 |.im f args=>(o3 Γ (val e f) (dg e args) h).bind λp=>k p.1 p.2
 |.fail=>none
open Classical in
noncomputable def yo(h h':aX)(m:Option R):Option R:=if h <+: h' then m else none
def yp(s p:Value):Prop:=∃a o,p=.pointer (y ⟨a,o,none⟩)/\((∃x,s=.slice x 0 0)\/∃b o' n c,s=.slice (y ⟨b,o',none⟩) n c/\b≠a)
open Classical in
noncomputable def nz(ef:lk)(e:bP)(h h':aX)(m:Option R):Option R:=
 match ef with
 |.no=>m
 |.calm=>yo h h' m
 |.hH bH=>if ∀p∈bH,yp (e p.1) (e p.2)then m else none
def A0(k:Value->aX->Option R)(b:(Value->aX->Option R)->Option R):Option R:=b k
def sI(k:List Value->aX->Option R)(b:(List Value->aX->Option R)->Option R):Option R:=b k
def A2(v:Value)(hi:Bool)(a b:Option R):Option R:=
 match v with
 |.bool t=>if t=hi then a else b
 |_=>none
def A3(v:Value)(a b:Option R):Option R:=
 match v with
 |.bool t=>if t=V then a else b
 |_=>none
noncomputable def kE(Γ:Callee):mi->(bP->aX->Option R)->bP->aX->Option R
 |.nil,K,e,h=>K e h
 |.op d o ef rest,K,e,h=>dh Γ o e h λv h'=>nz ef e h h' (kE Γ rest K (hr e d v) h')
 |.ll d c hi tmp body au rest,K,e,h=>
  A0 (λv h=>kE Γ rest K (bQ (kn e tmp) d v) h) λj=>
   A2 (e c) hi (kE Γ body (λe' h'=>j (val e' au) h') e h) (j (.bool !hi) h)
def o4(bL:(List Value->aX->Option R)->List Value->aX->Option R):Nat->List Value->aX->Option R
 |0,_,_=>none
 |n+1,vs,h=>bL (o4 bL n) vs h
def getMany(e:bP):List Nat->List Value
 |[]=>[]
 |i::r=>e i::getMany e r
def vL(b:Nat)(h:aX):Option (Option fN):=
 match h[b]? with
 |some (.loop _ _ _ _ _ .ready eg)=>y eg
 |some (.loop _ _ _ _ _ .done eg)=>y eg
 |_=>none
def endRound(b:Nat)(o:fN)(h:aX):Option (Value×aX):=
 match h[b]? with
 |some (.loop dg dd bH c e .busy _)=>match o with
  |.normal=>y (.bool V,h.set b (.loop dg dd bH c e .ready none))
  |.exit i=>y (.bool M,h.set b (.loop dg dd bH c e .done (y (.exit i))))
  |.ret=>y (.bool M,h.set b (.loop dg dd bH c e .done (y .ret)))
 |_=>none
def beginRound(b:Nat)(h:aX):Option aX:=
 match h[b]? with
 |some (.loop dg dd bH c e .ready eg)=>y (h.set b (.loop dg dd bH c e .busy eg))
 |_=>none
noncomputable def hX(Γ:Callee)(n:Nat):ln->(fN->bP->aX->Option R)->bP->aX->Option R
 |.skip,K,e,h=>K .normal e h
 |.region _ s,K,e,h=>kE Γ s (λe h=>K .normal e h) e h
 |.seq a b,K,e,h=>hX Γ n a (λo e h=>match o with|.normal=>hX Γ n b K e h|.exit i=>K (.exit i) e h|.ret=>K .ret e h) e h
 |.cond c mod tmp a b,K,e,h=>
  sI (λvs h=>K .normal (fM (kn e tmp) mod vs) h) λj=>
   A3 (val e c)
    (hX Γ n a (λo e h=>match o with|.normal=>j (getMany e mod) h|.exit i=>K (.exit i) e h|.ret=>K .ret e h) e h)
    (hX Γ n b (λo e h=>match o with|.normal=>j (getMany e mod) h|.exit i=>K (.exit i) e h|.ret=>K .ret e h) e h)
 |.block id mod tmp c,K,e,h=>
  sI (λvs h=>K .normal (fM (kn e tmp) mod vs) h) λj=>
   hX Γ n c (λo e h=>match o with
    |.normal=>j (getMany e mod) h
    |.exit i=>bif cM i id then j (getMany e mod) h else K (.exit i) e h
    |.ret=>K .ret e h) e h
 |.loop mod tmp c,K,e,h=>
  o4 (λcont vs h=>hX Γ n c (λo e h=>match o with|.normal=>cont (getMany e mod) h|.exit i=>K (.exit i) e h|.ret=>K .ret e h) (fM (kn e tmp) mod vs) h) n (getMany e mod) h
 |.exit i,K,e,h=>K (.exit i) e h
 |.ret,K,e,h=>K .ret e h
 |.jW g dd bH k l,K,e,h=>
  (sH Γ (val e g) [.func (.yield h.length) ⟨[]⟩ ⟨[]⟩] (h++[.loop (getMany e dd) dd bH k l .ready none])).bind λp=>
    (vL h.length p.2).bind λo=>match o with
      |none=>K .normal e (p.2.set h.length .dead)
      |some x=>K x e (p.2.set h.length .dead)
inductive tW where
 |tmp (t:Nat)
 |cell (t:Nat) (agg:Bool) (n:Nat)
structure rK where
 oi:Nat
 ntmps:Nat
 code:ln
 results:List tW
def pU:List tW->bP->aX->(List Value->Option R)->Option R
 |[],_,_,k=>k []
 |.tmp t::r,e,h,k=>pU r e h λvs=>k (e t::vs)
 |.cell t agg n::r,e,h,k=>(oh agg n (e t) h).bind λv=>pU r e h λvs=>k (v::vs)
def single:List Value->Value
 |[v]=>v
 |vs=>.tuple vs.toArray
end
def iP:Value->Bool
 |.bool _|.int _ _|.string _|.pointer none|.slice none 0 0|.map none|.nilFunc|.nilIface=>V
 |_=>M
def yq:Value->Bool
 |.agg cs=>cs.toList.all iP
 |.iface _ v=>iP v
 |v=>iP v
def yr:Value->Bool
 |.tuple vs=>vs.toList.all yq
 |v=>yq v
noncomputable def gc(r:Value)(h h':aX):aX:=h'
def yt(args:List Value):bP:=λi=>args.getD i undef
noncomputable def rL(Γ:Callee)(n:Nat)(F:rK)(args:List Value)(h:aX):Option (Value×aX):=
 bif cM args.length F.oi then
  hX Γ n F.code (λo e h'=>match o with
   |.normal=>pU F.results e h' λvs=>y (single vs,gc (single vs) h h')
   |.ret=>pU F.results e h' λvs=>y (single vs,gc (single vs) h h')
   |.exit _=>none) (yt args) h
 else none
noncomputable def qI(Γ:Callee)(n:Nat)(args:List Value)(h:aX):Option (Value×aX):=
 match args with
 |.pointer (y ⟨b,0,none⟩)::vs=>
  match h[b]? with
  |some (.loop dg dd bH c g .ready _)=>
   bif cM vs.length bH.length then
    hX Γ n c (λo e h1=>match o with
     |.normal=>(beginRound b h1).bind λh2=>hX Γ n g (λo _ ak=>endRound b o ak) e h2
     |_=>none) (fM (fM (λ_=>dR) dd dg) bH vs) h
   else none
  |_=>none
 |_=>none
abbrev jF:=List (dU×rK)
def jF.get(T:jF)(f:dU):Option rK:=
 match T with
 |[]=>none
 |(g,F)::r=>bif cM g f then y F else jF.get r f
noncomputable def iq(aL:Callee)(T:jF):Nat->Callee
 |0,f,args,h=>bif cM f dX then none else match T.get f with
  |some _=>none
  |none=>aL f args h
 |n+1,f,args,h=>bif cM f dX then qI (iq aL T n) n args h else match T.get f with
  |some F=>rL (iq aL T n) n F args h
  |none=>aL f args h
open Classical in
noncomputable def run(aL:Callee)(T:jF):Callee:=λf args h=>
 if H:∃n,(iq aL T n f args h).isSome=V then iq aL T (Classical.choose H) f args h else none
def mj:TypeDesc->Bool
 |.struct _|.array _ _=>V
 |_=>M
def vM:TypeDesc->Option Value
 |.slice _=>y (.slice none 0 0)
 |.pointer _=>y (.pointer none)
 |.map _ _=>y (.map none)
 |.func _ _ _=>y .nilFunc
 |.interface _=>y .nilIface
 |_=>none
def ml:Option TypeDesc->Option fk
 |some (.int _)=>y .int
 |some .bool=>y .bool
 |some .string=>y .str
 |_=>none
def jb(P:Program)(t:a1):Option (Bool×Nat):=
 match P.underlying t,P.info? t with
 |some d,y i=>if 0<i.size then y (mj d,i.size)else none
 |_,_=>none
def A4(g:a1->Option (List fk))(P:Program):Nat->List Field->Option (List fk)
 |_,[]=>y []
 |i,f::eR=>match g f.type,jb P f.type with
  | some dc, y l => if f.offset = i ∧ (f.name == "_") = M ∧ dc.length = l.2 then (A4 g P (i + l.2) eR).map (dc ++ ·) else none
  |_,_=>none
def yu(dc:List fk):Nat->List fk
 |0=>[]
 |n+1=>dc++yu dc n
def vN(P:Program):Nat->a1->Option (List fk)
 |0,_=>none
 |m+1,t=>match ml (P.underlying t)with
  |some b=>y [b]
  |none=>match P.underlying t with
   |some (.struct eR)=>if P.stoodInHeld t=M then A4 (vN P m) P 0 eR.toList else none
   |some (.array n e)=>match vN P m e,jb P e with
    |some dc,y l=>if dc.length=l.2/\P.cellsOf e=l.2 then y (yu dc n)else none
    |_,_=>none
   |_=>none
def A5(P:Program)(t:a1):Option (List fk):=
 match P.underlying t with
 |some (.struct _)|some (.array _ _)=>if P.eqGuardType P.depth t=M then vN P 16 t else none
 |_=>none
def nA:Operand->Bool
 |.const v=>yr v
 |.global _=>M
 |_=>V
def pV(P:Program)(t:a1):Option (List Value):=
 match P.info? t with
 |some i=>
  match i.zero with
  |some z=>if z.cells.toList.all iP=V/\z.cells.size=i.size/\0<i.size/\i.bytes<=16384 then y z.cells.toList else none
  |none=>none
 |none=>none
def A6(d:TypeDesc)(x:Operand):Bool:=
 match x,d with
 |.const (.slice none 0 0),.slice _=>V
 |.const (.pointer none),.pointer _=>V
 |.const (.map none),.map _ _=>V
 |.const .nilFunc,.func _ _ _=>V
 |.const .nilIface,.interface _=>V
 |_,_=>M
def vO:BinOp->Option Bool
 |.eql=>y M
 |.neq=>y V
 |_=>none
def HE:TypeDesc->Option qH
 |.slice _=>y .slice
 |.pointer _=>y .pointer
 |.map _ _=>y .map
 |.func _ _ _=>y .func
 |.interface _=>y .iface
 |_=>none
def A7(P:Program)(op:BinOp)(t:a1)(x au:Operand):Option fY:=
 match P.underlying t with
 |some (.int _)=>y (.bin op x au)
 |some .string=>y (.bin op x au)
 |some .bool=>(vO op).map λneg=>.o2 neg x au
 |some (.struct _)=>match vO op,A5 P t with
  |some neg,y dc=>y (.od dc neg x au)
  |_,_=>none
 |some (.array _ _)=>match vO op,A5 P t with
  |some neg,y dc=>y (.od dc neg x au)
  |_,_=>none
 |some d=>
  match vO op,HE d with
  |some neg,y k=>if A6 d au=V then y (.isNil k neg x)else if A6 d x=V then y (.isNil k neg au)else none
  |_,_=>none
 |none=>none
def A8(P:Program)(s d:a1)(x:Operand):Option fY:=
 match P.underlying s,P.underlying d with
 |some _,y (.int k)=>y (.conv k x)
 |some .string,y .string=>y (.yh x)
 |some (.slice e),y .string=>match P.underlying e with
  |some (.int .u8)=>y (.vD x)
  |_=>none
 |_,_=>none
def A9(P:Program)(t:a1)(f:Nat):Option (Field×Bool×Nat):=
 match P.underlying t with
 |some (.struct eR)=>match eR[f]? with
  |some b=>(jb P b.type).map λl=>(b,l.1,l.2)
  |none=>none
 |_=>none
def yv(place:Nat->Option (Nat×Nat)):List (Nat×Operand)->Option (List (Nat×Nat×Operand))
 |[]=>y []
 |(i,x)::r=>
  match place i,yv place r with
  |some (off,size),y bH=>if 0<size then y ((off,size,x)::bH)else none
  |_,_=>none
def HF(P:Program)(t:a1):Option (Nat->Option (Nat×Nat)):=
 match P.underlying t with
 |some (.array _ e)=>(P.info? e).map λi=>λj=>y (j*i.size,i.size)
 |some (.struct eR)=>(eR.toList.mapM (λf=>(P.info? f.type).map λi=>(f.offset,i.size))).map λl=>λj=>l.toArray[j]?
 |_=>none
def kW(l:List Operand):Bool:=l.all nA
def A_(P:Program)(b:Builtin)(args:List Operand)(argTypes:Array a1):Option fY:=
 match b,args with
 |.len,[x]=>match argTypes with
  |⟨[t]⟩=>match P.underlying t with
   |some .string=>y (.len V x)
   |some (.slice _)=>y (.len M x)
   |some (.array n _)=>y (.move (.const (.int .i64 n)))
   |some (.map _ _)=>y (.vC x)
   |_=>none
  |_=>none
 |.append,[x,au]=>match argTypes with
  |⟨[st,xt]⟩=>match P.underlying st,P.underlying xt with
   |some (.slice e),y (.slice _)=>match pV P e,jb P e with
    |some _,y (_,n)=>y (.append e n x au)
    |_,_=>none
   |some (.slice e),y .string=>match pV P e,jb P e with
    |some _,y (_,n)=>y (.append e n x au)
    |_,_=>none
   |some (.slice e),y (.int _)=>match pV P e,jb P e with
    |some z,y (_,n)=>y (.vB e n z x au)
    |_,_=>none
   |_,_=>none
  |_=>none
 |.copy,[x,au]=>match argTypes with
  |⟨[c,_]⟩=>match P.underlying c with
   |some (.slice e)=>(jb P e).map λl=>.copy l.2 x au
   |_=>none
  |_=>none
 |.clear,[x]=>match argTypes with
  |⟨[t]⟩=>match P.underlying t with
   |some (.slice e)=>(pV P e).map λz=>.clear z x
   |_=>none
  |_=>none
 |.max,xs=>y (.max xs)
 |.min,xs=>y (.min xs)
 |_,_=>none
def jw(P:Program):Op->Option fY
 |.move x=>y (.move x)
 |.assign x=>y (.move x)
 |.pick c a b=>y (.pick c a b)
 |.binOp op t x au _=>A7 P op t x au
 |.unOp op _ x=>y (.un op x)
 |.convert s d x=>A8 P s d x
 |.extract x i=>y (.extract x i)
 |.field t x f=>(A9 P t f).map λr=>.field r.2.1 r.1.offset r.2.2 x
 |.fieldAddr t x f=>(A9 P t f).map λr=>.fieldAddr r.1.offset x
 |.indexAddr t x i=>match P.underlying t with
  |some (.slice e)=>(jb P e).map λl=>.indexAddr l.2 x i
  |some (.array n e)=>(jb P e).map λl=>.yi n l.2 x i
  |_=>none
 |.index t x i=>match P.underlying t with
  |some (.array n e)=>(jb P e).map λl=>.rJ n l.1 l.2 x i
  |some .string=>y (.nw x i)
  |_=>none
 |.nilCheck x=>y (.nilCheck x)
 |.slice t x lo ai mx=>if mx.isSome=V->ai.isSome=V then
  match P.underlying t with
  |some (.slice e)=>(jb P e).map λl=>.slice l.2 x lo ai mx
  |some .string=>if mx.isNone=V then y (.yj x lo ai)else none
  |some (.array n e)=>if n<eQ then(jb P e).map λl=>.yk n l.2 x lo ai mx else none
  |_=>none
  else none
 |.build t parts=>match pV P t,HF P t with
  |some z,y place=>(yv place parts.toList).map λbH=>.build z bH
  |_,_=>none
 |.buildSlice t n parts=>match P.underlying t with
  |some (.slice e)=>match pV P e,jb P e with
   |some z,y (_,s)=>if n*s<=2 ^ 24/\0<n then(yv (λi=>y (i*s,s)) parts.toList).map λbH=>.buildSlice e z n bH else if n=0/\parts.toList.isEmpty=V then y (.buildSlice e [] 0 [])else none
   |_,_=>none
  |_=>none
 |.makeFunc (.func f) first oe=>y (.ko f first.toList oe.toList)
 |.makeInterface t x=>match P.underlying t with
  |some (.interface _)=>none
  |some _=>y (.tT t x)
  |none=>none
 |.box t x=>y (.box t x)
 |.alloc t=>(pV P t).map λz=>.new t z
 |.makeSlice t n c=>match P.underlying t with
  |some (.slice e)=>(pV P e).map λz=>.mkSlice e z n c
  |_=>none
 |.load t x=>(jb P t).map λl=>.load l.1 l.2 x
 |.store t x v=>(jb P t).map λl=>.store l.2 x v
 |.call c=>match c.callee with
  |.value (.func f)=>if fX f dX=V then y (.call f c.args.toList)else none
  |.value f=>y (.im f c.args.toList)
  |.builtin b=>A_ P b c.args.toList c.argTypes
  |.invoke _ _=>none
 |.makeMap _ none=>y .mkMap
 |.lookup t x i ok=>match P.underlying t with
  |some (.map key elem)=>match ml (P.underlying key),P.info? elem with
   |some k,y g=>match g.zero with
    |some z=>if yr z=V then y (.lookup k z ok x i)else none
    |none=>none
   |_,_=>none
  |_=>none
 |.mapUpdate t m k v=>match P.underlying t with
  |some (.map key _)=>(ml (P.underlying key)).map λb=>.pR b m k v
  |_=>none
 |.insert t m k v=>match P.underlying t with
  |some (.map key _)=>(ml (P.underlying key)).map λb=>.pR b m k v
  |_=>none
 |.panic _=>y .fail
 |_=>none
def o5(P:Program)(o:Op):Option fY:=if kW o.operands.toList=V then jw P o else none
structure c6 where
 dst:Option Nat
 op:fY
 guard:Option (Nat×Bool)
 ef:lk
def sJ:mi->Option (Nat×Bool)->List c6
 |.nil,_=>[]
 |.op d o ef rest,g=>⟨d,o,g,ef⟩::sJ rest g
 |.ll d c hi tmp body au rest,g=>
  sJ body (y (c,hi))++⟨y d,.pick (.tmp c) (if hi then au else .const (.bool V)) (if hi then .const (.bool M)else au),g,.no⟩::sJ rest g
def qJ:mi->List Nat
 |.nil=>[]
 |.op d _ _ rest=>d.toList++qJ rest
 |.ll d _ _ tmp body _ rest=>d::(tmp++qJ body++qJ rest)
def kX:mi->List Nat
 |.nil=>[]
 |.op d _ _ rest=>d.toList++kX rest
 |.ll d _ _ _ body _ rest=>kX body++d::kX rest
def oj:List Nat->Option (List Nat)->mi->Bool
 |_,_,.nil=>V
 |gs,ir,.op d _ _ rest=>(d.toList.all λi=>!gs.contains i)&&oj gs (ir.map (d.toList++·)) rest
 |gs,ir,.ll d c _ tmp body _ rest=>
  !gs.contains d&&(tmp.all λi=>!gs.contains i&&i !=c)&&(ir.toList.all λl=>l.contains c)&&((kX body).all tmp.contains)&&((qJ body).all tmp.contains)&&d !=c&&oj (c::gs) (y []) body&&oj gs (ir.map (kX body++[d]++·)) rest
def HG(P:Program)(ops:Array Oper)(ef:lk)(o:Oper):Option c6:=
 match o5 P o.op with
 |some c=>
  match o.guard with
  |none=>y ⟨o.dst,c,none,ef⟩
  |some (j,b)=>
   match (ops[j]?).bind (·.dst)with
   |some d=>y ⟨o.dst,c,y (d,b),ef⟩
   |none=>none
 |none=>none
def sK(P:Program)(ops:Array Oper)(b:Nat->lk):List Oper->Nat->Option (List c6)
 |[],_=>y []
 |o::r,i=>
  match HG P ops (b i) o,sK P ops b r (i+1)with
  |some f,y eR=>y (f::eR)
  |_,_=>none
def eu:Operand->List Nat
 |.tmp t=>[t]
 |_=>[]
def rM:List Operand->List Nat
 |[]=>[]
 |x::r=>eu x++rM r
def rN:Option Operand->List Nat
 |some x=>eu x
 |none=>[]
def yw:List (Nat×Nat×Operand)->List Nat
 |[]=>[]
 |x::r=>eu x.2.2++yw r
def yx:fY->List Nat
 |.move x=>eu x
 |.pick c a b=>eu c++(eu a++eu b)
 |.bin _ x au=>eu x++eu au
 |.o2 _ x au=>eu x++eu au
 |.isNil _ _ x=>eu x
 |.od _ _ x au=>eu x++eu au
 |.un _ x=>eu x
 |.conv _ x=>eu x
 |.yh x=>eu x
 |.len _ x=>eu x
 |.extract x _=>eu x
 |.field _ _ _ x=>eu x
 |.rJ _ _ _ x i=>eu x++eu i
 |.nw x i=>eu x++eu i
 |.fieldAddr _ x=>eu x
 |.indexAddr _ x i=>eu x++eu i
 |.yi _ _ x i=>eu x++eu i
 |.nilCheck x=>eu x
 |.slice _ x lo ai mx=>eu x++(rN lo++(rN ai++rN mx))
 |.yj x lo ai=>eu x++(rN lo++rN ai)
 |.yk _ _ x lo ai mx=>eu x++(rN lo++(rN ai++rN mx))
 |.max xs=>rM xs
 |.min xs=>rM xs
 |.build _ bH=>yw bH
 |.ko _ a b=>rM a++rM b
 |.tT _ x=>eu x
 |.box _ x=>eu x
 |.new _ _=>[]
 |.buildSlice _ _ _ bH=>yw bH
 |.mkSlice _ _ n c=>eu n++eu c
 |.load _ _ x=>eu x
 |.store _ x v=>eu x++eu v
 |.append _ _ s x=>eu s++eu x
 |.copy _ d s=>eu d++eu s
 |.clear _ x=>eu x
 |.vB _ _ _ s k=>eu s++eu k
 |.mkMap=>[]
 |.lookup _ _ _ x i=>eu x++eu i
 |.pR _ x i v=>eu x++(eu i++eu v)
 |.vC x=>eu x
 |.vD x=>eu x
 |.call _ args=>rM args
 |.im f args=>eu f++rM args
 |.fail=>[]
def qK:fY->Bool
 |.store _ _ _|.append _ _ _ _|.copy _ _ _|.clear _ _|.vB _ _ _ _ _|.pR _ _ _ _|.call _ _|.im _ _=>V
 |_=>M
def kF:fY->Bool
 |.box _ _|.new _ _|.buildSlice _ _ _ _|.mkSlice _ _ _ _|.load _ _ _|.vD _|.mkMap|.lookup _ _ _ _ _|.vC _=>V
 |o=>qK o
def hj(f:c6):List Nat:=yx f.op++(match f.guard with|some (s,_)=>[s]|none=>[])
def o6(ops:Array Oper):List Nat:=(Region.before ops).toList
def VD(ops:Array Oper):Bool:=
 (fj ops.size).all λi=>match ops[i]? with
   |some o=>o.after.toList.all λe=>!Region.binds .any e||decide (e.on<i)
   |none=>V
def VE(ops:Array Oper)(bL:List Nat):Bool:=
 (fj ops.size).all λi=>decide (bL.getD i 0<2 ^ ops.size)&&(fj ops.size).all λj=>!(bL.getD i 0).testBit j||match ops[i]? with
   |some o=>o.after.toList.any λe=>jr .any e&&(j==e.on||(bL.getD e.on 0).testBit j)
   |none=>V
def HH(f bX:c6):Bool:=(match f.dst with|some t=>(hj bX).contains t|none=>M)||(match bX.dst with|some t=>(hj f).contains t|none=>M)
def HI(f bX:c6):Bool:=match f.dst,bX.dst with|some t,y b=>t==b|_,_=>M
def o7:fY->Bool
 |.new _ zero=>zero.all iP
 |_=>M
def L9(a8:List c6)(i j:Nat)(b:Bool):Bool:=
 match a8[i]? with
 |some f=>match f.op with
  |.store _ (.tmp t) _=>(fj i).any λm=>!(cM m j)&&(b||Nat.blt j m)&&match a8[m]? with
   |some g=>o7 g.op&&g.guard.isNone&&(g.dst==y t)
   |none=>M
  |_=>M
 |none=>M
def tX(a8:List c6)(i j:Nat):Bool:=decide (j<i)&&L9 a8 i j (match a8[j]? with
 |some g=>o7 g.op
 |none=>M)
def loadAt:fY->Option Nat
 |.load _ _ (.tmp t)=>y t
 |_=>none
def o8:fY->Option Nat
 |.append _ _ (.tmp s) _=>y s
 |_=>none
def A':lk->Bool
 |.calm=>V
 |_=>M
def vP:lk->List (Nat×Nat)
 |.hH bH=>bH
 |_=>[]
def vQ(bH:List (Nat×Nat))(a b:Nat):Bool:=bH.any λp=>cM p.1 a&&cM p.2 b
def HJ(a8:List c6)(j t:Nat):Bool:=(a8.drop j).all λf=>match f.dst with
 |some d=>!(cM d t)
 |none=>V
def yy(f bX:c6):Bool:=match o8 f.op,f.dst,loadAt bX.op with
 |some _,y d,y t=>vQ (vP bX.ef) d t
 |_,_,_=>M
def yz(a8:List c6)(j:Nat)(f bX:c6):Bool:=match o8 f.op,loadAt bX.op with
 |some s,y t=>vQ (vP f.ef) s t&&HJ a8 j t
 |_,_=>M
def qL:fY->Bool
 |.new _ _=>V
 |.box _ _=>V
 |.buildSlice _ _ _ _=>V
 |_=>M
def yA(f bX:c6):Bool:=qL bX.op&&(o8 f.op).isSome
def VF(a8:List c6)(bL:List Nat):Bool:=
 (fj a8.length).all λi=>(fj a8.length).all λj=>match a8[i]?,a8[j]? with
   |some f,y bX=>(i==j||!HI f bX)&&(!(decide (i<j))||!HH f bX||(bL.getD j 0).testBit i)&&
    (!(qK f.op)||A' f.ef||!(kF bX.op)||((!(decide (i<j))||(bL.getD j 0).testBit i||yy f bX)&&(!(decide (j<i))||(bL.getD i 0).testBit j||tX a8 i j||yz a8 j f bX||yA f bX)))
   |_,_=>V
def HK(a8:List c6)(bL:List Nat)(i:Nat):Bool:=
 match a8[i]? with
 |some f=>qK f.op&&!((fj a8.length).all λj=>match a8[j]? with
  |some bX=>!(kF bX.op)||((!(decide (i<j))||(bL.getD j 0).testBit i)&&(!(decide (j<i))||(bL.getD i 0).testBit j||tX a8 i j))
  |none=>V)
 |none=>M
def HL(a8:List c6)(bL:List Nat)(i:Nat):Bool:=
 match a8[i]? with
 |some f=>(o8 f.op).isSome&&f.dst.isSome&&((fj a8.length).all λj=>match a8[j]? with
  |some bX=>!(kF bX.op)||((!(decide (i<j))||(bL.getD j 0).testBit i)&&(!(decide (j<i))||(bL.getD i 0).testBit j||tX a8 i j))||(match loadAt bX.op with
   |some t=>!(decide (j<i))||HJ a8 j t
   |none=>decide (j<i)&&qL bX.op)
  |none=>V)
 |none=>M
def VG(a8:List c6)(bL:List Nat)(i:Nat):lk:=
 match a8[i]? with
 |some f=>
  match loadAt f.op with
  |some t=>
   match (fj i).filterMap (λk=>match a8[k]? with
    |some g=>match o8 g.op,g.dst with
     |some _,y d=>if(bL.getD i 0).testBit k then none else if HK a8 bL k&&HL a8 bL k then y (d,t)else none
     |_,_=>none
    |none=>none)with
   |[]=>.no
   |bH=>.hH bH
  |none=>if HK a8 bL i then match o8 f.op with
   |some s=>if HL a8 bL i then .hH ((fj i).filterMap λj=>match a8[j]? with
    |some g=>match loadAt g.op with
     |some t=>if(bL.getD i 0).testBit j then none else y (s,t)
     |none=>none
    |none=>none)else .calm
   |none=>.calm
   else .no
 |none=>.no
def targets(a8:List c6)(bL:List Nat):List Nat:=
 (fj a8.length).filter λi=>match a8[i]? with
   |some f=>(o8 f.op).isSome&&HK a8 bL i&&!HL a8 bL i
   |none=>M
def vR(n:Nat)(b bL:List Nat):List Nat:=
 ((fj n).filter λi=>!(b.any λt=>cM t i||(bL.getD i 0).testBit t))++(fj n).filter λi=>b.any λt=>cM t i||(bL.getD i 0).testBit t
def mO(σ:List Nat)(i:Nat):Nat:=σ.findIdx λx=>cM x i
def yB(σ:List Nat)(o:Oper):Oper:={ o with after:=o.after.map λe=>{ e with on:=mO σ e.on } }
def rO(ops:Array Oper)(σ:List Nat):Array Oper:=(σ.map λi=>yB σ (ops.getD i default)).toArray
def HM(ops:Array Oper)(σ:List Nat):Bool:=
 decide (σ.length=ops.size)&&(σ.all λi=>decide (i<ops.size))&&((fj ops.size).all λi=>decide (mO σ i<ops.size)&&cM (mO σ (σ.getD i 0)) i)&&(ops.toList.all λo=>o.guard.isNone&&o.after.toList.all λe=>decide (e.on<ops.size))
def HN(ops:Array Oper)(a8:List c6)(bL:List Nat):Bool:=VD ops&&VE ops bL&&VF a8 bL
def vS(P:Program)(N:Nat)(ops:Array Oper)(b:List c6):Option (List c6):=
 match sK P ops (VG b (o6 ops)) ops.toList 0 with
 |some a8=>if(a8.all λf=>f.dst.toList.all λd=>decide (d<N))=V/\HN ops a8 (o6 ops)=V then y a8 else none
 |none=>none
def Ba(P:Program)(N:Nat)(ops:Array Oper)(nx:Bool):Option (List c6):=
 match nx with
 |false=>match sK P ops (λ_=>.no) ops.toList 0 with
  |some a8=>if(a8.all λf=>f.dst.toList.all λd=>decide (d<N))=V then y a8 else none
  |none=>none
 |true=>match sK P ops (λ_=>.no) ops.toList 0 with
  |some c=>match targets c (o6 ops)with
   |[]=>vS P N ops c
   |b=>bif HM ops (vR ops.size b (o6 ops))then match sK P (rO ops (vR ops.size b (o6 ops))) (λ_=>.no) (rO ops (vR ops.size b (o6 ops))).toList 0 with
    |some e=>vS P N (rO ops (vR ops.size b (o6 ops))) e
    |none=>none
    else vS P N ops c
  |none=>none
inductive sL where
 |skip
 |region (nx:Bool) (a8:List c6)
 |seq (a b:sL)
 |cond (c:Operand) (a b:sL)
 |block (id:Nat) (c:sL)
 |loop (c:sL)
 |exit (id:Nat)
 |ret
 |jW (g:Operand) (bH:List Nat) (a b:sL)
def mP:sL->Bool
 |.jW _ _ _ _=>M
 |.seq a b=>mP a&&mP b
 |.cond _ a b=>mP a&&mP b
 |.block _ c=>mP c
 |.loop c=>mP c
 |_=>V
def dH:ln->sL
 |.skip=>.skip
 |.region nx s=>.region nx (sJ s none)
 |.seq a b=>.seq (dH a) (dH b)
 |.cond c _ _ a b=>.cond c (dH a) (dH b)
 |.block id _ _ c=>.block id (dH c)
 |.loop _ _ c=>.loop (dH c)
 |.exit i=>.exit i
 |.ret=>.ret
 |.jW g _ bH a b=>.jW g bH (dH a) (dH b)
def dW(P:Program)(N:Nat):Code->Option sL
 |.skip=>y .skip
 |.label _=>y .skip
 |.region _ ops nx=>match Ba P N ops nx with
  |some a8=>y (.region nx a8)
  |none=>none
 |.seq a b=>match dW P N a,dW P N b with
  |some a,y b=>y (.seq a b)
  |_,_=>none
 |.cond c a b=>match nA c,dW P N a,dW P N b with
  |true,y a,y b=>y (.cond c a b)
  |_,_,_=>none
 |.block id c=>match dW P N c with
  |some c=>y (.block id c)
  |none=>none
 |.loop c=>match dW P N c with
  |some c=>y (.loop c)
  |none=>none
 |.exit i=>y (.exit i)
 |.ret=>y .ret
 |.rangeFunc g bH assign body=>match nA g,dW P N assign,dW P N body with
  |true,y a,y b=>if(bH.toList.all λp=>decide (p<N))=V/\bH.toList.Nodup/\mP a=V/\mP b=V then y (.jW g bH.toList a b)else none
  |_,_,_=>none
 |_=>none
def nB:ln->List Nat
 |.region _ s=>qJ s
 |.seq a b=>nB a++nB b
 |.cond _ mod tmp _ _=>mod++tmp
 |.block _ mod tmp _=>mod++tmp
 |.loop mod tmp _=>mod++tmp
 |_=>[]
def yC(a b:List Nat):Bool:=a.all b.contains
def lQ:ln->Bool
 |.region _ s=>oj [] none s
 |.seq a b=>lQ a&&lQ b
 |.cond _ mod tmp a b=>yC (nB a) (mod++tmp)&&yC (nB b) (mod++tmp)&&lQ a&&lQ b
 |.block _ mod tmp c=>yC (nB c) (mod++tmp)&&lQ c
 |.loop mod tmp c=>yC (nB c) (mod++tmp)&&lQ c
 |.jW _ _ _ a b=>lQ a&&lQ b
 |_=>V
def Bb(P:Program)(N:Nat)(ac:ln)(c:Code):Prop:=dW P N c=y (dH ac)/\lQ ac=V/\mP (dH ac)=V
def L_:tU->LoopState
 |.ready=>.ready
 |.busy=>.busy
 |.done=>.done
def VH:fN->Code
 |.normal=>.skip
 |.exit i=>.exit i
 |.ret=>.ret
structure Loc where
 blk:Nat
 K:Nat
abbrev Ren:=Nat->Option Loc
mutual
inductive bp(μ:Ren):Value->Value->Prop
 |dR (v:Value):bp μ dR v
 |bool (b:Bool):bp μ (.bool b) (.bool b)
 |int (k:IntKind) (n:Int):bp μ (.int k n) (.int k n)
 |string (s:ByteArray):bp μ (.string s) (.string s)
 |tY:bp μ (.pointer none) (.pointer none)
 |ptr {b c K o:Nat} (h:μ b=y ⟨c,K⟩):bp μ (.pointer (y ⟨b,o,none⟩)) (.pointer (y ⟨c,o,none⟩))
 |mQ:bp μ (.slice none 0 0) (.slice none 0 0)
 |bZ {b c K o n m fl:Nat} (h:μ b=y ⟨c,K⟩) (hm:(m<eQ/\fl=m)\/(m=eQ/\n<=fl/\(o=0->fl<=K))):bp μ (.slice (y ⟨b,o,none⟩) n m) (.slice (y ⟨c,o,none⟩) n fl)
 |gb (a a':Addr) (fl:Nat):bp μ (.slice (y a) 0 eQ) (.slice (y a') 0 fl)
 |hs (a a':Addr):bp μ (.slice (y a) 0 0) (.slice (y a') 0 0)
 |tZ:bp μ (.map none) (.map none)
 |map {b c K:Nat} (h:μ b=y ⟨c,K⟩):bp μ (.map (y b)) (.map (y c))
 |func (f:dU) {xs ys fh e2:Array Value} (ae:cB μ xs.toList fh.toList) (ba:cB μ ys.toList e2.toList):bp μ (.func (.func f) xs ys) (.func (.func f) fh e2)
 |yield {b c K:Nat} (h:μ b=y ⟨c,K⟩):bp μ (.func (.yield b) ⟨[]⟩ ⟨[]⟩) (.func (.yield c) ⟨[]⟩ ⟨[]⟩)
 |nilFunc:bp μ .nilFunc .nilFunc
 |nilIface:bp μ .nilIface .nilIface
 |iface (t:a1) {v v':Value} (h:bp μ v v'):bp μ (.iface t v) (.iface t v')
 |agg {xs ys:Array Value} (h:cB μ xs.toList ys.toList):bp μ (.agg xs) (.agg ys)
 |tuple {xs ys:Array Value} (h:cB μ xs.toList ys.toList):bp μ (.tuple xs) (.tuple ys)
inductive cB(μ:Ren):List Value->List Value->Prop
 |nil:cB μ [] []
 |cons {x au:Value} {xs ys:List Value} (h:bp μ x au) (aB:cB μ xs ys):cB μ (x::xs) (au::ys)
end
def ev(μ aY:Ren):Prop:=∀b c,μ b=y c->aY b=y c
theorem ev.refl(μ:Ren):ev μ μ:=λ_ _ h=>h
theorem ev.trans{a b c:Ren}(h:ev a b)(h':ev b c):ev a c:=λx au e=>h' x au (h x au e)
mutual
theorem bp.mono{μ aY:Ren}(hm:ev μ aY){x au:Value}:bp μ x au->bp aY x au
 |.dR v=>.dR v
 |.bool b=>.bool b
 |.int k n=>.int k n
 |.string s=>.string s
 |.tY=>.tY
 |.ptr h=>.ptr (hm _ _ h)
 |.mQ=>.mQ
 |.bZ h h'=>.bZ (hm _ _ h) h'
 |.gb a a' fl=>.gb a a' fl
 |.hs a a'=>.hs a a'
 |.tZ=>.tZ
 |.map h=>.map (hm _ _ h)
 |.func f h h'=>.func f (cB.mono hm h) (cB.mono hm h')
 |.yield h=>.yield (hm _ _ h)
 |.nilFunc=>.nilFunc
 |.nilIface=>.nilIface
 |.iface t h=>.iface t (bp.mono hm h)
 |.agg h=>.agg (cB.mono hm h)
 |.tuple h=>.tuple (cB.mono hm h)
theorem cB.mono{μ aY:Ren}(hm:ev μ aY){xs ys:List Value}:cB μ xs ys->cB aY xs ys
 |.nil=>.nil
 |.cons h aB=>.cons (bp.mono hm h) (cB.mono hm aB)
end
mutual
theorem bp.cut{μ aY:Ren}(hm:ev μ aY){x Bc au:Value}:bp μ x Bc->bp aY x au->bp μ x au
 |.dR _,_=>.dR _
 |.bool _,h=>by cases h;exact .bool _
 |.int _ _,h=>by cases h;exact .int _ _
 |.string _,h=>by cases h;exact .string _
 |.tY,h=>by cases h;exact .tY
 |.ptr av,h=>by
  cases h with
  |ptr h1=>
   have e:=(hm _ _ av).symm.trans h1
   cases e
   exact .ptr av
 |.mQ,h=>by cases h;exact .mQ
 |.bZ av _,h=>by
  cases h with
  |bZ h1 h2=>
   have e:=(hm _ _ av).symm.trans h1
   cases e
   exact .bZ av h2
  |gb _ _ _=>exact .gb _ _ _
  |hs _ _=>exact .hs _ _
 |.gb a _ _,h=>by
  cases h with
  |bZ h1 h2=>exact .gb _ _ _
  |gb _ _ _=>exact .gb _ _ _
 |.hs a _,h=>by
  cases h with
  |bZ h1 h2=>
   rcases h2 with⟨_,rfl⟩|⟨e,_⟩
   ·exact .hs _ _
   ·exact absurd e (by decide)
  |hs _ _=>exact .hs _ _
 |.tZ,h=>by cases h;exact .tZ
 |.map av,h=>by
  cases h with
  |map h1=>
   have e:=(hm _ _ av).symm.trans h1
   cases e
   exact .map av
 |.func _ av mR,h=>by
  cases h with
  |func _ h1 hI=>exact .func _ (cB.cut hm av h1) (cB.cut hm mR hI)
 |.yield av,h=>by
  cases h with
  |yield h1=>
   have e:=(hm _ _ av).symm.trans h1
   cases e
   exact .yield av
 |.nilFunc,h=>by cases h;exact .nilFunc
 |.nilIface,h=>by cases h;exact .nilIface
 |.iface _ av,h=>by
  cases h with
  |iface _ h1=>exact .iface _ (bp.cut hm av h1)
 |.agg av,h=>by
  cases h with
  |agg h1=>exact .agg (cB.cut hm av h1)
 |.tuple av,h=>by
  cases h with
  |tuple h1=>exact .tuple (cB.cut hm av h1)
theorem cB.cut{μ aY:Ren}(hm:ev μ aY){xs HO ys:List Value}:cB μ xs HO->cB aY xs ys->cB μ xs ys
 |.nil,h=>by cases h;exact .nil
 |.cons av HP,h=>by
  cases h with
  |cons h1 o9=>exact .cons (bp.cut hm av h1) (cB.cut hm HP o9)
end
theorem cB.length{μ:Ren}{xs ys:List Value}(h:cB μ xs ys):xs.length=ys.length:=by
 induction xs generalizing ys with
 |nil=>cases h;rfl
 |cons x xs a6=>
  cases h with
  |cons _ aB=>simp [a6 aB]
theorem cB.get{μ:Ren}{xs ys:List Value}(h:cB μ xs ys){i:Nat}{x:Value}(ae:xs[i]?=y x):∃au,ys[i]?=y au/\bp μ x au:=by
 induction xs generalizing ys i with
 |nil=>simp at ae
 |cons z xs a6=>
  cases h with
  |cons av aB=>
   cases i with
   |zero=>simp only[ki,sw]at ae;subst ae;exact⟨_,rfl,av⟩
   |succ i=>simp only[mK]at ae |-;exact a6 aB ae
theorem cB.VI{μ:Ren}{xs ys:List Value}(ax:xs.length=ys.length)(h:∀(i:Nat) (x au:Value),xs[i]?=y x->ys[i]?=y au->bp μ x au):cB μ xs ys:=by
 induction xs generalizing ys with
 |nil=>cases ys with
  |nil=>exact .nil
  |cons _ _=>simp at ax
 |cons x xs a6=>
  cases ys with
  |nil=>simp at ax
  |cons au ys=>exact .cons (h 0 x au rfl rfl) (a6 (by simpa using ax) (λi a b ha af=>h (i+1) a b ha af))
theorem cB.append{μ:Ren}{xs ys fh e2:List Value}(h:cB μ xs ys)(h':cB μ fh e2):cB μ (xs++fh) (ys++e2):=by
 induction xs generalizing ys with
 |nil=>cases h;exact h'
 |cons x xs a6=>cases h with|cons av aB=>exact .cons av (a6 aB)
theorem cB.take{μ:Ren}{xs ys:List Value}(h:cB μ xs ys)(n:Nat):cB μ (xs.take n) (ys.take n):=by
 induction xs generalizing ys n with
 |nil=>cases h;simpa using cB.nil
 |cons x xs a6=>
  cases h with
  |cons av aB=>
   cases n with
   |zero=>exact .nil
   |succ n=>exact .cons av (a6 aB n)
theorem cB.drop{μ:Ren}{xs ys:List Value}(h:cB μ xs ys)(n:Nat):cB μ (xs.drop n) (ys.drop n):=by
 induction xs generalizing ys n with
 |nil=>cases h;simpa using cB.nil
 |cons x xs a6=>
  cases h with
  |cons av aB=>
   cases n with
   |zero=>exact .cons av aB
   |succ n=>exact a6 aB n
theorem cB.HQ{μ:Ren}{xs ys fh e2:List Value}(h:cB μ xs ys)(h':cB μ fh e2)(o:Nat):cB μ (xs.take o++fh++xs.drop (o+fh.length)) (ys.take o++e2++ys.drop (o+e2.length)):=by
 rw[h'.length]
 exact((h.take o).append h').append (h.drop _)
theorem bp.o_{μ:Ren}{v:Value}(h:iP v=V):bp μ v v:=by
 cases v with
 |bool b=>exact .bool b
 |int k n=>exact .int k n
 |string s=>exact .string s
 |pointer a=>cases a with
  |none=>exact .tY
  |some a=>simp [iP]at h
 |slice a n c=>cases a with
  |none=>
   cases n with
   |zero=>cases c with
    |zero=>exact .mQ
    |succ c=>simp [iP]at h
   |succ n=>simp [iP]at h
  |some a=>simp [iP]at h
 |map r=>cases r with
  |none=>exact .tZ
  |some a=>simp [iP]at h
 |nilFunc=>exact .nilFunc
 |nilIface=>exact .nilIface
 |_=>simp [iP]at h
theorem cB.Bd{μ:Ren}{p:Value->Bool}(ah:∀v,p v=V->bp μ v v):∀{l:List Value},l.all p=V->cB μ l l
 |[],_=>.nil
 |v::l,h=>by
  simp only[n',dn]at h
  exact .cons (ah v h.1) (cB.Bd ah h.2)
theorem bp.L'{μ:Ren}{v:Value}(h:yq v=V):bp μ v v:=by
 cases v with
 |agg cs=>exact .agg (cB.Bd (λv=>bp.o_) h)
 |iface t v=>exact .iface t (bp.o_ h)
 |_=>exact bp.o_ h
theorem bp.Ma{μ:Ren}{v:Value}(h:yr v=V):bp μ v v:=by
 cases v with
 |tuple cs=>exact .tuple (cB.Bd (λv=>bp.L') h)
 |_=>exact bp.L' h
theorem bp.undef{μ:Ren}:bp μ undef undef:=.tuple .nil
theorem bp.Be{μ:Ren}{v au:Value}(h:iP v=V)(ay:bp μ v au):au=v:=by
 cases ay<;>first|rfl|(simp [iP,bF.dR]at h)
theorem cB.Bf{μ:Ren}{p:Value->Bool}(ah:∀v au,p v=V->bp μ v au->au=v):∀{l ys:List Value},l.all p=V->cB μ l ys->ys=l
 |[],_,_,ay=>by cases ay;rfl
 |v::l,_,h,ay=>by
  simp only[n',dn]at h
  cases ay with
  |cons av aB=>rw[ah v _ h.1 av,cB.Bf ah h.2 aB]
theorem bp.Mb{μ:Ren}{v au:Value}(h:yq v=V)(ay:bp μ v au):au=v:=by
 cases v with
 |agg cs=>
  cases ay with
  |agg ax=>
   have e:=cB.Bf (p:=iP) (λv au h ay=>bp.Be h ay) h ax
   exact cZ Value.agg (mL e)
 |iface t v=>
  cases ay with
  |iface _ h'=>rw[bp.Be h h']
 |_=>exact bp.Be h ay
theorem bp.Bg{μ:Ren}{v au:Value}(h:yr v=V)(ay:bp μ v au):au=v:=by
 cases v with
 |tuple cs=>
  cases ay with
  |tuple ax=>
   have e:=cB.Bf (p:=yq) (λv au h ay=>bp.Mb h ay) h ax
   exact cZ Value.tuple (mL e)
 |_=>exact bp.Mb h ay
theorem bp.cells{μ:Ren}{v au:Value}(h:bp μ v au)(b:v≠bF.dR):cB μ (kU v) au.cells.toList:=by
 cases h with
 |dR=>exact absurd rfl b
 |agg h=>exact h
 |_=>exact .cons (by constructor<;>assumption) .nil
theorem bp.VJ{μ:Ren}{v au:Value}(h:bp μ v au):(kU v).length<=au.cells.size/\cB μ (kU v) (au.cells.toList.take (kU v).length):=by
 by_cases b:v=bF.dR
 ·subst b
  exact⟨hO _,.nil⟩
 ·have aa:=h.cells b
  have ax:=aa.length
  rw[ax,iy]
  exact⟨by simp,aa⟩
theorem bp.Mc{μ:Ren}{v au:Value}(h:bp μ v au)(aA:(kU v).length≠0):cB μ (kU v) au.cells.toList:=
 h.cells (by rintro rfl;exact aA rfl)
def fr(P:Program)(μ:Ren)(K:Nat)(blk:iB)(o:Obj):Prop:=
 match blk with
 |.cells vs elem rw=>∃c cJ,o=.cells c elem cJ/\vs.length<=c.size/\cB μ vs (c.toList.take vs.length)/\(rw=V->cJ=(0,0))/\K*P.cellsOf elem<=c.size
 |.map df=>∃l clock,o=.map l clock/\cB μ (df.map (·.1)) (l.toList.map (·.key))/\cB μ (df.map (·.2)) (l.toList.map (·.val))
 |.loop dg dd bH b e st eg=>∃r:Loop,o=.loop r/\r.state=L_ st/\r.pending=eg.map VH/\r.params.toList=bH/\(bH.all λp=>decide (p<r.tmps.size))=V/\bH.Nodup/\
  Bb P r.tmps.size b r.assign/\Bb P r.tmps.size e r.body/\∀i,bp μ (fM (λ_=>bF.dR) dd dg i) (r.tmps.getD i undef)
 |.dead=>True
theorem fr.mono{P:Program}{μ aY:Ren}(hm:ev μ aY){K:Nat}{blk:iB}{o:Obj}(h:fr P μ K blk o):fr P aY K blk o:=by
 cases blk with
 |cells vs elem rw=>obtain⟨c,cJ,h1,h2,ak,aJ,aO⟩:=h;exact⟨c,cJ,h1,h2,ak.mono hm,aJ,aO⟩
 |map df=>obtain⟨l,k,h1,h2,ak⟩:=h;exact⟨l,k,h1,h2.mono hm,ak.mono hm⟩
 |loop=>obtain⟨r,h1,h2,ak,aJ,aO,bt,ct,b,e⟩:=h;exact⟨r,h1,h2,ak,aJ,aO,bt,ct,b,λi=>(e i).mono hm⟩
 |dead=>trivial
theorem fr.cut{P:Program}{μ aY:Ren}(hm:ev μ aY){e K:Nat}{blk:iB}{g o:Obj}(av:fr P μ e blk g)(h:fr P aY K blk o):fr P μ K blk o:=by
 cases blk with
 |cells vs elem rw=>
  obtain⟨_,_,_,_,ak,_⟩:=av
  obtain⟨c,cJ,h1,h2,b,aJ,aO⟩:=h
  exact⟨c,cJ,h1,h2,ak.cut hm b,aJ,aO⟩
 |map df=>
  obtain⟨_,_,_,h2,ak⟩:=av
  obtain⟨l,k,h1,j,b⟩:=h
  exact⟨l,k,h1,h2.cut hm j,ak.cut hm b⟩
 |loop=>
  obtain⟨_,_,_,_,_,_,_,_,_,m⟩:=av
  obtain⟨r,h1,h2,ak,aJ,aO,bt,ct,n,p⟩:=h
  exact⟨r,h1,h2,ak,aJ,aO,bt,ct,n,λi=>(m i).cut hm (p i)⟩
 |dead=>trivial
def live(h:aX)(b:Nat):Prop:=∃blk,h[b]?=y blk/\blk≠.dead
theorem live.lt{h:aX}{b:Nat}(ax:live h b):b<h.length:=by
 obtain⟨blk,e,_⟩:=ax
 exact(List.getElem?_eq_some_iff.1 e).1
def lp(h:aX)(b:Nat):Prop:=∃vs t,h[b]?=y (.cells vs t M)
theorem lp.live{h:aX}{b:Nat}(an:lp h b):live h b:=by
 obtain⟨vs,t,e⟩:=an
 exact⟨_,e,by simp⟩
structure cS(P:Program)(μ:Ren)(h:aX)(w:World):Prop where
 cl:∀b l,μ b=y l->b<h.length
 rel:∀b l blk,μ b=y l->h[b]?=y blk->blk≠.dead->∃o,w.heap[l.blk]?=y o/\fr P μ l.K blk o
 inj:∀b bj l cK,μ b=y l->μ bj=y cK->l.blk=cK.blk->live h b->live h bj->b=bj
 lt:∀b l,μ b=y l->l.blk<w.heap.size
def kG(w b':World):Prop:=b'.os=w.os/\b'.tape=w.tape/\b'.output=w.output
theorem kG.rfl{w:World}:kG w w:=⟨iK _,iK _,iK _⟩
theorem kG.trans{a b c:World}(h:kG a b)(h':kG b c):kG a c:=⟨h'.1.trans h.1,h'.2.1.trans h.2.1,h'.2.2.trans h.2.2⟩
structure ExtP(μ:Ren)(h:aX)(w:World)(aY:Ren)(h':aX)(b':World):Prop where
 le:h.length<=h'.length
 e1:∀b,b<h.length->aY b=μ b
 size:w.heap.size<=b'.heap.size
 frame:∀c,c<w.heap.size->(∀b l,live h b->μ b=y l->l.blk≠c)->b'.heap[c]?=w.heap[c]?
 ro:∀b l,μ b=y l->lp h b->b'.heap[l.blk]?=w.heap[l.blk]?
 pW:∀b,lp h b->h'[b]?=h[b]?
 new:∀b l,h.length<=b->aY b=y l->w.heap.size<=l.blk\/∃cm fa,live h cm/\¬lp h cm/\μ cm=y fa/\fa.blk=l.blk/\¬live h' cm
 dead:∀b,b<h.length->¬live h b->¬live h' b
 out:kG w b'
theorem ExtP.refl(μ:Ren)(h:aX)(w:World)(hd:∀b l,μ b=y l->b<h.length):ExtP μ h w μ h w:=
 ⟨cj _,λ_ _=>rfl,cj _,λ_ _ _=>rfl,λ_ _ _ _=>rfl,λ_ _=>rfl,λb l af e=>absurd (hd b l e) (by omega),λ_ _ h=>h,kG.rfl⟩
theorem ExtP.sM{μ aY:Ren}{h h':aX}{w b':World}(x:ExtP μ h w aY h' b')(hd:∀b l,μ b=y l->b<h.length):ev μ aY:=
 λb l e=>(x.e1 b (hd b l e)).trans e
theorem ExtP.yD{μ aY:Ren}{h h':aX}{w b':World}(x:ExtP μ h w aY h' b'){b:Nat}:lp h b->lp h' b
 |⟨vs,t,aG⟩=>⟨vs,t,(x.pW b ⟨vs,t,aG⟩).trans aG⟩
theorem ExtP.trans{μ aY m:Ren}{h h' n:aX}{w b' o:World}(x:ExtP μ h w aY h' b')(au:ExtP aY h' b' m n o)
 (hd:∀b l,μ b=y l->b<h.length):ExtP μ h w m n o where
 le:=ma x.le au.le
 e1 b af:=(au.e1 b (h4 af x.le)).trans (x.e1 b af)
 size:=ma x.size au.size
 frame c aa aA:=by
  rw[au.frame c (h4 aa x.size) ?_,x.frame c aa aA]
  intro b l ax e
  by_cases af:b<h.length
  ·rw[x.e1 b af]at e
   by_cases p:live h b
   ·exact aA b l p e
   ·exact absurd ax (x.dead b af p)
  ·rcases x.new b l (by omega) e with h1|⟨cm,fa,i,_,g,aG,_⟩
   ·omega
   ·rw[<-aG];exact aA cm fa i g
 ro b l e an:=by
  rw[au.ro b l ((x.e1 b (hd b l e)).trans e) (x.yD an),x.ro b l e an]
 pW b an:=by
  rw[au.pW b (x.yD an),x.pW b an]
 new b l af e:=by
  by_cases u:b<h'.length
  ·rw[au.e1 b u]at e
   rcases x.new b l af e with h1|⟨cm,fa,i,j,g,aG,k⟩
   ·exact .inl h1
   ·exact .inr ⟨cm,fa,i,j,g,aG,au.dead cm (h4 i.lt x.le) k⟩
  ·rcases au.new b l (by omega) e with h1|⟨cm,fa,i,j,g,aG,k⟩
   ·exact .inl (ma x.size h1)
   ·by_cases q:cm<h.length
    ·rw[x.e1 cm q]at g
     have z:live h cm:=qB λaA=>x.dead cm q aA i
     exact .inr ⟨cm,fa,z,λan=>j (x.yD an),g,aG,k⟩
    ·rcases x.new cm fa (by omega) g with h1|⟨cH,A,t,B,aF,C,D⟩
     ·exact .inl (by omega)
     ·exact .inr ⟨cH,A,t,B,aF,C.trans aG,au.dead cH (h4 t.lt x.le) D⟩
 dead b af aA:=au.dead b (h4 af x.le) (x.dead b af aA)
 out:=x.out.trans au.out
structure Ext(μ:Ren)(h:aX)(w:World)(aY:Ren)(h':aX)(b':World):Prop extends ExtP μ h w aY h' b' where
 pX:∀b,h.length<=b->live h' b->∃l,aY b=y l
theorem Ext.refl(μ:Ren)(h:aX)(w:World)(hd:∀b l,μ b=y l->b<h.length):Ext μ h w μ h w:=
 ⟨ExtP.refl μ h w hd,λb af ax=>absurd ax.lt (by omega)⟩
theorem Ext.sM{μ aY:Ren}{h h':aX}{w b':World}(x:Ext μ h w aY h' b')(hd:∀b l,μ b=y l->b<h.length):ev μ aY:=x.toExtP.sM hd
theorem Ext.trans{μ aY c:Ren}{h h' g:aX}{w b' i:World}(x:Ext μ h w aY h' b')(au:Ext aY h' b' c g i)
 (hd:∀b l,μ b=y l->b<h.length):Ext μ h w c g i:=by
 refine⟨x.toExtP.trans au.toExtP hd,λb af ax=>?_⟩
 by_cases j:b<h'.length
 ·have k:live h' b:=qB λaA=>au.dead b j aA ax
  obtain⟨l,e⟩:=x.pX b af k
  exact⟨l,(au.e1 b j).trans e⟩
 ·exact au.pX b (by omega) ax
theorem VK{P:Program}{μ:Ren}{w:World}{vs:List Value}{t:a1}{rw:Bool}{c K:Nat}{o:Obj}(cb:w.heap[c]?=y o)(af:fr P μ K (.cells vs t rw) o){i:Nat}{x:Value}(ae:vs[i]?=y x):
 ∃au,w.cell? ⟨c,i,none⟩=y au/\bp μ x au:=by
 obtain⟨cs,cJ,rfl,ax,ay,_⟩:=af
 obtain⟨au,ba,an⟩:=ay.get ae
 have ai:i<vs.length:=(List.getElem?_eq_some_iff.1 ae).1
 refine⟨au,?_,an⟩
 rw[mb ai]at ba
 simp only[xP,cb,Hl,bn,bh]
 simpa using ba
theorem VL{P:Program}{μ:Ren}{h:aX}{w:World}(s:cS P μ h w){b c K off:Nat}{x:Value}(e:μ b=y ⟨c,K⟩)(ae:pS h b off=y x):
 ∃au,w.cell? ⟨c,off,none⟩=y au/\bp μ x au:=by
 unfold pS at ae
 split at ae
 ·rename_i vs t r af
  obtain⟨o,g,i⟩:=s.rel b _ _ e af (by simp)
  exact VK g i ae
 ·cases ae
theorem Bh{P:Program}{μ:Ren}{h:aX}{w:World}(s:cS P μ h w){b c K off n:Nat}{xs:List Value}(e:μ b=y ⟨c,K⟩)(ae:jX h b off n=y xs):
 xs.length=n/\∃ys,cB μ xs ys/\∀j au,ys[j]?=y au->w.cell? ⟨c,off+j,none⟩=y au:=by
 unfold jX at ae
 split at ae
 ·rename_i vs t r af
  obtain⟨o,g,i⟩:=s.rel b _ _ e af (by simp)
  split at ae
  ·rename_i fm
   cases ae
   refine⟨by simp;omega,?_⟩
   obtain⟨cs,cJ,rfl,ax,ay,_⟩:=i
   refine⟨_,(ay.drop off).take n,λj au ba=>?_⟩
   have k:j<n:=by
    have:=(List.getElem?_eq_some_iff.1 ba).1
    simp at this
    omega
   rw[mb k,pK,mb (by omega)]at ba
   simp only[xP,g,Hl,bn,bh]
   simpa using ba
  ·cases ae
 ·cases ae
variable {P : Program} {μ : Ren}
theorem Md{op:BinOp}{x au c c_ v:Value}{t:a1}{X Y:Operand}{w:World}(ae:bp μ x c)(ba:bp μ au c_)(h:sD op x au=y v):
 (do lg op t X Y c c_;lM op t c c_:Sem Value).run P w=.ok v w/\bp μ v v:=by
 unfold sD at h
 split at h
 ·rename_i k a k' b
  cases ae
  cases ba
  have bG:(lg op t X Y (.int k a) (.int k' b)).run P w=.ok () w:=by
   unfold lg
   cases op<;>rfl
  simp only[eN,bG,et]
  cases op<;>simp only[]at h<;>first
   |(split at h
     ·cases h
     ·rename_i af
      cases h
      refine⟨?_,.int _ _⟩
      simp [lM,Op.shift,af])
   |(split at h
     ·rename_i ad
      subst ad
      first
       |(cases h;refine⟨?_,by constructor⟩;simp [lM,Op.intArith,Op.intBits,Op.intCmp];done)
       |(split at h
         ·cases h
         ·rename_i af
          cases h
          refine⟨?_,.int _ _⟩
          simp [lM,Op.intDiv,af])
     ·cases h)
 ·rename_i a b
  cases ae
  cases ba
  have bG:(lg op t X Y (.string a) (.string b)).run P w=.ok () w:=by
   unfold lg
   cases op<;>rfl
  simp only[eN,bG,et]
  cases op<;>simp only[]at h<;>first
   |(split at h
     ·rename_i fm
      cases h
      refine⟨?_,.string _⟩
      have e:(IntKind.i64.max:Int)=9223372036854775807:=by decide
      simp only[lM,Op.stringOp]
      rw[aW (by rw[e];omega)]
      rfl
     ·cases h)
   |(cases h;refine⟨?_,.bool _⟩;simp [lM,Op.stringOp];done)
   |cases h
 ·cases h
theorem eX{t:a1}{d:TypeDesc}{w:World}(h:P.underlying t=y d):(underlying t).run P w=.ok d w:=by
 simp [underlying,h]
theorem lR{t:a1}{i:TypeInfo}{w:World}(h:P.info? t=y i):(sizeOf t).run P w=.ok i.size w:=by
 simp [sizeOf,typeInfo,h]
theorem yE{t:a1}{i:TypeInfo}{z:Value}{w:World}(h:P.info? t=y i)(bu:i.zero=y z):(AB t).run P w=.ok z w:=by
 simp [AB,typeInfo,h,bu]
theorem rP{t:a1}{i:TypeInfo}{w:World}(h:P.info? t=y i):(typeInfo t).run P w=.ok i w:=by
 simp [typeInfo,h]
theorem HR{t:a1}{d:TypeDesc}{w:World}(h:P.underlying t=y d):(isAgg t).run P w=.ok (mj d) w:=by
 simp only[isAgg,eN,eX h,et]
 cases d<;>rfl
theorem Me(d:Nat){t:a1}{w:World}(aR:P.underlying t=y .bool)(a b:Bool):(jR (d+1) t (.bool a) (.bool b)).run P w=.ok (a==b) w:=by
 simp [jR,eX aR]
theorem VM{neg:Bool}{op:BinOp}{x au c c_ v:Value}{t:a1}{X Y:Operand}{w:World}(ae:bp μ x c)(ba:bp μ au c_)(h:AU neg x au=y v)
 (aR:P.underlying t=y .bool) (e:op=if neg then .neq else .eql):
 (do lg op t X Y c c_;lM op t c c_:Sem Value).run P w=.ok v w/\bp μ v v:=by
 unfold AU at h
 split at h
 ·rename_i a b
  cases ae
  cases ba
  cases h
  refine⟨?_,.bool _⟩
  subst e
  have he:(Op.equal t (.bool a) (.bool b)).run P w=.ok (a==b) w:=Me 9999 aR a b
  cases neg
  ·have bG:(lg .eql t X Y (.bool a) (.bool b)).run P w=.ok () w:=rfl
   simp [bG,lM,he]
  ·have bG:(lg .neq t X Y (.bool a) (.bool b)).run P w=.ok () w:=rfl
   simp [bG,lM,he]
 ·cases h
def kindOk:TypeDesc->Value->Bool
 |.slice _,.slice ..=>V
 |.pointer _,.pointer _=>V
 |.map _ _,.map _=>V
 |.func _ _ _,.func ..=>V
 |.func _ _ _,.nilFunc=>V
 |.interface _,.iface ..=>V
 |.interface _,.nilIface=>V
 |_,_=>M
theorem VN(d:Nat){t e:a1}{w:World}(aR:P.underlying t=y (.slice e))(a:Option Addr)(n c:Nat):
 (jR (d+1) t (.slice a n c) (.slice none 0 0)).run P w=.ok a.isNone w/\(jR (d+1) t (.slice none 0 0) (.slice a n c)).run P w=.ok a.isNone w:=by
 cases a<;>simp [jR,eX aR]
theorem VO(d:Nat){t k e:a1}{w:World}(aR:P.underlying t=y (.map k e))(a:Option Nat):
 (jR (d+1) t (.map a) (.map none)).run P w=.ok a.isNone w/\(jR (d+1) t (.map none) (.map a)).run P w=.ok a.isNone w:=by
 cases a<;>simp [jR,eX aR]
theorem VP(d:Nat){t e:a1}{w:World}(aR:P.underlying t=y (.pointer e))(a:Option Addr):
 (jR (d+1) t (.pointer a) (.pointer none)).run P w=.ok a.isNone w/\(jR (d+1) t (.pointer none) (.pointer a)).run P w=.ok a.isNone w:=by
 cases a<;>simp [jR,eX aR]
theorem Mf(d:Nat){t:a1}{bH rs:Array a1}{b:Bool}{w:World}(aR:P.underlying t=y (.func bH rs b))(f:Fn)(xs ys:Array Value):
 (jR (d+1) t (.func f xs ys) .nilFunc).run P w=.ok M w/\(jR (d+1) t .nilFunc (.func f xs ys)).run P w=.ok M w/\(jR (d+1) t .nilFunc .nilFunc).run P w=.ok V w:=by
 simp [jR,eX aR]
theorem Mg(d:Nat){t:a1}{b:Array (String×a1)}{w:World}(aR:P.underlying t=y (.interface b))(aZ:a1)(v:Value):
 (jR (d+1) t (.iface aZ v) .nilIface).run P w=.ok M w/\(jR (d+1) t .nilIface (.iface aZ v)).run P w=.ok M w/\(jR (d+1) t .nilIface .nilIface).run P w=.ok V w:=by
 simp [jR,eX aR]
def vT:Value->Bool
 |.slice none _ _|.pointer none|.nilFunc|.map none|.nilIface=>V
 |_=>M
theorem VQ{neg:Bool}{x v:Value}(h:x' neg x=y v):v=.bool (neg !=vT x):=by
 unfold x' at h
 split at h<;>first|(cases h;rfl)|cases h
theorem VR{d:TypeDesc}{t:a1}{x z:Value}{w:World}(aR:P.underlying t=y d)(bu:vM d=y z)(ad:kindOk d x=V):
 (Op.equal t x z).run P w=.ok (vT x) w/\(Op.equal t z x).run P w=.ok (vT x) w:=by
 cases d with
 |slice e=>
  cases bu
  cases x with
  |slice a n c=>have:=VN 9999 (w:=w) aR a n c;cases a<;>exact this
  |_=>simp [kindOk]at ad
 |pointer e=>
  cases bu
  cases x with
  |pointer a=>have:=VP 9999 (w:=w) aR a;cases a<;>exact this
  |_=>simp [kindOk]at ad
 |map k e=>
  cases bu
  cases x with
  |map a=>have:=VO 9999 (w:=w) aR a;cases a<;>exact this
  |_=>simp [kindOk]at ad
 |func bH rs b=>
  cases bu
  cases x with
  |func f xs ys=>have:=Mf 9999 (w:=w) aR f xs ys;exact⟨this.1,this.2.1⟩
  |nilFunc=>have:=(Mf 9999 (w:=w) aR (.func 0) #[] #[]).2.2;exact⟨this,this⟩
  |_=>simp [kindOk]at ad
 |interface g=>
  cases bu
  cases x with
  |iface aZ v=>have:=Mg 9999 (w:=w) aR aZ v;exact⟨this.1,this.2.1⟩
  |nilIface=>have:=(Mg 9999 (w:=w) aR 0 .nilIface).2.2;exact⟨this,this⟩
  |_=>simp [kindOk]at ad
 |_=>cases bu
theorem VS(d:Nat){t:a1}{c:IntKind}{w:World}(aR:P.underlying t=y (.int c))(k:IntKind)(a b:Int):(jR (d+1) t (.int k a) (.int k b)).run P w=.ok (a==b) w:=by
 simp [jR,eX aR]
theorem VT(d:Nat){t:a1}{w:World}(aR:P.underlying t=y .string)(a b:ByteArray):(jR (d+1) t (.string a) (.string b)).run P w=.ok (a==b) w:=by
 simp [jR,eX aR]
theorem VU{μ:Ren}:∀{dc:List fk} {xs ys fh e2:List Value} {r:Bool},hG dc xs ys=y r->cB μ xs fh->cB μ ys e2->fh=xs/\e2=ys:=by
 intro dc
 induction dc with
 |nil=>
  intro xs ys fh e2 r h ae ba
  cases ae with
  |nil=>cases ba with
   |nil=>exact⟨rfl,rfl⟩
   |cons=>simp [hG]at h
  |cons=>simp [hG]at h
 |cons k dc a6=>
  intro xs ys fh e2 r h ae ba
  unfold hG at h
  split at h
  ·rename_i heq;cases heq
  ·rename_i heq
   cases heq
   cases ae with
   |cons h1 h2=>
   cases ba with
   |cons cL cN=>
   cases h1
   cases cL
   split at h
   ·rw[du]at h
    obtain⟨dO,h,_⟩:=h
    obtain⟨rfl,rfl⟩:=a6 h h2 cN
    exact⟨rfl,rfl⟩
   ·cases h
  ·rename_i heq
   cases heq
   cases ae with
   |cons h1 h2=>
   cases ba with
   |cons cL cN=>
   cases h1
   cases cL
   rw[du]at h
   obtain⟨dO,h,_⟩:=h
   obtain⟨rfl,rfl⟩:=a6 h h2 cN
   exact⟨rfl,rfl⟩
  ·rename_i heq
   cases heq
   cases ae with
   |cons h1 h2=>
   cases ba with
   |cons cL cN=>
   cases h1
   cases cL
   rw[du]at h
   obtain⟨dO,h,_⟩:=h
   obtain⟨rfl,rfl⟩:=a6 h h2 cN
   exact⟨rfl,rfl⟩
  ·cases h
theorem Mh:∀{bw bD:List fk} {e g:List Value} {r:Bool},hG (bw++bD) e g=y r->∃i c,hG bw (e.take bw.length) (g.take bw.length)=y i/\hG bD (e.drop bw.length) (g.drop bw.length)=y c/\r=(i&&c):=by
 intro bw
 induction bw with
 |nil=>intro bD e g r h;exact⟨V,r,by simp [hG],by simpa using h,by simp⟩
 |cons b bw a6=>
  intro bD e g r h
  rw[List.cons_append]at h
  unfold hG at h
  split at h
  ·rename_i heq;cases heq
  ·rename_i heq
   cases heq
   split at h
   ·rename_i ad
    rw[du]at h
    obtain⟨q,br,rfl⟩:=h
    obtain⟨i,c,h1,h2,rfl⟩:=a6 br
    refine⟨_,c,?_,by simpa using h2,(xQ _ _ _).symm⟩
    simp only[jS,LL,hG,aP ad,h1,dw]
   ·cases h
  ·rename_i heq
   cases heq
   rw[du]at h
   obtain⟨q,br,rfl⟩:=h
   obtain⟨i,c,h1,h2,rfl⟩:=a6 br
   refine⟨_,c,?_,by simpa using h2,(xQ _ _ _).symm⟩
   simp only[jS,LL,hG,h1,dw]
  ·rename_i heq
   cases heq
   rw[du]at h
   obtain⟨q,br,rfl⟩:=h
   obtain⟨i,c,h1,h2,rfl⟩:=a6 br
   refine⟨_,c,?_,by simpa using h2,(xQ _ _ _).symm⟩
   simp only[jS,LL,hG,h1,dw]
  ·cases h
theorem HS:∀{dc:List fk} {c e:List Value} {r:Bool},hG dc c e=y r->c.length=dc.length/\e.length=dc.length:=by
 intro dc
 induction dc with
 |nil=>
  intro c e r h
  unfold hG at h
  split at h
  ·exact⟨rfl,rfl⟩
  all_goals first|contradiction|cases h
 |cons b dc a6=>
  intro c e r h
  unfold hG at h
  split at h
  ·rename_i heq;cases heq
  ·rename_i heq
   cases heq
   split at h
   ·rw[du]at h
    obtain⟨q,br,_⟩:=h
    obtain⟨h1,h2⟩:=a6 br
    exact⟨by simp [h1],by simp [h2]⟩
   ·cases h
  ·rename_i heq
   cases heq
   rw[du]at h
   obtain⟨q,br,_⟩:=h
   obtain⟨h1,h2⟩:=a6 br
   exact⟨by simp [h1],by simp [h2]⟩
  ·rename_i heq
   cases heq
   rw[du]at h
   obtain⟨q,br,_⟩:=h
   obtain⟨h1,h2⟩:=a6 br
   exact⟨by simp [h1],by simp [h2]⟩
  ·cases h
def bV(P:Program)(t:a1)(cs:List Value):Value:=match P.underlying t with
 |some d=>if mj d=V then .agg cs.toArray else cs.headD (.tuple #[])
 |none=>.tuple #[]
theorem Bi{t:a1}{l:Bool×Nat}{w:World}(ax:jb P t=y l){cs:Array Value}{off:Nat}(af:off+l.2<=cs.size)(aB:l.1=V\/0<l.2):(part t cs off).run P w=.ok (bV P t ((cs.toList.drop off).take l.2)) w:=by
 unfold jb at ax
 split at ax
 ·rename_i d i hd ai
  split at ax
  ·rename_i c
   cases ax
   unfold bV
   simp only[part,eN,HR hd,et,hd]
   cases ha:mj d with
   |true=>
    simp only[a_,eN,lR ai,et,gx]
    congr 2
    apply mL
    rw[Array.toList_extract]
    simp [List.extract]
   |false=>
    simp only[bn,bh]
    have b:off<cs.size:=by simp only at af;omega
    have aG:cs[off]?=y cs[off]:=lh b
    have aF:((cs.toList.drop off).take i.size).headD (.tuple #[])=cs[off]:=by
     have ae:cs.toList.drop off=cs[off]::cs.toList.drop (off+1):=by
      rw[List.drop_eq_getElem_cons (by simpa using b)]
      simp
     rw[ae]
     obtain⟨k,ad⟩:∃k,i.size=k+1:=⟨i.size-1,by omega⟩
     rw[ad]
     rfl
    rw[aG,aF]
    simp
  ·cases ax
 ·cases ax
def Bj(P:Program)(d:Nat)(t:a1)(dc:List fk):Prop:=∀(w:World) (b c:List Value) (r:Bool),hG dc b c=y r->(jR d t (bV P t b) (bV P t c)).run P w=.ok r w
theorem yF{t:a1}{l:Bool×Nat}(ax:jb P t=y l):0<l.2:=by
 unfold jb at ax
 split at ax
 ·split at ax
  ·rename_i b;cases ax;exact b
  ·cases ax
 ·cases ax
theorem VV{d:Nat}{t:a1}{b:fk}(af:ml (P.underlying t)=y b):Bj P (d+1) t [b]:=by
 intro w e g r h
 unfold hG at h
 unfold ml at af
 unfold bV
 split at h
 ·rename_i heq;cases heq
 ·rename_i heq
  cases heq
  split at h
  ·rename_i ad
   rw[du]at h
   obtain⟨q,br,rfl⟩:=h
   have ax:=HS br
   unfold hG at br
   split at br
   ·cases br
    split at af
    ·rename_i c
     subst ad
     simp only[c,mj,bn,bh,List.headD_cons,jT]
     exact VS d c _ _ _
    all_goals cases af
   all_goals first|contradiction|cases br
  ·cases h
 ·rename_i heq
  cases heq
  rw[du]at h
  obtain⟨q,br,rfl⟩:=h
  unfold hG at br
  split at br
  ·cases br
   split at af
   ·cases af
   ·rename_i c
    simp only[c,mj,bn,bh,List.headD_cons,jT]
    exact Me d c _ _
   all_goals cases af
  all_goals first|contradiction|cases br
 ·rename_i heq
  cases heq
  rw[du]at h
  obtain⟨q,br,rfl⟩:=h
  unfold hG at br
  split at br
  ·cases br
   split at af
   ·cases af
   ·cases af
   ·rename_i c
    simp only[c,mj,bn,bh,List.headD_cons,jT]
    exact VT d c _ _
   all_goals cases af
  all_goals first|contradiction|cases br
 ·cases h
theorem VW{d:Nat}{g:a1->Option (List fk)}(bG:∀t dc,g t=y dc->Bj P d t dc)(w:World){xs ys:Array Value}:∀{eR:List Field} {dc:List fk} {i:Nat} {r:Bool},A4 g P i eR=y dc->hG dc (xs.toList.drop i) (ys.toList.drop i)=y r->
 (Op.eqFields d xs ys eR).run P w=.ok r w:=by
 intro eR
 induction eR with
 |nil=>
  intro dc i r aE h
  cases aE
  unfold hG at h
  split at h
  ·cases h;simp [Op.eqFields]
  all_goals first|contradiction|cases h
 |cons f eR a6=>
  intro dc i r aE h
  unfold A4 at aE
  split at aE
  ·rename_i bw l ad b
   split at aE
   ·rename_i k
    obtain⟨c,aA,bz⟩:=k
    rw[du]at aE
    obtain⟨bD,vU,rfl⟩:=aE
    have m : f.name ≠ "_" := by simpa using aA
    have e:=HS h
    obtain⟨n,u,h1,h2,rfl⟩:=Mh h
    have o:i+l.2<=xs.size:=by
     have:=e.1
     have ah:=yF b
     simp only[xR,dV,pL]at this
     omega
    have p:i+l.2<=ys.size:=by
     have:=e.2
     have ah:=yF b
     simp only[xR,dV,pL]at this
     omega
    rw[bz]at h1 h2
    rw[vb,vb]at h2
    have q:=a6 vU h2
    have rQ:=Bi (w:=w) b o (.inr (yF b))
    have j:=Bi (w:=w) b p (.inr (yF b))
    rw[<-c]at rQ j
    have br:=bG f.type bw ad w _ _ _ h1
    rw[<-c]at br
    rw[Op.eqFields]
    simp only[aP m,eN,rQ,j,br,et]
    cases n
    ·simp
    ·simpa using q
   ·cases aE
  ·cases aE
theorem VX{d:Nat}{e:a1}{dc:List fk}{l:Bool×Nat}(bG:Bj P d e dc)(b:jb P e=y l)(bz:dc.length=l.2)(w:World){xs ys:Array Value}:∀(n j:Nat) {r:Bool},hG (yu dc n) (xs.toList.drop (j*l.2)) (ys.toList.drop (j*l.2))=y r->
 (Op.eqItems d e l.2 xs ys (AD j n)).run P w=.ok r w:=by
 intro n
 induction n with
 |zero=>
  intro j r h
  unfold yu hG at h
  split at h
  ·cases h;simp [Op.eqItems]
  all_goals first|contradiction|cases h
 |succ n a6=>
  intro j r h
  unfold yu at h
  have c:=HS h
  obtain⟨g,p,h1,h2,rfl⟩:=Mh h
  have ah:=yF b
  have i:j*l.2+l.2<=xs.size:=by
   have:=c.1
   simp only[xR,dV,pL]at this
   omega
  have k:j*l.2+l.2<=ys.size:=by
   have:=c.2
   simp only[xR,dV,pL]at this
   omega
  rw[bz]at h1 h2
  rw[vb,vb,<-Nat.succ_mul]at h2
  have m:=a6 (j+1) h2
  have rQ:=Bi (w:=w) b i (.inr ah)
  have o:=Bi (w:=w) b k (.inr ah)
  have br:=bG w _ _ _ h1
  rw[Vx,Op.eqItems]
  simp only[eN,rQ,o,br,et]
  cases g
  ·simp
  ·simpa using m
theorem HT(d:Nat):∀(m:Nat) (t:a1) (dc:List fk),vN P m t=y dc->Bj P (d+m) t dc
 |0,t,dc,h=>by cases h
 |m+1,t,dc,h=>by
  unfold vN at h
  split at h
  ·rename_i b af
   cases h
   exact VV af
  ·split at h
   ·rename_i eR c
    split at h
    ·rename_i o
     intro w p q r aa
     have j:P.fieldsOf t=eR:=by simp [Program.fieldsOf,c]
     unfold bV
     simp only[c,mj,a_]
     rw[show d+(m+1)=(d+m)+1 from rfl,run_equalIn_struct (P:=P) w (d+m) t _ _ (by rw[j];exact c) o,j]
     exact VW (λt dc ad=>HT d m t dc ad) w h (by simpa using aa)
    ·cases h
   ·rename_i n e c
    split at h
    ·rename_i bw l ad g
     split at h
     ·rename_i k
      cases h
      intro w p q r aa
      unfold bV
      simp only[c,mj,a_]
      obtain⟨i,ai⟩:∃i,P.info? e=y i:=by
       unfold jb at g
       split at g
       ·rename_i x z _ u;exact⟨_,u⟩
       ·cases g
      rw[show d+(m+1)=(d+m)+1 from rfl,run_equalIn_array w (d+m) _ _ c ai,k.2,List.range_eq_range']
      exact VX (HT d m e bw ad) g k.1 w n 0 (by simpa using aa)
     ·cases h
    ·cases h
   ·cases h
theorem Mi{μ:Ren}{dc:List fk}{neg:Bool}{op:BinOp}{x au c c_ v:Value}{t:a1}{X Y:Operand}{w:World}(ae:bp μ x c)(ba:bp μ au c_)(h:ya dc neg x au=y v)
 (aR:A5 P t=y dc) (g:op=if neg then .neq else .eql):
 (do lg op t X Y c c_;lM op t c c_:Sem Value).run P w=.ok v w/\bp μ v v:=by
 unfold ya at h
 split at h
 ·rename_i xs ys
  cases ae with
  |agg ae=>
  cases ba with
  |agg ba=>
  rename_i fh e2
  rw[du]at h
  obtain⟨r,h,rfl⟩:=h
  obtain⟨aG,aF⟩:=VU h ae ba
  obtain rfl:fh=xs:=mL aG
  obtain rfl:e2=ys:=mL aF
  have key:∀d,P.underlying t=y d->mj d=V->P.eqGuardType P.depth t=M->vN P 16 t=y dc->(do lg op t X Y (.agg fh) (.agg e2);lM op t (.agg fh) (.agg e2):Sem Value).run P w=.ok (.bool (neg !=r)) w:=by
   intro d b ha aa aE
   have he:(Op.equal t (.agg fh) (.agg e2)).run P w=.ok r w:=by
    have br:=HT 9984 16 t dc aE w fh.toList e2.toList r h
    unfold bV at br
    simp only[b,ha,a_]at br
    exact br
   subst g
   cases neg
   ·have bG:(lg .eql t X Y (.agg fh) (.agg e2)).run P w=.ok () w:=by
     simp [lg,aa]
    simp [bG,lM,he]
   ·have bG:(lg .neq t X Y (.agg fh) (.agg e2)).run P w=.ok () w:=by
     simp [lg,aa]
    simp [bG,lM,he]
  unfold A5 at aR
  split at aR
  ·rename_i eR b
   split at aR
   ·rename_i aa
    exact⟨key _ b rfl aa aR,.bool _⟩
   ·cases aR
  ·rename_i n e b
   split at aR
   ·rename_i aa
    exact⟨key _ b rfl aa aR,.bool _⟩
   ·cases aR
  ·cases aR
 ·cases h
end Go.bF
namespace Go.bF
variable {P : Program} {μ : Ren}
theorem nC(c o n:Nat):(⟨c,o,none⟩:Addr).add n=⟨c,o+n,none⟩:=by
 unfold Addr.add
 split
 ·rename_i h;subst h;rfl
 ·rfl
theorem bp.yG{x au:Value}(h:bp μ x au)(ae:kV x=V):au.oneCell'=V:=by
 cases h<;>first|rfl|(simp [kV,bF.dR]at ae)
theorem cB.yG{xs ys:List Value}(h:cB μ xs ys)(ae:xs.all kV=V):∀v∈ys,v.oneCell'=V:=by
 intro v ay
 obtain⟨i,ai⟩:=List.getElem?_of_mem ay
 have ax:=h.length
 have b:i<xs.length:=by have:=(List.getElem?_eq_some_iff.1 ai).1;omega
 obtain⟨au,ba,an⟩:=h.get (fJ b)
 rw[ai]at ba
 cases ba
 exact an.yG (List.all_eq_true.1 ae _ (List.getElem_mem b))
theorem Mj{h:aX}{b bj:Nat}{blk:iB}(af:live h b)(aA:blk≠.dead):live (h.set b blk) bj↔live h bj:=by
 have c:=af.lt
 unfold live
 by_cases e:b=bj
 ·subst e
  rw[fK c]
  exact⟨λ_=>af,λ_=>⟨blk,rfl,aA⟩⟩
 ·rw[hP e]
theorem HU{w:World}{c:Nat}{cs b:Array Value}{t:a1}{cJ:Nat×Nat}(h:w.heap[c]?=y (.cells cs t cJ)):
 (w.setRow c b).heap[c]?=y (.cells b t cJ):=by
 have e:=(Array.getElem?_eq_some_iff.1 h).1
 simp only[World.setRow]
 rw[LM,aP rfl,h]
 rfl
theorem yH{w:World}{c d:Nat}{b:Array Value}(h:c≠d):(w.setRow c b).heap[d]?=w.heap[d]?:=by
 simp only[World.setRow]
 rw[LM,aW h]
theorem setRow_size(w:World)(c:Nat)(b:Array Value):(w.setRow c b).heap.size=w.heap.size:=by
 simp [World.setRow]
theorem yI{h h':aX}{w:World}(s:cS P μ h w){b c K off:Nat}{l ys:List Value}(e:μ b=y ⟨c,K⟩)(ay:cB μ l ys)(cb:og h b off l=y h'):
 ∃b',(AE ⟨c,off,none⟩ ys).run P w=.ok () b'/\cS P μ h' b'/\Ext μ h w μ h' b':=by
 unfold og at cb
 split at cb
 ·rename_i vs t af
  split at cb
  ·rename_i aa
   cases cb
   obtain⟨o,p,cs,cJ,rfl,ax,A,B,C⟩:=s.rel b _ _ e af (by simp)
   replace p:w.heap[c]?=y (.cells cs t cJ):=p
   have D:=B rfl
   subst D
   have bz:=ay.length
   have m:live h b:=⟨_,af,by simp⟩
   have x:=run_storeCells_at (P:=P) c off t ys 0 cs w p (by omega) (ay.yG aa.2)
   simp only[vc]at x
   have q:∀bj,live (h.set b (.cells (vs.take off++l++vs.drop (off+l.length)) t V)) bj↔live h bj:=λbj=>Mj m (by simp)
   refine⟨_,x,⟨λbj g e'=>by rw[iz];exact s.cl bj g e',λbj g blk e' j aA=>?_,λcH z E F aG aF G H I=>s.inj cH z E F aG aF G ((q cH).1 H) ((q z).1 I),λbj g e'=>by rw[setRow_size];exact s.lt bj g e'⟩,?_⟩
   ·by_cases k:b=bj
    ·subst k
     rw[e]at e'
     cases e'
     rw[fK m.lt]at j
     cases j
     have c7:(cs.toList.take off++ys++cs.toList.drop (off+ys.length)).toArray.size=cs.size:=by simp;omega
     refine⟨_,HU p,_,_,rfl,?_,?_,λ_=>rfl,by rw[c7];exact C⟩
     ·rw[c7]
      simp
      omega
     ·have h1:(vs.take off++l++vs.drop (off+l.length)).length=vs.length:=by simp;omega
      rw[h1]
      have h2:=A.HQ ay off
      have ak:((cs.toList.take off++ys++cs.toList.drop (off+ys.length)).toArray.toList.take vs.length)=((cs.toList.take vs.length).take off++ys++(cs.toList.take vs.length).drop (off+ys.length)):=by
       have pa:vs.length<=cs.toList.length:=by simpa using ax
       apply fx
       intro i
       by_cases ai:i<vs.length
       ·rw[mb ai]
        by_cases aJ:i<off
        ·rw[eb,cI (by simp;omega),mb aJ,eb,cI (by simp;omega),mb aJ,mb ai]
        ·by_cases aO:i<off+ys.length
         ·rw[cI (by simp;omega),lN (by simp;omega),cI (by simp;omega),lN (by simp;omega)]
          simp only[kD]
          congr 1
          omega
         ·rw[lN (by simp;omega),lN (by simp;omega),pK,pK]
          simp only[dV,kD]
          rw[mb (by omega)]
          congr 1
          omega
       ·rw[eE (by simp;omega),eE (by simp;omega)]
      rw[ak]
      exact h2
    ·rw[hP k]at j
     have J:c≠g.blk:=λn=>k (s.inj b bj _ _ e e' n m ⟨_,j,aA⟩)
     obtain⟨o',L,M⟩:=s.rel bj g blk e' j aA
     exact⟨o',by rw[yH J];exact L,M⟩
   ·refine⟨⟨by rw[iz];exact cj _,λ_ _=>rfl,by rw[setRow_size];exact cj _,λg _ aA=>yH (λn=>aA b _ m e n),λbj g e' an=>yH (λn=>?_),λbj an=>?_,λbj g j e'=>absurd (s.cl bj g e') (by omega),λbj _ aA u=>aA ((q bj).1 u),⟨rfl,rfl,rfl⟩⟩,λbj j u=>absurd ((q bj).1 u).lt (by omega)⟩
    ·have:=s.inj b bj _ _ e e' n m an.live
     subst this
     obtain⟨ck,N,aF⟩:=an
     rw[af]at aF
     cases aF
    ·by_cases k:b=bj
     ·subst k
      obtain⟨ck,N,aF⟩:=an
      rw[af]at aF
      cases aF
     ·exact hP k
  ·cases cb
 ·cases cb
def grow(μ:Ren)(b c K:Nat):Ren:=λx=>if x=b then y ⟨c,K⟩else μ x
theorem sN{h:aX}{w:World}(s:cS P μ h w)(c K:Nat):ev μ (grow μ h.length c K):=λb l e=>by
 unfold grow
 rw[aW (by have:=s.cl b l e;omega)]
 exact e
theorem Mk(w:World)(o:Obj):(w.alloc o).heap[w.heap.size]?=y o:=by
 show(w.heap.push o)[w.heap.size]?=y o
 simp
theorem vV(w:World)(o:Obj){c:Nat}(h:c<w.heap.size):(w.alloc o).heap[c]?=w.heap[c]?:=by
 show(w.heap.push o)[c]?=w.heap[c]?
 rw[Array.getElem?_push_lt h,<-lh h]
theorem yJ(w:World)(o:Obj):(w.alloc o).heap.size=w.heap.size+1:=by
 show(w.heap.push o).size=w.heap.size+1
 simp
theorem Bk{h:aX}{blk:iB}{b:Nat}(af:b<h.length):live (h++[blk]) b↔live h b:=by
 unfold live
 rw[cI af]
theorem cS.alloc{h:aX}{w w0:World}(s:cS P μ h w)(cb:w0.heap=w.heap)(j:kG w w0){K:Nat}{blk:iB}{o:Obj}(af:fr P (grow μ h.length w.heap.size K) K blk o):
 cS P (grow μ h.length w.heap.size K) (h++[blk]) (w0.alloc o)/\Ext μ h w (grow μ h.length w.heap.size K) (h++[blk]) (w0.alloc o):=by
 have aB:w0.heap.size=w.heap.size:=by rw[cb]
 have i:∀b l,grow μ h.length w.heap.size K b=y l->(b=h.length/\l=⟨w.heap.size,K⟩)\/(b<h.length/\l.blk<w.heap.size/\μ b=y l):=by
  intro b l e
  unfold grow at e
  split at e
  ·rename_i g;cases e;exact .inl ⟨g,rfl⟩
  ·exact .inr ⟨s.cl b l e,s.lt b l e,e⟩
 constructor
 ·refine⟨λb l e=>?_,λb l blk' e g aA=>?_,λb bj l cK e e' e5 ax k=>?_,λb l e=>?_⟩
  ·rcases i b l e with⟨av,_⟩|⟨h1,_,_⟩<;>simp<;>omega
  ·rcases i b l e with⟨rfl,rfl⟩|⟨h1,h2,ak⟩
   ·rw[AF]at g
    cases g
    exact⟨o,by rw[<-aB];exact Mk w0 o,af⟩
   ·rw[cI h1]at g
    obtain⟨o',m,n⟩:=s.rel b l blk' ak g aA
    exact⟨o',by rw[vV w0 o (by omega),cb];exact m,n.mono (sN s _ _)⟩
  ·rcases i b l e with⟨rfl,rfl⟩|⟨h1,h2,ak⟩<;>rcases i bj cK e' with⟨rfl,rfl⟩|⟨hI,q,p⟩
   ·rfl
   ·simp only at e5;omega
   ·simp only at e5;omega
   ·exact s.inj b bj l cK ak p e5 ((Bk h1).1 ax) ((Bk hI).1 k)
  ·rw[yJ,aB]
   rcases i b l e with⟨_,rfl⟩|⟨_,h2,_⟩
   ·exact Nat.lt_succ_self _
   ·omega
 ·refine⟨⟨by simp,λb g=>?_,by rw[yJ,aB];omega,λc aa _=>by rw[vV w0 o (by omega),cb],λb l e _=>by rw[vV w0 o (by have:=s.lt b l e;omega),cb],λb an=>cI an.live.lt,λb l g e=>?_,λb g aA ax=>aA ((Bk g).1 ax),j⟩,λb g ax=>⟨⟨w.heap.size,K⟩,by have:=ax.lt;simp only[dV,List.length_singleton]at this;unfold grow;rw[aP (by omega)]⟩⟩
  ·unfold grow;rw[aW (by omega)]
  ·rcases i b l e with⟨_,rfl⟩|⟨h1,_,_⟩
   ·exact .inl (cj _)
   ·omega
theorem pY(b c K:Nat):grow μ b c K b=y ⟨c,K⟩:=by simp [grow]
theorem Ml{agg:Bool}{n:Nat}{x g v:Value}{h:aX}{w:World}(s:cS P μ h w)(ae:bp μ x g)(ay:oh agg n x h=y v)
 {t:a1} {d:TypeDesc} {i:TypeInfo} (aR:P.underlying t=y d) (ai:P.info? t=y i) (ha:mj d=agg) (aA:i.size=n):
 ∃v',(Instr.loadAt t g).run P w=.ok v' w/\bp μ v v':=by
 unfold oh at ay
 split at ay
 ·cases ae with
  |@ptr b c K o e=>
   simp only[Instr.loadAt,AG,eN,gx,et,loadVar,HR aR,ha]
   cases agg with
   |true=>
    simp only[du]at ay
    obtain⟨l,ax,rfl⟩:=ay
    obtain⟨bz,ys,k,aa⟩:=Bh s e ax
    have m:ys.length=n:=by rw[<-k.length,bz]
    have:=LN (P:=P) w ⟨c,o,none⟩ ys (λj v p=>by rw[nC];exact aa j v p)
    rw[m]at this
    exact⟨.agg ys.toArray,by simp [lR ai,aA,this],.agg k⟩
   |false=>
    obtain⟨au,ba,an⟩:=VL s e ay
    exact⟨au,by simp [ba],an⟩
 ·cases ay
theorem VY{n:Nat}{x b v v':Value}{h h':aX}{w:World}(s:cS P μ h w)(ae:bp μ x b)(ay:bp μ v v')(aB:sE n x v h=y h')
 {t:a1} {i:TypeInfo} (ai:P.info? t=y i) (aA:i.size=n) (av:0<n):
 ∃b',(Instr.storeAt t b v').run P w=.ok () b'/\cS P μ h' b'/\Ext μ h w μ h' b':=by
 unfold sE at aB
 split at aB
 ·rename_i a
  cases ae with
  |ptr e=>
   split at aB
   ·rename_i bz
    have pa:=ay.Mc (by omega)
    obtain⟨b',c,h1,h2⟩:=yI (P:=P) s e pa aB
    refine⟨b',?_,h1,h2⟩
    have c7:v'.cells.size=i.size:=by
     have:=pa.length
     rw[bz]at this
     rw[aA,this]
     simp
    simp only[Instr.storeAt,AG,eN,gx,et,storeVar,lR ai,c7,ne_eq,not_true_eq_false,bh]
    simpa using c
   ·cases aB
 ·cases aB
end Go.bF
namespace Go.bF
variable {P : Program} {μ : Ren} {w : World}
theorem Mm{neg:Bool}{op:BinOp}{x c v z:Value}{d:TypeDesc}{t:a1}{X Y:Operand}(ae:bp μ x c)(h:x' neg x=y v)
 (aR:P.underlying t=y d) (bu:vM d=y z) (ad:kindOk d x=V) (g:op=if neg then .neq else .eql):
 (Y=.const z->(do lg op t X Y c z;lM op t c z:Sem Value).run P w=.ok v w)/\
 (X=.const z->(do lg op t X Y z c;lM op t z c:Sem Value).run P w=.ok v w)/\bp μ v v:=by
 have ay:=VQ h
 subst ay
 have i:kindOk d c=V:=by cases ae<;>simp_all [kindOk,bF.dR]<;>(cases d<;>simp_all)
 have aA:vT c=vT x:=by cases ae<;>simp_all [vT,bF.dR,x']
 have heq:=VR (P:=P) (w:=w) aR bu i
 rw[aA]at heq
 have bG:∀a b:Value,(X=.const z\/Y=.const z)->(a=z\/b=z)->(lg op t X Y a b).run P w=.ok () w:=by
  intro a b aa j
  have k:∀cs,z≠.agg cs:=by intro cs e;subst e;cases d<;>simp [vM]at bu
  unfold lg
  subst g
  cases neg<;>
  ·simp only[bn,bh,a_]
   cases a<;>cases b<;>first
    |rfl
    |(rcases aa with rfl|rfl<;>first|rfl|(cases X<;>rfl))
    |(rcases j with e|e<;>exact absurd e.symm (k _))
 refine⟨λl=>?_,λm=>?_,.bool _⟩
 ·simp only[eN,bG c z (.inr l) (.inr rfl),et]
  subst g
  cases d<;>simp only[vM,sw,reduceCtorEq]at bu<;>subst bu<;>cases c<;>simp only[kindOk,bn]at i<;>cases neg<;>
   simp [lM,heq.1,Bool.xor_false,Bool.xor_true]
 ·simp only[eN,bG z c (.inl m) (.inl rfl),et]
  subst g
  cases d<;>simp only[vM,sw,reduceCtorEq]at bu<;>subst bu<;>cases c<;>simp only[kindOk,bn]at i<;>cases neg<;>
   simp [lM,heq.2,Bool.xor_false,Bool.xor_true]
theorem VZ{op:UnOp}{x b v:Value}(ae:bp μ x b)(h:AV op x=y v):(Op.unary op b).run P w=.ok v w/\bp μ v v:=by
 unfold AV at h
 split at h
 ·cases ae;cases h;exact⟨by simp [Op.unary,Op.intArith],.int _ _⟩
 ·cases ae;cases h;exact⟨by simp [Op.unary],.bool _⟩
 ·cases ae;cases h;exact⟨by simp [Op.unary,Op.intBits],.int _ _⟩
 ·cases h
theorem V0{k:IntKind}{x b v:Value}{s d:a1}{dS:TypeDesc}(ae:bp μ x b)(h:AX k x=y v)(aB:P.underlying s=y dS)(hd:P.underlying d=y (.int k)):
 (convert s d b).run P w=.ok v w/\bp μ v v:=by
 unfold AX at h
 split at h
 ·cases ae
  cases h
  refine⟨?_,.int _ _⟩
  simp only[convert,eN,eX aB,eX hd,et]
  cases dS<;>rfl
 ·cases h
theorem V1{x b v:Value}{s d:a1}(ae:bp μ x b)(h:AW x=y v)(aB:P.underlying s=y .string)(hd:P.underlying d=y .string):
 (convert s d b).run P w=.ok v w/\bp μ v v:=by
 unfold AW at h
 split at h
 ·cases ae
  cases h
  refine⟨?_,.string _⟩
  simp only[convert,eN,eX aB,eX hd,et]
  rfl
 ·cases h
theorem V2{c e x g au c_ v:Value}(aa:bp μ c e)(ae:bp μ x g)(ba:bp μ au c_)(h:vv c x au=y v):
 ∃b,e=.bool b/\bp μ v (if b then g else c_):=by
 unfold vv at h
 split at h
 ·rename_i b
  cases aa
  cases h
  refine⟨b,rfl,?_⟩
  cases b<;>simpa
 ·cases h
theorem Mn{str:Bool}{x b v:Value}{t ty:a1}(ae:bp μ x b)(h:AY str x=y v)(aR:if str=V then P.underlying t=y .string else ∃e,P.underlying t=y (.slice e)):
 (xS #[t] ty #[b]).run P w=.ok v w/\bp μ v v:=by
 unfold AY at h
 split at h
 ·cases ae
  cases h
  exact⟨by simp [xS,eX aR,goInt],.int _ _⟩
 ·obtain⟨e,aR⟩:=aR
  cases h
  cases ae<;>exact⟨by simp [xS,eX aR,goInt],.int _ _⟩
 ·cases h
theorem V3{x b v:Value}{i:Nat}(ae:bp μ x b)(h:yb x i=y v):∃v',(Instr.extract b i).run P w=.ok v' w/\bp μ v v':=by
 unfold yb at h
 split at h
 ·rename_i vs
  cases ae with
  |@tuple _ ys ax=>
   have h':vs.toList[i]?=y v:=by simpa using h
   obtain⟨au,ba,an⟩:=ax.get h'
   refine⟨au,?_,an⟩
   have c:ys[i]?=y au:=by simpa using ba
   simp [Instr.extract,c]
 ·cases h
theorem Mo{agg:Bool}{off size:Nat}{xs:List Value}{ys:Array Value}{v:Value}(ax:cB μ xs ys.toList)(h:vw agg off size xs=y v)
 {t:a1} {d:TypeDesc} {i:TypeInfo} (aR:P.underlying t=y d) (ai:P.info? t=y i) (ha:mj d=agg) (aA:i.size=size):
 ∃v',(part t ys off).run P w=.ok v' w/\bp μ v v':=by
 unfold vw at h
 simp only[part,eN,HR aR,ha,et]
 cases agg with
 |true=>
  simp only[]at h
  split at h
  ·rename_i fm
   cases h
   refine⟨.agg (ys.extract off (off+size)),by simp [lR ai,aA],.agg ?_⟩
   have h1:=(ax.drop off).take size
   have h2:(ys.extract off (off+size)).toList=(ys.toList.drop off).take size:=by
    rw[Array.toList_extract]
    simp [List.extract]
   rw[h2]
   exact h1
  ·cases h
 |false=>
  simp only[]at h
  obtain⟨au,ba,an⟩:=ax.get h
  refine⟨au,?_,an⟩
  have b:ys[off]?=y au:=by simpa using ba
  simp [b]
theorem V4{agg:Bool}{off size f:Nat}{x c v:Value}(ae:bp μ x c)(h:AZ agg off size x=y v)
 {t:a1} {eR:Array Field} {b:Field} {d:TypeDesc} {i:TypeInfo} (e:P.underlying t=y (.struct eR)) (aE:eR[f]?=y b) (g:b.offset=off)
 (aR:P.underlying b.type=y d) (ai:P.info? b.type=y i) (ha:mj d=agg) (aA:i.size=size):
 ∃v',(Instr.field t c f).run P w=.ok v' w/\bp μ v v':=by
 unfold AZ at h
 split at h
 ·cases ae with
  |agg ax=>
   obtain⟨v',an,ay⟩:=Mo (P:=P) (w:=w) ax h aR ai ha aA
   refine⟨v',?_,ay⟩
   simp [Instr.field,eX e,aE,asAgg,g,an]
 ·cases h
theorem V5{n:Nat}{agg:Bool}{size:Nat}{x b i c v:Value}(ae:bp μ x b)(ai:bp μ i c)(h:yc n agg size x i=y v)
 {t e:a1} {d:TypeDesc} {g:TypeInfo} (m:P.underlying t=y (.array n e)) (aR:P.underlying e=y d) (l:P.info? e=y g) (ha:mj d=agg) (aA:g.size=size):
 ∃v',(LO t b c).run P w=.ok v' w/\bp μ v v':=by
 unfold yc at h
 split at h
 ·rename_i cs k j
  cases ai
  cases ae with
  |agg ax=>
   split at h
   ·rename_i o
    obtain⟨v',an,ay⟩:=Mo (P:=P) (w:=w) ax h aR l ha aA
    refine⟨v',?_,ay⟩
    simp only[LO,vd,eN,gx,et,eX m]
    simp [o,lR l,aA,an]
   ·cases h
 ·cases h
theorem V6{x c i e v:Value}(ae:bp μ x c)(ai:bp μ i e)(h:yd x i=y v){t:a1}(g:P.underlying t=y .string):
 (LO t c e).run P w=.ok v w/\bp μ v v:=by
 unfold yd at h
 split at h
 ·rename_i s k j
  cases ai
  cases ae
  split at h
  ·rename_i l
   simp only[du]at h
   obtain⟨b,af,rfl⟩:=h
   refine⟨?_,.int _ _⟩
   have m:s[j.toNat]?=y b:=by
    rw[<-af]
    obtain⟨h1,h2⟩:=Array.getElem?_eq_some_iff.1 af
    have ak:j.toNat<s.size:=h1
    rw[getElem?_pos s j.toNat ak,af]
    exact cZ y h2
   simp only[LO,vd,eN,gx,et,eX g]
   simp [l,m]
  ·cases h
 ·cases h
theorem V7{off f:Nat}{x j v:Value}(ae:bp μ x j)(h:vx off x=y v){t:a1}{eR:Array Field}{g:Field}{i:TypeInfo}
 (k:P.underlying t=y (.struct eR)) (aE:eR[f]?=y g) (l:g.offset=off) (ai:P.info? g.type=y i) (aA:i.size≠0):
 ∃v',(Instr.fieldAt t j f).run P w=.ok v' w/\bp μ v v':=by
 unfold vx at h
 split at h
 ·cases ae with
  |@ptr b c K o e=>
   cases h
   refine⟨.pointer (y ⟨c,o+off,none⟩),?_,.ptr e⟩
   simp [Instr.fieldAt,eX k,aE,AG,fieldPlace,lR ai,aA,nC,l]
 ·cases h
theorem V8{size:Nat}{x l i m v:Value}(ae:bp μ x l)(ai:bp μ i m)(h:vy size x i=y v){t e:a1}{p:TypeInfo}
 (q:P.underlying t=y (.slice e)) (u:P.info? e=y p) (aA:p.size=size):
 ∃v',(LP t l m).run P w=.ok v' w/\bp μ v v':=by
 unfold vy at h
 split at h
 ·rename_i a n c k j
  cases ai
  split at h
  ·rename_i g
   cases h
   cases ae with
   |@bZ b z K o _ _ _ e=>
    refine⟨.pointer (y ⟨z,o+j.toNat*size,none⟩),?_,.ptr e⟩
    simp only[LP,vd,eN,gx,et,eX q]
    simp [g,lR u,aA,nC]
   |gb=>simp at g;omega
   |hs=>simp at g;omega
  ·cases h
 ·cases h
theorem V9{n size:Nat}{x c i g v:Value}(ae:bp μ x c)(ai:bp μ i g)(h:vz n size x i=y v){t e:a1}{l:TypeInfo}
 (m:P.underlying t=y (.array n e)) (p:P.info? e=y l) (aA:l.size=size):
 ∃v',(LP t c g).run P w=.ok v' w/\bp μ v v':=by
 unfold vz at h
 split at h
 ·rename_i a k j
  cases ai
  split at h
  ·rename_i q
   cases h
   cases ae with
   |@ptr b u K o e=>
    refine⟨.pointer (y ⟨u,o+j.toNat*size,none⟩),?_,.ptr e⟩
    simp only[LP,vd,eN,gx,et,eX m,AG]
    simp [q,lR p,aA,nC]
  ·cases h
 ·cases h
theorem HV{f:Value->Value->Option Value}{g:Value->Value->Sem Value}(c:∀x au b c_ v,bp μ x b->bp μ au c_->f x au=y v->(g b c_).run P w=.ok v w/\bp μ v v):
 ∀{xs ys:List Value} {x b v:Value},bp μ x b->cB μ xs ys->vA f x xs=y v->∃v',(ys.foldlM g b).run P w=.ok v' w/\bp μ v v'
 |[],_,x,b,v,ae,ax,h=>by
  cases ax
  cases h
  exact⟨b,rfl,ae⟩
 |au::xs,_,x,b,v,ae,ax,h=>by
  cases ax with
  |@cons _ c_ _ ys ba aB=>
   simp only[vA,cX]at h
   obtain⟨z,bu,h⟩:=h
   obtain⟨h1,h2⟩:=c _ _ _ _ _ ae ba bu
   obtain⟨v',ak,aJ⟩:=HV c h2 aB h
   exact⟨v',by simp [List.foldlM_cons,h1,ak],aJ⟩
theorem V_{x au b c_ v:Value}(ae:bp μ x b)(ba:bp μ au c_)(h:yf x au=y v):(Builtin.max2 b c_).run P w=.ok v w/\bp μ v v:=by
 unfold yf at h
 split at h
 ·cases ae;cases ba
  split at h
  ·cases h;exact⟨rfl,.int _ _⟩
  ·cases h
 ·cases h
theorem V'{x au b c_ v:Value}(ae:bp μ x b)(ba:bp μ au c_)(h:yg x au=y v):(Builtin.min2 b c_).run P w=.ok v w/\bp μ v v:=by
 unfold yg at h
 split at h
 ·cases ae;cases ba
  split at h
  ·cases h;exact⟨rfl,.int _ _⟩
  ·cases h
 ·cases h
end Go.bF
namespace Go.bF
variable {P : Program} {μ : Ren} {w : World}
def h7(μ:Ren)(x b:Option Value):Prop:=match x,b with
 |none,none=>True
 |some v,y v'=>bp μ v v'
 |_,_=>False
theorem vW{d gO:Nat}{x b:Option Value}{m most':Nat}(ae:h7 μ x b)(h:il d x gO=y m)(hm:gO<=most'):
 (x=none/\b=none/\m=d)\/∃v v',x=y v/\b=y v'/\m<=gO/\∀code,(Instr.sliceBound v' most' code).run P w=.ok m w:=by
 cases x with
 |none=>
  cases b with
  |none=>cases h;exact .inl ⟨rfl,rfl,rfl⟩
  |some v'=>exact ae.elim
 |some v=>
  cases b with
  |none=>exact ae.elim
  |some v'=>
   unfold il at h
   split at h
   ·rename_i e;cases e
   ·rename_i k j e
    cases e
    have ay:bp μ (.int k j) v':=ae
    cases ay
    split at h
    ·rename_i c
     cases h
     refine .inr ⟨_,_,rfl,rfl,by omega,λcode=>?_⟩
     simp only[Instr.sliceBound,vd,eN,gx,et]
     rw[aP (by omega)]
     rfl
    ·cases h
   ·cases h
theorem t_{isS:Bool}{n gO most':Nat}{lo j ai k mx mx':Option Value}{l h m:Nat}(h1:h7 μ lo j)(h2:h7 μ ai k)(ak:h7 μ mx mx')
 (q:mx.isSome=V->ai.isSome=V) (hm:gO<=most')
 (t:il gO mx gO=y m) (aF:il n ai m=y h) (aG:il 0 lo h=y l):
 ∃fl,(Vy isS n most' j k mx').run P w=.ok (l,h,fl) w/\l<=h/\(n<=gO->h<=m)/\m<=gO/\((mx=none/\m=gO/\fl=most')\/(mx≠none/\fl=m)):=by
 unfold Vy
 rcases vW (P:=P) (w:=w) (most':=most') ak t hm with⟨rfl,rfl,c⟩|⟨v3,x,rfl,rfl,c,o⟩
 ·rcases vW (P:=P) (w:=w) (most':=most') h2 aF (by omega)with⟨rfl,rfl,e⟩|⟨v2,u,rfl,rfl,e,g⟩
  ·rcases vW (P:=P) (w:=w) (most':=h) h1 aG (cj _)with⟨rfl,rfl,b⟩|⟨v1,p,rfl,rfl,b,i⟩
   ·exact⟨most',by subst e b;simp,by omega,by omega,by omega,.inl ⟨rfl,c,rfl⟩⟩
   ·exact⟨most',by subst e;simp [i],by omega,by omega,by omega,.inl ⟨rfl,c,rfl⟩⟩
  ·rcases vW (P:=P) (w:=w) (most':=h) h1 aG (cj _)with⟨rfl,rfl,b⟩|⟨v1,p,rfl,rfl,b,i⟩
   ·exact⟨most',by subst b;simp [g],by omega,by omega,by omega,.inl ⟨rfl,c,rfl⟩⟩
   ·exact⟨most',by simp [i,g],by omega,by omega,by omega,.inl ⟨rfl,c,rfl⟩⟩
 ·rcases vW (P:=P) (w:=w) (most':=m) h2 aF (cj _)with⟨rfl,rfl,e⟩|⟨v2,u,rfl,rfl,e,g⟩
  ·simp at q
  ·rcases vW (P:=P) (w:=w) (most':=h) h1 aG (cj _)with⟨rfl,rfl,b⟩|⟨v1,p,rfl,rfl,b,i⟩
   ·exact⟨m,by subst b;simp [g,o],by omega,by omega,by omega,.inr ⟨by simp,rfl⟩⟩
   ·exact⟨m,by simp [i,g,o],by omega,by omega,by omega,.inr ⟨by simp,rfl⟩⟩
theorem Wa{size:Nat}{x I v:Value}{lo A ai B mx mx':Option Value}(ae:bp μ x I)(h1:h7 μ lo A)(h2:h7 μ ai B)(ak:h7 μ mx mx')
 (p:mx.isSome=V->ai.isSome=V) (h:o1 size x lo ai mx=y v) {t e:a1} {i:TypeInfo} (aR:P.underlying t=y (.slice e)) (M:P.info? e=y i) (aA:i.size=size) (W:0<size):
 ∃v',(xT t I A B mx').run P w=.ok v' w/\bp μ v v':=by
 have key:∀a' n G l h fl,(Vy V n G A B mx').run P w=.ok (l,h,fl) w->
  (xT t (.slice a' n G) A B mx').run P w=.ok (.slice (if fl=l then a' else a'.map (·.add (l*size))) (h-l) (fl-l)) w:=by
  intro a' n G l h fl an
  simp only[xT,eN,eX aR,et,Instr.slice,an,lR M,aA,gx]
 unfold o1 at h
 split at h
 ·rename_i a n c
  simp only[cX]at h
  obtain⟨m,g,C,aF,l,aG,h⟩:=h
  cases ae with
  |mQ=>
   have aa:(0:Nat)≠eQ:=by decide
   rw[aW aa]at g
   rw[aW aa]at h
   cases h
   obtain⟨fl,an,D,k,E,j⟩:=t_ (P:=P) (w:=w) (isS:=V) (most':=0) h1 h2 ak p (cj _) g aF aG
   refine⟨_,key _ _ _ _ _ _ an,?_⟩
   have q:m=0:=by omega
   have H:fl=0:=by rcases j with⟨_,_,aO⟩|⟨_,aO⟩<;>omega
   have u:C=0:=by have:=k (cj _);omega
   subst q H u
   have:(if(0:Nat)=l then(none:Option Addr)else none.map λa:Addr=>⟨a.block,a.off+l*size,none⟩)=none:=by split<;>rfl
   have ct:(if(0:Nat)=l then(none:Option Addr)else none.map λa:Addr=>a.add (l*size))=none:=by split<;>rfl
   simp only[Option.map_none]at this ct|-
   rw[this,Nat.zero_sub]
   exact .mQ
  |@bZ b X K o _ _ c2 e N=>
   rcases N with⟨aa,rfl⟩|⟨aa,fm,O⟩
   ·have J:c2≠eQ:=by omega
    rw[aW J]at g
    rw[aW J]at h
    cases h
    obtain⟨fl,an,D,k,E,j⟩:=t_ (P:=P) (w:=w) (isS:=V) (most':=c2) h1 h2 ak p (cj _) g aF aG
    have Q:fl=m:=by rcases j with⟨_,aJ,aO⟩|⟨_,aO⟩<;>omega
    subst Q
    refine⟨_,key _ _ _ _ _ _ an,?_⟩
    have L:fl-l<eQ:=by omega
    split
    ·exact .bZ e (.inl ⟨L,rfl⟩)
    ·simp only[dw,nC]
     exact .bZ e (.inl ⟨L,rfl⟩)
   ·subst aa
    rw[aP rfl]at g
    obtain⟨fl,an,D,k,E,j⟩:=t_ (P:=P) (w:=w) (isS:=V) (most':=c2) h1 h2 ak p fm g aF aG
    refine⟨_,key _ _ _ _ _ _ an,?_⟩
    have R:=k (cj _)
    rw[aP rfl]at h
    rcases j with⟨rfl,aJ,aO⟩|⟨aJ,rfl⟩
    ·cases h
     simp only[dw,nC]
     by_cases nD:fl=l
     ·rw[aP nD]
      have:C-l=0:=by omega
      rw[this]
      exact .gb _ _ _
     ·rw[aW nD]
      exact .bZ e (.inr ⟨rfl,by omega,λY=>by
       have z:l*size=0:=by omega
       have Z:l=0:=by rcases Nat.mul_eq_zero.1 z with S|S<;>omega
       have:=O (by omega)
       omega⟩)
    ·cases mx with
     |none=>exact absurd rfl aJ
     |some sO=>
      simp only[]at h
      split at h
      ·rename_i ab
       cases h
       simp only[dw,nC]
       by_cases nD:fl=l
       ·rw[aP nD,aP nD]
        exact .bZ e (.inl ⟨by omega,rfl⟩)
       ·rw[aW nD,aW nD]
        exact .bZ e (.inl ⟨by omega,rfl⟩)
      ·cases h
  |gb T F c2=>
   rw[aP rfl]at g
   obtain⟨fl,an,D,k,E,j⟩:=t_ (P:=P) (w:=w) (isS:=V) (most':=c2) h1 h2 ak p (hO _) g aF aG
   refine⟨_,key _ _ _ _ _ _ an,?_⟩
   have R:=k (cj _)
   have q:m=0:=by omega
   have u:C=0:=by omega
   have z:l=0:=by omega
   subst q u z
   rw[aP rfl]at h
   have U:(if fl=0 then y F else(y F).map λa=>a.add (0*size))=y F:=by
    split
    ·rfl
    ·rw[nq];rfl
   rw[U,Nat.sub_self]
   rcases j with⟨rfl,aJ,aO⟩|⟨aJ,aO⟩
   ·cases h
    exact .gb _ _ _
   ·cases mx with
    |none=>exact absurd rfl aJ
    |some sO=>
     simp only[]at h
     split at h
     ·cases h
      subst aO
      exact .hs _ _
     ·cases h
  |hs T F=>
   have aa:(0:Nat)≠eQ:=by decide
   rw[aW aa]at g h
   cases h
   obtain⟨fl,an,D,k,E,j⟩:=t_ (P:=P) (w:=w) (isS:=V) (most':=0) h1 h2 ak p (cj _) g aF aG
   refine⟨_,key _ _ _ _ _ _ an,?_⟩
   have q:m=0:=by omega
   have H:fl=0:=by rcases j with⟨_,_,aO⟩|⟨_,aO⟩<;>omega
   have u:C=0:=by have:=k (cj _);omega
   have z:l=0:=by omega
   subst q H u z
   exact .hs _ _
 ·cases h
theorem Wb{x b v:Value}{lo c ai e:Option Value}(ae:bp μ x b)(h1:h7 μ lo c)(h2:h7 μ ai e)(h:ye x lo ai=y v)
 {t:a1} (aR:P.underlying t=y .string):(xT t b c e none).run P w=.ok v w/\bp μ v v:=by
 unfold ye at h
 split at h
 ·rename_i s
  cases ae
  simp only[cX]at h
  obtain⟨g,aF,l,aG,h⟩:=h
  cases h
  obtain⟨fl,an,_⟩:=t_ (P:=P) (w:=w) (isS:=M) (n:=s.size) (most':=s.size) (mx:=none) (mx':=none) h1 h2 trivial (by simp) (cj s.size) rfl aF aG
  refine⟨?_,.string _⟩
  simp [xT,eX aR,Instr.slice,an]
 ·cases h
theorem Wc{n size:Nat}{x g v:Value}{lo j ai k mx mx':Option Value}(ae:bp μ x g)(h1:h7 μ lo j)(h2:h7 μ ai k)(ak:h7 μ mx mx')
 (p:mx.isSome=V->ai.isSome=V) (h:HC n size x lo ai mx=y v) {t e:a1} {i:TypeInfo} (aR:P.underlying t=y (.array n e)) (q:P.info? e=y i) (aA:i.size=size) (C:n<eQ):
 ∃v',(xT t g j k mx').run P w=.ok v' w/\bp μ v v':=by
 unfold HC at h
 split at h
 ·cases ae with
  |@ptr b c K o e=>
   simp only[cX]at h
   obtain⟨m,u,z,aF,l,aG,h⟩:=h
   cases h
   obtain⟨fl,an,D,E,F,A⟩:=t_ (P:=P) (w:=w) (isS:=M) (most':=n) h1 h2 ak p (cj _) u aF aG
   have B:fl=m:=by rcases A with⟨_,aJ,aO⟩|⟨_,aO⟩<;>omega
   subst B
   refine⟨.slice (y (if fl=l then⟨c,o,none⟩else(⟨c,o,none⟩:Addr).add (l*size))) (z-l) (fl-l),?_,?_⟩
   ·simp only[xT,eN,eX aR,et,AG,gx,an,lR q,aA]
   ·rw[nC]
    split
    ·exact .bZ e (.inl ⟨by omega,rfl⟩)
    ·exact .bZ e (.inl ⟨by omega,rfl⟩)
 ·cases h
end Go.bF
namespace Go.bF
variable {P : Program} {μ : Ren} {w : World}
theorem Mp:∀(l:List Value) (k off:Nat) (cs:Array Value),off+k+l.length<=cs.size->
 (l.zipIdx k).foldl (λcs (p:Value×Nat)=>cs.setIfInBounds (off+p.2) p.1) cs=(cs.toList.take (off+k)++l++cs.toList.drop (off+k+l.length)).toArray
 |[],k,off,cs,_=>by simp
 |x::l,k,off,cs,h=>by
  simp only[jS]at h
  simp only[List.zipIdx_cons,ve]
  rw[Mp l (k+1) off _ (by simp;omega)]
  apply mL
  simp only[Array.toList_setIfInBounds,jS]
  have b:off+k<cs.toList.length:=by simp;omega
  apply fx
  intro i
  by_cases h1:i<off+k
  ·rw[eb,cI (by simp;omega),mb (by omega),hP (by omega),eb,cI (by simp;omega),mb h1]
  ·by_cases h2:i=off+k
   ·subst h2
    rw[eb,cI (by simp;omega),mb (by omega),fK b,eb,lN (by simp;omega)]
    simp only[kD]
    rw[show off+k-min (off+k) cs.toList.length=0 from by omega]
    rfl
   ·by_cases ak:i<off+k+1+l.length
    ·rw[cI (by simp;omega),lN (by simp;omega),cI (by simp;omega),lN (by simp;omega)]
     simp only[kD,iz]
     rw[show i-min (off+k) cs.toList.length=(i-min (off+(k+1)) cs.toList.length)+1 from by omega,mK]
    ·rw[lN (by simp;omega),lN (by simp;omega),pK,pK,hP (by simp;omega)]
     congr 1
     simp only[dV,kD,iz,jS]
     omega
def HW(μ:Ren)(place:Nat->Option (Nat×Nat)):List (Nat×Nat×Value)->List (Nat×Value)->Prop
 |[],[]=>True
 |(off,size,v)::bH,(i,v')::b=>place i=y (off,size)/\0<size/\bp μ v v'/\HW μ place bH b
 |_,_=>False
theorem HX{place:Nat->Option (Nat×Nat)}:∀{bH:List (Nat×Nat×Value)} {b:List (Nat×Value)} {cells l:List Value} {cs:Array Value},
 HW μ place bH b->cB μ cells cs.toList->pQ cells bH=y l->∃c,Hm place cs b=y c/\cB μ l c.toList
 |[],[],cells,l,cs,_,aa,h=>by cases h;exact⟨cs,rfl,aa⟩
 |[],_::_,_,_,_,ah,_,_=>ah.elim
 |_::_,[],_,_,_,ah,_,_=>ah.elim
 |(off,size,v)::bH,(i,v')::b,cells,l,cs,ah,aa,h=>by
  obtain⟨h1,h2,ak,aJ⟩:=ah
  simp only[pQ]at h
  split at h
  ·rename_i e
   have pa:=ak.Mc (by omega)
   have ax:=pa.length
   have k:cells.length=cs.size:=by have:=aa.length;simpa using this
   have c7:v'.cells.size=size:=by rw[<-e.1,ax];simp
   have g:v'.cells.zipIdx.foldl (λcs (p:Value×Nat)=>cs.setIfInBounds (off+p.2) p.1) cs=(cs.toList.take off++v'.cells.toList++cs.toList.drop (off+size)).toArray:=by
    rw[<-Array.foldl_toList,Array.toList_zipIdx,Mp _ 0 off cs (by simp;omega)]
    simp [c7]
   have j:cB μ (cells.take off++kU v++cells.drop (off+size)) (cs.toList.take off++v'.cells.toList++cs.toList.drop (off+size)):=
    ((aa.take off).append pa).append (aa.drop _)
   obtain⟨c,aE,an⟩:=HX (cs:=(cs.toList.take off++v'.cells.toList++cs.toList.drop (off+size)).toArray) aJ j h
   refine⟨c,?_,an⟩
   simp only[Hm,h1]
   rw[aW (by simp [c7];omega)]
   exact(cZ (λz=>Hm place z b) g).trans aE
  ·cases h
theorem Wd(zero:List Value)(n:Nat):(rep zero n).length=n*zero.length:=by
 induction n with
 |zero=>simp [rep]
 |succ n a6=>simp [rep,a6,Nat.succ_mul,Nat.add_comm]
theorem Bl(zero:Array Value)(n:Nat):((tM (n*zero.size)).map (zero[·%zero.size]!)).toList=rep zero.toList n:=by
 simp only[LQ,Array.toList_range]
 induction n with
 |zero=>simp [rep]
 |succ n a6=>
  have an:fj ((n+1)*zero.size)=fj zero.size++(fj (n*zero.size)).map (zero.size+·):=by
   rw[show(n+1)*zero.size=zero.size+n*zero.size from by rw[Nat.succ_mul,Nat.add_comm],List.range_add]
  rw[an,List.map_append,List.map_map,rep]
  congr 1
  ·apply List.ext_getElem
   ·simp
   ·intro i h1 h2
    have ak:i<zero.size:=by simpa using h1
    simp [Nat.mod_eq_of_lt ak,ak]
  ·rw[<-a6]
   apply List.map_congr_left
   intro i _
   simp only[Function.comp]
   rw[Nat.add_mod_left]
theorem cB.o_{l:List Value}(h:l.all iP=V):cB μ l l:=cB.Bd (λ_=>bp.o_) h
theorem cB.rep{zero:List Value}(h:cB μ zero zero)(n:Nat):cB μ (rep zero n) (rep zero n):=by
 induction n with
 |zero=>exact .nil
 |succ n a6=>exact h.append a6
theorem We{elem:a1}{zero:List Value}{n e c g:Value}{h:aX}{v:Value}{h1:aX}(s:cS P μ h w)(aA:bp μ n e)(aa:bp μ c g)
 (hm:tV elem zero n c h=y (v,h1)) {t:a1} {i:TypeInfo} {z:Value} (aR:P.underlying t=y (.slice elem)) (ai:P.info? elem=y i) (bu:i.zero=y z)
 (j:z.cells.toList=zero) (k:z.cells.size=i.size) (af:i.bytes<=16384) (l:zero.all iP=V):
 ∃v' bC μ1,(Instr.makeSlice t e g).run P w=.ok v' bC/\bp μ1 v v'/\cS P μ1 h1 bC/\Ext μ h w μ1 h1 bC:=by
 unfold tV at hm
 split at hm
 ·rename_i a b
  cases aA
  cases aa
  split at hm
  ·rename_i m
   cases hm
   simp only[dp]at m
   have D:P.cellsOf elem=i.size:=by simp [Program.cellsOf,ai]
   have o:((tM (b.toNat*i.size)).map (z.cells[·%z.cells.size]!)).toList=rep zero b.toNat:=by
    rw[<-k,<-j]
    exact Bl _ _
   have bz:((tM (b.toNat*i.size)).map (z.cells[·%z.cells.size]!)).size=b.toNat*i.size:=by simp
   have p:fr P (grow μ h.length w.heap.size 0) 0 (.cells (rep zero b.toNat) elem V) (.cells ((tM (b.toNat*i.size)).map (z.cells[·%z.cells.size]!)) elem (0,0)):=by
    refine⟨_,_,rfl,?_,?_,λ_=>rfl,by omega⟩
    ·rw[bz,Wd,<-j]
     simp [k]
    ·rw[o,iy]
     exact(cB.o_ l).rep _
   obtain⟨h2,ak⟩:=s.alloc (w0:=w) rfl kG.rfl p
   have q:IntKind.i64.wrap a=a:=by rw[IntKind.wrap_i64];omega
   have u:IntKind.i64.wrap b=b:=by rw[IntKind.wrap_i64];omega
   refine⟨.slice (y ⟨w.heap.size,0,none⟩) a.toNat b.toNat,_,_,?_,.bZ (pY _ _ _) (.inl ⟨by unfold eQ;omega,rfl⟩),h2,ak⟩
   have A:¬((i.bytes:Int)*b>2 ^ 48):=by
    have:(i.bytes:Int)*b<=16384*4294967296:=by
     apply xW<;>omega
    omega
   simp only[Instr.makeSlice,eN,eX aR,asInt,vd,gx,et,rP ai,q,u]
   have B:((decide (b<0)||decide ((i.bytes:Int)*b>2 ^ 48))||decide (a<0)||decide (a>b))=M:=by
    simp only[Bool.or_eq_false_iff,iA]
    exact⟨⟨⟨by omega,A⟩,by omega⟩,by omega⟩
   rw[B]
   simp only[bn,bh,eN,run_askRoom,et,lR ai]
   by_cases av:b.toNat*i.size=0
   ·rw[aP av]
    simp only[eN,gx,et,newRow,xX]
    have C:(tM (b.toNat*i.size)).map (λx=>(#[]:Array Value)[x%(#[]:Array Value).size]!)=(tM (b.toNat*i.size)).map (z.cells[·%z.cells.size]!):=by
     rw[av];apply mL;simp
    rw[C]
    rfl
   ·rw[aW av]
    simp only[eN,yE ai bu,gx,et,newRow,xX]
    rfl
  ·cases hm
 ·cases hm
theorem Mq{w0 w:World}(e:w0.heap=w.heap)(a:Addr):w0.cell? a=w.cell? a:=by simp only[xP,e]
theorem HY{size n:Nat}{x i:Value}{h:aX}{l:List Value}(s:cS P μ h w)(ae:bp μ x i)(aE:lP size n x h=y l):
 ∃ys:Array Value,(∀w0:World,w0.heap=w.heap->(oX size n i).run P w0=.ok ys w0)/\cB μ l ys.toList/\l.length=n*size:=by
 unfold lP at aE
 split at aE
 ·rename_i a m c
  split at aE
  ·rename_i g
   cases aE
   subst g
   cases ae with
   |bZ=>exact⟨#[],λw0 _=>by simp [oX,vf,vg],.nil,by simp⟩
   |gb=>exact⟨#[],λw0 _=>by simp [oX,vf,vg],.nil,by simp⟩
   |hs=>exact⟨#[],λw0 _=>by simp [oX,vf,vg],.nil,by simp⟩
  rename_i z
  split at aE
  ·rename_i A
   have bz:l.length=n*size:=by
    unfold jX at aE
    split at aE
    ·split at aE
     ·cases aE;simp;omega
     ·cases aE
    ·cases aE
   cases ae with
   |@bZ b p K o _ _ fl e _=>
    obtain⟨_,ys,k,aa⟩:=Bh s e aE
    have q:ys.length=n*size:=by rw[<-k.length,bz]
    refine⟨ys.toArray,λw0 t=>?_,k,bz⟩
    have:=LN (P:=P) w0 ⟨p,o,none⟩ ys (λj v u=>by rw[nC,Mq t];exact aa j v u)
    rw[q]at this
    simp [oX,this]
   |gb a a' fl=>
    have g:n=0:=by omega
    subst g
    have ax:l=[]:=by rw[nq]at bz;exact gF bz
    subst ax
    exact⟨#[],λw0 _=>by simp [oX,vf,vg],.nil,bz⟩
   |hs a a'=>
    have g:n=0:=by omega
    subst g
    have ax:l=[]:=by rw[nq]at bz;exact gF bz
    subst ax
    exact⟨#[],λw0 _=>by simp [oX,vf,vg],.nil,bz⟩
  ·cases aE
 ·cases ae with
  |mQ=>
   split at aE
   ·rename_i g
    cases aE
    subst g
    exact⟨#[],λw0 _=>rfl,.nil,by simp⟩
   ·cases aE
 ·rename_i st
  cases ae
  split at aE
  ·rename_i aa
   cases aE
   refine⟨(st.extract 0 n).data.map λb=>.int .u8 b.toNat,λw0 _=>rfl,?_,?_⟩
   ·rw[LQ]
    refine cB.o_ (List.all_eq_true.2 λv ay=>?_)
    obtain⟨b,_,rfl⟩:=List.mem_map.1 ay
    rfl
   ·rw[c9,aa.1,Nat.mul_one]
    have:(st.extract 0 n).size=n:=by rw[ByteArray.size_extract];omega
    exact this
  ·cases aE
 ·cases aE
theorem Mr{x b:Value}{m:Nat}(ae:bp μ x b)(h:lenOf x=y m):(Builtin.lenOf b).run P w=.ok m w:=by
 unfold lenOf at h
 split at h<;>first
  |(cases h;cases ae<;>rfl)
  |cases h
theorem nextslicecap_le{b cap:Nat}(h:cap<b):AH b cap<=2*b+1024:=by
 have bG:∀r c,c<=2*b+1024->Builtin.growBy b r c<=2*b+1024:=by
  intro r
  induction r with
  |zero=>intro c aa;exact aa
  |succ r a6=>
   intro c aa
   simp only[Builtin.growBy]
   split
   ·exact aa
   ·exact a6 _ (by omega)
 unfold AH
 split
 ·omega
 ·split
  ·omega
  ·exact bG 4 cap (by omega)
theorem cS.kill{h:aX}{w bC:World}{b c K:Nat}{blk:iB}{o:Obj}(s:cS P μ h w)(e:μ b=y ⟨c,K⟩)(ax:live h b)(p:¬lp h b)
 (cb:bC.heap[c]?=y o) (q:∀d,d≠c->bC.heap[d]?=w.heap[d]?) (c7:bC.heap.size=w.heap.size) (B:kG w bC) (af:fr P (grow μ h.length c K) K blk o):
 cS P (grow μ h.length c K) (h.set b .dead++[blk]) bC/\Ext μ h w (grow μ h.length c K) (h.set b .dead++[blk]) bC:=by
 have bz:(h.set b .dead).length=h.length:=iz
 have k:∀bj l,grow μ h.length c K bj=y l->(bj=h.length/\l=⟨c,K⟩)\/(bj<h.length/\μ bj=y l):=by
  intro bj l e'
  unfold grow at e'
  split at e'
  ·rename_i g;cases e';exact .inl ⟨g,rfl⟩
  ·exact .inr ⟨s.cl bj l e',e'⟩
 have t:∀bj,bj<h.length->(h.set b .dead++[blk])[bj]?=if b=bj then y .dead else h[bj]?:=by
  intro bj g
  rw[cI (by rw[bz];exact g)]
  split
  ·rename_i m;subst m;rw[fK g]
  ·rename_i m;rw[hP m]
 have j:∀bj,bj<h.length->live (h.set b .dead++[blk]) bj->live h bj/\b≠bj:=by
  rintro bj g ⟨x,ae,aA⟩
  rw[t bj g]at ae
  split at ae
  ·cases ae;exact absurd rfl aA
  ·rename_i m;exact⟨⟨x,ae,aA⟩,m⟩
 constructor
 ·refine⟨λbj l e'=>?_,λbj l blk' e' g aA=>?_,λcH n u z aG aF e5 h1 h2=>?_,λbj l e'=>?_⟩
  ·rcases k bj l e' with⟨av,_⟩|⟨h1,_⟩<;>simp<;>omega
  ·rcases k bj l e' with⟨rfl,rfl⟩|⟨h1,h2⟩
   ·rw[<-bz,AF]at g
    cases g
    exact⟨o,cb,af⟩
   ·have i:=j bj h1 ⟨_,g,aA⟩
    rw[t bj h1,aW i.2]at g
    obtain⟨o',C,D⟩:=s.rel bj l blk' h2 g aA
    have E:l.blk≠c:=λaa=>i.2 (s.inj b bj _ l e h2 aa.symm ax i.1)
    exact⟨o',by rw[q _ E];exact C,D.mono (sN s _ _)⟩
  ·rcases k cH u aG with⟨rfl,rfl⟩|⟨hI,ak⟩<;>rcases k n z aF with⟨rfl,rfl⟩|⟨A,aJ⟩
   ·rfl
   ·have:=j n A h2
    exact absurd (s.inj b n _ _ e aJ e5 ax this.1) this.2
   ·have:=j cH hI h1
    exact absurd (s.inj b cH _ _ e ak e5.symm ax this.1) this.2
   ·exact s.inj cH n u z ak aJ e5 (j cH hI h1).1 (j n A h2).1
  ·rw[c7]
   rcases k bj l e' with⟨_,rfl⟩|⟨_,h2⟩
   ·exact s.lt b _ e
   ·exact s.lt bj l h2
 ·refine⟨⟨by simp,λbj g=>?_,by omega,λF _ aA=>q F (λaa=>aA b _ ax e aa.symm),λbj l e' an=>q _ (λaa=>?_),λbj an=>?_,λbj l g e'=>?_,λbj g aA i=>aA (j bj g i).1,B⟩,λbj g i=>⟨⟨c,K⟩,by have:=i.lt;simp only[dV,List.length_singleton,iz]at this;unfold grow;rw[aP (by omega)]⟩⟩
  ·unfold grow;rw[aW (by omega)]
  ·have:=s.inj bj b l _ e' e aa an.live ax
   subst this
   exact p an
  ·rw[t bj an.live.lt,aW]
   rintro rfl
   exact p an
  ·rcases k bj l e' with⟨_,rfl⟩|⟨h1,_⟩
   ·refine .inr ⟨b,_,ax,p,e,rfl,λi=>(j b ax.lt i).2 rfl⟩
   ·omega
theorem cS.giveUp{h:aX}{b:Nat}(s:cS P μ h w)(n:¬lp h b):cS P μ (h.set b .dead) w/\Ext μ h w μ (h.set b .dead) w:=by
 have i:∀bj,bj<h.length->(h.set b .dead)[bj]?=if b=bj then y .dead else h[bj]?:=by
  intro bj c
  split
  ·rename_i j;subst j;rw[fK c]
  ·rename_i j;rw[hP j]
 have g:∀bj,live (h.set b .dead) bj->live h bj:=by
  rintro bj ⟨x,ae,aA⟩
  have c:bj<h.length:=by have:=(List.getElem?_eq_some_iff.1 ae).1;simpa using this
  rw[i bj c]at ae
  split at ae
  ·cases ae;exact absurd rfl aA
  ·exact⟨x,ae,aA⟩
 constructor
 ·refine⟨λbj l e=>by rw[iz];exact s.cl bj l e,λbj l blk e c aA=>?_,λcH m o p aG aF e5 h1 h2=>s.inj cH m o p aG aF e5 (g cH h1) (g m h2),s.lt⟩
  rw[i bj (s.cl bj l e)]at c
  split at c
  ·cases c;exact absurd rfl aA
  ·exact s.rel bj l blk e c aA
 ·refine⟨⟨by simp,λ_ _=>rfl,cj _,λ_ _ _=>rfl,λ_ _ _ _=>rfl,λbj an=>?_,λbj l c e=>absurd (s.cl bj l e) (by omega),λbj _ aA k=>aA (g bj k),kG.rfl⟩,λbj c k=>absurd (g bj k).lt (by omega)⟩
  rw[i bj an.live.lt,aW]
  rintro rfl
  exact n an
theorem Wf{size n m c:Nat}{a':Option Addr}{c_:Value}{ys:Array Value}{elem ty st xt:a1}{i:TypeInfo}{b:TypeDesc}(e:P.underlying st=y (.slice elem))(g:P.underlying xt=y b)(h:∀k,b≠.int k)
 (ai:P.info? elem=y i) (c7:i.size=size) (bz:(Builtin.lenOf c_).run P w=.ok m w) (j:(oX size m c_).run P w=.ok ys w) (l:n+m<=c):
 (qC #[st,xt] ty #[.slice a' n c,c_]).run P w=
   (match a' with|some a=>(AE (a.add (n*size)) ys.toList).run P w|none=>.ok () w).andThen λ_ b'=>.ok (.slice a' (n+m) c) b':=by
 have bu:(b matches .int _)=M:=by cases b<;>first|rfl|exact absurd rfl (h _)
 simp only[qC,xY,ki,mK,eN,eX e,eX g,lR ai,c7,et,gx,bu,bn,bh,bz,l,a_,gN,j]
 cases a' with
 |none=>simp
 |some a=>simp
theorem Wg{size n m b:Nat}{a':Option Addr}{c_:Value}{ys olds:Array Value}{elem ty st xt:a1}{i:TypeInfo}{z:Value}{c:TypeDesc}(e:P.underlying st=y (.slice elem))(g:P.underlying xt=y c)(h:∀k,c≠.int k)
 (ai:P.info? elem=y i) (c7:i.size=size) (bu:i.zero=y z) (j:i.bytes<=16384) (bz:(Builtin.lenOf c_).run P w=.ok m w)
 (l:∀w0:World,w0.heap=w.heap->(oX size m c_).run P w0=.ok ys w0) (o:∀w0:World,w0.heap=w.heap->(oX size n (.slice a' n b)).run P w0=.ok olds w0)
 (p:b<n+m) (q:n+m<=dp):
 ∃cap,n+m<=cap/\(qC #[st,xt] ty #[.slice a' n b,c_]).run P w=
  .ok (.slice (y ⟨w.heap.size,0,none⟩) (n+m) cap) (w.drew.alloc (.cells (olds++ys++nr z.cells (cap-(n+m))) elem)):=by
 have t:(c matches .int _)=M:=by cases c<;>first|rfl|exact absurd rfl (h _)
 refine⟨(LR (n+m) b elem).cut (w.tape w.drawn (.appendCap (n+m) b elem)),?_,?_⟩
 ·simp only[Question.cut]
  omega
 ·have D:=nextslicecap_le p
  unfold dp at q
  have u:¬(AH (n+m) b*i.bytes>2 ^ 48):=by
   have:AH (n+m) b*i.bytes<=(2*4294967296+1024)*16384:=Nat.mul_le_mul (by omega) j
   omega
  have x:(IntKind.i64.max:Int)=9223372036854775807:=by decide
  have A:¬(((n+m:Nat):Int)>IntKind.i64.max/\(False\/i.bytes=0)):=by rw[x];omega
  have B:(LR (n+m) b elem).forced=M:=rfl
  have C:({ w with drawn:=w.drawn+1 }:World)=w.drew:=rfl
  simp only[qC,xY,ki,mK,eN,eX e,eX g,lR ai,c7,et,gx,t,bn,bh,bz,
   show ¬(n+m<=b)from by omega,rP ai,gN,a_]
  rw[aW A]
  simp only[eN,rP ai,et]
  rw[aW u]
  simp only[eN,run_choose,B,bn,bh,C,et,rP ai,run_askRoom,o w.drew rfl,l w.drew rfl,yE ai bu,newRow,xX,gx]
  rfl
theorem Ms{elem:a1}{size m:Nat}{x N:Value}{new:List Value}{ys:Array Value}{h:aX}{v:Value}{h1:aX}(s:cS P μ h w)(ae:bp μ x N)
 (ha:mN elem size x m new h=y (v,h1)) {i:TypeInfo} {z:Value} (A:Value->Sem Value) (D:cB μ new ys.toList) (H:new.length=m*size)
 (u:∀(n:Nat) (a':Option Addr) (g:Nat),n+m<=g->(A (.slice a' n g)).run P w=(match a' with|some a=>(AE (a.add (n*size)) ys.toList).run P w|none=>.ok () w).andThen λ_ b'=>.ok (.slice a' (n+m) g) b')
 (aC:∀(n:Nat) (a':Option Addr) (g:Nat) (olds:Array Value),(∀w0:World,w0.heap=w.heap->(oX size n (.slice a' n g)).run P w0=.ok olds w0)->g<n+m->n+m<=dp->
   ∃cap,n+m<=cap/\(A (.slice a' n g)).run P w=.ok (.slice (y ⟨w.heap.size,0,none⟩) (n+m) cap) (w.drew.alloc (.cells (olds++ys++nr z.cells (cap-(n+m))) elem)))
 (ai:P.info? elem=y i) (c7:i.size=size) (bu:i.zero=y z) (aD:z.cells.size=i.size):
 ∃v' bC μ1,(A N).run P w=.ok v' bC/\bp μ1 v v'/\cS P μ1 h1 bC/\Ext μ h w μ1 h1 bC:=by
 have Y:P.cellsOf elem=size:=by simp [Program.cellsOf,ai,c7]
 have aE:∀k,(nr z.cells k).size=k*size:=by intro k;simp [nr,aD,c7]
 unfold mN at ha
 split at ha
 ·rename_i a n c
  replace u:=u n
  have al:m=0->ys=#[]:=by
   rintro rfl
   have h2:=D.length
   rw[H,nq]at h2
   exact mL (gF h2.symm)
  have am:ys.toList.length=m*size:=by rw[<-D.length,H]
  have O:∀{a':Option Addr} {g:Nat},bp μ (.slice a n c) (.slice a' n g)->∀(olds:Array Value) (e1:List Value),(∀w0:World,w0.heap=w.heap->(oX size n (.slice a' n g)).run P w0=.ok olds w0)->cB μ e1 olds.toList->
   e1.length=n*size->g<n+m->n+m<=dp->∀{I:aX},(I=h\/∃b l,μ b=y l/\live h b/\¬lp h b/\I=h.set b .dead)->
   ∃v' bC μ1,(A (.slice a' n g)).run P w=.ok v' bC/\bp μ1 (.slice (y ⟨h.length,0,none⟩) (n+m) eQ) v'/\cS P μ1 (I++[.cells (e1++new) elem V]) bC/\Ext μ h w μ1 (I++[.cells (e1++new) elem V]) bC:=by
   intro a' g _ olds e1 Z G Q aG J I aH
   obtain⟨cap,q,bG⟩:=aC n a' g olds Z aG J
   have holds:olds.size=n*size:=by have:=G.length;rw[Q]at this;simpa using this.symm
   have R:ys.size=m*size:=by simpa using am
   have S:∀ao,fr P (grow μ h.length w.heap.size ao) cap (.cells (e1++new) elem V) (.cells (olds++ys++nr z.cells (cap-(n+m))) elem (0,0)):=by
    intro ao
    refine⟨_,_,rfl,?_,?_,λ_=>rfl,?_⟩
    ·simp [holds,R,Q,H]
    ·simp only[LS]
     rw[eb olds.toList,<-eb,List.take_append_of_le_length (by simp [holds,R,Q,H]),vh (by simp [holds,R,Q,H])]
     exact(G.append D).mono (sN s _ _)
    ·rw[Y]
     simp only[Array.size_append,holds,R,aE]
     rw[<-iL,<-iL]
     exact Nat.le_of_eq (cZ (·*size) (by omega))
   rcases aH with rfl|⟨b,l,aV,aY,aI,rfl⟩
   ·obtain⟨aO,bt⟩:=s.alloc (w0:=w.drew) rfl ⟨rfl,rfl,rfl⟩ (S cap)
    refine⟨_,_,_,bG,.bZ (pY _ _ _) (.inr ⟨rfl,q,λ_=>cj _⟩),aO,bt⟩
   ·obtain⟨aK,N⟩:=s.giveUp aI
    have ap:=S cap
    rw[<-iz (i:=b) (a:=iB.dead)]at ap
    obtain⟨aO,bt⟩:=aK.alloc (w0:=w.drew) rfl ⟨rfl,rfl,rfl⟩ ap
    have aq:=pY (μ:=μ) (h.set b .dead).length w.heap.size cap
    rw[iz]at aq aO bt
    refine⟨_,_,_,bG,.bZ aq (.inr ⟨rfl,q,λ_=>cj _⟩),aO,N.trans bt s.cl⟩
  by_cases B:c=eQ
  ·subst B
   rw[aP rfl]at ha
   split at ha
   ·rename_i b
    by_cases E:m=0
    ·subst E
     rw[aP rfl]at ha
     cases ha
     have ab:=al rfl
     subst ab
     have aZ:∀a:Addr,(AE a (#[]:Array Value).toList).run P w=.ok () w:=λa=>rfl
     cases ae with
     |@bZ _ C K _ _ _ c2 e q=>
      rcases q with⟨p,_⟩|⟨_,ac,T⟩
      ·omega
      ·refine⟨_,w,μ,?_,.bZ e (.inr ⟨rfl,ac,T⟩),s,Ext.refl _ _ _ s.cl⟩
       rw[u _ _ (by omega)]
       rfl
     |gb L F c2=>
      refine⟨_,w,μ,?_,.gb _ F c2,s,Ext.refl _ _ _ s.cl⟩
      rw[u _ _ (by omega)]
      rfl
    ·rw[aW E]at ha
     split at ha
     ·rename_i vs t af
      split at ha
      ·rename_i aa
       cases ha
       obtain⟨ar,jc,rfl,a0,aL⟩:=aa
       cases ae with
       |@bZ _ C K _ _ _ c2 e q=>
        rcases q with⟨p,_⟩|⟨_,ac,T⟩
        ·omega
        have au:=T rfl
        obtain⟨o,M,cs,cJ,rfl,ax,av,aM,U⟩:=s.rel b _ _ e af (by simp)
        replace M:w.heap[C]?=y (.cells cs t cJ):=M
        have aN:=aM rfl
        subst aN
        have ay:live h b:=⟨_,af,by simp⟩
        have aA:¬lp h b:=by
         rintro⟨ck,a2,aF⟩
         rw[af]at aF
         cases aF
        rw[Y]at U
        replace U:K*size<=cs.size:=U
        by_cases an:n+m<=c2
        ·
         have aQ:(n+m)*size<=cs.size:=ma (Nat.mul_le_mul_right _ (show n+m<=K from ma an au)) U
         rw[iL]at aQ
         have aB:=run_storeCells_at (P:=P) C (n*size) t ys.toList 0 cs w M (by omega) (D.yG aL)
         simp only[vc]at aB
         have S:fr P (grow μ h.length C K) K (.cells (vs.take (n*size)++new) t V) (.cells (cs.toList.take (n*size)++ys.toList++cs.toList.drop (n*size+ys.toList.length)).toArray t (0,0)):=by
          have aR:=D.length
          refine⟨_,_,rfl,?_,?_,λ_=>rfl,?_⟩
          ·have h2:ys.size=m*size:=by simpa using am
           simp
           omega
          ·have h2:(vs.take (n*size)++new).length=n*size+ys.toList.length:=by rw[dV,kD,aR];omega
           rw[h2]
           have ak:(cs.toList.take (n*size)++ys.toList++cs.toList.drop (n*size+ys.toList.length)).take (n*size+ys.toList.length)=cs.toList.take (n*size)++ys.toList:=by
            rw[List.take_append_of_le_length (by simp;omega),vh (by simp;omega)]
           simp only[List.toList_toArray]
           rw[ak]
           have aJ:=(av.take (n*size)).append D
           rw[sx,ns ar]at aJ
           exact aJ.mono (sN s _ _)
          ·rw[Y]
           simp
           omega
         obtain⟨aO,bt⟩:=cS.kill s e ay aA (HU M) (λd hd=>yH (oa hd)) (setRow_size _ _ _) ⟨rfl,rfl,rfl⟩ S
         refine⟨_,_,_,?_,.bZ (pY _ _ _) (.inr ⟨rfl,an,λ_=>au⟩),aO,bt⟩
         rw[u _ _ an]
         simp only[nC,hh,aB,et]
        ·
         exact O (.bZ e (.inr ⟨rfl,ac,T⟩)) (cs.toList.take (n*size)).toArray (vs.take (n*size)) (λw0 aS=>by
          have h2:=LN (P:=P) w0 ⟨C,0,none⟩ (cs.toList.take (n*size)) (λj v ad=>by
           have aT:j<n*size:=by
            have ct:=(List.getElem?_eq_some_iff.1 ad).1
            rw[kD]at ct
            omega
           rw[mb aT]at ad
           rw[nC,Mq aS]
           simp only[xP,M,Hl,bn,bh,hh]
           simpa using ad)
          rw[show(cs.toList.take (n*size)).length=n*size from by simp;omega]at h2
          simpa [oX]using h2) (by
          have aJ:=av.take (n*size)
          rw[sx,ns ar]at aJ
          exact aJ) (by simp;omega) (by omega) jc (.inr ⟨b,_,e,ay,aA,rfl⟩)
       |gb L F c2=>omega
      ·cases ha
     ·cases ha
   ·cases ha
  ·rw[aW B]at ha
   split at ha
   ·rename_i W
    split at ha
    ·rename_i a
     rw[du]at ha
     obtain⟨h2,X,ha⟩:=ha
     cases ha
     by_cases E:m=0
     ·subst E
      rw[aP rfl]at X
      cases X
      have ab:=al rfl
      subst ab
      cases ae with
      |@bZ b C K o _ _ c2 e q=>
       rcases q with⟨p,rfl⟩|⟨p,_⟩
       ·refine⟨_,w,μ,?_,.bZ e (.inl ⟨p,rfl⟩),s,Ext.refl _ _ _ s.cl⟩
        rw[u _ _ W]
        rfl
       ·exact absurd p B
      |gb=>exact absurd rfl B
      |hs L F=>
       refine⟨_,w,μ,?_,.hs _ F,s,Ext.refl _ _ _ s.cl⟩
       rw[u _ _ W]
       rfl
     ·rw[aW E]at X
      cases ae with
      |@bZ b C K o _ _ c2 e q=>
       rcases q with⟨p,rfl⟩|⟨p,_⟩
       ·obtain⟨cU,aU,aO,bt⟩:=yI (P:=P) s e D X
        refine⟨_,cU,μ,?_,.bZ e (.inl ⟨p,rfl⟩),aO,bt⟩
        rw[u _ _ W]
        simp only[nC,aU,et]
       ·exact absurd p B
      |gb=>exact absurd rfl B
      |hs L F=>omega
    ·cases ae with
     |mQ=>
      split at ha
      ·rename_i E
       cases ha
       subst E
       refine⟨_,w,μ,?_,.mQ,s,Ext.refl _ _ _ s.cl⟩
       rw[u _ _ (by omega)]
       rfl
      ·cases ha
   ·rename_i W
    split at ha
    ·rename_i J
     rw[du]at ha
     obtain⟨e1,Z,ha⟩:=ha
     cases ha
     obtain⟨olds,holds,G,ah⟩:=HY s ae Z
     cases ae with
     |mQ=>exact O .mQ olds e1 holds G ah (by omega) J (.inl rfl)
     |@bZ b C K o _ _ c2 e q=>
      rcases q with⟨p,rfl⟩|⟨p,_⟩
      ·exact O (.bZ e (.inl ⟨p,rfl⟩)) olds e1 holds G ah (by omega) J (.inl rfl)
      ·exact absurd p B
     |gb=>exact absurd rfl B
     |hs L F=>exact O (.hs L F) olds e1 holds G ah (by omega) J (.inl rfl)
    ·cases ha
 ·cases ha
theorem Wh{elem:a1}{size:Nat}{x b au c_:Value}{h:aX}{v:Value}{h1:aX}(s:cS P μ h w)(ae:bp μ x b)(ba:bp μ au c_)
 (ha:sF elem size x au h=y (v,h1)) {ty st xt:a1} {i:TypeInfo} {z:Value} {c:TypeDesc} (e:P.underlying st=y (.slice elem)) (g:P.underlying xt=y c) (j:∀k,c≠.int k)
 (ai:P.info? elem=y i) (c7:i.size=size) (bu:i.zero=y z) (o:z.cells.size=i.size) (p:i.bytes<=16384):
 ∃v' bC μ1,(qC #[st,xt] ty #[b,c_]).run P w=.ok v' bC/\bp μ1 v v'/\cS P μ1 h1 bC/\Ext μ h w μ1 h1 bC:=by
 unfold sF at ha
 simp only[cX]at ha
 obtain⟨m,hm,new,q,ha⟩:=ha
 obtain⟨ys,l,t,u⟩:=HY s ba q
 have bz:=Mr (w:=w) (P:=P) ba hm
 exact Ms s ae ha (λb=>qC #[st,xt] ty #[b,c_]) t u (λn a' A an=>Wf (P:=P) (w:=w) (ty:=ty) (a':=a') e g j ai c7 bz (l w rfl) an)
  (λn a' A olds B C D=>Wg (P:=P) (w:=w) (ty:=ty) (a':=a') (olds:=olds) e g j ai c7 bu p bz l B C D) ai c7 bu o
theorem Wi{size:Nat}{d p x j v:Value}{h h1:aX}(s:cS P μ h w)(hd:bp μ d p)(ae:bp μ x j)(aa:pT size d x h=y (v,h1))
 {ty k xt elem:a1} {i:TypeInfo} (u:P.underlying k=y (.slice elem)) (ai:P.info? elem=y i) (c7:i.size=size):
 ∃bC,(Builtin.copy_ #[k,xt] ty #[p,j]).run P w=.ok v bC/\bp μ v v/\cS P μ h1 bC/\Ext μ h w μ h1 bC:=by
 unfold pT at aa
 split at aa
 ·rename_i a n c
  simp only[cX]at aa
  obtain⟨m,hm,new,z,aa⟩:=aa
  obtain⟨ys,A,q,B⟩:=HY s ae z
  have bz:=Mr (w:=w) (P:=P) ae hm
  have l:∀a' t,(Builtin.copy_ #[k,xt] ty #[.slice a' n t,j]).run P w=(match a' with|some a=>(AE a ys.toList).run P w|none=>.ok () w).andThen λ_ b'=>.ok (goInt (gn m n)) b':=by
   intro a' t
   simp only[Builtin.copy_,xY,ki,mK,eN,eX u,lR ai,c7,et,gx,bz,A w rfl]
   cases a' with
   |none=>simp
   |some a=>simp
  have C:gn m n=0->ys=#[]:=by
   intro e
   have h2:=q.length
   rw[B,e,nq]at h2
   exact mL (gF h2.symm)
  split at aa
  ·rename_i a
   rw[du]at aa
   obtain⟨h2,g,aa⟩:=aa
   cases aa
   by_cases bu:gn m n=0
   ·rw[aP bu]at g
    cases g
    have ba:=C bu
    subst ba
    cases hd<;>exact⟨w,by rw[l];rfl,.int _ _,s,Ext.refl _ _ _ s.cl⟩
   ·rw[aW bu]at g
    cases hd with
    |@bZ b E K o _ _ c2 e F=>
     obtain⟨cU,D,aO,bt⟩:=yI (P:=P) s e q g
     exact⟨cU,by rw[l];simp only[D,et];rfl,.int _ _,aO,bt⟩
    |gb=>exact absurd (Nat.le_zero.1 (Nat.min_le_right m 0)) bu
    |hs=>exact absurd (Nat.le_zero.1 (Nat.min_le_right m 0)) bu
  ·cases hd
   split at aa
   ·rename_i bu
    cases aa
    exact⟨w,by rw[l,bu];rfl,.int _ _,s,Ext.refl _ _ _ s.cl⟩
   ·cases aa
 ·cases aa
theorem Wj{x g v:Value}{h h1:aX}(s:cS P μ h w)(ae:bp μ x g)
 {ty t elem:a1} {i:TypeInfo} {z:Value} (aR:P.underlying t=y (.slice elem)) (ai:P.info? elem=y i) (bu:i.zero=y z) (aA:z.cells.toList.all iP=V)
 (aa:vF z.cells.toList x h=y (v,h1)):
 ∃bC,(LU #[t] ty #[g]).run P w=.ok v bC/\bp μ v v/\cS P μ h1 bC/\Ext μ h w μ h1 bC:=by
 unfold vF at aa
 split at aa
 ·cases aa
  cases ae
  exact⟨w,by simp [LU,eX aR];rfl,.undef,s,Ext.refl _ _ _ s.cl⟩
 ·rename_i a n c
  split at aa
  ·rename_i av
   cases aa
   subst av
   refine⟨w,?_,.undef,s,Ext.refl _ _ _ s.cl⟩
   cases ae<;>(simp [LU,eX aR];rfl)
  ·rename_i av
   rw[du]at aa
   obtain⟨h2,j,aa⟩:=aa
   cases aa
   have l:(nr z.cells n).toList=rep z.cells.toList n:=Bl _ _
   cases ae with
   |@bZ b p K o _ _ c2 e q=>
    obtain⟨cU,m,aO,bt⟩:=yI (P:=P) s e ((cB.o_ aA).rep n) j
    refine⟨cU,?_,.undef,aO,bt⟩
    obtain⟨k,rfl⟩:∃k,n=k+1:=⟨n-1,by omega⟩
    simp only[LU,xY,ki,eN,eX aR,et,AB,typeInfo,ai,bu]
    simp [ai,bu,l,m]
    rfl
   |gb=>exact absurd rfl av
   |hs=>exact absurd rfl av
 ·cases aa
theorem Mt{size m:Nat}{elem:a1}{i:TypeInfo}{z:Value}(ai:P.info? elem=y i)(c7:i.size=size)(bu:i.zero=y z)(b:z.cells.size=i.size)(w0:World):
 (if m*size=0 then pure #[]else do pure (nr (<-AB elem).cells m):Sem (Array Value)).run P w0=.ok (nr z.cells m) w0:=by
 split
 ·rename_i av
  have:(nr z.cells m).size=0:=by simp [nr,b,c7,av]
  rw[akj this]
  rfl
 ·simp only[eN,yE ai bu,et,gx]
theorem Wk{size n m b:Nat}{a':Option Addr}{elem ty st xt:a1}{i:TypeInfo}{z:Value}{k:IntKind}(c:P.underlying st=y (.slice elem))(e:P.underlying xt=y (.int k))
 (ai:P.info? elem=y i) (c7:i.size=size) (bu:i.zero=y z) (g:z.cells.size=i.size) (p:i.bytes<=16384) (hm:m<=dp) (h:n+m<=b):
 (qC #[st,xt] ty #[.slice a' n b,.int .i64 m]).run P w=
   (match a' with|some a=>(AE (a.add (n*size)) (nr z.cells m).toList).run P w|none=>.ok () w).andThen λ_ b'=>.ok (.slice a' (n+m) b) b':=by
 unfold dp at hm
 have cb:IntKind.i64.wrap (m:Int)=(m:Int):=by simp [IntKind.wrap,xZ,x0];split<;>omega
 have j:¬((m:Int)*(i.bytes:Int)>2 ^ 48):=by
  have h1:(m:Int)*(i.bytes:Int)<=4294967296*16384:=xW (by omega) (by omega) (by omega) (by omega)
  omega
 have l:=Mt (P:=P) (m:=m) ai c7 bu g w
 have o:(asInt (.int .i64 (m:Int))).run P w=.ok (m:Int) w:=by simp [asInt,vd]
 simp only[qC,xY,ki,mK,eN,eX c,eX e,lR ai,c7,et,gx,a_,o,cb]
 rw[aW (by omega)]
 simp only[eN,rP ai,et,gx]
 rw[aW j]
 simp only[gx,et,mc,h,a_,fg,bn,bh,eN,l]
 cases a' with
 |none=>simp
 |some a=>simp
theorem Wl{size n m b:Nat}{a':Option Addr}{olds:Array Value}{elem ty st xt:a1}{i:TypeInfo}{z:Value}{k:IntKind}(c:P.underlying st=y (.slice elem))(e:P.underlying xt=y (.int k))
 (ai:P.info? elem=y i) (c7:i.size=size) (bu:i.zero=y z) (g:z.cells.size=i.size) (h:i.bytes<=16384)
 (j:∀w0:World,w0.heap=w.heap->(oX size n (.slice a' n b)).run P w0=.ok olds w0) (l:b<n+m) (o:n+m<=dp):
 ∃cap,n+m<=cap/\(qC #[st,xt] ty #[.slice a' n b,.int .i64 m]).run P w=
  .ok (.slice (y ⟨w.heap.size,0,none⟩) (n+m) cap) (w.drew.alloc (.cells (olds++nr z.cells m++nr z.cells (cap-(n+m))) elem)):=by
 refine⟨(LR (n+m) b elem).cut (w.tape w.drawn (.appendCap (n+m) b elem)),?_,?_⟩
 ·simp only[Question.cut]
  omega
 ·have D:=nextslicecap_le l
  unfold dp at o
  have cb:IntKind.i64.wrap (m:Int)=(m:Int):=by simp [IntKind.wrap,xZ,x0];split<;>omega
  have p:¬((m:Int)*(i.bytes:Int)>2 ^ 48):=by
   have h1:(m:Int)*(i.bytes:Int)<=4294967296*16384:=xW (by omega) (by omega) (by omega) (by omega)
   omega
  have q:¬(AH (n+m) b*i.bytes>2 ^ 48):=by
   have:AH (n+m) b*i.bytes<=(2*4294967296+1024)*16384:=Nat.mul_le_mul (by omega) h
   omega
  have t:(IntKind.i64.max:Int)=9223372036854775807:=by decide
  have u:¬(((n+m:Nat):Int)>IntKind.i64.max/\(True\/i.bytes=0)):=by rw[t];omega
  have x:(LR (n+m) b elem).forced=M:=rfl
  have A:({ w with drawn:=w.drawn+1 }:World)=w.drew:=rfl
  have B:=Mt (P:=P) (m:=m) ai c7 bu g w.drew
  have C:(asInt (.int .i64 (m:Int))).run P w=.ok (m:Int) w:=by simp [asInt,vd]
  simp only[qC,xY,ki,mK,eN,eX c,eX e,lR ai,c7,et,gx,a_,C,cb]
  rw[aW (by omega)]
  simp only[eN,rP ai,et,gx]
  rw[aW p]
  simp only[gx,et,mc,show ¬(n+m<=b)from by omega,bh,eN,rP ai]
  rw[aW u]
  simp only[eN,rP ai,et]
  rw[aW q]
  simp only[eN,run_choose,x,bn,bh,A,et,rP ai,run_askRoom,j w.drew rfl,fg,B,yE ai bu,newRow,xX,gx]
  rfl
theorem Wm{elem:a1}{size:Nat}{zero:List Value}{x b au c_:Value}{h:aX}{v:Value}{h1:aX}(s:cS P μ h w)(ae:bp μ x b)(ba:bp μ au c_)
 (ha:vE elem size zero x au h=y (v,h1)) {ty st xt:a1} {i:TypeInfo} {z:Value} {k:IntKind} (e:P.underlying st=y (.slice elem)) (g:P.underlying xt=y (.int k))
 (ai:P.info? elem=y i) (c7:i.size=size) (bu:i.zero=y z) (c:z.cells.size=i.size) (j:i.bytes<=16384) (p:z.cells.toList=zero) (aA:zero.all iP=V):
 ∃v' bC μ1,(qC #[st,xt] ty #[b,c_]).run P w=.ok v' bC/\bp μ1 v v'/\cS P μ1 h1 bC/\Ext μ h w μ1 h1 bC:=by
 unfold vE at ha
 split at ha
 ·rename_i l
  split at ha
  ·rename_i ax
   cases ba
   obtain⟨m,rfl⟩:∃m:Nat,l=m:=⟨l.toNat,by omega⟩
   have hm:m<=dp:=by omega
   rw[mc]at ha
   have o:(nr z.cells m).toList=rep zero m:=by rw[<-p];exact Bl _ _
   refine Ms (ys:=nr z.cells m) s ae ha (λb=>qC #[st,xt] ty #[b,.int .i64 m]) (by rw[o];exact(cB.o_ aA).rep m) ?_
    (λn a' q an=>Wk e g ai c7 bu c j hm an) (λn a' q olds t an u=>Wl e g ai c7 bu c j t an u) ai c7 bu c
   rw[<-o,pL]
   simp [nr,c,c7]
  ·cases ha
 ·cases ha
theorem Mu:∀{l:List Value} {c:List UInt8},vK l=y c->∃b:List Int,l=b.map (h5 .u8)/\c=b.map λn=>xO n.toNat
 |[],_,h=>by cases h;exact⟨[],rfl,rfl⟩
 |v::l,c,h=>by
  unfold vK at h
  split at h
  ·rename_i e;cases e
  ·rename_i n r e
   cases e
   rw[du]at h
   obtain⟨g,h',rfl⟩:=h
   obtain⟨b,rfl,rfl⟩:=Mu h'
   exact⟨n::b,rfl,rfl⟩
  ·cases h
theorem Mv:∀(b:List Int) (s:ByteArray),b.foldl (λr n=>r.push (xO n.toNat)) s=⟨s.data++(b.map λn=>xO n.toNat).toArray⟩
 |[],s=>by simp
 |n::b,s=>by
  rw[ve,Mv b]
  congr 1
  apply mL
  simp [ByteArray.push]
theorem Wn{x m v:Value}{h:aX}(s:cS P μ h w)(ae:bp μ x m)(ay:yn x h=y v)
 {src dst e:a1} (aB:P.underlying src=y (.slice e)) (he:P.underlying e=y (.int .u8)) (hd:P.underlying dst=y .string):
 (convert src dst m).run P w=.ok v w/\bp μ v v:=by
 unfold yn at ay
 split at ay
 ·rename_i a n c
  split at ay
  ·rename_i t
   subst t
   cases ay
   refine⟨?_,.string _⟩
   cases ae<;>
   ·rw[Hn w src dst e _ _ _ aB he hd,LV w _ _ _ [] (by simp [vf,vg])]
    rfl
  simp only[cX,du]at ay
  obtain⟨l,ax,E,af,rfl⟩:=ay
  obtain⟨g,rfl,rfl⟩:=Mu af
  refine⟨?_,.string _⟩
  have u:(ByteArray.empty.data++(g.map λn=>xO n.toNat).toArray)=(g.map λn=>xO n.toNat).toArray:=by
   apply mL
   simp [ByteArray.empty,ByteArray.emptyWithCapacity]
   rfl
  have i:g.length=n:=by
   unfold jX at ax
   split at ax
   ·split at ax
    ·rename_i fm
     have:=cZ (λz=>(z.getD []).length) ax
     simp at this
     omega
    ·cases ax
   ·cases ax
  cases ae with
  |@bZ b A K o _ _ c2 aG F=>
   obtain⟨_,ys,B,aa⟩:=Bh s aG ax
   have C:ys=g.map (h5 .u8):=cB.Bf (p:=iP) (λv au h ay=>bp.Be h ay) (List.all_eq_true.2 λv ay=>by obtain⟨n,_,rfl⟩:=List.mem_map.1 ay;rfl) B
   subst C
   have q:=LN (P:=P) w ⟨A,o,none⟩ (g.map (h5 .u8)) (λj v D=>by rw[nC];exact aa j v D)
   rw[c9,i]at q
   rw[Hn w src dst e _ _ _ aB he hd,LV w _ _ _ g q,Mv,u]
  |gb a a' fl=>
   have k:g=[]:=gF i
   subst k
   rw[Hn w src dst e _ _ _ aB he hd,LV w _ _ _ [] (by simp [vf,vg])]
   rfl
  |hs a a'=>
   have k:g=[]:=gF i
   subst k
   rw[Hn w src dst e _ _ _ aB he hd,LV w _ _ _ [] (by simp [vf,vg])]
   rfl
 ·cases ae
  cases ay
  refine⟨?_,.string _⟩
  rw[Hn w src dst e _ _ _ aB he hd]
  rfl
 ·cases ay
end Go.bF
namespace Go.bF
variable {P : Program} {μ : Ren} {w : World}
theorem cS.vX{h:aX}(s:cS P μ h w){b c K:Nat}{blk blk':iB}{o':Obj}(e:μ b=y ⟨c,K⟩)(af:h[b]?=y blk)(hd:blk≠.dead)(q:¬lp h b)(x:blk'≠.dead)(L:∀vs t,blk'≠.cells vs t M)(z:fr P μ K blk' o'):
 cS P μ (h.set b blk') (w.putObj c o')/\Ext μ h w μ (h.set b blk') (w.putObj c o'):=by
 have l:live h b:=⟨_,af,hd⟩
 have aa:c<w.heap.size:=s.lt b _ e
 have A:(w.putObj c o').heap[c]?=y o':=by simp [vi,aa]
 have o:∀k,k≠c->(w.putObj c o').heap[k]?=w.heap[k]?:=λk ad=>by
  simp only[vi]
  rw[x1 (by omega)]
 have c7:(w.putObj c o').heap.size=w.heap.size:=by simp [vi]
 have n:∀bj,live (h.set b blk') bj↔live h bj:=λbj=>Mj l x
 refine⟨⟨λbj g e'=>by rw[iz];exact s.cl bj g e',λbj g k e' i aA=>?_,λcH u B C aG aF D E F=>s.inj cH u B C aG aF D ((n cH).1 E) ((n u).1 F),λbj g e'=>by rw[c7];exact s.lt bj g e'⟩,
  ⟨⟨by rw[iz];exact cj _,λ_ _=>rfl,by rw[c7];exact cj _,λg _ aA=>o g (λm=>aA b _ l e m.symm),λbj g e' an=>o _ (λm=>?_),λbj an=>?_,λbj g i e'=>absurd (s.cl bj g e') (by omega),λbj _ aA p=>aA ((n bj).1 p),⟨rfl,rfl,rfl⟩⟩,λbj i p=>absurd ((n bj).1 p).lt (by omega)⟩⟩
 ·by_cases j:b=bj
  ·subst j
   rw[e]at e'
   cases e'
   rw[fK l.lt]at i
   cases i
   exact⟨o',A,z⟩
  ·rw[hP j]at i
   have G:c≠g.blk:=λm=>j (s.inj b bj _ _ e e' m l ⟨_,i,aA⟩)
   obtain⟨H,I,J⟩:=s.rel bj g k e' i aA
   exact⟨H,by rw[o _ (λh=>G h.symm)];exact I,J⟩
 ·have:=s.inj b bj _ _ e e' m.symm l an.live
  subst this
  exact q an
 ·by_cases j:b=bj
  ·subst j;exact absurd an q
  ·exact hP j
theorem Bm{k:fk}{x c au c_:Value}{t:Bool}(ae:bp μ x c)(ba:bp μ au c_){d:TypeDesc}(hd:ml (y d)=y k)(h:sG k x au=y t):Instr.sameNow d c c_=y t/\c=x/\c_=au:=by
 unfold sG at h
 split at h
 ·split at h
  ·rename_i a b _ _ ad
   cases h
   subst ad
   cases ae;cases ba
   cases d<;>simp [ml]at hd
   exact⟨by simp [Instr.sameNow],rfl,rfl⟩
  ·cases h
 ·cases h
  cases ae;cases ba
  cases d<;>simp [ml]at hd
  exact⟨rfl,rfl,rfl⟩
 ·cases h
  cases ae;cases ba
  cases d<;>simp [ml]at hd
  exact⟨rfl,rfl,rfl⟩
 ·cases h
theorem cS.Wo{h:aX}(s:cS P μ h w){b c K:Nat}{blk:iB}{o':Obj}(e:μ b=y ⟨c,K⟩)(af:h[b]?=y blk)(hd:blk≠.dead)(n:¬lp h b):
 cS P μ (h.set b .dead) (w.putObj c o')/\Ext μ h w μ (h.set b .dead) (w.putObj c o'):=by
 have i:live h b:=⟨_,af,hd⟩
 have aa:c<w.heap.size:=s.lt b _ e
 have m:∀k,k≠c->(w.putObj c o').heap[k]?=w.heap[k]?:=λk ad=>by
  simp only[vi]
  rw[x1 (by omega)]
 have c7:(w.putObj c o').heap.size=w.heap.size:=by simp [vi]
 obtain⟨s1,aC⟩:=s.giveUp n (b:=b)
 have o:¬live (h.set b .dead) b:=by
  rintro⟨blk,h1,h2⟩
  rw[fK i.lt]at h1
  cases h1;exact h2 rfl
 have q:∀bj,live (h.set b .dead) bj->live h bj:=λbj ax=>by
  obtain⟨blk,h1,h2⟩:=ax
  by_cases p:b=bj
  ·subst p;exact absurd ⟨blk,h1,h2⟩ o
  ·rw[hP p]at h1;exact⟨blk,h1,h2⟩
 refine⟨⟨s1.cl,λbj l k e' j aA=>?_,s1.inj,λbj l e'=>by rw[c7];exact s1.lt bj l e'⟩,⟨⟨aC.le,aC.e1,by rw[c7];exact cj _,λk ad aA=>m k (λg=>aA b _ i e g.symm),λbj l e' an=>m _ (λg=>?_),aC.pW,λbj l j e'=>absurd (s.cl bj l e') (by omega),aC.dead,⟨rfl,rfl,rfl⟩⟩,aC.pX⟩⟩
 ·obtain⟨t,u,x⟩:=s1.rel bj l k e' j aA
  have z:=q bj ⟨_,j,aA⟩
  have A:l.blk≠c:=λg=>by
   have:=s.inj bj b _ _ e' e g z i
   subst this
   exact o ⟨_,j,aA⟩
  exact⟨t,by rw[m _ A];exact u,x⟩
 ·have:=s.inj bj b _ _ e' e g an.live i
  subst this
  exact n an
theorem cS.spare{h:aX}(s:cS P μ h w)(o:Obj):cS P μ h (w.alloc o)/\Ext μ h w μ h (w.alloc o):=
 ⟨⟨s.cl,λb l blk e af aA=>by obtain⟨o',g,i⟩:=s.rel b l blk e af aA;exact⟨o',by rw[vV w o (s.lt b l e)];exact g,i⟩,s.inj,λb l e=>by rw[yJ];have:=s.lt b l e;omega⟩,
   ⟨⟨cj _,λ_ _=>rfl,by rw[yJ];omega,λc aa _=>vV w o aa,λb l e _=>vV w o (s.lt b l e),λ_ _=>rfl,λb l af e=>absurd (s.cl b l e) (by omega),λ_ _ h=>h,⟨rfl,rfl,rfl⟩⟩,λb af ax=>absurd ax.lt (by omega)⟩⟩
theorem Mw(a b:ByteArray):(a==b)=V↔a=b:=by
 constructor
 ·intro h
  have h':(a.data==b.data)=V:=h
  have:=eq_of_beq h'
  cases a;cases b
  simp_all
 ·rintro rfl
  show(a.data==a.data)=V
  exact pN _
theorem Wp{k:fk}{x au:Value}(h:sG k x au=y V):x=au/\iP x=V/\∀n,AI n x x=V:=by
 cases k<;>cases x<;>simp only[sG]at h<;>try (cases h;done)
 all_goals (cases au<;>simp only[sG]at h<;>try (cases h;done))
 ·split at h
  ·rename_i e
   subst e
   simp at h
   subst h
   exact⟨rfl,rfl,λn=>by cases n<;>simp [AI]⟩
  ·cases h
 ·simp at h
  subst h
  exact⟨rfl,rfl,λn=>by cases n<;>simp [AI]⟩
 ·have e:=(Mw _ _).1 (jU h)
  subst e
  exact⟨rfl,rfl,λn=>by cases n<;>simp [AI,Mw]⟩
theorem Mx{k:fk}{x b:Value}{d:TypeDesc}(hd:ml (y d)=y k)(ae:bp μ x b):∀{df:List (Value×Value)} {l:List MapEntry} {r:Option Value} (i:Nat),cB μ (df.map (·.1)) (l.map (·.key))->cB μ (df.map (·.2)) (l.map (·.val))->vG k x df=y r->
 (r=none/\rF d b l i=y none)\/∃v v' j,r=y v/\bp μ v v'/\rF d b l i=y (y (j,v'))
 |[],l,r,i,h1,h2,aE=>by
  cases l with
  |nil=>cases aE;exact .inl ⟨rfl,rfl⟩
  |cons a l=>cases h1
 |(au,v)::df,l,r,i,h1,h2,aE=>by
  cases l with
  |nil=>cases h1
  |cons a l=>
   simp only[me]at h1 h2
   cases h1 with
   |cons bw bD=>
    cases h2 with
    |cons m1 m2=>
     unfold vG at aE
     split at aE
     ·rename_i ad
      cases aE
      obtain⟨bI,b0,dj⟩:=Bm ae bw hd ad
      exact .inr ⟨v,a.val,i,rfl,m1,by unfold rF;rw[bI]⟩
     ·rename_i ad
      obtain⟨bI,b0,dj⟩:=Bm ae bw hd ad
      rcases Mx hd ae (i+1) bD m2 aE with⟨aG,aF⟩|⟨v1,v2,j,aG,aF,c⟩
      ·exact .inl ⟨aG,by unfold rF;rw[bI];exact aF⟩
      ·exact .inr ⟨v1,v2,j,aG,aF,by unfold rF;rw[bI];exact c⟩
     ·cases aE
theorem My{k:fk}{x b v v':Value}{d:TypeDesc}(hd:ml (y d)=y k)(ae:bp μ x b)(ay:bp μ v v'):∀{df c:List (Value×Value)} {l:List MapEntry} (i:Nat),cB μ (df.map (·.1)) (l.map (·.key))->cB μ (df.map (·.2)) (l.map (·.val))->vH k x v df=y c->
 (rF d b l i=y none/\c=df++[(x,v)])\/∃(j:Nat) (aZ:Value) (e:MapEntry),rF d b l i=y (y (i+j,aZ))/\l[j]?=y e/\e.key=b/\iP b=V/\(∀n,AI n b b=V)/\
   cB μ (c.map (·.1)) ((l.modify j λe=>{ e with key:=b,val:=v' }).map (·.key))/\cB μ (c.map (·.2)) ((l.modify j λe=>{ e with key:=b,val:=v' }).map (·.val))
 |[],c,l,i,h1,h2,aE=>by
  cases l with
  |nil=>cases aE;exact .inl ⟨rfl,rfl⟩
  |cons a l=>cases h1
 |(au,aZ)::df,c,l,i,h1,h2,aE=>by
  cases l with
  |nil=>cases h1
  |cons a l=>
   simp only[me]at h1 h2
   cases h1 with
   |cons bw bD=>
    cases h2 with
    |cons m1 m2=>
     unfold vH at aE
     split at aE
     ·rename_i ad
      cases aE
      obtain⟨bI,b0,dj⟩:=Bm ae bw hd ad
      obtain⟨h,m,z3⟩:=Wp ad
      have g:iP b=V/\(∀n,AI n b b=V)/\a.key=b:=by
       rw[b0]
       exact⟨m,z3,by rw[dj,h]⟩
      refine .inr ⟨0,a.val,a,by unfold rF;rw[bI];rfl,rfl,g.2.2,g.1,g.2.1,?_,?_⟩
      ·simp only[me,List.modify_zero_cons]
       exact .cons ae bD
      ·simp only[me,List.modify_zero_cons]
       exact .cons ay m2
     ·rename_i ad
      rw[du]at aE
      obtain⟨q,br,rfl⟩:=aE
      obtain⟨bI,b0,dj⟩:=Bm ae bw hd ad
      rcases My hd ae ay (i+1) bD m2 br with⟨aG,rfl⟩|⟨j,o,e,aG,aF,p,t,u,w,z⟩
      ·exact .inl ⟨by unfold rF;rw[bI];exact aG,rfl⟩
      ·refine .inr ⟨j+1,o,e,by unfold rF;rw[bI];rw[show i+(j+1)=i+1+j by omega];exact aG,by simpa using aF,p,t,u,?_,?_⟩
       ·simp only[me,List.modify_succ_cons]
        exact .cons bw w
       ·simp only[me,List.modify_succ_cons]
        exact .cons m1 z
     ·cases aE
theorem Mz{empty:Bool}{n:Nat}{t:a1}{d:TypeDesc}{k:fk}{v:Value}(aR:P.underlying t=y d)(hd:ml (y d)=y k):(LW empty (n+1) t v).run P w=.ok () w:=by
 unfold LW
 simp only[eN,eX aR,et]
 cases d<;>simp [ml]at hd<;>simp [gx]
theorem MA{x g:Value}{h:aX}{df:List (Value×Value)}(s:cS P μ h w)(ae:bp μ x g)(hm:vI x h=y df):
 (x=.map none/\g=.map none/\df=[])\/∃b c K l clock,x=.map (y b)/\g=.map (y c)/\μ b=y ⟨c,K⟩/\h[b]?=y (.map df)/\w.heap[c]?=y (.map l clock)/\cB μ (df.map (·.1)) (l.toList.map (·.key))/\cB μ (df.map (·.2)) (l.toList.map (·.val)):=by
 unfold vI at hm
 split at hm
 ·cases hm;cases ae;exact .inl ⟨rfl,rfl,rfl⟩
 ·rename_i b
  split at hm
  ·rename_i j af
   cases hm
   cases ae with
   |@map _ c K e=>
    obtain⟨o,i,l,clock,rfl,h2,ak⟩:=s.rel b _ _ e af (by simp)
    exact .inr ⟨b,c,K,l,clock,rfl,rfl,e,af,i,h2,ak⟩
  ·cases hm
 ·cases hm
theorem Wq{k:fk}{zero:Value}{ok:Bool}{x p i m v:Value}{h:aX}(s:cS P μ h w)(ae:bp μ x p)(ai:bp μ i m)(ax:yl k zero ok x i h=y v)
 {t key elem:a1} {d:TypeDesc} (aR:P.underlying t=y (.map key elem)) (ad:P.underlying key=y d) (hd:ml (y d)=y k) {q:TypeInfo} (z:P.info? elem=y q) (bu:q.zero=y zero) (g:bp μ zero zero):
 ∃v',(LX t p m ok).run P w=.ok v' w/\bp μ v v':=by
 unfold yl at ax
 simp only[cX,du]at ax
 obtain⟨df,hm,r,aE,rfl⟩:=ax
 have u:(AB elem).run P w=.ok zero w:=by simp [AB,typeInfo,z,bu]
 have o:∀b,(LW b 10000 key m).run P w=.ok () w:=λb=>Mz (n:=9999) ad hd
 rcases MA s ae hm with⟨rfl,rfl,rfl⟩|⟨b,c,K,l,clock,rfl,rfl,e,af,A,h2,ak⟩
 ·cases aE
  refine⟨if ok then .tuple #[zero,.bool M]else zero,?_,?_⟩
  ·simp only[LX,eN,eX aR,et,gx,o,Ho,eX ad,rF,u]
  ·cases ok
   ·exact g
   ·exact .tuple (.cons g (.cons (.bool _) .nil))
 ·have bG:(getObj c).run P w=.ok (.map l clock) w:=by simp [getObj,Sem.run,A]
  rcases Mx hd ai 0 h2 ak aE with⟨rfl,aF⟩|⟨v1,v2,j,rfl,aF,B⟩
  ·refine⟨if ok then .tuple #[zero,.bool M]else zero,?_,?_⟩
   ·simp only[LX,eN,eX aR,et,gx,bG,o,Ho,eX ad,aF,u]
   ·cases ok
    ·exact g
    ·exact .tuple (.cons g (.cons (.bool _) .nil))
  ·refine⟨if ok then .tuple #[v2,.bool V]else v2,?_,?_⟩
   ·simp only[LX,eN,eX aR,et,gx,bG,o,Ho,eX ad,B]
   ·cases ok
    ·exact aF
    ·exact .tuple (.cons aF (.cons (.bool _) .nil))
theorem MB{k:fk}{x p i g v v':Value}{h h1:aX}(s:cS P μ h w)(ae:bp μ x p)(ai:bp μ i g)(ay:bp μ v v')(ax:vJ k x i v h=y h1)
 {t key elem:a1} {d:TypeDesc} (aR:P.underlying t=y (.map key elem)) (ad:P.underlying key=y d) (hd:ml (y d)=y k):
 ∃bC,(Instr.mapUpdate t p g v').run P w=.ok () bC/\cS P μ h1 bC/\Ext μ h w μ h1 bC:=by
 unfold vJ at ax
 split at ax
 ·rename_i b
  split at ax
  ·rename_i df af
   rw[du]at ax
   obtain⟨B,aB,rfl⟩:=ax
   have q:∀b,(LW b 10000 key g).run P w=.ok () w:=λb=>Mz (n:=9999) ad hd
   cases ae with
   |@map _ c K e=>
    obtain⟨o,u,l,clock,rfl,h2,ak⟩:=s.rel b _ _ e af (by simp)
    have bG:(getObj c).run P w=.ok (.map l clock) w:=by simp [getObj,Sem.run,u]
    have z:∀m,(setObj c m).run P w=.ok () (w.putObj c m):=λm=>by simp [setObj,Sem.run,u,vi]
    have A:¬lp h b:=by rintro⟨vs,I,aF⟩;rw[af]at aF;cases aF
    rcases My hd ai ay 0 h2 ak aB with⟨aG,rfl⟩|⟨j,aZ,jY,aG,aF,C,J,D,E,F⟩
    ·obtain⟨bI,b0⟩:=s.vX (blk':=.map (df++[(i,v)])) (o':=.map (l.push { key:=g,val:=v',born:=clock }) (clock+1)) e af (by simp) A (by simp) (by simp)
      ⟨_,_,rfl,by simpa using h2.append (.cons ai .nil),by simpa using ak.append (.cons ay .nil)⟩
     refine⟨_,?_,bI,b0⟩
     simp only[Instr.mapUpdate,eN,eX aR,et,bG,q,Ho,eX ad,aG,gx,z]
    ·obtain⟨bI,b0⟩:=s.vX (blk':=.map B) (o':=.map (l.modify j λe=>{ e with key:=g,val:=v' }) clock) e af (by simp) A (by simp) (by simp)
      ⟨_,_,rfl,by simpa using E,by simpa using F⟩
     refine⟨_,?_,bI,b0⟩
     have G:(((l[j]?).map (·.key)).getD g)=g:=by
      have H:l[j]?=y jY:=by simpa using aF
      rw[H]
      simpa using C
     rw[hh]at aG
     simp only[Instr.mapUpdate,eN,eX aR,et,bG,q,Ho,eX ad,aG,gx,G,Instr.keyThatStays,D,a_,hh,z]
  ·cases ax
 ·cases ax
theorem Wr{h:aX}(s:cS P μ h w){t:a1}:∃bC μ1 v',(Instr.makeMap t none).run P w=.ok v' bC/\bp μ1 (.map (y h.length)) v'/\cS P μ1 (h++[.map []]) bC/\Ext μ h w μ1 (h++[.map []]) bC:=by
 obtain⟨bI,b0⟩:=s.alloc (w0:=w) rfl kG.rfl (K:=0) (blk:=.map []) (o:=.map #[] 0) ⟨_,_,rfl,.nil,.nil⟩
 refine⟨_,_,.map (y w.heap.size),?_,.map (pY h.length w.heap.size 0),bI,b0⟩
 simp only[Instr.makeMap,eN,xX,et,gx]
 rfl
theorem Ws{x g v:Value}{h:aX}(s:cS P μ h w)(ae:bp μ x g)(ax:ym x h=y v){ty t k e:a1}(aR:P.underlying t=y (.map k e)):
 (xS #[t] ty #[g]).run P w=.ok v w/\bp μ v v:=by
 unfold ym at ax
 rw[du]at ax
 obtain⟨df,hm,rfl⟩:=ax
 refine⟨?_,.int _ _⟩
 rcases MA s ae hm with⟨rfl,rfl,rfl⟩|⟨b,c,K,l,clock,rfl,rfl,e,af,j,h2,ak⟩
 ·simp [xS,eX aR,goInt]
 ·have i:=h2.length
  simp only[c9,pL]at i
  have bG:(getObj c).run P w=.ok (.map l clock) w:=by simp [getObj,Sem.run,j]
  simp [xS,eX aR,bG,i,goInt]
end Go.bF
namespace Go.bF
variable {P : Program} {μ : Ren} {w : World}
theorem nE{t:a1}{agg:Bool}{n:Nat}(h:jb P t=y (agg,n)):∃d i,P.underlying t=y d/\P.info? t=y i/\mj d=agg/\i.size=n/\0<n:=by
 unfold jb at h
 split at h
 ·rename_i d i hd ai
  split at h
  ·rename_i av
   cases h
   exact⟨d,i,hd,ai,rfl,rfl,av⟩
  ·cases h
 ·cases h
theorem t'{t:a1}{zero:List Value}(h:pV P t=y zero):∃i z,P.info? t=y i/\i.zero=y z/\z.cells.toList=zero/\zero.all iP=V/\z.cells.size=i.size/\0<i.size/\i.bytes<=16384:=by
 unfold pV at h
 split at h
 ·rename_i i ai
  split at h
  ·rename_i z bu
   split at h
   ·rename_i aa
    cases h
    exact⟨i,z,ai,bu,rfl,aa.1,aa.2.1,aa.2.2.1,aa.2.2.2⟩
   ·cases h
  ·cases h
 ·cases h
theorem MC{d:TypeDesc}{x:Operand}(h:A6 d x=V):∃z,x=.const z/\vM d=y z:=by
 unfold A6 at h
 split at h<;>first|exact⟨_,rfl,rfl⟩|cases h
theorem yK{op:BinOp}{neg:Bool}(h:vO op=y neg):op=if neg then .neq else .eql:=by
 cases op<;>simp [vO]at h<;>subst h<;>rfl
theorem MD{d:TypeDesc}{k:qH}{x:Value}(h:HE d=y k)(ad:HA k x=V):kindOk d x=V:=by
 cases d<;>simp [HE]at h<;>subst h<;>cases x<;>simp_all [HA,kindOk]
theorem ME{t:a1}{f:Nat}{b:Field}{agg:Bool}{n:Nat}(h:A9 P t f=y (b,agg,n)):
 ∃eR d i,P.underlying t=y (.struct eR)/\eR[f]?=y b/\P.underlying b.type=y d/\P.info? b.type=y i/\mj d=agg/\i.size=n/\0<n:=by
 unfold A9 at h
 split at h
 ·rename_i eR c
  split at h
  ·rename_i g aE
   rw[du]at h
   obtain⟨⟨a,m⟩,ax,e⟩:=h
   cases e
   obtain⟨d,i,h1,h2,ak,aJ,aO⟩:=nE ax
   exact⟨eR,d,i,c,aE,h1,h2,ak,aJ,aO⟩
  ·cases h
 ·cases h
theorem Wt{t:a1}{place:Nat->Option (Nat×Nat)}{i:TypeInfo}{z:Value}(h:HF P t=y place)(ai:P.info? t=y i)(bu:i.zero=y z)(parts:List (Nat×Value)):
 P.built t parts=Hm place z.cells parts:=by
 unfold HF at h
 unfold Program.built
 rw[ai]
 split at h
 ·rename_i n e b
  rw[du]at h
  obtain⟨g,c,rfl⟩:=h
  simp only[b,bu,c]
 ·rename_i eR b
  rw[du]at h
  obtain⟨l,ax,rfl⟩:=h
  simp only[b,bu,ax]
 ·cases h
def ua(μ:Ren)(e:bP)(eS:Operand->Value):Prop:=∀x,nA x=V->bp μ (val e x) (eS x)
theorem HZ{place:Nat->Option (Nat×Nat)}{e:bP}{eS:Operand->Value}(he:ua μ e eS):∀{l:List (Nat×Operand)} {bH:List (Nat×Nat×Operand)},yv place l=y bH->(l.all λx=>nA x.2)=V->
 HW μ place (ny e bH) (l.map λx=>(x.1,eS x.2))
 |[],bH,h,_=>by cases h;trivial
 |(i,x)::r,bH,h,ad=>by
  simp only[n',dn]at ad
  unfold yv at h
  split at h
  ·rename_i off size c ah b
   split at h
   ·rename_i av
    cases h
    exact⟨ah,av,he x ad.1,HZ he b ad.2⟩
   ·cases h
  ·cases h
theorem qM{e:bP}{eS:Operand->Value}(he:ua μ e eS):∀{l:List Operand},kW l=V->cB μ (dg e l) (l.map eS)
 |[],_=>.nil
 |x::l,h=>by
  simp only[kW,n',dn]at h
  exact .cons (he x h.1) (qM he h.2)
theorem H0{e:bP}{eS:Operand->Value}(he:ua μ e eS){x:Option Operand}(h:(x.all nA)=V):h7 μ (ja e x) (x.map eS):=by
 cases x with
 |none=>trivial
 |some x=>exact he x h
end Go.bF
namespace Go.bF
variable {P : Program} {μ : Ren} {w : World}
def vY(P:Program)(o:Oper)(eS:Operand->Value)(μ:Ren)(h:aX)(w:World)(v:Value)(h1:aX):Prop:=
 ∃v' bC μ1,((kj eS o).run P w=.ok (.value v') bC\/((kj eS o).run P w=.ok .skip bC/\v'=undef))/\bp μ1 v v'/\cS P μ1 h1 bC/\Ext μ h w μ1 h1 bC
def ub:fY->Bool
 |.call _ _|.im _ _=>V
 |_=>M
section
variable {o : Oper} {eS : Operand -> Value} {h : aX} {v : Value} {h1 : aX}
theorem vY.pure(s:cS P μ h w){v':Value}(an:(kj eS o).run P w=.ok (.value v') w)(ay:bp μ v v'):vY P o eS μ h w v h:=
 ⟨v',w,μ,.inl an,ay,s,Ext.refl _ _ _ s.cl⟩
theorem vY.val{v':Value}{bC:World}{μ1:Ren}(an:(kj eS o).run P w=.ok (.value v') bC)(ay:bp μ1 v v')(s:cS P μ1 h1 bC)(x:Ext μ h w μ1 h1 bC):vY P o eS μ h w v h1:=
 ⟨v',bC,μ1,.inl an,ay,s,x⟩
end
theorem gP{x:Sem Value}{au:Value}{bC:World}(h:x.run P w=.ok au bC):(do pure (Next.value (<-x)):Sem Next).run P w=.ok (.value au) bC:=by
 simp only[eN,h,et,gx]
theorem qN{b:Builtin}{args:Array Operand}{argTypes:Array a1}{dst:Option Tmp}{type:a1}{pos:String}{after:Array Edge}{guard:Option (Nat×Bool)}{eS:Operand->Value}{v:Value}{bC:World}
 (h:(builtin b argTypes type (args.map fun|.const _=>V|_=>M) (args.toList.map eS).toArray).run P w=.ok (.value v) bC):
 (kj eS ⟨dst,.call ⟨.builtin b,args,argTypes⟩,type,pos,after,guard⟩).run P w=.ok (.value v) bC:=by
 have hm:args.map eS=(args.toList.map eS).toArray:=mL (by simp)
 simp only[kj,resolve,eN,gx,et,invoke]
 rw[hm]
 exact h
theorem vZ{l:List Operand}(h:kW l=V){x:Operand}(ae:x∈l):nA x=V:=List.all_eq_true.1 h x ae
theorem MF{o:Oper}{O:fY}{e:bP}{eS:Operand->Value}{h h1:aX}{v:Value}{Γ:Callee}(aa:o5 P o.op=y O)(aA:ub O=M)(he:ua μ e eS)(s:cS P μ h w)
 (ad:dh Γ O e h (λv h'=>y (v,h'))=y (v,h1)):vY P o eS μ h w v h1:=by
 unfold o5 at aa
 split at aa
 ·rename_i u
  obtain⟨dst,op,type,pos,after,guard⟩:=o
  simp only at aa u
  have p:∀{x:Operand},x∈op.operands.toList->bp μ (val e x) (eS x):=λae=>he _ (vZ u ae)
  cases op with
  |move x=>
   cases aa
   cases ad
   exact .pure s rfl (p (by simp [fL]))
  |assign x=>
   cases aa
   cases ad
   exact .pure s rfl (p (by simp [fL]))
  |pick c a b=>
   cases aa
   simp only[dh,cX]at ad
   obtain⟨aZ,j,ad⟩:=ad
   cases ad
   obtain⟨t,aR,ay⟩:=V2 (p (x:=c) (by simp [fL])) (p (x:=a) (by simp [fL])) (p (x:=b) (by simp [fL])) j
   exact .pure s (by simp [kj,aR,asBool]) ay
  |binOp op t x au a0=>
   have ae:=p (x:=x) (by simp [fL])
   have ba:=p (x:=au) (by simp [fL])
   simp only[jw,A7]at aa
   split at aa
   ·cases aa
    simp only[dh,cX]at ad
    obtain⟨aZ,j,ad⟩:=ad
    cases ad
    obtain⟨an,ay⟩:=Md (P:=P) (w:=w) (t:=t) (X:=x) (Y:=au) ae ba j
    exact .pure s (gP an) ay
   ·cases aa
    simp only[dh,cX]at ad
    obtain⟨aZ,j,ad⟩:=ad
    cases ad
    obtain⟨an,ay⟩:=Md (P:=P) (w:=w) (t:=t) (X:=x) (Y:=au) ae ba j
    exact .pure s (gP an) ay
   ·rename_i aR
    rw[du]at aa
    obtain⟨neg,B,aa⟩:=aa
    cases aa
    simp only[dh,cX]at ad
    obtain⟨aZ,j,ad⟩:=ad
    cases ad
    obtain⟨an,ay⟩:=VM (P:=P) (w:=w) (t:=t) (X:=x) (Y:=au) ae ba j aR (yK B)
    exact .pure s (gP an) ay
   ·split at aa
    ·rename_i neg dc B Q
     cases aa
     simp only[dh,cX]at ad
     obtain⟨aZ,j,ad⟩:=ad
     cases ad
     obtain⟨an,ay⟩:=Mi (P:=P) (w:=w) (t:=t) (X:=x) (Y:=au) ae ba j Q (yK B)
     exact .pure s (gP an) ay
    ·cases aa
   ·split at aa
    ·rename_i neg dc B Q
     cases aa
     simp only[dh,cX]at ad
     obtain⟨aZ,j,ad⟩:=ad
     cases ad
     obtain⟨an,ay⟩:=Mi (P:=P) (w:=w) (t:=t) (X:=x) (Y:=au) ae ba j Q (yK B)
     exact .pure s (gP an) ay
    ·cases aa
   ·rename_i d _ _ _ _ _ aR
    split at aa
    ·rename_i neg k B q
     split at aa
     ·rename_i R
      cases aa
      simp only[dh,cX]at ad
      obtain⟨aZ,j,ad⟩:=ad
      cases ad
      obtain⟨z,rfl,bu⟩:=MC R
      unfold vu at j
      split at j
      ·rename_i C
       obtain⟨an,_,ay⟩:=Mm (P:=P) (w:=w) (t:=t) (X:=x) (Y:=.const z) ae j aR bu (MD q C) (yK B)
       have S:eS (.const z)=z:=bp.Bg (v:=z) (show nA (.const z)=V from vZ u (by simp [fL])) ba
       refine .pure s (gP (x:=do lg op t x (.const z) (eS x) (eS (.const z));lM op t (eS x) (eS (.const z))) ?_) ay
       rw[S]
       exact an rfl
      ·cases j
     ·split at aa
      ·rename_i R
       cases aa
       simp only[dh,cX]at ad
       obtain⟨aZ,j,ad⟩:=ad
       cases ad
       obtain⟨z,rfl,bu⟩:=MC R
       unfold vu at j
       split at j
       ·rename_i C
        obtain⟨_,an,ay⟩:=Mm (P:=P) (w:=w) (t:=t) (X:=.const z) (Y:=au) ba j aR bu (MD q C) (yK B)
        have S:eS (.const z)=z:=bp.Bg (v:=z) (show nA (.const z)=V from vZ u (by simp [fL])) ae
        refine .pure s (gP (x:=do lg op t (.const z) au (eS (.const z)) (eS au);lM op t (eS (.const z)) (eS au)) ?_) ay
        rw[S]
        exact an rfl
       ·cases j
      ·cases aa
    ·cases aa
   ·cases aa
  |unOp op t x=>
   cases aa
   simp only[dh,cX]at ad
   obtain⟨aZ,j,ad⟩:=ad
   cases ad
   obtain⟨an,ay⟩:=VZ (P:=P) (w:=w) (p (x:=x) (by simp [fL])) j
   exact .pure s (by simp [kj,an]) ay
  |convert a2 d x=>
   have ae:=p (x:=x) (by simp [fL])
   simp only[jw,A8]at aa
   split at aa
   ·rename_i h2 ak
    cases aa
    simp only[dh,cX]at ad
    obtain⟨aZ,j,ad⟩:=ad
    cases ad
    obtain⟨an,ay⟩:=V0 (P:=P) (w:=w) ae j h2 ak
    exact .pure s (gP an) ay
   ·rename_i h2 ak
    cases aa
    simp only[dh,cX]at ad
    obtain⟨aZ,j,ad⟩:=ad
    cases ad
    obtain⟨an,ay⟩:=V1 (P:=P) (w:=w) ae j h2 ak
    exact .pure s (gP an) ay
   ·rename_i h2 ak
    split at aa
    ·rename_i aJ
     cases aa
     simp only[dh,cX]at ad
     obtain⟨aZ,j,ad⟩:=ad
     cases ad
     obtain⟨an,ay⟩:=Wn (P:=P) (w:=w) s ae j h2 aJ ak
     exact .pure s (gP an) ay
    ·cases aa
   ·cases aa
  |extract x i=>
   cases aa
   simp only[dh,cX]at ad
   obtain⟨aZ,j,ad⟩:=ad
   cases ad
   obtain⟨v',an,ay⟩:=V3 (P:=P) (w:=w) (p (x:=x) (by simp [fL])) j
   exact .pure s (by simp [kj,an]) ay
  |field t x f=>
   simp only[jw,du]at aa
   obtain⟨⟨aC,agg,n⟩,aE,aa⟩:=aa
   cases aa
   simp only[dh,cX]at ad
   obtain⟨aZ,j,ad⟩:=ad
   cases ad
   obtain⟨eR,d,i,h1,h2,ak,aJ,aO,bt,ct⟩:=ME aE
   obtain⟨v',an,ay⟩:=V4 (P:=P) (w:=w) (p (x:=x) (by simp [fL])) j h1 h2 rfl ak aJ aO bt
   exact .pure s (by simp [kj,an]) ay
  |fieldAddr t x f=>
   simp only[jw,du]at aa
   obtain⟨⟨aC,agg,n⟩,aE,aa⟩:=aa
   cases aa
   simp only[dh,cX]at ad
   obtain⟨aZ,j,ad⟩:=ad
   cases ad
   obtain⟨eR,d,i,h1,h2,ak,aJ,aO,bt,ct⟩:=ME aE
   obtain⟨v',an,ay⟩:=V7 (P:=P) (w:=w) (p (x:=x) (by simp [fL])) j h1 h2 rfl aJ (by omega)
   exact .pure s (by simp [kj,an]) ay
  |indexAddr t x T=>
   have ae:=p (x:=x) (by simp [fL])
   have ba:=p (x:=T) (by simp [fL])
   simp only[jw]at aa
   split at aa
   ·rename_i e' aR
    rw[du]at aa
    obtain⟨⟨agg,n⟩,ax,aa⟩:=aa
    cases aa
    simp only[dh,cX]at ad
    obtain⟨aZ,j,ad⟩:=ad
    cases ad
    obtain⟨d,i,h1,h2,ak,aJ,aO⟩:=nE ax
    obtain⟨v',an,ay⟩:=V8 (P:=P) (w:=w) ae ba j aR h2 aJ
    exact .pure s (gP an) ay
   ·rename_i ao e' aR
    rw[du]at aa
    obtain⟨⟨agg,n⟩,ax,aa⟩:=aa
    cases aa
    simp only[dh,cX]at ad
    obtain⟨aZ,j,ad⟩:=ad
    cases ad
    obtain⟨d,i,h1,h2,ak,aJ,aO⟩:=nE ax
    obtain⟨v',an,ay⟩:=V9 (P:=P) (w:=w) ae ba j aR h2 aJ
    exact .pure s (gP an) ay
   ·cases aa
  |index t x T=>
   have ae:=p (x:=x) (by simp [fL])
   have ba:=p (x:=T) (by simp [fL])
   simp only[jw]at aa
   split at aa
   ·rename_i ao e' aR
    rw[du]at aa
    obtain⟨⟨agg,n⟩,ax,aa⟩:=aa
    cases aa
    simp only[dh,cX]at ad
    obtain⟨aZ,j,ad⟩:=ad
    cases ad
    obtain⟨d,i,h1,h2,ak,aJ,aO⟩:=nE ax
    obtain⟨v',an,ay⟩:=V5 (P:=P) (w:=w) ae ba j aR h1 h2 ak aJ
    exact .pure s (gP an) ay
   ·rename_i aR
    cases aa
    simp only[dh,cX]at ad
    obtain⟨aZ,j,ad⟩:=ad
    cases ad
    obtain⟨an,ay⟩:=V6 (P:=P) (w:=w) ae ba j aR
    exact .pure s (gP an) ay
   ·cases aa
  |nilCheck x=>
   cases aa
   simp only[dh,cX]at ad
   obtain⟨aZ,j,ad⟩:=ad
   cases ad
   have ae:=p (x:=x) (by simp [fL])
   have G:=ae
   unfold HB at j
   split at j
   ·rename_i a ha
    cases j
    rw[ha]at G
    generalize ba:eS x=au at G
    cases G with
    |ptr aG=>exact .pure s (by simp [kj,ba]) (.ptr aG)
   ·rename_i f xs ys ha
    cases j
    rw[ha]at G
    generalize ba:eS x=au at G
    cases G with
    |func f aG aF=>exact .pure s (by simp [kj,ba]) (.func f aG aF)
   ·cases j
  |slice t x lo ai mx=>
   have ae:=p (x:=x) (by simp [fL])
   have h1:h7 μ (ja e lo) (lo.map eS):=H0 he (by cases lo<;>first|rfl|exact vZ u (by simp [fL]))
   have h2:h7 μ (ja e ai) (ai.map eS):=H0 he (by cases ai<;>first|rfl|exact vZ u (by simp [fL]))
   have ak:h7 μ (ja e mx) (mx.map eS):=H0 he (by cases mx<;>first|rfl|exact vZ u (by simp [fL]))
   simp only[jw]at aa
   split at aa
   ·rename_i aD
    have ap:(ja e mx).isSome=V->(ja e ai).isSome=V:=by
     intro aB
     have:=aD (by cases mx<;>simp_all [ja])
     cases ai<;>simp_all [ja]
    split at aa
    ·rename_i e' aR
     rw[du]at aa
     obtain⟨⟨agg,n⟩,ax,aa⟩:=aa
     cases aa
     simp only[dh,cX]at ad
     obtain⟨aZ,j,ad⟩:=ad
     cases ad
     obtain⟨d,i,aJ,aO,bt,ct,H⟩:=nE ax
     obtain⟨v',an,ay⟩:=Wa (P:=P) (w:=w) ae h1 h2 ak ap j aR aO ct H
     exact .pure s (gP an) ay
    ·rename_i aR
     split at aa
     ·rename_i aH
      cases aa
      simp only[dh,cX]at ad
      obtain⟨aZ,j,ad⟩:=ad
      cases ad
      obtain⟨an,ay⟩:=Wb (P:=P) (w:=w) ae h1 h2 j aR
      cases mx with
      |none=>exact .pure s (gP an) ay
      |some _=>cases aH
     ·cases aa
    ·rename_i ao e' aR
     split at aa
     ·rename_i aI
      rw[du]at aa
      obtain⟨⟨agg,n⟩,ax,aa⟩:=aa
      cases aa
      simp only[dh,cX]at ad
      obtain⟨aZ,j,ad⟩:=ad
      cases ad
      obtain⟨d,i,aJ,aO,bt,ct,H⟩:=nE ax
      obtain⟨v',an,ay⟩:=Wc (P:=P) (w:=w) ae h1 h2 ak ap j aR aO ct aI
      exact .pure s (gP an) ay
     ·cases aa
    ·cases aa
   ·cases aa
  |build t parts=>
   simp only[jw]at aa
   split at aa
   ·rename_i z0 place bu ah
    rw[du]at aa
    obtain⟨bH,U,aa⟩:=aa
    cases aa
    simp only[dh,cX]at ad
    obtain⟨l,ax,ad⟩:=ad
    cases ad
    obtain⟨i,z,h2,ak,rfl,aO,bt,ct,H⟩:=t' bu
    have v7:=HZ he U (by simpa [kW,fL]using u)
    obtain⟨I,aE,ay⟩:=HX v7 (cB.o_ aO) ax
    have af:=Wt ah h2 ak (parts.toList.map λx=>(x.1,eS x.2))
    rw[aE]at af
    refine .pure s (v':=.agg I) (gP ?_) (.agg ay)
    refine run_build w t _ I ?_
    simpa using af
   ·cases aa
  |buildSlice t n parts=>
   simp only[jw]at aa
   split at aa
   ·rename_i e' aR
    split at aa
    ·rename_i z0 agg sz bu ax
     split at aa
     ·rename_i aK
      rw[du]at aa
      obtain⟨bH,U,aa⟩:=aa
      cases aa
      simp only[dh,cX]at ad
      obtain⟨l,aL,ad⟩:=ad
      cases ad
      obtain⟨i,z,h2,ak,rfl,aO,bt,ct,H⟩:=t' bu
      obtain⟨d,N,cL,cN,dT,fO,gZ⟩:=nE ax
      rw[h2]at cN
      cases cN
      subst fO
      have v7:=HZ he U (by simpa [kW,fL]using u)
      have aM:((tM (n*i.size)).map (z.cells[·%z.cells.size]!)).toList=rep z.cells.toList n:=by
       rw[<-bt]
       exact Bl _ _
      obtain⟨I,aE,ay⟩:=HX (cs:=(tM (n*i.size)).map (z.cells[·%z.cells.size]!)) v7 (by rw[aM];exact(cB.o_ aO).rep _) aL
      have bz:l.length=I.size:=by simpa using ay.length
      have D:fr P (grow μ h.length w.heap.size 0) 0 (.cells l e' V) (.cells I e' (0,0)):=
       ⟨_,_,rfl,by omega,by rw[bz,vh (by simp)];exact ay.mono (sN s _ _),λ_=>rfl,by omega⟩
      obtain⟨E,F⟩:=s.alloc (w0:=w) rfl kG.rfl D
      have aN:n<eQ:=by
       have:n<=n*i.size:=Nat.le_mul_of_pos_right _ gZ
       unfold eQ
       omega
      refine .val (gP (run_buildSlice w t e' n _ I i z aR h2 ak (by omega) ?_ ?_)) (.bZ (pY _ _ _) (.inl ⟨aN,rfl⟩)) E F
      ·have:0<n*i.size:=Nat.mul_pos aK.2 gZ
       omega
      ·simpa using aE
     ·split at aa
      ·rename_i av
       cases aa
       obtain⟨rfl,aP⟩:=av
       have aQ:parts=#[]:=by
        cases parts with
        |mk l=>cases l with
         |nil=>rfl
         |cons=>cases aP
       subst aQ
       have aS:v=.slice (y ⟨h.length,0,none⟩) 0 0/\h1=h++[.cells [] e' V]:=by
        simp only[dh,rep,ny,pQ,dy]at ad
        cases ad
        exact⟨rfl,rfl⟩
       obtain⟨rfl,rfl⟩:=aS
       obtain⟨d,N,cL,cN,dT,fO,gZ⟩:=nE ax
       have D:fr P (grow μ h.length w.heap.size 0) 0 (.cells [] e' V) (.cells #[] e' (0,0)):=
        ⟨_,_,rfl,by simp,.nil,λ_=>rfl,by omega⟩
       obtain⟨E,F⟩:=s.alloc (w0:=w) rfl kG.rfl D
       have aT:(Instr.buildSlice t 0 #[]).run P w=.ok (.slice (y ⟨w.heap.size,0,none⟩) 0 0) (w.alloc (.cells #[] e')):=by
        simp [Instr.buildSlice,eX aR,lR cN,newRow,Hm]
        have aU:(tM 0).map (λ_=>(default:Value))=#[]:=akj (by simp)
        rw[aU]
       exact .val (gP (by simpa using aT)) (.bZ (pY _ _ _) (.inl ⟨by decide,rfl⟩)) E F
      ·cases aa
    ·cases aa
   ·cases aa
  |makeFunc fn first oe=>
   cases fn with
   |func f=>
    cases aa
    cases ad
    have h2:kW first.toList=V/\kW oe.toList=V:=by
     simpa [kW,fL]using u
    exact .pure s rfl (.func f (by simpa using qM he h2.1) (by simpa using qM he h2.2))
   |_=>cases aa
  |makeMap t r=>
   cases r with
   |some x=>cases aa
   |none=>
    cases aa
    cases ad
    obtain⟨bC,μ1,v',an,ay,aB,ae⟩:=Wr (P:=P) (w:=w) s (t:=t)
    exact .val (gP an) ay aB ae
  |lookup t x i ok=>
   have ae:=p (x:=x) (by simp [fL])
   have ai:=p (x:=i) (by simp [fL])
   simp only[jw]at aa
   split at aa
   ·rename_i key elem aR
    split at aa
    ·rename_i k a3 af aV
     split at aa
     ·rename_i z bu
      split at aa
      ·rename_i W
       cases aa
       simp only[dh,cX]at ad
       obtain⟨aZ,j,ad⟩:=ad
       cases ad
       cases q:P.underlying key with
       |none=>rw[q]at af;cases af
       |some d=>
        rw[q]at af
        obtain⟨v',an,ay⟩:=Wq (P:=P) (w:=w) s ae ai j aR q af aV bu (bp.Ma W)
        exact .pure s (gP an) ay
      ·cases aa
     ·cases aa
    ·cases aa
   ·cases aa
  |mapUpdate t m k v=>
   have hm:=p (x:=m) (by simp [fL])
   have C:=p (x:=k) (by simp [fL])
   have Z:=p (x:=v) (by simp [fL])
   simp only[jw]at aa
   split at aa
   ·rename_i key elem aR
    rw[du]at aa
    obtain⟨b,af,aa⟩:=aa
    cases aa
    simp only[dh,cX]at ad
    obtain⟨aZ,j,ad⟩:=ad
    cases ad
    cases q:P.underlying key with
    |none=>rw[q]at af;cases af
    |some d=>
     rw[q]at af
     obtain⟨bC,an,aB,A⟩:=MB (P:=P) (w:=w) s hm C Z j aR q af
     exact⟨undef,bC,μ,.inr ⟨by simp [kj,an],rfl⟩,.undef,aB,A⟩
   ·cases aa
  |insert t m k v=>
   have hm:=p (x:=m) (by simp [fL])
   have C:=p (x:=k) (by simp [fL])
   have Z:=p (x:=v) (by simp [fL])
   simp only[jw]at aa
   split at aa
   ·rename_i key elem aR
    rw[du]at aa
    obtain⟨b,af,aa⟩:=aa
    cases aa
    simp only[dh,cX]at ad
    obtain⟨aZ,j,ad⟩:=ad
    cases ad
    cases q:P.underlying key with
    |none=>rw[q]at af;cases af
    |some d=>
     rw[q]at af
     obtain⟨bC,an,aB,A⟩:=MB (P:=P) (w:=w) s hm C Z j aR q af
     exact⟨undef,bC,μ,.inr ⟨by simp [kj,an],rfl⟩,.undef,aB,A⟩
   ·cases aa
  |makeInterface t x=>
   simp only[jw]at aa
   split at aa
   ·cases aa
   ·rename_i d aW aR
    cases aa
    cases ad
    refine .pure s (gP ?_) (.iface t (p (x:=x) (by simp [fL])))
    simp only[Instr.makeInterface,eN,eX aR,et]
    cases d<;>first|rfl|exact absurd rfl (aW _)
   ·cases aa
  |box t x=>
   cases aa
   cases ad
   have ae:=(p (x:=x) (by simp [fL])).VJ
   have D:fr P (grow μ h.length w.heap.size 0) 0 (.cells (kU (val e x)) t V) (.cells (eS x).cells t (0,0)):=
    ⟨_,_,rfl,ae.1,ae.2.mono (sN s _ _),λ_=>rfl,by omega⟩
   obtain⟨E,F⟩:=s.alloc (w0:=w) rfl kG.rfl D
   refine .val (v':=.pointer (y ⟨w.heap.size,0,none⟩)) (gP ?_) (.ptr (pY _ _ _)) E F
   simp only[Instr.box,newVar,newRow,eN,xX,et,gx]
   rfl
  |alloc t=>
   simp only[jw,du]at aa
   obtain⟨z0,bu,aa⟩:=aa
   cases aa
   cases ad
   obtain⟨i,z,h2,ak,rfl,aO,bt,ct,H⟩:=t' bu
   have D:fr P (grow μ h.length w.heap.size 0) 0 (.cells z.cells.toList t V) (.cells z.cells t (0,0)):=
    ⟨_,_,rfl,by simp,by rw[vh (by simp)];exact cB.o_ aO,λ_=>rfl,by omega⟩
   obtain⟨E,F⟩:=s.alloc (w0:=w) rfl kG.rfl D
   refine .val (v':=.pointer (y ⟨w.heap.size,0,none⟩)) (gP ?_) (.ptr (pY _ _ _)) E F
   simp only[Instr.alloc,eN,yE h2 ak,newVar,newRow,xX,et,gx]
   rfl
  |makeSlice t n c=>
   simp only[jw]at aa
   split at aa
   ·rename_i e' aR
    rw[du]at aa
    obtain⟨z0,bu,aa⟩:=aa
    cases aa
    simp only[dh,cX]at ad
    obtain⟨⟨aZ,h2⟩,j,ad⟩:=ad
    cases ad
    obtain⟨i,z,cN,dT,fO,gZ,K,aq,L⟩:=t' bu
    obtain⟨v',bC,μ1,an,ay,aB,ae⟩:=We (P:=P) (w:=w) s (p (x:=n) (by simp [fL])) (p (x:=c) (by simp [fL])) j aR cN dT fO K L gZ
    exact .val (gP an) ay aB ae
   ·cases aa
  |load t x=>
   simp only[jw,du]at aa
   obtain⟨⟨agg,n⟩,ax,aa⟩:=aa
   cases aa
   simp only[dh,cX]at ad
   obtain⟨aZ,j,ad⟩:=ad
   cases ad
   obtain⟨d,i,h1,h2,ak,aJ,aO⟩:=nE ax
   obtain⟨v',an,ay⟩:=Ml s (p (x:=x) (by simp [fL])) j h1 h2 ak aJ
   exact .pure s (by simp [kj,an]) ay
  |store t x au=>
   simp only[jw,du]at aa
   obtain⟨⟨agg,n⟩,ax,aa⟩:=aa
   cases aa
   simp only[dh,cX]at ad
   obtain⟨aZ,j,ad⟩:=ad
   cases ad
   obtain⟨d,i,h1,h2,ak,aJ,aO⟩:=nE ax
   obtain⟨b',an,aB,ae⟩:=VY s (p (x:=x) (by simp [fL])) (p (x:=au) (by simp [fL])) j h2 aJ aO
   exact⟨undef,b',μ,.inr ⟨by simp [kj,an],rfl⟩,bp.undef,aB,ae⟩
  |call c=>
   obtain⟨callee,args,argTypes⟩:=c
   cases callee with
   |value f=>
    cases f with
    |func g=>
     simp only[jw]at aa
     split at aa
     ·cases aa;cases aA
     ·cases aa
    |_=>cases aa;cases aA
   |invoke _ _=>cases aa
   |builtin b=>
    have J:∀{x:Operand},x∈args.toList->bp μ (val e x) (eS x):=λae=>p (by simpa [fL,Hp]using ae)
    have ar:kW args.toList=V:=by simpa [kW,fL,Hp]using u
    obtain⟨args⟩:=args
    simp only[jw,A_]at aa
    split at aa
    ·rename_i x
     have ae:=J (x:=x) (by simp)
     split at aa
     ·rename_i t
      split at aa
      ·rename_i aR
       cases aa
       simp only[dh,cX]at ad
       obtain⟨aZ,j,ad⟩:=ad
       cases ad
       obtain⟨an,ay⟩:=Mn (P:=P) (w:=w) (ty:=type) ae j (by simpa using aR)
       exact .pure s (qN (gP an)) ay
      ·rename_i e' aR
       cases aa
       simp only[dh,cX]at ad
       obtain⟨aZ,j,ad⟩:=ad
       cases ad
       obtain⟨an,ay⟩:=Mn (P:=P) (w:=w) (ty:=type) ae j (by simpa using⟨e',aR⟩)
       exact .pure s (qN (gP an)) ay
      ·rename_i n e' aR
       cases aa
       cases ad
       refine .pure s (v':=.int .i64 n) (qN (gP ?_)) (.int _ _)
       simp [xS,eX aR,goInt]
      ·rename_i k' e' aR
       cases aa
       simp only[dh,cX]at ad
       obtain⟨aZ,j,ad⟩:=ad
       cases ad
       obtain⟨an,ay⟩:=Ws (P:=P) (w:=w) (ty:=type) s ae j aR
       exact .pure s (qN (gP an)) ay
      ·cases aa
     ·cases aa
    ·rename_i x au
     have ae:=J (x:=x) (by simp)
     have ba:=J (x:=au) (by simp)
     have key:∀(st xt elem:a1) (ab:TypeDesc) (z0:List Value) (l:Bool×Nat),argTypes=#[st,xt]->P.underlying st=y (.slice elem)->P.underlying xt=y ab->(∀k,ab≠.int k)->pV P elem=y z0->jb P elem=y l->
      ∀aZ,sF elem l.2 (val e x) (val e au) h=y aZ->vY P ⟨dst,.call ⟨.builtin .append,⟨[x,au]⟩,argTypes⟩,type,pos,after,guard⟩ eS μ h w aZ.1 aZ.2:=by
      rintro st xt elem ab z0 ⟨agg,n⟩ rfl h1 h2 ak aJ aO ⟨ac,al⟩ j
      obtain⟨i,z,cN,dT,fO,gZ,K,aq,L⟩:=t' aJ
      obtain⟨d,N,bw,bD,da,c1,fE⟩:=nE aO
      rw[cN]at bD
      cases bD
      obtain⟨v',bC,μ1,an,ay,aB,A⟩:=Wh (P:=P) (w:=w) (ty:=type) s ae ba j h1 h2 ak cN c1 dT K L
      exact .val (qN (gP an)) ay aB A
     split at aa
     ·rename_i st xt
      split at aa
      ·rename_i e' a4 h1 h2
       split at aa
       ·rename_i z0 agg n ak aJ
        cases aa
        simp only[dh,cX]at ad
        obtain⟨aZ,j,ad⟩:=ad
        cases ad
        exact key _ _ _ _ _ _ rfl h1 h2 (by simp) ak aJ aZ j
       ·cases aa
      ·rename_i e' h1 h2
       split at aa
       ·rename_i z0 agg n ak aJ
        cases aa
        simp only[dh,cX]at ad
        obtain⟨aZ,j,ad⟩:=ad
        cases ad
        exact key _ _ _ _ _ _ rfl h1 h2 (by simp) ak aJ aZ j
       ·cases aa
      ·rename_i e' k' h1 h2
       split at aa
       ·rename_i z0 agg n ak aJ
        cases aa
        simp only[dh,cX]at ad
        obtain⟨⟨ac,al⟩,j,ad⟩:=ad
        cases ad
        obtain⟨i,z,cN,dT,fO,gZ,K,aq,L⟩:=t' ak
        obtain⟨d,N,bw,bD,da,c1,fE⟩:=nE aJ
        rw[cN]at bD
        cases bD
        obtain⟨v',bC,μ1,an,ay,aB,A⟩:=Wm (P:=P) (w:=w) (ty:=type) s ae ba j h1 h2 cN c1 dT K L fO gZ
        exact .val (qN (gP an)) ay aB A
       ·cases aa
      ·cases aa
     ·cases aa
    ·rename_i x au
     have ae:=J (x:=x) (by simp)
     have ba:=J (x:=au) (by simp)
     split at aa
     ·rename_i a5 xt
      split at aa
      ·rename_i e' h1
       rw[du]at aa
       obtain⟨⟨agg,n⟩,ax,aa⟩:=aa
       cases aa
       simp only[dh,cX]at ad
       obtain⟨⟨ac,al⟩,j,ad⟩:=ad
       cases ad
       obtain⟨d,N,bw,bD,da,c1,fE⟩:=nE ax
       obtain⟨bC,an,ay,aB,A⟩:=Wi (P:=P) (w:=w) (ty:=type) (xt:=xt) s ae ba j h1 bD c1
       exact .val (qN (gP an)) ay aB A
      ·cases aa
     ·cases aa
    ·rename_i x
     have ae:=J (x:=x) (by simp)
     split at aa
     ·rename_i t
      split at aa
      ·rename_i e' h1
       rw[du]at aa
       obtain⟨z0,W,aa⟩:=aa
       cases aa
       simp only[dh,cX]at ad
       obtain⟨⟨ac,al⟩,j,ad⟩:=ad
       cases ad
       obtain⟨i,z,h2,ak,rfl,aO,bt,ct,H⟩:=t' W
       obtain⟨bC,an,ay,aB,A⟩:=Wj (P:=P) (w:=w) (ty:=type) s ae h1 h2 ak aO j
       exact .val (qN (gP an)) ay aB A
      ·cases aa
     ·cases aa
    ·cases aa
     simp only[dh,cX]at ad
     obtain⟨aZ,j,ad⟩:=ad
     cases ad
     have am:=qM he ar
     cases args with
     |nil=>cases j
     |cons x xs=>
      cases am with
      |cons h1 h2=>
       obtain⟨v',an,ay⟩:=HV (P:=P) (w:=w) (g:=Builtin.max2) (λx au aY c_ v ae ba h=>V_ ae ba h) h1 h2 j
       refine .pure s (qN (gP ?_)) ay
       simpa [Builtin.max_]using an
    ·cases aa
     simp only[dh,cX]at ad
     obtain⟨aZ,j,ad⟩:=ad
     cases ad
     have am:=qM he ar
     cases args with
     |nil=>cases j
     |cons x xs=>
      cases am with
      |cons h1 h2=>
       obtain⟨v',an,ay⟩:=HV (P:=P) (w:=w) (g:=Builtin.min2) (λx au aY c_ v ae ba h=>V' ae ba h) h1 h2 j
       refine .pure s (qN (gP ?_)) ay
       simpa [Builtin.min_]using an
    ·cases aa
  |panic x=>cases aa;simp only[dh]at ad;cases ad
  |_=>cases aa
 ·cases aa
end Go.bF
namespace Go.bF
variable {P : Program} {μ : Ren} {w : World}
def kH(F:Fence):Prop:=(∀f,F.fn f)/\F.depth=none
def Wu(P:Program)(Γ:Callee)(f:dU):Prop:=
 ∀args h r h1,Γ f args h=y (r,h1)->
  (∀(xs:Array Value) (w:World),(callFunc f xs).run P w=.ok (.enter f xs) w)/\
  ∀(μ:Ren) (w:World) (b:List Value),cS P μ h w->cB μ args b->∀(F:Fence) (n:Nat),kH F->
   CallsIn F n P f b.toArray w λe b'=>∃v μ1,e=.returned v/\bp μ1 r v/\cS P μ1 h1 b'/\Ext μ h w μ1 h1 b'
def Wv(P:Program)(Γ:Callee):Prop:=
 ∀b args h r h1,Γ dX (iO b 0::args) h=y (r,h1)->
  ∀(μ:Ren) (w:World) (g:List Value) (c K:Nat),cS P μ h w->cB μ args g->μ b=y ⟨c,K⟩->
   ∃fn tmps as i,(Instr.yield c g.toArray).run P w=.ok (.round c fn tmps as i) w/\∀(F:Fence) (n:Nat),kH F->
    RoundIn F n P c fn tmps as i w λe b'=>∃v μ1,e=.returned v/\bp μ1 r v/\cS P μ1 h1 b'/\Ext μ h w μ1 h1 b'
structure jd(P:Program)(Γ:Callee):Prop where
 fn:∀f,fX f dX=V->Wu P Γ f
 yield:Wv P Γ
theorem MG{c:Call}{f:Operand}{eS:Operand->Value}{g:dU}{xs ys:Array Value}{ty:a1}(aa:c.callee=.value f)(aE:eS f=.func (.func g) xs ys):
 (resolve eS c ty).run P w=.ok { target:=.fn (.func g) ys,args:=xs++c.args.map eS } w:=by
 simp [resolve,aa,Deferred.ofValue,aE]
theorem MH{Γ:Callee}{f:Value}{args:List Value}{h h1:aX}{v:Value}(ad:o3 Γ f args h=y (v,h1)):
 (∃g xs ys,f=.func (.func g) xs ys/\fX g dX=V/\Γ g (xs.toList++args++ys.toList) h=y (v,h1))\/∃b,f=.func (.yield b) ⟨[]⟩ ⟨[]⟩/\Γ dX (iO b 0::args) h=y (v,h1):=by
 unfold o3 at ad
 split at ad
 ·rename_i g xs ys
  cases af:fX g dX with
  |true=>rw[af]at ad;exact .inl ⟨_,_,_,rfl,af,ad⟩
  |false=>rw[af]at ad;cases ad
 ·exact .inr ⟨_,rfl,ad⟩
 ·cases ad
theorem Ww{c:Call}{f:Operand}{eS:Operand->Value}{l:Nat}{ty:a1}(aa:c.callee=.value f)(aE:eS f=.func (.yield l) ⟨[]⟩ ⟨[]⟩):
 ((do let d<-resolve eS c ty;invoke d.target d.args:Sem Next)).run P w=(Instr.yield l (c.args.map eS)).run P w:=by
 simp [resolve,aa,Deferred.ofValue,aE,invoke]
theorem MI{b:Builtin}{args:List Operand}{e:Array a1}{c:fY}(aa:A_ P b args e=y c):ub c=M:=by
 unfold A_ at aa
 split at aa
 ·split at aa
  ·split at aa<;>first|(cases aa;rfl)|cases aa
  ·cases aa
 ·split at aa
  ·split at aa
   ·split at aa<;>first|(cases aa;rfl)|cases aa
   ·split at aa<;>first|(cases aa;rfl)|cases aa
   ·split at aa<;>first|(cases aa;rfl)|cases aa
   ·cases aa
  ·cases aa
 ·split at aa
  ·split at aa
   ·rw[du]at aa;obtain⟨_,_,aa⟩:=aa;cases aa;rfl
   ·cases aa
  ·cases aa
 ·split at aa
  ·split at aa
   ·rw[du]at aa;obtain⟨_,_,aa⟩:=aa;cases aa;rfl
   ·cases aa
  ·cases aa
 ·cases aa;rfl
 ·cases aa;rfl
 ·cases aa
theorem MJ{op:BinOp}{t:a1}{x au:Operand}{b:fY}(aa:A7 P op t x au=y b):ub b=M:=by
 unfold A7 at aa
 split at aa
 ·cases aa;rfl
 ·cases aa;rfl
 ·rw[du]at aa;obtain⟨_,_,aa⟩:=aa;cases aa;rfl
 ·split at aa<;>first|(cases aa;rfl)|cases aa
 ·split at aa<;>first|(cases aa;rfl)|cases aa
 ·split at aa
  ·split at aa
   ·cases aa;rfl
   ·split at aa
    ·cases aa;rfl
    ·cases aa
  ·cases aa
 ·cases aa
theorem MK{s d:a1}{x:Operand}{b:fY}(aa:A8 P s d x=y b):ub b=M:=by
 unfold A8 at aa
 split at aa
 ·cases aa;rfl
 ·cases aa;rfl
 ·split at aa
  ·cases aa;rfl
  ·cases aa
 ·cases aa
theorem yL{F:Fence}{n:Nat}{o:Oper}{B:fY}{e:bP}{a:Act}{h h1:aX}{v:Value}{Γ:Callee}{next:Act->World->Prop}{Q:Exit->Act->World->Prop}
 (l:kH F) (aa:o5 P o.op=y B) (D:jd P Γ) (he:ua μ e a.eval) (s:cS P μ h w) (ad:dh Γ B e h (λv h'=>y (v,h'))=y (v,h1))
 (m:∀v' bC μ1,bp μ1 v v'->cS P μ1 h1 bC->Ext μ h w μ1 h1 bC->next (a.put o.dst v') bC):o.wpIn F n P a w next Q:=by
 refine⟨λf _=>l.1 f,?_⟩
 have L:o.semAt F.round a.eval=kj a.eval o:=by
  apply Oper.semAt_eq
  intro c hd
  rw[hd]at aa
  unfold o5 at aa
  split at aa<;>cases aa
 rw[L]
 by_cases aA:ub B=M
 ·obtain⟨v',bC,μ1,an,ay,aB,ae⟩:=MF aa aA he s ad
  rcases an with an|⟨an,rfl⟩
  ·rw[an];exact m v' bC μ1 ay aB ae
  ·rw[an];exact m undef bC μ1 ay aB ae
 ·unfold o5 at aa
  split at aa
  case isFalse=>cases aa
  rename_i p
  obtain⟨dst,op,type,pos,after,guard⟩:=o
  simp only at aa p m
  have key:∀(f:dU) (args:List Value) (A:List Value),fX f dX=V->cB μ args A->Γ f args h=y (v,h1)->(kj a.eval ⟨dst,op,type,pos,after,guard⟩).run P w=(callFunc f A.toArray).run P w->
   Oper.uponIn F n P ⟨dst,op,type,pos,after,guard⟩ a next Q ((kj a.eval ⟨dst,op,type,pos,after,guard⟩).run P w):=by
   intro f args A q ax bG an
   obtain⟨h2,ak⟩:=D.fn f q args h v h1 bG
   rw[an,h2]
   refine⟨λhd=>(by rw[l.2]at hd;cases hd),(ak μ w A s ax F (n-1) l).mono ?_⟩
   rintro e' b' ⟨v',μ1,rfl,ay,aB,ae⟩
   exact m v' b' μ1 ay aB ae
  have C:∀(c:Call) (f:Operand),op=.call c->c.callee=.value f->nA f=V->kW c.args.toList=V->o3 Γ (val e f) (dg e c.args.toList) h=y (v,h1)->
   Oper.uponIn F n P ⟨dst,op,type,pos,after,guard⟩ a next Q ((kj a.eval ⟨dst,op,type,pos,after,guard⟩).run P w):=by
   intro c f E G i k bG
   rcases MH bG with⟨g,xs,ys,aE,q,bG⟩|⟨b,aE,bG⟩
   case inr=>
    have j:=he f i
    rw[aE]at j
    generalize ba:a.eval f=au at j
    cases j with
    |@yield _ H K aO=>
     obtain⟨fn,tmps,as,N,cL,cN⟩:=D.yield b _ h v h1 bG μ w (c.args.toList.map a.eval) H K s (qM he k) aO
     subst E
     have O:(kj a.eval ⟨dst,.call c,type,pos,after,guard⟩).run P w=.ok (.round H fn tmps as N) w:=by
      have:=Ww (P:=P) (w:=w) (ty:=type) G ba
      have hm:c.args.map a.eval=(c.args.toList.map a.eval).toArray:=mL (by simp)
      rw[hm,cL]at this
      exact this
     rw[O]
     refine⟨λhd=>(by rw[l.2]at hd;cases hd),(cN F (n-1) l).mono ?_⟩
     rintro e' b' ⟨v',μ1,rfl,ay,aB,ae⟩
     exact m v' b' μ1 ay aB ae
   have j:=he f i
   rw[aE]at j
   generalize ba:a.eval f=au at j
   cases j with
   |@func _ _ _ fh e2 aO bt=>
    refine key g _ (fh.toList++c.args.toList.map a.eval++e2.toList) q ((aO.append (qM he k)).append bt) bG ?_
    subst E
    have hm:fh++c.args.map a.eval++e2=(fh.toList++c.args.toList.map a.eval++e2.toList).toArray:=mL (by simp)
    simp only[kj,eN,MG G ba,et,invoke,hm]
  cases op with
  |call c=>
   obtain⟨callee,args,argTypes⟩:=c
   cases callee with
   |value f=>
    have k:kW args.toList=V:=by
     simp only[kW,fL,Hp,LS,List.all_append,dn]at p
     exact p.2
    have i:nA f=V:=by
     simp only[kW,fL,Hp,LS,List.all_append,dn]at p
     simpa using p.1
    cases f with
    |func g=>
     simp only[jw]at aa
     split at aa
     case isFalse=>cases aa
     rename_i q
     cases aa
     have u:Γ g (dg e args.toList) h=y (v,h1):=by
      simp only[dh,cX]at ad
      obtain⟨⟨I,J⟩,x,ad⟩:=ad
      cases ad
      exact x
     refine C _ (.func g) rfl rfl i k ?_
     show(bif fX g dX then Γ g ([]++dg e args.toList++[]) h else none)=y (v,h1)
     rw[q,List.nil_append,List.append_nil]
     exact u
    |tmp t=>
     cases aa
     have u:o3 Γ (val e (.tmp t)) (dg e args.toList) h=y (v,h1):=by
      simp only[dh,cX]at ad
      obtain⟨⟨I,J⟩,x,ad⟩:=ad
      cases ad
      exact x
     exact C _ (.tmp t) rfl rfl i k u
    |const z=>
     cases aa
     have u:o3 Γ (val e (.const z)) (dg e args.toList) h=y (v,h1):=by
      simp only[dh,cX]at ad
      obtain⟨⟨I,J⟩,x,ad⟩:=ad
      cases ad
      exact x
     exact C _ (.const z) rfl rfl i k u
    |global g=>cases i
   |invoke _ _=>cases aa
   |builtin b=>exact absurd (MI aa) aA
  |binOp _ _ _ _ _=>exact absurd (MJ aa) aA
  |convert _ _ _=>exact absurd (MK aa) aA
  |makeMap t r=>cases r<;>first|(cases aa;done)|(cases aa;exact absurd rfl aA)
  |makeFunc fn _ _=>cases fn<;>first|(cases aa;done)|(cases aa;exact absurd rfl aA)
  |_=>
   exfalso
   apply aA
   first
    |(cases aa;done)
    |(cases aa;rfl)
    |(simp only[jw]at aa
      (repeat' split at aa)<;>first
        |(cases aa;rfl)
        |(rw[du]at aa;obtain⟨_,_,aa⟩:=aa;cases aa;rfl)
        |cases aa)
end Go.bF
namespace Go.bF
variable {P : Program} {μ : Ren} {w : World}
theorem pb(e:bP)(i:Nat)(v:Value):bQ e i v i=v:=by simp [bQ]
theorem cE(e:bP){i j:Nat}(v:Value)(h:i≠j):bQ e i v j=e j:=by
 have:cM i j=M:=by
  cases af:cM i j with
  |false=>rfl
  |true=>exact absurd (hW af) h
 simp [bQ,this]
def iQ(e' e:bP):Prop:=∀i,e' i=e i\/e' i=dR
theorem iQ.refl(e:bP):iQ e e:=λ_=>.inl rfl
theorem H2{e:bP}:∀{l:List Nat} {i:Nat},i∈l->kn e l i=dR
 |j::l,i,h=>by
  unfold kn
  by_cases b:j=i
  ·subst b;exact pb _ _ _
  ·rw[cE _ _ b]
   exact H2 (by simpa [oa b]using h)
theorem v8{e:bP}:∀{l:List Nat} {i:Nat},i∉l->kn e l i=e i
 |[],_,_=>rfl
 |j::l,i,h=>by
  simp only[hF,not_or]at h
  unfold kn
  rw[cE _ _ (oa h.1)]
  exact v8 h.2
structure g_(μ:Ren)(e:bP)(a:Act)(N:Nat):Prop where
 size:a.tmps.size=N
 rel:∀i,bp μ (e i) (a.tmps.getD i undef)
theorem g_.op{e:bP}{a:Act}{N:Nat}(f:g_ μ e a N):ua μ e a.eval:=by
 intro x ae
 cases x with
 |tmp t=>exact f.rel t
 |const v=>exact bp.Ma ae
 |global g=>cases ae
 |func g=>exact .func g .nil .nil
theorem g_.mono{aY:Ren}{e:bP}{a:Act}{N:Nat}(f:g_ μ e a N)(h:ev μ aY):g_ aY e a N:=⟨f.size,λi=>(f.rel i).mono h⟩
theorem g_.lS{e e':bP}{a:Act}{N:Nat}(f:g_ μ e a N)(h:iQ e' e):g_ μ e' a N:=
 ⟨f.size,λi=>by
  rcases h i with h|h
  ·rw[h];exact f.rel i
  ·rw[h];exact .dR _⟩
theorem g_.put{e:bP}{a:Act}{N:Nat}{v v':Value}(f:g_ μ e a N)(ay:bp μ v v')(d:Option Nat)(hd:∀i,d=y i->i<N):g_ μ (hr e d v) (a.put d v') N:=by
 cases d with
 |none=>exact f
 |some i=>
  refine⟨by simp [Act.put,f.size],λj=>?_⟩
  show bp μ (bQ e i v j) _
  have ai:i<a.tmps.size:=by rw[f.size];exact hd i rfl
  by_cases h:i=j
  ·subst h
   rw[pb]
   simp [Act.put,ai]
   exact ay
  ·rw[cE _ _ h]
   have:=f.rel j
   simp only[Act.put,nt]at this|-
   rw[x1 h]
   exact this
def Bn(ef:lk)(e:bP)(h h1:aX):Prop:=
 match ef with
 |.no=>True
 |.calm=>h <+: h1
 |.hH bH=>∀p∈bH,yp (e p.1) (e p.2)
inductive kY(Γ:Callee):List c6->bP->aX->bP->aX->Prop
 |nil (e:bP) (h:aX):kY Γ [] e h e h
 |lS {l:List c6} {e e' aF:bP} {h h2:aX} (cb:iQ e' e) (aR:kY Γ l e' h aF h2):kY Γ l e h aF h2
 |skip {f:c6} {l:List c6} {e aF:bP} {h h2:aX} {s:Nat} {b:Bool} (bG:f.guard=y (s,b)) (aB:e s=.bool (!b)\/e s=undef)
  (aR:kY Γ l (hr e f.dst undef) h aF h2):kY Γ (f::l) e h aF h2
 |exec {f:c6} {l:List c6} {e aF:bP} {h h1 h2:aX} {v:Value} (bG:f.guard=none\/∃s b,f.guard=y (s,b)/\e s=.bool b)
  (ad:dh Γ f.op e h (λv h'=>y (v,h'))=y (v,h1)) (aa:Bn f.ef e h h1) (aR:kY Γ l (hr e f.dst v) h1 aF h2):kY Γ (f::l) e h aF h2
theorem kY.append{Γ:Callee}{l cK:List c6}{e aG aF:bP}{h h1 h2:aX}(t:kY Γ l e h aG h1)(b:kY Γ cK aG h1 aF h2):kY Γ (l++cK) e h aF h2:=by
 induction t with
 |nil=>exact b
 |lS cb _ a6=>exact .lS cb (a6 b)
 |skip bG aB _ a6=>exact .skip bG aB (a6 b)
 |exec bG ad aa _ a6=>exact .exec bG ad aa (a6 b)
theorem Wx{R:Type}{Γ:Callee}{o:fY}{e:bP}{h:aX}{k:Value->aX->Option R}{r:R}(ad:dh Γ o e h k=y r):
 ∃v h1,dh Γ o e h (λv h'=>y (v,h'))=y (v,h1)/\k v h1=y r:=by
 cases o<;>(try (exfalso;simp only[dh,reduceCtorEq]at ad;done))<;>simp only[dh,cX]at ad|-<;> first
  |exact⟨_,_,rfl,ad⟩
  |(obtain⟨aZ,b,ad⟩:=ad;exact⟨_,_,⟨aZ,b,rfl⟩,ad⟩)
theorem Wy{R:Type}{ef:lk}{e:bP}{h h1:aX}{m:Option R}{r:R}(ad:nz ef e h h1 m=y r):m=y r/\Bn ef e h h1:=by
 unfold nz at ad
 cases ef with
 |calm=>
  simp only[yo]at ad
  split at ad
  ·rename_i ah;exact⟨ad,ah⟩
  ·cases ad
 |no=>exact⟨ad,trivial⟩
 |hH bH=>
  simp only at ad
  split at ad
  ·rename_i ah;exact⟨ad,ah⟩
  ·cases ad
theorem iQ.hr{e' e:bP}(h:iQ e' e)(d:Option Nat)(v:Value):iQ (bF.hr e' d v) (bF.hr e d v):=by
 cases d with
 |none=>exact h
 |some i=>
  intro j
  by_cases b:i=j
  ·subst b;left;simp [bF.hr,pb]
  ·simp only[bF.hr,cE _ _ b];exact h j
theorem H3{l:List Nat}{i:Nat}(h:(!l.contains i)=V):i∉l:=by simpa using h
theorem Bo{l:List Nat}{i:Nat}(h:l.contains i=V):i∈l:=by simpa using h
structure Wz(gs:List Nat)(ir:Option (List Nat))(d c:Nat)(tmp:List Nat)(body rest:mi):Prop where
 hd:d∉gs
 Bp:∀i∈tmp,i∉gs/\i≠c
 aa:∀l,ir=y l->c∈l
 ML:∀i∈kX body,i∈tmp
 WA:∀i∈qJ body,i∈tmp
 MM:d≠c
 H4:oj (c::gs) (y []) body=V
 vU:oj gs (ir.map (kX body++[d]++·)) rest=V
theorem MN{gs:List Nat}{ir:Option (List Nat)}{d c:Nat}{hi:Bool}{tmp:List Nat}{body rest:mi}{au:Operand}(h:oj gs ir (.ll d c hi tmp body au rest)=V):Wz gs ir d c tmp body rest:=by
 simp only[oj,dn]at h
 obtain⟨⟨⟨⟨⟨⟨⟨h1,h2⟩,ak⟩,aJ⟩,aO⟩,bt⟩,ct⟩,b⟩:=h
 refine⟨H3 h1,λi ai=>?_,λl ax=>?_,λi ai=>Bo (List.all_eq_true.1 aJ i ai),λi ai=>Bo (List.all_eq_true.1 aO i ai),by simpa using bt,ct,b⟩
 ·have:=List.all_eq_true.1 h2 i ai
  simp only[dn]at this
  exact⟨H3 this.1,by simpa using this.2⟩
 ·subst ax
  exact Bo (by simpa using ak)
theorem MO{gs:List Nat}{ir:Option (List Nat)}{d:Option Nat}{o:fY}{ef:lk}{rest:mi}(h:oj gs ir (.op d o ef rest)=V):(∀i,d=y i->i∉gs)/\oj gs (ir.map (d.toList++·)) rest=V:=by
 simp only[oj,dn]at h
 refine⟨?_,h.2⟩
 rintro i rfl
 exact H3 (by simpa using h.1)
theorem v_{e:bP}{d:Option Nat}{v:Value}{i:Nat}(h:∀j,d=y j->j≠i):hr e d v i=e i:=by
 cases d with
 |none=>rfl
 |some j=>exact cE _ _ (h j rfl)
theorem Bq{Γ:Callee}:∀(s:mi) (gs ir:List Nat) (e:bP) (h:aX) (c:Nat) (b:Bool),oj gs (y ir) s=V->c∈gs->(e c=.bool (!b)\/e c=undef)->(∀i∈ir,e i=undef)->
 ∃aF,kY Γ (sJ s (y (c,b))) e h aF h/\(∀i,i∉kX s->aF i=e i)/\(∀i∈kX s,aF i=undef)
 |.nil,gs,ir,e,h,c,b,_,_,_,m=>⟨e,.nil e h,λ_ _=>rfl,λi ai=>by cases ai⟩
 |.op d o ef rest,gs,ir,e,h,c,b,p,aa,he,m=>by
  obtain⟨h1,h2⟩:=MO p
  have x:hr e d undef c=e c:=v_ (by rintro j rfl rfl;exact h1 j rfl aa)
  have n:∀i∈d.toList++ir,hr e d undef i=undef:=by
   intro i ai
   by_cases g:d=y i
   ·subst g;exact pb _ _ _
   ·rw[v_ (by rintro j rfl rfl;exact g rfl)]
    refine m i ?_
    rcases List.mem_append.1 ai with h|h
    ·exact absurd (by simpa using h) g
    ·exact h
  obtain⟨aF,aR,ak,aJ⟩:=Bq (Γ:=Γ) rest gs (d.toList++ir) (hr e d undef) h c b h2 aa (by rw[x];exact he) n
  refine⟨aF,.skip rfl he aR,λi ai=>?_,λi ai=>?_⟩
  ·simp only[kX,lO,not_or]at ai
   rw[ak i ai.2]
   exact v_ (by rintro j rfl rfl;exact ai.1 (by simp))
  ·simp only[kX,lO]at ai
   by_cases l:i∈kX rest
   ·exact aJ i l
   ·rw[ak i l]
    exact n i (List.mem_append.2 (.inl (ai.resolve_right l)))
 |.ll d q hi tmp body au rest,gs,ir,e,h,c,b,p,aa,he,m=>by
  have k:=MN p
  obtain⟨aG,z,cL,cN⟩:=Bq (Γ:=Γ) body (q::gs) [] e h q hi k.H4 (by simp) (.inr (m q (k.aa ir rfl))) (by simp)
  have t:c∉kX body:=λt=>(k.Bp c (k.ML c t)).1 aa
  have MM:d≠c:=by rintro rfl;exact k.hd aa
  have n:∀i∈kX body++[d]++ir,bQ aG d undef i=undef:=by
   intro i ai
   by_cases g:d=i
   ·subst g;exact pb _ _ _
   ·rw[cE _ _ g]
    by_cases u:i∈kX body
    ·exact cN i u
    ·rw[cL i u]
     refine m i ?_
     simp only[lO,hp]at ai
     rcases ai with(h|h)|h
     ·exact absurd h u
     ·exact absurd h.symm g
     ·exact h
  have w:aG c=e c:=cL c t
  obtain⟨aF,t2,bw,bD⟩:=Bq (Γ:=Γ) rest gs (kX body++[d]++ir) (bQ aG d undef) h c b k.vU aa (by rw[cE _ _ MM,w];exact he) n
  refine⟨aF,z.append (.skip (s:=c) (b:=b) rfl (by rw[w];exact he) t2),λi ai=>?_,λi ai=>?_⟩
  ·simp only[kX,lO,hF,not_or]at ai
   rw[bw i ai.2.2,cE _ _ (oa ai.2.1),cL i ai.1]
  ·by_cases l:i∈kX rest
   ·exact bD i l
   ·rw[bw i l]
    refine n i ?_
    simp only[kX,lO,hF]at ai
    simp only[lO,hp]
    rcases ai with h|h|h
    ·exact .inl (.inl h)
    ·exact .inl (.inr h)
    ·exact absurd h l
theorem Br{R:Type}{Γ:Callee}:∀(s:mi) (gs:List Nat) (ir:Option (List Nat)) (g:Option (Nat×Bool)) (K:bP->aX->Option R) (e:bP) (h:aX) (r:R),oj gs ir s=V->
 (∀c b,g=y (c,b)->c∈gs/\e c=.bool b)->kE Γ s K e h=y r->
 ∃aF h2,kY Γ (sJ s g) e h aF h2/\K aF h2=y r/\(∀i,i∉qJ s->aF i=e i)
 |.nil,_,_,_,K,e,h,r,_,_,ad=>⟨e,h,.nil e h,ad,λ_ _=>rfl⟩
 |.op d o ef rest,gs,ir,g,K,e,h,r,x,bG,ad=>by
  obtain⟨h1,h2⟩:=MO x
  obtain⟨v,h',z,ad⟩:=Wx ad
  obtain⟨ad,I⟩:=Wy ad
  have A:g=none\/∃s b,g=y (s,b)/\e s=.bool b:=by
   cases g with
   |none=>exact .inl rfl
   |some p=>exact .inr ⟨p.1,p.2,rfl,(bG p.1 p.2 rfl).2⟩
  obtain⟨aF,J,aR,q,cb⟩:=Br rest gs _ g K (hr e d v) h' r h2 (λc b l=>⟨(bG c b l).1,by
   rw[v_ (by rintro j rfl rfl;exact h1 j rfl (bG _ b l).1)]
   exact(bG c b l).2⟩) ad
  refine⟨aF,J,.exec A z I aR,q,λi ai=>?_⟩
  simp only[qJ,lO,not_or]at ai
  rw[cb i ai.2]
  exact v_ (by rintro j rfl rfl;exact ai.1 (by simp))
 |.ll d c hi tmp body au rest,gs,ir,g,K,e,h,r,x,bG,ad=>by
  have k:=MN x
  simp only[kE,A0]at ad
  have fin:∀(aG:bP) (h1:aX) (v:Value),kY Γ (sJ body (y (c,hi))) e h aG h1->(∀i,i∉tmp->aG i=e i)->
   dh Γ (.pick (.tmp c) (if hi then au else .const (.bool V)) (if hi then .const (.bool M)else au)) aG h1 (λv h'=>y (v,h'))=y (v,h1)->
   kE Γ rest K (bQ (kn e tmp) d v) h1=y r->
   ∃aF h2,kY Γ (sJ (.ll d c hi tmp body au rest) g) e h aF h2/\K aF h2=y r/\(∀i,i∉qJ (.ll d c hi tmp body au rest)->aF i=e i):=by
   intro aG h1 v aR n z ad
   have G:∀m b,g=y (m,b)->m∉tmp:=λm b l u=>(k.Bp m u).1 (bG m b l).1
   have A:g=none\/∃s b,g=y (s,b)/\aG s=.bool b:=by
    cases g with
    |none=>exact .inl rfl
    |some p=>exact .inr ⟨p.1,p.2,rfl,by rw[n _ (G p.1 p.2 rfl)];exact(bG p.1 p.2 rfl).2⟩
   have L:iQ (bQ (kn e tmp) d v) (hr aG (y d) v):=by
    intro i
    show bQ (kn e tmp) d v i=bQ aG d v i\/_
    by_cases B:d=i
    ·subst B;left;rw[pb,pb]
    ·rw[cE _ _ B,cE _ _ B]
     by_cases C:i∈tmp
     ·right;exact H2 C
     ·left;rw[v8 C,n i C]
   obtain⟨aF,h2,N,q,cb⟩:=Br rest gs _ g K (bQ (kn e tmp) d v) h1 r k.vU (λm b l=>⟨(bG m b l).1,by
    have O:d≠m:=by rintro rfl;exact k.hd (bG _ b l).1
    rw[cE _ _ O,v8 (G m b l)]
    exact(bG m b l).2⟩) ad
   refine⟨aF,h2,aR.append (.exec A z trivial (.lS L N)),q,λi ai=>?_⟩
   simp only[qJ,lO,hF,not_or]at ai
   rw[cb i ai.2.2,cE _ _ (oa ai.1),v8 ai.2.1.1]
  unfold A2 at ad
  split at ad
  ·rename_i t w
   split at ad
   ·rename_i H
    subst H
    obtain⟨aG,h1,aR,q,cb⟩:=Br body (c::gs) (y []) (y (c,t)) _ e h r k.H4 (λm b l=>by cases l;exact⟨by simp,w⟩) ad
    have D:c∉tmp:=λu=>(k.Bp c u).2 rfl
    have n:∀i,i∉tmp->aG i=e i:=λi ai=>cb i (λE=>ai (k.WA i E))
    have F:aG c=.bool t:=by rw[n c D];exact w
    refine fin aG h1 (val aG au) aR n ?_ q
    cases t<;>simp [dh,val,F,vv]
   ·rename_i H
    have P:t=!hi:=by cases t<;>cases hi<;>simp_all
    subst P
    obtain⟨aG,aR,cb,_⟩:=Bq (Γ:=Γ) body (c::gs) [] e h c hi k.H4 (by simp) (.inl w) (by simp)
    have D:c∉tmp:=λu=>(k.Bp c u).2 rfl
    have n:∀i,i∉tmp->aG i=e i:=λi ai=>cb i (λE=>ai (k.ML i E))
    have F:aG c=.bool (!hi):=by rw[n c D];exact w
    refine fin aG h (.bool !hi) aR n ?_ ad
    cases hi<;>simp [dh,val,F,vv]
  ·cases ad
end Go.bF
namespace Go.bF
variable {P : Program} {μ : Ren} {w : World}
structure pZ(P:Program)(ops:Array Oper)(o:Oper)(f:c6):Prop where
 op:o5 P o.op=y f.op
 dst:o.dst=f.dst
 guard:match o.guard with
  |none=>f.guard=none
  |some (j,b)=>∃d,(ops[j]?).bind (·.dst)=y d/\f.guard=y (d,b)
theorem WB{ops:Array Oper}{ef:lk}{o:Oper}{f:c6}(h:HG P ops ef o=y f):pZ P ops o f/\f.ef=ef:=by
 unfold HG at h
 split at h
 ·rename_i e c
  split at h
  ·rename_i bG
   cases h
   exact⟨⟨c,rfl,by rw[bG]⟩,rfl⟩
  ·rename_i j b bG
   split at h
   ·rename_i d hd
    cases h
    exact⟨⟨c,rfl,by rw[bG];exact⟨d,hd,rfl⟩⟩,rfl⟩
   ·cases h
 ·cases h
theorem MP{ops:Array Oper}{c:Nat->lk}:∀{l:List Oper} {i:Nat} {a8:List c6},sK P ops c l i=y a8->
 a8.length=l.length/\∀(j:Nat) (o:Oper),l[j]?=y o->∃f,a8[j]?=y f/\pZ P ops o f/\f.ef=c (i+j)
 |[],i,a8,h=>by cases h;exact⟨rfl,λj o b=>by simp at b⟩
 |o::r,i,a8,h=>by
  unfold sK at h
  split at h
  ·rename_i f eR aE e
   cases h
   obtain⟨h1,h2⟩:=MP e
   refine⟨by simp [h1],λj o' b=>?_⟩
   cases j with
   |zero=>
    simp only[ki,sw]at b
    subst b
    obtain⟨ak,aJ⟩:=WB aE
    exact⟨f,rfl,ak,aJ⟩
   |succ j=>
    obtain⟨bX,g,ak,aJ⟩:=h2 j o' b
    exact⟨bX,g,ak,by rw[aJ];congr 1;omega⟩
  ·cases h
theorem getD_some{xs:Array Value}{i:Nat}{v:Value}(h:xs.getD i undef=v)(ay:v≠undef):xs[i]?=y v:=by
 rw[nt]at h
 cases ae:xs[i]? with
 |none=>rw[ae]at h;exact absurd h.symm ay
 |some aZ=>rw[ae]at h;exact cZ y h
theorem MQ(b:Bool):Value.bool b≠undef:=by intro h;cases h
theorem yM{ops:Array Oper}{o:Oper}{f:c6}{e:bP}{a:Act}{N:Nat}(m:pZ P ops o f)(cJ:g_ μ e a N)(bG:f.guard=none\/∃s b,f.guard=y (s,b)/\e s=.bool b):
 vj o (yielded ops a.tmps)=V:=by
 have hm:=m.guard
 unfold vj
 split
 ·rfl
 ·rename_i j b g
  rw[g]at hm
  obtain⟨d,hd,c⟩:=hm
  rcases bG with bG|⟨s,bj,bG,he⟩
  ·rw[bG]at c;cases c
  ·rw[bG]at c
   simp only[sw,Prod.mk.injEq]at c
   obtain⟨h,i⟩:=c
   subst h i
   have an:=cJ.rel s
   rw[he]at an
   generalize ae:a.tmps.getD s undef=x at an
   cases an
   have:=getD_some ae (MQ _)
   simp [yielded,hd,this]
theorem MR{ops:Array Oper}{o:Oper}{f:c6}{e:bP}{a:Act}{N:Nat}(m:pZ P ops o f)(cJ:g_ μ e a N){s:Nat}{b:Bool}(bG:f.guard=y (s,b))(aB:e s=.bool (!b)\/e s=undef):
 vj o (yielded ops a.tmps)=M:=by
 have hm:=m.guard
 unfold vj
 split
 ·rename_i c
  rw[c]at hm
  rw[bG]at hm
  cases hm
 ·rename_i j bj c
  rw[c]at hm
  obtain⟨d,hd,h⟩:=hm
  rw[bG]at h
  obtain⟨i,k⟩:s=d/\b=bj:=by cases h;exact⟨rfl,rfl⟩
  subst i k
  have an:=cJ.rel s
  rcases aB with he|he
  ·rw[he]at an
   generalize ae:a.tmps.getD s undef=x at an
   cases an
   have:=getD_some ae (MQ _)
   simp [yielded,hd,this]
  ·rw[he]at an
   have g:a.tmps.getD s undef=undef:=bp.Bg rfl an
   rw[nt]at g
   simp only[yielded,hd,dy]
   cases ae:a.tmps[s]? with
   |none=>rfl
   |some aZ=>
    rw[ae]at g
    have l:aZ=undef:=g
    subst l
    rfl
theorem WC{F:Fence}{n N:Nat}{Γ:Callee}{ops:Array Oper}{a8:List c6}{Q:Exit->Act->World->Prop}(u:kH F)(z:jd P Γ)(bz:a8.length=ops.size)
 (hm:∀(j:Nat) (o:Oper),ops[j]?=y o->∃f,a8[j]?=y f/\pZ P ops o f) (x:∀f∈a8,∀d,f.dst=y d->d<N):
 ∀{l:List c6} {e aF:bP} {h h2:aX},kY Γ l e h aF h2->∀(k:Nat) (a:Act) (w:World) (μ:Ren),l=a8.drop k->g_ μ e a N->cS P μ h w->
  (∀a' b' aY,g_ aY aF a' N->cS P aY h2 b'->Ext μ h w aY h2 b'->a'.defers=a.defers->Q .normal a' b')->wpOpsIn F n P ops Q (AD k l.length) a w:=by
 intro l e aF h h2 t
 induction t with
 |nil e h=>
  intro k a w μ _ cJ s iC
  exact iC a w μ cJ s (Ext.refl _ _ _ s.cl) rfl
 |lS cb _ a6=>
  intro k a w μ ax cJ s iC
  exact a6 k a w μ ax (cJ.lS cb) s iC
 |@skip f l e aF h h2 bZ b bG aB _ a6=>
  intro k a w μ ax cJ s iC
  have c:a8[k]?=y f:=by rw[<-List.head?_drop,<-ax];rfl
  have ad:k<ops.size:=by rw[<-bz];exact(List.getElem?_eq_some_iff.1 c).1
  have g:ops[k]?=y ops[k]:=lh ad
  obtain⟨bX,i,m⟩:=hm k _ g
  rw[c]at i
  cases i
  have p:l=a8.drop (k+1):=by
   have:=cZ List.tail ax
   rw[List.tail_drop]at this
   exact this
  have q:AD k (f::l).length=k::AD (k+1) l.length:=by simp [Vx]
  rw[q]
  simp only[wpOpsIn,g]
  rw[MR m cJ bG aB]
  simp only[bn,bh]
  refine⟨λf _=>u.1 f,?_⟩
  rw[m.dst]
  exact a6 (k+1) _ w μ p (cJ.put bp.undef f.dst (x f (dN c))) s (λa' b' aY ak aJ aO bt=>iC a' b' aY ak aJ aO (by rw[bt];cases f.dst<;>rfl))
 |@exec f l e aF h h1 h2 v bG ad aa _ a6=>
  intro k a w μ ax cJ s iC
  have c:a8[k]?=y f:=by rw[<-List.head?_drop,<-ax];rfl
  have A:k<ops.size:=by rw[<-bz];exact(List.getElem?_eq_some_iff.1 c).1
  have g:ops[k]?=y ops[k]:=lh A
  obtain⟨bX,i,m⟩:=hm k _ g
  rw[c]at i
  cases i
  have p:l=a8.drop (k+1):=by
   have:=cZ List.tail ax
   rw[List.tail_drop]at this
   exact this
  have q:AD k (f::l).length=k::AD (k+1) l.length:=by simp [Vx]
  rw[q]
  simp only[wpOpsIn,g]
  rw[yM m cJ bG]
  simp only[a_]
  refine yL u m.op z cJ.op s ad (λv' bC μ1 ay aB ae=>?_)
  rw[m.dst]
  exact a6 (k+1) _ bC μ1 p ((cJ.mono (ae.sM s.cl)).put ay f.dst (x f (dN c))) aB (λa' b' aY ak aJ aO bt=>iC a' b' aY ak aJ (ae.trans aO s.cl) (by rw[bt];cases f.dst<;>rfl))
end Go.bF
namespace Go.bF
variable {P : Program} {μ : Ren} {w : World}
def om(μ:Ren)(k:Nat):Ren:=λb=>if b<k then μ b else none
theorem sP(μ:Ren)(k:Nat):ev (om μ k) μ:=λb l h=>by
 unfold om at h
 split at h
 ·exact h
 ·cases h
theorem wa{k b:Nat}(h:b<k):om μ k b=μ b:=aP h
theorem wb{k b:Nat}{l:Loc}(h:om μ k b=y l):b<k:=by
 unfold om at h
 split at h
 ·assumption
 ·cases h
mutual
theorem bp.restrict{jZ μ:Ren}{k:Nat}(hd:∀b l,jZ b=y l->b<k){x Bc au:Value}:bp jZ x Bc->bp μ x au->bp (om μ k) x au
 |.dR _,_=>.dR _
 |.bool _,h=>by cases h;exact .bool _
 |.int _ _,h=>by cases h;exact .int _ _
 |.string _,h=>by cases h;exact .string _
 |.tY,h=>by cases h;exact .tY
 |.ptr av,h=>by
  cases h with
  |ptr h1=>exact .ptr ((wa (hd _ _ av)).trans h1)
 |.mQ,h=>by cases h;exact .mQ
 |.bZ av _,h=>by
  cases h with
  |bZ h1 h2=>exact .bZ ((wa (hd _ _ av)).trans h1) h2
  |gb _ _ _=>exact .gb _ _ _
  |hs _ _=>exact .hs _ _
 |.gb a _ _,h=>by
  cases h with
  |bZ h1 h2=>exact .gb _ _ _
  |gb _ _ _=>exact .gb _ _ _
 |.hs a _,h=>by
  cases h with
  |bZ h1 h2=>
   rcases h2 with⟨_,rfl⟩|⟨e,_⟩
   ·exact .hs _ _
   ·exact absurd e (by decide)
  |hs _ _=>exact .hs _ _
 |.tZ,h=>by cases h;exact .tZ
 |.map av,h=>by
  cases h with
  |map h1=>exact .map ((wa (hd _ _ av)).trans h1)
 |.func _ av mR,h=>by
  cases h with
  |func _ h1 hI=>exact .func _ (cB.restrict hd av h1) (cB.restrict hd mR hI)
 |.yield av,h=>by
  cases h with
  |yield h1=>exact .yield ((wa (hd _ _ av)).trans h1)
 |.nilFunc,h=>by cases h;exact .nilFunc
 |.nilIface,h=>by cases h;exact .nilIface
 |.iface _ av,h=>by
  cases h with
  |iface _ h1=>exact .iface _ (bp.restrict hd av h1)
 |.agg av,h=>by
  cases h with
  |agg h1=>exact .agg (cB.restrict hd av h1)
 |.tuple av,h=>by
  cases h with
  |tuple h1=>exact .tuple (cB.restrict hd av h1)
theorem cB.restrict{jZ μ:Ren}{k:Nat}(hd:∀b l,jZ b=y l->b<k){xs HO ys:List Value}:cB jZ xs HO->cB μ xs ys->cB (om μ k) xs ys
 |.nil,h=>by cases h;exact .nil
 |.cons av HP,h=>by
  cases h with
  |cons h1 o9=>exact .cons (bp.restrict hd av h1) (cB.restrict hd HP o9)
end
theorem fr.restrict{jZ:Ren}{k:Nat}(hd:∀b l,jZ b=y l->b<k){g K:Nat}{blk:iB}{j o:Obj}(av:fr P jZ g blk j)(h:fr P μ K blk o):fr P (om μ k) K blk o:=by
 cases blk with
 |cells vs elem rw=>
  obtain⟨_,_,_,_,ak,_⟩:=av
  obtain⟨c,cJ,h1,h2,e,aJ⟩:=h
  exact⟨c,cJ,h1,h2,ak.restrict hd e,aJ⟩
 |map df=>
  obtain⟨_,_,_,h2,ak⟩:=av
  obtain⟨l,k',h1,m,e⟩:=h
  exact⟨l,k',h1,h2.restrict hd m,ak.restrict hd e⟩
 |loop=>
  obtain⟨_,_,_,_,_,_,_,_,_,n⟩:=av
  obtain⟨r,h1,h2,ak,aJ,aO,bt,ct,p,q⟩:=h
  exact⟨r,h1,h2,ak,aJ,aO,bt,ct,p,λi=>(n i).restrict hd (q i)⟩
 |dead=>trivial
theorem wc{op:Op}{i:fY}(aa:o5 P op=y i):(∀f args,i=.call f args->kW args=V/\fX f dX=V)/\(∀f args,i=.im f args->nA f=V/\kW args=V):=by
 by_cases aA:ub i=M
 ·exact⟨λf args e=>(by subst e;cases aA),λf args e=>(by subst e;cases aA)⟩
 ·unfold o5 at aa
  split at aa
  case isFalse=>cases aa
  rename_i h
  cases op with
  |call c=>
   obtain⟨callee,args,argTypes⟩:=c
   cases callee with
   |value f=>
    simp only[kW,fL,Hp,LS,List.all_append,dn]at h
    have aE:nA f=V:=by simpa using h.1
    cases f with
    |func g=>
     simp only[jw]at aa
     split at aa
     ·rename_i j
      cases aa;refine⟨λf args e=>?_,λf args e=>?_⟩<;>first|(cases e;done)|(cases e;exact⟨h.2,j⟩)|(cases e;exact⟨aE,h.2⟩)
     ·cases aa
    |_=>cases aa;refine⟨λf args e=>?_,λf args e=>?_⟩<;>first|(cases e;done)|(cases e;exact h.2)|(cases e;exact⟨aE,h.2⟩)
   |invoke _ _=>cases aa
   |builtin b=>exact absurd (MI aa) aA
  |binOp _ _ _ _ _=>exact absurd (MJ aa) aA
  |convert _ _ _=>exact absurd (MK aa) aA
  |makeMap t r=>cases r<;>first|(cases aa;done)|(cases aa;exact absurd rfl aA)
  |makeFunc fn _ _=>cases fn<;>first|(cases aa;done)|(cases aa;exact absurd rfl aA)
  |_=>
   exfalso
   apply aA
   first
    |(cases aa;done)
    |(cases aa;rfl)
    |(simp only[jw]at aa
      (repeat' split at aa)<;>first
        |(cases aa;rfl)
        |(rw[du]at aa;obtain⟨_,_,aa⟩:=aa;cases aa;rfl)
        |cases aa)
theorem MS{o:Oper}{i:fY}{e:bP}{a:Act}{h h1:aX}{v:Value}{Γ:Callee}(aa:o5 P o.op=y i)(m:jd P Γ)(he:ua μ e a.eval)(s:cS P μ h w)
 (ad:dh Γ i e h (λv h'=>y (v,h'))=y (v,h1)):∃v' bC μ1,bp μ1 v v'/\cS P μ1 h1 bC/\Ext μ h w μ1 h1 bC:=by
 by_cases aA:ub i=M
 ·obtain⟨v',bC,μ1,_,h2,ak,aJ⟩:=MF aa aA he s ad
  exact⟨v',bC,μ1,h2,ak,aJ⟩
 ·have key:∀(f:dU) (args j:List Value),fX f dX=V->cB μ args j->Γ f args h=y (v,h1)->∃v' bC μ1,bp μ1 v v'/\cS P μ1 h1 bC/\Ext μ h w μ1 h1 bC:=by
   intro f args j k ax bG
   obtain⟨_,ak⟩:=m.fn f k args h v h1 bG
   obtain⟨_,aJ⟩:=ak μ w j s ax Fence.wide 0 ⟨λ_=>trivial,rfl⟩
   obtain⟨_,bC,_,⟨v',μ1,_,aO,bt,ct⟩,_⟩:=aJ [] (room_wide _)
   exact⟨v',bC,μ1,aO,bt,ct⟩
  have t:kW o.op.operands.toList=V:=by
   unfold o5 at aa
   split at aa
   ·assumption
   ·cases aa
  cases i<;>first|(exact absurd rfl aA)|skip
  case call f args=>
   simp only[dh,cX]at ad
   obtain⟨⟨n,p⟩,l,ad⟩:=ad
   cases ad
   exact key f _ _ ((wc aa).1 f args rfl).2 (qM he ((wc aa).1 f args rfl).1) l
  case im f args=>
   simp only[dh,cX]at ad
   obtain⟨⟨n,p⟩,l,ad⟩:=ad
   cases ad
   rcases MH l with⟨g,xs,ys,aE,k,bG⟩|⟨b,aE,bG⟩
   case inr=>
    have c:=he f ((wc aa).2 f args rfl).1
    rw[aE]at c
    generalize a.eval f=au at c
    cases c with
    |@yield _ q K aO=>
     obtain⟨fn,tmps,as,u,cL,cN⟩:=m.yield b _ h _ _ bG μ w _ q K s (qM he ((wc aa).2 f args rfl).2) aO
     obtain⟨_,aJ⟩:=cN Fence.wide 0 ⟨λ_=>trivial,rfl⟩
     obtain⟨_,bC,⟨v',μ1,_,aO,bt,ct⟩,_⟩:=aJ default [] (room_wide _)
     exact⟨v',bC,μ1,aO,bt,ct⟩
   have c:=he f ((wc aa).2 f args rfl).1
   rw[aE]at c
   generalize a.eval f=au at c
   cases c with
   |@func _ _ _ fh e2 aO bt=>
    exact key g _ _ k ((aO.append (qM he ((wc aa).2 f args rfl).2)).append bt) bG
structure ht where
 e:bP
 h:aX
 v:Value
 h':aX
 hJ:Bool
structure qO(Γ:Callee)(f:c6)(r:ht):Prop where
 ef:r.hJ=V->Bn f.ef r.e r.h r.h'
 run:r.hJ=V->(f.guard=none\/∃s b,f.guard=y (s,b)/\r.e s=.bool b)/\dh Γ f.op r.e r.h (λv h'=>y (v,h'))=y (r.v,r.h')
 skip:r.hJ=M->(∃s b,f.guard=y (s,b)/\(r.e s=.bool (!b)\/r.e s=undef))/\r.v=undef/\r.h'=r.h
def sQ(Γ:Callee):List c6->List ht->bP->aX->bP->aX->Prop
 |[],[],S,h,eh,h2=>eh=S/\h2=h
 |f::l,r::rs,S,h,eh,h2=>r.h=h/\iQ r.e S/\qO Γ f r/\sQ Γ l rs (hr S f.dst r.v) r.h' eh h2
 |_,_,_,_,_,_=>False
theorem iQ.trans{a b c:bP}(h:iQ a b)(h':iQ b c):iQ a c:=λi=>by
 rcases h i with h1|h1
 ·rcases h' i with h2|h2
  ·left;rw[h1,h2]
  ·right;rw[h1,h2]
 ·right;exact h1
theorem WD{Γ:Callee}{l:List c6}{e aF:bP}{h h2:aX}(t:kY Γ l e h aF h2):∀S,iQ e S->∃rs eh,sQ Γ l rs S h eh h2/\iQ aF eh:=by
 induction t with
 |nil e h=>exact λS c=>⟨[],S,⟨rfl,rfl⟩,c⟩
 |lS cb _ a6=>exact λS c=>a6 S (cb.trans c)
 |@skip f l e aF h h2 s b bG aB _ a6=>
  intro S c
  obtain⟨rs,eh,ak,aJ⟩:=a6 (hr S f.dst undef) (c.hr _ _)
  exact⟨⟨e,h,undef,h,M⟩::rs,eh,⟨rfl,c,⟨λh=>(by cases h),λh=>(by cases h),λ_=>⟨⟨s,b,bG,aB⟩,rfl,rfl⟩⟩,ak⟩,aJ⟩
 |@exec f l e aF h h1 h2 v bG ad aa _ a6=>
  intro S c
  obtain⟨rs,eh,ak,aJ⟩:=a6 (hr S f.dst v) (c.hr _ _)
  exact⟨⟨e,h,v,h1,V⟩::rs,eh,⟨rfl,c,⟨λ_=>aa,λ_=>⟨bG,ad⟩,λh=>(by cases h)⟩,ak⟩,aJ⟩
end Go.bF
namespace Go.bF
variable {P : Program} {w : World}
theorem pc{e e':bP}{x:Operand}(h:∀t∈eu x,e t=e' t):val e x=val e' x:=by
 cases x with
 |tmp t=>exact h t (by simp [eu])
 |_=>rfl
theorem yN{e e':bP}:∀{l:List Operand},(∀t∈rM l,e t=e' t)->dg e l=dg e' l
 |[],_=>rfl
 |x::l,h=>by
  simp only[rM,lO]at h
  simp only[dg]
  rw[pc (λt aR=>h t (.inl aR)),yN (λt aR=>h t (.inr aR))]
theorem yO{e e':bP}{x:Option Operand}(h:∀t∈rN x,e t=e' t):ja e x=ja e' x:=by
 cases x with
 |none=>rfl
 |some x=>exact cZ y (pc h)
theorem MT{e e':bP}:∀{l:List (Nat×Nat×Operand)},(∀t∈yw l,e t=e' t)->ny e l=ny e' l
 |[],_=>rfl
 |(i,n,x)::l,h=>by
  simp only[yw,lO]at h
  simp only[ny]
  rw[pc (λt aR=>h t (.inl aR)),MT (λt aR=>h t (.inr aR))]
theorem yP{R:Type}{Γ:Callee}{o:fY}{e e':bP}{h:aX}{k:Value->aX->Option R}(he:∀t∈yx o,e t=e' t):dh Γ o e h k=dh Γ o e' h k:=by
 cases o<;>simp only[yx,lO]at he<;>simp only[dh]<;>first
  |rfl
  |rw[pc (x:=_) (λt aR=>he t aR)]
  |rw[yN (λt aR=>he t aR)]
  |rw[MT (λt aR=>he t aR)]
  |rw[pc (λt aR=>he t (.inl aR)),pc (λt aR=>he t (.inr aR))]
  |rw[pc (λt aR=>he t (.inl aR)),yN (λt aR=>he t (.inr aR))]
  |rw[yN (λt aR=>he t (.inl aR)),yN (λt aR=>he t (.inr aR))]
  |rw[pc (λt aR=>he t (.inl aR)),pc (λt aR=>he t (.inr (.inl aR))),pc (λt aR=>he t (.inr (.inr aR)))]
  |rw[pc (λt aR=>he t (.inl aR)),yO (λt aR=>he t (.inr (.inl aR))),yO (λt aR=>he t (.inr (.inr aR)))]
  |rw[pc (λt aR=>he t (.inl aR)),yO (λt aR=>he t (.inr (.inl aR))),yO (λt aR=>he t (.inr (.inr (.inl aR)))),yO (λt aR=>he t (.inr (.inr (.inr aR))))]
theorem MU{o:fY}(h:qK o=V):kF o=V:=by cases o<;>first|rfl|exact h
theorem H5{Γ:Callee}{o:fY}{e:bP}{h h1:aX}{v:Value}(ax:kF o=M)(ad:dh Γ o e h (λv h'=>y (v,h'))=y (v,h1)):
 h1=h/\∀h',dh Γ o e h' (λv h'=>y (v,h'))=y (v,h'):=by
 cases o<;>first
  |(cases ax;done)
  |(exfalso;simp only[dh,reduceCtorEq]at ad;done)
  |(simp only[dh]at ad;cases ad;exact⟨rfl,λh'=>rfl⟩;done)
  |(simp only[dh,cX]at ad;obtain⟨aZ,b,ad⟩:=ad;cases ad;refine⟨rfl,λh'=>?_⟩;simp only[dh,b,dy])
theorem WE{Γ:Callee}{o:fY}{e:bP}{h h1:aX}{v:Value}(ax:qK o=M)(ad:dh Γ o e h (λv h'=>y (v,h'))=y (v,h1)):h <+: h1:=by
 cases o<;>first
  |(cases ax;done)
  |(exfalso;simp only[dh,reduceCtorEq]at ad;done)
  |(simp only[dh,cX]at ad;obtain⟨aZ,b,ad⟩:=ad;cases ad;first|exact nu _|exact Hq _ _)
  |(simp only[dh]at ad;cases ad;first|exact nu _|exact Hq _ _)
  |(simp only[dh,cX]at ad
    obtain⟨⟨c,g⟩,b,ad⟩:=ad
    cases ad
    unfold tV at b
    split at b
    ·split at b
     ·cases b;exact Hq _ _
     ·cases b
    ·cases b)
end Go.bF
namespace Go.bF
variable {P : Program} {w : World}
def bT(rs:List ht)(h2:aX)(i:Nat):aX:=((rs[i]?).map (·.h)).getD h2
def fy(L:Nat->Bool):Nat->List c6->List ht->bP->bP
 |k,f::l,r::rs,S=>fy L (k+1) l rs (if L k=V then hr S f.dst r.v else S)
 |_,_,_,S=>S
theorem p0{Γ:Callee}:∀{a8:List c6} {rs:List ht} {S eh:bP} {h h2:aX},sQ Γ a8 rs S h eh h2->rs.length=a8.length
 |[],[],_,_,_,_,_=>rfl
 |_::_,_::_,_,_,_,_,h=>by simp [p0 h.2.2.2]
 |[],_::_,_,_,_,_,h=>h.elim
 |_::_,[],_,_,_,_,h=>h.elim
theorem Bs{Γ:Callee}:∀{a8:List c6} {rs:List ht} {S eh:bP} {h h2:aX},sQ Γ a8 rs S h eh h2->bT rs h2 0=h
 |[],[],_,_,_,_,an=>an.2
 |_::_,_::_,_,_,_,_,an=>an.1
 |[],_::_,_,_,_,_,h=>h.elim
 |_::_,[],_,_,_,_,h=>h.elim
theorem WG(r:ht)(rs:List ht)(h2:aX)(i:Nat):bT (r::rs) h2 (i+1)=bT rs h2 i:=rfl
theorem Bt{L:Nat->Bool}:∀(a8:List c6) (rs:List ht) (k:Nat) (S:bP),(∀i,i<a8.length->L (k+i)=M)->fy L k a8 rs S=S
 |f::l,r::rs,k,S,h=>by
  simp only[fy]
  rw[show L k=M from h 0 (by simp)]
  simp only[bn,bh]
  exact Bt l rs (k+1) S (λi ai=>by have:=h (i+1) (by simp;omega);rwa [show k+(i+1)=k+1+i from by omega]at this)
 |[],_,_,_,_=>by simp [fy]
 |_::_,[],_,_,_=>by simp [fy]
theorem pd{Γ:Callee}:∀{a8:List c6} {rs:List ht} {S eh:bP} {h h2:aX},sQ Γ a8 rs S h eh h2->∀(i:Nat) (f:c6),a8[i]?=y f->
 ∃r,rs[i]?=y r/\qO Γ f r/\iQ r.e (fy (λj=>decide (j<i)) 0 a8 rs S)/\r.h=bT rs h2 i/\r.h'=bT rs h2 (i+1)
 |f0::l,b::rs,S,eh,h,h2,an,0,f,aE=>by
  simp only[ki,sw]at aE
  subst aE
  refine⟨b,rfl,an.2.2.1,?_,rfl,?_⟩
  ·rw[Bt _ _ _ _ (λi _=>by simp)]
   exact an.2.1
  ·rw[WG,Bs an.2.2.2]
 |f0::l,b::rs,S,eh,h,h2,an,i+1,f,aE=>by
  simp only[mK]at aE
  obtain⟨r,ak,aJ,aO,bt,ct⟩:=pd an.2.2.2 i f aE
  refine⟨r,ak,aJ,?_,bt,ct⟩
  have c:∀(l:List c6) (rs:List ht) (k:Nat) (S:bP),fy (λj=>decide (j<i+1)) (k+1) l rs S=fy (λj=>decide (j<i)) k l rs S:=by
   intro l
   induction l with
   |nil=>intros;simp [fy]
   |cons f l a6=>
    intro rs k S
    cases rs with
    |nil=>simp [fy]
    |cons r rs=>
     simp only[fy]
     rw[a6]
     simp
  simp only[fy]
  rw[c]
  simp only[Nat.zero_lt_succ,cr,a_]
  exact aO
 |[],[],_,_,_,_,_,i,f,aE=>by simp at aE
 |[],_::_,_,_,_,_,h,_,_,_=>h.elim
 |_::_,[],_,_,_,_,h,_,_,_=>h.elim
theorem yQ{L:Nat->Bool}{t:Nat}:∀(a8:List c6) (rs:List ht) (k:Nat) (S:bP),rs.length=a8.length->(∀(i j:Nat) (f bX:c6),i≠j->a8[i]?=y f->a8[j]?=y bX->f.dst=y t->bX.dst≠y t)->
 (∀(j:Nat) (f:c6) (r:ht),a8[j]?=y f->rs[j]?=y r->L (k+j)=V->f.dst=y t->fy L k a8 rs S t=r.v)/\
 ((∀(j:Nat) (f:c6),a8[j]?=y f->L (k+j)=V->f.dst≠y t)->fy L k a8 rs S t=S t)
 |[],[],k,S,_,_=>⟨λj f r aE=>by simp at aE,λ_=>rfl⟩
 |[],_::_,_,_,h,_=>by simp at h
 |_::_,[],_,_,h,_=>by simp at h
 |f0::l,m::rs,k,S,bz,hd=>by
  have n:∀(i j:Nat) (f bX:c6),i≠j->l[i]?=y f->l[j]?=y bX->f.dst=y t->bX.dst≠y t:=λi j f bX q ai b=>hd (i+1) (j+1) f bX (by omega) ai b
  obtain⟨cL,cN⟩:=yQ (L:=L) (t:=t) l rs (k+1) (if L k=V then hr S f0.dst m.v else S) (by simpa using bz) n
  constructor
  ·intro j f r aE an c e
   cases j with
   |zero=>
    simp only[ki,sw]at aE an
    subst aE an
    simp only[fy]
    rw[cN (λj f aE u o=>hd 0 (j+1) f0 f (by omega) rfl aE e o),aP (by simpa using c),e]
    exact pb _ _ _
   |succ j=>
    simp only[mK]at aE an
    simp only[fy]
    exact cL j f r aE an (by rwa [show k+(j+1)=k+1+j from by omega]at c) e
  ·intro g
   simp only[fy]
   rw[cN (λj f aE c=>g (j+1) f aE (by rwa [show k+(j+1)=k+1+j from by omega]))]
   split
   ·rename_i p
    exact v_ (λj b=>by rintro rfl;exact g 0 f0 rfl p b)
   ·rfl
theorem MV{Γ:Callee}:∀{a8:List c6} {rs:List ht} {S eh:bP} {h h2:aX} {L:Nat->Bool} {k:Nat},sQ Γ a8 rs S h eh h2->(∀i,i<a8.length->L (k+i)=V)->fy L k a8 rs S=eh
 |[],[],_,_,_,_,_,_,an,_=>by simp only[fy];exact an.1.symm
 |f::l,r::rs,S,eh,h,h2,L,k,an,b=>by
  simp only[fy]
  rw[aP (show L k=V from b 0 (by simp))]
  exact MV an.2.2.2 (λi ai=>by have:=b (i+1) (by simp;omega);rwa [show k+(i+1)=k+1+i from by omega]at this)
 |[],_::_,_,_,_,_,_,_,h,_=>h.elim
 |_::_,[],_,_,_,_,_,_,h,_=>h.elim
theorem MW{Γ:Callee}{N:Nat}(e:jd P Γ):∀{a8:List c6} {rs:List ht} {S eh:bP} {h h2:aX} {μ:Ren} {a:Act} {w:World},sQ Γ a8 rs S h eh h2->
 (∀f∈a8,(∃o:Oper,o5 P o.op=y f.op)/\∀d,f.dst=y d->d<N)->g_ μ S a N->cS P μ h w->∀i,i<=a8.length->
 ∃jZ at_ b,g_ jZ (fy (λj=>decide (j<i)) 0 a8 rs S) at_ N/\cS P jZ (bT rs h2 i) b/\Ext μ h w jZ (bT rs h2 i) b
 |[],[],S,eh,h,h2,μ,a,w,an,_,cJ,s,i,ai=>by
  have av:i=0:=by simpa using ai
  subst av
  have c:bT [] h2 0=h:=an.2
  rw[c]
  exact⟨μ,a,w,cJ,s,Ext.refl _ _ _ s.cl⟩
 |f::l,r::rs,S,eh,h,h2,μ,a,w,an,hm,cJ,s,i,ai=>by
  obtain⟨rfl,cb,g,vU⟩:=an
  cases i with
  |zero=>
   rw[Bt _ _ _ _ (λi _=>by simp)]
   exact⟨μ,a,w,cJ,s,Ext.refl _ _ _ s.cl⟩
  |succ i=>
   have p:∃μ1 m bC,g_ μ1 (hr S f.dst r.v) m N/\cS P μ1 r.h' bC/\Ext μ r.h w μ1 r.h' bC:=by
    cases n:r.hJ with
    |true=>
     obtain⟨_,ad⟩:=g.run n
     obtain⟨⟨o,q⟩,t⟩:=hm f (by simp)
     obtain⟨v',bC,μ1,ak,aJ,aO⟩:=MS q e (cJ.lS cb).op s ad
     exact⟨μ1,a.put f.dst v',bC,(cJ.mono (aO.sM s.cl)).put ak f.dst t,aJ,aO⟩
    |false=>
     obtain⟨_,ay,c⟩:=g.skip n
     rw[ay,c]
     exact⟨μ,a.put f.dst undef,w,cJ.put bp.undef f.dst (hm f (by simp)).2,s,Ext.refl _ _ _ s.cl⟩
   obtain⟨μ1,m,bC,u,s1,aC⟩:=p
   obtain⟨jZ,at_,b,bt,ct,x⟩:=MW e vU (λf aE=>hm f (by simp [aE])) u s1 i (by simpa using ai)
   refine⟨jZ,at_,b,?_,ct,aC.trans x s.cl⟩
   have z:∀(l:List c6) (rs:List ht) (k:Nat) (S:bP),fy (λj=>decide (j<i+1)) (k+1) l rs S=fy (λj=>decide (j<i)) k l rs S:=by
    intro l
    induction l with
    |nil=>intros;simp [fy]
    |cons f l a6=>
     intro rs k S
     cases rs with
     |nil=>simp [fy]
     |cons r rs=>
      simp only[fy]
      rw[a6]
      simp
   simp only[fy]
   rw[z]
   simp only[Nat.zero_lt_succ,cr,a_]
   exact bt
 |[],_::_,_,_,_,_,_,_,_,h,_,_,_,_,_=>h.elim
 |_::_,[],_,_,_,_,_,_,_,h,_,_,_,_,_=>h.elim
end Go.bF
namespace Go.bF
variable {P : Program}
structure H6(ops:Array Oper)(a8:List c6)(bL:List Nat):Prop where
 Bu:∀(i:Nat) (o:Oper),ops[i]?=y o->∀e∈o.after.toList,jr .any e=V->e.on<i
 cert:∀(i j:Nat) (o:Oper),ops[i]?=y o->(bL.getD i 0).testBit j=V->∃e∈o.after.toList,jr .any e=V/\(j=e.on\/(bL.getD e.on 0).testBit j=V)
 uc:∀(i j:Nat) (f bX:c6) (t:Nat),i≠j->a8[i]?=y f->a8[j]?=y bX->f.dst=y t->bX.dst≠y t
 look:∀(i j:Nat) (f bX:c6) (t:Nat),i<j->a8[i]?=y f->a8[j]?=y bX->((f.dst=y t/\t∈hj bX)\/(bX.dst=y t/\t∈hj f))->(bL.getD j 0).testBit i=V
 wr:∀(i:Nat) (f:c6),a8[i]?=y f->qK f.op=V->A' f.ef=M->∀(j:Nat) (bX:c6),a8[j]?=y bX->kF bX.op=V->
  (i<j->(bL.getD j 0).testBit i=V\/yy f bX=V)/\(j<i->(bL.getD i 0).testBit j=V\/tX a8 i j=V\/yz a8 j f bX=V\/yA f bX=V)
def mS(ops:Array Oper)(L:Nat->Bool):Prop:=∀(i:Nat) (o:Oper),ops[i]?=y o->L i=V->∀e∈o.after.toList,jr .any e=V->L e.on=V
theorem we{ops:Array Oper}{a8:List c6}{bL:List Nat}(ok:H6 ops a8 bL){L:Nat->Bool}(aa:mS ops L):∀(m i:Nat),i<=m->∀o,ops[i]?=y o->
 (∀e∈o.after.toList,jr .any e=V->L e.on=V)->∀j,(bL.getD i 0).testBit j=V->L j=V:=by
 intro m
 induction m with
 |zero=>
  intro i ai o b he j k
  obtain⟨e,c,g,h⟩:=ok.cert i j o b k
  have:=ok.Bu i o b e c g
  omega
 |succ m a6=>
  intro i ai o b he j k
  obtain⟨e,c,g,h⟩:=ok.cert i j o b k
  have n:=ok.Bu i o b e c g
  rcases h with rfl|h
  ·exact he e c g
  ·have c7:e.on<ops.size:=by have:=(Array.getElem?_eq_some_iff.1 b).1;omega
   have l:ops[e.on]?=y ops[e.on]:=lh c7
   exact a6 e.on (by omega) _ l (aa e.on _ l (he e c g)) j h
section
variable {F : Fence} {n N : Nat} {Γ : Callee} {ops : Array Oper} {a8 : List c6} {rs : List ht} {S0 eh : bP} {av h2 : aX} {bL : List Nat} {Q : Exit -> Act -> World -> Prop} {ei : Ren} {a0 : Act} {w0 : World}
def mm:fY->Bool
 |.load _ _ (.tmp _)=>V
 |_=>M
theorem MX{o:fY}(h:qK o=V):mm o=M:=by cases o<;>first|rfl|cases h
theorem MY{o:fY}{t:Nat}(h:loadAt o=y t):mm o=V:=by
 cases o with
 |load g n x=>cases x<;>first|rfl|cases h
 |_=>cases h
theorem WH{o:fY}(h:o7 o=V):qL o=V:=by cases o<;>first|rfl|cases h
theorem WI{o:fY}(h:qL o=V):mm o=M:=by cases o<;>first|rfl|cases h
theorem MZ{f bX:c6}(h:yy f bX=V):∃s d t,o8 f.op=y s/\f.dst=y d/\loadAt bX.op=y t/\vQ (vP bX.ef) d t=V:=by
 unfold yy at h
 split at h
 ·rename_i s d t h1 h2 ak;exact⟨s,d,t,h1,h2,ak,h⟩
 ·cases h
theorem M0{a8:List c6}{j:Nat}{f bX:c6}(h:yz a8 j f bX=V):∃s t,o8 f.op=y s/\loadAt bX.op=y t/\vQ (vP f.ef) s t=V/\HJ a8 j t=V:=by
 unfold yz at h
 split at h
 ·rename_i s t h1 h2
  rw[dn]at h
  exact⟨s,t,h1,h2,h.1,h.2⟩
 ·cases h
theorem M1{c:lk}{e:bP}{h h':aX}{a b:Nat}(aa:Bn c e h h')(ah:vQ (vP c) a b=V):yp (e a) (e b):=by
 cases c with
 |hH bH=>
  unfold vQ vP at ah
  rw[List.any_eq_true]at ah
  obtain⟨p,h1,h2⟩:=ah
  rw[dn]at h2
  have:=aa p h1
  rw[hW h2.1,hW h2.2]at this
  exact this
 |_=>cases ah
def Calm(rs:List ht)(h2:aX)(i:Nat):Prop:=bT rs h2 i <+: bT rs h2 (i+1)
structure kZ(P:Program)(a8:List c6)(rs:List ht)(S0:bP)(av h2:aX)(ei:Ren)(a0:Act)(w0:World)(N:Nat)(L:Nat->Bool)(μ:Ren)(q:Nat)(a:Act)(w:World):Prop where
 le:q<=a8.length
 done:∀i,i<q->¬Calm rs h2 i->L i=V
 next:q<a8.length->¬Calm rs h2 q/\L q=M
 ud:∀i f,q<i->a8[i]?=y f->kF f.op=V->mm f.op=M->L i=M
 kill:∀aZ iR gd,aZ<q->a8[aZ]?=y iR->rs[aZ]?=y gd->¬Calm rs h2 aZ->∀s,o8 iR.op=y s->∀hk n c,gd.e s=.slice (y hk) n c->¬(n=0/\c=0)->¬(n=0/\c=eQ)->
  ∀i,i<aZ->L i=M->(bT rs h2 i).length<(bT rs h2 (i+1)).length->hk.block≠(bT rs h2 i).length
 hv:cS P μ (bT rs h2 q) w
 ext:ExtP ei av w0 μ (bT rs h2 q) w
 mapped:∀i,i<q->L i=V->∀b,(bT rs h2 i).length<=b->b<(bT rs h2 (i+1)).length->live (bT rs h2 q) b->∃l,μ b=y l
 free:∀i,i<q->L i=M->∀b,(bT rs h2 i).length<=b->b<(bT rs h2 (i+1)).length->μ b=none
 size:a.tmps.size=N
 qP:∀t,bp μ (fy L 0 a8 rs S0 t) (a.tmps.getD t undef)
 defers:a.defers=a0.defers
theorem M3{i q:Nat}(h:∀k,i<=k->k<q->Calm rs h2 k)(b:i<=q):bT rs h2 i <+: bT rs h2 q:=by
 induction q with
 |zero=>have:i=0:=by omega
        subst this
        exact nu _
 |succ q a6=>
  by_cases br:i=q+1
  ·subst br;exact nu _
  ·exact(a6 (λk h1 h2=>h k h1 (by omega)) (by omega)).trans (h q (by omega) (by omega))
theorem p1{α:Type}{l cK:List α}(h:l <+: cK){i:Nat}(ai:i<l.length):cK[i]?=l[i]?:=by
 obtain⟨t,rfl⟩:=h
 exact cI ai
theorem mn{h h':aX}(ah:h <+: h'){b:Nat}(af:b<h.length):live h' b↔live h b:=by
 unfold live
 rw[p1 ah af]
theorem Bv{L:Nat->Bool}{i:Nat}{f:c6}{r:ht}{μ μ1:Ren}{a:Act}{v':Value}(bz:rs.length=a8.length)(hd:∀(i j:Nat) (f bX:c6) (t:Nat),i≠j->a8[i]?=y f->a8[j]?=y bX->f.dst=y t->bX.dst≠y t)
 (aE:a8[i]?=y f) (an:rs[i]?=y r) (m:∀d,f.dst=y d->d<N) (c7:a.tmps.size=N) (w:L i=M) (aB:∀t,bp μ (fy L 0 a8 rs S0 t) (a.tmps.getD t undef)) (hm:∀x au,bp μ x au->bp μ1 x au) (ay:bp μ1 r.v v'):
 (a.put f.dst v').tmps.size=N/\∀t,bp μ1 (fy (λj=>if j=i then V else L j) 0 a8 rs S0 t) ((a.put f.dst v').tmps.getD t undef):=by
 have g:=λ(L:Nat->Bool) t=>yQ (L:=L) (t:=t) a8 rs 0 S0 bz (λi j f bX n ai o=>hd i j f bX t n ai o)
 refine⟨by cases f.dst<;>simp [Act.put,c7],λt=>?_⟩
 by_cases h:f.dst=y t
 ·rw[(g (λj=>if j=i then V else L j) t).1 i f r aE an (by simp) h,h]
  have:t<a.tmps.size:=by rw[c7];exact m t h
  simp [Act.put,this]
  exact ay
 ·have h1:(a.put f.dst v').tmps.getD t undef=a.tmps.getD t undef:=by
   cases p:f.dst with
   |none=>rfl
   |some d=>
    have:d≠t:=by rintro rfl;exact h p
    simp [Act.put,x1 this]
  have h2:fy (λj=>if j=i then V else L j) 0 a8 rs S0 t=fy L 0 a8 rs S0 t:=by
   by_cases k:∃j bX,a8[j]?=y bX/\L j=V/\bX.dst=y t
   ·obtain⟨j,bX,b,c,e⟩:=k
    have q:j<rs.length:=by rw[bz];exact(List.getElem?_eq_some_iff.1 b).1
    have l:rs[j]?=y rs[j]:=fJ q
    rw[(g L t).1 j bX _ b l (by simpa using c) e,(g (λj=>if j=i then V else L j) t).1 j bX _ b l (by simp [c]) e]
   ·rw[(g L t).2 (λj bX b c e=>k ⟨j,bX,b,by simpa using c,e⟩),(g (λj=>if j=i then V else L j) t).2 (λj bX b c e=>?_)]
    simp only[hh]at c
    split at c
    ·rename_i u;subst u;rw[aE]at b;cases b;exact h e
    ·exact k ⟨j,bX,b,c,e⟩
  rw[h1,h2]
  exact hm _ _ (aB t)
end
end Go.bF
namespace Go.bF
variable {P : Program}
section
variable {F : Fence} {n N : Nat} {Γ : Callee} {ops : Array Oper} {a8 : List c6} {rs : List ht} {S0 eh : bP} {av h2 : aX} {bL : List Nat} {Q : Exit -> Act -> World -> Prop} {ei : Ren} {a0 : Act} {w0 : World}
structure hQ(P:Program)(Γ:Callee)(ops:Array Oper)(a8:List c6)(rs:List ht)(S0 eh:bP)(av h2:aX)(bL:List Nat)(ei:Ren)(a0:Act)(w0:World)(N:Nat):Prop where
 jx:sQ Γ a8 rs S0 av eh h2
 ord:H6 ops a8 bL
 callee:jd P Γ
 len:a8.length=ops.size
 H7:∀(j:Nat) (o:Oper),ops[j]?=y o->∃f,a8[j]?=y f/\pZ P ops o f
 dst:∀f∈a8,∀d,f.dst=y d->d<N
 cJ:g_ ei S0 a0 N
 hv:cS P ei av w0
theorem hQ.text(k:hQ P Γ ops a8 rs S0 eh av h2 bL ei a0 w0 N)(i:Nat)(ai:i<=a8.length):
 ∃jZ at_ b,g_ jZ (fy (λj=>decide (j<i)) 0 a8 rs S0) at_ N/\cS P jZ (bT rs h2 i) b/\Ext ei av w0 jZ (bT rs h2 i) b:=by
 refine MW k.callee k.jx (λf aE=>⟨?_,k.dst f aE⟩) k.cJ k.hv i ai
 obtain⟨j,c⟩:=List.getElem?_of_mem aE
 have g:j<ops.size:=by rw[<-k.len];exact(List.getElem?_eq_some_iff.1 c).1
 obtain⟨bX,e,m⟩:=k.H7 j _ (lh g)
 rw[c]at e
 cases e
 exact⟨_,m.op⟩
theorem hQ.yR(k:hQ P Γ ops a8 rs S0 eh av h2 bL ei a0 w0 N){i:Nat}(ai:i<a8.length)(aA:¬Calm rs h2 i):∃f,a8[i]?=y f/\qK f.op=V/\A' f.ef=M:=by
 obtain⟨f,aE⟩:∃f,a8[i]?=y f:=⟨_,fJ ai⟩
 obtain⟨r,an,c,cb,e,g⟩:=pd k.jx i f aE
 refine⟨f,aE,?_,?_⟩
 ·cases hm:qK f.op with
  |true=>rfl
  |false=>
   exfalso
   apply aA
   unfold Calm
   rw[<-e,<-g]
   cases b:r.hJ with
   |true=>exact WE hm (c.run b).2
   |false=>rw[(c.skip b).2.2];exact nu _
 ·cases aa:f.ef with
  |no=>rfl
  |hH=>rfl
  |calm=>
   exfalso
   apply aA
   unfold Calm
   rw[<-e,<-g]
   cases b:r.hJ with
   |true=>have:=c.ef b;rw[aa]at this;exact this
   |false=>rw[(c.skip b).2.2];exact nu _
theorem hQ.looks(k:hQ P Γ ops a8 rs S0 eh av h2 bL ei a0 w0 N){L:Nat->Bool}(aa:mS ops L){i:Nat}{o:Oper}{f:c6}(x:ops[i]?=y o)(aE:a8[i]?=y f)(q:L i=M)
 (he:∀e∈o.after.toList,jr .any e=V->L e.on=V) {t:Nat} (aR:t∈hj f):
 fy (λj=>decide (j<i)) 0 a8 rs S0 t=fy L 0 a8 rs S0 t:=by
 have bz:=p0 k.jx
 have m:=λ(L:Nat->Bool)=>yQ (L:=L) (t:=t) a8 rs 0 S0 bz (λi j f bX l ai z=>k.ord.uc i j f bX t l ai z)
 have A:∀j bX,a8[j]?=y bX->bX.dst=y t->i<j->L j=M:=by
  intro j bX b c l
  have af:=k.ord.look i j f bX t l aE b (.inr ⟨c,aR⟩)
  have n:j<ops.size:=by rw[<-k.len];exact(List.getElem?_eq_some_iff.1 b).1
  cases g:L j with
  |false=>rfl
  |true=>
   have u:ops[j]?=y ops[j]:=lh n
   have:=we k.ord aa j j (cj _) _ u (aa j _ u g) i af
   rw[q]at this
   cases this
 have B:∀j bX,a8[j]?=y bX->bX.dst=y t->j<i->L j=V:=by
  intro j bX b c h
  exact we k.ord aa i i (cj _) o x he j (k.ord.look j i bX f t h b aE (.inl ⟨c,aR⟩))
 by_cases p:∃j bX,a8[j]?=y bX/\j<i/\bX.dst=y t
 ·obtain⟨j,bX,b,h,c⟩:=p
  have n:j<rs.length:=by rw[bz];exact(List.getElem?_eq_some_iff.1 b).1
  have w:rs[j]?=y rs[j]:=fJ n
  rw[(m _).1 j bX _ b w (by simpa using h) c,(m L).1 j bX _ b w (by rw[hh];exact B j bX b c h) c]
 ·rw[(m _).2 (λj bX b g c=>p ⟨j,bX,b,by simpa using g,c⟩),(m L).2 (λj bX b g c=>?_)]
  rw[hh]at g
  by_cases h:j<i
  ·exact p ⟨j,bX,b,h,c⟩
  ·by_cases l:i=j
   ·subst l;rw[q]at g;cases g
   ·rw[A j bX b c (by omega)]at g
    cases g
def fZ(L:Nat->Bool)(i:Nat):Nat->Bool:=λj=>if j=i then V else L j
theorem yS{L:Nat->Bool}{i j:Nat}(h:fZ L i j=M):L j=M:=by
 unfold fZ at h
 split at h
 ·cases h
 ·exact h
def only(e:bP)(l:List Nat):bP:=λt=>if t∈l then e t else dR
theorem oo{e:bP}{l:List Nat}{t:Nat}(h:t∈l):only e l t=e t:=aP h
theorem hQ.seen(k:hQ P Γ ops a8 rs S0 eh av h2 bL ei a0 w0 N){L:Nat->Bool}(aa:mS ops L){i:Nat}{o:Oper}{f:c6}{r:ht}(b:ops[i]?=y o)(aE:a8[i]?=y f)(an:iQ r.e (fy (λj=>decide (j<i)) 0 a8 rs S0))(c:L i=M)
 (he:∀e∈o.after.toList,jr .any e=V->L e.on=V) {μ:Ren} {a:Act} (aB:∀t,bp μ (fy L 0 a8 rs S0 t) (a.tmps.getD t undef)) (c7:a.tmps.size=N):
 g_ μ (only r.e (hj f)) a N:=by
 refine⟨c7,λt=>?_⟩
 unfold only
 split
 ·rename_i aR
  rcases an t with h|h
  ·rw[h,k.looks aa b aE c he aR];exact aB t
  ·rw[h];exact .dR _
 ·exact .dR _
theorem hQ.M4(k:hQ P Γ ops a8 rs S0 eh av h2 bL ei a0 w0 N){i:Nat}(ai:i<a8.length):(bT rs h2 i).length<=(bT rs h2 (i+1)).length:=by
 obtain⟨f,aE⟩:∃f,a8[i]?=y f:=⟨_,fJ ai⟩
 obtain⟨r,an,b,cb,c,h⟩:=pd k.jx i f aE
 obtain⟨jZ,at_,l,ak,aJ,aO⟩:=k.text i (Nat.le_of_lt ai)
 rw[<-c,<-h]
 rw[<-c]at aJ
 cases e:r.hJ with
 |true=>
  have j:i<ops.size:=by rw[<-k.len];exact ai
  obtain⟨bX,g,m⟩:=k.H7 i _ (lh j)
  rw[aE]at g
  cases g
  obtain⟨v',bC,μ1,_,_,bt⟩:=MS m.op k.callee (ak.lS cb).op aJ (b.run e).2
  exact bt.le
 |false=>rw[(b.skip e).2.2];exact cj _
theorem hQ.k0(k:hQ P Γ ops a8 rs S0 eh av h2 bL ei a0 w0 N){i:Nat}:∀{j:Nat},i<=j->j<=a8.length->(bT rs h2 i).length<=(bT rs h2 j).length
 |0,b,_=>by have:i=0:=by omega
            subst this
            exact cj _
 |j+1,b,c=>by
  by_cases h:i=j+1
  ·subst h;exact cj _
  ·exact ma (k.k0 (j:=j) (by omega) (by omega)) (k.M4 (by omega))
theorem hQ.M5(k:hQ P Γ ops a8 rs S0 eh av h2 bL ei a0 w0 N){L:Nat->Bool}{μ:Ren}{q:Nat}{a:Act}{w:World}(c:kZ P a8 rs S0 av h2 ei a0 w0 N L μ q a w)(aa:mS ops L){i:Nat}{o:Oper}
 (g:ops[i]?=y o) (he:∀e∈o.after.toList,jr .any e=V->L e.on=V) {f:c6} (aE:a8[i]?=y f) (h:q<i) (b:mm f.op=M):kF f.op=M:=by
 cases ax:kF f.op with
 |false=>rfl
 |true=>
  exfalso
  have br:q<a8.length:=by have:=(List.getElem?_eq_some_iff.1 aE).1;omega
  obtain⟨aA,j⟩:=c.next br
  obtain⟨l,m,n,p⟩:=k.yR br aA
  rcases(k.ord.wr q l m n p i f aE ax).1 h with af|af
  ·have:=we k.ord aa i i (cj _) o g he q af
   rw[j]at this
   cases this
  ·obtain⟨_,_,_,_,_,ak,_⟩:=MZ af
   rw[MY ak]at b
   cases b
theorem H8(I:kH F)(k:hQ P Γ ops a8 rs S0 eh av h2 bL ei a0 w0 N){L:Nat->Bool}{μ:Ren}{q:Nat}{a:Act}{w:World}(g:kZ P a8 rs S0 av h2 ei a0 w0 N L μ q a w)(aa:mS ops L){i:Nat}{o:Oper}
 (C:ops[i]?=y o) (J:L i=M) (he:∀e∈o.after.toList,jr .any e=V->L e.on=V) {f:c6} (aE:a8[i]?=y f) (m:pZ P ops o f) {r:ht} (an:rs[i]?=y r) (B:qO Γ f r) (T:iQ r.e (fy (λj=>decide (j<i)) 0 a8 rs S0))
 (K:r.hJ=M\/kF f.op=M\/(r.h'=r.h/\mm f.op=V/\dh Γ f.op (only r.e (hj f)) (bT rs h2 q) (λv h'=>y (v,h'))=y (r.v,bT rs h2 q))) (U:q<a8.length->i≠q):wpOpIn F n P ops Q i (λa' b'=>∃aY W,kZ P a8 rs S0 av h2 ei a0 w0 N (fZ L i) aY W a' b') a w:=by
 have D:=k.seen aa C aE T J he g.qP g.size
 have X:f∈a8:=dN aE
 have bz:=p0 k.jx
 have O:∀μ1 v' bC,bp μ1 r.v v'->cS P μ1 (bT rs h2 q) bC->Ext μ (bT rs h2 q) w μ1 (bT rs h2 q) bC->kZ P a8 rs S0 av h2 ei a0 w0 N (fZ L i) μ1 q (a.put f.dst v') bC:=by
  intro μ1 v' bC ay aB ae
  obtain⟨ak,aJ⟩:=Bv (μ1:=μ1) (S0:=S0) bz k.ord.uc aE an (k.dst f X) g.size J g.qP (λx au h=>h.mono (ae.sM g.hv.cl)) ay
  refine⟨g.le,λj l aA=>?_,λbr=>⟨(g.next br).1,?_⟩,λj bX l E ax R=>?_,λaZ iR gd h1 h2 ak aJ s aO hk n c bt ct Y j l u bG=>g.kill aZ iR gd h1 h2 ak aJ s aO hk n c bt ct Y j l (yS u) bG,aB,g.ext.trans ae.toExtP k.hv.cl,λj l u b G z Z=>?_,λj l u b G z=>?_,ak,aJ,?_⟩
  ·have:=g.done j l aA
   unfold fZ;split<;>first|rfl|exact this
  ·unfold fZ;rw[aW (oa (U br))];exact(g.next br).2
  ·unfold fZ
   split
   ·rename_i H
    subst H
    rw[aE]at E
    cases E
    rw[k.M5 g aa C he aE l R]at ax
    cases ax
   ·exact g.ud j bX l E ax R
  ·rw[ae.e1 b (h4 z (k.k0 l g.le))]
   unfold fZ at u
   split at u
   ·rename_i H
    subst H
    have heq:bT rs h2 (j+1)=bT rs h2 j:=by
     obtain⟨dO,gQ,ai,_,S,ab⟩:=pd k.jx j f aE
     rw[an]at gQ
     cases gQ
     rw[<-S,<-ab]
     rcases K with p|p|p
     ·exact(B.skip p).2.2
     ·cases A:r.hJ with
      |false=>exact(B.skip A).2.2
      |true=>exact(H5 p (B.run A).2).1
     ·exact p.1
    rw[heq]at z
    omega
   ·exact g.mapped j l u b G z Z
  ·have ac:L j=M:=by
    unfold fZ at u
    split at u
    ·cases u
    ·exact u
   rw[ae.e1 b ?_]
   ·exact g.free j l ac b G z
   ·exact h4 z (k.k0 l g.le)
  ·rw[show(a.put f.dst v').defers=a.defers from by cases f.dst<;>rfl];exact g.defers
 unfold wpOpIn
 simp only[C]
 cases A:r.hJ with
 |false=>
  obtain⟨⟨s,b,bG,aB⟩,ay,S⟩:=B.skip A
  have af:s∈hj f:=by simp [hj,bG]
  rw[MR m D bG (by rw[oo af];exact aB)]
  simp only[bn,bh]
  refine⟨λf _=>I.1 f,μ,q,?_⟩
  rw[m.dst]
  exact O μ undef w (by rw[ay];exact bp.undef) g.hv (Ext.refl _ _ _ g.hv.cl)
 |true=>
  obtain⟨bG,ad⟩:=B.run A
  have ah:dh Γ f.op (only r.e (hj f)) (bT rs h2 q) (λv h'=>y (v,h'))=y (r.v,bT rs h2 q):=by
   rcases K with p|p|p
   ·rw[A]at p;cases p
   ·have:=(H5 p ad).2 (bT rs h2 q)
    rwa [yP (e':=only r.e (hj f)) (λt aR=>(oo (by simp [hj,aR])).symm)]at this
   ·exact p.2.2
  rw[yM m D (by
   rcases bG with bG|⟨s,b,bG,aB⟩
   ·exact .inl bG
   ·exact .inr ⟨s,b,bG,by rw[oo (by simp [hj,bG])];exact aB⟩)]
  simp only[a_]
  refine yL I m.op k.callee D.op g.hv ah (λv' bC μ1 ay aB ae=>⟨μ1,q,?_⟩)
  rw[m.dst]
  exact O μ1 v' bC ay aB ae
end
end Go.bF
