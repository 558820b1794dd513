/- One part of the proof. -/
import Derived.Test.YtffennknofmjoaaGreatP2
set_option linter.unusedSimpArgs false
set_option linter.unusedVariables false
set_option linter.unusedSimpArgs false
set_option linter.unusedVariables false
/- The value machine: slices that are built and then left alone are lists; what is still written lies in blocks of its own. It stands over the abstract machine: Vm2 and what follows prove that the latter does what it says. -/
namespace Go.Vm
open Go.Am
inductive PV where
  | junk
  | int (k : IntKind) (n : Int)
  | bool (b : Bool)
  | str (s : ByteArray)
  | nilS | nilP | nilM | nilF | nilI
    | emp
    | frz (sz : Nat) (rows : List (List PV))
    | fptr (row : List PV) (off : Nat)
  | ptr (b o : Nat)
    | ref (b lo n ver sz : Nat)
  | lptr (b i off ver sz : Nat)
  | map (b : Nat)
  | func (f : FuncId) (xs ys : List PV)
  | yield (b : Nat)
  | iface (t : TypeId) (v : PV)
  | agg (cs : List PV)
  | tuple (cs : List PV)
def undefP : PV := .tuple []
def ofV1 : Value → PV
  | .bool b => .bool b
  | .int k n => .int k n
  | .string s => .str s
  | .pointer none => .nilP
  | .slice none 0 0 => .nilS
  | .map none => .nilM
  | .nilFunc => .nilF
  | .nilIface => .nilI
  | _ => .junk
def ofV : Value → PV
  | .agg cs => .agg (cs.toList.map ofV1)
  | .iface t v => .iface t (ofV1 v)
  | v => ofV1 v
abbrev PEnv := Nat → PV
def pupd (e : PEnv) (i : Nat) (v : PV) : PEnv := fun j => bif Nat.beq i j then v else e j
def pupdO (e : PEnv) (d : Option Nat) (v : PV) : PEnv := match d with | some i => pupd e i v | none => e
def pjunk (e : PEnv) : List Nat → PEnv
  | [] => e
  | i :: r => pupd (pjunk e r) i .junk
def psetMany (e : PEnv) : List Nat → List PV → PEnv
  | [], _ => e
  | i :: r, vs => pupd (psetMany e r vs.tail) i (vs.headD undefP)
def pgetMany (e : PEnv) : List Nat → List PV
  | [] => []
  | i :: r => e i :: pgetMany e r
def nthP (vs : List PV) : Nat → PV
  | 0 => vs.headD undefP
  | k + 1 => nthP vs.tail k
inductive Md where
  | rw | lk | ro
inductive FS where
  | keep
    | raw
  | flat (sz : Nat)
  | sl (sz : Nat) (cells : List FS)
  | agg (cells : List FS)
inductive POp where
  | a (o : AOp)
    | growNil (elem : TypeId) (sz : Nat)
    | growBox (isNew : Bool) (t : TypeId) (elem : TypeId) (sz : Nat)
    | buildF (elem : TypeId) (zero : List Value) (n : Nat) (parts : List (Nat × Nat × Operand))
inductive PSteps where
  | nil
  | op (dst : Option Nat) (o : POp) (chk : Chk) (rest : PSteps)
  | sc (dst : Nat) (c : Nat) (isAnd : Bool) (tmp : List Nat) (body : PSteps) (y : Operand) (rest : PSteps)
    | fz (t : Nat) (s : FS) (rest : PSteps)
    | bor (ts : List (Nat × FS)) (dst : Option Nat) (o : POp) (chk : Chk) (rest : PSteps)
    | gr (t : Nat) (el : TypeId) (sz : Nat) (rest : PSteps)
inductive PCode where
  | skip
  | region (draw : Bool) (s : PSteps)
  | seq (a b : PCode)
  | cond (c : Operand) (mod tmp : List Nat) (a b : PCode)
  | block (id : Nat) (mod tmp : List Nat) (c : PCode)
  | loop (mod tmp : List Nat) (c : PCode)
  | exit (id : Nat)
  | ret
  | rangeF (g : Operand) (lv ps : List Nat) (assign body : PCode)
def eraseO : POp → AOp
  | .a o => o
  | .growNil _ _ => .move (.const (.slice none 0 0))
  | .growBox false t _ _ => .box t (.const (.slice none 0 0))
  | .growBox true t _ _ => .new t [.slice none 0 0]
  | .buildF t z n ps => .buildSlice t z n ps
def eraseP : PSteps → ASteps
  | .nil => .nil
  | .op d o c r => .op d (eraseO o) c (eraseP r)
  | .sc d c i tmp b y r => .sc d c i tmp (eraseP b) y (eraseP r)
  | .fz _ _ r => eraseP r
  | .bor _ d o c r => .op d (eraseO o) c (eraseP r)
  | .gr _ _ _ r => eraseP r
def eraseK : PCode → ACode
  | .skip => .skip
  | .region d s => .region d (eraseP s)
  | .seq a b => .seq (eraseK a) (eraseK b)
  | .cond c m t a b => .cond c m t (eraseK a) (eraseK b)
  | .block i m t c => .block i m t (eraseK c)
  | .loop m t c => .loop m t (eraseK c)
  | .exit i => .exit i
  | .ret => .ret
  | .rangeF g lv ps a b => .rangeF g lv ps (eraseK a) (eraseK b)
inductive PBlk where
  | box (vs : List PV) (t : TypeId) (md : Md)
  | log (rows : List (List PV)) (sz : Nat) (elem : TypeId) (md : Md)
  | map (es : List (PV × PV)) (md : Md)
  | loop (vals : List PV) (lv ps : List Nat) (assign body : PCode) (st : LSt) (pend : Option AExit) (md : Md)
  | dead
abbrev PHeap := List PBlk
def pure1 : PV → Bool
  | .int _ _ | .bool _ | .str _ | .nilS | .nilP | .nilM | .nilF | .nilI | .frz _ _ => true
  | _ => false
def oneP : PV → Bool
  | .agg _ | .tuple _ | .junk => false
  | _ => true
def cellsP : PV → List PV
  | .agg cs => cs
  | .junk => []
  | v => [v]
def binP (op : BinOp) (x y : PV) : Option PV :=
  match x, y with
  | .int k a, .int k' b =>
    match op with
    | .shl => if b < 0 then none else some (.int k (k.wrap (a * 2 ^ (min b.toNat k.bits))))
    | .shr => if b < 0 then none else some (.int k (a.fdiv (2 ^ (min b.toNat k.bits))))
    | op =>
      if k = k' then
        match op with
        | .add => some (.int k (k.wrap (a + b)))
        | .sub => some (.int k (k.wrap (a - b)))
        | .mul => some (.int k (k.wrap (a * b)))
        | .quo => if b = 0 then none else some (.int k (k.wrap (a.tdiv b)))
        | .rem => if b = 0 then none else some (.int k (a.tmod b))
        | .and => some (.int k (k.wrap (BitVec.ofInt k.bits a &&& BitVec.ofInt k.bits b).toNat))
        | .or => some (.int k (k.wrap (BitVec.ofInt k.bits a ||| BitVec.ofInt k.bits b).toNat))
        | .xor => some (.int k (k.wrap (BitVec.ofInt k.bits a ^^^ BitVec.ofInt k.bits b).toNat))
        | .andNot => some (.int k (k.wrap (BitVec.ofInt k.bits a &&& ~~~(BitVec.ofInt k.bits b)).toNat))
        | .eql => some (.bool (a == b))
        | .neq => some (.bool (a != b))
        | .lss => some (.bool (decide (a < b)))
        | .leq => some (.bool (decide (a ≤ b)))
        | .gtr => some (.bool (decide (a > b)))
        | .geq => some (.bool (decide (a ≥ b)))
        | _ => none
      else none
  | .str a, .str b =>
    match op with
    | .add => if a.size + b.size ≤ 4611686018427387904 then some (.str (a ++ b)) else none
    | .eql => some (.bool (a.toList == b.toList))
    | .neq => some (.bool !(a.toList == b.toList))
    | _ => none
  | _, _ => none
def eqBoolP (neg : Bool) (x y : PV) : Option PV :=
  match x, y with
  | .bool a, .bool b => some (.bool (neg != (a == b)))
  | _, _ => none
def isNilP (k : NilKind) (neg : Bool) (x : PV) : Option PV :=
  match k, x with
  | .slice, .nilS => some (.bool (neg != true))
  | .slice, .frz _ (_ :: _) => some (.bool (neg != false))
  | .slice, .ref _ _ (_ + 1) _ _ => some (.bool (neg != false))
  | .pointer, .nilP => some (.bool (neg != true))
  | .pointer, .ptr _ _ => some (.bool (neg != false))
  | .pointer, .fptr _ _ => some (.bool (neg != false))
  | .map, .nilM => some (.bool (neg != true))
  | .map, .map _ => some (.bool (neg != false))
  | .func, .nilF => some (.bool (neg != true))
  | .func, .func _ _ _ => some (.bool (neg != false))
  | .iface, .nilI => some (.bool (neg != true))
  | .iface, .iface _ _ => some (.bool (neg != false))
  | _, _ => none
def unkNil (k : NilKind) (x : PV) : Bool :=
  match k, x with
  | .slice, .frz _ [] => true
  | .slice, .emp => true
  | .slice, .ref _ _ 0 _ _ => true
  | _, _ => false
open Classical in
noncomputable def both {R : Type} (a b : Option R) : Option R := if a = b then a else none
noncomputable def isNilK {R : Type} (t : NilKind) (neg : Bool) (x : PV) (k : PV → Option R) : Option R :=
  match unkNil t x with
  | true => both (k (.bool true)) (k (.bool false))
  | false => (isNilP t neg x).bind k
def eqCellsP : List BK → List PV → List PV → Option Bool
  | [], [], [] => some true
  | .int :: ks, .int k a :: xs, .int k' b :: ys => if k = k' then (eqCellsP ks xs ys).map (fun r => (a == b) && r) else none
  | .bool :: ks, .bool a :: xs, .bool b :: ys => (eqCellsP ks xs ys).map (fun r => (a == b) && r)
  | .str :: ks, .str a :: xs, .str b :: ys => (eqCellsP ks xs ys).map (fun r => (a == b) && r)
  | _, _, _ => none
def eqAggP (ks : List BK) (neg : Bool) (x y : PV) : Option PV :=
  match x, y with
  | .agg xs, .agg ys => (eqCellsP ks xs ys).map fun r => .bool (neg != r)
  | _, _ => none
def unP (op : UnOp) (x : PV) : Option PV :=
  match op, x with
  | .neg, .int k n => some (.int k (k.wrap (0 - n)))
  | .not, .bool b => some (.bool !b)
  | .xor, .int k n => some (.int k (k.wrap (BitVec.ofInt k.bits (if k.signed then -1 else k.max) ^^^ BitVec.ofInt k.bits n).toNat))
  | _, _ => none
def strIdP (x : PV) : Option PV :=
  match x with
  | .str s => some (.str s)
  | _ => none
def convP (k : IntKind) (x : PV) : Option PV :=
  match x with
  | .int _ n => some (.int k (k.wrap n))
  | _ => none
def lenP (str : Bool) (x : PV) : Option PV :=
  match str, x with
  | true, .str s => some (.int .i64 s.size)
  | false, .nilS => some (.int .i64 0)
  | false, .emp => some (.int .i64 0)
  | false, .frz _ rows => some (.int .i64 rows.length)
  | false, .ref _ _ n _ _ => some (.int .i64 n)
  | _, _ => none
def pickP (c x y : PV) : Option PV :=
  match c with
  | .bool b => some (if b then x else y)
  | _ => none
def extractP (x : PV) (i : Nat) : Option PV :=
  match x with
  | .tuple vs => vs[i]?
  | _ => none
def partP (agg : Bool) (off size : Nat) (cs : List PV) : Option PV :=
  match agg with
  | true => if off + size ≤ cs.length then some (.agg ((cs.drop off).take size)) else none
  | false => cs[off]?
def fieldP (agg : Bool) (off size : Nat) (x : PV) : Option PV :=
  match x with
  | .agg cs => partP agg off size cs
  | _ => none
def indexArrP (n : Nat) (agg : Bool) (size : Nat) (x i : PV) : Option PV :=
  match x, i with
  | .agg cs, .int _ j => if 0 ≤ j ∧ j < n then partP agg (j.toNat * size) size cs else none
  | _, _ => none
def indexStrP (x i : PV) : Option PV :=
  match x, i with
  | .str s, .int _ j => if 0 ≤ j then (s.data[j.toNat]?).map fun b => .int .u8 b.toNat else none
  | _, _ => none
def fieldAddrP (off : Nat) (x : PV) : Option PV :=
  match x with
  | .ptr b o => some (.ptr b (o + off))
  | .fptr row o => some (.fptr row (o + off))
  | .lptr b i o ver sz => some (.lptr b i (o + off) ver sz)
  | _ => none
def indexAddrP (size : Nat) (x i : PV) : Option PV :=
  match x, i with
  | .frz sz rows, .int _ j => if 0 ≤ j ∧ sz = size then (rows[j.toNat]?).map fun row => .fptr row 0 else none
  | .ref b lo n ver sz, .int _ j => if 0 ≤ j ∧ j < n ∧ sz = size then some (.lptr b (lo + j.toNat) 0 ver sz) else none
  | _, _ => none
def indexAddrArrP (n size : Nat) (x i : PV) : Option PV :=
  match i with
  | .int _ j => if 0 ≤ j ∧ j < n then fieldAddrP (j.toNat * size) x else none
  | _ => none
def nilCheckP (x : PV) : Option PV :=
  match x with
  | .ptr b o => some (.ptr b o)
  | .fptr row o => some (.fptr row o)
  | .lptr b i o ver sz => some (.lptr b i o ver sz)
  | .func f xs ys => some (.func f xs ys)
  | _ => none
def boundP (d : Nat) (x : Option PV) (most : Nat) : Option Nat :=
  match x with
  | none => some d
  | some (.int _ j) => if 0 ≤ j ∧ j ≤ most then some j.toNat else none
  | _ => none
def sliceP (size : Nat) (x : PV) (lo hi mx : Option PV) : Option PV :=
  match x with
  | .nilS => (boundP 0 mx 0).bind fun _ => (boundP 0 hi 0).bind fun _ => (boundP 0 lo 0).bind fun _ => some .nilS
  | .emp => (boundP 0 mx 0).bind fun _ => (boundP 0 hi 0).bind fun _ => (boundP 0 lo 0).bind fun _ => some .emp
  | .frz sz rows =>
    if sz = size then
      match mx with
      | none => (boundP rows.length hi rows.length).bind fun h => (boundP 0 lo h).bind fun l => some (.frz sz ((rows.take h).drop l))
      | some m => match hi with
        | some hi => (boundP 0 (some m) rows.length).bind fun m => (boundP 0 (some hi) m).bind fun h => (boundP 0 lo h).bind fun l =>
          some (if m = l then .emp else .frz sz ((rows.take h).drop l))
        | none => none
    else none
  | .ref b lo0 n ver sz =>
    if sz = size then
      match mx with
      | none => (boundP n hi n).bind fun h => (boundP 0 lo h).bind fun l => some (if h = l then .frz sz [] else .ref b (lo0 + l) (h - l) ver sz)
      | some _ => none
    else none
  | _ => none
def sliceStrP (x : PV) (lo hi : Option PV) : Option PV :=
  match x with
  | .str s => (boundP s.size hi s.size).bind fun h => (boundP 0 lo h).bind fun l => some (.str (s.extract l h))
  | _ => none
def max2P (x y : PV) : Option PV :=
  match x, y with
  | .int k a, .int k' b => if k = k' then some (.int k (if b > a then b else a)) else none
  | _, _ => none
def min2P (x y : PV) : Option PV :=
  match x, y with
  | .int k a, .int k' b => if k = k' then some (.int k (if b < a then b else a)) else none
  | _, _ => none
def foldP (f : PV → PV → Option PV) (x : PV) : List PV → Option PV
  | [] => some x
  | y :: r => (f x y).bind fun z => foldP f z r
def fold1P (f : PV → PV → Option PV) : List PV → Option PV
  | [] => none
  | x :: r => foldP f x r
def fillP (cells : List PV) : List (Nat × Nat × PV) → Option (List PV)
  | [] => some cells
  | (off, size, v) :: r =>
    if (cellsP v).length = size ∧ 0 < size ∧ off + size ≤ cells.length then fillP (cells.take off ++ cellsP v ++ cells.drop (off + size)) r else none
def boxAt (h : PHeap) (b : Nat) : Option (List PV) :=
  match h[b]? with
  | some (.box vs _ _) => some vs
  | _ => none
def logAt (h : PHeap) (b ver sz : Nat) : Option (List (List PV)) :=
  match h[b]? with
  | some (.log rows sz' _ _) => bif Nat.beq rows.length ver && Nat.beq sz' sz then some rows else none
  | _ => none
def loadP (agg : Bool) (n : Nat) (x : PV) (h : PHeap) : Option PV :=
  match x with
  | .ptr b o => (boxAt h b).bind fun vs => partP agg o n vs
  | .fptr row o => partP agg o n row
  | .lptr b i o ver sz => (logAt h b ver sz).bind fun rows => (rows[i]?).bind fun row => partP agg o n row
  | _ => none
def putAt (vs : List PV) (o : Nat) (l : List PV) : Option (List PV) :=
  if o + l.length ≤ vs.length ∧ l.all oneP = true then some (vs.take o ++ l ++ vs.drop (o + l.length)) else none
def storeP (n : Nat) (x v : PV) (h : PHeap) : Option PHeap :=
  bif Nat.beq (cellsP v).length n && Nat.blt 0 n then
    match x with
    | .ptr b o => match h[b]? with
      | some (.box vs t .rw) => (putAt vs o (cellsP v)).map fun vs' => h.set b (.box vs' t .rw)
      | _ => none
    | .lptr b i o ver sz => match h[b]? with
      | some (.log rows sz' t .rw) => if rows.length = ver ∧ sz' = sz then
          (rows[i]?).bind fun row => (putAt row o (cellsP v)).map fun row' => h.set b (.log (rows.set i row') sz' t .rw) else none
      | _ => none
    | _ => none
  else none
def rowsP (sz : Nat) (x : PV) (h : PHeap) : Option (List (List PV)) :=
  match x with
  | .nilS => some []
  | .emp => some []
  | .frz sz' rows => if sz' = sz then some rows else none
  | .ref b lo n ver sz' => if n = 0 then some [] else if sz' = sz then (logAt h b ver sz).bind fun rows => if lo + n ≤ rows.length then some ((rows.drop lo).take n) else none else none
  | .str s => if sz = 1 then some (s.data.toList.map fun b => [.int .u8 b.toNat]) else none
  | _ => none
def appendRows (elem : TypeId) (sz : Nat) (s : PV) (new : List (List PV)) (h : PHeap) : Option (PV × PHeap) :=
  if new.length ≤ mostLen ∧ 0 < sz ∧ new.flatten.all oneP = true then
    match s with
    | .nilS => if new.length = 0 then some (.nilS, h) else some (.ref h.length 0 new.length new.length sz, h ++ [.log new sz elem .rw])
    | .emp => if new.length = 0 then some (.emp, h) else some (.ref h.length 0 new.length new.length sz, h ++ [.log new sz elem .rw])
    | .ref b lo n ver sz' => match h[b]? with
      | some (.log rows sz2 t .rw) =>
        if lo = 0 ∧ n = ver ∧ rows.length = ver ∧ sz' = sz ∧ sz2 = sz ∧ t = elem ∧ ver + new.length ≤ mostLen then
          some (.ref b 0 (ver + new.length) (ver + new.length) sz, h.set b (.log (rows ++ new) sz elem .rw))
        else none
      | _ => none
    | _ => none
  else none
def appendP (elem : TypeId) (sz : Nat) (s x : PV) (h : PHeap) : Option (PV × PHeap) := (rowsP sz x h).bind fun new => appendRows elem sz s new h
def appendNP (elem : TypeId) (sz : Nat) (zero : List PV) (s k : PV) (h : PHeap) : Option (PV × PHeap) :=
  match k with
  | .int .i64 l => if 0 ≤ l ∧ l ≤ mostLen ∧ zero.length = sz then appendRows elem sz s (List.replicate l.toNat zero) h else none
  | _ => none
def copyP (sz : Nat) (d s : PV) (h : PHeap) : Option (PV × PHeap) :=
  (rowsP sz s h).bind fun src =>
    match d with
    | .nilS => some (.int .i64 0, h)
    | .emp => some (.int .i64 0, h)
    | .ref b lo n ver sz' =>
      match h[b]? with
      | some (.log rows sz2 t .rw) =>
        if rows.length = ver ∧ sz' = sz ∧ sz2 = sz ∧ lo + n ≤ ver ∧ 0 < n ∧ src.flatten.all oneP = true then
          some (.int .i64 (Nat.min src.length n), h.set b (.log (rows.take lo ++ src.take n ++ rows.drop (lo + Nat.min src.length n)) sz2 t .rw))
        else none
      | _ => none
    | _ => none
def clearP (zero : List PV) (x : PV) (h : PHeap) : Option (PV × PHeap) :=
  match x with
  | .nilS => some (undefP, h)
  | .emp => some (undefP, h)
  | .ref b lo n ver sz =>
    match h[b]? with
    | some (.log rows sz2 t .rw) =>
      if rows.length = ver ∧ zero.length = sz ∧ sz2 = sz ∧ lo + n ≤ ver ∧ 0 < n ∧ zero.all oneP = true then
        some (undefP, h.set b (.log (rows.take lo ++ List.replicate n zero ++ rows.drop (lo + n)) sz2 t .rw))
      else none
    | _ => none
  | _ => none
def mkSliceP (elem : TypeId) (zero : List PV) (n c : PV) (h : PHeap) : Option (PV × PHeap) :=
  match n, c with
  | .int .i64 n, .int .i64 c =>
    if 0 ≤ n ∧ n ≤ c ∧ c ≤ mostLen then some (.ref h.length 0 n.toNat n.toNat zero.length, h ++ [.log (List.replicate n.toNat zero) zero.length elem .rw]) else none
  | _, _ => none
def chunk (sz : Nat) : Nat → List PV → List (List PV)
  | 0, _ => []
  | n + 1, l => l.take sz :: chunk sz n (l.drop sz)
def keyEqP (k : BK) (x y : PV) : Option Bool :=
  match k, x, y with
  | .int, .int k a, .int k' b => if k = k' then some (a == b) else none
  | .bool, .bool a, .bool b => some (a == b)
  | .str, .str a, .str b => some (a == b)
  | _, _, _ => none
def findMapP (k : BK) (x : PV) : List (PV × PV) → Option (Option PV)
  | [] => some none
  | (y, v) :: r => match keyEqP k x y with
    | some true => some (some v)
    | some false => findMapP k x r
    | none => none
def insMapP (k : BK) (x v : PV) : List (PV × PV) → Option (List (PV × PV))
  | [] => some [(x, v)]
  | (y, u) :: r => match keyEqP k x y with
    | some true => some ((x, v) :: r)
    | some false => (insMapP k x v r).map fun q => (y, u) :: q
    | none => none
def mapOfP (x : PV) (h : PHeap) : Option (List (PV × PV)) :=
  match x with
  | .nilM => some []
  | .map b => match h[b]? with
    | some (.map es _) => some es
    | _ => none
  | _ => none
def lookupP (k : BK) (zero : PV) (ok : Bool) (x i : PV) (h : PHeap) : Option PV :=
  (mapOfP x h).bind fun es => (findMapP k i es).map fun r =>
    match r, ok with
    | some v, true => .tuple [v, .bool true]
    | some v, false => v
    | none, true => .tuple [zero, .bool false]
    | none, false => zero
def setMapP (k : BK) (x i v : PV) (h : PHeap) : Option PHeap :=
  match x with
  | .map b => match h[b]? with
    | some (.map es .rw) => (insMapP k i v es).map fun q => h.set b (.map q .rw)
    | _ => none
  | _ => none
def lenMapP (x : PV) (h : PHeap) : Option PV := (mapOfP x h).map fun es => .int .i64 es.length
def bytesP : List (List PV) → Option (List UInt8)
  | [] => some []
  | [.int .u8 n] :: r => (bytesP r).map fun l => UInt8.ofNat n.toNat :: l
  | _ => none
def bytesToStrP (x : PV) (h : PHeap) : Option PV :=
  match x with
  | .str _ => none
  | x => (rowsP 1 x h).bind fun rows => (bytesP rows).map fun bs => .str ⟨bs.toArray⟩
mutual
def fz : FS → PV → PHeap → Option (PV × PHeap)
  | .keep, v, h => some (v, h)
  | .raw, v, h => match v with
    | .nilS => some (.emp, h)
    | v => some (v, h)
  | .flat sz, v, h => match v with
    | .nilS => some (.frz sz [], h)
    | .emp => some (.frz sz [], h)
    | .frz sz' rows => some (.frz sz' rows, h)
    | .ref b lo n ver sz => if n = 0 then some (.frz sz [], h) else match h[b]? with
      | some (.log rows sz' t .rw) => if rows.length = ver ∧ sz' = sz ∧ lo + n ≤ ver ∧ ((rows.drop lo).take n).flatten.all pure1 = true then some (.frz sz ((rows.drop lo).take n), h.set b (.log rows sz' t .ro)) else none
      | some (.log rows sz' t .ro) => if rows.length = ver ∧ sz' = sz ∧ lo + n ≤ ver ∧ ((rows.drop lo).take n).flatten.all pure1 = true then some (.frz sz ((rows.drop lo).take n), h) else none
      | _ => none
    | _ => none
  | .sl sz cs, v, h => match v with
    | .nilS => some (.frz sz [], h)
    | .emp => some (.frz sz [], h)
    | .frz sz' rows => some (.frz sz' rows, h)
    | .ref b lo n ver sz => if n = 0 then some (.frz sz [], h) else match h[b]? with
      | some (.log rows sz' t .rw) => if rows.length = ver ∧ sz' = sz ∧ lo + n ≤ ver then
          (fzRows cs ((rows.drop lo).take n) (h.set b (.log rows sz' t .ro))).bind fun q => if q.1.flatten.all pure1 = true then some (.frz sz q.1, q.2) else none
        else none
      | some (.log rows sz' t .ro) => if rows.length = ver ∧ sz' = sz ∧ lo + n ≤ ver then
          (fzRows cs ((rows.drop lo).take n) h).bind fun q => if q.1.flatten.all pure1 = true then some (.frz sz q.1, q.2) else none
        else none
      | _ => none
    | _ => none
  | .agg cs, v, h => match v with
    | .agg vs => (fzL cs vs h).map fun q => (.agg q.1, q.2)
    | _ => none
def fzL : List FS → List PV → PHeap → Option (List PV × PHeap)
  | [], [], h => some ([], h)
  | s :: ss, v :: vs, h => (fz s v h).bind fun q => (fzL ss vs q.2).map fun r => (q.1 :: r.1, r.2)
  | _, _, _ => none
def fzRows (cs : List FS) : List (List PV) → PHeap → Option (List (List PV) × PHeap)
  | [], h => some ([], h)
  | r :: rs, h => (fzL cs r h).bind fun q => (fzRows cs rs q.2).map fun p => (q.1 :: p.1, p.2)
end
def ltV (n : Nat) : PV → Prop
  | .ptr b _ => b < n
  | .ref b _ _ _ _ => b < n
  | .lptr b _ _ _ _ => b < n
  | .map b => b < n
  | .yield b => b < n
  | .func _ xs ys => (∀ x ∈ xs, ltV n x) ∧ (∀ y ∈ ys, ltV n y)
  | .iface _ v => ltV n v
  | .agg cs => ∀ x ∈ cs, ltV n x
  | .tuple cs => ∀ x ∈ cs, ltV n x
  | _ => True
def ltB (n : Nat) : PBlk → Prop
  | .box vs _ _ => ∀ x ∈ vs, ltV n x
  | .log rows _ _ _ => ∀ x ∈ rows.flatten, ltV n x
  | .map es _ => ∀ x ∈ es, ltV n x.1 ∧ ltV n x.2
  | .loop vals _ _ _ _ _ _ _ => ∀ x ∈ vals, ltV n x
  | .dead => True
open Classical in
noncomputable def trim (h0 : PHeap) (roots : List PV) (h : PHeap) : PHeap :=
  if (∀ v ∈ roots, ltV h0.length v) ∧ (∀ b, b < h0.length → h[b]? = h0[b]? ∨ ∃ blk, h[b]? = some blk ∧ ltB h0.length blk) then h.take h0.length else h
def lockB : PBlk → PBlk
  | .box vs t .rw => .box vs t .lk
  | .log rows sz t .rw => .log rows sz t .lk
  | .map es .rw => .map es .lk
  | .loop vals lv ps a b st pend .rw => .loop vals lv ps a b st pend .lk
  | b => b
def lock (h : PHeap) : PHeap := h.map lockB
open Classical in
noncomputable def unl {R : Type} (h h' : PHeap) (k : PHeap → Option R) : Option R := if lock h <+: h' then k (h ++ h'.drop h.length) else none
def pval (e : PEnv) : Operand → PV
  | .tmp t => e t
  | .const v => ofV v
  | .global _ => .junk
  | .func f => .func f [] []
def pvals (e : PEnv) : List Operand → List PV
  | [] => []
  | x :: r => pval e x :: pvals e r
def pvalO (e : PEnv) : Option Operand → Option PV
  | none => none
  | some x => some (pval e x)
def pvalP (e : PEnv) : List (Nat × Nat × Operand) → List (Nat × Nat × PV)
  | [] => []
  | (i, n, x) :: r => (i, n, pval e x) :: pvalP e r
abbrev PCallee := FuncId → List PV → PHeap → Option (PV × PHeap)
section
variable {R : Type}
def callVP (Γ : PCallee) (f : PV) (args : List PV) (h : PHeap) : Option (PV × PHeap) :=
  match f with
  | .func g xs ys => bif Nat.blt g yieldId then Γ g (xs ++ args ++ ys) h else none
  | .yield b => Γ yieldId (.ptr b 0 :: args) h
  | _ => none
def callFP (Γ : PCallee) (f : PV) (args : List PV) (h : PHeap) : Option (PV × PHeap) :=
  match f with
  | .func g xs ys => bif Nat.blt g yieldId then Γ g (xs ++ args ++ ys) h else none
  | _ => none
def zeros (zero : List Value) : List PV := zero.map ofV1
def repP (zero : List PV) : Nat → List PV
  | 0 => []
  | n + 1 => zero ++ repP zero n
noncomputable def popK (Γ : PCallee) (o : POp) (e : PEnv) (h : PHeap) (k : PV → PHeap → Option R) : Option R :=
  match o with
  | .growNil t sz => if 0 < sz then k (.ref h.length 0 0 0 sz) (h ++ [.log [] sz t .rw]) else none
  | .growBox _ t el sz => if 0 < sz then k (.ptr (h.length + 1) 0) (h ++ [.log [] sz el .rw, .box [.ref h.length 0 0 0 sz] t .rw]) else none
  | .buildF t zero n parts => if 0 < zero.length ∧ 0 < n ∧ n ≤ mostLen then (fillP (repP (zeros zero) n) (pvalP e parts)).bind fun l => if l.all pure1 = true then k (.frz zero.length (chunk zero.length n l)) h else none else none
  | .a o => match o with
    | .move x => k (pval e x) h
    | .pick c a b => (pickP (pval e c) (pval e a) (pval e b)).bind fun v => k v h
    | .bin op x y => (binP op (pval e x) (pval e y)).bind fun v => k v h
    | .eqBool neg x y => (eqBoolP neg (pval e x) (pval e y)).bind fun v => k v h
    | .isNil t neg x => isNilK t neg (pval e x) fun v => k v h
    | .eqAgg ks neg x y => (eqAggP ks neg (pval e x) (pval e y)).bind fun v => k v h
    | .un op x => (unP op (pval e x)).bind fun v => k v h
    | .conv t x => (convP t (pval e x)).bind fun v => k v h
    | .strId x => (strIdP (pval e x)).bind fun v => k v h
    | .len str x => (lenP str (pval e x)).bind fun v => k v h
    | .extract x i => (extractP (pval e x) i).bind fun v => k v h
    | .field agg off size x => (fieldP agg off size (pval e x)).bind fun v => k v h
    | .indexArr n agg size x i => (indexArrP n agg size (pval e x) (pval e i)).bind fun v => k v h
    | .indexStr x i => (indexStrP (pval e x) (pval e i)).bind fun v => k v h
    | .fieldAddr off x => (fieldAddrP off (pval e x)).bind fun v => k v h
    | .indexAddr size x i => (indexAddrP size (pval e x) (pval e i)).bind fun v => k v h
    | .indexAddrArr n size x i => (indexAddrArrP n size (pval e x) (pval e i)).bind fun v => k v h
    | .nilCheck x => (nilCheckP (pval e x)).bind fun v => k v h
    | .slice size x lo hi mx => (sliceP size (pval e x) (pvalO e lo) (pvalO e hi) (pvalO e mx)).bind fun v => k v h
    | .sliceStr x lo hi => (sliceStrP (pval e x) (pvalO e lo) (pvalO e hi)).bind fun v => k v h
    | .sliceArr _ _ _ _ _ _ => none
    | .max xs => (fold1P max2P (pvals e xs)).bind fun v => k v h
    | .min xs => (fold1P min2P (pvals e xs)).bind fun v => k v h
    | .build zero parts => (fillP (zeros zero) (pvalP e parts)).bind fun l => k (.agg l) h
    | .mkFunc f first captured => k (.func f (pvals e first) (pvals e captured)) h
    | .mkIface t x => k (.iface t (pval e x)) h
    | .box t x => k (.ptr h.length 0) (h ++ [.box (cellsP (pval e x)) t .rw])
    | .new t zero => k (.ptr h.length 0) (h ++ [.box (zeros zero) t .rw])
    | .buildSlice t zero n parts => if 0 < zero.length ∧ 0 < n ∧ n ≤ mostLen then (fillP (repP (zeros zero) n) (pvalP e parts)).bind fun l => k (.ref h.length 0 n n zero.length) (h ++ [.log (chunk zero.length n l) zero.length t .rw])
        else match n, parts with
          | 0, [] => k .emp h
          | _, _ => none
    | .mkSlice t zero n c => if 0 < zero.length then (mkSliceP t (zeros zero) (pval e n) (pval e c) h).bind fun p => k p.1 p.2 else none
    | .load agg n x => (loadP agg n (pval e x) h).bind fun v => k v h
    | .store n x v => (storeP n (pval e x) (pval e v) h).bind fun h' => k undefP h'
    | .append t size s x => (appendP t size (pval e s) (pval e x) h).bind fun p => k p.1 p.2
    | .copy size d s => (copyP size (pval e d) (pval e s) h).bind fun p => k p.1 p.2
    | .clear zero x => (clearP (zeros zero) (pval e x) h).bind fun p => k p.1 p.2
    | .appendN t size zero s n => (appendNP t size (zeros zero) (pval e s) (pval e n) h).bind fun p => k p.1 p.2
    | .mkMap => k (.map h.length) (h ++ [.map [] .rw])
    | .lookup t zero ok x i => (lookupP t (ofV zero) ok (pval e x) (pval e i) h).bind fun v => k v h
    | .mapSet t x i v => (setMapP t (pval e x) (pval e i) (pval e v) h).bind fun h' => k undefP h'
    | .lenMap x => (lenMapP (pval e x) h).bind fun v => k v h
    | .bytesToStr x => (bytesToStrP (pval e x) h).bind fun v => k v h
    | .call f args => (Γ f (pvals e args) h).bind fun p => k p.1 p.2
    | .callV f args => (callVP Γ (pval e f) (pvals e args) h).bind fun p => k p.1 p.2
    | .fail => none
def K1 (k : PV → PHeap → Option R) (b : (PV → PHeap → Option R) → Option R) : Option R := b k
def KL (k : List PV → PHeap → Option R) (b : (List PV → PHeap → Option R) → Option R) : Option R := b k
def scP (v : PV) (isAnd : Bool) (a b : Option R) : Option R :=
  match v with
  | .bool t => if t = isAnd then a else b
  | _ => none
def ifP (v : PV) (a b : Option R) : Option R :=
  match v with
  | .bool t => if t = true then a else b
  | _ => none
def scal1 : PV → Bool
  | .int _ _ | .bool _ | .str _ => true
  | _ => false
def scal : PV → Bool
  | .tuple cs => cs.all scal1
  | v => scal1 v
def fzE : List (Nat × FS) → PEnv → PHeap → (PEnv → PHeap → Option R) → Option R
  | [], e, h, k => k e h
  | p :: r, e, h, k => (fz p.2 (e p.1) h).bind fun q => fzE r (pupd e p.1 q.1) q.2 k
def growP (v : PV) (el : TypeId) (sz : Nat) (h : PHeap) : Option (PV × PHeap) :=
  match v with
  | .nilS => if 0 < sz then some (.ref h.length 0 0 0 sz, h ++ [.log [] sz el .rw]) else none
  | v => some (v, h)
def farP (s p : PV) (h : PHeap) : Bool :=
  match s, p with
  | .nilS, .ptr _ _ => true
  | .emp, .ptr _ _ => true
  | .ref b _ _ ver _, .ptr b' _ => match h[b]?, h[b']? with
    | some (.log rows _ _ _), some (.box _ _ _) => Nat.beq rows.length ver
    | _, _ => false
  | _, _ => false
def farL : List (Nat × Nat) → PEnv → PHeap → Bool
  | [], _, _ => true
  | p :: r, e, h => farP (e p.1) (e p.2) h && farL r e h
def guardP {R : Type} (b : Bool) (m : Option R) : Option R := if b = true then m else none
noncomputable def pstepsK (Γ : PCallee) : PSteps → (PEnv → PHeap → Option R) → PEnv → PHeap → Option R
  | .nil, K, e, h => K e h
  | .op d o .no rest, K, e, h => popK Γ o e h fun v h' => pstepsK Γ rest K (pupdO e d v) h'
  | .op d o (.far ps) rest, K, e, h => guardP (farL ps e h) (popK Γ o e h fun v h' => pstepsK Γ rest K (pupdO e d v) h')
  | .op d o .calm rest, K, e, h => popK Γ o e (lock h) fun v h' => unl h h' fun h2 => pstepsK Γ rest K (pupdO e d v) h2
  | .sc d c isAnd tmp body y rest, K, e, h =>
    K1 (fun v h => pstepsK Γ rest K (pupd (pjunk e tmp) d v) h) fun j =>
      scP (e c) isAnd (pstepsK Γ body (fun e' h' => j (pval e' y) h') e h) (j (.bool !isAnd) h)
  | .fz t s rest, K, e, h => (fz s (e t) h).bind fun q => pstepsK Γ rest K (pupd e t q.1) q.2
  | .bor _ _ _ (.far _) _, _, _, _ => none
  | .bor ts d o .no rest, K, e, h => fzE ts e h fun e1 h1 => popK Γ o e1 (lock h1) fun v _ => if scal v = true then pstepsK Γ rest K (pupdO e d v) h else none
  | .bor ts d o .calm rest, K, e, h => fzE ts e h fun e1 h1 => popK Γ o e1 (lock h1) fun v _ => if scal v = true then pstepsK Γ rest K (pupdO e d v) h else none
  | .gr t el sz rest, K, e, h => (growP (e t) el sz h).bind fun q => pstepsK Γ rest K (pupd e t q.1) q.2
def loopP (B : (List PV → PHeap → Option R) → List PV → PHeap → Option R) : Nat → List PV → PHeap → Option R
  | 0, _, _ => none
  | n + 1, vs, h => B (loopP B n) vs h
def pendOfP (b : Nat) (h : PHeap) : Option (Option AExit) :=
  match h[b]? with
  | some (.loop _ _ _ _ _ .ready pend .rw) => some pend
  | some (.loop _ _ _ _ _ .done pend .rw) => some pend
  | _ => none
def endRoundP (b : Nat) (o : AExit) (h : PHeap) : Option (PV × PHeap) :=
  match h[b]? with
  | some (.loop vals lv ps ab bb .busy _ .rw) => match o with
    | .normal => some (.bool true, h.set b (.loop vals lv ps ab bb .ready none .rw))
    | .exit i => some (.bool false, h.set b (.loop vals lv ps ab bb .done (some (.exit i)) .rw))
    | .ret => some (.bool false, h.set b (.loop vals lv ps ab bb .done (some .ret) .rw))
  | _ => none
def beginRoundP (b : Nat) (h : PHeap) : Option PHeap :=
  match h[b]? with
  | some (.loop vals lv ps ab bb .ready pend .rw) => some (h.set b (.loop vals lv ps ab bb .busy pend .rw))
  | _ => none
noncomputable def pcodeK (Γ : PCallee) (n : Nat) : PCode → (AExit → PEnv → PHeap → Option R) → PEnv → PHeap → Option R
  | .skip, K, e, h => K .normal e h
  | .region _ s, K, e, h => pstepsK Γ s (fun e h => K .normal e h) e h
  | .seq a b, K, e, h => pcodeK Γ n a (fun o e h => match o with | .normal => pcodeK Γ n b K e h | .exit i => K (.exit i) e h | .ret => K .ret e h) e h
  | .cond c mod tmp a b, K, e, h =>
    KL (fun vs h => K .normal (psetMany (pjunk e tmp) mod vs) h) fun j =>
      ifP (pval e c)
        (pcodeK Γ n a (fun o e h => match o with | .normal => j (pgetMany e mod) h | .exit i => K (.exit i) e h | .ret => K .ret e h) e h)
        (pcodeK Γ n b (fun o e h => match o with | .normal => j (pgetMany e mod) h | .exit i => K (.exit i) e h | .ret => K .ret e h) e h)
  | .block id mod tmp c, K, e, h =>
    KL (fun vs h => K .normal (psetMany (pjunk e tmp) mod vs) h) fun j =>
      pcodeK Γ n c (fun o e h => match o with
        | .normal => j (pgetMany e mod) h
        | .exit i => bif Nat.beq i id then j (pgetMany e mod) h else K (.exit i) e h
        | .ret => K .ret e h) e h
  | .loop mod tmp c, K, e, h =>
    loopP (fun cont vs h1 => pcodeK Γ n c (fun o e h2 => match o with | .normal => cont (pgetMany e mod) (trim h (pgetMany e mod) h2) | .exit i => K (.exit i) e h2 | .ret => K .ret e h2) (psetMany (pjunk e tmp) mod vs) h1) n (pgetMany e mod) h
  | .exit i, K, e, h => K (.exit i) e h
  | .ret, K, e, h => K .ret e h
  | .rangeF g lv ps ab bb, K, e, h =>
    (callFP Γ (pval e g) [.yield h.length] (h ++ [.loop (pgetMany e lv) lv ps ab bb .ready none .rw])).bind fun p =>
      (pendOfP h.length p.2).bind fun o => match o with
        | none => K .normal e (trim h [] (p.2.set h.length .dead))
        | some x => K x e (trim h [] (p.2.set h.length .dead))
structure PFun where
  nargs : Nat
  ntmps : Nat
  code : PCode
  results : List ARes
  shapes : List FS
def PFun.erase (F : PFun) : AFun := ⟨F.nargs, F.ntmps, eraseK F.code, F.results⟩
def presultsK : List ARes → PEnv → PHeap → (List PV → Option R) → Option R
  | [], _, _, k => k []
  | .tmp t :: r, e, h, k => presultsK r e h fun vs => k (e t :: vs)
  | .cell t agg n :: r, e, h, k => (loadP agg n (e t) h).bind fun v => presultsK r e h fun vs => k (v :: vs)
def singleP : List PV → PV
  | [v] => v
  | vs => .tuple vs
end
def pinit (args : List PV) : PEnv := fun i => args.getD i undefP
noncomputable def finP (shapes : List FS) (h h' : PHeap) (vs : List PV) : Option (PV × PHeap) := (fzL shapes vs h').map fun q => (singleP q.1, trim h q.1 q.2)
noncomputable def pfunK (Γ : PCallee) (n : Nat) (F : PFun) (args : List PV) (h : PHeap) : Option (PV × PHeap) :=
  bif Nat.beq args.length F.nargs then
    pcodeK Γ n F.code (fun o e h' => match o with
      | .normal => presultsK F.results e h' fun vs => finP F.shapes h h' vs
      | .ret => presultsK F.results e h' fun vs => finP F.shapes h h' vs
      | .exit _ => none) (pinit args) h
  else none
noncomputable def proundK (Γ : PCallee) (n : Nat) (args : List PV) (h : PHeap) : Option (PV × PHeap) :=
  match args with
  | .ptr b 0 :: vs =>
    match h[b]? with
    | some (.loop vals lv ps ab bb .ready _ _) =>
      bif Nat.beq vs.length ps.length then
        pcodeK Γ n ab (fun o e h1 => match o with
          | .normal => (beginRoundP b h1).bind fun h2 => pcodeK Γ n bb (fun o _ h3 => (endRoundP b o h3).map fun q => (q.1, trim h [] q.2)) e h2
          | _ => none) (psetMany (psetMany (fun _ => .junk) lv vals) ps vs) h
      else none
    | _ => none
  | _ => none
abbrev PTable := List (FuncId × PFun)
def PTable.get (T : PTable) (f : FuncId) : Option PFun :=
  match T with
  | [] => none
  | (g, F) :: r => bif Nat.beq g f then some F else PTable.get r f
def PTable.erase : PTable → ATable
  | [] => []
  | (g, F) :: r => (g, F.erase) :: PTable.erase r
noncomputable def pcall (Γ0 : PCallee) (T : PTable) : Nat → PCallee
  | 0, f, args, h => bif Nat.beq f yieldId then none else match T.get f with
    | some _ => none
    | none => Γ0 f args h
  | n + 1, f, args, h => bif Nat.beq f yieldId then proundK (pcall Γ0 T n) n args h else match T.get f with
    | some F => pfunK (pcall Γ0 T n) n F args h
    | none => Γ0 f args h
open Classical in
noncomputable def prun (Γ0 : PCallee) (T : PTable) : PCallee := fun f args h =>
  if H : ∃ n, (pcall Γ0 T n f args h).isSome = true then pcall Γ0 T (Classical.choose H) f args h else none
end Go.Vm
/- How a state of the value machine stands for one of the abstract machine. -/
namespace Go.Vm
open Go.Am
abbrev Ren := Nat → Nat → Option (Option Am.Loc)
abbrev Frz := Nat → Option ABlk
mutual
inductive PR (μ : Ren) (φ : Frz) : PV → Value → Prop
  | junk (v : Value) : PR μ φ .junk v
  | int (k : IntKind) (n : Int) : PR μ φ (.int k n) (.int k n)
  | bool (b : Bool) : PR μ φ (.bool b) (.bool b)
  | str (s : ByteArray) : PR μ φ (.str s) (.string s)
  | nilS : PR μ φ .nilS (.slice none 0 0)
  | nilP : PR μ φ .nilP (.pointer none)
  | nilM : PR μ φ .nilM (.map none)
  | nilF : PR μ φ .nilF .nilFunc
  | nilI : PR μ φ .nilI .nilIface
  | emp (a : Option Addr) : PR μ φ .emp (.slice a 0 0)
  | frzNil (sz : Nat) : PR μ φ (.frz sz []) (.slice none 0 0)
  | frz0 (sz : Nat) (a : Addr) (c : Nat) : PR μ φ (.frz sz []) (.slice (some a) 0 c)
  | frz {rows : List (List PV)} {sz a o n c : Nat} {vs : List Value} {t : TypeId} {rw : Bool} (hn : n = rows.length) (hc : n ≤ c ∧ n < capU) (hsz : ∀ r ∈ rows, r.length = sz) (hφ : φ a = some (.cells vs t rw))
      (hl : o + n * sz ≤ vs.length) (hp : rows.flatten.all pure1 = true) (hr : PRL μ φ rows.flatten ((vs.drop o).take (n * sz))) : PR μ φ (.frz sz rows) (.slice (some ⟨a, o, none⟩) n c)
  | fptr {row : List PV} {off a o : Nat} {vs : List Value} {t : TypeId} {rw : Bool} (hφ : φ a = some (.cells vs t rw)) (hl : o + row.length ≤ vs.length) (hp : row.all pure1 = true)
      (hr : PRL μ φ row ((vs.drop o).take row.length)) : PR μ φ (.fptr row off) (.pointer (some ⟨a, o + off, none⟩))
  | ptr {b o : Nat} {l : Am.Loc} (h : μ b 0 = some (some l)) : PR μ φ (.ptr b o) (.pointer (some ⟨l.blk, o, none⟩))
  | ref0 {b : Nat} (sz : Nat) (a : Option Addr) (h : μ b 0 = some none) : PR μ φ (.ref b 0 0 0 sz) (.slice a 0 0)
  | ref {b lo n ver sz c : Nat} {l : Am.Loc} (h : μ b ver = some (some l)) (hn : lo + n ≤ ver) (hc : (c = capU ∧ 0 < n) ∨ (c < capU ∧ n ≤ c ∧ lo + c ≤ l.K)) : PR μ φ (.ref b lo n ver sz) (.slice (some ⟨l.blk, lo * sz, none⟩) n c)
  | lptr {b i off ver sz : Nat} {l : Am.Loc} (h : μ b ver = some (some l)) : PR μ φ (.lptr b i off ver sz) (.pointer (some ⟨l.blk, i * sz + off, none⟩))
  | map {b : Nat} {l : Am.Loc} (h : μ b 0 = some (some l)) : PR μ φ (.map b) (.map (some l.blk))
  | func (f : FuncId) {xs ys : List PV} {xs' ys' : List Value} (hx : PRL μ φ xs xs') (hy : PRL μ φ ys ys') : PR μ φ (.func f xs ys) (.func (.func f) xs'.toArray ys'.toArray)
  | yield {b : Nat} {l : Am.Loc} (h : μ b 0 = some (some l)) : PR μ φ (.yield b) (.func (.yield l.blk) ⟨[]⟩ ⟨[]⟩)
  | iface (t : TypeId) {v : PV} {v' : Value} (h : PR μ φ v v') : PR μ φ (.iface t v) (.iface t v')
  | agg {xs : List PV} {ys : List Value} (h : PRL μ φ xs ys) : PR μ φ (.agg xs) (.agg ys.toArray)
  | tuple {xs : List PV} {ys : List Value} (h : PRL μ φ xs ys) : PR μ φ (.tuple xs) (.tuple ys.toArray)
inductive PRL (μ : Ren) (φ : Frz) : List PV → List Value → Prop
  | nil : PRL μ φ [] []
  | cons {x : PV} {y : Value} {xs : List PV} {ys : List Value} (h : PR μ φ x y) (hs : PRL μ φ xs ys) : PRL μ φ (x :: xs) (y :: ys)
end
def RenLe (μ μ' : Ren) : Prop := ∀ b k l, μ b k = some l → μ' b k = some l
def FrzLe (φ φ' : Frz) : Prop := ∀ a blk, φ a = some blk → φ' a = some blk
theorem RenLe.refl (μ : Ren) : RenLe μ μ := fun _ _ _ h => h
theorem FrzLe.refl (φ : Frz) : FrzLe φ φ := fun _ _ h => h
theorem RenLe.trans {a b c : Ren} (h : RenLe a b) (h' : RenLe b c) : RenLe a c := fun x y z e => h' x y z (h x y z e)
theorem FrzLe.trans {a b c : Frz} (h : FrzLe a b) (h' : FrzLe b c) : FrzLe a c := fun x y e => h' x y (h x y e)
mutual
theorem PR.mono {μ μ' : Ren} {φ φ' : Frz} (hm : RenLe μ μ') (hf : FrzLe φ φ') {x : PV} {y : Value} : PR μ φ x y → PR μ' φ' x y
  | .junk v => .junk v
  | .int k n => .int k n
  | .bool b => .bool b
  | .str s => .str s
  | .nilS => .nilS
  | .nilP => .nilP
  | .nilM => .nilM
  | .nilF => .nilF
  | .nilI => .nilI
  | .emp a => .emp a
  | .frzNil sz => .frzNil sz
  | .frz0 sz a c => .frz0 sz a c
  | .frz h1 h2 h3 h4 h5 h6 h7 => .frz h1 h2 h3 (hf _ _ h4) h5 h6 (PRL.mono hm hf h7)
  | .fptr h4 h5 h6 h7 => .fptr (hf _ _ h4) h5 h6 (PRL.mono hm hf h7)
  | .ptr h => .ptr (hm _ _ _ h)
  | .ref0 sz a h => .ref0 sz a (hm _ _ _ h)
  | .ref h h1 h2 => .ref (hm _ _ _ h) h1 h2
  | .lptr h => .lptr (hm _ _ _ h)
  | .map h => .map (hm _ _ _ h)
  | .func f h h' => .func f (PRL.mono hm hf h) (PRL.mono hm hf h')
  | .yield h => .yield (hm _ _ _ h)
  | .iface t h => .iface t (PR.mono hm hf h)
  | .agg h => .agg (PRL.mono hm hf h)
  | .tuple h => .tuple (PRL.mono hm hf h)
theorem PRL.mono {μ μ' : Ren} {φ φ' : Frz} (hm : RenLe μ μ') (hf : FrzLe φ φ') {xs : List PV} {ys : List Value} : PRL μ φ xs ys → PRL μ' φ' xs ys
  | .nil => .nil
  | .cons h hs => .cons (PR.mono hm hf h) (PRL.mono hm hf hs)
end
def cut (μ : Ren) (n : Nat) : Ren := fun b k => if b < n then μ b k else none
theorem cut_lt {μ : Ren} {n b k : Nat} (h : b < n) : cut μ n b k = μ b k := if_pos h
theorem cut_le (μ : Ren) (n : Nat) : RenLe (cut μ n) μ := fun b k l h => by
  unfold cut at h
  split at h
  · exact h
  · cases h
mutual
theorem PR.under {μ : Ren} {φ : Frz} {n : Nat} {x : PV} {y : Value} (hl : ltV n x) : PR μ φ x y → PR (cut μ n) φ x y
  | .junk v => .junk v
  | .int k n => .int k n
  | .bool b => .bool b
  | .str s => .str s
  | .nilS => .nilS
  | .nilP => .nilP
  | .nilM => .nilM
  | .nilF => .nilF
  | .nilI => .nilI
  | .emp a => .emp a
  | .frzNil sz => .frzNil sz
  | .frz0 sz a c => .frz0 sz a c
  | .frz h1 h2 h3 h4 h5 h6 h7 => .frz h1 h2 h3 h4 h5 h6 (PRL.under (fun x hx => by
      have := List.all_eq_true.1 h6 x hx
      cases x <;> simp [pure1, ltV] at this ⊢) h7)
  | .fptr h4 h5 h6 h7 => .fptr h4 h5 h6 (PRL.under (fun x hx => by
      have := List.all_eq_true.1 h6 x hx
      cases x <;> simp [pure1, ltV] at this ⊢) h7)
  | .ptr h => .ptr (by rw [cut_lt (by simpa [ltV] using hl)]; exact h)
  | .ref0 sz a h => .ref0 sz a (by rw [cut_lt (by simpa [ltV] using hl)]; exact h)
  | .ref h h1 h2 => .ref (by rw [cut_lt (by simpa [ltV] using hl)]; exact h) h1 h2
  | .lptr h => .lptr (by rw [cut_lt (by simpa [ltV] using hl)]; exact h)
  | .map h => .map (by rw [cut_lt (by simpa [ltV] using hl)]; exact h)
  | .func f h h' => by unfold ltV at hl; exact .func f (PRL.under hl.1 h) (PRL.under hl.2 h')
  | .yield h => .yield (by rw [cut_lt (by simpa [ltV] using hl)]; exact h)
  | .iface t h => by unfold ltV at hl; exact .iface t (PR.under hl h)
  | .agg h => by unfold ltV at hl; exact .agg (PRL.under hl h)
  | .tuple h => by unfold ltV at hl; exact .tuple (PRL.under hl h)
theorem PRL.under {μ : Ren} {φ : Frz} {n : Nat} {xs : List PV} {ys : List Value} (hl : ∀ x ∈ xs, ltV n x) : PRL μ φ xs ys → PRL (cut μ n) φ xs ys
  | .nil => .nil
  | .cons h hs => .cons (PR.under (hl _ (by simp)) h) (PRL.under (fun x hx => hl x (by simp [hx])) hs)
end
mutual
theorem PR.lt {μ : Ren} {φ : Frz} {n : Nat} (hd : ∀ b k l, μ b k = some l → b < n) {μ' : Ren} {φ' : Frz} {x : PV} {y y' : Value} (h' : PR μ' φ' x y') : PR μ φ x y → PR (cut μ' n) φ' x y'
  | .junk v => .junk _
  | .int k n => h'.under (by simp [ltV])
  | .bool b => h'.under (by simp [ltV])
  | .str s => h'.under (by simp [ltV])
  | .nilS => h'.under (by simp [ltV])
  | .nilP => h'.under (by simp [ltV])
  | .nilM => h'.under (by simp [ltV])
  | .nilF => h'.under (by simp [ltV])
  | .nilI => h'.under (by simp [ltV])
  | .emp a => h'.under (by simp [ltV])
  | .frzNil sz => h'.under (by simp [ltV])
  | .frz0 sz a c => h'.under (by simp [ltV])
  | .frz .. => h'.under (by simp [ltV])
  | .fptr .. => h'.under (by simp [ltV])
  | .ptr h => h'.under (by simpa [ltV] using hd _ _ _ h)
  | .ref0 sz a h => h'.under (by simpa [ltV] using hd _ _ _ h)
  | .ref h h1 h2 => h'.under (by simpa [ltV] using hd _ _ _ h)
  | .lptr h => h'.under (by simpa [ltV] using hd _ _ _ h)
  | .map h => h'.under (by simpa [ltV] using hd _ _ _ h)
  | .func f h1 h2 => by
    cases h' with
    | func _ h3 h4 => exact .func f (PRL.lt hd h3 h1) (PRL.lt hd h4 h2)
  | .yield h => h'.under (by simpa [ltV] using hd _ _ _ h)
  | .iface t h => by
    cases h' with
    | iface _ h3 => exact .iface t (PR.lt hd h3 h)
  | .agg h => by
    cases h' with
    | agg h3 => exact .agg (PRL.lt hd h3 h)
  | .tuple h => by
    cases h' with
    | tuple h3 => exact .tuple (PRL.lt hd h3 h)
theorem PRL.lt {μ : Ren} {φ : Frz} {n : Nat} (hd : ∀ b k l, μ b k = some l → b < n) {μ' : Ren} {φ' : Frz} {xs : List PV} {ys ys' : List Value} (h' : PRL μ' φ' xs ys') : PRL μ φ xs ys → PRL (cut μ' n) φ' xs ys'
  | .nil => by cases h'; exact .nil
  | .cons h hs => by
    cases h' with
    | cons h3 h4 => exact .cons (PR.lt hd h3 h) (PRL.lt hd h4 hs)
end
end Go.Vm
/- How blocks and states of the value machine stand for the abstract machine's; the one step that all changes are. -/
namespace Go.Vm
open Go.Am
theorem PRL.length {μ : Ren} {φ : Frz} {xs : List PV} {ys : List Value} (h : PRL μ φ xs ys) : xs.length = ys.length := by
  induction xs generalizing ys with
  | nil => cases h; rfl
  | cons x xs ih => cases h with | cons _ hs => simp [ih hs]
theorem PRL.get {μ : Ren} {φ : Frz} {xs : List PV} {ys : List Value} (h : PRL μ φ xs ys) {i : Nat} {x : PV} (hx : xs[i]? = some x) : ∃ y, ys[i]? = some y ∧ PR μ φ x y := by
  induction xs generalizing ys i with
  | nil => simp at hx
  | cons z xs ih =>
    cases h with
    | cons h0 hs =>
      cases i with
      | zero => simp only [List.getElem?_cons_zero, Option.some.injEq] at hx; subst hx; exact ⟨_, rfl, h0⟩
      | succ i => simp only [List.getElem?_cons_succ] at hx ⊢; exact ih hs hx
theorem PRL.append {μ : Ren} {φ : Frz} {xs xs' : List PV} {ys ys' : List Value} (h : PRL μ φ xs ys) (h' : PRL μ φ xs' ys') : PRL μ φ (xs ++ xs') (ys ++ ys') := by
  induction xs generalizing ys with
  | nil => cases h; exact h'
  | cons x xs ih => cases h with | cons h0 hs => exact .cons h0 (ih hs)
theorem PRL.take {μ : Ren} {φ : Frz} {xs : List PV} {ys : List Value} (h : PRL μ φ xs ys) (n : Nat) : PRL μ φ (xs.take n) (ys.take n) := by
  induction xs generalizing ys n with
  | nil => cases h; simpa using PRL.nil
  | cons x xs ih =>
    cases h with
    | cons h0 hs => cases n with
      | zero => exact .nil
      | succ n => exact .cons h0 (ih hs n)
theorem PRL.drop {μ : Ren} {φ : Frz} {xs : List PV} {ys : List Value} (h : PRL μ φ xs ys) (n : Nat) : PRL μ φ (xs.drop n) (ys.drop n) := by
  induction xs generalizing ys n with
  | nil => cases h; simpa using PRL.nil
  | cons x xs ih =>
    cases h with
    | cons h0 hs => cases n with
      | zero => exact .cons h0 hs
      | succ n => exact ih hs n
theorem PRL.splice {μ : Ren} {φ : Frz} {xs xs' : List PV} {ys ys' : List Value} (h : PRL μ φ xs ys) (h' : PRL μ φ xs' ys') (o : Nat) : PRL μ φ (xs.take o ++ xs' ++ xs.drop (o + xs'.length)) (ys.take o ++ ys' ++ ys.drop (o + ys'.length)) := by
  rw [h'.length]
  exact ((h.take o).append h').append (h.drop _)
theorem PRL.of_get {μ : Ren} {φ : Frz} {xs : List PV} {ys : List Value} (hl : xs.length = ys.length) (h : ∀ (i : Nat) x y, xs[i]? = some x → ys[i]? = some y → PR μ φ x y) : PRL μ φ xs ys := by
  induction xs generalizing ys with
  | nil => cases ys with | nil => exact .nil | cons => simp at hl
  | cons x xs ih => cases ys with
    | nil => simp at hl
    | cons y ys => exact .cons (h 0 x y rfl rfl) (ih (by simpa using hl) fun i x y hx hy => h (i + 1) x y hx hy)
def wrB : PBlk → Prop
  | .box _ _ .rw => True
  | .log _ _ _ .rw => True
  | .map _ .rw => True
  | .loop _ _ _ _ _ _ _ .rw => True
  | _ => False
def ownMd : Md → Bool
  | .ro => false
  | _ => true
def ownB : PBlk → Prop
  | .box _ _ md => ownMd md = true
  | .log _ _ _ md => ownMd md = true
  | .map _ md => ownMd md = true
  | .loop _ _ _ _ _ _ _ md => ownMd md = true
  | .dead => False
theorem wrB.own {b : PBlk} (h : wrB b) : ownB b := by
  unfold wrB at h
  split at h <;> first | trivial | cases h | (simp [ownB, ownMd])
theorem wrB.live {b : PBlk} (h : wrB b) : b ≠ .dead := by rintro rfl; exact h
def ver : PBlk → Nat
  | .log rows _ _ _ => rows.length
  | _ => 0
def BR (μ : Ren) (φ : Frz) (K : Nat) : PBlk → ABlk → Prop
  | .box vs t md, blk => ∃ vs' rw, blk = .cells vs' t rw ∧ vs.length ≤ vs'.length ∧ PRL μ φ vs (vs'.take vs.length) ∧ (ownMd md = true → rw = true)
  | .log rows sz t md, blk => ∃ vs' rw, blk = .cells vs' t rw ∧ rows.length * sz ≤ vs'.length ∧ PRL μ φ rows.flatten (vs'.take (rows.length * sz)) ∧ (∀ r ∈ rows, r.length = sz) ∧ K * sz ≤ vs'.length ∧ (ownMd md = true → rw = true) ∧ rows.length ≤ mostLen
  | .map es _, blk => ∃ es', blk = .map es' ∧ PRL μ φ (es.map (·.1)) (es'.map (·.1)) ∧ PRL μ φ (es.map (·.2)) (es'.map (·.2))
  | .loop vals lv ps ab bb st pend _, blk => ∃ vals', blk = .loop vals' lv ps (eraseK ab) (eraseK bb) st pend ∧ PRL μ φ vals vals'
  | .dead, _ => True
theorem BR.mono {μ μ' : Ren} {φ φ' : Frz} (hm : RenLe μ μ') (hf : FrzLe φ φ') {K : Nat} {b : PBlk} {a : ABlk} (h : BR μ φ K b a) : BR μ' φ' K b a := by
  cases b with
  | box vs t md => obtain ⟨v, r, h1, h2, h3, h4⟩ := h; exact ⟨v, r, h1, h2, h3.mono hm hf, h4⟩
  | log rows sz t md => obtain ⟨v, r, h1, h2, h3, h4, h5, h6⟩ := h; exact ⟨v, r, h1, h2, h3.mono hm hf, h4, h5, h6⟩
  | map es => obtain ⟨e, h1, h2, h3⟩ := h; exact ⟨e, h1, h2.mono hm hf, h3.mono hm hf⟩
  | loop => obtain ⟨e, h1, h2⟩ := h; exact ⟨e, h1, h2.mono hm hf⟩
  | dead => trivial
def Has (μ : Ren) (φ : Frz) (ha : AHeap) (b : Nat) (blk : PBlk) : Prop :=
  (μ b (ver blk) = some none ∧ ∃ sz t md, blk = .log [] sz t md) ∨ ∃ l blk', μ b (ver blk) = some (some l) ∧ ha[l.blk]? = some blk' ∧ BR μ φ l.K blk blk'
structure Rel (μ : Ren) (φ : Frz) (hp : PHeap) (ha : AHeap) : Prop where
  dom : ∀ b k o, μ b k = some o → b < hp.length ∧ ∀ l, o = some l → l.blk < ha.length
  rel : ∀ b blk, hp[b]? = some blk → blk ≠ .dead → Has μ φ ha b blk
  inj : ∀ b b' blk blk' l l', hp[b]? = some blk → blk ≠ .dead → hp[b']? = some blk' → blk' ≠ .dead → μ b (ver blk) = some (some l) → μ b' (ver blk') = some (some l') → l.blk = l'.blk → b = b'
  sep : ∀ b blk l, hp[b]? = some blk → ownB blk → μ b (ver blk) = some (some l) → φ l.blk = none
  frz : ∀ a blk, φ a = some blk → ha[a]? = some blk
  top : ∀ b blk k o, hp[b]? = some blk → blk ≠ .dead → μ b k = some o → k ≤ ver blk
structure Ext (μ : Ren) (φ : Frz) (hp : PHeap) (ha : AHeap) (μ' : Ren) (φ' : Frz) (hp' : PHeap) (ha' : AHeap) : Prop where
  le : hp.length ≤ hp'.length
  leA : ha.length ≤ ha'.length
  mu : RenLe μ μ'
  phi : FrzLe φ φ'
  frame : ∀ a, a < ha.length → (∀ b blk l, hp[b]? = some blk → wrB blk → μ b (ver blk) = some (some l) → l.blk ≠ a) → ha'[a]? = ha[a]?
  wrt : ∀ b blk' l', hp'[b]? = some blk' → wrB blk' → μ' b (ver blk') = some (some l') → ha.length ≤ l'.blk ∨ ∃ b0 blk l, hp[b0]? = some blk ∧ wrB blk ∧ μ b0 (ver blk) = some (some l) ∧ l.blk = l'.blk
theorem Ext.refl (μ : Ren) (φ : Frz) (hp : PHeap) (ha : AHeap) : Ext μ φ hp ha μ φ hp ha :=
  ⟨Nat.le_refl _, Nat.le_refl _, RenLe.refl _, FrzLe.refl _, fun _ _ _ => rfl, fun b blk l h1 h2 h3 => .inr ⟨b, blk, l, h1, h2, h3, rfl⟩⟩
theorem Ext.trans {μ1 μ2 μ3 : Ren} {φ1 φ2 φ3 : Frz} {p1 p2 p3 : PHeap} {a1 a2 a3 : AHeap} (x : Ext μ1 φ1 p1 a1 μ2 φ2 p2 a2) (y : Ext μ2 φ2 p2 a2 μ3 φ3 p3 a3) : Ext μ1 φ1 p1 a1 μ3 φ3 p3 a3 where
  le := Nat.le_trans x.le y.le
  leA := Nat.le_trans x.leA y.leA
  mu := x.mu.trans y.mu
  phi := x.phi.trans y.phi
  frame a h hn := by
    rw [y.frame a (Nat.lt_of_lt_of_le h x.leA) ?_, x.frame a h hn]
    intro b blk l h1 h2 h3 e
    rcases x.wrt b blk l h1 h2 h3 with h4 | ⟨b0, blk0, l0, q1, q2, q3, q4⟩
    · omega
    · exact hn b0 blk0 l0 q1 q2 q3 (q4.trans e)
  wrt b blk l h1 h2 h3 := by
    rcases y.wrt b blk l h1 h2 h3 with h4 | ⟨b0, blk0, l0, q1, q2, q3, q4⟩
    · exact .inl (Nat.le_trans x.leA h4)
    · rcases x.wrt b0 blk0 l0 q1 q2 q3 with h4 | ⟨b1, blk1, l1, r1, r2, r3, r4⟩
      · exact .inl (by omega)
      · exact .inr ⟨b1, blk1, l1, r1, r2, r3, r4.trans q4⟩
theorem Rel.step {μ μ' : Ren} {φ φ' : Frz} {hp hp' : PHeap} {ha ha' : AHeap} (s : Rel μ φ hp ha) (b0 : Nat) (blk1 : PBlk) (hle : hp.length ≤ hp'.length) (hleA : ha.length ≤ ha'.length) (hm : RenLe μ μ') (hf : FrzLe φ φ')
    (hb0 : hp'[b0]? = some blk1) (hoth : ∀ b, b ≠ b0 → hp'[b]? = hp[b]?) (hver : ∀ b k, b ≠ b0 → μ' b k = μ b k) (hdom : ∀ k l, μ' b0 k = some (some l) → l.blk < ha'.length)
    (hA : ∀ b blk l, b ≠ b0 → hp[b]? = some blk → blk ≠ .dead → μ b (ver blk) = some (some l) → ha'[l.blk]? = ha[l.blk]?)
    (hφ : ∀ a blk, φ' a = some blk → ha'[a]? = some blk)
    (hφn : ∀ b blk l, b ≠ b0 → ownB blk → hp[b]? = some blk → μ b (ver blk) = some (some l) → φ' l.blk = none)
    (htop : ∀ k o, blk1 ≠ .dead → μ' b0 k = some o → k ≤ ver blk1)
    (h1 : blk1 ≠ .dead → (μ' b0 (ver blk1) = some none ∧ ∃ sz t md, blk1 = .log [] sz t md) ∨ ∃ l blk', μ' b0 (ver blk1) = some (some l) ∧ ha'[l.blk]? = some blk' ∧ BR μ' φ' l.K blk1 blk' ∧ (ownB blk1 → φ' l.blk = none) ∧
      ∀ b blk l2, b ≠ b0 → hp[b]? = some blk → blk ≠ .dead → μ b (ver blk) = some (some l2) → l2.blk ≠ l.blk) : Rel μ' φ' hp' ha' where
  dom b k o h := by
    by_cases hb : b = b0
    · subst hb
      exact ⟨(List.getElem?_eq_some_iff.1 hb0).1, fun l e => hdom k l (e ▸ h)⟩
    · rw [hver b k hb] at h
      obtain ⟨q1, q2⟩ := s.dom b k o h
      exact ⟨Nat.lt_of_lt_of_le q1 hle, fun l e => Nat.lt_of_lt_of_le (q2 l e) hleA⟩
  rel b blk h hd := by
    by_cases hb : b = b0
    · subst hb
      rw [hb0] at h
      cases h
      rcases h1 hd with h2 | ⟨l, blk', q1, q2, q3, _⟩
      · exact .inl h2
      · exact .inr ⟨l, blk', q1, q2, q3⟩
    · rw [hoth b hb] at h
      rcases s.rel b blk h hd with ⟨q1, q2⟩ | ⟨l, blk', q1, q2, q3⟩
      · exact .inl ⟨by rw [hver b _ hb]; exact q1, q2⟩
      · exact .inr ⟨l, blk', by rw [hver b _ hb]; exact q1, by rw [hA b blk l hb h hd q1]; exact q2, q3.mono hm hf⟩
  inj b b' blk blk' l l' h hd h' hd' e e' el := by
    by_cases hb : b = b0
    · by_cases hb' : b' = b0
      · rw [hb, hb']
      · subst hb
        rw [hb0] at h
        cases h
        rw [hoth b' hb'] at h'
        rw [hver b' _ hb'] at e'
        rcases h1 hd with ⟨q1, _⟩ | ⟨l1, _, q1, _, _, _, q5⟩
        · rw [q1] at e; cases e
        · rw [q1] at e
          cases e
          exact absurd el.symm (q5 b' blk' l' hb' h' hd' e')
    · by_cases hb' : b' = b0
      · subst hb'
        rw [hb0] at h'
        cases h'
        rw [hoth b hb] at h
        rw [hver b _ hb] at e
        rcases h1 hd' with ⟨q1, _⟩ | ⟨l1, _, q1, _, _, _, q5⟩
        · rw [q1] at e'; cases e'
        · rw [q1] at e'
          cases e'
          exact absurd el (q5 b blk l hb h hd e)
      · rw [hoth b hb] at h
        rw [hoth b' hb'] at h'
        rw [hver b _ hb] at e
        rw [hver b' _ hb'] at e'
        exact s.inj b b' blk blk' l l' h hd h' hd' e e' el
  sep b blk l h ho e := by
    by_cases hb : b = b0
    · subst hb
      rw [hb0] at h
      cases h
      rcases h1 (by rintro rfl; exact ho) with ⟨q1, _⟩ | ⟨l1, _, q1, _, _, q4, _⟩
      · rw [q1] at e; cases e
      · rw [q1] at e
        cases e
        exact q4 ho
    · rw [hoth b hb] at h
      rw [hver b _ hb] at e
      exact hφn b blk l hb ho h e
  frz := hφ
  top b blk k o h hd e := by
    by_cases hb : b = b0
    · subst hb
      rw [hb0] at h
      cases h
      exact htop k o hd e
    · rw [hoth b hb] at h
      rw [hver b _ hb] at e
      exact s.top b blk k o h hd e
theorem Ext.step {μ μ' : Ren} {φ φ' : Frz} {hp hp' : PHeap} {ha ha' : AHeap} (b0 : Nat) (blk1 : PBlk) (hle : hp.length ≤ hp'.length) (hleA : ha.length ≤ ha'.length) (hm : RenLe μ μ') (hf : FrzLe φ φ')
    (hb0 : hp'[b0]? = some blk1) (hoth : ∀ b, b ≠ b0 → hp'[b]? = hp[b]?) (hver : ∀ b k, b ≠ b0 → μ' b k = μ b k)
    (hfr : ∀ a, a < ha.length → (∀ blk l, hp[b0]? = some blk → wrB blk → μ b0 (ver blk) = some (some l) → l.blk ≠ a) → ha'[a]? = ha[a]?)
    (hw : ∀ l', wrB blk1 → μ' b0 (ver blk1) = some (some l') → ha.length ≤ l'.blk ∨ ∃ blk l, hp[b0]? = some blk ∧ wrB blk ∧ μ b0 (ver blk) = some (some l) ∧ l.blk = l'.blk) : Ext μ φ hp ha μ' φ' hp' ha' :=
  ⟨hle, hleA, hm, hf, fun a h1 h2 => hfr a h1 fun blk l q1 q2 q3 => h2 b0 blk l q1 q2 q3, fun b blk l h1 h2 h3 => by
    by_cases hb : b = b0
    · subst hb
      rw [hb0] at h1
      cases h1
      rcases hw l h2 h3 with h4 | ⟨blk, l0, q⟩
      · exact .inl h4
      · exact .inr ⟨b, blk, l0, q⟩
    · rw [hoth b hb] at h1
      rw [hver b _ hb] at h3
      exact .inr ⟨b, blk, l, h1, h2, h3, rfl⟩⟩
def put (μ : Ren) (b k : Nat) (o : Option Am.Loc) : Ren := fun b' k' => if b' = b ∧ k' = k then some o else μ b' k'
theorem put_self (μ : Ren) (b k : Nat) (o : Option Am.Loc) : put μ b k o b k = some o := if_pos ⟨rfl, rfl⟩
theorem put_ne {μ : Ren} {b k : Nat} {o : Option Am.Loc} {b' k' : Nat} (h : b' ≠ b) : put μ b k o b' k' = μ b' k' := if_neg fun q => h q.1
theorem put_le {μ : Ren} {b k : Nat} {o : Option Am.Loc} (h : ∀ o', μ b k = some o' → o' = o) : RenLe μ (put μ b k o) := fun b' k' l e => by
  unfold put
  split
  · rename_i q
    obtain ⟨rfl, rfl⟩ := q
    rw [h _ e]
  · exact e
theorem Rel.fresh {μ : Ren} {φ : Frz} {hp : PHeap} {ha : AHeap} (s : Rel μ φ hp ha) (k : Nat) : μ hp.length k = none := by
  cases h : μ hp.length k with
  | none => rfl
  | some o => exact absurd (s.dom _ _ _ h).1 (by omega)
theorem put_new {μ : Ren} {φ : Frz} {hp : PHeap} {ha : AHeap} (s : Rel μ φ hp ha) (k : Nat) (o : Option Am.Loc) : RenLe μ (put μ hp.length k o) := put_le fun o' e => by rw [s.fresh] at e; cases e
theorem app_oth {α : Type} {l : List α} {x : α} {b : Nat} (h : b ≠ l.length) : (l ++ [x])[b]? = l[b]? := by
  by_cases hb : b < l.length
  · rw [List.getElem?_append_left hb]
  · rw [List.getElem?_eq_none (by simp; omega), List.getElem?_eq_none (by omega)]
theorem some_lt {α : Type} {l : List α} {i : Nat} {x : α} (h : l[i]? = some x) : i < l.length := (List.getElem?_eq_some_iff.1 h).1
theorem Rel.push {μ : Ren} {φ : Frz} {hp : PHeap} {ha : AHeap} (s : Rel μ φ hp ha) (blk : PBlk) (blk' : ABlk) (K : Nat) (hb : BR (put μ hp.length (ver blk) (some ⟨ha.length, K⟩)) φ K blk blk') :
    Rel (put μ hp.length (ver blk) (some ⟨ha.length, K⟩)) φ (hp ++ [blk]) (ha ++ [blk']) ∧ Ext μ φ hp ha (put μ hp.length (ver blk) (some ⟨ha.length, K⟩)) φ (hp ++ [blk]) (ha ++ [blk']) := by
  have hm := put_new s (ver blk) (some ⟨ha.length, K⟩)
  have hφ0 : ∀ a blk, φ a = some blk → a < ha.length := fun a blk e => some_lt (s.frz a blk e)
  constructor
  · refine s.step hp.length blk (by simp) (by simp) hm (FrzLe.refl _) (by simp) (fun b hb => app_oth hb) (fun b k hb => put_ne hb) (fun k l e => ?_) (fun b blk l hb h1 h2 h3 => ?_) (fun a blk e => ?_) (fun b blk l hb h1 h2 h3 => s.sep b blk l h2 h1 h3) (fun k o _ e => ?_) (fun _ => .inr ⟨_, _, put_self _ _ _ _, by simp, hb, fun _ => ?_, fun b blk l hb h1 h2 h3 => ?_⟩)
    · unfold put at e
      split at e
      · cases e; simp
      · rw [s.fresh] at e; cases e
    · rw [List.getElem?_append_left ((s.dom _ _ _ h3).2 l rfl)]
    · rw [List.getElem?_append_left (hφ0 a blk e)]; exact s.frz a blk e
    · unfold put at e
      split at e
      · rename_i q; omega
      · rw [s.fresh] at e; cases e
    · cases h : φ ha.length with
      | none => rfl
      | some x => exact absurd (hφ0 _ _ h) (by omega)
    · have := (s.dom _ _ _ h3).2 l rfl
      simp only
      omega
  · refine Ext.step hp.length blk (by simp) (by simp) hm (FrzLe.refl _) (by simp) (fun b hb => app_oth hb) (fun b k hb => put_ne hb) (fun a h1 _ => List.getElem?_append_left h1) (fun l h1 h2 => .inl ?_)
    rw [put_self] at h2
    cases h2
    exact Nat.le_refl _
theorem Rel.ghost {μ : Ren} {φ : Frz} {hp : PHeap} {ha : AHeap} (s : Rel μ φ hp ha) (sz : Nat) (t : TypeId) (md : Md) :
    Rel (put μ hp.length 0 none) φ (hp ++ [.log [] sz t md]) ha ∧ Ext μ φ hp ha (put μ hp.length 0 none) φ (hp ++ [.log [] sz t md]) ha := by
  have hm := put_new s 0 none
  constructor
  · refine s.step hp.length (.log [] sz t md) (by simp) (Nat.le_refl _) hm (FrzLe.refl _) (by simp) (fun b hb => app_oth hb) (fun b k hb => put_ne hb) (fun k l e => ?_) (fun b blk l hb h1 h2 h3 => rfl) s.frz (fun b blk l hb h1 h2 h3 => s.sep b blk l h2 h1 h3) (fun k o _ e => ?_) (fun _ => .inl ⟨put_self _ _ _ _, _, _, _, rfl⟩)
    · unfold put at e
      split at e
      · cases e
      · rw [s.fresh] at e; cases e
    · unfold put at e
      split at e
      · rename_i q; omega
      · rw [s.fresh] at e; cases e
  · refine Ext.step hp.length (.log [] sz t md) (by simp) (Nat.le_refl _) hm (FrzLe.refl _) (by simp) (fun b hb => app_oth hb) (fun b k hb => put_ne hb) (fun a h1 _ => rfl) (fun l h1 h2 => ?_)
    have : put μ hp.length 0 none hp.length 0 = some (some l) := h2
    rw [put_self] at this
    cases this
theorem set_oth {α : Type} {l : List α} {x : α} {b b' : Nat} (h : b' ≠ b) : (l.set b x)[b']? = l[b']? := by rw [List.getElem?_set_ne (fun e => h e.symm)]
theorem set_at {α : Type} {l : List α} {x : α} {b : Nat} (h : b < l.length) : (l.set b x)[b]? = some x := by rw [List.getElem?_set_self h]
theorem Rel.write {μ : Ren} {φ : Frz} {hp : PHeap} {ha : AHeap} (s : Rel μ φ hp ha) {b : Nat} {blk blk1 : PBlk} {l : Am.Loc} {blk' : ABlk} (hb : hp[b]? = some blk) (hw : wrB blk) (e : μ b (ver blk) = some (some l))
    (hk : ∀ o, μ b (ver blk1) = some o → o = some l) (hvle : ver blk ≤ ver blk1) (hbr : BR (put μ b (ver blk1) (some l)) φ l.K blk1 blk') :
    Rel (put μ b (ver blk1) (some l)) φ (hp.set b blk1) (ha.set l.blk blk') ∧ Ext μ φ hp ha (put μ b (ver blk1) (some l)) φ (hp.set b blk1) (ha.set l.blk blk') := by
  have hm : RenLe μ (put μ b (ver blk1) (some l)) := put_le hk
  have hbl := some_lt hb
  have hll := (s.dom _ _ _ e).2 l rfl
  have hsep := s.sep b blk l hb hw.own e
  have hne : ∀ b' blk' l', b' ≠ b → hp[b']? = some blk' → blk' ≠ .dead → μ b' (ver blk') = some (some l') → l'.blk ≠ l.blk := fun b' blk' l' h1 h2 h3 h4 h5 => h1 (s.inj b' b blk' blk l' l h2 h3 hb hw.live h4 e h5)
  constructor
  · refine s.step b blk1 (by simp) (by simp) hm (FrzLe.refl _) (set_at hbl) (fun b' h => set_oth h) (fun b' k h => put_ne h) (fun k l' h => ?_) (fun b' blk' l' h1 h2 h3 h4 => set_oth (hne b' blk' l' h1 h2 h3 h4)) (fun a x h => ?_) (fun b' blk l' hb' h1 h2 h3 => s.sep b' blk l' h2 h1 h3) (fun k o _ h => ?_)
      (fun _ => .inr ⟨l, blk', put_self _ _ _ _, set_at hll, hbr, fun _ => hsep, hne⟩)
    · rw [List.length_set]
      unfold put at h
      split at h
      · cases h; exact hll
      · exact (s.dom _ _ _ h).2 l' rfl
    · rw [set_oth (by rintro rfl; rw [hsep] at h; cases h)]
      exact s.frz a x h
    · unfold put at h
      split at h
      · rename_i q; omega
      · exact Nat.le_trans (s.top _ _ _ _ hb hw.live h) hvle
  · refine Ext.step b blk1 (by simp) (by simp) hm (FrzLe.refl _) (set_at hbl) (fun b' h => set_oth h) (fun b' k h => put_ne h) (fun a h1 h2 => set_oth fun h => h2 blk l hb hw e h.symm) (fun l' h1 h2 => .inr ⟨blk, l, hb, hw, e, ?_⟩)
    rw [put_self] at h2
    cases h2
    rfl
theorem put_same {μ : Ren} {b k : Nat} {o : Option Am.Loc} (h : μ b k = some o) : put μ b k o = μ := by
  funext b' k'
  unfold put
  split
  · rename_i q
    rw [q.1, q.2, h]
  · rfl
theorem Rel.write0 {μ : Ren} {φ : Frz} {hp : PHeap} {ha : AHeap} (s : Rel μ φ hp ha) {b : Nat} {blk blk1 : PBlk} {l : Am.Loc} {blk' : ABlk} (hb : hp[b]? = some blk) (hw : wrB blk) (e : μ b (ver blk) = some (some l))
    (hv : ver blk1 = ver blk) (hbr : BR μ φ l.K blk1 blk') : Rel μ φ (hp.set b blk1) (ha.set l.blk blk') ∧ Ext μ φ hp ha μ φ (hp.set b blk1) (ha.set l.blk blk') := by
  have hp' : put μ b (ver blk1) (some l) = μ := put_same (by rw [hv]; exact e)
  have := s.write (blk1 := blk1) (blk' := blk') hb hw e (fun o h => by rw [hv, e] at h; cases h; rfl) (by omega) (by rw [hp']; exact hbr)
  rw [hp'] at this
  exact this
theorem Rel.grow {μ : Ren} {φ : Frz} {hp : PHeap} {ha ha0 : AHeap} (s : Rel μ φ hp ha) {b : Nat} {blk blk1 : PBlk} {K : Nat} {blk' : ABlk} (hb : hp[b]? = some blk) (hw : wrB blk) (hk : ver blk < ver blk1)
    (hlen : ha0.length = ha.length) (ho : ∀ a, (∀ l, μ b (ver blk) = some (some l) → l.blk ≠ a) → ha0[a]? = ha[a]?) (hbr : BR (put μ b (ver blk1) (some ⟨ha.length, K⟩)) φ K blk1 blk') :
    Rel (put μ b (ver blk1) (some ⟨ha.length, K⟩)) φ (hp.set b blk1) (ha0 ++ [blk']) ∧ Ext μ φ hp ha (put μ b (ver blk1) (some ⟨ha.length, K⟩)) φ (hp.set b blk1) (ha0 ++ [blk']) := by
  have hm : RenLe μ (put μ b (ver blk1) (some ⟨ha.length, K⟩)) := put_le fun o h => by have := s.top _ _ _ _ hb hw.live h; omega
  have hbl := some_lt hb
  have hφ0 : ∀ a blk, φ a = some blk → a < ha.length := fun a blk e => some_lt (s.frz a blk e)
  have hget : ∀ a, a < ha.length → (∀ l, μ b (ver blk) = some (some l) → l.blk ≠ a) → (ha0 ++ [blk'])[a]? = ha[a]? := fun a h1 h2 => by rw [List.getElem?_append_left (by omega)]; exact ho a h2
  constructor
  · refine s.step b blk1 (by simp) (by simp [hlen]) hm (FrzLe.refl _) (set_at hbl) (fun b' h => set_oth h) (fun b' k h => put_ne h) (fun k l' h => ?_) (fun b2 blk2 l2 h1 h2 h3 h4 => ?_) (fun a x h => ?_) (fun b' blk l' hb' h1 h2 h3 => s.sep b' blk l' h2 h1 h3) (fun k o _ h => ?_)
      (fun _ => .inr ⟨_, blk', put_self _ _ _ _, by simp only; rw [← hlen]; simp, hbr, fun _ => ?_, fun b2 blk2 l2 h1 h2 h3 h4 => ?_⟩)
    · unfold put at h
      split at h
      · cases h; simp [hlen]
      · have := (s.dom _ _ _ h).2 l' rfl; simp; omega
    · exact hget _ ((s.dom _ _ _ h4).2 l2 rfl) fun l e he => h1 (s.inj b2 b blk2 blk l2 l h2 h3 hb hw.live h4 e he.symm)
    · rw [hget a (hφ0 a x h) fun l e he => ?_]
      · exact s.frz a x h
      · have := s.sep b blk l hb hw.own e
        rw [he, h] at this
        cases this
    · unfold put at h
      split at h
      · rename_i q; omega
      · have := s.top _ _ _ _ hb hw.live h; omega
    · cases h : φ ha.length with
      | none => rfl
      | some x => exact absurd (hφ0 _ _ h) (by omega)
    · have := (s.dom _ _ _ h4).2 l2 rfl
      simp only
      omega
  · refine Ext.step b blk1 (by simp) (by simp [hlen]) hm (FrzLe.refl _) (set_at hbl) (fun b' h => set_oth h) (fun b' k h => put_ne h) (fun a h1 h2 => hget a h1 fun l e => h2 blk l hb hw e) (fun l' h1 h2 => .inl ?_)
    rw [put_self] at h2
    cases h2
    exact Nat.le_refl _
theorem Rel.freeze {μ : Ren} {φ : Frz} {hp : PHeap} {ha : AHeap} (s : Rel μ φ hp ha) {b : Nat} {blk blk1 : PBlk} {l : Am.Loc} {blk' : ABlk} (hb : hp[b]? = some blk) (hw : wrB blk) (e : μ b (ver blk) = some (some l)) (ha' : ha[l.blk]? = some blk')
    (hv : ver blk1 = ver blk) (ho : ¬ ownB blk1) (hd : blk1 ≠ .dead) (hbr : ∀ φ', FrzLe φ φ' → BR μ φ' l.K blk1 blk') : ∃ φ', φ' l.blk = some blk' ∧ Rel μ φ' (hp.set b blk1) ha ∧ Ext μ φ hp ha μ φ' (hp.set b blk1) ha := by
  have hbl := some_lt hb
  have hsep := s.sep b blk l hb hw.own e
  obtain ⟨φ', hφ'⟩ : ∃ φ' : Frz, φ' = fun a => if a = l.blk then some blk' else φ a := ⟨_, rfl⟩
  have hat : φ' l.blk = some blk' := by rw [hφ']; exact if_pos rfl
  have hoth : ∀ a, a ≠ l.blk → φ' a = φ a := fun a h => by rw [hφ']; exact if_neg h
  have hf : FrzLe φ φ' := fun a x h => by
    by_cases ha0 : a = l.blk
    · subst ha0; rw [hsep] at h; cases h
    · rw [hoth a ha0]; exact h
  refine ⟨φ', hat, ?_, ?_⟩
  · refine s.step b blk1 (by simp) (Nat.le_refl _) (RenLe.refl _) hf (set_at hbl) (fun b' h => set_oth h) (fun b' k h => rfl) (fun k l' h => (s.dom _ _ _ h).2 l' rfl) (fun _ _ _ _ _ _ _ => rfl) (fun a x h => ?_) (fun b2 blk2 l2 h1 h2 h3 h4 => ?_)
      (fun k o _ h => by rw [hv]; exact s.top _ _ _ _ hb hw.live h)
      (fun _ => .inr ⟨l, blk', by rw [hv]; exact e, ha', hbr φ' hf, fun h => absurd h ho, fun b2 blk2 l2 h1 h2 h3 h4 h5 => h1 (s.inj b2 b blk2 blk l2 l h2 h3 hb hw.live h4 e h5)⟩)
    · by_cases ha0 : a = l.blk
      · subst ha0; rw [hat] at h; cases h; exact ha'
      · rw [hoth a ha0] at h; exact s.frz a x h
    · rw [hoth _ fun h5 => h1 (s.inj b2 b blk2 blk l2 l h3 (by rintro rfl; exact h2) hb hw.live h4 e h5)]
      exact s.sep b2 blk2 l2 h3 h2 h4
  · exact Ext.step b blk1 (by simp) (Nat.le_refl _) (RenLe.refl _) hf (set_at hbl) (fun b' h => set_oth h) (fun b' k h => rfl) (fun _ _ _ => rfl) (fun l' h1 h2 => absurd h1.own ho)
end Go.Vm
/- Each pure operation of the value machine is one of the abstract machine. -/
namespace Go.Vm
open Go.Am
variable {μ : Ren} {φ : Frz}
theorem PR.ofV1 (v : Value) : PR μ φ (Vm.ofV1 v) v := by
  unfold Vm.ofV1
  split <;> constructor
theorem PRL.ofV1 (l : List Value) : PRL μ φ (l.map Vm.ofV1) l := by
  induction l with
  | nil => exact .nil
  | cons v l ih => exact .cons (PR.ofV1 v) ih
theorem PR.ofV (v : Value) : PR μ φ (Vm.ofV v) v := by
  unfold Vm.ofV
  split
  · rename_i cs
    have := PR.agg (PRL.ofV1 (μ := μ) (φ := φ) cs.toList)
    simpa using this
  · exact .iface _ (PR.ofV1 _)
  · exact PR.ofV1 _
theorem PR.undef : PR μ φ undefP undef := .tuple .nil
theorem PR.cells {v : PV} {y : Value} (h : PR μ φ v y) (hn : (cellsP v).length ≠ 0) : PRL μ φ (cellsP v) (cellsL y) := by
  cases h with
  | junk => exact absurd rfl hn
  | agg h => simpa [cellsP, cellsL] using h
  | _ => exact .cons (by constructor <;> assumption) .nil
theorem PR.oneC {v : PV} {y : Value} (h : PR μ φ v y) (ho : oneP v = true) : Am.oneC y = true := by
  cases h <;> first | rfl | (simp [oneP] at ho)
theorem PRL.oneC {vs : List PV} {ys : List Value} (h : PRL μ φ vs ys) (ho : vs.all oneP = true) : ys.all Am.oneC = true := by
  induction vs generalizing ys with
  | nil => cases h; rfl
  | cons v vs ih =>
    cases h with
    | cons h hs =>
      simp only [List.all_cons, Bool.and_eq_true] at ho ⊢
      exact ⟨h.oneC ho.1, ih hs ho.2⟩
theorem bin_int (op : BinOp) (k k' : IntKind) (a b : Int) : binP op (.int k a) (.int k' b) = (binf op (.int k a) (.int k' b)).map ofV1 := by
  unfold binP binf
  cases op <;> simp only [] <;> (repeat' split) <;> rfl
theorem bin_str (op : BinOp) (a b : ByteArray) : binP op (.str a) (.str b) = (binf op (.string a) (.string b)).map ofV1 := by
  unfold binP binf
  cases op <;> simp only [] <;> (repeat' split) <;> rfl
theorem binP_sim {op : BinOp} {x y v : PV} {x' y' : Value} (hx : PR μ φ x x') (hy : PR μ φ y y') (h : binP op x y = some v) : ∃ v', binf op x' y' = some v' ∧ PR μ φ v v' := by
  have h0 := h
  unfold binP at h0
  split at h0
  · clear h0
    cases hx
    cases hy
    rw [bin_int, Option.map_eq_some_iff] at h
    obtain ⟨v', h1, rfl⟩ := h
    exact ⟨v', h1, PR.ofV1 v'⟩
  · clear h0
    cases hx
    cases hy
    rw [bin_str, Option.map_eq_some_iff] at h
    obtain ⟨v', h1, rfl⟩ := h
    exact ⟨v', h1, PR.ofV1 v'⟩
  · cases h0
theorem eqBoolP_sim {neg : Bool} {x y v : PV} {x' y' : Value} (hx : PR μ φ x x') (hy : PR μ φ y y') (h : eqBoolP neg x y = some v) : ∃ v', eqBoolf neg x' y' = some v' ∧ PR μ φ v v' := by
  unfold eqBoolP at h
  split at h
  · cases hx; cases hy; cases h; exact ⟨_, rfl, .bool _⟩
  · cases h
theorem isNilP_sim {k : NilKind} {neg : Bool} {x v : PV} {x' : Value} (hx : PR μ φ x x') (h : isNilP k neg x = some v) : ∃ v', isNilKf k neg x' = some v' ∧ PR μ φ v v' := by
  unfold isNilP at h
  split at h <;> first | (cases h; cases hx <;> exact ⟨_, rfl, .bool _⟩) | cases h
theorem unkNil_sim {k : NilKind} {neg : Bool} {x : PV} {x' : Value} (hx : PR μ φ x x') (h : unkNil k x = true) : ∃ b, isNilKf k neg x' = some (.bool b) := by
  unfold unkNil at h
  split at h
  · cases hx <;> exact ⟨_, rfl⟩
  · cases hx with | emp a => cases a <;> exact ⟨_, rfl⟩
  · cases hx with
    | ref0 _ a => cases a <;> exact ⟨_, rfl⟩
    | ref => exact ⟨_, rfl⟩
  · cases h
theorem eqCellsP_sim : ∀ {ks : List BK} {xs ys : List PV} {xs' ys' : List Value} {r : Bool}, PRL μ φ xs xs' → PRL μ φ ys ys' → eqCellsP ks xs ys = some r → eqCells ks xs' ys' = some r := by
  intro ks
  induction ks with
  | nil =>
    intro xs ys xs' ys' r hx hy h
    cases hx with
    | nil => cases hy with
      | nil => exact h
      | cons h3 h4 => simp [eqCellsP] at h
    | cons h1 h2 => simp [eqCellsP] at h
  | cons k ks ih =>
    intro xs ys xs' ys' r hx hy h
    cases hx with
    | nil => cases k <;> simp [eqCellsP] at h
    | cons h1 h2 =>
      cases hy with
      | nil => cases k <;> (cases h1 <;> simp [eqCellsP] at h)
      | cons h3 h4 =>
        cases k with
        | int =>
          cases h1 <;> first | (simp [eqCellsP] at h; done) | skip
          cases h3 <;> first | (simp [eqCellsP] at h; done) | skip
          simp only [eqCellsP] at h
          split at h
          · rename_i hk
            rw [Option.map_eq_some_iff] at h
            obtain ⟨q, hq, rfl⟩ := h
            simp only [eqCells, if_pos hk, ih h2 h4 hq, Option.map_some]
          · cases h
        | bool =>
          cases h1 <;> first | (simp [eqCellsP] at h; done) | skip
          cases h3 <;> first | (simp [eqCellsP] at h; done) | skip
          simp only [eqCellsP, Option.map_eq_some_iff] at h
          obtain ⟨q, hq, rfl⟩ := h
          simp only [eqCells, ih h2 h4 hq, Option.map_some]
        | str =>
          cases h1 <;> first | (simp [eqCellsP] at h; done) | skip
          cases h3 <;> first | (simp [eqCellsP] at h; done) | skip
          simp only [eqCellsP, Option.map_eq_some_iff] at h
          obtain ⟨q, hq, rfl⟩ := h
          simp only [eqCells, ih h2 h4 hq, Option.map_some]
theorem eqAggP_sim {ks : List BK} {neg : Bool} {x y v : PV} {x' y' : Value} (hx : PR μ φ x x') (hy : PR μ φ y y') (h : eqAggP ks neg x y = some v) : ∃ v', eqAggf ks neg x' y' = some v' ∧ PR μ φ v v' := by
  unfold eqAggP at h
  split at h
  · rw [Option.map_eq_some_iff] at h
    obtain ⟨r, hr, rfl⟩ := h
    cases hx with | agg hx => cases hy with | agg hy =>
      refine ⟨_, ?_, .bool _⟩
      simp only [eqAggf, eqCellsP_sim hx hy hr, Option.map_some]
  · cases h
theorem unP_sim {op : UnOp} {x v : PV} {x' : Value} (hx : PR μ φ x x') (h : unP op x = some v) : ∃ v', unf op x' = some v' ∧ PR μ φ v v' := by
  unfold unP at h
  split at h <;> first | (cases h; cases hx; exact ⟨_, rfl, by constructor⟩) | cases h
theorem strIdP_sim {x v : PV} {x' : Value} (hx : PR μ φ x x') (h : strIdP x = some v) : ∃ v', strIdf x' = some v' ∧ PR μ φ v v' := by
  unfold strIdP at h
  split at h <;> first | (cases h; cases hx; exact ⟨_, rfl, by constructor⟩) | cases h
theorem convP_sim {k : IntKind} {x v : PV} {x' : Value} (hx : PR μ φ x x') (h : convP k x = some v) : ∃ v', convf k x' = some v' ∧ PR μ φ v v' := by
  unfold convP at h
  split at h <;> first | (cases h; cases hx; exact ⟨_, rfl, by constructor⟩) | cases h
theorem lenP_sim {str : Bool} {x v : PV} {x' : Value} (hx : PR μ φ x x') (h : lenP str x = some v) : ∃ v', lenf str x' = some v' ∧ PR μ φ v v' := by
  unfold lenP at h
  split at h
  · cases h; cases hx; exact ⟨_, rfl, .int _ _⟩
  · cases h; cases hx; exact ⟨_, rfl, .int _ _⟩
  · cases h; cases hx; exact ⟨_, rfl, .int _ _⟩
  · cases h
    cases hx with
    | frzNil => exact ⟨_, rfl, .int _ _⟩
    | frz0 => exact ⟨_, rfl, .int _ _⟩
    | frz hn => subst hn; exact ⟨_, rfl, .int _ _⟩
  · cases h
    cases hx with
    | ref0 => exact ⟨_, rfl, .int _ _⟩
    | ref => exact ⟨_, rfl, .int _ _⟩
  · cases h
theorem pickP_sim {c x y v : PV} {c' x' y' : Value} (hc : PR μ φ c c') (hx : PR μ φ x x') (hy : PR μ φ y y') (h : pickP c x y = some v) : ∃ v', pickf c' x' y' = some v' ∧ PR μ φ v v' := by
  unfold pickP at h
  split at h
  · rename_i b
    cases h
    cases hc
    refine ⟨_, rfl, ?_⟩
    cases b
    · exact hy
    · exact hx
  · cases h
theorem extractP_sim {x v : PV} {i : Nat} {x' : Value} (hx : PR μ φ x x') (h : extractP x i = some v) : ∃ v', extractf x' i = some v' ∧ PR μ φ v v' := by
  unfold extractP at h
  split at h
  · cases hx with | tuple hx =>
      obtain ⟨y, h1, h2⟩ := hx.get h
      exact ⟨y, by simpa [extractf] using h1, h2⟩
  · cases h
theorem partP_sim {agg : Bool} {off size : Nat} {cs : List PV} {v : PV} {cs' : List Value} (hx : PRL μ φ cs cs') (h : partP agg off size cs = some v) : ∃ v', partf agg off size cs' = some v' ∧ PR μ φ v v' := by
  unfold partP at h
  cases agg with
  | true =>
    simp only at h
    split at h
    · rename_i hle
      cases h
      rw [hx.length] at hle
      exact ⟨_, by unfold partf; simp only; rw [if_pos hle], .agg ((hx.drop _).take _)⟩
    · cases h
  | false =>
    obtain ⟨y, h1, h2⟩ := hx.get h
    exact ⟨y, h1, h2⟩
theorem fieldP_sim {agg : Bool} {off size : Nat} {x v : PV} {x' : Value} (hx : PR μ φ x x') (h : fieldP agg off size x = some v) : ∃ v', fieldf agg off size x' = some v' ∧ PR μ φ v v' := by
  unfold fieldP at h
  split at h
  · cases hx with | agg hx => exact partP_sim hx h
  · cases h
theorem indexArrP_sim {n : Nat} {agg : Bool} {size : Nat} {x i v : PV} {x' i' : Value} (hx : PR μ φ x x') (hi : PR μ φ i i') (h : indexArrP n agg size x i = some v) : ∃ v', indexArrf n agg size x' i' = some v' ∧ PR μ φ v v' := by
  unfold indexArrP at h
  split at h
  · cases hx with | agg hx =>
      cases hi
      split at h
      · rename_i hj
        simp only [indexArrf]
        rw [if_pos hj]
        exact partP_sim hx h
      · cases h
  · cases h
theorem indexStrP_sim {x i v : PV} {x' i' : Value} (hx : PR μ φ x x') (hi : PR μ φ i i') (h : indexStrP x i = some v) : ∃ v', indexStrf x' i' = some v' ∧ PR μ φ v v' := by
  unfold indexStrP at h
  split at h
  · cases hx; cases hi
    split at h
    · rename_i hj
      rw [Option.map_eq_some_iff] at h
      obtain ⟨b, h1, rfl⟩ := h
      refine ⟨_, ?_, .int _ _⟩
      simp only [indexStrf]
      rw [if_pos hj, h1]
      rfl
    · cases h
  · cases h
theorem fieldAddrP_sim {off : Nat} {x v : PV} {x' : Value} (hx : PR μ φ x x') (h : fieldAddrP off x = some v) : ∃ v', fieldAddrf off x' = some v' ∧ PR μ φ v v' := by
  unfold fieldAddrP at h
  split at h
  · cases h; cases hx with | ptr h1 => exact ⟨_, rfl, .ptr h1⟩
  · cases h; cases hx with | fptr h1 h2 h3 h4 => exact ⟨_, rfl, by rw [Nat.add_assoc]; exact .fptr h1 h2 h3 h4⟩
  · cases h; cases hx with | lptr h1 => exact ⟨_, rfl, by rw [Nat.add_assoc]; exact .lptr h1⟩
  · cases h
theorem flat_len {α : Type} {rows : List (List α)} {size : Nat} (hs : ∀ r ∈ rows, r.length = size) : rows.flatten.length = rows.length * size := by
  induction rows with
  | nil => simp
  | cons r rows ih => simp [hs r (by simp), ih fun q hq => hs q (by simp [hq]), Nat.add_mul, Nat.add_comm]
theorem flat_row {α : Type} {rows : List (List α)} {size : Nat} (hs : ∀ r ∈ rows, r.length = size) {i : Nat} {r : List α} (hi : rows[i]? = some r) : (rows.flatten.drop (i * size)).take size = r := by
  induction rows generalizing i with
  | nil => cases hi
  | cons q rows ih =>
    cases i with
    | zero =>
      have e : q = r := by simpa using hi
      subst e
      have := hs q (by simp)
      rw [Nat.zero_mul, List.drop_zero, List.flatten_cons, ← this, List.take_left]
    | succ i =>
      have hq := hs q (by simp)
      rw [List.flatten_cons, show (i + 1) * size = q.length + i * size by rw [Nat.add_mul]; omega, List.drop_length_add_append]
      exact ih (fun q hq => hs q (by simp [hq])) hi
theorem flat_take {α : Type} {rows : List (List α)} {size : Nat} (hs : ∀ r ∈ rows, r.length = size) (k : Nat) : (rows.take k).flatten = rows.flatten.take (k * size) := by
  induction rows generalizing k with
  | nil => simp
  | cons r rows ih =>
    cases k with
    | zero => simp
    | succ k =>
      have hr := hs r (by simp)
      rw [List.take_succ_cons, List.flatten_cons, List.flatten_cons, ih (fun q hq => hs q (by simp [hq])), List.take_append, show (k + 1) * size - r.length = k * size by rw [Nat.add_mul]; omega, List.take_of_length_le (l := r) (by rw [Nat.add_mul]; omega)]
theorem flat_drop {α : Type} {rows : List (List α)} {size : Nat} (hs : ∀ r ∈ rows, r.length = size) (k : Nat) : (rows.drop k).flatten = rows.flatten.drop (k * size) := by
  induction rows generalizing k with
  | nil => simp
  | cons r rows ih =>
    cases k with
    | zero => simp
    | succ k =>
      have hr := hs r (by simp)
      rw [List.drop_succ_cons, List.flatten_cons, ih (fun q hq => hs q (by simp [hq])), List.drop_append, show (k + 1) * size - r.length = k * size by rw [Nat.add_mul]; omega, List.drop_of_length_le (l := r) (by rw [Nat.add_mul]; omega), List.nil_append]
theorem row_le {n size i : Nat} (hi : i < n) : i * size + size ≤ n * size := by
  have := Nat.mul_le_mul_right size (show i + 1 ≤ n by omega)
  rw [Nat.add_mul] at this; omega
theorem PRL.row {rows : List (List PV)} {sz : Nat} {vs : List Value} {o : Nat} (hsz : ∀ r ∈ rows, r.length = sz) (hr : PRL μ φ rows.flatten ((vs.drop o).take (rows.length * sz))) {i : Nat} {row : List PV} (hi : rows[i]? = some row) :
    PRL μ φ row ((vs.drop (o + i * sz)).take sz) := by
  have := (hr.drop (i * sz)).take sz
  rw [flat_row hsz hi, List.drop_take, List.take_take, List.drop_drop, Nat.min_eq_left (by have := row_le (size := sz) (some_lt hi); omega)] at this
  exact this
theorem indexAddrP_sim {size : Nat} {x i v : PV} {x' i' : Value} (hx : PR μ φ x x') (hi : PR μ φ i i') (h : indexAddrP size x i = some v) : ∃ v', indexAddrf size x' i' = some v' ∧ PR μ φ v v' := by
  unfold indexAddrP at h
  split at h
  · rename_i sz0 rows k j
    cases hi
    split at h
    · rename_i hj
      obtain ⟨hj, rfl⟩ := hj
      rw [Option.map_eq_some_iff] at h
      obtain ⟨row, h1, rfl⟩ := h
      have hlt := some_lt h1
      cases hx with
      | frzNil => cases h1
      | frz0 => cases h1
      | @frz _ sz a o n c vs t rw_ hn hc hsz hφ hl hp hr =>
        subst hn
        have e1 := hsz row (List.mem_of_getElem? h1)
        have hle := row_le (size := sz0) hlt
        refine ⟨ptrTo a (o + j.toNat * sz0), ?_, ?_⟩
        · simp only [indexAddrf]
          rw [if_pos (by omega)]
        · have hrow := PRL.row hsz hr h1
          have := PR.fptr (off := 0) hφ (o := o + j.toNat * sz0) (row := row) (μ := μ) (by omega) (List.all_eq_true.2 fun z hz => List.all_eq_true.1 hp z (List.mem_flatten.2 ⟨row, List.mem_of_getElem? h1, hz⟩)) (by rw [e1]; exact hrow)
          exact this
    · cases h
  · rename_i b lo n ver sz k j
    cases hi
    split at h
    · rename_i hj
      obtain ⟨h1, h2, h3⟩ := hj
      cases h
      subst h3
      cases hx with
      | ref0 => omega
      | @ref _ _ _ _ _ c l hm hn hc =>
        refine ⟨ptrTo l.blk (lo * sz + j.toNat * sz), ?_, ?_⟩
        · simp only [indexAddrf]
          rw [if_pos ⟨h1, h2⟩]
        · rw [← Nat.add_mul]
          exact .lptr (off := 0) hm
    · cases h
  · cases h
theorem addr_as_field (n size : Nat) (x : Value) (k : IntKind) (j : Int) (hj : 0 ≤ j ∧ j < n) : indexAddrArrf n size x (.int k j) = fieldAddrf (j.toNat * size) x := by
  unfold indexAddrArrf fieldAddrf
  cases x with
  | pointer a =>
    cases a with
    | none => rfl
    | some a => simp only; rw [if_pos hj]
  | _ => rfl
theorem indexAddrArrP_sim {n size : Nat} {x i v : PV} {x' i' : Value} (hx : PR μ φ x x') (hi : PR μ φ i i') (h : indexAddrArrP n size x i = some v) : ∃ v', indexAddrArrf n size x' i' = some v' ∧ PR μ φ v v' := by
  unfold indexAddrArrP at h
  split at h
  · cases hi
    split at h
    · rename_i hj
      rw [addr_as_field _ _ _ _ _ hj]
      exact fieldAddrP_sim hx h
    · cases h
  · cases h
theorem nilCheckP_sim {x v : PV} {x' : Value} (hx : PR μ φ x x') (h : nilCheckP x = some v) : ∃ v', nilCheckf x' = some v' ∧ PR μ φ v v' := by
  unfold nilCheckP at h
  split at h
  · cases h; cases hx with | ptr h1 => exact ⟨_, rfl, .ptr h1⟩
  · cases h; cases hx with | fptr h1 h2 h3 h4 => exact ⟨_, rfl, .fptr h1 h2 h3 h4⟩
  · cases h; cases hx with | lptr h1 => exact ⟨_, rfl, .lptr h1⟩
  · cases h; cases hx with | func _ h1 h2 => exact ⟨_, rfl, .func _ h1 h2⟩
  · cases h
inductive OR (μ : Ren) (φ : Frz) : Option PV → Option Value → Prop
  | none : OR μ φ none none
  | some {x : PV} {y : Value} (h : PR μ φ x y) : OR μ φ (some x) (some y)
theorem boundP_sim {d : Nat} {x : Option PV} {x' : Option Value} {most n : Nat} (hx : OR μ φ x x') (h : boundP d x most = some n) : boundf d x' most = some n := by
  unfold boundP at h
  split at h
  · cases hx; exact h
  · cases hx with | some hx => cases hx; exact h
  · cases h
theorem bound_le {d : Nat} {x : Option Value} {most n : Nat} (h : boundf d x most = some n) (hd : d ≤ most) : n ≤ most := by
  unfold boundf at h
  split at h
  · cases h; exact hd
  · split at h
    · cases h; omega
    · cases h
  · cases h
theorem bound_more {d d' : Nat} {x : Option Value} {m m' n : Nat} (h : boundf d x m = some n) (hm : m ≤ m') (hd : x = none → d' = d) : boundf d' x m' = some n := by
  unfold boundf at h ⊢
  split at h
  · cases h; rw [hd rfl]
  · split at h
    · cases h; rw [if_pos (by omega)]
    · cases h
  · cases h
theorem frz_part {rows : List (List PV)} {sz a o : Nat} {vs : List Value} {t : TypeId} {rw_ : Bool} (hsz : ∀ r ∈ rows, r.length = sz) (hφ : φ a = some (.cells vs t rw_)) (hl : o + rows.length * sz ≤ vs.length) (hp : rows.flatten.all pure1 = true)
    (hr : PRL μ φ rows.flatten ((vs.drop o).take (rows.length * sz))) {l h : Nat} (hlh : l ≤ h) (hh : h ≤ rows.length) (hcu : rows.length < capU) {c : Nat} (hc : h - l ≤ c) : PR μ φ (.frz sz ((rows.take h).drop l)) (.slice (some ⟨a, o + l * sz, none⟩) (h - l) c) := by
  have hlen : ((rows.take h).drop l).length = h - l := by simp; omega
  have hle : l * sz + (h - l) * sz ≤ rows.length * sz := by rw [← Nat.add_mul]; exact Nat.mul_le_mul_right _ (by omega)
  refine .frz (sz := sz) hlen.symm ⟨hc, by omega⟩ (fun r hr => hsz r (List.mem_of_mem_take (List.mem_of_mem_drop hr))) hφ (by omega) (List.all_eq_true.2 fun z hz => ?_) ?_
  · obtain ⟨r, h1, h2⟩ := List.mem_flatten.1 hz
    exact List.all_eq_true.1 hp z (List.mem_flatten.2 ⟨r, List.mem_of_mem_take (List.mem_of_mem_drop h1), h2⟩)
  · have h1 := (hr.drop (l * sz)).take ((h - l) * sz)
    rw [flat_drop (size := sz) (fun r hr => hsz r (List.mem_of_mem_take hr)), flat_take hsz, List.drop_take]
    rw [List.drop_take, List.take_take, List.drop_drop, Nat.min_eq_left (by omega)] at h1
    rw [show h * sz - l * sz = (h - l) * sz by rw [Nat.sub_mul]]
    exact h1
theorem none_or (x : Option Value) : x = none ∨ ∃ y, x = some y := by cases x <;> simp
theorem slicef_cap {size n h l : Nat} {a : Option Addr} {lo hi : Option Value} (e2 : boundf n hi n = some h) (e3 : boundf 0 lo h = some l) :
    slicef size (.slice a n capU) lo hi none = some (.slice (a.map fun a => ⟨a.block, a.off + l * size, none⟩) (h - l) capU) := by
  have e1 : boundf n (none : Option Value) n = some n := rfl
  simp only [slicef, if_true, e1, Option.bind_some, e2, e3]
theorem slicef_capm {size n m h l : Nat} {a : Option Addr} {lo hi : Option Value} {mx : Value} (e1 : boundf n (some mx) n = some m) (e2 : boundf n hi m = some h) (e3 : boundf 0 lo h = some l) (hn : n < capU) :
    slicef size (.slice a n capU) lo hi (some mx) = some (.slice (if m = l then a else a.map fun a => ⟨a.block, a.off + l * size, none⟩) (h - l) (m - l)) := by
  have l1 := bound_le e1 (Nat.le_refl _)
  simp only [slicef, if_true, e1, Option.bind_some, e2, e3]
  rw [if_pos (by omega)]
theorem slicef_known {size n c m h l : Nat} {a : Option Addr} {lo hi mx : Option Value} (hc : c ≠ capU) (e1 : boundf c mx c = some m) (e2 : boundf n hi m = some h) (e3 : boundf 0 lo h = some l) :
    slicef size (.slice a n c) lo hi mx = some (.slice (if m = l then a else a.map fun a => ⟨a.block, a.off + l * size, none⟩) (h - l) (m - l)) := by
  simp only [slicef, if_neg hc, e1, Option.bind_some, e2, e3]
theorem frz_any (sz : Nat) (a : Option Addr) (c : Nat) (h : a = none → c = 0) : PR μ φ (.frz sz []) (.slice a 0 c) := by
  cases a with
  | none => rw [h rfl]; exact .frzNil sz
  | some a => exact .frz0 sz a c
theorem take_drop_nil {α : Type} {l : List α} {h b : Nat} (e : h = b) : (l.take h).drop b = [] := by subst e; rw [List.drop_eq_nil_of_le]; simp; omega
theorem sliceP_sim {size : Nat} {x v : PV} {lo hi mx : Option PV} {x' : Value} {lo' hi' mx' : Option Value} (hx : PR μ φ x x') (hlo : OR μ φ lo lo') (hhi : OR μ φ hi hi') (hmx : OR μ φ mx mx')
    (h : sliceP size x lo hi mx = some v) : ∃ v', slicef size x' lo' hi' mx' = some v' ∧ PR μ φ v v' := by
  have hcap : (0 : Nat) ≠ capU := by decide
  unfold sliceP at h
  split at h
  · simp only [Option.bind_eq_some_iff] at h
    obtain ⟨m, h1, a, h2, b, h3, h4⟩ := h
    cases h4
    cases hx
    have e1 := boundP_sim hmx h1
    have e2 := boundP_sim hhi h2
    have e3 := boundP_sim hlo h3
    obtain rfl : m = 0 := by have := bound_le e1 (Nat.le_refl _); omega
    obtain rfl : a = 0 := by have := bound_le e2 (Nat.le_refl _); omega
    obtain rfl : b = 0 := by have := bound_le e3 (Nat.le_refl _); omega
    exact ⟨_, slicef_known hcap e1 e2 e3, .nilS⟩
  · simp only [Option.bind_eq_some_iff] at h
    obtain ⟨m, h1, a, h2, b, h3, h4⟩ := h
    cases h4
    cases hx with
    | emp ad =>
      have e1 := boundP_sim hmx h1
      have e2 := boundP_sim hhi h2
      have e3 := boundP_sim hlo h3
      obtain rfl : m = 0 := by have := bound_le e1 (Nat.le_refl _); omega
      obtain rfl : a = 0 := by have := bound_le e2 (Nat.le_refl _); omega
      obtain rfl : b = 0 := by have := bound_le e3 (Nat.le_refl _); omega
      exact ⟨_, slicef_known hcap e1 e2 e3, .emp _⟩
  · rename_i sz rows
    split at h
    · rename_i hsize
      subst hsize
      split at h
      · simp only [Option.bind_eq_some_iff] at h
        obtain ⟨a, h2, b, h3, h4⟩ := h
        cases h4
        cases hmx
        have e2 := boundP_sim hhi h2
        have e3 := boundP_sim hlo h3
        have l2 := bound_le e2 (Nat.le_refl _)
        have l3 := bound_le e3 (Nat.zero_le _)
        cases hx with
        | frzNil =>
          obtain rfl : a = 0 := by simpa using l2
          obtain rfl : b = 0 := by omega
          exact ⟨_, slicef_known hcap (m := 0) rfl e2 e3, .frzNil _⟩
        | frz0 _ ad c =>
          obtain rfl : a = 0 := by simpa using l2
          obtain rfl : b = 0 := by omega
          by_cases hc : c = capU
          · subst hc
            exact ⟨_, slicef_cap e2 e3, .frz0 _ _ _⟩
          · refine ⟨_, slicef_known hc (m := c) rfl (bound_more e2 (Nat.zero_le _) fun _ => rfl) e3, ?_⟩
            split <;> exact .frz0 _ _ _
        | @frz _ _ ad o n c vs t rw_ hn hc hsz hφ hl hp hr =>
          subst hn
          by_cases hcu : c = capU
          · subst hcu
            exact ⟨_, slicef_cap e2 e3, frz_part hsz hφ hl hp hr l3 l2 hc.2 (by omega)⟩
          · refine ⟨_, slicef_known hcu (m := c) rfl (bound_more e2 hc.1 fun _ => rfl) e3, ?_⟩
            split
            · rename_i hcb
              have e : a = b := by omega
              rw [take_drop_nil e, show a - b = 0 by omega]
              exact .frz0 _ _ _
            · exact frz_part hsz hφ hl hp hr l3 l2 hc.2 (by omega)
      · rename_i mv
        split at h
        case h_2 => cases h
        rename_i hv
        simp only [Option.bind_eq_some_iff] at h
        obtain ⟨m, h1, a, h2, b, h3, h4⟩ := h
        cases h4
        cases hmx with | @some _ mv' hmv =>
        cases hhi with | @some _ hv' hhv =>
        have e1 := boundP_sim (OR.some hmv) h1
        have e2 := boundP_sim (OR.some hhv) h2
        have e3 := boundP_sim hlo h3
        have l1 := bound_le e1 (Nat.zero_le _)
        have l3 := bound_le e3 (Nat.zero_le _)
        cases hx with
        | frzNil =>
          obtain rfl : m = 0 := by simpa using l1
          have l2 := bound_le e2 (Nat.le_refl _)
          obtain rfl : a = 0 := by simpa using l2
          obtain rfl : b = 0 := by omega
          exact ⟨_, slicef_known hcap (bound_more e1 (Nat.le_refl _) fun h => by cases h) e2 e3, .emp _⟩
        | frz0 _ ad c =>
          obtain rfl : m = 0 := by simpa using l1
          have l2 := bound_le e2 (Nat.le_refl _)
          obtain rfl : a = 0 := by simpa using l2
          obtain rfl : b = 0 := by omega
          by_cases hc : c = capU
          · subst hc
            exact ⟨_, slicef_capm (bound_more e1 (Nat.le_refl _) fun h => by cases h) e2 e3 (by decide), .emp _⟩
          · exact ⟨_, slicef_known hc (bound_more e1 (Nat.zero_le _) fun h => by cases h) e2 e3, .emp _⟩
        | @frz _ _ ad o n c vs t rw_ hn hc hsz hφ hl hp hr =>
          subst hn
          have fine : ∀ (q : Value), slicef sz (.slice (some ⟨ad, o, none⟩) rows.length c) lo' (some hv') (some mv') = some (.slice (if m = b then some ⟨ad, o, none⟩ else (some (⟨ad, o, none⟩ : Addr)).map fun a => ⟨a.block, a.off + b * sz, none⟩) (a - b) (m - b)) →
              a ≤ m → ∃ v', slicef sz (.slice (some ⟨ad, o, none⟩) rows.length c) lo' (some hv') (some mv') = some v' ∧ PR μ φ (if m = b then .emp else .frz sz ((rows.take a).drop b)) v' := by
            intro _ hs ham
            refine ⟨_, hs, ?_⟩
            split
            · rename_i hmb
              rw [show a - b = 0 by omega, show m - b = 0 by omega]
              exact .emp _
            · exact frz_part hsz hφ hl hp hr l3 (by omega) hc.2 (by omega)
          have ham : a ≤ m := bound_le e2 (Nat.zero_le _)
          by_cases hcu : c = capU
          · subst hcu
            exact fine (.int .i64 0) (slicef_capm (bound_more e1 (Nat.le_refl _) fun h => by cases h) (bound_more e2 (Nat.le_refl _) fun h => by cases h) e3 hc.2) ham
          · exact fine (.int .i64 0) (slicef_known hcu (bound_more e1 hc.1 fun h => by cases h) (bound_more e2 (Nat.le_refl _) fun h => by cases h) e3) ham
    · cases h
  · rename_i b0 lo0 n vr sz
    split at h
    · rename_i hsize
      subst hsize
      split at h
      · simp only [Option.bind_eq_some_iff] at h
        obtain ⟨a, h2, b, h3, h4⟩ := h
        cases h4
        cases hmx
        have e2 := boundP_sim hhi h2
        have e3 := boundP_sim hlo h3
        have l2 := bound_le e2 (Nat.le_refl _)
        have l3 := bound_le e3 (Nat.zero_le _)
        cases hx with
        | ref0 _ ad hm =>
          obtain rfl : a = 0 := by omega
          obtain rfl : b = 0 := by omega
          rw [if_pos rfl]
          exact ⟨_, slicef_known hcap (m := 0) rfl e2 e3, frz_any _ _ _ fun _ => rfl⟩
        | @ref _ _ _ _ _ c l hm hn hc =>
          rcases hc with ⟨rfl, hc⟩ | ⟨hc1, hc2, hc3⟩
          · refine ⟨_, slicef_cap e2 e3, ?_⟩
            split
            · rename_i hab
              rw [show a - b = 0 by omega]
              exact .frz0 _ _ _
            · show PR μ φ _ (.slice (some ⟨l.blk, lo0 * sz + b * sz, none⟩) _ _)
              rw [← Nat.add_mul]
              exact .ref hm (by omega) (.inl ⟨rfl, by omega⟩)
          · refine ⟨_, slicef_known (by omega) (m := c) rfl (bound_more e2 hc2 fun _ => rfl) e3, ?_⟩
            split
            · rename_i hab
              rw [show a - b = 0 by omega]
              exact frz_any _ _ _ fun h => by split at h <;> cases h
            · rw [if_neg (by omega)]
              show PR μ φ _ (.slice (some ⟨l.blk, lo0 * sz + b * sz, none⟩) _ _)
              rw [← Nat.add_mul]
              exact .ref hm (by omega) (.inr ⟨by omega, by omega, by omega⟩)
      · cases h
    · cases h
  · cases h
theorem sliceStrP_sim {x v : PV} {lo hi : Option PV} {x' : Value} {lo' hi' : Option Value} (hx : PR μ φ x x') (hlo : OR μ φ lo lo') (hhi : OR μ φ hi hi') (h : sliceStrP x lo hi = some v) : ∃ v', sliceStrf x' lo' hi' = some v' ∧ PR μ φ v v' := by
  unfold sliceStrP at h
  split at h
  · cases hx
    rw [Option.bind_eq_some_iff] at h
    obtain ⟨a, h1, h⟩ := h
    rw [Option.bind_eq_some_iff] at h
    obtain ⟨b, h2, h⟩ := h
    cases h
    refine ⟨_, ?_, .str _⟩
    simp only [sliceStrf, boundP_sim hhi h1, boundP_sim hlo h2, Option.bind_some]
  · cases h
theorem max2P_sim {x y v : PV} {x' y' : Value} (hx : PR μ φ x x') (hy : PR μ φ y y') (h : max2P x y = some v) : ∃ v', max2f x' y' = some v' ∧ PR μ φ v v' := by
  unfold max2P at h
  split at h
  · cases hx; cases hy
    split at h
    · rename_i hk; cases h; exact ⟨_, by simp only [max2f]; rw [if_pos hk], .int _ _⟩
    · cases h
  · cases h
theorem min2P_sim {x y v : PV} {x' y' : Value} (hx : PR μ φ x x') (hy : PR μ φ y y') (h : min2P x y = some v) : ∃ v', min2f x' y' = some v' ∧ PR μ φ v v' := by
  unfold min2P at h
  split at h
  · cases hx; cases hy
    split at h
    · rename_i hk; cases h; exact ⟨_, by simp only [min2f]; rw [if_pos hk], .int _ _⟩
    · cases h
  · cases h
theorem foldP_sim {f : PV → PV → Option PV} {g : Value → Value → Option Value} (hfg : ∀ x y v x' y', PR μ φ x x' → PR μ φ y y' → f x y = some v → ∃ v', g x' y' = some v' ∧ PR μ φ v v') :
    ∀ {l : List PV} {l' : List Value} {x v : PV} {x' : Value}, PRL μ φ l l' → PR μ φ x x' → foldP f x l = some v → ∃ v', foldf g x' l' = some v' ∧ PR μ φ v v' := by
  intro l
  induction l with
  | nil => intro l' x v x' hl hx h; cases hl; cases h; exact ⟨_, rfl, hx⟩
  | cons y r ih =>
    intro l' x v x' hl hx h
    cases hl with | cons h1 h2 =>
      simp only [foldP, Option.bind_eq_some_iff] at h
      obtain ⟨z, hz, h⟩ := h
      obtain ⟨z', k1, k2⟩ := hfg _ _ _ _ _ hx h1 hz
      obtain ⟨v', k3, k4⟩ := ih h2 k2 h
      exact ⟨v', by simp only [foldf, k1, Option.bind_some, k3], k4⟩
theorem fold1P_sim {f : PV → PV → Option PV} {g : Value → Value → Option Value} (hfg : ∀ x y v x' y', PR μ φ x x' → PR μ φ y y' → f x y = some v → ∃ v', g x' y' = some v' ∧ PR μ φ v v')
    {l : List PV} {l' : List Value} {v : PV} (hl : PRL μ φ l l') (h : fold1P f l = some v) : ∃ v', fold1f g l' = some v' ∧ PR μ φ v v' := by
  cases hl with
  | nil => cases h
  | cons h1 h2 => exact foldP_sim hfg h2 h1 h
inductive PPR (μ : Ren) (φ : Frz) : List (Nat × Nat × PV) → List (Nat × Nat × Value) → Prop
  | nil : PPR μ φ [] []
  | cons {i n : Nat} {x : PV} {y : Value} {xs : List (Nat × Nat × PV)} {ys : List (Nat × Nat × Value)} (h : PR μ φ x y) (hs : PPR μ φ xs ys) : PPR μ φ ((i, n, x) :: xs) ((i, n, y) :: ys)
theorem fillP_sim : ∀ {ps : List (Nat × Nat × PV)} {ps' : List (Nat × Nat × Value)} {cs : List PV} {cs' : List Value} {r : List PV}, PRL μ φ cs cs' → PPR μ φ ps ps' → fillP cs ps = some r → ∃ r', fillf cs' ps' = some r' ∧ PRL μ φ r r' := by
  intro ps
  induction ps with
  | nil => intro ps' cs cs' r hc hp h; cases hp; cases h; exact ⟨_, rfl, hc⟩
  | cons p ps ih =>
    intro ps' cs cs' r hc hp h
    cases hp with
    | @cons i n x y _ ys h1 h2 =>
      simp only [fillP] at h
      split at h
      · rename_i hk
        obtain ⟨k1, k2, k3⟩ := hk
        have hcl := h1.cells (by omega)
        obtain ⟨r', k4, k5⟩ := ih ((((hc.take i).append hcl)).append (hc.drop (i + n))) h2 h
        refine ⟨r', ?_, k5⟩
        simp only [fillf]
        rw [if_pos ⟨by rw [← hcl.length]; exact k1, by rw [← hc.length]; exact k3⟩]
        exact k4
      · cases h
end Go.Vm


set_option linter.unusedSimpArgs false
set_option linter.unusedVariables false
/- Each memory operation of the value machine is one of the abstract machine. -/
namespace Go.Vm
open Go.Am
variable {μ : Ren} {φ : Frz} {hp : PHeap} {ha : AHeap}
def Win (μ : Ren) (φ : Frz) (ha : AHeap) (a o : Nat) (row : List PV) : Prop := ∃ vs t rw, ha[a]? = some (.cells vs t rw) ∧ o + row.length ≤ vs.length ∧ PRL μ φ row ((vs.drop o).take row.length)
theorem Win.load {a o : Nat} {row : List PV} (w : Win μ φ ha a o row) {agg : Bool} {off n : Nat} {v : PV} (h : partP agg off n row = some v) : ∃ v', loadf agg n (.pointer (some ⟨a, o + off, none⟩)) ha = some v' ∧ PR μ φ v v' := by
  obtain ⟨vs, t, rw_, h1, h2, h3⟩ := w
  unfold partP at h
  cases agg with
  | true =>
    simp only at h
    split at h
    · rename_i hle
      cases h
      have h4 := (h3.drop off).take n
      rw [List.drop_take, List.take_take, List.drop_drop, Nat.min_eq_left (by omega)] at h4
      refine ⟨.agg ((vs.drop (o + off)).take n).toArray, ?_, .agg h4⟩
      simp only [loadf, readN, h1]
      rw [if_pos (by omega)]
      rfl
    · cases h
  | false =>
    simp only at h
    obtain ⟨y, k1, k2⟩ := h3.get h
    refine ⟨y, ?_, k2⟩
    rw [List.getElem?_take, if_pos (some_lt h), List.getElem?_drop] at k1
    simp only [loadf, readC, h1]
    exact k1
theorem win_box {b : Nat} {vs : List PV} {t : TypeId} {md : Md} {l : Am.Loc} (s : Rel μ φ hp ha) (hb : hp[b]? = some (.box vs t md)) (e : μ b 0 = some (some l)) : Win μ φ ha l.blk 0 vs := by
  rcases s.rel b _ hb (by simp) with ⟨_, _, _, _, h⟩ | ⟨l', blk', h1, h2, h3⟩
  · cases h
  · have : μ b 0 = some (some l') := h1
    rw [e] at this
    cases this
    obtain ⟨vs', rw_, rfl, k1, k2, k3⟩ := h3
    exact ⟨vs', t, rw_, h2, by omega, by simpa using k2⟩
theorem log_at {b : Nat} {rows : List (List PV)} {sz : Nat} {t : TypeId} {md : Md} {l : Am.Loc} (s : Rel μ φ hp ha) (hb : hp[b]? = some (.log rows sz t md)) (e : μ b rows.length = some (some l)) :
    ∃ vs rw, ha[l.blk]? = some (.cells vs t rw) ∧ rows.length * sz ≤ vs.length ∧ PRL μ φ rows.flatten (vs.take (rows.length * sz)) ∧ (∀ r ∈ rows, r.length = sz) ∧ l.K * sz ≤ vs.length ∧ (ownMd md = true → rw = true) ∧ rows.length ≤ mostLen := by
  rcases s.rel b _ hb (by simp) with ⟨h, _⟩ | ⟨l', blk', h1, h2, h3⟩
  · have : μ b rows.length = some none := h
    rw [e] at this
    cases this
  · have : μ b rows.length = some (some l') := h1
    rw [e] at this
    cases this
    obtain ⟨vs', rw_, rfl, k1, k2, k3, k4, k5, k6⟩ := h3
    exact ⟨vs', rw_, h2, k1, k2, k3, k4, k5, k6⟩
theorem win_log {b i : Nat} {rows : List (List PV)} {row : List PV} {sz : Nat} {t : TypeId} {md : Md} {l : Am.Loc} (s : Rel μ φ hp ha) (hb : hp[b]? = some (.log rows sz t md)) (e : μ b rows.length = some (some l)) (hi : rows[i]? = some row) : Win μ φ ha l.blk (i * sz) row := by
  obtain ⟨vs, rw_, h1, h2, h3, h4, _⟩ := log_at s hb e
  have hr := PRL.row (o := 0) h4 (by simpa using h3) hi
  have e1 := h4 row (List.mem_of_getElem? hi)
  have := row_le (size := sz) (some_lt hi)
  exact ⟨vs, t, rw_, h1, by omega, by rw [e1]; simpa using hr⟩
theorem loadP_sim (s : Rel μ φ hp ha) {agg : Bool} {n : Nat} {x v : PV} {x' : Value} (hx : PR μ φ x x') (h : loadP agg n x hp = some v) : ∃ v', loadf agg n x' ha = some v' ∧ PR μ φ v v' := by
  unfold loadP at h
  split at h
  · rename_i b o
    simp only [Option.bind_eq_some_iff] at h
    obtain ⟨vs, h1, h2⟩ := h
    cases hx with | @ptr _ _ l hm =>
      unfold boxAt at h1
      split at h1
      · rename_i hb
        cases h1
        have := (win_box s hb hm).load h2
        rwa [Nat.zero_add] at this
      · cases h1
  · cases hx with | fptr h1 h2 h3 h4 => exact Win.load ⟨_, _, _, s.frz _ _ h1, h2, h4⟩ h
  · rename_i b i off vr sz
    simp only [Option.bind_eq_some_iff] at h
    obtain ⟨rows, h1, row, h2, h3⟩ := h
    cases hx with | @lptr _ _ _ _ _ l hm =>
      unfold logAt at h1
      split at h1
      · rename_i rows0 sz' _ _ hb
        cases hc : (Nat.beq rows0.length vr && Nat.beq sz' sz) with
        | false => rw [hc] at h1; cases h1
        | true =>
          rw [hc] at h1
          cases h1
          rw [Bool.and_eq_true] at hc
          obtain rfl := Nat.eq_of_beq_eq_true hc.1
          obtain rfl := Nat.eq_of_beq_eq_true hc.2
          exact (win_log s hb hm h2).load h3
      · cases h1
  · cases h
theorem splice_take {α : Type} {a l : List α} {o n : Nat} (h1 : o + l.length ≤ n) (h2 : n ≤ a.length) : (a.take o ++ l ++ a.drop (o + l.length)).take n = (a.take n).take o ++ l ++ (a.take n).drop (o + l.length) := by
  rw [List.take_append, List.take_of_length_le (l := a.take o ++ l) (by simp; omega), List.take_take, Nat.min_eq_left (by omega), List.drop_take]
  congr 2
  simp
  omega
theorem PRL.put {vs l : List PV} {vs' l' : List Value} {o : Nat} (h : PRL μ φ vs (vs'.take vs.length)) (hl : vs.length ≤ vs'.length) (h' : PRL μ φ l l') (ho : o + l.length ≤ vs.length) :
    PRL μ φ (vs.take o ++ l ++ vs.drop (o + l.length)) ((vs'.take o ++ l' ++ vs'.drop (o + l'.length)).take vs.length) := by
  have e := h'.length
  rw [splice_take (by omega) hl]
  exact h.splice h' o
theorem put_len {α : Type} {vs l : List α} {o : Nat} (ho : o + l.length ≤ vs.length) : (vs.take o ++ l ++ vs.drop (o + l.length)).length = vs.length := by simp; omega
theorem flat_put {α : Type} {rows : List (List α)} {sz i o : Nat} {row l : List α} (hs : ∀ r ∈ rows, r.length = sz) (hi : rows[i]? = some row) (ho : o + l.length ≤ row.length) :
    (rows.set i (row.take o ++ l ++ row.drop (o + l.length))).flatten = rows.flatten.take (i * sz + o) ++ l ++ rows.flatten.drop (i * sz + o + l.length) := by
  induction rows generalizing i with
  | nil => cases hi
  | cons r rows ih =>
    have hr := hs r (by simp)
    cases i with
    | zero =>
      have e : r = row := by simpa using hi
      subst e
      rw [List.set_cons_zero, List.flatten_cons, List.flatten_cons, Nat.zero_mul, Nat.zero_add, List.take_append_of_le_length (by omega), List.drop_append_of_le_length (by omega)]
      simp
    | succ i =>
      rw [List.set_cons_succ, List.flatten_cons, List.flatten_cons, ih (fun q hq => hs q (by simp [hq])) (by simpa using hi)]
      rw [show (i + 1) * sz + o = r.length + (i * sz + o) by rw [Nat.add_mul]; omega, List.take_length_add_append, Nat.add_assoc r.length, List.drop_length_add_append]
      simp
theorem writeN_ok {vs l : List Value} {t : TypeId} {a o : Nat} (h1 : ha[a]? = some (.cells vs t true)) (h2 : o + l.length ≤ vs.length) (h3 : l.all Am.oneC = true) : writeN ha a o l = some (ha.set a (.cells (vs.take o ++ l ++ vs.drop (o + l.length)) t true)) := by
  unfold writeN
  rw [h1]
  show (if _ then some _ else none) = _
  rw [if_pos ⟨h2, h3⟩]
theorem storef_ok {v : Value} {a o n : Nat} {ha' : AHeap} (h1 : (cellsL v).length = n) (h2 : writeN ha a o (cellsL v) = some ha') : storef n (.pointer (some ⟨a, o, none⟩)) v ha = some ha' := by
  simp only [storef]
  rw [if_pos h1]
  exact h2
theorem storeP_sim (s : Rel μ φ hp ha) {n : Nat} {x v : PV} {x' v' : Value} {hp' : PHeap} (hx : PR μ φ x x') (hv : PR μ φ v v') (h : storeP n x v hp = some hp') : ∃ ha', storef n x' v' ha = some ha' ∧ Rel μ φ hp' ha' ∧ Ext μ φ hp ha μ φ hp' ha' := by
  unfold storeP at h
  cases hn : (Nat.beq (cellsP v).length n && Nat.blt 0 n) with
  | false => rw [hn] at h; cases h
  | true =>
    rw [hn] at h
    simp only [cond_true] at h
    rw [Bool.and_eq_true] at hn
    have n1 := Nat.eq_of_beq_eq_true hn.1
    have n2 : 0 < n := Nat.le_of_ble_eq_true hn.2
    have hcl := hv.cells (by omega)
    split at h
    · rename_i b o
      split at h
      · rename_i vs t hb
        rw [Option.map_eq_some_iff] at h
        obtain ⟨vs', h1, rfl⟩ := h
        unfold putAt at h1
        split at h1
        · rename_i hc
          cases h1
          cases hx with | @ptr _ _ l hm =>
            obtain ⟨vs0, rw_, k1, k2, k3, k4⟩ : ∃ vs0 rw_, ha[l.blk]? = some (.cells vs0 t rw_) ∧ vs.length ≤ vs0.length ∧ PRL μ φ vs (vs0.take vs.length) ∧ rw_ = true := by
              rcases s.rel b _ hb (by simp) with ⟨_, _, _, _, h⟩ | ⟨l', blk', h1, h2, h3⟩
              · cases h
              · have : μ b 0 = some (some l') := h1
                rw [hm] at this
                cases this
                obtain ⟨vs', rw_, rfl, k1, k2, k3⟩ := h3
                exact ⟨vs', rw_, h2, k1, k2, k3 rfl⟩
            subst k4
            have hlen := hcl.length
            refine ⟨_, storef_ok (by omega) (writeN_ok k1 (by omega) (hcl.oneC hc.2)), ?_⟩
            have hpl := put_len hc.1
            refine s.write0 hb trivial hm rfl ⟨_, true, rfl, ?_, ?_, fun _ => rfl⟩
            · rw [hpl, put_len (by omega)]; exact k2
            · rw [hpl]; exact k3.put k2 hcl hc.1
        · cases h1
      · cases h
    · rename_i b i o vr sz
      split at h
      · rename_i rows sz' t hb
        split at h
        · rename_i hc
          obtain ⟨rfl, rfl⟩ := hc
          simp only [Option.bind_eq_some_iff, Option.map_eq_some_iff] at h
          obtain ⟨row, h1, row', h2, rfl⟩ := h
          unfold putAt at h2
          split at h2
          · rename_i hc
            cases h2
            cases hx with | @lptr _ _ _ _ _ l hm =>
              obtain ⟨vs, rw_, k1, k2, k3, k4, k5, k6, k7⟩ := log_at s hb hm
              obtain rfl := k6 rfl
              have hlen := hcl.length
              have e1 := k4 row (List.mem_of_getElem? h1)
              have hle := row_le (size := sz') (some_lt h1)
              refine ⟨_, storef_ok (by omega) (writeN_ok k1 (by omega) (hcl.oneC hc.2)), ?_⟩
              have hfl := flat_len k4
              have hv : ver (.log (rows.set i (row.take o ++ cellsP v ++ row.drop (o + (cellsP v).length))) sz' t .rw) = ver (.log rows sz' t .rw) := by simp [ver]
              refine s.write0 hb trivial hm hv ⟨_, true, rfl, ?_, ?_, ?_, ?_, fun _ => rfl, ?_⟩
              · rw [put_len (by omega), List.length_set]; exact k2
              · rw [flat_put k4 h1 hc.1, List.length_set]
                have := PRL.put (o := i * sz' + o) (by rw [hfl]; exact k3) (by rw [hfl]; exact k2) hcl (by rw [hfl]; omega)
                rw [hfl] at this
                exact this
              · intro r hr
                rcases List.mem_or_eq_of_mem_set hr with h | rfl
                · exact k4 r h
                · rw [put_len hc.1]; exact e1
              · rw [put_len (by omega)]; exact k5
              · rw [List.length_set]; exact k7
          · cases h2
        · cases h
      · cases h
    · cases h
theorem bytes_rows (l : List UInt8) : PRL μ φ (l.map fun b => [PV.int .u8 b.toNat]).flatten (l.map fun b => Value.int .u8 b.toNat) := by
  induction l with
  | nil => exact .nil
  | cons b l ih => exact .cons (.int _ _) ih
theorem rowsP_sim (s : Rel μ φ hp ha) {sz : Nat} {x : PV} {x' : Value} {rows : List (List PV)} (hx : PR μ φ x x') (h : rowsP sz x hp = some rows) :
    lenOf x' = some rows.length ∧ (∀ r ∈ rows, r.length = sz) ∧ ∀ k, k ≤ rows.length → ∃ l, firstf sz k x' ha = some l ∧ PRL μ φ (rows.take k).flatten l := by
  unfold rowsP at h
  split at h
  · cases h; cases hx
    refine ⟨rfl, fun r hr => (by cases hr), fun k hk => ?_⟩
    obtain rfl : k = 0 := by simpa using hk
    exact ⟨[], rfl, .nil⟩
  · cases h; cases hx
    refine ⟨rfl, fun r hr => (by cases hr), fun k hk => ?_⟩
    obtain rfl : k = 0 := by simpa using hk
    rename_i a
    cases a <;> exact ⟨[], rfl, .nil⟩
  · rename_i sz rows'
    split at h
    · rename_i hs
      subst hs
      cases h
      cases hx with
      | frzNil =>
        refine ⟨rfl, fun r hr => (by cases hr), fun k hk => ?_⟩
        obtain rfl : k = 0 := by simpa using hk
        exact ⟨[], rfl, .nil⟩
      | frz0 =>
        refine ⟨rfl, fun r hr => (by cases hr), fun k hk => ?_⟩
        obtain rfl : k = 0 := by simpa using hk
        exact ⟨[], rfl, .nil⟩
      | @frz _ _ a o n c vs t rw_ hn hc hsz hφ hl hp hr =>
        subst hn
        refine ⟨rfl, hsz, fun k hk => ?_⟩
        by_cases hk0 : k = 0
        · subst hk0
          exact ⟨[], by simp [firstf], .nil⟩
        · have hle : k * sz ≤ rows.length * sz := Nat.mul_le_mul_right _ hk
          have h1 := hr.take (k * sz)
          rw [List.take_take, Nat.min_eq_left hle, ← flat_take hsz] at h1
          refine ⟨_, ?_, h1⟩
          simp only [firstf]
          rw [if_neg hk0, if_pos hk]
          unfold readN
          rw [s.frz _ _ hφ]
          show (if _ then some _ else none) = _
          rw [if_pos (by omega)]
    · cases h
  · rename_i b lo n vr sz'
    split at h
    · rename_i hn
      cases h
      subst hn
      have : ∃ a c, x' = .slice a 0 c := by cases hx <;> exact ⟨_, _, rfl⟩
      obtain ⟨a, c, rfl⟩ := this
      refine ⟨rfl, fun r hr => (by cases hr), fun k hk => ?_⟩
      obtain rfl : k = 0 := by simpa using hk
      cases a <;> exact ⟨[], rfl, .nil⟩
    · rename_i hn
      split at h
      · rename_i hs
        subst hs
        simp only [Option.bind_eq_some_iff] at h
        obtain ⟨rows0, h1, h2⟩ := h
        split at h2
        · rename_i hle
          cases h2
          cases hx with
          | ref0 => exact absurd rfl hn
          | @ref _ _ _ _ _ c l hm hn' hc =>
            unfold logAt at h1
            split at h1
            · rename_i rows1 sz1 t1 md1 hb
              cases hcc : (Nat.beq rows1.length vr && Nat.beq sz1 sz') with
              | false => rw [hcc] at h1; cases h1
              | true =>
                rw [hcc] at h1
                cases h1
                rw [Bool.and_eq_true] at hcc
                obtain rfl := Nat.eq_of_beq_eq_true hcc.1
                obtain rfl := Nat.eq_of_beq_eq_true hcc.2
                obtain ⟨vs, rw_, k1, k2, k3, k4, k5, k6, k7⟩ := log_at s hb hm
                have hlen : ((rows0.drop lo).take n).length = n := by simp; omega
                refine ⟨by rw [hlen]; rfl, fun r hr => k4 r (List.mem_of_mem_drop (List.mem_of_mem_take hr)), fun k hk => ?_⟩
                rw [hlen] at hk
                by_cases hk0 : k = 0
                · subst hk0
                  exact ⟨[], by simp [firstf], .nil⟩
                · have hle2 : lo * sz1 + k * sz1 ≤ rows0.length * sz1 := by rw [← Nat.add_mul]; exact Nat.mul_le_mul_right _ (by omega)
                  have h1 := (k3.drop (lo * sz1)).take (k * sz1)
                  rw [← flat_drop k4, ← flat_take (size := sz1) (fun r hr => k4 r (List.mem_of_mem_drop hr)), List.drop_take, List.take_take, Nat.min_eq_left (by omega)] at h1
                  refine ⟨_, ?_, by rw [List.take_take, Nat.min_eq_left hk]; exact h1⟩
                  simp only [firstf]
                  rw [if_neg hk0, if_pos hk]
                  unfold readN
                  rw [k1]
                  show (if _ then some _ else none) = _
                  rw [if_pos (by omega)]
            · cases h1
        · cases h2
      · cases h
  · rename_i sb
    split at h
    · rename_i hs
      subst hs
      cases h
      cases hx with | str _ =>
        refine ⟨?_, fun r hr => ?_, fun k hk => ?_⟩
        · simp only [lenOf, List.length_map, Array.length_toList]; rfl
        · obtain ⟨z, _, rfl⟩ := List.mem_map.1 hr; rfl
        · simp only [List.length_map, Array.length_toList] at hk
          have hk' : k ≤ sb.size := hk
          refine ⟨(((sb.extract 0 k).data.toList).map fun b => .int .u8 b.toNat), ?_, ?_⟩
          · simp only [firstf]
            rw [if_pos ⟨trivial, hk'⟩]
          · have e : (sb.extract 0 k).data.toList = sb.data.toList.take k := by
              rw [ByteArray.data_extract, Array.toList_extract]
              simp [List.extract]
            rw [e, ← List.map_take]
            exact bytes_rows _
    · cases h
  · cases h
theorem set_id {α : Type} {l : List α} {i : Nat} {x : α} (h : l[i]? = some x) : l.set i x = l := by
  refine List.ext_getElem? fun j => ?_
  by_cases hj : j = i
  · subst hj; rw [set_at (some_lt h), h]
  · rw [set_oth hj]
theorem br_new {μ' : Ren} {rows : List (List PV)} {vs : List Value} {sz : Nat} {t : TypeId} (h : PRL μ φ rows.flatten vs) (hm : RenLe μ μ') (hs : ∀ r ∈ rows, r.length = sz) (hl : rows.length ≤ mostLen) : BR μ' φ 0 (.log rows sz t .rw) (.cells vs t true) := by
  have e := h.length
  rw [flat_len hs] at e
  exact ⟨vs, true, rfl, by omega, by rw [e, List.take_length]; exact h.mono hm (FrzLe.refl _), hs, by omega, fun _ => rfl, hl⟩
theorem ref_new {new : List (List PV)} {elem : TypeId} (b sz a : Nat) (h : 0 < new.length) {sz' : Nat} {md : Md} : PR (put μ b (ver (.log new sz' elem md)) (some ⟨a, 0⟩)) φ (.ref b 0 new.length new.length sz) (.slice (some ⟨a, 0, none⟩) (0 + new.length) capU) := by
  have := PR.ref (μ := put μ b new.length (some ⟨a, 0⟩)) (φ := φ) (b := b) (lo := 0) (n := new.length) (ver := new.length) (sz := sz) (c := capU) (put_self _ _ _ _) (by omega) (.inl ⟨rfl, h⟩)
  rw [Nat.zero_mul] at this
  rw [Nat.zero_add]
  exact this
theorem appendRows_sim (s : Rel μ φ hp ha) {elem : TypeId} {sz : Nat} {x v : PV} {x' : Value} {new : List (List PV)} {new' : List Value} {hp' : PHeap} (hx : PR μ φ x x') (hnew : PRL μ φ new.flatten new') (hsz : ∀ r ∈ new, r.length = sz)
    (h : appendRows elem sz x new hp = some (v, hp')) : ∃ v' ha' μ', appendc elem sz x' new.length new' ha = some (v', ha') ∧ PR μ' φ v v' ∧ Rel μ' φ hp' ha' ∧ Ext μ φ hp ha μ' φ hp' ha' := by
  unfold appendRows at h
  split at h
  · rename_i hcond
    obtain ⟨hml, hsz0, hone⟩ := hcond
    have hnl := hnew.length
    rw [flat_len hsz] at hnl
    have hone' := hnew.oneC hone
    have hcu : mostLen < capU := by decide
    have h0c : (0 : Nat) ≠ capU := by decide
    -- a new block for a slice without room
    have fresh : ∀ (a : Option Addr), 0 < new.length → appendc elem sz (.slice a 0 0) new.length new' ha = some (.slice (some ⟨ha.length, 0, none⟩) (0 + new.length) capU, ha ++ [.cells ([] ++ new') elem true]) := by
      intro a hpos
      simp only [appendc]
      rw [if_neg h0c, if_neg (by omega), if_pos (by omega)]
      have : firstf sz 0 (.slice a 0 0) ha = some [] := by cases a <;> rfl
      rw [this]
      rfl
    have same : ∀ (a : Option Addr), new.length = 0 → appendc elem sz (.slice a 0 0) new.length new' ha = some (.slice a 0 0, ha) := by
      intro a hz
      simp only [appendc, hz]
      rw [if_neg h0c, if_pos (Nat.le_refl _)]
      cases a <;> rfl
    split at h
    · cases hx
      split at h
      · rename_i hz
        cases h
        exact ⟨_, _, _, same none hz, .nilS, s, Ext.refl _ _ _ _⟩
      · rename_i hz
        cases h
        have hv : ver (.log new sz elem .rw) = new.length := rfl
        obtain ⟨q1, q2⟩ := s.push (.log new sz elem .rw) (.cells new' elem true) 0 (br_new hnew (put_new s _ _) hsz hml)
        refine ⟨_, _, _, fresh none (by omega), ?_, q1, q2⟩
        exact ref_new hp.length sz ha.length (by omega)
    · cases hx with | emp a =>
      split at h
      · rename_i hz
        cases h
        exact ⟨_, _, _, same a hz, .emp _, s, Ext.refl _ _ _ _⟩
      · rename_i hz
        cases h
        obtain ⟨q1, q2⟩ := s.push (.log new sz elem .rw) (.cells new' elem true) 0 (br_new hnew (put_new s _ _) hsz hml)
        refine ⟨_, _, _, fresh a (by omega), ?_, q1, q2⟩
        exact ref_new hp.length sz ha.length (by omega)
    · rename_i b lo n vr sz'
      split at h
      · rename_i rows sz2 t hb
        split at h
        · rename_i hc
          obtain ⟨rfl, rfl, hrl, rfl, rfl, rfl, hmost⟩ := hc
          cases h
          have hw : wrB (.log rows sz2 t .rw) := trivial
          have hall : ∀ r ∈ rows ++ new, (∀ r ∈ rows, r.length = sz2) → r.length = sz2 := fun r h k => by
            rcases List.mem_append.1 h with h | h
            · exact k r h
            · exact hsz r h
          have hvlt : 0 < new.length → ver (.log rows sz2 t .rw) < ver (.log (rows ++ new) sz2 t .rw) := fun h => by simp [ver]; omega
          -- the rows go to a new block
          have moved : ∀ (old : List Value) (ha0 : AHeap) (k : Nat), k = rows.length → 0 < new.length → PRL μ φ rows.flatten old → (∀ r ∈ rows, r.length = sz2) → ha0.length = ha.length → (∀ a, (∀ l, μ b rows.length = some (some l) → l.blk ≠ a) → ha0[a]? = ha[a]?) →
              ∃ μ', PR μ' φ (.ref b 0 (k + new.length) (k + new.length) sz2) (.slice (some ⟨ha.length, 0, none⟩) (k + new.length) capU) ∧ Rel μ' φ (hp.set b (.log (rows ++ new) sz2 t .rw)) (ha0 ++ [.cells (old ++ new') t true]) ∧
                Ext μ φ hp ha μ' φ (hp.set b (.log (rows ++ new) sz2 t .rw)) (ha0 ++ [.cells (old ++ new') t true]) := by
            intro old ha0 k hk hpos hold hrows hlen ho
            have hlt := hvlt hpos
            have hle : RenLe μ (put μ b (ver (.log (rows ++ new) sz2 t .rw)) (some ⟨ha.length, 0⟩)) := put_le fun o h => by have := s.top _ _ _ _ hb hw.live h; omega
            obtain ⟨q1, q2⟩ := s.grow (blk1 := .log (rows ++ new) sz2 t .rw) (K := 0) hb hw hlt hlen ho (br_new (by rw [List.flatten_append]; exact hold.append hnew) hle (fun r h => hall r h hrows) (by rw [List.length_append, hrl]; omega))
            refine ⟨_, ?_, q1, q2⟩
            have := ref_new (μ := μ) (φ := φ) (new := rows ++ new) (elem := t) b sz2 ha.length (by simp; omega) (sz' := sz2) (md := .rw)
            rw [List.length_append, ← hk, Nat.zero_add] at this
            exact this
          cases hx with
          | ref0 _ a hm =>
            have hr0 : rows = [] := List.eq_nil_of_length_eq_zero hrl
            subst hr0
            by_cases hz : new.length = 0
            · have : new = [] := List.eq_nil_of_length_eq_zero hz
              subst this
              refine ⟨_, _, μ, same a hz, .ref0 _ _ hm, ?_, ?_⟩
              · rw [List.append_nil, set_id hb]; exact s
              · rw [List.append_nil, set_id hb]; exact Ext.refl _ _ _ _
            · obtain ⟨μ', q1, q2, q3⟩ := moved [] ha 0 rfl (by omega) .nil (fun r h => by cases h) rfl (fun _ _ => rfl)
              exact ⟨_, _, μ', fresh a (by omega), q1, q2, q3⟩
          | @ref _ _ _ _ _ c l hm hn hc =>
            subst hrl
            obtain ⟨vs, rw_, k1, k2, k3, k4, k5, k6, k7⟩ := log_at s hb hm
            obtain rfl := k6 rfl
            rw [Nat.zero_mul]
            by_cases hz : new.length = 0
            · have : new = [] := List.eq_nil_of_length_eq_zero hz
              subst this
              rw [List.append_nil, set_id hb]
              refine ⟨.slice (some ⟨l.blk, 0, none⟩) rows.length c, ha, μ, ?_, ?_, s, Ext.refl _ _ _ _⟩
              · rcases hc with ⟨rfl, hc⟩ | ⟨hc1, hc2, hc3⟩
                · simp [appendc]
                · simp only [appendc, List.length_nil, Nat.add_zero]
                  rw [if_neg (by omega), if_pos hc2]
                  rfl
              · have := PR.ref (φ := φ) (sz := sz2) hm (by omega) hc
                rw [Nat.zero_mul] at this
                exact this
            · have hrows := k4
              rcases hc with ⟨rfl, hc⟩ | ⟨hc1, hc2, hc3⟩
              · obtain ⟨μ', q1, q2, q3⟩ := moved (vs.take (rows.length * sz2)) (ha.set l.blk .dead) rows.length rfl (by omega) k3 k4 (by simp) (fun a h => set_oth fun e => h l hm e.symm)
                refine ⟨_, _, μ', ?_, q1, q2, q3⟩
                simp only [appendc, if_true, k1]
                rw [if_neg hz, if_pos ⟨k2, by omega, trivial, hc, hone'⟩]
              · by_cases hfit : rows.length + new.length ≤ c
                · have hle2 : rows.length * sz2 + new.length * sz2 ≤ vs.length := by
                    rw [← Nat.add_mul]
                    exact Nat.le_trans (Nat.mul_le_mul_right _ (by omega)) k5
                  have hwr := writeN_ok (ha := ha) (l := new') (o := rows.length * sz2) k1 (by omega) hone'
                  have hm2 : RenLe μ (put μ b (ver (.log (rows ++ new) sz2 t .rw)) (some l)) := put_le fun o h => by have := s.top _ _ _ _ hb hw.live h; have := hvlt (by omega); omega
                  have hfl := flat_len k4
                  have hbr : BR (put μ b (ver (.log (rows ++ new) sz2 t .rw)) (some l)) φ l.K (.log (rows ++ new) sz2 t .rw) (.cells (vs.take (rows.length * sz2) ++ new' ++ vs.drop (rows.length * sz2 + new'.length)) t true) := by
                    refine ⟨_, true, rfl, ?_, ?_, fun r h => hall r h k4, ?_, fun _ => rfl, by rw [List.length_append]; omega⟩
                    · rw [put_len (by omega), List.length_append, Nat.add_mul]; exact hle2
                    · have e : (vs.take (rows.length * sz2) ++ new' ++ vs.drop (rows.length * sz2 + new'.length)).take ((rows ++ new).length * sz2) = vs.take (rows.length * sz2) ++ new' := by
                        have e2 : (rows ++ new).length * sz2 = (vs.take (rows.length * sz2) ++ new').length := by rw [List.length_append, List.length_append, List.length_take, Nat.add_mul]; omega
                        rw [e2, List.take_left]
                      rw [e, List.flatten_append]
                      exact (k3.append hnew).mono hm2 (FrzLe.refl _)
                    · rw [put_len (by omega)]; exact k5
                  obtain ⟨q1, q2⟩ := s.write (blk1 := .log (rows ++ new) sz2 t .rw) hb hw hm (fun o h => by have := s.top _ _ _ _ hb hw.live h; have := hvlt (by omega); omega) (by have := hvlt (by omega); omega) hbr
                  refine ⟨.slice (some ⟨l.blk, 0, none⟩) (rows.length + new.length) c, _, _, ?_, ?_, q1, q2⟩
                  · simp only [appendc, Nat.zero_add]
                    rw [if_neg (by omega), if_pos hfit, if_neg hz, hwr]
                    rfl
                  · have := PR.ref (μ := put μ b (ver (.log (rows ++ new) sz2 t .rw)) (some l)) (φ := φ) (sz := sz2) (lo := 0) (n := rows.length + new.length) (c := c) (put_self _ _ _ _) (by simp [ver]) (.inr ⟨hc1, hfit, hc3⟩)
                    rw [Nat.zero_mul] at this
                    simpa [ver] using this
                · obtain ⟨μ', q1, q2, q3⟩ := moved (vs.take (rows.length * sz2)) ha rows.length rfl (by omega) k3 k4 rfl (fun _ _ => rfl)
                  refine ⟨_, _, μ', ?_, q1, q2, q3⟩
                  simp only [appendc]
                  rw [if_neg (by omega), if_neg hfit, if_pos (by omega)]
                  have : firstf sz2 rows.length (.slice (some ⟨l.blk, 0, none⟩) rows.length c) ha = some (vs.take (rows.length * sz2)) := by
                    simp only [firstf]
                    by_cases h0 : rows.length = 0
                    · rw [if_pos h0, h0]; simp
                    · rw [if_neg h0, if_pos (Nat.le_refl _)]
                      unfold readN
                      rw [k1]
                      simp only [Nat.zero_add, List.drop_zero]
                      rw [if_pos k2]
                  rw [this]
                  rfl
        · cases h
      · cases h
    · cases h
  · cases h
theorem appendP_sim (s : Rel μ φ hp ha) {elem : TypeId} {sz : Nat} {x y v : PV} {x' y' : Value} {hp' : PHeap} (hx : PR μ φ x x') (hy : PR μ φ y y') (h : appendP elem sz x y hp = some (v, hp')) :
    ∃ v' ha' μ', appendf elem sz x' y' ha = some (v', ha') ∧ PR μ' φ v v' ∧ Rel μ' φ hp' ha' ∧ Ext μ φ hp ha μ' φ hp' ha' := by
  unfold appendP at h
  rw [Option.bind_eq_some_iff] at h
  obtain ⟨new, h1, h2⟩ := h
  obtain ⟨k1, k2, k3⟩ := rowsP_sim s hy h1
  obtain ⟨new', k4, k5⟩ := k3 new.length (Nat.le_refl _)
  rw [List.take_length] at k5
  obtain ⟨v', ha', μ', q1, q⟩ := appendRows_sim s hx k5 k2 h2
  exact ⟨v', ha', μ', by simp only [appendf, k1, Option.bind_some, k4, q1], q⟩
theorem rep_rel {zero : List PV} {zero' : List Value} (h : PRL μ φ zero zero') (n : Nat) : PRL μ φ (List.replicate n zero).flatten (rep zero' n) := by
  induction n with
  | zero => exact .nil
  | succ n ih => rw [List.replicate_succ, List.flatten_cons]; exact h.append ih
theorem appendNP_sim (s : Rel μ φ hp ha) {elem : TypeId} {sz : Nat} {zero : List PV} {zero' : List Value} {x y v : PV} {x' y' : Value} {hp' : PHeap} (hz : PRL μ φ zero zero') (hx : PR μ φ x x') (hy : PR μ φ y y') (h : appendNP elem sz zero x y hp = some (v, hp')) :
    ∃ v' ha' μ', appendNf elem sz zero' x' y' ha = some (v', ha') ∧ PR μ' φ v v' ∧ Rel μ' φ hp' ha' ∧ Ext μ φ hp ha μ' φ hp' ha' := by
  unfold appendNP at h
  split at h
  · split at h
    · rename_i hc
      cases hy
      obtain ⟨v', ha', μ', q1, q⟩ := appendRows_sim s hx (rep_rel hz _) (fun r hr => by rw [List.mem_replicate] at hr; rw [hr.2]; exact hc.2.2) h
      rw [List.length_replicate] at q1
      refine ⟨v', ha', μ', ?_, q⟩
      simp only [appendNf]
      rw [if_pos ⟨hc.1, hc.2.1⟩]
      exact q1
    · cases h
  · cases h
theorem mkSliceP_sim (s : Rel μ φ hp ha) {elem : TypeId} {zero : List PV} {zero' : List Value} {x y v : PV} {x' y' : Value} {hp' : PHeap} (hz : PRL μ φ zero zero') (hx : PR μ φ x x') (hy : PR μ φ y y') (h : mkSliceP elem zero x y hp = some (v, hp')) :
    ∃ v' ha' μ', mkSlicef elem zero' x' y' ha = some (v', ha') ∧ PR μ' φ v v' ∧ Rel μ' φ hp' ha' ∧ Ext μ φ hp ha μ' φ hp' ha' := by
  unfold mkSliceP at h
  split at h
  · rename_i n c
    split at h
    · rename_i hc
      cases hx; cases hy
      cases h
      have hrl : (rep zero' c.toNat).length = c.toNat * zero.length := by
        have := (rep_rel hz c.toNat).length
        rw [flat_len (size := zero.length) (fun r hr => by rw [List.mem_replicate] at hr; rw [hr.2]), List.length_replicate] at this
        omega
      have hle : n.toNat * zero.length ≤ c.toNat * zero.length := Nat.mul_le_mul_right _ (by omega)
      have hrep : PRL μ φ (List.replicate n.toNat zero).flatten ((rep zero' c.toNat).take (n.toNat * zero.length)) := by
        have h1 := (rep_rel hz c.toNat).take (n.toNat * zero.length)
        rw [← flat_take (size := zero.length) (fun r hr => by rw [List.mem_replicate] at hr; rw [hr.2]), List.take_replicate, Nat.min_eq_left (by omega)] at h1
        exact h1
      obtain ⟨q1, q2⟩ := s.push (.log (List.replicate n.toNat zero) zero.length elem .rw) (.cells (rep zero' c.toNat) elem true) c.toNat
        ⟨_, true, rfl, by rw [hrl, List.length_replicate]; exact hle, by rw [List.length_replicate]; exact hrep.mono (put_new s _ _) (FrzLe.refl _), fun r hr => by rw [List.mem_replicate] at hr; rw [hr.2], by rw [hrl]; exact Nat.le_refl _, fun _ => rfl, by rw [List.length_replicate]; omega⟩
      refine ⟨.slice (some ⟨ha.length, 0, none⟩) n.toNat c.toNat, _, _, ?_, ?_, q1, q2⟩
      · simp only [mkSlicef]
        rw [if_pos hc]
      · have hcu : mostLen < capU := by decide
        have := PR.ref (μ := put μ hp.length (ver (.log (List.replicate n.toNat zero) zero.length elem .rw)) (some ⟨ha.length, c.toNat⟩)) (φ := φ) (b := hp.length) (lo := 0) (n := n.toNat) (sz := zero.length) (c := c.toNat) (put_self _ _ _ _) (by simp [ver]) (.inr ⟨by omega, by omega, by simp⟩)
        rw [Nat.zero_mul] at this
        simpa [ver] using this
    · cases h
  · cases h
theorem log_same {rows : List (List PV)} {l : Am.Loc} {sz : Nat} {t : TypeId} {vs : List Value} {lo : Nat} {src : List (List PV)} {src' : List Value} (k2 : rows.length * sz ≤ vs.length) (k3 : PRL μ φ rows.flatten (vs.take (rows.length * sz))) (k4 : ∀ r ∈ rows, r.length = sz) (k5 : l.K * sz ≤ vs.length) (k7 : rows.length ≤ mostLen)
    (hs : PRL μ φ src.flatten src') (hsz : ∀ r ∈ src, r.length = sz) (hle : lo + src.length ≤ rows.length) :
    BR μ φ l.K (.log (rows.take lo ++ src ++ rows.drop (lo + src.length)) sz t .rw) (.cells (vs.take (lo * sz) ++ src' ++ vs.drop (lo * sz + src'.length)) t true) ∧ (rows.take lo ++ src ++ rows.drop (lo + src.length)).length = rows.length ∧ lo * sz + src'.length ≤ vs.length := by
  have e1 := hs.length
  rw [flat_len hsz] at e1
  have e2 : lo * sz + src.length * sz ≤ rows.length * sz := by rw [← Nat.add_mul]; exact Nat.mul_le_mul_right _ hle
  have e3 := put_len (vs := rows) (l := src) (o := lo) hle
  have hfl := flat_len k4
  refine ⟨⟨_, true, rfl, ?_, ?_, fun r hr => ?_, ?_, fun _ => rfl, by rw [e3]; exact k7⟩, e3, by omega⟩
  · rw [e3, put_len (by omega)]; exact k2
  · rw [e3, List.flatten_append, List.flatten_append, flat_take k4, flat_drop k4, Nat.add_mul]
    have := PRL.put (o := lo * sz) (by rw [hfl]; exact k3) (by rw [hfl]; exact k2) hs (by rw [hfl, flat_len hsz]; omega)
    rw [hfl, flat_len hsz] at this
    exact this
  · rcases List.mem_append.1 hr with hr | hr
    · rcases List.mem_append.1 hr with hr | hr
      · exact k4 r (List.mem_of_mem_take hr)
      · exact hsz r hr
    · exact k4 r (List.mem_of_mem_drop hr)
  · rw [put_len (by omega)]; exact k5
theorem copyP_sim (s : Rel μ φ hp ha) {sz : Nat} {x y v : PV} {x' y' : Value} {hp' : PHeap} (hx : PR μ φ x x') (hy : PR μ φ y y') (h : copyP sz x y hp = some (v, hp')) :
    ∃ v' ha', copyf sz x' y' ha = some (v', ha') ∧ PR μ φ v v' ∧ Rel μ φ hp' ha' ∧ Ext μ φ hp ha μ φ hp' ha' := by
  unfold copyP at h
  rw [Option.bind_eq_some_iff] at h
  obtain ⟨src, h1, h2⟩ := h
  obtain ⟨g1, g2, g3⟩ := rowsP_sim s hy h1
  have g0 : firstf sz 0 y' ha = some [] := by
    obtain ⟨l, k1, k2⟩ := g3 0 (Nat.zero_le _)
    rw [List.take_zero] at k2
    cases k2
    exact k1
  split at h2
  · cases h2; cases hx
    refine ⟨.int .i64 0, ha, ?_, .int _ _, s, Ext.refl _ _ _ _⟩
    simp [copyf, g1, g0, Nat.min_def]
  · cases h2; cases hx with | emp a =>
    refine ⟨.int .i64 0, ha, ?_, .int _ _, s, Ext.refl _ _ _ _⟩
    cases a <;> simp [copyf, g1, g0, Nat.min_def]
  · rename_i b lo n vr sz'
    split at h2
    · rename_i rows sz2 t hb
      split at h2
      · rename_i hc
        obtain ⟨hrl, rfl, rfl, c1, c2, c3⟩ := hc
        cases h2
        cases hx with
        | ref0 => omega
        | @ref _ _ _ _ _ c l hm hn hc =>
          subst hrl
          obtain ⟨vs, rw_, k1, k2, k3, k4, k5, k6, k7⟩ := log_at s hb hm
          obtain rfl := k6 rfl
          have hmn : Nat.min src.length n ≤ src.length := Nat.min_le_left _ _
          have hmn2 : Nat.min src.length n ≤ n := Nat.min_le_right _ _
          obtain ⟨src', j1, j2⟩ := g3 (Nat.min src.length n) hmn
          have e0 : src.take n = src.take (Nat.min src.length n) := by
            rw [show Nat.min src.length n = min n src.length from Nat.min_comm _ _]
            rw [List.take_eq_take_min]
          have e1 : (src.take (Nat.min src.length n)).length = Nat.min src.length n := by rw [List.length_take]; exact Nat.min_eq_left hmn
          have hb1 := log_same (μ := μ) (φ := φ) (l := l) (sz := sz2) (t := t) (lo := lo) (src := src.take (Nat.min src.length n)) k2 k3 k4 k5 k7 j2 (fun r hr => g2 r (List.mem_of_mem_take hr)) (by rw [e1]; omega)
          rw [e1] at hb1
          obtain ⟨b1, b2, b3⟩ := hb1
          have hone : src'.all Am.oneC = true := j2.oneC (List.all_eq_true.2 fun z hz => List.all_eq_true.1 c3 z (by
            obtain ⟨r, hr, hz⟩ := List.mem_flatten.1 hz
            exact List.mem_flatten.2 ⟨r, List.mem_of_mem_take hr, hz⟩))
          have hwr := writeN_ok (ha := ha) (l := src') (o := lo * sz2) k1 b3 hone
          by_cases hz : Nat.min src.length n = 0
          · refine ⟨.int .i64 (Nat.min src.length n : Nat), ha, ?_, .int _ _, ?_⟩
            · simp only [copyf, g1, Option.bind_some, j1]
              rw [if_pos hz]
              rfl
            · rw [e0, hz, List.take_zero, List.append_nil, Nat.add_zero, List.take_append_drop, set_id hb]
              exact ⟨s, Ext.refl _ _ _ _⟩
          · refine ⟨.int .i64 (Nat.min src.length n : Nat), ha.set l.blk (.cells (vs.take (lo * sz2) ++ src' ++ vs.drop (lo * sz2 + src'.length)) t true), ?_, .int _ _, ?_⟩
            · simp only [copyf, g1, Option.bind_some, j1]
              rw [if_neg hz, hwr]
              rfl
            · rw [e0]
              exact s.write0 hb trivial hm (by simp only [ver]; exact b2) b1
      · cases h2
    · cases h2
  · cases h2
theorem clearP_sim (s : Rel μ φ hp ha) {zero : List PV} {zero' : List Value} {x v : PV} {x' : Value} {hp' : PHeap} (hz : PRL μ φ zero zero') (hx : PR μ φ x x') (h : clearP zero x hp = some (v, hp')) :
    ∃ v' ha', clearf zero' x' ha = some (v', ha') ∧ PR μ φ v v' ∧ Rel μ φ hp' ha' ∧ Ext μ φ hp ha μ φ hp' ha' := by
  unfold clearP at h
  split at h
  · cases h; cases hx
    exact ⟨_, _, rfl, PR.undef, s, Ext.refl _ _ _ _⟩
  · cases h; cases hx with | emp a =>
    exact ⟨undef, ha, by cases a <;> rfl, PR.undef, s, Ext.refl _ _ _ _⟩
  · rename_i b lo n vr sz
    split at h
    · rename_i rows sz2 t hb
      split at h
      · rename_i hc
        obtain ⟨hrl, rfl, rfl, c1, c2, c3⟩ := hc
        cases h
        cases hx with
        | ref0 => omega
        | @ref _ _ _ _ _ c l hm hn hc =>
          subst hrl
          obtain ⟨vs, rw_, k1, k2, k3, k4, k5, k6, k7⟩ := log_at s hb hm
          obtain rfl := k6 rfl
          have hb1 := log_same (μ := μ) (φ := φ) (l := l) (sz := zero.length) (t := t) (lo := lo) (src := List.replicate n zero) k2 k3 k4 k5 k7 (rep_rel hz n) (fun r hr => by rw [List.mem_replicate] at hr; rw [hr.2]) (by simpa using c1)
          rw [List.length_replicate] at hb1
          obtain ⟨b1, b2, b3⟩ := hb1
          have hone : (rep zero' n).all Am.oneC = true := (rep_rel hz n).oneC (List.all_eq_true.2 fun z hz => by
            obtain ⟨r, hr, hz⟩ := List.mem_flatten.1 hz
            rw [List.mem_replicate] at hr
            rw [hr.2] at hz
            exact List.all_eq_true.1 c3 z hz)
          have hwr := writeN_ok (ha := ha) (l := rep zero' n) (o := lo * zero.length) k1 b3 hone
          refine ⟨undef, _, ?_, PR.undef, s.write0 hb trivial hm (by simp only [ver]; exact b2) b1⟩
          simp only [clearf]
          rw [if_neg (by omega), hwr]
          rfl
      · cases h
    · cases h
  · cases h
end Go.Vm
/- Maps, strings of bytes, freezing, giving up, locking. -/
namespace Go.Vm
open Go.Am
variable {μ : Ren} {φ : Frz} {hp : PHeap} {ha : AHeap}
theorem keyEqP_sim {k : BK} {x y : PV} {x' y' : Value} {r : Bool} (hx : PR μ φ x x') (hy : PR μ φ y y') (h : keyEqP k x y = some r) : keyEq k x' y' = some r := by
  unfold keyEqP at h
  split at h <;> first | (cases hx; cases hy; exact h) | cases h
theorem findMapP_sim {k : BK} {x : PV} {x' : Value} (hx : PR μ φ x x') : ∀ {es : List (PV × PV)} {es' : List (Value × Value)} {r : Option PV}, PRL μ φ (es.map (·.1)) (es'.map (·.1)) → PRL μ φ (es.map (·.2)) (es'.map (·.2)) → findMapP k x es = some r →
    ∃ r', findMap k x' es' = some r' ∧ OR μ φ r r' := by
  intro es
  induction es with
  | nil =>
    intro es' r h1 h2 h
    cases es' with
    | nil => cases h; exact ⟨_, rfl, .none⟩
    | cons => cases h1
  | cons p es ih =>
    intro es' r h1 h2 h
    cases es' with
    | nil => cases h1
    | cons p' es' =>
      obtain ⟨y, v⟩ := p
      obtain ⟨y', v'⟩ := p'
      cases h1 with | cons a1 a2 => cases h2 with | cons b1 b2 =>
        simp only [findMapP] at h
        simp only [findMap]
        split at h
        · rename_i hk
          cases h
          rw [keyEqP_sim hx a1 hk]
          exact ⟨_, rfl, .some b1⟩
        · rename_i hk
          rw [keyEqP_sim hx a1 hk]
          exact ih a2 b2 h
        · cases h
theorem insMapP_sim {k : BK} {x v : PV} {x' v' : Value} (hx : PR μ φ x x') (hv : PR μ φ v v') : ∀ {es q : List (PV × PV)} {es' : List (Value × Value)}, PRL μ φ (es.map (·.1)) (es'.map (·.1)) → PRL μ φ (es.map (·.2)) (es'.map (·.2)) → insMapP k x v es = some q →
    ∃ q', setMap k x' v' es' = some q' ∧ PRL μ φ (q.map (·.1)) (q'.map (·.1)) ∧ PRL μ φ (q.map (·.2)) (q'.map (·.2)) := by
  intro es
  induction es with
  | nil =>
    intro q es' h1 h2 h
    cases es' with
    | nil => cases h; exact ⟨_, rfl, .cons hx .nil, .cons hv .nil⟩
    | cons => cases h1
  | cons p es ih =>
    intro q es' h1 h2 h
    cases es' with
    | nil => cases h1
    | cons p' es' =>
      obtain ⟨y, u⟩ := p
      obtain ⟨y', u'⟩ := p'
      cases h1 with | cons a1 a2 => cases h2 with | cons b1 b2 =>
        simp only [insMapP] at h
        simp only [setMap]
        split at h
        · rename_i hk
          cases h
          rw [keyEqP_sim hx a1 hk]
          exact ⟨_, rfl, .cons hx a2, .cons hv b2⟩
        · rename_i hk
          rw [keyEqP_sim hx a1 hk]
          rw [Option.map_eq_some_iff] at h
          obtain ⟨r, hr, rfl⟩ := h
          obtain ⟨r', k1, k2, k3⟩ := ih a2 b2 hr
          exact ⟨(y', u') :: r', by rw [k1]; rfl, .cons a1 k2, .cons b1 k3⟩
        · cases h
theorem map_at {b : Nat} {es : List (PV × PV)} {md : Md} {l : Am.Loc} (s : Rel μ φ hp ha) (hb : hp[b]? = some (.map es md)) (e : μ b 0 = some (some l)) : ∃ es', ha[l.blk]? = some (.map es') ∧ PRL μ φ (es.map (·.1)) (es'.map (·.1)) ∧ PRL μ φ (es.map (·.2)) (es'.map (·.2)) := by
  rcases s.rel b _ hb (by simp) with ⟨_, _, _, _, h⟩ | ⟨l', blk', h1, h2, h3⟩
  · cases h
  · have : μ b 0 = some (some l') := h1
    rw [e] at this
    cases this
    obtain ⟨es', rfl, k1, k2⟩ := h3
    exact ⟨es', h2, k1, k2⟩
theorem mapOfP_sim (s : Rel μ φ hp ha) {x : PV} {x' : Value} {es : List (PV × PV)} (hx : PR μ φ x x') (h : mapOfP x hp = some es) : ∃ es', mapOf x' ha = some es' ∧ PRL μ φ (es.map (·.1)) (es'.map (·.1)) ∧ PRL μ φ (es.map (·.2)) (es'.map (·.2)) := by
  unfold mapOfP at h
  split at h
  · cases h; cases hx; exact ⟨[], rfl, .nil, .nil⟩
  · rename_i b
    split at h
    · rename_i es0 md hb
      cases h
      cases hx with | @map _ l hm =>
        obtain ⟨es', k1, k2, k3⟩ := map_at s hb hm
        exact ⟨es', by simp only [mapOf, k1], k2, k3⟩
    · cases h
  · cases h
theorem lookupP_sim (s : Rel μ φ hp ha) {k : BK} {zero x i v : PV} {ok : Bool} {zero' x' i' : Value} (hz : PR μ φ zero zero') (hx : PR μ φ x x') (hi : PR μ φ i i') (h : lookupP k zero ok x i hp = some v) : ∃ v', lookupf k zero' ok x' i' ha = some v' ∧ PR μ φ v v' := by
  unfold lookupP at h
  simp only [Option.bind_eq_some_iff, Option.map_eq_some_iff] at h
  obtain ⟨es, h1, r, h2, h3⟩ := h
  obtain ⟨es', k1, k2, k3⟩ := mapOfP_sim s hx h1
  obtain ⟨r', k4, k5⟩ := findMapP_sim hi k2 k3 h2
  simp only [lookupf, k1, Option.bind_some, k4, Option.map_some]
  cases k5 with
  | none => cases ok with
    | false => subst h3; exact ⟨_, rfl, hz⟩
    | true => subst h3; exact ⟨_, rfl, .tuple (ys := [zero', .bool false]) (.cons hz (.cons (.bool _) .nil))⟩
  | @some _ r1 hr => cases ok with
    | false => subst h3; exact ⟨_, rfl, hr⟩
    | true => subst h3; exact ⟨_, rfl, .tuple (ys := [r1, .bool true]) (.cons hr (.cons (.bool _) .nil))⟩
theorem setMapP_sim (s : Rel μ φ hp ha) {k : BK} {x i v : PV} {x' i' v' : Value} {hp' : PHeap} (hx : PR μ φ x x') (hi : PR μ φ i i') (hv : PR μ φ v v') (h : setMapP k x i v hp = some hp') :
    ∃ ha', setMapf k x' i' v' ha = some ha' ∧ Rel μ φ hp' ha' ∧ Ext μ φ hp ha μ φ hp' ha' := by
  unfold setMapP at h
  split at h
  · rename_i b
    split at h
    · rename_i es hb
      rw [Option.map_eq_some_iff] at h
      obtain ⟨q, h1, rfl⟩ := h
      cases hx with | @map _ l hm =>
        obtain ⟨es', k1, k2, k3⟩ := map_at s hb hm
        obtain ⟨q', k4, k5, k6⟩ := insMapP_sim hi hv k2 k3 h1
        exact ⟨_, by simp only [setMapf, k1, k4, Option.map_some], s.write0 hb trivial hm rfl ⟨q', rfl, k5, k6⟩⟩
    · cases h
  · cases h
theorem lenMapP_sim (s : Rel μ φ hp ha) {x v : PV} {x' : Value} (hx : PR μ φ x x') (h : lenMapP x hp = some v) : ∃ v', lenMapf x' ha = some v' ∧ PR μ φ v v' := by
  unfold lenMapP at h
  rw [Option.map_eq_some_iff] at h
  obtain ⟨es, h1, rfl⟩ := h
  obtain ⟨es', k1, k2, k3⟩ := mapOfP_sim s hx h1
  have := k2.length
  simp only [List.length_map] at this
  exact ⟨.int .i64 es'.length, by simp only [lenMapf, k1, Option.map_some], by rw [this]; exact .int _ _⟩
theorem bytesP_sim : ∀ {rows : List (List PV)} {l : List Value} {bs : List UInt8}, PRL μ φ rows.flatten l → bytesP rows = some bs → bytesOf l = some bs := by
  intro rows
  induction rows with
  | nil => intro l bs h1 h; cases h1; exact h
  | cons r rows ih =>
    intro l bs h1 h
    unfold bytesP at h
    split at h
    · rename_i e; cases e
    · rename_i n r0 e
      cases e
      rw [Option.map_eq_some_iff] at h
      obtain ⟨q, hq, rfl⟩ := h
      simp only [List.flatten_cons, List.cons_append, List.nil_append] at h1
      cases h1 with | cons a1 a2 =>
        cases a1
        simp only [bytesOf, ih a2 hq, Option.map_some]
    · cases h
theorem bytesToStrP_sim (s : Rel μ φ hp ha) {x v : PV} {x' : Value} (hx : PR μ φ x x') (h : bytesToStrP x hp = some v) : ∃ v', bytesToStrf x' ha = some v' ∧ PR μ φ v v' := by
  unfold bytesToStrP at h
  split at h
  · cases h
  · rename_i hns
    simp only [Option.bind_eq_some_iff, Option.map_eq_some_iff] at h
    obtain ⟨rows, h1, bs, h2, rfl⟩ := h
    obtain ⟨k1, k2, k3⟩ := rowsP_sim s hx h1
    obtain ⟨l, k4, k5⟩ := k3 rows.length (Nat.le_refl _)
    rw [List.take_length] at k5
    have h3 := bytesP_sim k5 h2
    have hsl : (∃ a n c, x' = .slice a n c) := by
      unfold rowsP at h1
      cases hx <;> first | exact ⟨_, _, _, rfl⟩ | (simp at h1; done) | skip
      exact absurd rfl (hns _)
    obtain ⟨a, n, c, rfl⟩ := hsl
    have hn : n = rows.length := Option.some.inj k1
    subst hn
    cases a with
    | none =>
      simp only [firstf] at k4
      split at k4
      · cases k4
        cases h3
        exact ⟨_, rfl, .str _⟩
      · cases k4
    | some a =>
      simp only [firstf] at k4
      simp only [bytesToStrf]
      split at k4
      · rename_i hz
        cases k4
        cases h3
        rw [if_pos hz]
        exact ⟨_, rfl, .str _⟩
      · rename_i hz
        rw [if_pos (Nat.le_refl _), Nat.mul_one] at k4
        rw [if_neg hz, k4]
        exact ⟨_, by simp only [Option.bind_some, h3, Option.map_some], .str _⟩
theorem frz_of_log {lo n sz : Nat} {rows : List (List PV)} {rows' : List (List PV)} {t : TypeId} {l : Am.Loc} {vs : List Value} {rw_ : Bool} {c : Nat} (hφ : φ l.blk = some (.cells vs t rw_)) (k2 : rows.length * sz ≤ vs.length) (k4 : ∀ r ∈ rows, r.length = sz) (k7 : rows.length ≤ mostLen)
    (hn : lo + n ≤ rows.length) (hc : n ≤ c) (hlen : rows'.length = n) (hsz : ∀ r ∈ rows', r.length = sz) (hp' : rows'.flatten.all pure1 = true) (hr : PRL μ φ rows'.flatten ((vs.drop (lo * sz)).take (n * sz))) : PR μ φ (.frz sz rows') (.slice (some ⟨l.blk, lo * sz, none⟩) n c) := by
  have hcu : mostLen < capU := by decide
  have hle : lo * sz + n * sz ≤ rows.length * sz := by rw [← Nat.add_mul]; exact Nat.mul_le_mul_right _ hn
  exact .frz hlen.symm ⟨hc, by omega⟩ hsz hφ (by omega) hp' hr
theorem part_rel {rows : List (List PV)} {sz lo n : Nat} {vs : List Value} (k3 : PRL μ φ rows.flatten (vs.take (rows.length * sz))) (k4 : ∀ r ∈ rows, r.length = sz) (hn : lo + n ≤ rows.length) : PRL μ φ ((rows.drop lo).take n).flatten ((vs.drop (lo * sz)).take (n * sz)) := by
  have hle : lo * sz + n * sz ≤ rows.length * sz := by rw [← Nat.add_mul]; exact Nat.mul_le_mul_right _ hn
  have h1 := (k3.drop (lo * sz)).take (n * sz)
  rw [← flat_drop k4, ← flat_take (size := sz) (fun r hr => k4 r (List.mem_of_mem_drop hr)), List.drop_take, List.take_take, Nat.min_eq_left (by omega)] at h1
  exact h1
theorem freeze_log (s : Rel μ φ hp ha) {b sz : Nat} {rows : List (List PV)} {t : TypeId} {l : Am.Loc} (hb : hp[b]? = some (.log rows sz t .rw)) (hm : μ b rows.length = some (some l)) :
    ∃ φ' vs rw_, φ' l.blk = some (.cells vs t rw_) ∧ Rel μ φ' (hp.set b (.log rows sz t .ro)) ha ∧ Ext μ φ hp ha μ φ' (hp.set b (.log rows sz t .ro)) ha ∧ rows.length * sz ≤ vs.length ∧ PRL μ φ rows.flatten (vs.take (rows.length * sz)) ∧ (∀ r ∈ rows, r.length = sz) ∧ rows.length ≤ mostLen := by
  obtain ⟨vs, rw_, k1, k2, k3, k4, k5, k6, k7⟩ := log_at s hb hm
  obtain ⟨φ', q1, q2, q3⟩ := s.freeze (blk1 := .log rows sz t .ro) hb trivial hm k1 rfl (fun h => by simp [ownB, ownMd] at h) (by simp) (fun φ' hf => ⟨vs, rw_, rfl, k2, k3.mono (RenLe.refl _) hf, k4, k5, (fun h => by simp [ownMd] at h), k7⟩)
  exact ⟨φ', vs, rw_, q1, q2, q3, k2, k3, k4, k7⟩
theorem ro_log (s : Rel μ φ hp ha) {b sz : Nat} {rows : List (List PV)} {t : TypeId} {l : Am.Loc} (hb : hp[b]? = some (.log rows sz t .ro)) (hm : μ b rows.length = some (some l)) :
    ∃ φ' vs rw_, φ' l.blk = some (.cells vs t rw_) ∧ Rel μ φ' hp ha ∧ Ext μ φ hp ha μ φ' hp ha ∧ rows.length * sz ≤ vs.length ∧ PRL μ φ rows.flatten (vs.take (rows.length * sz)) ∧ (∀ r ∈ rows, r.length = sz) ∧ rows.length ≤ mostLen := by
  obtain ⟨vs, rw_, k1, k2, k3, k4, k5, k6, k7⟩ := log_at s hb hm
  obtain ⟨φ', hφ'⟩ : ∃ φ' : Frz, φ' = fun a => if a = l.blk then some (.cells vs t rw_) else φ a := ⟨_, rfl⟩
  have hat : φ' l.blk = some (.cells vs t rw_) := by rw [hφ']; exact if_pos rfl
  have hoth : ∀ a, a ≠ l.blk → φ' a = φ a := fun a h => by rw [hφ']; exact if_neg h
  have hf : FrzLe φ φ' := fun a x h => by
    by_cases ha0 : a = l.blk
    · subst ha0
      rw [hat, ← s.frz _ _ h, k1]
    · rw [hoth a ha0]; exact h
  refine ⟨φ', vs, rw_, hat, ⟨s.dom, fun b blk h1 h2 => ?_, s.inj, fun b2 blk2 l2 h1 h2 h3 => ?_, fun a x h => ?_, s.top⟩, ⟨Nat.le_refl _, Nat.le_refl _, RenLe.refl _, hf, fun _ _ _ => rfl, fun b blk l h1 h2 h3 => .inr ⟨b, blk, l, h1, h2, h3, rfl⟩⟩, k2, k3, k4, k7⟩
  · rcases s.rel b blk h1 h2 with h | ⟨l', blk', q1, q2, q3⟩
    · exact .inl h
    · exact .inr ⟨l', blk', q1, q2, q3.mono (RenLe.refl _) hf⟩
  · rw [hoth _ fun e => ?_]
    · exact s.sep b2 blk2 l2 h1 h2 h3
    · have := s.inj b2 b blk2 _ l2 l h1 (by rintro rfl; exact h2) hb (by simp) h3 hm e
      subst this
      rw [hb] at h1
      cases h1
      simp [ownB, ownMd] at h2
  · by_cases ha0 : a = l.blk
    · subst ha0; rw [hat] at h; cases h; exact k1
    · rw [hoth a ha0] at h; exact s.frz a x h
def FzOk (μ : Ren) (φ : Frz) (hp : PHeap) (ha : AHeap) (v : PV) (v' : Value) (q : PV × PHeap) : Prop := ∃ φ', PR μ φ' q.1 v' ∧ Rel μ φ' q.2 ha ∧ Ext μ φ hp ha μ φ' q.2 ha
theorem slice_cases {b lo n vr sz : Nat} {v' : Value} (h : PR μ φ (.ref b lo n vr sz) v') : (n = 0 ∧ ∃ a c, v' = .slice a 0 c ∧ (a = none → c = 0)) ∨ (0 < n ∧ ∃ l c, μ b vr = some (some l) ∧ lo + n ≤ vr ∧ (c = capU ∨ n ≤ c) ∧ v' = .slice (some ⟨l.blk, lo * sz, none⟩) n c) := by
  cases h with
  | ref0 _ a h => exact .inl ⟨rfl, a, 0, rfl, fun _ => rfl⟩
  | @ref _ _ _ _ _ c l h hn hc =>
    by_cases h0 : n = 0
    · subst h0; exact .inl ⟨rfl, _, c, rfl, fun h => by cases h⟩
    · refine .inr ⟨by omega, l, c, h, hn, ?_, rfl⟩
      rcases hc with ⟨rfl, _⟩ | ⟨_, h, _⟩
      · exact .inl rfl
      · exact .inr h
theorem PRL.split {xs ys : List PV} {zs : List Value} (h : PRL μ φ (xs ++ ys) zs) : ∃ z1 z2, zs = z1 ++ z2 ∧ PRL μ φ xs z1 ∧ PRL μ φ ys z2 := by
  refine ⟨zs.take xs.length, zs.drop xs.length, (List.take_append_drop _ _).symm, ?_, ?_⟩
  · have := h.take xs.length; rwa [List.take_left] at this
  · have := h.drop xs.length; rwa [List.drop_left] at this
theorem nil_frz {v : PV} {v' : Value} {sz : Nat} (h : PR μ φ v v') (hv : v = .nilS ∨ v = .emp) : PR μ φ (.frz sz []) v' := by
  rcases hv with rfl | rfl
  · cases h; exact .frzNil _
  · cases h with | emp a => exact frz_any _ _ _ fun _ => rfl
theorem cap_ok {n c k : Nat} (h : c = capU ∨ n ≤ c) (hn : n ≤ k) (hk : k ≤ mostLen) : n ≤ c := by
  rcases h with rfl | h
  · have : mostLen < capU := by decide
    omega
  · exact h
mutual
theorem fz_sim : ∀ (f : FS) {φ : Frz} {hp : PHeap} {v : PV} {v' : Value} {q : PV × PHeap}, Rel μ φ hp ha → PR μ φ v v' → fz f v hp = some q → FzOk μ φ hp ha v v' q
  | .keep, φ, hp, v, v', q, s, hv, h => by
    unfold fz at h
    cases h
    exact ⟨φ, hv, s, Ext.refl _ _ _ _⟩
  | .raw, φ, hp, v, v', q, s, hv, h => by
    unfold fz at h
    split at h
    · cases h
      cases hv
      exact ⟨φ, .emp none, s, Ext.refl _ _ _ _⟩
    · cases h
      exact ⟨φ, hv, s, Ext.refl _ _ _ _⟩
  | .flat sz0, φ, hp, v, v', q, s, hv, h => by
    unfold fz at h
    split at h
    · cases h; exact ⟨φ, nil_frz hv (.inl rfl), s, Ext.refl _ _ _ _⟩
    · cases h; exact ⟨φ, nil_frz hv (.inr rfl), s, Ext.refl _ _ _ _⟩
    · cases h; exact ⟨φ, hv, s, Ext.refl _ _ _ _⟩
    · rename_i b lo n vr sz
      rcases slice_cases hv with ⟨rfl, a, c, rfl, hc⟩ | ⟨h0, l, c, hm, hn, hc, rfl⟩
      · rw [if_pos rfl] at h
        cases h
        exact ⟨φ, frz_any _ _ _ hc, s, Ext.refl _ _ _ _⟩
      · rw [if_neg (by omega)] at h
        split at h
        · rename_i rows sz' t hb
          split at h
          · rename_i hc2
            obtain ⟨rfl, rfl, c1, c2⟩ := hc2
            cases h
            obtain ⟨φ', vs, rw_, q1, q2, q3, k2, k3, k4, k7⟩ := freeze_log s hb hm
            exact ⟨φ', frz_of_log q1 k2 k4 k7 c1 (cap_ok hc (by omega) k7) (by simp; omega) (fun r hr => k4 r (List.mem_of_mem_drop (List.mem_of_mem_take hr))) c2 ((part_rel k3 k4 c1).mono (RenLe.refl _) q3.phi), q2, q3⟩
          · cases h
        · rename_i rows sz' t hb
          split at h
          · rename_i hc2
            obtain ⟨rfl, rfl, c1, c2⟩ := hc2
            cases h
            obtain ⟨φ', vs, rw_, q1, q2, q3, k2, k3, k4, k7⟩ := ro_log s hb hm
            exact ⟨φ', frz_of_log q1 k2 k4 k7 c1 (cap_ok hc (by omega) k7) (by simp; omega) (fun r hr => k4 r (List.mem_of_mem_drop (List.mem_of_mem_take hr))) c2 ((part_rel k3 k4 c1).mono (RenLe.refl _) q3.phi), q2, q3⟩
          · cases h
        · cases h
    · cases h
  | .sl sz0 cs, φ, hp, v, v', q, s, hv, h => by
    unfold fz at h
    split at h
    · cases h; exact ⟨φ, nil_frz hv (.inl rfl), s, Ext.refl _ _ _ _⟩
    · cases h; exact ⟨φ, nil_frz hv (.inr rfl), s, Ext.refl _ _ _ _⟩
    · cases h; exact ⟨φ, hv, s, Ext.refl _ _ _ _⟩
    · rename_i b lo n vr sz
      rcases slice_cases hv with ⟨rfl, a, c, rfl, hc⟩ | ⟨h0, l, c, hm, hn, hc, rfl⟩
      · rw [if_pos rfl] at h
        cases h
        exact ⟨φ, frz_any _ _ _ hc, s, Ext.refl _ _ _ _⟩
      · rw [if_neg (by omega)] at h
        split at h
        · rename_i rows sz' t hb
          split at h
          · rename_i hc2
            obtain ⟨rfl, rfl, c1⟩ := hc2
            rw [Option.bind_eq_some_iff] at h
            obtain ⟨r, h1, h2⟩ := h
            split at h2
            · rename_i hpure
              cases h2
              obtain ⟨φ', vs, rw_, q1, q2, q3, k2, k3, k4, k7⟩ := freeze_log s hb hm
              obtain ⟨φ2, g1, g2, g3, g4, g5⟩ := fzRows_sim cs ((rows.drop lo).take n) q2 ((part_rel k3 k4 c1).mono (RenLe.refl _) q3.phi) h1
              refine ⟨φ2, frz_of_log (g3.phi _ _ q1) k2 k4 k7 c1 (cap_ok hc (by omega) k7) (by rw [g4]; simp; omega) (g5 _ fun r hr => k4 r (List.mem_of_mem_drop (List.mem_of_mem_take hr))) hpure g1, g2, q3.trans g3⟩
            · cases h2
          · cases h
        · rename_i rows sz' t hb
          split at h
          · rename_i hc2
            obtain ⟨rfl, rfl, c1⟩ := hc2
            rw [Option.bind_eq_some_iff] at h
            obtain ⟨r, h1, h2⟩ := h
            split at h2
            · rename_i hpure
              cases h2
              obtain ⟨φ', vs, rw_, q1, q2, q3, k2, k3, k4, k7⟩ := ro_log s hb hm
              obtain ⟨φ2, g1, g2, g3, g4, g5⟩ := fzRows_sim cs ((rows.drop lo).take n) q2 ((part_rel k3 k4 c1).mono (RenLe.refl _) q3.phi) h1
              refine ⟨φ2, frz_of_log (g3.phi _ _ q1) k2 k4 k7 c1 (cap_ok hc (by omega) k7) (by rw [g4]; simp; omega) (g5 _ fun r hr => k4 r (List.mem_of_mem_drop (List.mem_of_mem_take hr))) hpure g1, g2, q3.trans g3⟩
            · cases h2
          · cases h
        · cases h
    · cases h
  | .agg cs, φ, hp, v, v', q, s, hv, h => by
    unfold fz at h
    split at h
    · rw [Option.map_eq_some_iff] at h
      obtain ⟨r, h1, rfl⟩ := h
      cases hv with | agg hv =>
        obtain ⟨φ', g1, g2, g3⟩ := fzL_sim cs s hv h1
        exact ⟨φ', .agg g1, g2, g3⟩
    · cases h
theorem fzL_sim : ∀ (f : List FS) {φ : Frz} {hp : PHeap} {vs : List PV} {vs' : List Value} {q : List PV × PHeap}, Rel μ φ hp ha → PRL μ φ vs vs' → fzL f vs hp = some q → ∃ φ', PRL μ φ' q.1 vs' ∧ Rel μ φ' q.2 ha ∧ Ext μ φ hp ha μ φ' q.2 ha
  | [], φ, hp, vs, vs', q, s, hv, h => by
    cases hv with
    | nil => unfold fzL at h; cases h; exact ⟨φ, .nil, s, Ext.refl _ _ _ _⟩
    | cons => unfold fzL at h; cases h
  | f :: fs, φ, hp, vs, vs', q, s, hv, h => by
    cases hv with
    | nil => unfold fzL at h; cases h
    | cons h1 h2 =>
      unfold fzL at h
      simp only [Option.bind_eq_some_iff, Option.map_eq_some_iff] at h
      obtain ⟨a, ha1, r, hr, rfl⟩ := h
      obtain ⟨φ1, g1, g2, g3⟩ := fz_sim f s h1 ha1
      obtain ⟨φ2, k1, k2, k3⟩ := fzL_sim fs g2 (h2.mono g3.mu g3.phi) hr
      exact ⟨φ2, .cons (g1.mono k3.mu k3.phi) k1, k2, g3.trans k3⟩
theorem fzRows_sim : ∀ (f : List FS) (rows : List (List PV)) {φ : Frz} {hp : PHeap} {ws : List Value} {q : List (List PV) × PHeap}, Rel μ φ hp ha → PRL μ φ rows.flatten ws → fzRows f rows hp = some q →
    ∃ φ', PRL μ φ' q.1.flatten ws ∧ Rel μ φ' q.2 ha ∧ Ext μ φ hp ha μ φ' q.2 ha ∧ q.1.length = rows.length ∧ ∀ sz, (∀ r ∈ rows, r.length = sz) → ∀ r ∈ q.1, r.length = sz
  | f, [], φ, hp, ws, q, s, hv, h => by
    unfold fzRows at h
    cases h
    exact ⟨φ, hv, s, Ext.refl _ _ _ _, rfl, fun _ h => h⟩
  | f, r :: rows, φ, hp, ws, q, s, hv, h => by
    unfold fzRows at h
    simp only [Option.bind_eq_some_iff, Option.map_eq_some_iff] at h
    obtain ⟨a, ha1, p, hp1, rfl⟩ := h
    rw [List.flatten_cons] at hv
    obtain ⟨w1, w2, rfl, h1, h2⟩ := hv.split
    obtain ⟨φ1, g1, g2, g3⟩ := fzL_sim f s h1 ha1
    obtain ⟨φ2, k1, k2, k3, k4, k5⟩ := fzRows_sim f rows g2 (h2.mono g3.mu g3.phi) hp1
    refine ⟨φ2, ?_, k2, g3.trans k3, by simp [k4], fun sz hs r' hr' => ?_⟩
    · rw [List.flatten_cons]; exact (g1.mono k3.mu k3.phi).append k1
    · rcases List.mem_cons.1 hr' with rfl | hr'
      · have e1 := g1.length
        have e2 := h1.length
        have := hs r (by simp)
        omega
      · exact k5 sz (fun r hr => hs r (by simp [hr])) r' hr'
end
theorem BR.cut {μ' : Ren} {φ' : Frz} {K K0 n : Nat} {b : PBlk} {a a0 : ABlk} (hd : ∀ b k l, μ b k = some l → b < n) (h0 : BR μ φ K0 b a0) (h : BR μ' φ' K b a) : BR (Vm.cut μ' n) φ' K b a := by
  cases b with
  | box vs t md =>
    obtain ⟨_, _, _, _, g, _⟩ := h0
    obtain ⟨v, r, h1, h2, h3, h4⟩ := h
    exact ⟨v, r, h1, h2, PRL.lt hd h3 g, h4⟩
  | log rows sz t md =>
    obtain ⟨_, _, _, _, g, _⟩ := h0
    obtain ⟨v, r, h1, h2, h3, h4, h5, h6⟩ := h
    exact ⟨v, r, h1, h2, PRL.lt hd h3 g, h4, h5, h6⟩
  | map es =>
    obtain ⟨_, _, g1, g2⟩ := h0
    obtain ⟨e, h1, h2, h3⟩ := h
    exact ⟨e, h1, PRL.lt hd h2 g1, PRL.lt hd h3 g2⟩
  | loop =>
    obtain ⟨_, _, g⟩ := h0
    obtain ⟨e, h1, h2⟩ := h
    exact ⟨e, h1, PRL.lt hd h2 g⟩
  | dead => trivial
theorem BR.under {K n : Nat} {b : PBlk} {a : ABlk} (hl : ltB n b) (h : BR μ φ K b a) : BR (Vm.cut μ n) φ K b a := by
  cases b with
  | box vs t md => obtain ⟨v, r, h1, h2, h3, h4⟩ := h; exact ⟨v, r, h1, h2, h3.under hl, h4⟩
  | log rows sz t md => obtain ⟨v, r, h1, h2, h3, h4, h5, h6⟩ := h; exact ⟨v, r, h1, h2, h3.under hl, h4, h5, h6⟩
  | map es =>
    obtain ⟨e, h1, h2, h3⟩ := h
    exact ⟨e, h1, h2.under (fun x hx => by obtain ⟨y, hy, rfl⟩ := List.mem_map.1 hx; exact (hl y hy).1), h3.under (fun x hx => by obtain ⟨y, hy, rfl⟩ := List.mem_map.1 hx; exact (hl y hy).2)⟩
  | loop => obtain ⟨e, h1, h2⟩ := h; exact ⟨e, h1, h2.under hl⟩
  | dead => trivial
theorem trim_sim {μ0 : Ren} {φ0 : Frz} {h0 : PHeap} {ha0 : AHeap} (s0 : Rel μ0 φ0 h0 ha0) (s : Rel μ φ hp ha) (x : Ext μ0 φ0 h0 ha0 μ φ hp ha) {roots : List PV} {roots' : List Value} (hr : PRL μ φ roots roots') :
    ∃ μ', PRL μ' φ roots roots' ∧ Rel μ' φ (trim h0 roots hp) ha ∧ Ext μ0 φ0 h0 ha0 μ' φ (trim h0 roots hp) ha := by
  unfold trim
  split
  · rename_i hc
    obtain ⟨c1, c2⟩ := hc
    have hd : ∀ b k l, μ0 b k = some l → b < h0.length := fun b k l h => (s0.dom b k l h).1
    have hget : ∀ b blk, (hp.take h0.length)[b]? = some blk → b < h0.length ∧ hp[b]? = some blk := fun b blk h => by
      have := some_lt h
      rw [List.length_take] at this
      refine ⟨by omega, ?_⟩
      rwa [List.getElem?_take, if_pos (by omega)] at h
    have hc1 : ∀ {b k o}, cut μ h0.length b k = some o → μ b k = some o := fun h => cut_le _ _ _ _ _ h
    refine ⟨cut μ h0.length, hr.under c1, ⟨fun b k o h => ?_, fun b blk h hd' => ?_, fun b b' blk blk' l l' h1 h2 h3 h4 h5 h6 h7 => ?_, fun b blk l h1 h2 h3 => ?_, s.frz, fun b blk k o h1 h2 h3 => ?_⟩, ⟨?_, x.leA, fun b k l h => ?_, x.phi, x.frame, fun b blk l h1 h2 h3 => ?_⟩⟩
    · have h1 := hc1 h
      obtain ⟨q1, q2⟩ := s.dom b k o h1
      refine ⟨?_, q2⟩
      unfold cut at h
      split at h
      · rw [List.length_take]; omega
      · cases h
    · obtain ⟨hb, h⟩ := hget b blk h
      rcases s.rel b blk h hd' with ⟨q1, q2⟩ | ⟨l, blk', q1, q2, q3⟩
      · exact .inl ⟨by rw [cut_lt hb]; exact q1, q2⟩
      · refine .inr ⟨l, blk', by rw [cut_lt hb]; exact q1, q2, ?_⟩
        rcases c2 b hb with h5 | ⟨blk2, h5, h6⟩
        · rw [h] at h5
          rcases s0.rel b blk h5.symm hd' with ⟨_, _, _, _, rfl⟩ | ⟨l0, blk0, _, _, q4⟩
          · exact q3.under (fun x hx => by simp at hx)
          · exact BR.cut hd q4 q3
        · rw [h] at h5
          cases h5
          exact q3.under h6
    · exact s.inj b b' blk blk' l l' (hget b blk h1).2 h2 (hget b' blk' h3).2 h4 (hc1 h5) (hc1 h6) h7
    · exact s.sep b blk l (hget b blk h1).2 h2 (hc1 h3)
    · exact s.top b blk k o (hget b blk h1).2 h2 (hc1 h3)
    · rw [List.length_take]; have := x.le; omega
    · rw [cut_lt (hd _ _ _ h)]; exact x.mu _ _ _ h
    · exact x.wrt b blk l (hget b blk h1).2 h2 (hc1 h3)
  · exact ⟨μ, hr, s, x⟩
theorem lock_len (h : PHeap) : (lock h).length = h.length := by simp [lock]
theorem lock_get {h : PHeap} {b : Nat} {blk : PBlk} (e : (lock h)[b]? = some blk) : ∃ blk0, h[b]? = some blk0 ∧ blk = lockB blk0 := by
  unfold lock at e
  rw [List.getElem?_map, Option.map_eq_some_iff] at e
  obtain ⟨b0, h1, h2⟩ := e
  exact ⟨b0, h1, h2.symm⟩
theorem lockB_ver (b : PBlk) : ver (lockB b) = ver b := by
  unfold lockB
  split <;> rfl
theorem lockB_dead {b : PBlk} : lockB b = .dead ↔ b = .dead := by
  unfold lockB
  split <;> simp
theorem lockB_own {b : PBlk} : ownB (lockB b) ↔ ownB b := by
  unfold lockB
  split <;> simp [ownB, ownMd]
theorem lockB_wr (b : PBlk) : ¬ wrB (lockB b) := by
  intro h
  unfold lockB at h
  split at h <;> first | exact h | skip
  rename_i b h1 h2 h3 h4
  unfold wrB at h
  split at h
  · exact h1 _ _ rfl
  · exact h2 _ _ _ rfl
  · exact h3 _ rfl
  · exact h4 _ _ _ _ _ _ _ rfl
  · exact h
theorem lockB_BR {K : Nat} {b : PBlk} {a : ABlk} (h : BR μ φ K b a) : BR μ φ K (lockB b) a := by
  unfold lockB
  split
  · obtain ⟨v, r, h1, h2, h3, h4⟩ := h; exact ⟨v, r, h1, h2, h3, fun _ => h4 rfl⟩
  · obtain ⟨v, r, h1, h2, h3, h4, h5, h6, h7⟩ := h; exact ⟨v, r, h1, h2, h3, h4, h5, fun _ => h6 rfl, h7⟩
  · exact h
  · exact h
  · exact h
theorem lock_sim (s : Rel μ φ hp ha) : Rel μ φ (lock hp) ha where
  dom b k o h := by rw [lock_len]; exact s.dom b k o h
  rel b blk h hd := by
    obtain ⟨b0, h1, rfl⟩ := lock_get h
    rcases s.rel b b0 h1 (fun e => hd (lockB_dead.2 e)) with ⟨q1, sz, t, md, rfl⟩ | ⟨l, blk', q1, q2, q3⟩
    · refine .inl ⟨by rw [lockB_ver]; exact q1, ?_⟩
      cases md <;> exact ⟨_, _, _, rfl⟩
    · exact .inr ⟨l, blk', by rw [lockB_ver]; exact q1, q2, lockB_BR q3⟩
  inj b b' blk blk' l l' h1 h2 h3 h4 h5 h6 h7 := by
    obtain ⟨b0, k1, rfl⟩ := lock_get h1
    obtain ⟨b1, k2, rfl⟩ := lock_get h3
    rw [lockB_ver] at h5 h6
    exact s.inj b b' b0 b1 l l' k1 (fun e => h2 (lockB_dead.2 e)) k2 (fun e => h4 (lockB_dead.2 e)) h5 h6 h7
  sep b blk l h1 h2 h3 := by
    obtain ⟨b0, k1, rfl⟩ := lock_get h1
    rw [lockB_ver] at h3
    exact s.sep b b0 l k1 (lockB_own.1 h2) h3
  frz := s.frz
  top b blk k o h1 h2 h3 := by
    obtain ⟨b0, k1, rfl⟩ := lock_get h1
    rw [lockB_ver]
    exact s.top b b0 k o k1 (fun e => h2 (lockB_dead.2 e)) h3
theorem locked_same {μ' : Ren} {φ' : Frz} {hp' : PHeap} {ha' : AHeap} (x : Ext μ φ (lock hp) ha μ' φ' hp' ha') : ∀ a, a < ha.length → ha'[a]? = ha[a]? := fun a h => x.frame a h fun b blk l h1 h2 h3 => by
  obtain ⟨b0, k1, rfl⟩ := lock_get h1
  exact absurd h2 (lockB_wr b0)
theorem prefix_of {α : Type} {a b : List α} (hl : a.length ≤ b.length) (h : ∀ i, i < a.length → b[i]? = a[i]?) : a <+: b := by
  refine ⟨b.drop a.length, List.ext_getElem? fun i => ?_⟩
  by_cases hi : i < a.length
  · rw [List.getElem?_append_left hi, h i hi]
  · rw [List.getElem?_append_right (by omega), List.getElem?_drop]; congr 1; omega
theorem unl_sim {μ' : Ren} {φ' : Frz} {hp' : PHeap} {ha' : AHeap} (s : Rel μ φ hp ha) (s' : Rel μ' φ' hp' ha') (x : Ext μ φ (lock hp) ha μ' φ' hp' ha') (hpre : lock hp <+: hp') :
    ha <+: ha' ∧ Rel μ' φ' (hp ++ hp'.drop hp.length) ha' ∧ Ext μ φ hp ha μ' φ' (hp ++ hp'.drop hp.length) ha' := by
  have hsame := locked_same x
  obtain ⟨t, ht⟩ := hpre
  have hlen : hp.length ≤ hp'.length := by rw [← ht, List.length_append, lock_len]; omega
  have hlo : ∀ b, b < hp.length → (hp ++ hp'.drop hp.length)[b]? = hp[b]? := fun b hb => List.getElem?_append_left hb
  have hhi : ∀ b, hp.length ≤ b → (hp ++ hp'.drop hp.length)[b]? = hp'[b]? := fun b hb => by
    rw [List.getElem?_append_right hb, List.getElem?_drop]; congr 1; omega
  have hlk : ∀ b blk, b < hp.length → hp[b]? = some blk → hp'[b]? = some (lockB blk) := fun b blk hb h => by
    rw [← ht, List.getElem?_append_left (by rw [lock_len]; exact hb)]
    unfold lock
    rw [List.getElem?_map, h]
    rfl
  -- a block of the new heap, as the callee left it
  have hany : ∀ b blk, (hp ++ hp'.drop hp.length)[b]? = some blk → ∃ blk', hp'[b]? = some blk' ∧ ver blk' = ver blk ∧ (blk' = .dead ↔ blk = .dead) ∧ (ownB blk' ↔ ownB blk) ∧ (b < hp.length ∧ hp[b]? = some blk ∨ hp.length ≤ b ∧ blk' = blk) := fun b blk h => by
    by_cases hb : b < hp.length
    · rw [hlo b hb] at h
      exact ⟨_, hlk b blk hb h, lockB_ver _, lockB_dead, lockB_own, .inl ⟨hb, h⟩⟩
    · rw [hhi b (by omega)] at h
      exact ⟨blk, h, rfl, Iff.rfl, Iff.rfl, .inr ⟨by omega, rfl⟩⟩
  refine ⟨prefix_of x.leA hsame, ⟨fun b k o h => ?_, fun b blk h hd => ?_, fun b b' blk blk' l l' h1 h2 h3 h4 h5 h6 h7 => ?_, fun b blk l h1 h2 h3 => ?_, s'.frz, fun b blk k o h1 h2 h3 => ?_⟩, ⟨by simp, x.leA, x.mu, x.phi, fun a h1 h2 => hsame a h1, fun b blk l h1 h2 h3 => ?_⟩⟩
  · obtain ⟨q1, q2⟩ := s'.dom b k o h
    exact ⟨by rw [List.length_append, List.length_drop]; omega, q2⟩
  · obtain ⟨blk', k1, k2, k3, k4, k5⟩ := hany b blk h
    rcases k5 with ⟨hb, k5⟩ | ⟨hb, rfl⟩
    · rcases s.rel b blk k5 hd with ⟨q1, q2⟩ | ⟨l, ab, q1, q2, q3⟩
      · exact .inl ⟨x.mu _ _ _ q1, q2⟩
      · exact .inr ⟨l, ab, x.mu _ _ _ q1, by rw [hsame _ ((s.dom _ _ _ q1).2 l rfl)]; exact q2, q3.mono x.mu x.phi⟩
    · exact s'.rel b _ k1 hd
  · obtain ⟨c1, d1, d2, d3, d4, d5⟩ := hany b blk h1
    obtain ⟨c2, e1, e2, e3, e4, e5⟩ := hany b' blk' h3
    exact s'.inj b b' c1 c2 l l' d1 (fun e => h2 (d3.1 e)) e1 (fun e => h4 (e3.1 e)) (by rw [d2]; exact h5) (by rw [e2]; exact h6) h7
  · obtain ⟨c1, d1, d2, d3, d4, d5⟩ := hany b blk h1
    exact s'.sep b c1 l d1 (d4.2 h2) (by rw [d2]; exact h3)
  · obtain ⟨c1, d1, d2, d3, d4, d5⟩ := hany b blk h1
    have := s'.top b c1 k o d1 (fun e => h2 (d3.1 e)) h3
    omega
  · obtain ⟨c1, d1, d2, d3, d4, d5⟩ := hany b blk h1
    rcases d5 with ⟨hb, d5⟩ | ⟨hb, rfl⟩
    · rcases s.rel b blk d5 h2.live with ⟨q1, q2⟩ | ⟨l0, ab, q1, q2, q3⟩
      · have := x.mu _ _ _ q1
        rw [h3] at this
        cases this
      · have := x.mu _ _ _ q1
        rw [h3] at this
        cases this
        exact .inr ⟨b, blk, l, d5, h2, q1, rfl⟩
    · rcases x.wrt b c1 l d1 h2 h3 with h4 | ⟨b0, blk0, l0, q1, q2, _⟩
      · exact .inl h4
      · obtain ⟨b1, _, rfl⟩ := lock_get q1
        exact absurd q2 (lockB_wr _)
end Go.Vm
/- Code of the value machine is code of the abstract machine. -/
namespace Go.Vm
open Go.Am
variable {μ : Ren} {φ : Frz} {hp : PHeap} {ha : AHeap}
def EnvR (μ : Ren) (φ : Frz) (e : PEnv) (ea : Env) : Prop := ∀ i, PR μ φ (e i) (ea i)
theorem EnvR.mono {μ' : Ren} {φ' : Frz} {e : PEnv} {ea : Env} (h : EnvR μ φ e ea) (hm : RenLe μ μ') (hf : FrzLe φ φ') : EnvR μ' φ' e ea := fun i => (h i).mono hm hf
theorem EnvR.upd {e : PEnv} {ea : Env} (h : EnvR μ φ e ea) {v : PV} {v' : Value} (hv : PR μ φ v v') (i : Nat) : EnvR μ φ (pupd e i v) (Am.upd ea i v') := fun j => by
  unfold pupd Am.upd
  cases Nat.beq i j
  · exact h j
  · exact hv
theorem EnvR.updO {e : PEnv} {ea : Env} (h : EnvR μ φ e ea) {v : PV} {v' : Value} (hv : PR μ φ v v') (d : Option Nat) : EnvR μ φ (pupdO e d v) (Am.updO ea d v') := by
  cases d with
  | none => exact h
  | some i => exact h.upd hv i
theorem EnvR.junk {e : PEnv} {ea : Env} (h : EnvR μ φ e ea) (l : List Nat) : EnvR μ φ (pjunk e l) (junkAll ea l) := by
  induction l with
  | nil => exact h
  | cons i r ih => exact ih.upd (.junk _) i
theorem headP {vs : List PV} {vs' : List Value} (h : PRL μ φ vs vs') : PR μ φ (vs.headD undefP) (vs'.headD Go.undef) := by
  cases h with
  | nil => exact PR.undef
  | cons h _ => exact h
theorem tailP {vs : List PV} {vs' : List Value} (h : PRL μ φ vs vs') : PRL μ φ vs.tail vs'.tail := by
  cases h with
  | nil => exact .nil
  | cons _ h => exact h
theorem EnvR.setMany {e : PEnv} {ea : Env} : ∀ (l : List Nat) {vs : List PV} {vs' : List Value}, EnvR μ φ e ea → PRL μ φ vs vs' → EnvR μ φ (psetMany e l vs) (Am.setMany ea l vs')
  | [], _, _, h, _ => h
  | i :: r, _, _, h, hv => (EnvR.setMany r h (tailP hv)).upd (headP hv) i
theorem EnvR.getMany {e : PEnv} {ea : Env} (h : EnvR μ φ e ea) : ∀ (l : List Nat), PRL μ φ (pgetMany e l) (Am.getMany ea l)
  | [] => .nil
  | i :: r => .cons (h i) (EnvR.getMany h r)
theorem EnvR.val {e : PEnv} {ea : Env} (h : EnvR μ φ e ea) (x : Operand) : PR μ φ (pval e x) (Am.val ea x) := by
  cases x with
  | tmp t => exact h t
  | const v => exact PR.ofV v
  | global g => exact .junk _
  | func f => exact .func f .nil .nil
theorem EnvR.vals {e : PEnv} {ea : Env} (h : EnvR μ φ e ea) : ∀ (l : List Operand), PRL μ φ (pvals e l) (Am.vals ea l)
  | [] => .nil
  | x :: r => .cons (h.val x) (EnvR.vals h r)
theorem EnvR.valO {e : PEnv} {ea : Env} (h : EnvR μ φ e ea) (x : Option Operand) : OR μ φ (pvalO e x) (Am.valO ea x) := by
  cases x with
  | none => exact .none
  | some x => exact .some (h.val x)
theorem EnvR.valP {e : PEnv} {ea : Env} (h : EnvR μ φ e ea) : ∀ (l : List (Nat × Nat × Operand)), PPR μ φ (pvalP e l) (Am.valP ea l)
  | [] => .nil
  | (i, n, x) :: r => .cons (h.val x) (EnvR.valP h r)
def CallR (Γ : PCallee) (Γa : Am.Callee) : Prop := ∀ f args hp r hp', Γ f args hp = some (r, hp') → ∀ μ φ ha args', Rel μ φ hp ha → PRL μ φ args args' →
  ∃ r' ha' μ' φ', Γa f args' ha = some (r', ha') ∧ PR μ' φ' r r' ∧ Rel μ' φ' hp' ha' ∧ Ext μ φ hp ha μ' φ' hp' ha'
theorem yield_args {b : Nat} {args : List PV} {args' : List Value} {l : Am.Loc} (h : μ b 0 = some (some l)) (ha : PRL μ φ args args') : PRL μ φ (.ptr b 0 :: args) (ptrTo l.blk 0 :: args') := .cons (.ptr h) ha
theorem callVP_sim {Γ : PCallee} {Γa : Am.Callee} (hΓ : CallR Γ Γa) (s : Rel μ φ hp ha) {f : PV} {f' : Value} {args : List PV} {args' : List Value} {r : PV} {hp' : PHeap} (hf : PR μ φ f f') (hargs : PRL μ φ args args') (h : callVP Γ f args hp = some (r, hp')) :
    ∃ r' ha' μ' φ', callVf Γa f' args' ha = some (r', ha') ∧ PR μ' φ' r r' ∧ Rel μ' φ' hp' ha' ∧ Ext μ φ hp ha μ' φ' hp' ha' := by
  unfold callVP at h
  split at h
  · rename_i g xs ys
    cases hf with | @func _ _ _ xs' ys' hx hy =>
      cases hb : Nat.blt g yieldId with
      | false => rw [hb] at h; cases h
      | true =>
        rw [hb] at h
        obtain ⟨r', ha', μ', φ', q1, q⟩ := hΓ _ _ _ _ _ h μ φ ha _ s ((hx.append hargs).append hy)
        exact ⟨r', ha', μ', φ', by unfold callVf; simp only [hb, cond_true]; exact q1, q⟩
  · rename_i b
    cases hf with | @yield _ l hm =>
      obtain ⟨r', ha', μ', φ', q1, q⟩ := hΓ _ _ _ _ _ h μ φ ha _ s (yield_args hm hargs)
      exact ⟨r', ha', μ', φ', q1, q⟩
  · cases h
theorem callFP_sim {Γ : PCallee} {Γa : Am.Callee} (hΓ : CallR Γ Γa) (s : Rel μ φ hp ha) {f : PV} {f' : Value} {args : List PV} {args' : List Value} {r : PV} {hp' : PHeap} (hf : PR μ φ f f') (hargs : PRL μ φ args args') (h : callFP Γ f args hp = some (r, hp')) :
    ∃ r' ha' μ' φ', callFf Γa f' args' ha = some (r', ha') ∧ PR μ' φ' r r' ∧ Rel μ' φ' hp' ha' ∧ Ext μ φ hp ha μ' φ' hp' ha' := by
  unfold callFP at h
  split at h
  · rename_i g xs ys
    cases hf with | @func _ _ _ xs' ys' hx hy =>
      cases hb : Nat.blt g yieldId with
      | false => rw [hb] at h; cases h
      | true =>
        rw [hb] at h
        obtain ⟨r', ha', μ', φ', q1, q⟩ := hΓ _ _ _ _ _ h μ φ ha _ s ((hx.append hargs).append hy)
        exact ⟨r', ha', μ', φ', by unfold callFf; simp only [hb, cond_true]; exact q1, q⟩
  · cases h
theorem repP_rel {zero : List PV} {zero' : List Value} (h : PRL μ φ zero zero') (n : Nat) : PRL μ φ (repP zero n) (rep zero' n) := by
  induction n with
  | zero => exact .nil
  | succ n ih => exact h.append ih
theorem repP_len (zero : List PV) (n : Nat) : (repP zero n).length = n * zero.length := by
  induction n with
  | zero => simp [repP]
  | succ n ih => rw [repP, List.length_append, ih, Nat.add_mul]; omega
theorem fillP_len : ∀ {ps : List (Nat × Nat × PV)} {cs r : List PV}, fillP cs ps = some r → r.length = cs.length := by
  intro ps
  induction ps with
  | nil => intro cs r h; cases h; rfl
  | cons p ps ih =>
    intro cs r h
    obtain ⟨off, size, v⟩ := p
    simp only [fillP] at h
    split at h
    · rename_i hc
      have := ih h
      rw [this]
      simp
      omega
    · cases h
theorem chunk_len (sz n : Nat) (l : List PV) : (chunk sz n l).length = n := by
  induction n generalizing l with
  | zero => rfl
  | succ n ih => simp [chunk, ih]
theorem chunk_flat (sz n : Nat) (l : List PV) (h : l.length = n * sz) : (chunk sz n l).flatten = l := by
  induction n generalizing l with
  | zero => rw [Nat.zero_mul] at h; rw [List.eq_nil_of_length_eq_zero h]; rfl
  | succ n ih =>
    rw [Nat.add_mul] at h
    rw [chunk, List.flatten_cons, ih _ (by rw [List.length_drop]; omega), List.take_append_drop]
theorem chunk_row (sz n : Nat) (l : List PV) (h : l.length = n * sz) : ∀ r ∈ chunk sz n l, r.length = sz := by
  induction n generalizing l with
  | zero => intro r hr; cases hr
  | succ n ih =>
    rw [Nat.add_mul] at h
    intro r hr
    rcases List.mem_cons.1 hr with rfl | hr
    · rw [List.length_take]; omega
    · exact ih _ (by rw [List.length_drop]; omega) r hr
theorem Rel.pushF (s : Rel μ φ hp ha) (blk' : ABlk) : ∃ φ', φ' ha.length = some blk' ∧ FrzLe φ φ' ∧ Rel μ φ' hp (ha ++ [blk']) ∧ Ext μ φ hp ha μ φ' hp (ha ++ [blk']) := by
  have hφ0 : ∀ a blk, φ a = some blk → a < ha.length := fun a blk e => some_lt (s.frz a blk e)
  obtain ⟨φ', hφ'⟩ : ∃ φ' : Frz, φ' = fun a => if a = ha.length then some blk' else φ a := ⟨_, rfl⟩
  have hat : φ' ha.length = some blk' := by rw [hφ']; exact if_pos rfl
  have hoth : ∀ a, a ≠ ha.length → φ' a = φ a := fun a h => by rw [hφ']; exact if_neg h
  have hf : FrzLe φ φ' := fun a x h => by rw [hoth a (by have := hφ0 a x h; omega)]; exact h
  refine ⟨φ', hat, hf, ⟨fun b k o h => ?_, fun b blk h hd => ?_, s.inj, fun b blk l h1 h2 h3 => ?_, fun a x h => ?_, s.top⟩, ⟨Nat.le_refl _, by simp, RenLe.refl _, hf, fun a h _ => List.getElem?_append_left h, fun b blk l h1 h2 h3 => .inr ⟨b, blk, l, h1, h2, h3, rfl⟩⟩⟩
  · obtain ⟨q1, q2⟩ := s.dom b k o h
    exact ⟨q1, fun l e => by rw [List.length_append]; have := q2 l e; omega⟩
  · rcases s.rel b blk h hd with h | ⟨l, ab, q1, q2, q3⟩
    · exact .inl h
    · exact .inr ⟨l, ab, q1, by rw [List.getElem?_append_left ((s.dom _ _ _ q1).2 l rfl)]; exact q2, q3.mono (RenLe.refl _) hf⟩
  · rw [hoth _ (by have := (s.dom _ _ _ h3).2 l rfl; omega)]
    exact s.sep b blk l h1 h2 h3
  · by_cases ha0 : a = ha.length
    · subst ha0; rw [hat] at h; cases h; simp
    · rw [hoth a ha0] at h
      rw [List.getElem?_append_left (hφ0 a x h)]
      exact s.frz a x h
section
variable {R Ra : Type} {Q : R → Ra → Prop}
def KR (Q : R → Ra → Prop) (μ : Ren) (φ : Frz) (hp : PHeap) (ha : AHeap) (k : PV → PHeap → Option R) (ka : Value → AHeap → Option Ra) : Prop :=
  ∀ v hp' r v' ha' μ' φ', k v hp' = some r → PR μ' φ' v v' → Rel μ' φ' hp' ha' → Ext μ φ hp ha μ' φ' hp' ha' → ∃ ra, ka v' ha' = some ra ∧ Q r ra
theorem pure_sim {x : Option PV} {y : Option Value} {k : PV → PHeap → Option R} {ka : Value → AHeap → Option Ra} (s : Rel μ φ hp ha) (hk : KR Q μ φ hp ha k ka) (hxy : ∀ v, x = some v → ∃ v', y = some v' ∧ PR μ φ v v') {r : R} (h : (x.bind fun v => k v hp) = some r) :
    ∃ ra, (y.bind fun v => ka v ha) = some ra ∧ Q r ra := by
  rw [Option.bind_eq_some_iff] at h
  obtain ⟨v, h1, h2⟩ := h
  obtain ⟨v', h3, h4⟩ := hxy v h1
  obtain ⟨ra, h5, h6⟩ := hk v hp r v' ha μ φ h2 h4 s (Ext.refl _ _ _ _)
  exact ⟨ra, by rw [h3]; exact h5, h6⟩
theorem popK_sim {Γ : PCallee} {Γa : Am.Callee} (hΓ : CallR Γ Γa) (o : POp) {e : PEnv} {ea : Env} (he : EnvR μ φ e ea) (s : Rel μ φ hp ha) {k : PV → PHeap → Option R} {ka : Value → AHeap → Option Ra} (hk : KR Q μ φ hp ha k ka) {r : R} (h : popK Γ o e hp k = some r) :
    ∃ ra, opK Γa (eraseO o) ea ha ka = some ra ∧ Q r ra := by
  cases o with
  | growNil t sz =>
    simp only [popK] at h
    split at h
    · obtain ⟨q1, q2⟩ := s.ghost sz t .rw
      exact hk _ _ _ _ _ _ _ h (.ref0 _ none (put_self _ _ _ _)) q1 q2
    · cases h
  | growBox isNew t el sz =>
    simp only [popK] at h
    split at h
    · obtain ⟨q1, q2⟩ := s.ghost sz el .rw
      have hr : PR (put μ hp.length 0 none) φ (.ref hp.length 0 0 0 sz) (.slice none 0 0) := .ref0 _ none (put_self _ _ _ _)
      obtain ⟨g1, g2⟩ := q1.push (.box [.ref hp.length 0 0 0 sz] t .rw) (.cells [.slice none 0 0] t true) 0 ⟨_, true, rfl, by simp, .cons (hr.mono (put_new q1 _ _) (FrzLe.refl _)) .nil, fun _ => rfl⟩
      have hlen : (hp ++ [PBlk.log [] sz el .rw]).length = hp.length + 1 := by simp
      rw [hlen] at g1 g2
      have e1 : hp ++ [PBlk.log [] sz el .rw] ++ [PBlk.box [.ref hp.length 0 0 0 sz] t .rw] = hp ++ [PBlk.log [] sz el .rw, PBlk.box [.ref hp.length 0 0 0 sz] t .rw] := by simp
      rw [e1] at g1 g2
      cases isNew
      · exact hk _ _ _ (ptrTo ha.length 0) _ _ _ h (.ptr (put_self _ _ _ _)) g1 (q2.trans g2)
      · exact hk _ _ _ (ptrTo ha.length 0) _ _ _ h (.ptr (put_self _ _ _ _)) g1 (q2.trans g2)
    · cases h
  | buildF t zero n parts =>
    simp only [popK] at h
    split at h
    · rename_i hc
      rw [Option.bind_eq_some_iff] at h
      obtain ⟨l, h1, h2⟩ := h
      split at h2
      · rename_i hpure
        obtain ⟨l', h3, h4⟩ := fillP_sim (repP_rel (PRL.ofV1 zero) n) (he.valP parts) h1
        obtain ⟨φ', q1, q2, q3, q4⟩ := s.pushF (.cells l' t true)
        have hl : l.length = n * zero.length := by rw [fillP_len h1, repP_len]; simp [zeros]
        have hl' := h4.length
        have hcu : mostLen < capU := by decide
        obtain ⟨ra, k1, k2⟩ := hk _ _ _ (.slice (some ⟨ha.length, 0, none⟩) n n) _ _ _ h2 (.frz (vs := l') (t := t) (rw := true) (chunk_len _ _ _).symm ⟨Nat.le_refl _, by omega⟩ (chunk_row _ _ _ hl) q1 (by omega) (by rw [chunk_flat _ _ _ hl]; exact hpure) (by
          rw [chunk_flat _ _ _ hl, List.drop_zero, ← hl, hl', List.take_length]; exact h4.mono (RenLe.refl _) q2)) q3 q4
        refine ⟨ra, ?_, k2⟩
        show ((fillf _ _).bind _) = _
        rw [h3]
        exact k1
      · cases h2
    · cases h
  | a o =>
    cases o with
    | move x => exact hk _ _ _ _ _ _ _ h (he.val x) s (Ext.refl _ _ _ _)
    | pick c a b => exact pure_sim s hk (fun v h => pickP_sim (he.val _) (he.val _) (he.val _) h) h
    | bin op x y => exact pure_sim s hk (fun v h => binP_sim (he.val _) (he.val _) h) h
    | eqBool neg x y => exact pure_sim s hk (fun v h => eqBoolP_sim (he.val _) (he.val _) h) h
    | isNil t neg x =>
      simp only [popK, isNilK] at h
      split at h
      · rename_i hu
        obtain ⟨b, hb⟩ := unkNil_sim (neg := neg) (he.val x) hu
        unfold both at h
        split at h
        · rename_i hab
          have h' : k (.bool b) hp = some r := by
            cases b
            · rw [← hab]; exact h
            · exact h
          obtain ⟨ra, k1, k2⟩ := hk _ _ _ _ _ _ _ h' (.bool b) s (Ext.refl _ _ _ _)
          exact ⟨ra, by show ((isNilKf _ _ _).bind _) = _; rw [hb]; exact k1, k2⟩
        · cases h
      · exact pure_sim s hk (fun v h => isNilP_sim (he.val _) h) h
    | eqAgg ks neg x y => exact pure_sim s hk (fun v h => eqAggP_sim (he.val _) (he.val _) h) h
    | un op x => exact pure_sim s hk (fun v h => unP_sim (he.val _) h) h
    | conv t x => exact pure_sim s hk (fun v h => convP_sim (he.val _) h) h
    | strId x => exact pure_sim s hk (fun v h => strIdP_sim (he.val _) h) h
    | len str x => exact pure_sim s hk (fun v h => lenP_sim (he.val _) h) h
    | extract x i => exact pure_sim s hk (fun v h => extractP_sim (he.val _) h) h
    | field agg off size x => exact pure_sim s hk (fun v h => fieldP_sim (he.val _) h) h
    | indexArr n agg size x i => exact pure_sim s hk (fun v h => indexArrP_sim (he.val _) (he.val _) h) h
    | indexStr x i => exact pure_sim s hk (fun v h => indexStrP_sim (he.val _) (he.val _) h) h
    | fieldAddr off x => exact pure_sim s hk (fun v h => fieldAddrP_sim (he.val _) h) h
    | indexAddr size x i => exact pure_sim s hk (fun v h => indexAddrP_sim (he.val _) (he.val _) h) h
    | indexAddrArr n size x i => exact pure_sim s hk (fun v h => indexAddrArrP_sim (he.val _) (he.val _) h) h
    | nilCheck x => exact pure_sim s hk (fun v h => nilCheckP_sim (he.val _) h) h
    | slice size x lo hi mx => exact pure_sim s hk (fun v h => sliceP_sim (he.val _) (he.valO _) (he.valO _) (he.valO _) h) h
    | sliceStr x lo hi => exact pure_sim s hk (fun v h => sliceStrP_sim (he.val _) (he.valO _) (he.valO _) h) h
    | sliceArr => cases h
    | max xs => exact pure_sim s hk (fun v h => fold1P_sim (fun _ _ _ _ _ => max2P_sim) (he.vals _) h) h
    | min xs => exact pure_sim s hk (fun v h => fold1P_sim (fun _ _ _ _ _ => min2P_sim) (he.vals _) h) h
    | build zero parts =>
      simp only [popK, Option.bind_eq_some_iff] at h
      obtain ⟨l, h1, h2⟩ := h
      obtain ⟨l', h3, h4⟩ := fillP_sim (PRL.ofV1 zero) (he.valP parts) h1
      obtain ⟨ra, k1, k2⟩ := hk _ _ _ _ _ _ _ h2 (.agg h4) s (Ext.refl _ _ _ _)
      exact ⟨ra, by show ((fillf _ _).bind _) = _; rw [h3]; exact k1, k2⟩
    | mkFunc f first captured => exact hk _ _ _ _ _ _ _ h (.func f (he.vals _) (he.vals _)) s (Ext.refl _ _ _ _)
    | mkIface t x => exact hk _ _ _ _ _ _ _ h (.iface t (he.val x)) s (Ext.refl _ _ _ _)
    | box t x =>
      by_cases hn : (cellsP (pval e x)).length = 0
      · have hnil : cellsP (pval e x) = [] := List.eq_nil_of_length_eq_zero hn
        simp only [popK, hnil] at h
        obtain ⟨q1, q2⟩ := s.push (.box [] t .rw) (.cells (cellsL (Am.val ea x)) t true) 0 ⟨_, true, rfl, by simp, .nil, fun _ => rfl⟩
        exact hk _ _ _ (ptrTo ha.length 0) _ _ _ h (.ptr (put_self _ _ _ _)) q1 q2
      · have hcl := (he.val x).cells hn
        obtain ⟨q1, q2⟩ := s.push (.box (cellsP (pval e x)) t .rw) (.cells (cellsL (Am.val ea x)) t true) 0 ⟨_, true, rfl, by rw [hcl.length]; exact Nat.le_refl _, by rw [hcl.length, List.take_length]; exact hcl.mono (put_new s _ _) (FrzLe.refl _), fun _ => rfl⟩
        exact hk _ _ _ (ptrTo ha.length 0) _ _ _ h (.ptr (put_self _ _ _ _)) q1 q2
    | new t zero =>
      have hcl : PRL μ φ (zeros zero) zero := PRL.ofV1 zero
      obtain ⟨q1, q2⟩ := s.push (.box (zeros zero) t .rw) (.cells zero t true) 0 ⟨_, true, rfl, by rw [hcl.length]; exact Nat.le_refl _, by rw [hcl.length, List.take_length]; exact hcl.mono (put_new s _ _) (FrzLe.refl _), fun _ => rfl⟩
      exact hk _ _ _ (ptrTo ha.length 0) _ _ _ h (.ptr (put_self _ _ _ _)) q1 q2
    | buildSlice t zero n parts =>
      simp only [popK] at h
      split at h
      · rename_i hc
        rw [Option.bind_eq_some_iff] at h
        obtain ⟨l, h1, h2⟩ := h
        obtain ⟨l', h3, h4⟩ := fillP_sim (repP_rel (PRL.ofV1 zero) n) (he.valP parts) h1
        have hl : l.length = n * zero.length := by rw [fillP_len h1, repP_len]; simp [zeros]
        have hl' := h4.length
        have hcu : mostLen < capU := by decide
        have hcl := chunk_len zero.length n l
        have hcf := chunk_flat zero.length n l hl
        obtain ⟨q1, q2⟩ := s.push (.log (chunk zero.length n l) zero.length t .rw) (.cells l' t true) n ⟨_, true, rfl, by rw [hcl]; omega, by rw [hcl, hcf, ← hl, hl', List.take_length]; exact h4.mono (put_new s _ _) (FrzLe.refl _), chunk_row _ _ _ hl, by omega, fun _ => rfl, by rw [hcl]; exact hc.2.2⟩
        obtain ⟨ra, k1, k2⟩ := hk _ _ _ (.slice (some ⟨ha.length, 0, none⟩) n n) _ _ _ h2 (by
          have := PR.ref (μ := put μ hp.length (ver (.log (chunk zero.length n l) zero.length t .rw)) (some ⟨ha.length, n⟩)) (φ := φ) (b := hp.length) (lo := 0) (n := n) (sz := zero.length) (c := n) (put_self _ _ _ _) (by simp [ver, hcl]) (.inr ⟨by omega, by omega, by simp⟩)
          rw [Nat.zero_mul] at this
          simpa [ver, hcl] using this) q1 q2
        exact ⟨ra, by show ((fillf _ _).bind _) = _; rw [h3]; exact k1, k2⟩
      · split at h
        · obtain ⟨φ', q1, q2, q3, q4⟩ := s.pushF (.cells [] t true)
          exact hk _ _ _ (.slice (some ⟨ha.length, 0, none⟩) 0 0) _ _ _ h (.emp _) q3 q4
        · cases h
    | mkSlice t zero n c =>
      simp only [popK] at h
      split at h
      · rw [Option.bind_eq_some_iff] at h
        obtain ⟨⟨v, hp'⟩, h1, h2⟩ := h
        obtain ⟨v', ha', μ', q1, q2, q3, q4⟩ := mkSliceP_sim s (PRL.ofV1 zero) (he.val n) (he.val c) h1
        obtain ⟨ra, k1, k2⟩ := hk _ _ _ _ _ _ _ h2 q2 q3 q4
        exact ⟨ra, by show ((mkSlicef _ _ _ _ _).bind _) = _; rw [q1]; exact k1, k2⟩
      · cases h
    | load agg n x => exact pure_sim s hk (fun v h => loadP_sim s (he.val _) h) h
    | store n x v =>
      simp only [popK, Option.bind_eq_some_iff] at h
      obtain ⟨hp', h1, h2⟩ := h
      obtain ⟨ha', q1, q2, q3⟩ := storeP_sim s (he.val x) (he.val v) h1
      obtain ⟨ra, k1, k2⟩ := hk _ _ _ _ _ _ _ h2 PR.undef q2 q3
      exact ⟨ra, by show ((storef _ _ _ _).bind _) = _; rw [q1]; exact k1, k2⟩
    | append t size x y =>
      simp only [popK, Option.bind_eq_some_iff] at h
      obtain ⟨⟨v, hp'⟩, h1, h2⟩ := h
      obtain ⟨v', ha', μ', q1, q2, q3, q4⟩ := appendP_sim s (he.val x) (he.val y) h1
      obtain ⟨ra, k1, k2⟩ := hk _ _ _ _ _ _ _ h2 q2 q3 q4
      exact ⟨ra, by show ((appendf _ _ _ _ _).bind _) = _; rw [q1]; exact k1, k2⟩
    | copy size d x =>
      simp only [popK, Option.bind_eq_some_iff] at h
      obtain ⟨⟨v, hp'⟩, h1, h2⟩ := h
      obtain ⟨v', ha', q1, q2, q3, q4⟩ := copyP_sim s (he.val d) (he.val x) h1
      obtain ⟨ra, k1, k2⟩ := hk _ _ _ _ _ _ _ h2 q2 q3 q4
      exact ⟨ra, by show ((copyf _ _ _ _).bind _) = _; rw [q1]; exact k1, k2⟩
    | clear zero x =>
      simp only [popK, Option.bind_eq_some_iff] at h
      obtain ⟨⟨v, hp'⟩, h1, h2⟩ := h
      obtain ⟨v', ha', q1, q2, q3, q4⟩ := clearP_sim s (PRL.ofV1 zero) (he.val x) h1
      obtain ⟨ra, k1, k2⟩ := hk _ _ _ _ _ _ _ h2 q2 q3 q4
      exact ⟨ra, by show ((clearf _ _ _).bind _) = _; rw [q1]; exact k1, k2⟩
    | appendN t size zero x y =>
      simp only [popK, Option.bind_eq_some_iff] at h
      obtain ⟨⟨v, hp'⟩, h1, h2⟩ := h
      obtain ⟨v', ha', μ', q1, q2, q3, q4⟩ := appendNP_sim s (PRL.ofV1 zero) (he.val x) (he.val y) h1
      obtain ⟨ra, k1, k2⟩ := hk _ _ _ _ _ _ _ h2 q2 q3 q4
      exact ⟨ra, by show ((appendNf _ _ _ _ _ _).bind _) = _; rw [q1]; exact k1, k2⟩
    | mkMap =>
      obtain ⟨q1, q2⟩ := s.push (.map [] .rw) (.map []) 0 ⟨[], rfl, .nil, .nil⟩
      exact hk _ _ _ (.map (some ha.length)) _ _ _ h (.map (put_self _ _ _ _)) q1 q2
    | lookup t zero ok x i => exact pure_sim s hk (fun v h => lookupP_sim s (PR.ofV zero) (he.val _) (he.val _) h) h
    | mapSet t x i v =>
      simp only [popK, Option.bind_eq_some_iff] at h
      obtain ⟨hp', h1, h2⟩ := h
      obtain ⟨ha', q1, q2, q3⟩ := setMapP_sim s (he.val x) (he.val i) (he.val v) h1
      obtain ⟨ra, k1, k2⟩ := hk _ _ _ _ _ _ _ h2 PR.undef q2 q3
      exact ⟨ra, by show ((setMapf _ _ _ _ _).bind _) = _; rw [q1]; exact k1, k2⟩
    | lenMap x => exact pure_sim s hk (fun v h => lenMapP_sim s (he.val _) h) h
    | bytesToStr x => exact pure_sim s hk (fun v h => bytesToStrP_sim s (he.val _) h) h
    | call f args =>
      simp only [popK, Option.bind_eq_some_iff] at h
      obtain ⟨⟨v, hp'⟩, h1, h2⟩ := h
      obtain ⟨v', ha', μ', φ', q1, q2, q3, q4⟩ := hΓ _ _ _ _ _ h1 μ φ ha _ s (he.vals args)
      obtain ⟨ra, k1, k2⟩ := hk _ _ _ _ _ _ _ h2 q2 q3 q4
      exact ⟨ra, by show ((Γa _ _ _).bind _) = _; rw [q1]; exact k1, k2⟩
    | callV f args =>
      simp only [popK, Option.bind_eq_some_iff] at h
      obtain ⟨⟨v, hp'⟩, h1, h2⟩ := h
      obtain ⟨v', ha', μ', φ', q1, q2, q3, q4⟩ := callVP_sim hΓ s (he.val f) (he.vals args) h1
      obtain ⟨ra, k1, k2⟩ := hk _ _ _ _ _ _ _ h2 q2 q3 q4
      exact ⟨ra, by show ((callVf _ _ _ _).bind _) = _; rw [q1]; exact k1, k2⟩
    | fail => cases h
end
end Go.Vm


set_option linter.unusedSimpArgs false
set_option linter.unusedVariables false
/- Steps, code, functions, rounds and runs of the value machine are the abstract machine's. -/
namespace Go.Vm
open Go.Am
variable {μ : Ren} {φ : Frz} {hp : PHeap} {ha : AHeap}
section
variable {R Ra : Type} {Q : R → Ra → Prop}
def SR (Q : R → Ra → Prop) (μ : Ren) (φ : Frz) (hp : PHeap) (ha : AHeap) (K : PEnv → PHeap → Option R) (Ka : Env → AHeap → Option Ra) : Prop :=
  ∀ e hp' r ea ha' μ' φ', K e hp' = some r → EnvR μ' φ' e ea → Rel μ' φ' hp' ha' → Ext μ φ hp ha μ' φ' hp' ha' → ∃ ra, Ka ea ha' = some ra ∧ Q r ra
theorem SR.ext {μ' : Ren} {φ' : Frz} {hp' : PHeap} {ha' : AHeap} {K : PEnv → PHeap → Option R} {Ka : Env → AHeap → Option Ra} (h : SR Q μ φ hp ha K Ka) (x : Ext μ φ hp ha μ' φ' hp' ha') : SR Q μ' φ' hp' ha' K Ka :=
  fun e h1 r ea h2 m f hk he s y => h e h1 r ea h2 m f hk he s (x.trans y)
theorem rel_more (s : Rel μ φ hp ha) {ha' : AHeap} (hl : ha.length ≤ ha'.length) (hs : ∀ a, a < ha.length → ha'[a]? = ha[a]?) : Rel μ φ hp ha' where
  dom b k o h := ⟨(s.dom b k o h).1, fun l e => Nat.lt_of_lt_of_le ((s.dom b k o h).2 l e) hl⟩
  rel b blk h1 h2 := by
    rcases s.rel b blk h1 h2 with q | ⟨l, blk', q1, q2, q3⟩
    · exact .inl q
    · exact .inr ⟨l, blk', q1, by rw [hs _ (List.getElem?_eq_some_iff.1 q2).1]; exact q2, q3⟩
  inj := s.inj
  sep := s.sep
  frz a blk h := by
    have := s.frz a blk h
    rw [hs _ (List.getElem?_eq_some_iff.1 this).1]; exact this
  top := s.top
theorem scal1_pr {μ' : Ren} {φ' : Frz} {v : PV} {v' : Value} (h : PR μ φ v v') (hs : scal1 v = true) : PR μ' φ' v v' := by
  cases h <;> first | (cases hs; done) | exact .int _ _ | exact .bool _ | exact .str _
theorem scal1_prl {μ' : Ren} {φ' : Frz} : ∀ {l : List PV} {l' : List Value}, PRL μ φ l l' → l.all scal1 = true → PRL μ' φ' l l'
  | [], _, h, _ => by cases h; exact .nil
  | x :: l, _, h, hs => by
    rw [List.all_cons, Bool.and_eq_true] at hs
    cases h with
    | cons h1 h2 => exact .cons (scal1_pr h1 hs.1) (scal1_prl h2 hs.2)
theorem scal_pr {μ' : Ren} {φ' : Frz} {v : PV} {v' : Value} (h : PR μ φ v v') (hs : scal v = true) : PR μ' φ' v v' := by
  cases h with
  | tuple h => exact .tuple (scal1_prl h hs)
  | int => exact .int _ _
  | bool => exact .bool _
  | str => exact .str _
  | _ => cases hs
theorem fzE_sim : ∀ (ts : List (Nat × FS)) {φ : Frz} {hp : PHeap} {e : PEnv} {ea : Env} {k : PEnv → PHeap → Option R} {r : R}, Rel μ φ hp ha → EnvR μ φ e ea → fzE ts e hp k = some r → ∃ φ' e1 h1, k e1 h1 = some r ∧ EnvR μ φ' e1 ea ∧ Rel μ φ' h1 ha ∧ Ext μ φ hp ha μ φ' h1 ha
  | [], _, _, _, _, _, _, s, he, h => ⟨_, _, _, h, he, s, Ext.refl _ _ _ _⟩
  | p :: ts, _, _, e, _, k, r, s, he, h => by
    simp only [fzE, Option.bind_eq_some_iff] at h
    obtain ⟨q1, h1, h2⟩ := h
    obtain ⟨φ', g1, g2, g3⟩ := fz_sim p.2 s (he p.1) h1
    obtain ⟨φ2, e1, hh, k0, k1, k2, k3⟩ := fzE_sim ts g2 (fun i => by
      unfold pupd
      cases hi : Nat.beq p.1 i with
      | false => exact (he i).mono g3.mu g3.phi
      | true =>
        obtain rfl := Nat.eq_of_beq_eq_true hi
        exact g1) h2
    exact ⟨φ2, e1, hh, k0, k1, k2, g3.trans k3⟩
theorem growP_sim {μ : Ren} {φ : Frz} {hp : PHeap} {ha : AHeap} (s : Rel μ φ hp ha) {v : PV} {v' : Value} {el : TypeId} {sz : Nat} {q : PV × PHeap} (hv : PR μ φ v v') (h : growP v el sz hp = some q) : ∃ μ', PR μ' φ q.1 v' ∧ Rel μ' φ q.2 ha ∧ Ext μ φ hp ha μ' φ q.2 ha := by
  unfold growP at h
  split at h
  · split at h
    · cases h
      cases hv
      obtain ⟨q1, q2⟩ := s.ghost sz el .rw
      exact ⟨_, .ref0 _ none (put_self _ _ _ _), q1, q2⟩
    · cases h
  · cases h
    exact ⟨_, hv, s, Ext.refl _ _ _ _⟩
theorem farP_sim (s : Rel μ φ hp ha) {x y : PV} {x' y' : Value} (hx : PR μ φ x x') (hy : PR μ φ y y') (h : farP x y hp = true) : Am.farV x' y' := by
  unfold farP at h
  split at h
  · cases hx; cases hy; exact ⟨_, _, rfl, .inl ⟨none, rfl⟩⟩
  · cases hx; cases hy; exact ⟨_, _, rfl, .inl ⟨_, rfl⟩⟩
  · rename_i b lo n vr sz b' o
    split at h
    · rename_i rows sz2 t md vs t2 md2 h1 h2
      have hv : rows.length = vr := Nat.eq_of_beq_eq_true h
      cases hy with
      | @ptr _ _ l' h4 =>
        cases hx with
        | ref0 _ a _ => exact ⟨_, _, rfl, .inl ⟨_, rfl⟩⟩
        | @ref _ _ _ _ _ c l h3 _ _ =>
          refine ⟨_, _, rfl, .inr ⟨_, _, _, _, rfl, fun e => ?_⟩⟩
          have := s.inj b b' _ _ l l' h1 (fun h => by cases h) h2 (fun h => by cases h) (by rw [show ver (.log rows sz2 t md) = vr from hv]; exact h3) h4 e
          subst this
          rw [h1] at h2
          cases h2
    · cases h
  · cases h
theorem farL_sim (s : Rel μ φ hp ha) {e : PEnv} {ea : Env} (he : EnvR μ φ e ea) : ∀ {ps : List (Nat × Nat)}, farL ps e hp = true → ∀ p ∈ ps, Am.farV (ea p.1) (ea p.2)
  | [], _, p, hp => by cases hp
  | q :: ps, h, p, hp => by
    simp only [farL, Bool.and_eq_true] at h
    rcases List.mem_cons.1 hp with rfl | hp
    · exact farP_sim s (he _) (he _) h.1
    · exact farL_sim s he h.2 p hp
theorem psteps_sim {Γ : PCallee} {Γa : Am.Callee} (hΓ : CallR Γ Γa) : ∀ (st : PSteps) {μ : Ren} {φ : Frz} {hp : PHeap} {ha : AHeap} {K : PEnv → PHeap → Option R} {Ka : Env → AHeap → Option Ra} {e : PEnv} {ea : Env} {r : R},
    EnvR μ φ e ea → Rel μ φ hp ha → SR Q μ φ hp ha K Ka → pstepsK Γ st K e hp = some r → ∃ ra, stepsK Γa (eraseP st) Ka ea ha = some ra ∧ Q r ra := by
  intro st
  induction st with
  | nil => intro μ φ hp ha K Ka e ea r he s hK h; exact hK _ _ _ _ _ _ _ h he s (Ext.refl _ _ _ _)
  | op d o chk rest ih =>
    intro μ φ hp ha K Ka e ea r he s hK h
    cases chk with
    | far ps =>
      simp only [pstepsK, guardP] at h
      split at h
      · rename_i hf
        simp only [eraseP, stepsK]
        refine popK_sim hΓ o he s (ka := fun v h' => chkK (.far ps) ea ha h' (stepsK Γa (eraseP rest) Ka (Am.updO ea d v) h')) (fun v hp' r v' ha' μ' φ' hk hv s' x => ?_) h
        obtain ⟨ra, k1, k2⟩ := ih ((he.mono x.mu x.phi).updO hv d) s' (hK.ext x) hk
        refine ⟨ra, ?_, k2⟩
        simp only [chkK]
        rw [if_pos (farL_sim s he hf)]
        exact k1
      · cases h
    | no =>
      simp only [pstepsK] at h
      simp only [eraseP, stepsK]
      refine popK_sim hΓ o he s (ka := fun v h' => chkK .no ea ha h' (stepsK Γa (eraseP rest) Ka (Am.updO ea d v) h')) (fun v hp' r v' ha' μ' φ' hk hv s' x => ?_) h
      exact ih ((he.mono x.mu x.phi).updO hv d) s' (hK.ext x) hk
    | calm =>
      simp only [pstepsK] at h
      simp only [eraseP, stepsK]
      refine popK_sim hΓ o he (lock_sim s) (ka := fun v h' => chkK .calm ea ha h' (stepsK Γa (eraseP rest) Ka (Am.updO ea d v) h')) (fun v hp' r v' ha' μ' φ' hk hv s' x => ?_) h
      unfold unl at hk
      split at hk
      · rename_i hpre
        obtain ⟨q1, q2, q3⟩ := unl_sim s s' x hpre
        obtain ⟨ra, k1, k2⟩ := ih ((he.mono x.mu x.phi).updO hv d) q2 (hK.ext q3) hk
        refine ⟨ra, ?_, k2⟩
        simp only [chkK, sameQ]
        rw [if_pos q1]
        exact k1
      · cases hk
  | sc d c isAnd tmp body y rest ihb ihr =>
    intro μ φ hp ha K Ka e ea r he s hK h
    simp only [pstepsK, K1, scP] at h
    simp only [eraseP, stepsK, J1, scK]
    have hc := he c
    split at h
    · rename_i t ht
      rw [ht] at hc
      generalize hea : ea c = w at hc
      cases hc
      simp only
      split at h
      · rename_i hti
        rw [if_pos hti]
        refine ihb he s (fun e' hp' r ea' ha' μ' φ' hk he' s' x => ?_) h
        exact ihr (((he.mono x.mu x.phi).junk tmp).upd (he'.val y) d) s' (hK.ext x) hk
      · rename_i hti
        rw [if_neg hti]
        exact ihr ((he.junk tmp).upd (.bool _) d) s hK h
    · cases h
  | fz t sh rest ih =>
    intro μ φ hp ha K Ka e ea r he s hK h
    simp only [pstepsK, Option.bind_eq_some_iff] at h
    obtain ⟨q, h1, h2⟩ := h
    obtain ⟨φ', q1, q2, q3⟩ := fz_sim sh s (he t) h1
    simp only [eraseP]
    refine ih (fun i => ?_) q2 (hK.ext q3) h2
    unfold pupd
    cases hi : Nat.beq t i with
    | false => exact (he i).mono q3.mu q3.phi
    | true =>
      obtain rfl := Nat.eq_of_beq_eq_true hi
      exact q1
  | gr t el sz rest ih =>
    intro μ φ hp ha K Ka e ea r he s hK h
    simp only [pstepsK, Option.bind_eq_some_iff] at h
    obtain ⟨q, h1, h2⟩ := h
    obtain ⟨μ', q1, q2, q3⟩ := growP_sim s (he t) h1
    simp only [eraseP]
    refine ih (fun i => ?_) q2 (hK.ext q3) h2
    unfold pupd
    cases hi : Nat.beq t i with
    | false => exact (he i).mono q3.mu q3.phi
    | true =>
      obtain rfl := Nat.eq_of_beq_eq_true hi
      exact q1
  | bor ts d o chk rest ih =>
    intro μ φ hp ha K Ka e ea r he s hK h
    have h : chk ≠ .calm ∧ chk ≠ .no → False := fun hn => by
      cases chk with
      | no => exact hn.2 rfl
      | calm => exact hn.1 rfl
      | far ps => simp only [pstepsK] at h; cases h
    rename_i h0
    have hb : fzE ts e hp (fun e1 h1 => popK Γ o e1 (lock h1) fun v _ => if scal v = true then pstepsK Γ rest K (pupdO e d v) hp else none) = some r := by
      cases chk with
      | no => exact h0
      | calm => exact h0
      | far ps => exact (h ⟨fun h => (by cases h), fun h => (by cases h)⟩).elim
    obtain ⟨φ1, e1, h1, h2, g1, g2, g3⟩ := fzE_sim ts s he hb
    simp only [eraseP, stepsK]
    refine popK_sim hΓ o g1 (lock_sim g2) (ka := fun v h' => chkK chk ea ha h' (stepsK Γa (eraseP rest) Ka (Am.updO ea d v) h')) (fun v hp' r v' ha' μ' φ' hk hv s' x => ?_) h2
    have hs : ∀ a, a < ha.length → ha'[a]? = ha[a]? := fun a hlt => x.frame a hlt fun b blk l hb hw _ => by
      obtain ⟨b0, _, rfl⟩ := lock_get hb
      exact absurd hw (lockB_wr b0)
    have hpre : ha <+: ha' := by
      rw [List.prefix_iff_eq_take]
      apply List.ext_getElem?
      intro i
      by_cases hi : i < ha.length
      · rw [List.getElem?_take_of_lt hi, hs i hi]
      · rw [List.getElem?_eq_none (by omega), List.getElem?_eq_none (by rw [List.length_take]; omega)]
    split at hk
    · rename_i hsc
      have s2 := rel_more s x.leA hs
      obtain ⟨ra, k1, k2⟩ := ih (he.updO (scal_pr hv hsc) d) s2 (hK.ext ⟨Nat.le_refl _, x.leA, RenLe.refl _, FrzLe.refl _, fun a hlt _ => hs a hlt, fun b blk l h1 h2 h3 => .inr ⟨b, blk, l, h1, h2, h3, rfl⟩⟩) hk
      refine ⟨ra, ?_, k2⟩
      cases chk with
      | no => exact k1
      | calm => simp only [chkK, sameQ]; rw [if_pos hpre]; exact k1
      | far ps => exact (h ⟨fun h => (by cases h), fun h => (by cases h)⟩).elim
    · cases hk
def CR (Q : R → Ra → Prop) (μ : Ren) (φ : Frz) (hp : PHeap) (ha : AHeap) (K : AExit → PEnv → PHeap → Option R) (Ka : AExit → Env → AHeap → Option Ra) : Prop :=
  ∀ o e hp' r ea ha' μ' φ', K o e hp' = some r → EnvR μ' φ' e ea → Rel μ' φ' hp' ha' → Ext μ φ hp ha μ' φ' hp' ha' → ∃ ra, Ka o ea ha' = some ra ∧ Q r ra
theorem CR.ext {μ' : Ren} {φ' : Frz} {hp' : PHeap} {ha' : AHeap} {K : AExit → PEnv → PHeap → Option R} {Ka : AExit → Env → AHeap → Option Ra} (h : CR Q μ φ hp ha K Ka) (x : Ext μ φ hp ha μ' φ' hp' ha') : CR Q μ' φ' hp' ha' K Ka :=
  fun o e h1 r ea h2 m f hk he s y => h o e h1 r ea h2 m f hk he s (x.trans y)
theorem kill_sim (s : Rel μ φ hp ha) {b : Nat} {blk : PBlk} {l : Am.Loc} (hb : hp[b]? = some blk) (hw : wrB blk) (e : μ b (ver blk) = some (some l)) : Rel μ φ (hp.set b .dead) (ha.set l.blk .dead) ∧ Ext μ φ hp ha μ φ (hp.set b .dead) (ha.set l.blk .dead) := by
  have hbl := some_lt hb
  have hsep := s.sep b blk l hb hw.own e
  constructor
  · refine s.step b .dead (by simp) (by simp) (RenLe.refl _) (FrzLe.refl _) (set_at hbl) (fun b' h => set_oth h) (fun b' k h => rfl) (fun k l' h => by rw [List.length_set]; exact (s.dom _ _ _ h).2 l' rfl) (fun b' blk' l' h1 h2 h3 h4 => set_oth fun h5 => h1 (s.inj b' b blk' blk l' l h2 h3 hb hw.live h4 e h5))
      (fun a x h => ?_) (fun b' blk l' hb' h1 h2 h3 => s.sep b' blk l' h2 h1 h3) (fun k o h _ => absurd rfl h) (fun h => absurd rfl h)
    rw [set_oth (by rintro rfl; rw [hsep] at h; cases h)]
    exact s.frz a x h
  · exact Ext.step b .dead (by simp) (by simp) (RenLe.refl _) (FrzLe.refl _) (set_at hbl) (fun b' h => set_oth h) (fun b' k h => rfl) (fun a h1 h2 => set_oth fun h => h2 blk l hb hw e h.symm) (fun l' h1 _ => h1.elim)
theorem loop_at {b : Nat} {vals : List PV} {lv ps : List Nat} {ab bb : PCode} {st : LSt} {pend : Option AExit} {md : Md} {l : Am.Loc} (s : Rel μ φ hp ha) (hb : hp[b]? = some (.loop vals lv ps ab bb st pend md)) (e : μ b 0 = some (some l)) :
    ∃ vals', ha[l.blk]? = some (.loop vals' lv ps (eraseK ab) (eraseK bb) st pend) ∧ PRL μ φ vals vals' := by
  rcases s.rel b _ hb (by simp) with ⟨_, _, _, _, h⟩ | ⟨l', blk', h1, h2, h3⟩
  · cases h
  · have : μ b 0 = some (some l') := h1
    rw [e] at this
    cases this
    obtain ⟨es', rfl, k1⟩ := h3
    exact ⟨es', h2, k1⟩
theorem pcode_sim {Γ : PCallee} {Γa : Am.Callee} (hΓ : CallR Γ Γa) (n : Nat) : ∀ (c : PCode) {μ : Ren} {φ : Frz} {hp : PHeap} {ha : AHeap} {K : AExit → PEnv → PHeap → Option R} {Ka : AExit → Env → AHeap → Option Ra} {e : PEnv} {ea : Env} {r : R},
    EnvR μ φ e ea → Rel μ φ hp ha → CR Q μ φ hp ha K Ka → pcodeK Γ n c K e hp = some r → ∃ ra, codeK Γa n (eraseK c) Ka ea ha = some ra ∧ Q r ra := by
  intro c
  induction c with
  | skip => intro μ φ hp ha K Ka e ea r he s hK h; exact hK _ _ _ _ _ _ _ _ h he s (Ext.refl _ _ _ _)
  | region d st => intro μ φ hp ha K Ka e ea r he s hK h; exact psteps_sim hΓ st he s (fun e' hp' r ea' ha' μ' φ' hk he' s' x => hK _ _ _ _ _ _ _ _ hk he' s' x) h
  | seq a b iha ihb =>
    intro μ φ hp ha K Ka e ea r he s hK h
    refine iha he s (fun o e' hp' r ea' ha' μ' φ' hk he' s' x => ?_) h
    cases o with
    | normal => exact ihb he' s' (hK.ext x) hk
    | exit i => exact hK _ _ _ _ _ _ _ _ hk he' s' x
    | ret => exact hK _ _ _ _ _ _ _ _ hk he' s' x
  | cond c mod tmp a b iha ihb =>
    intro μ φ hp ha K Ka e ea r he s hK h
    simp only [pcodeK, KL, ifP] at h
    simp only [eraseK, codeK, JL, ifK]
    have hc := he.val c
    have fine : CR Q μ φ hp ha (fun o e' h' => match o with | .normal => K .normal (psetMany (pjunk e tmp) mod (pgetMany e' mod)) h' | .exit i => K (.exit i) e' h' | .ret => K .ret e' h')
        (fun o e' h' => match o with | .normal => Ka .normal (Am.setMany (junkAll ea tmp) mod (Am.getMany e' mod)) h' | .exit i => Ka (.exit i) e' h' | .ret => Ka .ret e' h') := by
      intro o e' hp' r ea' ha' μ' φ' hk he' s' x
      cases o with
      | normal => exact hK _ _ _ _ _ _ _ _ hk (((he.mono x.mu x.phi).junk tmp).setMany mod (he'.getMany mod)) s' x
      | exit i => exact hK _ _ _ _ _ _ _ _ hk he' s' x
      | ret => exact hK _ _ _ _ _ _ _ _ hk he' s' x
    split at h
    · rename_i t ht
      rw [ht] at hc
      generalize hea : Am.val ea c = w at hc
      cases hc
      simp only
      split at h
      · rename_i htt
        rw [if_pos htt]
        exact iha he s fine h
      · rename_i htt
        rw [if_neg htt]
        exact ihb he s fine h
    · cases h
  | block id mod tmp c ih =>
    intro μ φ hp ha K Ka e ea r he s hK h
    simp only [pcodeK, KL] at h
    simp only [eraseK, codeK, JL]
    refine ih he s (fun o e' hp' r ea' ha' μ' φ' hk he' s' x => ?_) h
    have nrm : ∀ r, K .normal (psetMany (pjunk e tmp) mod (pgetMany e' mod)) hp' = some r → ∃ ra, Ka .normal (Am.setMany (junkAll ea tmp) mod (Am.getMany ea' mod)) ha' = some ra ∧ Q r ra := fun r hk =>
      hK _ _ _ _ _ _ _ _ hk (((he.mono x.mu x.phi).junk tmp).setMany mod (he'.getMany mod)) s' x
    cases o with
    | normal => exact nrm _ hk
    | exit i =>
      simp only at hk ⊢
      cases hi : Nat.beq i id with
      | true => rw [hi] at hk; exact nrm _ hk
      | false => rw [hi] at hk; exact hK _ _ _ _ _ _ _ _ hk he' s' x
    | ret => exact hK _ _ _ _ _ _ _ _ hk he' s' x
  | loop mod tmp c ih =>
    intro μ φ hp ha K Ka e ea r he s hK h
    simp only [pcodeK] at h
    simp only [eraseK, codeK]
    have main : ∀ (m : Nat) {vs : List PV} {vs' : List Value} {μ1 : Ren} {φ1 : Frz} {h1 : PHeap} {ha1 : AHeap} {r : R}, PRL μ1 φ1 vs vs' → Rel μ1 φ1 h1 ha1 → Ext μ φ hp ha μ1 φ1 h1 ha1 →
        loopP (fun cont vs h1 => pcodeK Γ n c (fun o e h2 => match o with | .normal => cont (pgetMany e mod) (trim hp (pgetMany e mod) h2) | .exit i => K (.exit i) e h2 | .ret => K .ret e h2) (psetMany (pjunk e tmp) mod vs) h1) m vs h1 = some r →
        ∃ ra, loopN (fun cont vs h => codeK Γa n (eraseK c) (fun o e h => match o with | .normal => cont (Am.getMany e mod) h | .exit i => Ka (.exit i) e h | .ret => Ka .ret e h) (Am.setMany (junkAll ea tmp) mod vs) h) m vs' ha1 = some ra ∧ Q r ra := by
      intro m
      induction m with
      | zero => intro vs vs' μ1 φ1 h1 ha1 r _ _ _ h; cases h
      | succ m ihm =>
        intro vs vs' μ1 φ1 h1 ha1 r hv s1 x1 h
        simp only [loopP] at h
        simp only [loopN]
        refine ih (((he.mono x1.mu x1.phi).junk tmp).setMany mod hv) s1 (fun o e' hp' r ea' ha' μ' φ' hk he' s' x => ?_) h
        cases o with
        | normal =>
          obtain ⟨μ3, q1, q2, q3⟩ := trim_sim s s' (x1.trans x) (he'.getMany mod)
          exact ihm q1 q2 q3 hk
        | exit i => exact hK _ _ _ _ _ _ _ _ hk he' s' (x1.trans x)
        | ret => exact hK _ _ _ _ _ _ _ _ hk he' s' (x1.trans x)
    exact main n (he.getMany mod) s (Ext.refl _ _ _ _) h
  | exit i => intro μ φ hp ha K Ka e ea r he s hK h; exact hK _ _ _ _ _ _ _ _ h he s (Ext.refl _ _ _ _)
  | ret => intro μ φ hp ha K Ka e ea r he s hK h; exact hK _ _ _ _ _ _ _ _ h he s (Ext.refl _ _ _ _)
  | rangeF g lv ps ab bb iha ihb =>
    intro μ φ hp ha K Ka e ea r he s hK h
    simp only [pcodeK, Option.bind_eq_some_iff] at h
    obtain ⟨⟨v, h1⟩, hc, o, ho, h⟩ := h
    obtain ⟨q1, q2⟩ := s.push (.loop (pgetMany e lv) lv ps ab bb .ready none .rw) (.loop (Am.getMany ea lv) lv ps (eraseK ab) (eraseK bb) .ready none) 0 ⟨_, rfl, (he.getMany lv).mono (put_new s _ _) (FrzLe.refl _)⟩
    obtain ⟨v', ha1, μ1, φ1, k1, k2, k3, k4⟩ := callFP_sim hΓ q1 ((he.val g).mono q2.mu q2.phi) (.cons (.yield (put_self _ _ _ _)) .nil) hc
    have hm : μ1 hp.length 0 = some (some ⟨ha.length, 0⟩) := k4.mu _ _ _ (put_self _ _ _ _)
    have x1 := q2.trans k4
    have hpend : ∃ vals lv' ps' ab' bb' st pend, h1[hp.length]? = some (.loop vals lv' ps' ab' bb' st pend .rw) ∧ (st = .ready ∨ st = .done) ∧ o = pend := by
      unfold pendOfP at ho
      simp only at ho
      split at ho
      · rename_i hb; cases ho; exact ⟨_, _, _, _, _, _, _, hb, .inl rfl, rfl⟩
      · rename_i hb; cases ho; exact ⟨_, _, _, _, _, _, _, hb, .inr rfl, rfl⟩
      · cases ho
    obtain ⟨vals, lv', ps', ab', bb', st, pend, hb, hst, rfl⟩ := hpend
    obtain ⟨vals', hb', _⟩ := loop_at k3 hb hm
    have hpa : pendOf ha.length ha1 = some o := by
      unfold pendOf
      simp only at hb'
      rw [hb']
      rcases hst with rfl | rfl <;> rfl
    obtain ⟨g1, g2⟩ := kill_sim k3 hb trivial hm
    obtain ⟨μ3, _, g4, g5⟩ := trim_sim (roots := []) (roots' := []) s g1 (x1.trans g2) .nil
    have he3 : EnvR μ3 φ1 e ea := he.mono g5.mu g5.phi
    simp only [eraseK, codeK]
    rw [k1]
    simp only [Option.bind_some]
    rw [hpa]
    simp only [Option.bind_some]
    cases o with
    | none => exact hK _ _ _ _ _ _ _ _ h he3 g4 g5
    | some x => exact hK _ _ _ _ _ _ _ _ h he3 g4 g5
theorem presults_sim (s : Rel μ φ hp ha) {e : PEnv} {ea : Env} (he : EnvR μ φ e ea) : ∀ (rs : List ARes) {k : List PV → Option R} {ka : List Value → Option Ra} {r : R}, (∀ vs vs' r, k vs = some r → PRL μ φ vs vs' → ∃ ra, ka vs' = some ra ∧ Q r ra) → presultsK rs e hp k = some r → ∃ ra, resultsK rs ea ha ka = some ra ∧ Q r ra
  | [], k, ka, r, hk, h => hk _ _ _ h .nil
  | .tmp t :: rs, k, ka, r, hk, h => presults_sim s he rs (fun vs vs' r h1 h2 => hk _ _ _ h1 (.cons (he t) h2)) h
  | .cell t agg n :: rs, k, ka, r, hk, h => by
    simp only [presultsK, Option.bind_eq_some_iff] at h
    obtain ⟨v, h1, h2⟩ := h
    obtain ⟨v', k1, k2⟩ := loadP_sim s (he t) h1
    obtain ⟨ra, k3, k4⟩ := presults_sim s he rs (fun vs vs' r h1 h2 => hk _ _ _ h1 (.cons k2 h2)) h2
    exact ⟨ra, by simp only [resultsK, k1, Option.bind_some]; exact k3, k4⟩
end
def Ans (μ : Ren) (φ : Frz) (hp : PHeap) (ha : AHeap) (r : PV × PHeap) (ra : Value × AHeap) : Prop := ∃ μ' φ', PR μ' φ' r.1 ra.1 ∧ Rel μ' φ' r.2 ra.2 ∧ Ext μ φ hp ha μ' φ' r.2 ra.2
theorem single_sim {vs : List PV} {vs' : List Value} (h : PRL μ φ vs vs') : PR μ φ (singleP vs) (single vs') := by
  cases h with
  | nil => exact .tuple .nil
  | cons h hs =>
    cases hs with
    | nil => exact h
    | cons h' hs' => exact .tuple (.cons h (.cons h' hs'))
theorem pinit_sim {args : List PV} {args' : List Value} (h : PRL μ φ args args') : EnvR μ φ (pinit args) (initEnv args') := by
  intro i
  unfold pinit initEnv
  rw [List.getD_eq_getElem?_getD, List.getD_eq_getElem?_getD]
  cases hi : args[i]? with
  | none =>
    have : args'[i]? = none := by
      rw [List.getElem?_eq_none_iff] at hi ⊢
      rw [← h.length]; exact hi
    rw [this]
    exact PR.undef
  | some x =>
    obtain ⟨y, h1, h2⟩ := h.get hi
    rw [h1]
    exact h2
theorem pfun_sim {Γ : PCallee} {Γa : Am.Callee} (hΓ : CallR Γ Γa) (n : Nat) (F : PFun) (s : Rel μ φ hp ha) {args : List PV} {args' : List Value} (hargs : PRL μ φ args args') {r : PV × PHeap} (h : pfunK Γ n F args hp = some r) :
    ∃ ra, funK Γa n F.erase args' ha = some ra ∧ Ans μ φ hp ha r ra := by
  unfold pfunK at h
  unfold funK
  cases hn : Nat.beq args.length F.nargs with
  | false => rw [hn] at h; cases h
  | true =>
    rw [hn] at h
    have hn' : Nat.beq args'.length F.erase.nargs = true := by rw [← hargs.length]; exact hn
    rw [hn']
    simp only [cond_true] at h ⊢
    have fine : ∀ {e : PEnv} {hp' : PHeap} {r : PV × PHeap} {ea : Env} {ha' : AHeap} {μ' : Ren} {φ' : Frz}, (presultsK F.results e hp' fun vs => finP F.shapes hp hp' vs) = some r → EnvR μ' φ' e ea → Rel μ' φ' hp' ha' → Ext μ φ hp ha μ' φ' hp' ha' →
        ∃ ra, (resultsK F.results ea ha' fun vs => some (single vs, gc (single vs) ha ha')) = some ra ∧ Ans μ φ hp ha r ra := by
      intro e hp' r ea ha' μ' φ' hk he' s' x
      refine presults_sim s' he' F.results (fun vs vs' r h1 h2 => ?_) hk
      unfold finP at h1
      rw [Option.map_eq_some_iff] at h1
      obtain ⟨q, h3, rfl⟩ := h1
      obtain ⟨φ2, q1, q2, q3⟩ := fzL_sim F.shapes s' h2 h3
      obtain ⟨μ3, g1, g2, g3⟩ := trim_sim s q2 (x.trans q3) q1
      exact ⟨_, rfl, μ3, φ2, single_sim g1, g2, g3⟩
    refine pcode_sim hΓ n F.code (pinit_sim hargs) s (fun o e hp' r ea ha' μ' φ' hk he' s' x => ?_) h
    cases o with
    | normal => exact fine hk he' s' x
    | ret => exact fine hk he' s' x
    | exit i => cases hk
theorem pround_sim {Γ : PCallee} {Γa : Am.Callee} (hΓ : CallR Γ Γa) (n : Nat) (s : Rel μ φ hp ha) {args : List PV} {args' : List Value} (hargs : PRL μ φ args args') {r : PV × PHeap} (h : proundK Γ n args hp = some r) :
    ∃ ra, roundK Γa n args' ha = some ra ∧ Ans μ φ hp ha r ra := by
  unfold proundK at h
  split at h
  · rename_i b vs
    split at h
    · rename_i vals lv ps ab bb pend md hb
      cases hargs with | cons h1 h2 =>
        cases h1 with | @ptr _ _ l hm =>
          obtain ⟨vals', hb', hvals⟩ := loop_at s hb hm
          cases hn : Nat.beq vs.length ps.length with
          | false => rw [hn] at h; cases h
          | true =>
            rw [hn] at h
            simp only [cond_true] at h
            have := roundK_eq (Γ := Γa) (n := n) (h := ha) hb' (show Nat.beq _ ps.length = true by rw [← h2.length]; exact hn)
            unfold ptrTo at this
            rw [this]
            have hj : EnvR μ φ (fun _ => .junk) (fun _ => Am.junk) := fun _ => .junk _
            refine pcode_sim hΓ n ab ((hj.setMany lv hvals).setMany ps h2) s (fun o e hp' r ea ha' μ' φ' hk he' s' x => ?_) h
            cases o with
            | exit i => cases hk
            | ret => cases hk
            | normal =>
              simp only [Option.bind_eq_some_iff] at hk ⊢
              obtain ⟨h2', hbg, hk⟩ := hk
              unfold beginRoundP at hbg
              split at hbg
              · rename_i vals2 lv2 ps2 ab2 bb2 pend2 hb2
                cases hbg
                have hm' := x.mu _ _ _ hm
                obtain ⟨vals3, hb3, hv3⟩ := loop_at s' hb2 hm'
                obtain ⟨q1, q2⟩ := s'.write0 (blk1 := .loop vals2 lv2 ps2 ab2 bb2 .busy pend2 .rw) (blk' := .loop vals3 lv2 ps2 (eraseK ab2) (eraseK bb2) .busy pend2) hb2 trivial hm' rfl ⟨_, rfl, hv3⟩
                have hbga : beginRound l.blk ha' = some (ha'.set l.blk (.loop vals3 lv2 ps2 (eraseK ab2) (eraseK bb2) .busy pend2)) := by unfold beginRound; rw [hb3]
                refine (pcode_sim (Q := Ans μ φ hp ha) hΓ n bb (Ka := fun o _ h3 => endRound l.blk o h3) (he'.mono q2.mu q2.phi) q1 (fun o3 e3 hp3 r3 ea3 ha3 μ3 φ3 hk3 he3 s3 x3 => ?_) hk).elim fun ra hra => ⟨ra, ⟨_, hbga, hra.1⟩, hra.2⟩
                · rw [Option.map_eq_some_iff] at hk3
                  obtain ⟨q, hk3, rfl⟩ := hk3
                  unfold endRoundP at hk3
                  split at hk3
                  · rename_i vals4 lv4 ps4 ab4 bb4 pend4 hb4
                    have hm3 := x3.mu _ _ _ (q2.mu _ _ _ hm')
                    obtain ⟨vals5, hb5, hv5⟩ := loop_at s3 hb4 hm3
                    have hx := (x.trans q2).trans x3
                    have go : ∀ (st : LSt) (pe : Option AExit) (bv : Bool), Ans μ φ hp ha (.bool bv, trim hp [] (hp3.set b (.loop vals4 lv4 ps4 ab4 bb4 st pe .rw))) (.bool bv, ha3.set l.blk (.loop vals5 lv4 ps4 (eraseK ab4) (eraseK bb4) st pe)) := by
                      intro st pe bv
                      obtain ⟨g1, g2⟩ := s3.write0 (blk1 := .loop vals4 lv4 ps4 ab4 bb4 st pe .rw) (blk' := .loop vals5 lv4 ps4 (eraseK ab4) (eraseK bb4) st pe) hb4 trivial hm3 rfl ⟨_, rfl, hv5⟩
                      obtain ⟨μ4, _, g4, g5⟩ := trim_sim (roots := []) (roots' := []) s g1 (hx.trans g2) .nil
                      exact ⟨μ4, φ3, .bool _, g4, g5⟩
                    cases o3 with
                    | normal => cases hk3; exact ⟨_, by simp only [endRound, hb5], go .ready none true⟩
                    | exit i => cases hk3; exact ⟨_, by simp only [endRound, hb5], go .done (some (.exit i)) false⟩
                    | ret => cases hk3; exact ⟨_, by simp only [endRound, hb5], go .done (some .ret) false⟩
                  · cases hk3
              · cases hbg
    · cases h
  · cases h
theorem get_erase : ∀ (T : PTable) (f : FuncId), (PTable.erase T).get f = (T.get f).map PFun.erase
  | [], f => rfl
  | (g, F) :: r, f => by
    simp only [PTable.erase, PTable.get, ATable.get]
    cases Nat.beq g f
    · exact get_erase r f
    · rfl
theorem pcall_sim {Γ0 : PCallee} {Γa0 : Am.Callee} {T : PTable} (h0 : CallR Γ0 (Am.run Γa0 T.erase)) : ∀ n, CallR (pcall Γ0 T n) (Am.run Γa0 T.erase)
  | 0 => fun f args hp r hp' h μ φ ha args' s hargs => by
    unfold pcall at h
    cases hf : Nat.beq f yieldId with
    | true => rw [hf] at h; cases h
    | false =>
      rw [hf] at h
      simp only [cond_false] at h
      split at h
      · cases h
      · exact h0 _ _ _ _ _ h μ φ ha _ s hargs
  | n + 1 => fun f args hp r hp' h μ φ ha args' s hargs => by
    unfold pcall at h
    cases hf : Nat.beq f yieldId with
    | true =>
      rw [hf] at h
      simp only [cond_true] at h
      obtain rfl := Nat.eq_of_beq_eq_true hf
      obtain ⟨ra, k1, μ', φ', k2, k3, k4⟩ := pround_sim (pcall_sim h0 n) n s hargs h
      exact ⟨ra.1, ra.2, μ', φ', run_of_round n k1, k2, k3, k4⟩
    | false =>
      rw [hf] at h
      simp only [cond_false] at h
      split at h
      · rename_i F hF
        obtain ⟨ra, k1, μ', φ', k2, k3, k4⟩ := pfun_sim (pcall_sim h0 n) n F s hargs h
        exact ⟨ra.1, ra.2, μ', φ', run_of_body (by rw [get_erase, hF]; rfl) n k1 hf, k2, k3, k4⟩
      · exact h0 _ _ _ _ _ h μ φ ha _ s hargs
theorem prun_some {Γ0 : PCallee} {T : PTable} {f : FuncId} {args : List PV} {h : PHeap} {r : PV × PHeap} (hk : prun Γ0 T f args h = some r) : ∃ n, pcall Γ0 T n f args h = some r := by
  unfold prun at hk
  split at hk
  · exact ⟨_, hk⟩
  · cases hk
theorem prun_sim {Γ0 : PCallee} {Γa0 : Am.Callee} {T : PTable} (h0 : CallR Γ0 (Am.run Γa0 T.erase)) : CallR (prun Γ0 T) (Am.run Γa0 T.erase) := fun f args hp r hp' h => by
  obtain ⟨n, hn⟩ := prun_some h
  exact pcall_sim h0 n f args hp r hp' hn
end Go.Vm
/- Calls of the value machine without a bound. -/
namespace Go.Vm
open Go.Am
variable {R : Type}
theorem callVP_evl {Γs : Nat → PCallee} {Γ : PCallee} (hΓ : ∀ f args h, Evl (fun k => Γs k f args h) (Γ f args h)) (f : PV) (args : List PV) (h : PHeap) : Evl (fun k => callVP (Γs k) f args h) (callVP Γ f args h) := by
  unfold callVP
  split
  · rename_i g xs ys
    cases Nat.blt g yieldId
    · exact Evl.const _
    · exact hΓ _ _ _
  · exact hΓ _ _ _
  · exact Evl.const _
theorem callFP_evl {Γs : Nat → PCallee} {Γ : PCallee} (hΓ : ∀ f args h, Evl (fun k => Γs k f args h) (Γ f args h)) (f : PV) (args : List PV) (h : PHeap) : Evl (fun k => callFP (Γs k) f args h) (callFP Γ f args h) := by
  unfold callFP
  split
  · rename_i g xs ys
    cases Nat.blt g yieldId
    · exact Evl.const _
    · exact hΓ _ _ _
  · exact Evl.const _
theorem popK_evl {Γs : Nat → PCallee} {Γ : PCallee} (hΓ : ∀ f args h, Evl (fun k => Γs k f args h) (Γ f args h)) (o : POp) (e : PEnv) (h : PHeap)
    {ks : Nat → PV → PHeap → Option R} {k : PV → PHeap → Option R} (hk : ∀ v h, Evl (fun i => ks i v h) (k v h)) : Evl (fun i => popK (Γs i) o e h (ks i)) (popK Γ o e h k) := by
  cases o with
  | growNil t sz => simp only [popK]; split <;> first | exact hk _ _ | exact Evl.const _
  | growBox isNew t el sz => simp only [popK]; split <;> first | exact hk _ _ | exact Evl.const _
  | buildF t zero n parts =>
    simp only [popK]
    split
    · refine (Evl.const _).bind fun l => ?_
      split <;> first | exact hk _ _ | exact Evl.const _
    · exact Evl.const _
  | a o =>
    cases o with
    | call f args => exact (hΓ f _ h).bind fun p => hk _ _
    | isNil t neg x =>
      simp only [popK, isNilK]
      split
      · intro r hr
        unfold both at hr
        split at hr
        · rename_i hab
          obtain ⟨m1, h1⟩ := hk (.bool true) h r hr
          obtain ⟨m2, h2⟩ := hk (.bool false) h r (by rw [← hab]; exact hr)
          refine ⟨max m1 m2, fun i hi => ?_⟩
          have e1 : ks i (.bool true) h = some r := h1 i (by omega)
          have e2 : ks i (.bool false) h = some r := h2 i (by omega)
          show both (ks i (.bool true) h) (ks i (.bool false) h) = some r
          rw [e1, e2]
          exact if_pos rfl
        · cases hr
      · exact (Evl.const _).bind fun v => hk _ _
    | callV f args =>
      simp only [popK]
      exact (callVP_evl hΓ _ _ _).bind fun p => hk _ _
    | buildSlice t zero n parts =>
      simp only [popK]
      split
      · exact (Evl.const _).bind fun l => hk _ _
      · split <;> first | exact hk _ _ | exact Evl.const _
    | mkSlice t zero n c =>
      simp only [popK]
      split
      · exact (Evl.const _).bind fun l => hk _ _
      · exact Evl.const _
    | _ =>
      simp only [popK]
      first
        | exact hk _ _
        | exact (Evl.const _).bind fun v => hk _ _
        | exact Evl.const _
theorem psteps_evl {Γs : Nat → PCallee} {Γ : PCallee} (hΓ : ∀ f args h, Evl (fun k => Γs k f args h) (Γ f args h)) :
    ∀ (s : PSteps) {Ks : Nat → PEnv → PHeap → Option R} {K : PEnv → PHeap → Option R}, (∀ e h, Evl (fun k => Ks k e h) (K e h)) → ∀ (e : PEnv) (h : PHeap), Evl (fun k => pstepsK (Γs k) s (Ks k) e h) (pstepsK Γ s K e h) := by
  intro s
  induction s with
  | nil => intro Ks K hK e h; exact hK e h
  | op dst o chk rest ih =>
    intro Ks K hK e h
    cases chk with
    | no => exact popK_evl hΓ o e h fun v h' => ih hK _ _
    | far ps =>
      simp only [pstepsK, guardP]
      split
      · exact popK_evl hΓ o e h fun v h' => ih hK _ _
      · exact Evl.const _
    | calm =>
      refine popK_evl hΓ o e (lock h) fun v h' => ?_
      simp only [unl]
      split
      · exact ih hK _ _
      · exact Evl.const _
  | sc dst c isAnd tmp body y rest ihb ihr =>
    intro Ks K hK e h
    simp only [pstepsK, K1, scP]
    split
    · split
      · exact ihb (fun e' h' => ihr hK _ _) _ _
      · exact ihr hK _ _
    · exact Evl.const _
  | fz t sh rest ih =>
    intro Ks K hK e h
    exact (Evl.const _).bind fun q => ih hK _ _
  | gr t el sz rest ih =>
    intro Ks K hK e h
    exact (Evl.const _).bind fun q => ih hK _ _
  | bor ts d o chk rest ih =>
    intro Ks K hK e h
    have key : ∀ (ts : List (Nat × FS)) (e1 : PEnv) (h1 : PHeap), Evl (fun k => fzE ts e1 h1 fun e1 h1 => popK (Γs k) o e1 (lock h1) fun v _ => if scal v = true then pstepsK (Γs k) rest (Ks k) (pupdO e d v) h else none)
        (fzE ts e1 h1 fun e1 h1 => popK Γ o e1 (lock h1) fun v _ => if scal v = true then pstepsK Γ rest K (pupdO e d v) h else none) := by
      intro ts
      induction ts with
      | nil =>
        intro e1 h1
        simp only [fzE]
        refine popK_evl hΓ o _ _ fun v h' => ?_
        split
        · exact ih hK _ _
        · exact Evl.const _
      | cons p ts iht =>
        intro e1 h1
        simp only [fzE]
        exact (Evl.const _).bind fun q => iht _ _
    cases chk with
    | no => exact key ts e h
    | calm => exact key ts e h
    | far ps => exact Evl.const _
theorem loopP_evl {Bs : Nat → (List PV → PHeap → Option R) → List PV → PHeap → Option R} {B : (List PV → PHeap → Option R) → List PV → PHeap → Option R}
    (hB : ∀ (cs : Nat → List PV → PHeap → Option R) (c : List PV → PHeap → Option R), (∀ vs h, Evl (fun k => cs k vs h) (c vs h)) → ∀ vs h, Evl (fun k => Bs k (cs k) vs h) (B c vs h)) :
    ∀ (n : Nat) (js : Nat → Nat), (∃ m, ∀ k, m ≤ k → n ≤ js k) → ∀ vs h, Evl (fun k => loopP (Bs k) (js k) vs h) (loopP B n vs h)
  | 0, js, hj, vs, h => by intro r hr; cases hr
  | n + 1, js, ⟨m, hm⟩, vs, h => by
    intro r hr
    obtain ⟨m2, h2⟩ := hB (fun k => loopP (Bs k) (js k - 1)) (loopP B n) (fun vs h => loopP_evl hB n (fun k => js k - 1) ⟨m, fun k hk => by have := hm k hk; omega⟩ vs h) vs h r hr
    refine ⟨max m m2, fun k hk => ?_⟩
    have h3 := hm k (by omega)
    obtain ⟨j, hj⟩ : ∃ j, js k = j + 1 := ⟨js k - 1, by omega⟩
    show loopP (Bs k) (js k) vs h = some r
    rw [hj]
    have h4 : Bs k (loopP (Bs k) (js k - 1)) vs h = some r := h2 k (by omega)
    rw [hj] at h4
    exact h4
theorem pcode_evl {Γs : Nat → PCallee} {Γ : PCallee} (hΓ : ∀ f args h, Evl (fun k => Γs k f args h) (Γ f args h)) (n : Nat) :
    ∀ (c : PCode) {Ks : Nat → AExit → PEnv → PHeap → Option R} {K : AExit → PEnv → PHeap → Option R}, (∀ o e h, Evl (fun k => Ks k o e h) (K o e h)) → ∀ (e : PEnv) (h : PHeap), Evl (fun k => pcodeK (Γs k) k c (Ks k) e h) (pcodeK Γ n c K e h) := by
  intro c
  induction c with
  | skip => intro Ks K hK e h; exact hK _ _ _
  | region d s => intro Ks K hK e h; exact psteps_evl hΓ s (fun e h => hK _ _ _) e h
  | seq a b iha ihb =>
    intro Ks K hK e h
    refine iha (fun o e h => ?_) e h
    cases o with
    | normal => exact ihb hK e h
    | exit i => exact hK _ _ _
    | ret => exact hK _ _ _
  | cond c mod tmp a b iha ihb =>
    intro Ks K hK e h
    simp only [pcodeK, KL, ifP]
    split
    · split
      · refine iha (fun o e h => ?_) e h
        cases o with
        | normal => exact hK _ _ _
        | exit i => exact hK _ _ _
        | ret => exact hK _ _ _
      · refine ihb (fun o e h => ?_) e h
        cases o with
        | normal => exact hK _ _ _
        | exit i => exact hK _ _ _
        | ret => exact hK _ _ _
    · exact Evl.const _
  | block id mod tmp c ih =>
    intro Ks K hK e h
    simp only [pcodeK, KL]
    refine ih (fun o e h => ?_) e h
    cases o with
    | normal => exact hK _ _ _
    | exit i => simp only []; cases Nat.beq i id <;> exact hK _ _ _
    | ret => exact hK _ _ _
  | loop mod tmp c ih =>
    intro Ks K hK e h
    simp only [pcodeK]
    refine loopP_evl (fun cs c hc vs h => ?_) n (fun k => k) ⟨n, fun k hk => hk⟩ _ _
    refine ih (fun o e h => ?_) _ _
    cases o with
    | normal => exact hc _ _
    | exit i => exact hK _ _ _
    | ret => exact hK _ _ _
  | exit i => intro Ks K hK e h; exact hK _ _ _
  | ret => intro Ks K hK e h; exact hK _ _ _
  | rangeF g lv ps ab bb iha ihb =>
    intro Ks K hK e h
    simp only [pcodeK]
    refine (callFP_evl hΓ _ _ _).bind fun p => (Evl.const _).bind fun o => ?_
    cases o with
    | none => exact hK _ _ _
    | some x => exact hK _ _ _
theorem pround_evl {Γs : Nat → PCallee} {Γ : PCallee} (hΓ : ∀ f args h, Evl (fun k => Γs k f args h) (Γ f args h)) (n : Nat) (args : List PV) (h : PHeap) : Evl (fun k => proundK (Γs k) k args h) (proundK Γ n args h) := by
  unfold proundK
  split
  · split
    · rename_i b0 vs x vals lv ps ab bb pend md hb
      cases Nat.beq vs.length ps.length with
      | false => exact Evl.const _
      | true =>
        simp only [cond_true]
        refine pcode_evl hΓ n ab (fun o e h1 => ?_) _ _
        cases o with
        | normal => exact (Evl.const _).bind fun h2 => pcode_evl (Ks := fun _ o _ h3 => (endRoundP b0 o h3).map fun q => (q.1, trim h [] q.2)) (K := fun o _ h3 => (endRoundP b0 o h3).map fun q => (q.1, trim h [] q.2)) hΓ n bb (fun o _ h3 => Evl.const _) e h2
        | exit i => exact Evl.const _
        | ret => exact Evl.const _
    · exact Evl.const _
  · exact Evl.const _
theorem pfun_evl {Γs : Nat → PCallee} {Γ : PCallee} (hΓ : ∀ f args h, Evl (fun k => Γs k f args h) (Γ f args h)) (n : Nat) (F : PFun) (args : List PV) (h : PHeap) : Evl (fun k => pfunK (Γs k) k F args h) (pfunK Γ n F args h) := by
  simp only [pfunK]
  cases Nat.beq args.length F.nargs with
  | false => exact Evl.const _
  | true =>
    simp only [cond_true]
    refine pcode_evl hΓ n F.code (fun o e h' => ?_) _ _
    exact Evl.const _
theorem pcall_evl {Γ0 : PCallee} {T : PTable} : ∀ (n : Nat) (f : FuncId) (args : List PV) (h : PHeap), Evl (fun k => pcall Γ0 T k f args h) (pcall Γ0 T n f args h)
  | 0, f, args, h => by
    intro r hr
    unfold pcall at hr
    cases hf : Nat.beq f yieldId with
    | true => rw [hf] at hr; cases hr
    | false =>
      rw [hf] at hr
      simp only [cond_false] at hr
      split at hr
      · cases hr
      · rename_i hT
        refine ⟨0, fun k _ => ?_⟩
        cases k <;> (simp only [pcall, hf, cond_false, hT]; exact hr)
  | n + 1, f, args, h => by
    intro r hr
    unfold pcall at hr
    cases hf : Nat.beq f yieldId with
    | true =>
      rw [hf] at hr
      simp only [cond_true] at hr
      obtain ⟨m, hm⟩ := pround_evl (pcall_evl n) n args h r hr
      refine ⟨m + 1, fun k hk => ?_⟩
      obtain ⟨j, rfl⟩ : ∃ j, k = j + 1 := ⟨k - 1, by omega⟩
      simp only [pcall, hf, cond_true]
      exact hm j (by omega)
    | false =>
      rw [hf] at hr
      simp only [cond_false] at hr
      split at hr
      · rename_i F hT
        obtain ⟨m, hm⟩ := pfun_evl (pcall_evl n) n F args h r hr
        refine ⟨m + 1, fun k hk => ?_⟩
        obtain ⟨j, rfl⟩ : ∃ j, k = j + 1 := ⟨k - 1, by omega⟩
        simp only [pcall, hf, cond_false, hT]
        exact hm j (by omega)
      · rename_i hT
        refine ⟨0, fun k _ => ?_⟩
        cases k <;> (simp only [pcall, hf, cond_false, hT]; exact hr)
theorem prun_of_pcall {Γ0 : PCallee} {T : PTable} {n : Nat} {f : FuncId} {args : List PV} {h : PHeap} {r : PV × PHeap} (hk : pcall Γ0 T n f args h = some r) : prun Γ0 T f args h = some r := by
  have H : ∃ n, (pcall Γ0 T n f args h).isSome = true := ⟨n, by rw [hk]; rfl⟩
  unfold prun
  rw [dif_pos H]
  cases hc : pcall Γ0 T (Classical.choose H) f args h with
  | none => have := Classical.choose_spec H; rw [hc] at this; cases this
  | some r' =>
    obtain ⟨m1, h1⟩ := pcall_evl n f args h r hk
    obtain ⟨m2, h2⟩ := pcall_evl _ f args h r' hc
    have e1 := h1 (max m1 m2) (by omega)
    have e2 := h2 (max m1 m2) (by omega)
    rw [← e1, ← e2]
theorem prun_evl {Γ0 : PCallee} {T : PTable} (f : FuncId) (args : List PV) (h : PHeap) : Evl (fun k => pcall Γ0 T k f args h) (prun Γ0 T f args h) := by
  intro r hr
  obtain ⟨n, hn⟩ := prun_some hr
  exact pcall_evl n f args h r hn
theorem prun_of_body {Γ0 : PCallee} {T : PTable} {f : FuncId} {F : PFun} (hT : T.get f = some F) (n : Nat) {args : List PV} {h : PHeap} {r : PV × PHeap} (hk : pfunK (prun Γ0 T) n F args h = some r) (hf : Nat.beq f yieldId = false := by rfl) : prun Γ0 T f args h = some r := by
  obtain ⟨m, hm⟩ := pfun_evl prun_evl n F args h r hk
  refine prun_of_pcall (n := m + 1) ?_
  simp only [pcall, hf, cond_false, hT]
  exact hm m (Nat.le_refl _)
theorem prun_of_round {Γ0 : PCallee} {T : PTable} (n : Nat) {args : List PV} {h : PHeap} {r : PV × PHeap} (hk : proundK (prun Γ0 T) n args h = some r) : prun Γ0 T yieldId args h = some r := by
  obtain ⟨m, hm⟩ := pround_evl prun_evl n args h r hk
  refine prun_of_pcall (n := m + 1) ?_
  simp only [pcall, Nat.beq_refl, cond_true]
  exact hm m (Nat.le_refl _)
end Go.Vm
/- Words of the printed forms; what is read at the start. -/
namespace Go.Vm
open Go.Am
abbrev Pt := Option (PV × PHeap)
def forkP {R : Type} (v : PV) (h : PHeap) (k : PV → PHeap → Option R) : Option R := k v h
theorem proundK_eq {Γ : PCallee} {n b : Nat} {vals vs : List PV} {lv ps : List Nat} {ab bb : PCode} {pend : Option AExit} {md : Md} {h : PHeap} (hb : h[b]? = some (.loop vals lv ps ab bb .ready pend md)) (hl : Nat.beq vs.length ps.length = true) :
    proundK Γ n (.ptr b 0 :: vs) h = pcodeK Γ n ab (fun o e h1 => match o with
      | .normal => (beginRoundP b h1).bind fun h2 => pcodeK Γ n bb (fun o _ h3 => (endRoundP b o h3).map fun q => (q.1, trim h [] q.2)) e h2
      | _ => none) (psetMany (psetMany (fun _ => .junk) lv vals) ps vs) h := by
  unfold proundK
  simp only [hb, hl, cond_true]
  all_goals congr 1
end Go.Vm


set_option linter.unusedSimpArgs false
set_option linter.unusedVariables false
/- Words for laws: what the value machine's functions come to. -/
namespace Go.Vm
open Go.Am
theorem wrap64 {n : Int} (h : isI64 n) : IntKind.i64.wrap n = n := by
  unfold isI64 at h
  simp [IntKind.wrap, IntKind.bits, IntKind.signed]
  split <;> omega
theorem bin_lss (k : IntKind) (a b : Int) : binP .lss (.int k a) (.int k b) = some (.bool (decide (a < b))) := by simp [binP]
theorem bin_leq (k : IntKind) (a b : Int) : binP .leq (.int k a) (.int k b) = some (.bool (decide (a ≤ b))) := by simp [binP]
theorem bin_gtr (k : IntKind) (a b : Int) : binP .gtr (.int k a) (.int k b) = some (.bool (decide (a > b))) := by simp [binP]
theorem bin_geq (k : IntKind) (a b : Int) : binP .geq (.int k a) (.int k b) = some (.bool (decide (a ≥ b))) := by simp [binP]
theorem bin_eql (k : IntKind) (a b : Int) : binP .eql (.int k a) (.int k b) = some (.bool (a == b)) := by simp [binP]
theorem bin_neq (k : IntKind) (a b : Int) : binP .neq (.int k a) (.int k b) = some (.bool (a != b)) := by simp [binP]
theorem bin_add (k : IntKind) (a b : Int) : binP .add (.int k a) (.int k b) = some (.int k (k.wrap (a + b))) := by simp [binP]
theorem bin_sub (k : IntKind) (a b : Int) : binP .sub (.int k a) (.int k b) = some (.int k (k.wrap (a - b))) := by simp [binP]
theorem bin_mul (k : IntKind) (a b : Int) : binP .mul (.int k a) (.int k b) = some (.int k (k.wrap (a * b))) := by simp [binP]
theorem bin_seq (a b : ByteArray) : binP .eql (.str a) (.str b) = some (.bool (a.toList == b.toList)) := rfl
theorem eqBool_bool (neg a b : Bool) : eqBoolP neg (.bool a) (.bool b) = some (.bool (neg != (a == b))) := rfl
theorem un_not (b : Bool) : unP .not (.bool b) = some (.bool !b) := rfl
theorem conv_int (k k' : IntKind) (n : Int) : convP k (.int k' n) = some (.int k (k.wrap n)) := rfl
theorem nth_zero (v : PV) (vs : List PV) : nthP (v :: vs) 0 = v := rfl
theorem nth_one (v w : PV) (vs : List PV) : nthP (v :: w :: vs) 1 = w := rfl
theorem nth_two (v w x : PV) (vs : List PV) : nthP (v :: w :: x :: vs) 2 = x := rfl
theorem nth_three (v w x y : PV) (vs : List PV) : nthP (v :: w :: x :: y :: vs) 3 = y := rfl
theorem nth_four (v w x y z : PV) (vs : List PV) : nthP (v :: w :: x :: y :: z :: vs) 4 = z := rfl
theorem sc_and (t : Bool) {R : Type} (a b : Option R) : scP (.bool t) true a b = if t = true then a else b := rfl
theorem sc_or (t : Bool) {R : Type} (a b : Option R) : scP (.bool t) false a b = if t = false then a else b := rfl
theorem if_bool (t : Bool) {R : Type} (a b : Option R) : ifP (.bool t) a b = if t = true then a else b := rfl
theorem KL_def {R : Type} (k : List PV → PHeap → Option R) (b : (List PV → PHeap → Option R) → Option R) : KL k b = b k := rfl
theorem K1_def {R : Type} (k : PV → PHeap → Option R) (b : (PV → PHeap → Option R) → Option R) : K1 k b = b k := rfl
theorem fork_def {R : Type} (v : PV) (h : PHeap) (k : PV → PHeap → Option R) : forkP v h k = k v h := rfl
theorem guard_true {R : Type} (m : Option R) : guardP true m = m := rfl
theorem loop_from {R : Type} {B : (List PV → PHeap → Option R) → List PV → PHeap → Option R} (vs : Nat → List PV) (hs : Nat → PHeap) (len : Nat) (r : Option R)
    (hstep : ∀ i, i < len → ∀ K, B K (vs i) (hs i) = K (vs (i + 1)) (hs (i + 1))) (hend : ∀ K, B K (vs len) (hs len) = r) : ∀ (n i : Nat), i ≤ len → len < n + i → loopP B n (vs i) (hs i) = r
  | 0, i, h1, h2 => by omega
  | n + 1, i, h1, h2 => by
    show B (loopP B n) (vs i) (hs i) = r
    by_cases h : i < len
    · rw [hstep i h]
      exact loop_from vs hs len r hstep hend n (i + 1) h (by omega)
    · have : i = len := by omega
      subst this
      exact hend _
theorem loop_run {R : Type} {B : (List PV → PHeap → Option R) → List PV → PHeap → Option R} {r : Option R} {n : Nat} {v0 : List PV} {h0 : PHeap} (vs : Nat → List PV) (hs : Nat → PHeap) (len : Nat) (hn : len < n) (e1 : vs 0 = v0) (e2 : hs 0 = h0)
    (hstep : ∀ i, i < len → ∀ K, B K (vs i) (hs i) = K (vs (i + 1)) (hs (i + 1))) (hend : ∀ K, B K (vs len) (hs len) = r) : loopP B n v0 h0 = r := by
  rw [← e1, ← e2]
  exact loop_from vs hs len r hstep hend n 0 (Nat.zero_le _) (by omega)
theorem loop_pure {R : Type} {B : (List PV → PHeap → Option R) → List PV → PHeap → Option R} {r : Option R} {n : Nat} {v0 : List PV} {h0 : PHeap} (vs : Nat → List PV) (len : Nat) (hn : len < n) (e1 : vs 0 = v0)
    (hstep : ∀ i, i < len → ∀ K, B K (vs i) h0 = K (vs (i + 1)) h0) (hend : ∀ K, B K (vs len) h0 = r) : loopP B n v0 h0 = r :=
  loop_run vs (fun _ => h0) len hn e1 rfl hstep hend
theorem get_new (h l : PHeap) (k : Nat) : (h ++ l)[h.length + k]? = l[k]? := by
  rw [List.getElem?_append_right (by omega)]; congr 1; omega
theorem get_new0 (h l : PHeap) : (h ++ l)[h.length]? = l[0]? := get_new h l 0
theorem set_new (h l : PHeap) (k : Nat) (b : PBlk) : (h ++ l).set (h.length + k) b = h ++ l.set k b := by
  rw [List.set_append_right _ _ (by omega)]; congr 2; omega
theorem set_new0 (h l : PHeap) (b : PBlk) : (h ++ l).set h.length b = h ++ l.set 0 b := set_new h l 0 b
theorem boxAt_some {h : PHeap} {b : Nat} {vs : List PV} {t : TypeId} {md : Md} (e : h[b]? = some (.box vs t md)) : boxAt h b = some vs := by unfold boxAt; rw [e]
theorem logAt_some {h : PHeap} {b sz : Nat} {rows : List (List PV)} {t : TypeId} {md : Md} (e : h[b]? = some (.log rows sz t md)) : logAt h b rows.length sz = some rows := by unfold logAt; rw [e]; simp
theorem load_box (agg : Bool) (n b o : Nat) (h : PHeap) : loadP agg n (.ptr b o) h = (boxAt h b).bind fun vs => partP agg o n vs := rfl
theorem load_fptr (agg : Bool) (n o : Nat) (row : List PV) (h : PHeap) : loadP agg n (.fptr row o) h = partP agg o n row := rfl
theorem part_cell (o n : Nat) (cs : List PV) : partP false o n cs = cs[o]? := rfl
theorem part_agg {o n : Nat} {cs : List PV} (h : o + n ≤ cs.length) : partP true o n cs = some (.agg ((cs.drop o).take n)) := if_pos h
theorem part_all {n : Nat} {cs : List PV} (h : cs.length = n) : partP true 0 n cs = some (.agg cs) := by rw [part_agg (by omega), List.drop_zero, List.take_of_length_le (by omega)]
theorem field_ptr (b o f : Nat) : fieldAddrP f (.ptr b o) = some (.ptr b (o + f)) := rfl
theorem field_fptr (row : List PV) (o f : Nat) : fieldAddrP f (.fptr row o) = some (.fptr row (o + f)) := rfl
theorem store_box {h : PHeap} {b o n : Nat} {v : PV} {vs vs' : List PV} {t : TypeId} (e : h[b]? = some (.box vs t .rw)) (hn : (cellsP v).length = n) (h0 : 0 < n) (hp : putAt vs o (cellsP v) = some vs') : storeP n (.ptr b o) v h = some (h.set b (.box vs' t .rw)) := by
  unfold storeP
  have e1 : (Nat.beq (cellsP v).length n && Nat.blt 0 n) = true := by subst hn; simp [Nat.blt]; exact h0
  rw [e1]
  simp only [cond_true, e, hp, Option.map_some]
theorem store_whole {h : PHeap} {b n : Nat} {cs vs : List PV} {t : TypeId} (e : h[b]? = some (.box vs t .rw)) (h1 : vs.length = n) (h2 : cs.length = n) (h0 : 0 < n) (hv : cs.all oneP = true) : storeP n (.ptr b 0) (.agg cs) h = some (h.set b (.box cs t .rw)) := by
  refine store_box e h2 h0 ?_
  unfold putAt
  rw [if_pos ⟨by simp only [cellsP]; omega, hv⟩]
  simp only [cellsP, List.take_zero, List.nil_append, Nat.zero_add]
  rw [List.drop_of_length_le (by omega), List.append_nil]
theorem idx_frz {sz : Nat} {rows : List (List PV)} {i : Nat} {row : List PV} (k : IntKind) (h : rows[i]? = some row) : indexAddrP sz (.frz sz rows) (.int k i) = some (.fptr row 0) := by
  simp only [indexAddrP]
  rw [if_pos ⟨by omega, trivial⟩, Int.toNat_natCast, h]
  rfl
theorem idx_map {α : Type} {f : α → List PV} {l : List α} {sz : Nat} {i : Nat} {a : α} (k : IntKind) (h : l[i]? = some a) : indexAddrP sz (.frz sz (l.map f)) (.int k i) = some (.fptr (f a) 0) := idx_frz k (by rw [List.getElem?_map, h]; rfl)
theorem idx_ref {b lo n v sz : Nat} {i : Nat} (k : IntKind) (h : i < n) : indexAddrP sz (.ref b lo n v sz) (.int k i) = some (.lptr b (lo + i) 0 v sz) := by
  simp only [indexAddrP]
  rw [if_pos ⟨by omega, by omega, trivial⟩, Int.toNat_natCast]
theorem len_frz {sz : Nat} {rows : List (List PV)} : lenP false (.frz sz rows) = some (.int .i64 rows.length) := rfl
theorem len_map {α : Type} {sz : Nat} {f : α → List PV} {l : List α} : lenP false (.frz sz (l.map f)) = some (.int .i64 l.length) := by rw [len_frz, List.length_map]
theorem len_ref (b lo n v sz : Nat) : lenP false (.ref b lo n v sz) = some (.int .i64 n) := rfl
theorem len_str (s : ByteArray) : lenP true (.str s) = some (.int .i64 s.size) := rfl
theorem fill_one (z v : PV) (hv : cellsP v = [v] := by rfl) : fillP (repP [z] 1) [(0, 1, v)] = some [v] := by
  simp [fillP, repP, hv]
theorem fill_int (z : PV) (k : IntKind) (n : Int) : fillP (repP [z] 1) [(0, 1, .int k n)] = some [.int k n] := fill_one _ _
theorem append_ref {h : PHeap} {b sz : Nat} {t : TypeId} {rows new : List (List PV)} {x : PV} (e : h[b]? = some (.log rows sz t .rw)) (hx : rowsP sz x h = some new) (hs : 0 < sz) (hp : new.flatten.all oneP = true) (hm : rows.length + new.length ≤ mostLen) :
    appendP t sz (.ref b 0 rows.length rows.length sz) x h = some (.ref b 0 (rows.length + new.length) (rows.length + new.length) sz, h.set b (.log (rows ++ new) sz t .rw)) := by
  simp only [appendP, hx, Option.bind_some, appendRows]
  rw [if_pos ⟨by omega, hs, hp⟩, e]
  simp only
  rw [if_pos ⟨trivial, trivial, trivial, trivial, trivial, trivial, hm⟩]
theorem rows_frz (sz : Nat) (rows : List (List PV)) (h : PHeap) : rowsP sz (.frz sz rows) h = some rows := if_pos rfl
theorem append_new {h l : PHeap} {k sz : Nat} {t : TypeId} {rows : List (List PV)} {row : List PV} (e : l[k]? = some (.log rows sz t .rw)) (hs : 0 < sz) (hp : row.all oneP = true) (hm : rows.length < mostLen) :
    appendP t sz (.ref (h.length + k) 0 rows.length rows.length sz) (.frz sz [row]) (h ++ l) = some (.ref (h.length + k) 0 (rows.length + 1) (rows.length + 1) sz, h ++ l.set k (.log (rows ++ [row]) sz t .rw)) := by
  rw [append_ref (by rw [get_new]; exact e) (rows_frz _ _ _) hs (by simpa using hp) (by simp; omega), set_new]
  rfl
theorem trim_self (h : PHeap) (roots : List PV) : trim h roots h = h := by
  unfold trim
  split
  · exact List.take_length
  · rfl
theorem trim_len {h h' : PHeap} (roots : List PV) (e : h'.length = h.length) : trim h roots h' = h' := by
  unfold trim
  split
  · rw [← e]; exact List.take_length
  · rfl
theorem trim_new {h : PHeap} {roots : List PV} (l : PHeap) (hr : ∀ v ∈ roots, ltV h.length v) : trim h roots (h ++ l) = h := by
  unfold trim
  rw [if_pos ⟨hr, fun b hb => .inl (List.getElem?_append_left hb)⟩]
  exact List.take_left
theorem fz_keep (v : PV) (h : PHeap) : fz .keep v h = some (v, h) := by unfold fz; rfl
theorem fz_frz (sz sz' : Nat) (rows : List (List PV)) (h : PHeap) : fz (.flat sz) (.frz sz' rows) h = some (.frz sz' rows, h) := by unfold fz; rfl
theorem fz_frzs (sz sz' : Nat) (cs : List FS) (rows : List (List PV)) (h : PHeap) : fz (.sl sz cs) (.frz sz' rows) h = some (.frz sz' rows, h) := by unfold fz; rfl
theorem fz_nil (sz : Nat) (h : PHeap) : fz (.flat sz) .nilS h = some (.frz sz [], h) := by unfold fz; rfl
theorem fz_nils (sz : Nat) (cs : List FS) (h : PHeap) : fz (.sl sz cs) .nilS h = some (.frz sz [], h) := by unfold fz; rfl
theorem fz_aggs (cs : List FS) (vs : List PV) (h : PHeap) : fz (.agg cs) (.agg vs) h = (fzL cs vs h).map fun q => (.agg q.1, q.2) := by unfold fz; rfl
theorem fzL_nil (h : PHeap) : fzL [] [] h = some ([], h) := by unfold fzL; rfl
theorem fzL_cons (s : FS) (ss : List FS) (v : PV) (vs : List PV) (h : PHeap) : fzL (s :: ss) (v :: vs) h = (fz s v h).bind fun q => (fzL ss vs q.2).map fun r => (q.1 :: r.1, r.2) := by rw [fzL]
theorem fz_log {h l : PHeap} {k sz s : Nat} {t : TypeId} {rows : List (List PV)} (e : l[k]? = some (.log rows sz t .rw)) (hp : rows.flatten.all pure1 = true) :
    fz (.flat s) (.ref (h.length + k) 0 rows.length rows.length sz) (h ++ l) = some (.frz sz rows, h ++ if rows.length = 0 then l else l.set k (.log rows sz t .ro)) := by
  unfold fz
  simp only
  by_cases h0 : rows.length = 0
  · rw [if_pos h0, if_pos h0, List.eq_nil_of_length_eq_zero h0]
  · rw [if_neg h0, if_neg h0, get_new, e]
    simp only [List.drop_zero, List.take_length]
    rw [if_pos ⟨trivial, trivial, by omega, hp⟩, set_new]
theorem fin_def (shapes : List FS) (h h' : PHeap) (vs : List PV) : finP shapes h h' vs = (fzL shapes vs h').map fun q => (singleP q.1, trim h q.1 q.2) := rfl
theorem single_one (v : PV) : singleP [v] = v := rfl
theorem single_two (v w : PV) : singleP [v, w] = .tuple [v, w] := rfl
theorem single_three (v w x : PV) : singleP [v, w, x] = .tuple [v, w, x] := rfl
theorem fin_keep {h l : PHeap} {v : PV} (hv : ∀ n, ltV n v) : finP [.keep] h (h ++ l) [v] = some (v, h) := by
  simp only [fin_def, fzL_cons, fzL_nil, fz_keep, Option.bind_some, Option.map_some, single_one]
  rw [trim_new _ (fun x hx => by simp only [List.mem_singleton] at hx; subst hx; exact hv _)]
theorem fin_int {h l : PHeap} {k : IntKind} {n : Int} : finP [.keep] h (h ++ l) [.int k n] = some (.int k n, h) := fin_keep fun _ => by simp [ltV]
theorem fin_bool {h l : PHeap} {b : Bool} : finP [.keep] h (h ++ l) [.bool b] = some (.bool b, h) := fin_keep fun _ => by simp [ltV]
theorem fin_int0 {h : PHeap} {k : IntKind} {n : Int} : finP [.keep] h h [.int k n] = some (.int k n, h) := by have := fin_int (h := h) (l := []) (k := k) (n := n); rwa [List.append_nil] at this
theorem fin_bool0 {h : PHeap} {b : Bool} : finP [.keep] h h [.bool b] = some (.bool b, h) := by have := fin_bool (h := h) (l := []) (b := b); rwa [List.append_nil] at this
theorem pure_map {α : Type} {f : α → List PV} (hf : ∀ a, (f a).all pure1 = true) (l : List α) : (l.map f).flatten.all pure1 = true := by
  refine List.all_eq_true.2 fun x hx => ?_
  obtain ⟨r, hr, hx⟩ := List.mem_flatten.1 hx
  obtain ⟨a, _, rfl⟩ := List.mem_map.1 hr
  exact List.all_eq_true.1 (hf a) x hx
theorem take_succ_get {α : Type} {l : List α} {i : Nat} {a : α} (hi : l[i]? = some a) : l.take (i + 1) = l.take i ++ [a] := by rw [List.take_add_one, hi]; rfl
theorem unl_self {R : Type} (h : PHeap) (k : PHeap → Option R) : unl h (lock h) k = k h := by
  unfold unl
  rw [if_pos (List.prefix_refl _), List.drop_of_length_le (by rw [lock_len]; exact Nat.le_refl _), List.append_nil]
theorem unl_new {R : Type} (h l : PHeap) (k : PHeap → Option R) : unl h (lock h ++ l) k = k (h ++ l) := by
  unfold unl
  rw [if_pos (List.prefix_append _ _), ← lock_len h, List.drop_left]
theorem callV_func (Γ : PCallee) (g : FuncId) (xs ys args : List PV) (h : PHeap) (hg : Nat.blt g yieldId = true := by rfl) : callVP Γ (.func g xs ys) args h = Γ g (xs ++ args ++ ys) h := by
  show (bif Nat.blt g yieldId then _ else _) = _
  rw [hg]; rfl
theorem callF_func (Γ : PCallee) (g : FuncId) (xs ys args : List PV) (h : PHeap) (hg : Nat.blt g yieldId = true := by rfl) : callFP Γ (.func g xs ys) args h = Γ g (xs ++ args ++ ys) h := by
  show (bif Nat.blt g yieldId then _ else _) = _
  rw [hg]; rfl
def iV (n : Int) : List PV := [.int .i64 n]
def ints (l : List Int) : PV := .frz 1 (l.map iV)
theorem len_ints (l : List Int) : lenP false (ints l) = some (.int .i64 l.length) := len_map
theorem idx_ints {l : List Int} {i : Nat} {a : Int} (k : IntKind) (h : l[i]? = some a) : indexAddrP 1 (ints l) (.int k i) = some (.fptr (iV a) 0) := idx_map k h
theorem load_iV (a : Int) (h : PHeap) : loadP false 1 (.fptr (iV a) 0) h = some (.int .i64 a) := rfl
theorem fz_ints (s : Nat) (l : List Int) (h : PHeap) : fz (.flat s) (ints l) h = some (ints l, h) := fz_frz _ _ _ _
theorem ltT {i n : Nat} (h : i < n) : ((i : Int) < (n : Int)) = True := eq_true (by omega)
theorem ltF (n : Nat) : ((n : Int) < (n : Int)) = False := eq_false (by omega)
theorem lt_int (n : Nat) (k : IntKind) (x : Int) : ltV n (.int k x) := by simp [ltV]
theorem lt_bool (n : Nat) (x : Bool) : ltV n (.bool x) := by simp [ltV]
theorem lt_str (n : Nat) (s : ByteArray) : ltV n (.str s) := by simp [ltV]
theorem append_one {h l : PHeap} {k : Nat} {t : TypeId} {rows : List (List PV)} {v : PV} (n : Nat) (hn : n = rows.length) (e : l[k]? = some (.log rows 1 t .rw)) (hp : oneP v = true) (hm : n < mostLen) :
    appendP t 1 (.ref (h.length + k) 0 n n 1) (.frz 1 [[v]]) (h ++ l) = some (.ref (h.length + k) 0 (n + 1) (n + 1) 1, h ++ l.set k (.log (rows ++ [[v]]) 1 t .rw)) := by
  subst hn
  exact append_new e (by decide) (by simpa using hp) hm
end Go.Vm
/- Whole numbers of the machine: floors, shifts, masks, wrapping. -/
namespace Go.Vm
open Go.Am
end Go.Vm
/- Words of lists that are filled up place by place. -/
namespace Go.Vm
open Go.Am
theorem load_log {agg : Bool} {n b i o sz ver : Nat} {rows : List (List PV)} {row : List PV} {t : TypeId} {md : Md} {h : PHeap} (e : h[b]? = some (.log rows sz t md)) (hv : ver = rows.length) (hi : rows[i]? = some row) : loadP agg n (.lptr b i o ver sz) h = partP agg o n row := by
  subst hv
  simp only [loadP, logAt_some e, Option.bind_some, hi]
def filled {α : Type} (g : Nat → α) (z : α) (n i : Nat) : List α := (List.range n).map fun j => if j < i then g j else z
theorem cells_func (f : FuncId) (xs ys : List PV) : cellsP (.func f xs ys) = [.func f xs ys] := rfl
theorem cells_agg (cs : List PV) : cellsP (.agg cs) = cs := rfl
theorem cells_ref (b lo n v sz : Nat) : cellsP (.ref b lo n v sz) = [.ref b lo n v sz] := rfl
end Go.Vm
/- The start: what arguments read as; a run of the value machine is a call. -/
namespace Go.Vm
open Go.Am Go.ChangeShapes Go.WideShapes
def phi0 (h : AHeap) : Frz := fun a => h[a]?
def mu00 : Ren := fun _ _ => none
theorem rel0 (h : AHeap) : Rel mu00 (phi0 h) [] h :=
  ⟨fun b k o e => (by cases e), fun b blk e => (by cases e), fun b b' blk blk' l l' e => (by cases e), fun b blk l e => (by cases e), fun a blk e => e, fun b blk k o e => (by cases e)⟩
end Go.Vm

