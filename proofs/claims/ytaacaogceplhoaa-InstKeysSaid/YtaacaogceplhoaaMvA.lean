/- The machine (MvA): parts of one text. -/
import Derived.Test.YtaacaogceplhoaaMaE
set_option linter.unusedSimpArgs false
set_option linter.unusedVariables false
/- The value machine: slices that are built and then left alone are lists; what is still written lies in blocks of its own. It stands over the abstract machine: Vm2 and what follows prove that the latter does what it says. -/
namespace Go.Vm
open Go.Am

inductive PV where
  | junk
  | int (k : IntKind) (n : Int)
  | bool (b : Bool)
  | str (s : ByteArray)
  | nilS | nilP | nilM | nilF | nilI
  /-- An empty slice without room. -/
  | emp
  /-- A slice that nobody will write or append to. -/
  | frz (sz : Nat) (rows : List (List PV))
  /-- A pointer into an element of such a slice. -/
  | fptr (row : List PV) (off : Nat)
  | ptr (b o : Nat)
  /-- n elements from lo on of the rows of block b, which had ver rows when this was made. -/
  | ref (b lo n ver sz : Nat)
  | lptr (b i off ver sz : Nat)
  | map (b : Nat)
  | func (f : FuncId) (xs ys : List PV)
  | yield (b : Nat)
  | iface (t : TypeId) (v : PV)
  | agg (cs : List PV)
  | tuple (cs : List PV)

def undefP : PV := .tuple []
def ofV1 : Value → PV
  | .bool b => .bool b
  | .int k n => .int k n
  | .string s => .str s
  | .pointer none => .nilP
  | .slice none 0 0 => .nilS
  | .map none => .nilM
  | .nilFunc => .nilF
  | .nilIface => .nilI
  | _ => .junk
def ofV : Value → PV
  | .agg cs => .agg (cs.toList.map ofV1)
  | .iface t v => .iface t (ofV1 v)
  | v => ofV1 v

abbrev PEnv := Nat → PV
def pupd (e : PEnv) (i : Nat) (v : PV) : PEnv := fun j => bif Nat.beq i j then v else e j
def pupdO (e : PEnv) (d : Option Nat) (v : PV) : PEnv := match d with | some i => pupd e i v | none => e
def pjunk (e : PEnv) : List Nat → PEnv
  | [] => e
  | i :: r => pupd (pjunk e r) i .junk
def psetMany (e : PEnv) : List Nat → List PV → PEnv
  | [], _ => e
  | i :: r, vs => pupd (psetMany e r vs.tail) i (vs.headD undefP)
def pgetMany (e : PEnv) : List Nat → List PV
  | [] => []
  | i :: r => e i :: pgetMany e r
def nthP (vs : List PV) : Nat → PV
  | 0 => vs.headD undefP
  | k + 1 => nthP vs.tail k

/-! ### Memory -/
inductive Md where
  | rw | lk | ro

/-- What a slice freezes to: its elements' cells. -/
inductive FS where
  | keep
  /-- Left as it is, but for what nil is. -/
  | raw
  | flat (sz : Nat)
  | sl (sz : Nat) (cells : List FS)
  | agg (cells : List FS)

inductive POp where
  | a (o : AOp)
  /-- A nil slice that will grow. -/
  | growNil (elem : TypeId) (sz : Nat)
  /-- .. in a box of its own. -/
  | growBox (isNew : Bool) (t : TypeId) (elem : TypeId) (sz : Nat)
  /-- A literal that will not be written. -/
  | buildF (elem : TypeId) (zero : List Value) (n : Nat) (parts : List (Nat × Nat × Operand))
inductive PSteps where
  | nil
  | op (dst : Option Nat) (o : POp) (chk : Bool) (rest : PSteps)
  | sc (dst : Nat) (c : Nat) (isAnd : Bool) (tmp : List Nat) (body : PSteps) (y : Operand) (rest : PSteps)
  /-- From here on a slot's slice is left alone. -/
  | fz (t : Nat) (s : FS) (rest : PSteps)
  /-- What is still built is lent to a call that looks at it. -/
  | bor (ts : List (Nat × FS)) (dst : Option Nat) (o : POp) (chk : Bool) (rest : PSteps)
inductive PCode where
  | skip
  | region (draw : Bool) (s : PSteps)
  | seq (a b : PCode)
  | cond (c : Operand) (mod tmp : List Nat) (a b : PCode)
  | block (id : Nat) (mod tmp : List Nat) (c : PCode)
  | loop (mod tmp : List Nat) (c : PCode)
  | exit (id : Nat)
  | ret
  | rangeF (g : Operand) (lv ps : List Nat) (assign body : PCode)

def eraseO : POp → AOp
  | .a o => o
  | .growNil _ _ => .move (.const (.slice none 0 0))
  | .growBox false t _ _ => .box t (.const (.slice none 0 0))
  | .growBox true t _ _ => .new t [.slice none 0 0]
  | .buildF t z n ps => .buildSlice t z n ps
def eraseP : PSteps → ASteps
  | .nil => .nil
  | .op d o c r => .op d (eraseO o) c (eraseP r)
  | .sc d c i tmp b y r => .sc d c i tmp (eraseP b) y (eraseP r)
  | .fz _ _ r => eraseP r
  | .bor _ d o c r => .op d (eraseO o) c (eraseP r)
def eraseK : PCode → ACode
  | .skip => .skip
  | .region d s => .region d (eraseP s)
  | .seq a b => .seq (eraseK a) (eraseK b)
  | .cond c m t a b => .cond c m t (eraseK a) (eraseK b)
  | .block i m t c => .block i m t (eraseK c)
  | .loop m t c => .loop m t (eraseK c)
  | .exit i => .exit i
  | .ret => .ret
  | .rangeF g lv ps a b => .rangeF g lv ps (eraseK a) (eraseK b)

inductive PBlk where
  | box (vs : List PV) (t : TypeId) (md : Md)
  | log (rows : List (List PV)) (sz : Nat) (elem : TypeId) (md : Md)
  | map (es : List (PV × PV)) (md : Md)
  | loop (vals : List PV) (lv ps : List Nat) (assign body : PCode) (st : LSt) (pend : Option AExit) (md : Md)
  | dead
abbrev PHeap := List PBlk

/-- A cell that names no block. -/
def pure1 : PV → Bool
  | .int _ _ | .bool _ | .str _ | .nilS | .nilP | .nilM | .nilF | .nilI | .frz _ _ => true
  | _ => false
def oneP : PV → Bool
  | .agg _ | .tuple _ | .junk => false
  | _ => true
def cellsP : PV → List PV
  | .agg cs => cs
  | .junk => []
  | v => [v]

/-! ### Pure operations -/
def binP (op : BinOp) (x y : PV) : Option PV :=
  match x, y with
  | .int k a, .int k' b =>
    match op with
    | .shl => if b < 0 then none else some (.int k (k.wrap (a * 2 ^ (min b.toNat k.bits))))
    | .shr => if b < 0 then none else some (.int k (a.fdiv (2 ^ (min b.toNat k.bits))))
    | op =>
      if k = k' then
        match op with
        | .add => some (.int k (k.wrap (a + b)))
        | .sub => some (.int k (k.wrap (a - b)))
        | .mul => some (.int k (k.wrap (a * b)))
        | .quo => if b = 0 then none else some (.int k (k.wrap (a.tdiv b)))
        | .rem => if b = 0 then none else some (.int k (a.tmod b))
        | .and => some (.int k (k.wrap (BitVec.ofInt k.bits a &&& BitVec.ofInt k.bits b).toNat))
        | .or => some (.int k (k.wrap (BitVec.ofInt k.bits a ||| BitVec.ofInt k.bits b).toNat))
        | .xor => some (.int k (k.wrap (BitVec.ofInt k.bits a ^^^ BitVec.ofInt k.bits b).toNat))
        | .andNot => some (.int k (k.wrap (BitVec.ofInt k.bits a &&& ~~~(BitVec.ofInt k.bits b)).toNat))
        | .eql => some (.bool (a == b))
        | .neq => some (.bool (a != b))
        | .lss => some (.bool (decide (a < b)))
        | .leq => some (.bool (decide (a ≤ b)))
        | .gtr => some (.bool (decide (a > b)))
        | .geq => some (.bool (decide (a ≥ b)))
        | _ => none
      else none
  | .str a, .str b =>
    match op with
    | .add => if a.size + b.size ≤ 4611686018427387904 then some (.str (a ++ b)) else none
    | .eql => some (.bool (a.toList == b.toList))
    | .neq => some (.bool !(a.toList == b.toList))
    | _ => none
  | _, _ => none
def eqBoolP (neg : Bool) (x y : PV) : Option PV :=
  match x, y with
  | .bool a, .bool b => some (.bool (neg != (a == b)))
  | _, _ => none
def isNilP (k : NilKind) (neg : Bool) (x : PV) : Option PV :=
  match k, x with
  | .slice, .nilS => some (.bool (neg != true))
  | .slice, .frz _ (_ :: _) => some (.bool (neg != false))
  | .slice, .ref _ _ (_ + 1) _ _ => some (.bool (neg != false))
  | .pointer, .nilP => some (.bool (neg != true))
  | .pointer, .ptr _ _ => some (.bool (neg != false))
  | .pointer, .fptr _ _ => some (.bool (neg != false))
  | .map, .nilM => some (.bool (neg != true))
  | .map, .map _ => some (.bool (neg != false))
  | .func, .nilF => some (.bool (neg != true))
  | .func, .func _ _ _ => some (.bool (neg != false))
  | .iface, .nilI => some (.bool (neg != true))
  | .iface, .iface _ _ => some (.bool (neg != false))
  | _, _ => none
/-- Is it unknown whether a slice is nil? -/
def unkNil (k : NilKind) (x : PV) : Bool :=
  match k, x with
  | .slice, .frz _ [] => true
  | .slice, .emp => true
  | .slice, .ref _ _ 0 _ _ => true
  | _, _ => false
open Classical in
/-- What comes to the same either way. -/
noncomputable def both {R : Type} (a b : Option R) : Option R := if a = b then a else none
noncomputable def isNilK {R : Type} (t : NilKind) (neg : Bool) (x : PV) (k : PV → Option R) : Option R :=
  match unkNil t x with
  | true => both (k (.bool true)) (k (.bool false))
  | false => (isNilP t neg x).bind k
def eqCellsP : List BK → List PV → List PV → Option Bool
  | [], [], [] => some true
  | .int :: ks, .int k a :: xs, .int k' b :: ys => if k = k' then (eqCellsP ks xs ys).map (fun r => (a == b) && r) else none
  | .bool :: ks, .bool a :: xs, .bool b :: ys => (eqCellsP ks xs ys).map (fun r => (a == b) && r)
  | .str :: ks, .str a :: xs, .str b :: ys => (eqCellsP ks xs ys).map (fun r => (a == b) && r)
  | _, _, _ => none
def eqAggP (ks : List BK) (neg : Bool) (x y : PV) : Option PV :=
  match x, y with
  | .agg xs, .agg ys => (eqCellsP ks xs ys).map fun r => .bool (neg != r)
  | _, _ => none
def unP (op : UnOp) (x : PV) : Option PV :=
  match op, x with
  | .neg, .int k n => some (.int k (k.wrap (0 - n)))
  | .not, .bool b => some (.bool !b)
  | .xor, .int k n => some (.int k (k.wrap (BitVec.ofInt k.bits (if k.signed then -1 else k.max) ^^^ BitVec.ofInt k.bits n).toNat))
  | _, _ => none
def strIdP (x : PV) : Option PV :=
  match x with
  | .str s => some (.str s)
  | _ => none
def convP (k : IntKind) (x : PV) : Option PV :=
  match x with
  | .int _ n => some (.int k (k.wrap n))
  | _ => none
def lenP (str : Bool) (x : PV) : Option PV :=
  match str, x with
  | true, .str s => some (.int .i64 s.size)
  | false, .nilS => some (.int .i64 0)
  | false, .emp => some (.int .i64 0)
  | false, .frz _ rows => some (.int .i64 rows.length)
  | false, .ref _ _ n _ _ => some (.int .i64 n)
  | _, _ => none
def pickP (c x y : PV) : Option PV :=
  match c with
  | .bool b => some (if b then x else y)
  | _ => none
def extractP (x : PV) (i : Nat) : Option PV :=
  match x with
  | .tuple vs => vs[i]?
  | _ => none
def partP (agg : Bool) (off size : Nat) (cs : List PV) : Option PV :=
  match agg with
  | true => if off + size ≤ cs.length then some (.agg ((cs.drop off).take size)) else none
  | false => cs[off]?
def fieldP (agg : Bool) (off size : Nat) (x : PV) : Option PV :=
  match x with
  | .agg cs => partP agg off size cs
  | _ => none
def indexArrP (n : Nat) (agg : Bool) (size : Nat) (x i : PV) : Option PV :=
  match x, i with
  | .agg cs, .int _ j => if 0 ≤ j ∧ j < n then partP agg (j.toNat * size) size cs else none
  | _, _ => none
def indexStrP (x i : PV) : Option PV :=
  match x, i with
  | .str s, .int _ j => if 0 ≤ j then (s.data[j.toNat]?).map fun b => .int .u8 b.toNat else none
  | _, _ => none
def fieldAddrP (off : Nat) (x : PV) : Option PV :=
  match x with
  | .ptr b o => some (.ptr b (o + off))
  | .fptr row o => some (.fptr row (o + off))
  | .lptr b i o ver sz => some (.lptr b i (o + off) ver sz)
  | _ => none
def indexAddrP (size : Nat) (x i : PV) : Option PV :=
  match x, i with
  | .frz sz rows, .int _ j => if 0 ≤ j ∧ sz = size then (rows[j.toNat]?).map fun row => .fptr row 0 else none
  | .ref b lo n ver sz, .int _ j => if 0 ≤ j ∧ j < n ∧ sz = size then some (.lptr b (lo + j.toNat) 0 ver sz) else none
  | _, _ => none
def indexAddrArrP (n size : Nat) (x i : PV) : Option PV :=
  match i with
  | .int _ j => if 0 ≤ j ∧ j < n then fieldAddrP (j.toNat * size) x else none
  | _ => none
def nilCheckP (x : PV) : Option PV :=
  match x with
  | .ptr b o => some (.ptr b o)
  | .fptr row o => some (.fptr row o)
  | .lptr b i o ver sz => some (.lptr b i o ver sz)
  | .func f xs ys => some (.func f xs ys)
  | _ => none
def boundP (d : Nat) (x : Option PV) (most : Nat) : Option Nat :=
  match x with
  | none => some d
  | some (.int _ j) => if 0 ≤ j ∧ j ≤ most then some j.toNat else none
  | _ => none
def sliceP (size : Nat) (x : PV) (lo hi mx : Option PV) : Option PV :=
  match x with
  | .nilS => (boundP 0 mx 0).bind fun _ => (boundP 0 hi 0).bind fun _ => (boundP 0 lo 0).bind fun _ => some .nilS
  | .emp => (boundP 0 mx 0).bind fun _ => (boundP 0 hi 0).bind fun _ => (boundP 0 lo 0).bind fun _ => some .emp
  | .frz sz rows =>
    if sz = size then
      match mx with
      | none => (boundP rows.length hi rows.length).bind fun h => (boundP 0 lo h).bind fun l => some (.frz sz ((rows.take h).drop l))
      | some m => match hi with
        | some hi => (boundP 0 (some m) rows.length).bind fun m => (boundP 0 (some hi) m).bind fun h => (boundP 0 lo h).bind fun l =>
          some (if m = l then .emp else .frz sz ((rows.take h).drop l))
        | none => none
    else none
  | .ref b lo0 n ver sz =>
    if sz = size then
      match mx with
      | none => (boundP n hi n).bind fun h => (boundP 0 lo h).bind fun l => some (if h = l then .frz sz [] else .ref b (lo0 + l) (h - l) ver sz)
      | some _ => none
    else none
  | _ => none
def sliceStrP (x : PV) (lo hi : Option PV) : Option PV :=
  match x with
  | .str s => (boundP s.size hi s.size).bind fun h => (boundP 0 lo h).bind fun l => some (.str (s.extract l h))
  | _ => none
def max2P (x y : PV) : Option PV :=
  match x, y with
  | .int k a, .int k' b => if k = k' then some (.int k (if b > a then b else a)) else none
  | _, _ => none
def min2P (x y : PV) : Option PV :=
  match x, y with
  | .int k a, .int k' b => if k = k' then some (.int k (if b < a then b else a)) else none
  | _, _ => none
def foldP (f : PV → PV → Option PV) (x : PV) : List PV → Option PV
  | [] => some x
  | y :: r => (f x y).bind fun z => foldP f z r
def fold1P (f : PV → PV → Option PV) : List PV → Option PV
  | [] => none
  | x :: r => foldP f x r
def fillP (cells : List PV) : List (Nat × Nat × PV) → Option (List PV)
  | [] => some cells
  | (off, size, v) :: r =>
    if (cellsP v).length = size ∧ 0 < size ∧ off + size ≤ cells.length then fillP (cells.take off ++ cellsP v ++ cells.drop (off + size)) r else none

/-! ### Memory's operations -/
def boxAt (h : PHeap) (b : Nat) : Option (List PV) :=
  match h[b]? with
  | some (.box vs _ _) => some vs
  | _ => none
/-- The rows of a block, if there are ver of them. -/
def logAt (h : PHeap) (b ver sz : Nat) : Option (List (List PV)) :=
  match h[b]? with
  | some (.log rows sz' _ _) => bif Nat.beq rows.length ver && Nat.beq sz' sz then some rows else none
  | _ => none
def loadP (agg : Bool) (n : Nat) (x : PV) (h : PHeap) : Option PV :=
  match x with
  | .ptr b o => (boxAt h b).bind fun vs => partP agg o n vs
  | .fptr row o => partP agg o n row
  | .lptr b i o ver sz => (logAt h b ver sz).bind fun rows => (rows[i]?).bind fun row => partP agg o n row
  | _ => none
def putAt (vs : List PV) (o : Nat) (l : List PV) : Option (List PV) :=
  if o + l.length ≤ vs.length ∧ l.all oneP = true then some (vs.take o ++ l ++ vs.drop (o + l.length)) else none
def storeP (n : Nat) (x v : PV) (h : PHeap) : Option PHeap :=
  bif Nat.beq (cellsP v).length n && Nat.blt 0 n then
    match x with
    | .ptr b o => match h[b]? with
      | some (.box vs t .rw) => (putAt vs o (cellsP v)).map fun vs' => h.set b (.box vs' t .rw)
      | _ => none
    | .lptr b i o ver sz => match h[b]? with
      | some (.log rows sz' t .rw) => if rows.length = ver ∧ sz' = sz then
          (rows[i]?).bind fun row => (putAt row o (cellsP v)).map fun row' => h.set b (.log (rows.set i row') sz' t .rw) else none
      | _ => none
    | _ => none
  else none
/-- The rows of a slice, or of a string. -/
def rowsP (sz : Nat) (x : PV) (h : PHeap) : Option (List (List PV)) :=
  match x with
  | .nilS => some []
  | .emp => some []
  | .frz sz' rows => if sz' = sz then some rows else none
  | .ref b lo n ver sz' => if n = 0 then some [] else if sz' = sz then (logAt h b ver sz).bind fun rows => if lo + n ≤ rows.length then some ((rows.drop lo).take n) else none else none
  | .str s => if sz = 1 then some (s.data.toList.map fun b => [.int .u8 b.toNat]) else none
  | _ => none
/-- append. -/
def appendRows (elem : TypeId) (sz : Nat) (s : PV) (new : List (List PV)) (h : PHeap) : Option (PV × PHeap) :=
  if new.length ≤ mostLen ∧ 0 < sz ∧ new.flatten.all oneP = true then
    match s with
    | .nilS => if new.length = 0 then some (.nilS, h) else some (.ref h.length 0 new.length new.length sz, h ++ [.log new sz elem .rw])
    | .emp => if new.length = 0 then some (.emp, h) else some (.ref h.length 0 new.length new.length sz, h ++ [.log new sz elem .rw])
    | .ref b lo n ver sz' => match h[b]? with
      | some (.log rows sz2 t .rw) =>
        if lo = 0 ∧ n = ver ∧ rows.length = ver ∧ sz' = sz ∧ sz2 = sz ∧ t = elem ∧ ver + new.length ≤ mostLen then
          some (.ref b 0 (ver + new.length) (ver + new.length) sz, h.set b (.log (rows ++ new) sz elem .rw))
        else none
      | _ => none
    | _ => none
  else none
def appendP (elem : TypeId) (sz : Nat) (s x : PV) (h : PHeap) : Option (PV × PHeap) := (rowsP sz x h).bind fun new => appendRows elem sz s new h
def appendNP (elem : TypeId) (sz : Nat) (zero : List PV) (s k : PV) (h : PHeap) : Option (PV × PHeap) :=
  match k with
  | .int .i64 l => if 0 ≤ l ∧ l ≤ mostLen ∧ zero.length = sz then appendRows elem sz s (List.replicate l.toNat zero) h else none
  | _ => none
def copyP (sz : Nat) (d s : PV) (h : PHeap) : Option (PV × PHeap) :=
  (rowsP sz s h).bind fun src =>
    match d with
    | .nilS => some (.int .i64 0, h)
    | .emp => some (.int .i64 0, h)
    | .ref b lo n ver sz' =>
      match h[b]? with
      | some (.log rows sz2 t .rw) =>
        if rows.length = ver ∧ sz' = sz ∧ sz2 = sz ∧ lo + n ≤ ver ∧ 0 < n ∧ src.flatten.all oneP = true then
          some (.int .i64 (Nat.min src.length n), h.set b (.log (rows.take lo ++ src.take n ++ rows.drop (lo + Nat.min src.length n)) sz2 t .rw))
        else none
      | _ => none
    | _ => none
def clearP (zero : List PV) (x : PV) (h : PHeap) : Option (PV × PHeap) :=
  match x with
  | .nilS => some (undefP, h)
  | .emp => some (undefP, h)
  | .ref b lo n ver sz =>
    match h[b]? with
    | some (.log rows sz2 t .rw) =>
      if rows.length = ver ∧ zero.length = sz ∧ sz2 = sz ∧ lo + n ≤ ver ∧ 0 < n ∧ zero.all oneP = true then
        some (undefP, h.set b (.log (rows.take lo ++ List.replicate n zero ++ rows.drop (lo + n)) sz2 t .rw))
      else none
    | _ => none
  | _ => none
def mkSliceP (elem : TypeId) (zero : List PV) (n c : PV) (h : PHeap) : Option (PV × PHeap) :=
  match n, c with
  | .int .i64 n, .int .i64 c =>
    if 0 ≤ n ∧ n ≤ c ∧ c ≤ mostLen then some (.ref h.length 0 n.toNat n.toNat zero.length, h ++ [.log (List.replicate n.toNat zero) zero.length elem .rw]) else none
  | _, _ => none
/-- Cells in rows. -/
def chunk (sz : Nat) : Nat → List PV → List (List PV)
  | 0, _ => []
  | n + 1, l => l.take sz :: chunk sz n (l.drop sz)
def keyEqP (k : BK) (x y : PV) : Option Bool :=
  match k, x, y with
  | .int, .int k a, .int k' b => if k = k' then some (a == b) else none
  | .bool, .bool a, .bool b => some (a == b)
  | .str, .str a, .str b => some (a == b)
  | _, _, _ => none
def findMapP (k : BK) (x : PV) : List (PV × PV) → Option (Option PV)
  | [] => some none
  | (y, v) :: r => match keyEqP k x y with
    | some true => some (some v)
    | some false => findMapP k x r
    | none => none
def insMapP (k : BK) (x v : PV) : List (PV × PV) → Option (List (PV × PV))
  | [] => some [(x, v)]
  | (y, u) :: r => match keyEqP k x y with
    | some true => some ((x, v) :: r)
    | some false => (insMapP k x v r).map fun q => (y, u) :: q
    | none => none
def mapOfP (x : PV) (h : PHeap) : Option (List (PV × PV)) :=
  match x with
  | .nilM => some []
  | .map b => match h[b]? with
    | some (.map es _) => some es
    | _ => none
  | _ => none
def lookupP (k : BK) (zero : PV) (ok : Bool) (x i : PV) (h : PHeap) : Option PV :=
  (mapOfP x h).bind fun es => (findMapP k i es).map fun r =>
    match r, ok with
    | some v, true => .tuple [v, .bool true]
    | some v, false => v
    | none, true => .tuple [zero, .bool false]
    | none, false => zero
def setMapP (k : BK) (x i v : PV) (h : PHeap) : Option PHeap :=
  match x with
  | .map b => match h[b]? with
    | some (.map es .rw) => (insMapP k i v es).map fun q => h.set b (.map q .rw)
    | _ => none
  | _ => none
def lenMapP (x : PV) (h : PHeap) : Option PV := (mapOfP x h).map fun es => .int .i64 es.length
def bytesP : List (List PV) → Option (List UInt8)
  | [] => some []
  | [.int .u8 n] :: r => (bytesP r).map fun l => UInt8.ofNat n.toNat :: l
  | _ => none
def bytesToStrP (x : PV) (h : PHeap) : Option PV :=
  match x with
  | .str _ => none
  | x => (rowsP 1 x h).bind fun rows => (bytesP rows).map fun bs => .str ⟨bs.toArray⟩

/-! ### Freezing -/
mutual
def fz : FS → PV → PHeap → Option (PV × PHeap)
  | .keep, v, h => some (v, h)
  | .raw, v, h => match v with
    | .nilS => some (.emp, h)
    | v => some (v, h)
  | .flat sz, v, h => match v with
    | .nilS => some (.frz sz [], h)
    | .emp => some (.frz sz [], h)
    | .frz sz' rows => some (.frz sz' rows, h)
    | .ref b lo n ver sz => if n = 0 then some (.frz sz [], h) else match h[b]? with
      | some (.log rows sz' t .rw) => if rows.length = ver ∧ sz' = sz ∧ lo + n ≤ ver ∧ ((rows.drop lo).take n).flatten.all pure1 = true then some (.frz sz ((rows.drop lo).take n), h.set b (.log rows sz' t .ro)) else none
      | some (.log rows sz' t .ro) => if rows.length = ver ∧ sz' = sz ∧ lo + n ≤ ver ∧ ((rows.drop lo).take n).flatten.all pure1 = true then some (.frz sz ((rows.drop lo).take n), h) else none
      | _ => none
    | _ => none
  | .sl sz cs, v, h => match v with
    | .nilS => some (.frz sz [], h)
    | .emp => some (.frz sz [], h)
    | .frz sz' rows => some (.frz sz' rows, h)
    | .ref b lo n ver sz => if n = 0 then some (.frz sz [], h) else match h[b]? with
      | some (.log rows sz' t .rw) => if rows.length = ver ∧ sz' = sz ∧ lo + n ≤ ver then
          (fzRows cs ((rows.drop lo).take n) (h.set b (.log rows sz' t .ro))).bind fun q => if q.1.flatten.all pure1 = true then some (.frz sz q.1, q.2) else none
        else none
      | some (.log rows sz' t .ro) => if rows.length = ver ∧ sz' = sz ∧ lo + n ≤ ver then
          (fzRows cs ((rows.drop lo).take n) h).bind fun q => if q.1.flatten.all pure1 = true then some (.frz sz q.1, q.2) else none
        else none
      | _ => none
    | _ => none
  | .agg cs, v, h => match v with
    | .agg vs => (fzL cs vs h).map fun q => (.agg q.1, q.2)
    | _ => none
def fzL : List FS → List PV → PHeap → Option (List PV × PHeap)
  | [], [], h => some ([], h)
  | s :: ss, v :: vs, h => (fz s v h).bind fun q => (fzL ss vs q.2).map fun r => (q.1 :: r.1, r.2)
  | _, _, _ => none
def fzRows (cs : List FS) : List (List PV) → PHeap → Option (List (List PV) × PHeap)
  | [], h => some ([], h)
  | r :: rs, h => (fzL cs r h).bind fun q => (fzRows cs rs q.2).map fun p => (q.1 :: p.1, p.2)
end
/-- The value names no block from n on. -/
def ltV (n : Nat) : PV → Prop
  | .ptr b _ => b < n
  | .ref b _ _ _ _ => b < n
  | .lptr b _ _ _ _ => b < n
  | .map b => b < n
  | .yield b => b < n
  | .func _ xs ys => (∀ x ∈ xs, ltV n x) ∧ (∀ y ∈ ys, ltV n y)
  | .iface _ v => ltV n v
  | .agg cs => ∀ x ∈ cs, ltV n x
  | .tuple cs => ∀ x ∈ cs, ltV n x
  | _ => True
def ltB (n : Nat) : PBlk → Prop
  | .box vs _ _ => ∀ x ∈ vs, ltV n x
  | .log rows _ _ _ => ∀ x ∈ rows.flatten, ltV n x
  | .map es _ => ∀ x ∈ es, ltV n x.1 ∧ ltV n x.2
  | .loop vals _ _ _ _ _ _ _ => ∀ x ∈ vals, ltV n x
  | .dead => True
open Classical in
/-- What has been made since h0 is given up, if nothing names it. -/
noncomputable def trim (h0 : PHeap) (roots : List PV) (h : PHeap) : PHeap :=
  if (∀ v ∈ roots, ltV h0.length v) ∧ (∀ b, b < h0.length → h[b]? = h0[b]? ∨ ∃ blk, h[b]? = some blk ∧ ltB h0.length blk) then h.take h0.length else h
def lockB : PBlk → PBlk
  | .box vs t .rw => .box vs t .lk
  | .log rows sz t .rw => .log rows sz t .lk
  | .map es .rw => .map es .lk
  | .loop vals lv ps a b st pend .rw => .loop vals lv ps a b st pend .lk
  | b => b
def lock (h : PHeap) : PHeap := h.map lockB
open Classical in
/-- Behind something that was not to write. -/
noncomputable def unl {R : Type} (h h' : PHeap) (k : PHeap → Option R) : Option R := if lock h <+: h' then k (h ++ h'.drop h.length) else none

/-! ### Code -/
def pval (e : PEnv) : Operand → PV
  | .tmp t => e t
  | .const v => ofV v
  | .global _ => .junk
  | .func f => .func f [] []
def pvals (e : PEnv) : List Operand → List PV
  | [] => []
  | x :: r => pval e x :: pvals e r
def pvalO (e : PEnv) : Option Operand → Option PV
  | none => none
  | some x => some (pval e x)
def pvalP (e : PEnv) : List (Nat × Nat × Operand) → List (Nat × Nat × PV)
  | [] => []
  | (i, n, x) :: r => (i, n, pval e x) :: pvalP e r
abbrev PCallee := FuncId → List PV → PHeap → Option (PV × PHeap)
section
variable {R : Type}
def callVP (Γ : PCallee) (f : PV) (args : List PV) (h : PHeap) : Option (PV × PHeap) :=
  match f with
  | .func g xs ys => bif Nat.blt g yieldId then Γ g (xs ++ args ++ ys) h else none
  | .yield b => Γ yieldId (.ptr b 0 :: args) h
  | _ => none
def callFP (Γ : PCallee) (f : PV) (args : List PV) (h : PHeap) : Option (PV × PHeap) :=
  match f with
  | .func g xs ys => bif Nat.blt g yieldId then Γ g (xs ++ args ++ ys) h else none
  | _ => none
def zeros (zero : List Value) : List PV := zero.map ofV1
def repP (zero : List PV) : Nat → List PV
  | 0 => []
  | n + 1 => zero ++ repP zero n

noncomputable def popK (Γ : PCallee) (o : POp) (e : PEnv) (h : PHeap) (k : PV → PHeap → Option R) : Option R :=
  match o with
  | .growNil t sz => if 0 < sz then k (.ref h.length 0 0 0 sz) (h ++ [.log [] sz t .rw]) else none
  | .growBox _ t el sz => if 0 < sz then k (.ptr (h.length + 1) 0) (h ++ [.log [] sz el .rw, .box [.ref h.length 0 0 0 sz] t .rw]) else none
  | .buildF t zero n parts => if 0 < zero.length ∧ 0 < n ∧ n ≤ mostLen then (fillP (repP (zeros zero) n) (pvalP e parts)).bind fun l => if l.all pure1 = true then k (.frz zero.length (chunk zero.length n l)) h else none else none
  | .a o => match o with
    | .move x => k (pval e x) h
    | .pick c a b => (pickP (pval e c) (pval e a) (pval e b)).bind fun v => k v h
    | .bin op x y => (binP op (pval e x) (pval e y)).bind fun v => k v h
    | .eqBool neg x y => (eqBoolP neg (pval e x) (pval e y)).bind fun v => k v h
    | .isNil t neg x => isNilK t neg (pval e x) fun v => k v h
    | .eqAgg ks neg x y => (eqAggP ks neg (pval e x) (pval e y)).bind fun v => k v h
    | .un op x => (unP op (pval e x)).bind fun v => k v h
    | .conv t x => (convP t (pval e x)).bind fun v => k v h
    | .strId x => (strIdP (pval e x)).bind fun v => k v h
    | .len str x => (lenP str (pval e x)).bind fun v => k v h
    | .extract x i => (extractP (pval e x) i).bind fun v => k v h
    | .field agg off size x => (fieldP agg off size (pval e x)).bind fun v => k v h
    | .indexArr n agg size x i => (indexArrP n agg size (pval e x) (pval e i)).bind fun v => k v h
    | .indexStr x i => (indexStrP (pval e x) (pval e i)).bind fun v => k v h
    | .fieldAddr off x => (fieldAddrP off (pval e x)).bind fun v => k v h
    | .indexAddr size x i => (indexAddrP size (pval e x) (pval e i)).bind fun v => k v h
    | .indexAddrArr n size x i => (indexAddrArrP n size (pval e x) (pval e i)).bind fun v => k v h
    | .nilCheck x => (nilCheckP (pval e x)).bind fun v => k v h
    | .slice size x lo hi mx => (sliceP size (pval e x) (pvalO e lo) (pvalO e hi) (pvalO e mx)).bind fun v => k v h
    | .sliceStr x lo hi => (sliceStrP (pval e x) (pvalO e lo) (pvalO e hi)).bind fun v => k v h
    | .sliceArr _ _ _ _ _ _ => none
    | .max xs => (fold1P max2P (pvals e xs)).bind fun v => k v h
    | .min xs => (fold1P min2P (pvals e xs)).bind fun v => k v h
    | .build zero parts => (fillP (zeros zero) (pvalP e parts)).bind fun l => k (.agg l) h
    | .mkFunc f first captured => k (.func f (pvals e first) (pvals e captured)) h
    | .mkIface t x => k (.iface t (pval e x)) h
    | .box t x => k (.ptr h.length 0) (h ++ [.box (cellsP (pval e x)) t .rw])
    | .new t zero => k (.ptr h.length 0) (h ++ [.box (zeros zero) t .rw])
    | .buildSlice t zero n parts => if 0 < zero.length ∧ 0 < n ∧ n ≤ mostLen then (fillP (repP (zeros zero) n) (pvalP e parts)).bind fun l => k (.ref h.length 0 n n zero.length) (h ++ [.log (chunk zero.length n l) zero.length t .rw])
        else match n, parts with
          | 0, [] => k .emp h
          | _, _ => none
    | .mkSlice t zero n c => if 0 < zero.length then (mkSliceP t (zeros zero) (pval e n) (pval e c) h).bind fun p => k p.1 p.2 else none
    | .load agg n x => (loadP agg n (pval e x) h).bind fun v => k v h
    | .store n x v => (storeP n (pval e x) (pval e v) h).bind fun h' => k undefP h'
    | .append t size s x => (appendP t size (pval e s) (pval e x) h).bind fun p => k p.1 p.2
    | .copy size d s => (copyP size (pval e d) (pval e s) h).bind fun p => k p.1 p.2
    | .clear zero x => (clearP (zeros zero) (pval e x) h).bind fun p => k p.1 p.2
    | .appendN t size zero s n => (appendNP t size (zeros zero) (pval e s) (pval e n) h).bind fun p => k p.1 p.2
    | .mkMap => k (.map h.length) (h ++ [.map [] .rw])
    | .lookup t zero ok x i => (lookupP t (ofV zero) ok (pval e x) (pval e i) h).bind fun v => k v h
    | .mapSet t x i v => (setMapP t (pval e x) (pval e i) (pval e v) h).bind fun h' => k undefP h'
    | .lenMap x => (lenMapP (pval e x) h).bind fun v => k v h
    | .bytesToStr x => (bytesToStrP (pval e x) h).bind fun v => k v h
    | .call f args => (Γ f (pvals e args) h).bind fun p => k p.1 p.2
    | .callV f args => (callVP Γ (pval e f) (pvals e args) h).bind fun p => k p.1 p.2
    | .fail => none

/-- Ways meet: k is what follows. -/
def K1 (k : PV → PHeap → Option R) (b : (PV → PHeap → Option R) → Option R) : Option R := b k
def KL (k : List PV → PHeap → Option R) (b : (List PV → PHeap → Option R) → Option R) : Option R := b k
def scP (v : PV) (isAnd : Bool) (a b : Option R) : Option R :=
  match v with
  | .bool t => if t = isAnd then a else b
  | _ => none
def ifP (v : PV) (a b : Option R) : Option R :=
  match v with
  | .bool t => if t = true then a else b
  | _ => none
def scal1 : PV → Bool
  | .int _ _ | .bool _ | .str _ => true
  | _ => false
/-- A value that names nothing. -/
def scal : PV → Bool
  | .tuple cs => cs.all scal1
  | v => scal1 v
def fzE : List (Nat × FS) → PEnv → PHeap → (PEnv → PHeap → Option R) → Option R
  | [], e, h, k => k e h
  | p :: r, e, h, k => (fz p.2 (e p.1) h).bind fun q => fzE r (pupd e p.1 q.1) q.2 k
noncomputable def pstepsK (Γ : PCallee) : PSteps → (PEnv → PHeap → Option R) → PEnv → PHeap → Option R
  | .nil, K, e, h => K e h
  | .op d o false rest, K, e, h => popK Γ o e h fun v h' => pstepsK Γ rest K (pupdO e d v) h'
  | .op d o true rest, K, e, h => popK Γ o e (lock h) fun v h' => unl h h' fun h2 => pstepsK Γ rest K (pupdO e d v) h2
  | .sc d c isAnd tmp body y rest, K, e, h =>
    K1 (fun v h => pstepsK Γ rest K (pupd (pjunk e tmp) d v) h) fun j =>
      scP (e c) isAnd (pstepsK Γ body (fun e' h' => j (pval e' y) h') e h) (j (.bool !isAnd) h)
  | .fz t s rest, K, e, h => (fz s (e t) h).bind fun q => pstepsK Γ rest K (pupd e t q.1) q.2
  | .bor ts d o _ rest, K, e, h => fzE ts e h fun e1 h1 => popK Γ o e1 (lock h1) fun v _ => if scal v = true then pstepsK Γ rest K (pupdO e d v) h else none
def loopP (B : (List PV → PHeap → Option R) → List PV → PHeap → Option R) : Nat → List PV → PHeap → Option R
  | 0, _, _ => none
  | n + 1, vs, h => B (loopP B n) vs h
def pendOfP (b : Nat) (h : PHeap) : Option (Option AExit) :=
  match h[b]? with
  | some (.loop _ _ _ _ _ .ready pend .rw) => some pend
  | some (.loop _ _ _ _ _ .done pend .rw) => some pend
  | _ => none
def endRoundP (b : Nat) (o : AExit) (h : PHeap) : Option (PV × PHeap) :=
  match h[b]? with
  | some (.loop vals lv ps ab bb .busy _ .rw) => match o with
    | .normal => some (.bool true, h.set b (.loop vals lv ps ab bb .ready none .rw))
    | .exit i => some (.bool false, h.set b (.loop vals lv ps ab bb .done (some (.exit i)) .rw))
    | .ret => some (.bool false, h.set b (.loop vals lv ps ab bb .done (some .ret) .rw))
  | _ => none
def beginRoundP (b : Nat) (h : PHeap) : Option PHeap :=
  match h[b]? with
  | some (.loop vals lv ps ab bb .ready pend .rw) => some (h.set b (.loop vals lv ps ab bb .busy pend .rw))
  | _ => none
noncomputable def pcodeK (Γ : PCallee) (n : Nat) : PCode → (AExit → PEnv → PHeap → Option R) → PEnv → PHeap → Option R
  | .skip, K, e, h => K .normal e h
  | .region _ s, K, e, h => pstepsK Γ s (fun e h => K .normal e h) e h
  | .seq a b, K, e, h => pcodeK Γ n a (fun o e h => match o with | .normal => pcodeK Γ n b K e h | .exit i => K (.exit i) e h | .ret => K .ret e h) e h
  | .cond c mod tmp a b, K, e, h =>
    KL (fun vs h => K .normal (psetMany (pjunk e tmp) mod vs) h) fun j =>
      ifP (pval e c)
        (pcodeK Γ n a (fun o e h => match o with | .normal => j (pgetMany e mod) h | .exit i => K (.exit i) e h | .ret => K .ret e h) e h)
        (pcodeK Γ n b (fun o e h => match o with | .normal => j (pgetMany e mod) h | .exit i => K (.exit i) e h | .ret => K .ret e h) e h)
  | .block id mod tmp c, K, e, h =>
    KL (fun vs h => K .normal (psetMany (pjunk e tmp) mod vs) h) fun j =>
      pcodeK Γ n c (fun o e h => match o with
        | .normal => j (pgetMany e mod) h
        | .exit i => bif Nat.beq i id then j (pgetMany e mod) h else K (.exit i) e h
        | .ret => K .ret e h) e h
  | .loop mod tmp c, K, e, h =>
    loopP (fun cont vs h1 => pcodeK Γ n c (fun o e h2 => match o with | .normal => cont (pgetMany e mod) (trim h (pgetMany e mod) h2) | .exit i => K (.exit i) e h2 | .ret => K .ret e h2) (psetMany (pjunk e tmp) mod vs) h1) n (pgetMany e mod) h
  | .exit i, K, e, h => K (.exit i) e h
  | .ret, K, e, h => K .ret e h
  | .rangeF g lv ps ab bb, K, e, h =>
    (callFP Γ (pval e g) [.yield h.length] (h ++ [.loop (pgetMany e lv) lv ps ab bb .ready none .rw])).bind fun p =>
      (pendOfP h.length p.2).bind fun o => match o with
        | none => K .normal e (trim h [] (p.2.set h.length .dead))
        | some x => K x e (trim h [] (p.2.set h.length .dead))

structure PFun where
  nargs : Nat
  ntmps : Nat
  code : PCode
  results : List ARes
  shapes : List FS
def PFun.erase (F : PFun) : AFun := ⟨F.nargs, F.ntmps, eraseK F.code, F.results⟩
def presultsK : List ARes → PEnv → PHeap → (List PV → Option R) → Option R
  | [], _, _, k => k []
  | .tmp t :: r, e, h, k => presultsK r e h fun vs => k (e t :: vs)
  | .cell t agg n :: r, e, h, k => (loadP agg n (e t) h).bind fun v => presultsK r e h fun vs => k (v :: vs)
def singleP : List PV → PV
  | [v] => v
  | vs => .tuple vs
end
def pinit (args : List PV) : PEnv := fun i => args.getD i undefP
/-- How a function ends. -/
noncomputable def finP (shapes : List FS) (h h' : PHeap) (vs : List PV) : Option (PV × PHeap) := (fzL shapes vs h').map fun q => (singleP q.1, trim h q.1 q.2)
noncomputable def pfunK (Γ : PCallee) (n : Nat) (F : PFun) (args : List PV) (h : PHeap) : Option (PV × PHeap) :=
  bif Nat.beq args.length F.nargs then
    pcodeK Γ n F.code (fun o e h' => match o with
      | .normal => presultsK F.results e h' fun vs => finP F.shapes h h' vs
      | .ret => presultsK F.results e h' fun vs => finP F.shapes h h' vs
      | .exit _ => none) (pinit args) h
  else none
noncomputable def proundK (Γ : PCallee) (n : Nat) (args : List PV) (h : PHeap) : Option (PV × PHeap) :=
  match args with
  | .ptr b 0 :: vs =>
    match h[b]? with
    | some (.loop vals lv ps ab bb .ready _ _) =>
      bif Nat.beq vs.length ps.length then
        pcodeK Γ n ab (fun o e h1 => match o with
          | .normal => (beginRoundP b h1).bind fun h2 => pcodeK Γ n bb (fun o _ h3 => (endRoundP b o h3).map fun q => (q.1, trim h [] q.2)) e h2
          | _ => none) (psetMany (psetMany (fun _ => .junk) lv vals) ps vs) h
      else none
    | _ => none
  | _ => none
abbrev PTable := List (FuncId × PFun)
def PTable.get (T : PTable) (f : FuncId) : Option PFun :=
  match T with
  | [] => none
  | (g, F) :: r => bif Nat.beq g f then some F else PTable.get r f
def PTable.erase : PTable → ATable
  | [] => []
  | (g, F) :: r => (g, F.erase) :: PTable.erase r
noncomputable def pcall (Γ0 : PCallee) (T : PTable) : Nat → PCallee
  | 0, f, args, h => bif Nat.beq f yieldId then none else match T.get f with
    | some _ => none
    | none => Γ0 f args h
  | n + 1, f, args, h => bif Nat.beq f yieldId then proundK (pcall Γ0 T n) n args h else match T.get f with
    | some F => pfunK (pcall Γ0 T n) n F args h
    | none => Γ0 f args h
open Classical in
noncomputable def prun (Γ0 : PCallee) (T : PTable) : PCallee := fun f args h =>
  if H : ∃ n, (pcall Γ0 T n f args h).isSome = true then pcall Γ0 T (Classical.choose H) f args h else none
def noCalleeP : PCallee := fun _ _ _ => none

end Go.Vm

/- How a state of the value machine stands for one of the abstract machine. -/
namespace Go.Vm
open Go.Am

/-- Where version k of a block lies: the block, and how many rows there is room for. -/
abbrev Ren := Nat → Nat → Option (Option Am.Loc)
/-- The blocks that will stay as they are. -/
abbrev Frz := Nat → Option ABlk

mutual
inductive PR (μ : Ren) (φ : Frz) : PV → Value → Prop
  | junk (v : Value) : PR μ φ .junk v
  | int (k : IntKind) (n : Int) : PR μ φ (.int k n) (.int k n)
  | bool (b : Bool) : PR μ φ (.bool b) (.bool b)
  | str (s : ByteArray) : PR μ φ (.str s) (.string s)
  | nilS : PR μ φ .nilS (.slice none 0 0)
  | nilP : PR μ φ .nilP (.pointer none)
  | nilM : PR μ φ .nilM (.map none)
  | nilF : PR μ φ .nilF .nilFunc
  | nilI : PR μ φ .nilI .nilIface
  | emp (a : Option Addr) : PR μ φ .emp (.slice a 0 0)
  | frzNil (sz : Nat) : PR μ φ (.frz sz []) (.slice none 0 0)
  | frz0 (sz : Nat) (a : Addr) (c : Nat) : PR μ φ (.frz sz []) (.slice (some a) 0 c)
  | frz {rows : List (List PV)} {sz a o n c : Nat} {vs : List Value} {t : TypeId} {rw : Bool} (hn : n = rows.length) (hc : n ≤ c ∧ n < capU) (hsz : ∀ r ∈ rows, r.length = sz) (hφ : φ a = some (.cells vs t rw))
      (hl : o + n * sz ≤ vs.length) (hp : rows.flatten.all pure1 = true) (hr : PRL μ φ rows.flatten ((vs.drop o).take (n * sz))) : PR μ φ (.frz sz rows) (.slice (some ⟨a, o, none⟩) n c)
  | fptr {row : List PV} {off a o : Nat} {vs : List Value} {t : TypeId} {rw : Bool} (hφ : φ a = some (.cells vs t rw)) (hl : o + row.length ≤ vs.length) (hp : row.all pure1 = true)
      (hr : PRL μ φ row ((vs.drop o).take row.length)) : PR μ φ (.fptr row off) (.pointer (some ⟨a, o + off, none⟩))
  | ptr {b o : Nat} {l : Am.Loc} (h : μ b 0 = some (some l)) : PR μ φ (.ptr b o) (.pointer (some ⟨l.blk, o, none⟩))
  | ref0 {b : Nat} (sz : Nat) (a : Option Addr) (h : μ b 0 = some none) : PR μ φ (.ref b 0 0 0 sz) (.slice a 0 0)
  | ref {b lo n ver sz c : Nat} {l : Am.Loc} (h : μ b ver = some (some l)) (hn : lo + n ≤ ver) (hc : (c = capU ∧ 0 < n) ∨ (c < capU ∧ n ≤ c ∧ lo + c ≤ l.K)) : PR μ φ (.ref b lo n ver sz) (.slice (some ⟨l.blk, lo * sz, none⟩) n c)
  | lptr {b i off ver sz : Nat} {l : Am.Loc} (h : μ b ver = some (some l)) : PR μ φ (.lptr b i off ver sz) (.pointer (some ⟨l.blk, i * sz + off, none⟩))
  | map {b : Nat} {l : Am.Loc} (h : μ b 0 = some (some l)) : PR μ φ (.map b) (.map (some l.blk))
  | func (f : FuncId) {xs ys : List PV} {xs' ys' : List Value} (hx : PRL μ φ xs xs') (hy : PRL μ φ ys ys') : PR μ φ (.func f xs ys) (.func (.func f) xs'.toArray ys'.toArray)
  | yield {b : Nat} {l : Am.Loc} (h : μ b 0 = some (some l)) : PR μ φ (.yield b) (.func (.yield l.blk) ⟨[]⟩ ⟨[]⟩)
  | iface (t : TypeId) {v : PV} {v' : Value} (h : PR μ φ v v') : PR μ φ (.iface t v) (.iface t v')
  | agg {xs : List PV} {ys : List Value} (h : PRL μ φ xs ys) : PR μ φ (.agg xs) (.agg ys.toArray)
  | tuple {xs : List PV} {ys : List Value} (h : PRL μ φ xs ys) : PR μ φ (.tuple xs) (.tuple ys.toArray)
inductive PRL (μ : Ren) (φ : Frz) : List PV → List Value → Prop
  | nil : PRL μ φ [] []
  | cons {x : PV} {y : Value} {xs : List PV} {ys : List Value} (h : PR μ φ x y) (hs : PRL μ φ xs ys) : PRL μ φ (x :: xs) (y :: ys)
end

def RenLe (μ μ' : Ren) : Prop := ∀ b k l, μ b k = some l → μ' b k = some l
def FrzLe (φ φ' : Frz) : Prop := ∀ a blk, φ a = some blk → φ' a = some blk
theorem RenLe.refl (μ : Ren) : RenLe μ μ := fun _ _ _ h => h
theorem FrzLe.refl (φ : Frz) : FrzLe φ φ := fun _ _ h => h
theorem RenLe.trans {a b c : Ren} (h : RenLe a b) (h' : RenLe b c) : RenLe a c := fun x y z e => h' x y z (h x y z e)
theorem FrzLe.trans {a b c : Frz} (h : FrzLe a b) (h' : FrzLe b c) : FrzLe a c := fun x y e => h' x y (h x y e)

mutual
theorem PR.mono {μ μ' : Ren} {φ φ' : Frz} (hm : RenLe μ μ') (hf : FrzLe φ φ') {x : PV} {y : Value} : PR μ φ x y → PR μ' φ' x y
  | .junk v => .junk v
  | .int k n => .int k n
  | .bool b => .bool b
  | .str s => .str s
  | .nilS => .nilS
  | .nilP => .nilP
  | .nilM => .nilM
  | .nilF => .nilF
  | .nilI => .nilI
  | .emp a => .emp a
  | .frzNil sz => .frzNil sz
  | .frz0 sz a c => .frz0 sz a c
  | .frz h1 h2 h3 h4 h5 h6 h7 => .frz h1 h2 h3 (hf _ _ h4) h5 h6 (PRL.mono hm hf h7)
  | .fptr h4 h5 h6 h7 => .fptr (hf _ _ h4) h5 h6 (PRL.mono hm hf h7)
  | .ptr h => .ptr (hm _ _ _ h)
  | .ref0 sz a h => .ref0 sz a (hm _ _ _ h)
  | .ref h h1 h2 => .ref (hm _ _ _ h) h1 h2
  | .lptr h => .lptr (hm _ _ _ h)
  | .map h => .map (hm _ _ _ h)
  | .func f h h' => .func f (PRL.mono hm hf h) (PRL.mono hm hf h')
  | .yield h => .yield (hm _ _ _ h)
  | .iface t h => .iface t (PR.mono hm hf h)
  | .agg h => .agg (PRL.mono hm hf h)
  | .tuple h => .tuple (PRL.mono hm hf h)
theorem PRL.mono {μ μ' : Ren} {φ φ' : Frz} (hm : RenLe μ μ') (hf : FrzLe φ φ') {xs : List PV} {ys : List Value} : PRL μ φ xs ys → PRL μ' φ' xs ys
  | .nil => .nil
  | .cons h hs => .cons (PR.mono hm hf h) (PRL.mono hm hf hs)
end
/-- The renaming below n. -/
def cut (μ : Ren) (n : Nat) : Ren := fun b k => if b < n then μ b k else none
theorem cut_lt {μ : Ren} {n b k : Nat} (h : b < n) : cut μ n b k = μ b k := if_pos h
theorem cut_le (μ : Ren) (n : Nat) : RenLe (cut μ n) μ := fun b k l h => by
  unfold cut at h
  split at h
  · exact h
  · cases h
mutual
/-- A value that names no block from n on stands as well under the renaming below n. -/
theorem PR.under {μ : Ren} {φ : Frz} {n : Nat} {x : PV} {y : Value} (hl : ltV n x) : PR μ φ x y → PR (cut μ n) φ x y
  | .junk v => .junk v
  | .int k n => .int k n
  | .bool b => .bool b
  | .str s => .str s
  | .nilS => .nilS
  | .nilP => .nilP
  | .nilM => .nilM
  | .nilF => .nilF
  | .nilI => .nilI
  | .emp a => .emp a
  | .frzNil sz => .frzNil sz
  | .frz0 sz a c => .frz0 sz a c
  | .frz h1 h2 h3 h4 h5 h6 h7 => .frz h1 h2 h3 h4 h5 h6 (PRL.under (fun x hx => by
      have := List.all_eq_true.1 h6 x hx
      cases x <;> simp [pure1, ltV] at this ⊢) h7)
  | .fptr h4 h5 h6 h7 => .fptr h4 h5 h6 (PRL.under (fun x hx => by
      have := List.all_eq_true.1 h6 x hx
      cases x <;> simp [pure1, ltV] at this ⊢) h7)
  | .ptr h => .ptr (by rw [cut_lt (by simpa [ltV] using hl)]; exact h)
  | .ref0 sz a h => .ref0 sz a (by rw [cut_lt (by simpa [ltV] using hl)]; exact h)
  | .ref h h1 h2 => .ref (by rw [cut_lt (by simpa [ltV] using hl)]; exact h) h1 h2
  | .lptr h => .lptr (by rw [cut_lt (by simpa [ltV] using hl)]; exact h)
  | .map h => .map (by rw [cut_lt (by simpa [ltV] using hl)]; exact h)
  | .func f h h' => by unfold ltV at hl; exact .func f (PRL.under hl.1 h) (PRL.under hl.2 h')
  | .yield h => .yield (by rw [cut_lt (by simpa [ltV] using hl)]; exact h)
  | .iface t h => by unfold ltV at hl; exact .iface t (PR.under hl h)
  | .agg h => by unfold ltV at hl; exact .agg (PRL.under hl h)
  | .tuple h => by unfold ltV at hl; exact .tuple (PRL.under hl h)
theorem PRL.under {μ : Ren} {φ : Frz} {n : Nat} {xs : List PV} {ys : List Value} (hl : ∀ x ∈ xs, ltV n x) : PRL μ φ xs ys → PRL (cut μ n) φ xs ys
  | .nil => .nil
  | .cons h hs => .cons (PR.under (hl _ (by simp)) h) (PRL.under (fun x hx => hl x (by simp [hx])) hs)
end
mutual
/-- .. and what stands under a renaming below n names no block from n on, but for refs of nothing. -/
theorem PR.lt {μ : Ren} {φ : Frz} {n : Nat} (hd : ∀ b k l, μ b k = some l → b < n) {μ' : Ren} {φ' : Frz} {x : PV} {y y' : Value} (h' : PR μ' φ' x y') : PR μ φ x y → PR (cut μ' n) φ' x y'
  | .junk v => .junk _
  | .int k n => h'.under (by simp [ltV])
  | .bool b => h'.under (by simp [ltV])
  | .str s => h'.under (by simp [ltV])
  | .nilS => h'.under (by simp [ltV])
  | .nilP => h'.under (by simp [ltV])
  | .nilM => h'.under (by simp [ltV])
  | .nilF => h'.under (by simp [ltV])
  | .nilI => h'.under (by simp [ltV])
  | .emp a => h'.under (by simp [ltV])
  | .frzNil sz => h'.under (by simp [ltV])
  | .frz0 sz a c => h'.under (by simp [ltV])
  | .frz .. => h'.under (by simp [ltV])
  | .fptr .. => h'.under (by simp [ltV])
  | .ptr h => h'.under (by simpa [ltV] using hd _ _ _ h)
  | .ref0 sz a h => h'.under (by simpa [ltV] using hd _ _ _ h)
  | .ref h h1 h2 => h'.under (by simpa [ltV] using hd _ _ _ h)
  | .lptr h => h'.under (by simpa [ltV] using hd _ _ _ h)
  | .map h => h'.under (by simpa [ltV] using hd _ _ _ h)
  | .func f h1 h2 => by
    cases h' with
    | func _ h3 h4 => exact .func f (PRL.lt hd h3 h1) (PRL.lt hd h4 h2)
  | .yield h => h'.under (by simpa [ltV] using hd _ _ _ h)
  | .iface t h => by
    cases h' with
    | iface _ h3 => exact .iface t (PR.lt hd h3 h)
  | .agg h => by
    cases h' with
    | agg h3 => exact .agg (PRL.lt hd h3 h)
  | .tuple h => by
    cases h' with
    | tuple h3 => exact .tuple (PRL.lt hd h3 h)
theorem PRL.lt {μ : Ren} {φ : Frz} {n : Nat} (hd : ∀ b k l, μ b k = some l → b < n) {μ' : Ren} {φ' : Frz} {xs : List PV} {ys ys' : List Value} (h' : PRL μ' φ' xs ys') : PRL μ φ xs ys → PRL (cut μ' n) φ' xs ys'
  | .nil => by cases h'; exact .nil
  | .cons h hs => by
    cases h' with
    | cons h3 h4 => exact .cons (PR.lt hd h3 h) (PRL.lt hd h4 hs)
end
end Go.Vm

/- How blocks and states of the value machine stand for the abstract machine's; the one step that all changes are. -/
namespace Go.Vm
open Go.Am

theorem PRL.length {μ : Ren} {φ : Frz} {xs : List PV} {ys : List Value} (h : PRL μ φ xs ys) : xs.length = ys.length := by
  induction xs generalizing ys with
  | nil => cases h; rfl
  | cons x xs ih => cases h with | cons _ hs => simp [ih hs]
theorem PRL.get {μ : Ren} {φ : Frz} {xs : List PV} {ys : List Value} (h : PRL μ φ xs ys) {i : Nat} {x : PV} (hx : xs[i]? = some x) : ∃ y, ys[i]? = some y ∧ PR μ φ x y := by
  induction xs generalizing ys i with
  | nil => simp at hx
  | cons z xs ih =>
    cases h with
    | cons h0 hs =>
      cases i with
      | zero => simp only [List.getElem?_cons_zero, Option.some.injEq] at hx; subst hx; exact ⟨_, rfl, h0⟩
      | succ i => simp only [List.getElem?_cons_succ] at hx ⊢; exact ih hs hx
theorem PRL.append {μ : Ren} {φ : Frz} {xs xs' : List PV} {ys ys' : List Value} (h : PRL μ φ xs ys) (h' : PRL μ φ xs' ys') : PRL μ φ (xs ++ xs') (ys ++ ys') := by
  induction xs generalizing ys with
  | nil => cases h; exact h'
  | cons x xs ih => cases h with | cons h0 hs => exact .cons h0 (ih hs)
theorem PRL.take {μ : Ren} {φ : Frz} {xs : List PV} {ys : List Value} (h : PRL μ φ xs ys) (n : Nat) : PRL μ φ (xs.take n) (ys.take n) := by
  induction xs generalizing ys n with
  | nil => cases h; simpa using PRL.nil
  | cons x xs ih =>
    cases h with
    | cons h0 hs => cases n with
      | zero => exact .nil
      | succ n => exact .cons h0 (ih hs n)
theorem PRL.drop {μ : Ren} {φ : Frz} {xs : List PV} {ys : List Value} (h : PRL μ φ xs ys) (n : Nat) : PRL μ φ (xs.drop n) (ys.drop n) := by
  induction xs generalizing ys n with
  | nil => cases h; simpa using PRL.nil
  | cons x xs ih =>
    cases h with
    | cons h0 hs => cases n with
      | zero => exact .cons h0 hs
      | succ n => exact ih hs n
theorem PRL.splice {μ : Ren} {φ : Frz} {xs xs' : List PV} {ys ys' : List Value} (h : PRL μ φ xs ys) (h' : PRL μ φ xs' ys') (o : Nat) : PRL μ φ (xs.take o ++ xs' ++ xs.drop (o + xs'.length)) (ys.take o ++ ys' ++ ys.drop (o + ys'.length)) := by
  rw [h'.length]
  exact ((h.take o).append h').append (h.drop _)
theorem PRL.of_get {μ : Ren} {φ : Frz} {xs : List PV} {ys : List Value} (hl : xs.length = ys.length) (h : ∀ (i : Nat) x y, xs[i]? = some x → ys[i]? = some y → PR μ φ x y) : PRL μ φ xs ys := by
  induction xs generalizing ys with
  | nil => cases ys with | nil => exact .nil | cons => simp at hl
  | cons x xs ih => cases ys with
    | nil => simp at hl
    | cons y ys => exact .cons (h 0 x y rfl rfl) (ih (by simpa using hl) fun i x y hx hy => h (i + 1) x y hx hy)

def wrB : PBlk → Prop
  | .box _ _ .rw => True
  | .log _ _ _ .rw => True
  | .map _ .rw => True
  | .loop _ _ _ _ _ _ _ .rw => True
  | _ => False
def ownMd : Md → Bool
  | .ro => false
  | _ => true
def ownB : PBlk → Prop
  | .box _ _ md => ownMd md = true
  | .log _ _ _ md => ownMd md = true
  | .map _ md => ownMd md = true
  | .loop _ _ _ _ _ _ _ md => ownMd md = true
  | .dead => False
theorem wrB.own {b : PBlk} (h : wrB b) : ownB b := by
  unfold wrB at h
  split at h <;> first | trivial | cases h | (simp [ownB, ownMd])
theorem wrB.live {b : PBlk} (h : wrB b) : b ≠ .dead := by rintro rfl; exact h
def ver : PBlk → Nat
  | .log rows _ _ _ => rows.length
  | _ => 0
def BR (μ : Ren) (φ : Frz) (K : Nat) : PBlk → ABlk → Prop
  | .box vs t md, blk => ∃ vs' rw, blk = .cells vs' t rw ∧ vs.length ≤ vs'.length ∧ PRL μ φ vs (vs'.take vs.length) ∧ (ownMd md = true → rw = true)
  | .log rows sz t md, blk => ∃ vs' rw, blk = .cells vs' t rw ∧ rows.length * sz ≤ vs'.length ∧ PRL μ φ rows.flatten (vs'.take (rows.length * sz)) ∧ (∀ r ∈ rows, r.length = sz) ∧ K * sz ≤ vs'.length ∧ (ownMd md = true → rw = true) ∧ rows.length ≤ mostLen
  | .map es _, blk => ∃ es', blk = .map es' ∧ PRL μ φ (es.map (·.1)) (es'.map (·.1)) ∧ PRL μ φ (es.map (·.2)) (es'.map (·.2))
  | .loop vals lv ps ab bb st pend _, blk => ∃ vals', blk = .loop vals' lv ps (eraseK ab) (eraseK bb) st pend ∧ PRL μ φ vals vals'
  | .dead, _ => True
theorem BR.mono {μ μ' : Ren} {φ φ' : Frz} (hm : RenLe μ μ') (hf : FrzLe φ φ') {K : Nat} {b : PBlk} {a : ABlk} (h : BR μ φ K b a) : BR μ' φ' K b a := by
  cases b with
  | box vs t md => obtain ⟨v, r, h1, h2, h3, h4⟩ := h; exact ⟨v, r, h1, h2, h3.mono hm hf, h4⟩
  | log rows sz t md => obtain ⟨v, r, h1, h2, h3, h4, h5, h6⟩ := h; exact ⟨v, r, h1, h2, h3.mono hm hf, h4, h5, h6⟩
  | map es => obtain ⟨e, h1, h2, h3⟩ := h; exact ⟨e, h1, h2.mono hm hf, h3.mono hm hf⟩
  | loop => obtain ⟨e, h1, h2⟩ := h; exact ⟨e, h1, h2.mono hm hf⟩
  | dead => trivial
/-- The block stands for something. -/
def Has (μ : Ren) (φ : Frz) (ha : AHeap) (b : Nat) (blk : PBlk) : Prop :=
  (μ b (ver blk) = some none ∧ ∃ sz t md, blk = .log [] sz t md) ∨ ∃ l blk', μ b (ver blk) = some (some l) ∧ ha[l.blk]? = some blk' ∧ BR μ φ l.K blk blk'
structure Rel (μ : Ren) (φ : Frz) (hp : PHeap) (ha : AHeap) : Prop where
  dom : ∀ b k o, μ b k = some o → b < hp.length ∧ ∀ l, o = some l → l.blk < ha.length
  rel : ∀ b blk, hp[b]? = some blk → blk ≠ .dead → Has μ φ ha b blk
  inj : ∀ b b' blk blk' l l', hp[b]? = some blk → blk ≠ .dead → hp[b']? = some blk' → blk' ≠ .dead → μ b (ver blk) = some (some l) → μ b' (ver blk') = some (some l') → l.blk = l'.blk → b = b'
  sep : ∀ b blk l, hp[b]? = some blk → ownB blk → μ b (ver blk) = some (some l) → φ l.blk = none
  frz : ∀ a blk, φ a = some blk → ha[a]? = some blk
  top : ∀ b blk k o, hp[b]? = some blk → blk ≠ .dead → μ b k = some o → k ≤ ver blk
structure Ext (μ : Ren) (φ : Frz) (hp : PHeap) (ha : AHeap) (μ' : Ren) (φ' : Frz) (hp' : PHeap) (ha' : AHeap) : Prop where
  le : hp.length ≤ hp'.length
  leA : ha.length ≤ ha'.length
  mu : RenLe μ μ'
  phi : FrzLe φ φ'
  frame : ∀ a, a < ha.length → (∀ b blk l, hp[b]? = some blk → wrB blk → μ b (ver blk) = some (some l) → l.blk ≠ a) → ha'[a]? = ha[a]?
  wrt : ∀ b blk' l', hp'[b]? = some blk' → wrB blk' → μ' b (ver blk') = some (some l') → ha.length ≤ l'.blk ∨ ∃ b0 blk l, hp[b0]? = some blk ∧ wrB blk ∧ μ b0 (ver blk) = some (some l) ∧ l.blk = l'.blk
theorem Ext.refl (μ : Ren) (φ : Frz) (hp : PHeap) (ha : AHeap) : Ext μ φ hp ha μ φ hp ha :=
  ⟨Nat.le_refl _, Nat.le_refl _, RenLe.refl _, FrzLe.refl _, fun _ _ _ => rfl, fun b blk l h1 h2 h3 => .inr ⟨b, blk, l, h1, h2, h3, rfl⟩⟩
theorem Ext.trans {μ1 μ2 μ3 : Ren} {φ1 φ2 φ3 : Frz} {p1 p2 p3 : PHeap} {a1 a2 a3 : AHeap} (x : Ext μ1 φ1 p1 a1 μ2 φ2 p2 a2) (y : Ext μ2 φ2 p2 a2 μ3 φ3 p3 a3) : Ext μ1 φ1 p1 a1 μ3 φ3 p3 a3 where
  le := Nat.le_trans x.le y.le
  leA := Nat.le_trans x.leA y.leA
  mu := x.mu.trans y.mu
  phi := x.phi.trans y.phi
  frame a h hn := by
    rw [y.frame a (Nat.lt_of_lt_of_le h x.leA) ?_, x.frame a h hn]
    intro b blk l h1 h2 h3 e
    rcases x.wrt b blk l h1 h2 h3 with h4 | ⟨b0, blk0, l0, q1, q2, q3, q4⟩
    · omega
    · exact hn b0 blk0 l0 q1 q2 q3 (q4.trans e)
  wrt b blk l h1 h2 h3 := by
    rcases y.wrt b blk l h1 h2 h3 with h4 | ⟨b0, blk0, l0, q1, q2, q3, q4⟩
    · exact .inl (Nat.le_trans x.leA h4)
    · rcases x.wrt b0 blk0 l0 q1 q2 q3 with h4 | ⟨b1, blk1, l1, r1, r2, r3, r4⟩
      · exact .inl (by omega)
      · exact .inr ⟨b1, blk1, l1, r1, r2, r3, r4.trans q4⟩

/-- One block is made, or changed. -/
theorem Rel.step {μ μ' : Ren} {φ φ' : Frz} {hp hp' : PHeap} {ha ha' : AHeap} (s : Rel μ φ hp ha) (b0 : Nat) (blk1 : PBlk) (hle : hp.length ≤ hp'.length) (hleA : ha.length ≤ ha'.length) (hm : RenLe μ μ') (hf : FrzLe φ φ')
    (hb0 : hp'[b0]? = some blk1) (hoth : ∀ b, b ≠ b0 → hp'[b]? = hp[b]?) (hver : ∀ b k, b ≠ b0 → μ' b k = μ b k) (hdom : ∀ k l, μ' b0 k = some (some l) → l.blk < ha'.length)
    (hA : ∀ b blk l, b ≠ b0 → hp[b]? = some blk → blk ≠ .dead → μ b (ver blk) = some (some l) → ha'[l.blk]? = ha[l.blk]?)
    (hφ : ∀ a blk, φ' a = some blk → ha'[a]? = some blk)
    (hφn : ∀ b blk l, b ≠ b0 → ownB blk → hp[b]? = some blk → μ b (ver blk) = some (some l) → φ' l.blk = none)
    (htop : ∀ k o, blk1 ≠ .dead → μ' b0 k = some o → k ≤ ver blk1)
    (h1 : blk1 ≠ .dead → (μ' b0 (ver blk1) = some none ∧ ∃ sz t md, blk1 = .log [] sz t md) ∨ ∃ l blk', μ' b0 (ver blk1) = some (some l) ∧ ha'[l.blk]? = some blk' ∧ BR μ' φ' l.K blk1 blk' ∧ (ownB blk1 → φ' l.blk = none) ∧
      ∀ b blk l2, b ≠ b0 → hp[b]? = some blk → blk ≠ .dead → μ b (ver blk) = some (some l2) → l2.blk ≠ l.blk) : Rel μ' φ' hp' ha' where
  dom b k o h := by
    by_cases hb : b = b0
    · subst hb
      exact ⟨(List.getElem?_eq_some_iff.1 hb0).1, fun l e => hdom k l (e ▸ h)⟩
    · rw [hver b k hb] at h
      obtain ⟨q1, q2⟩ := s.dom b k o h
      exact ⟨Nat.lt_of_lt_of_le q1 hle, fun l e => Nat.lt_of_lt_of_le (q2 l e) hleA⟩
  rel b blk h hd := by
    by_cases hb : b = b0
    · subst hb
      rw [hb0] at h
      cases h
      rcases h1 hd with h2 | ⟨l, blk', q1, q2, q3, _⟩
      · exact .inl h2
      · exact .inr ⟨l, blk', q1, q2, q3⟩
    · rw [hoth b hb] at h
      rcases s.rel b blk h hd with ⟨q1, q2⟩ | ⟨l, blk', q1, q2, q3⟩
      · exact .inl ⟨by rw [hver b _ hb]; exact q1, q2⟩
      · exact .inr ⟨l, blk', by rw [hver b _ hb]; exact q1, by rw [hA b blk l hb h hd q1]; exact q2, q3.mono hm hf⟩
  inj b b' blk blk' l l' h hd h' hd' e e' el := by
    by_cases hb : b = b0
    · by_cases hb' : b' = b0
      · rw [hb, hb']
      · subst hb
        rw [hb0] at h
        cases h
        rw [hoth b' hb'] at h'
        rw [hver b' _ hb'] at e'
        rcases h1 hd with ⟨q1, _⟩ | ⟨l1, _, q1, _, _, _, q5⟩
        · rw [q1] at e; cases e
        · rw [q1] at e
          cases e
          exact absurd el.symm (q5 b' blk' l' hb' h' hd' e')
    · by_cases hb' : b' = b0
      · subst hb'
        rw [hb0] at h'
        cases h'
        rw [hoth b hb] at h
        rw [hver b _ hb] at e
        rcases h1 hd' with ⟨q1, _⟩ | ⟨l1, _, q1, _, _, _, q5⟩
        · rw [q1] at e'; cases e'
        · rw [q1] at e'
          cases e'
          exact absurd el (q5 b blk l hb h hd e)
      · rw [hoth b hb] at h
        rw [hoth b' hb'] at h'
        rw [hver b _ hb] at e
        rw [hver b' _ hb'] at e'
        exact s.inj b b' blk blk' l l' h hd h' hd' e e' el
  sep b blk l h ho e := by
    by_cases hb : b = b0
    · subst hb
      rw [hb0] at h
      cases h
      rcases h1 (by rintro rfl; exact ho) with ⟨q1, _⟩ | ⟨l1, _, q1, _, _, q4, _⟩
      · rw [q1] at e; cases e
      · rw [q1] at e
        cases e
        exact q4 ho
    · rw [hoth b hb] at h
      rw [hver b _ hb] at e
      exact hφn b blk l hb ho h e
  frz := hφ
  top b blk k o h hd e := by
    by_cases hb : b = b0
    · subst hb
      rw [hb0] at h
      cases h
      exact htop k o hd e
    · rw [hoth b hb] at h
      rw [hver b _ hb] at e
      exact s.top b blk k o h hd e
theorem Ext.step {μ μ' : Ren} {φ φ' : Frz} {hp hp' : PHeap} {ha ha' : AHeap} (b0 : Nat) (blk1 : PBlk) (hle : hp.length ≤ hp'.length) (hleA : ha.length ≤ ha'.length) (hm : RenLe μ μ') (hf : FrzLe φ φ')
    (hb0 : hp'[b0]? = some blk1) (hoth : ∀ b, b ≠ b0 → hp'[b]? = hp[b]?) (hver : ∀ b k, b ≠ b0 → μ' b k = μ b k)
    (hfr : ∀ a, a < ha.length → (∀ blk l, hp[b0]? = some blk → wrB blk → μ b0 (ver blk) = some (some l) → l.blk ≠ a) → ha'[a]? = ha[a]?)
    (hw : ∀ l', wrB blk1 → μ' b0 (ver blk1) = some (some l') → ha.length ≤ l'.blk ∨ ∃ blk l, hp[b0]? = some blk ∧ wrB blk ∧ μ b0 (ver blk) = some (some l) ∧ l.blk = l'.blk) : Ext μ φ hp ha μ' φ' hp' ha' :=
  ⟨hle, hleA, hm, hf, fun a h1 h2 => hfr a h1 fun blk l q1 q2 q3 => h2 b0 blk l q1 q2 q3, fun b blk l h1 h2 h3 => by
    by_cases hb : b = b0
    · subst hb
      rw [hb0] at h1
      cases h1
      rcases hw l h2 h3 with h4 | ⟨blk, l0, q⟩
      · exact .inl h4
      · exact .inr ⟨b, blk, l0, q⟩
    · rw [hoth b hb] at h1
      rw [hver b _ hb] at h3
      exact .inr ⟨b, blk, l, h1, h2, h3, rfl⟩⟩
/-- A new entry of the renaming. -/
def put (μ : Ren) (b k : Nat) (o : Option Am.Loc) : Ren := fun b' k' => if b' = b ∧ k' = k then some o else μ b' k'
theorem put_self (μ : Ren) (b k : Nat) (o : Option Am.Loc) : put μ b k o b k = some o := if_pos ⟨rfl, rfl⟩
theorem put_ne {μ : Ren} {b k : Nat} {o : Option Am.Loc} {b' k' : Nat} (h : b' ≠ b) : put μ b k o b' k' = μ b' k' := if_neg fun q => h q.1
theorem put_le {μ : Ren} {b k : Nat} {o : Option Am.Loc} (h : ∀ o', μ b k = some o' → o' = o) : RenLe μ (put μ b k o) := fun b' k' l e => by
  unfold put
  split
  · rename_i q
    obtain ⟨rfl, rfl⟩ := q
    rw [h _ e]
  · exact e
theorem Rel.fresh {μ : Ren} {φ : Frz} {hp : PHeap} {ha : AHeap} (s : Rel μ φ hp ha) (k : Nat) : μ hp.length k = none := by
  cases h : μ hp.length k with
  | none => rfl
  | some o => exact absurd (s.dom _ _ _ h).1 (by omega)
theorem put_new {μ : Ren} {φ : Frz} {hp : PHeap} {ha : AHeap} (s : Rel μ φ hp ha) (k : Nat) (o : Option Am.Loc) : RenLe μ (put μ hp.length k o) := put_le fun o' e => by rw [s.fresh] at e; cases e
theorem app_oth {α : Type} {l : List α} {x : α} {b : Nat} (h : b ≠ l.length) : (l ++ [x])[b]? = l[b]? := by
  by_cases hb : b < l.length
  · rw [List.getElem?_append_left hb]
  · rw [List.getElem?_eq_none (by simp; omega), List.getElem?_eq_none (by omega)]
theorem some_lt {α : Type} {l : List α} {i : Nat} {x : α} (h : l[i]? = some x) : i < l.length := (List.getElem?_eq_some_iff.1 h).1
/-- A new block on both sides. -/
theorem Rel.push {μ : Ren} {φ : Frz} {hp : PHeap} {ha : AHeap} (s : Rel μ φ hp ha) (blk : PBlk) (blk' : ABlk) (K : Nat) (hb : BR (put μ hp.length (ver blk) (some ⟨ha.length, K⟩)) φ K blk blk') :
    Rel (put μ hp.length (ver blk) (some ⟨ha.length, K⟩)) φ (hp ++ [blk]) (ha ++ [blk']) ∧ Ext μ φ hp ha (put μ hp.length (ver blk) (some ⟨ha.length, K⟩)) φ (hp ++ [blk]) (ha ++ [blk']) := by
  have hm := put_new s (ver blk) (some ⟨ha.length, K⟩)
  have hφ0 : ∀ a blk, φ a = some blk → a < ha.length := fun a blk e => some_lt (s.frz a blk e)
  constructor
  · refine s.step hp.length blk (by simp) (by simp) hm (FrzLe.refl _) (by simp) (fun b hb => app_oth hb) (fun b k hb => put_ne hb) (fun k l e => ?_) (fun b blk l hb h1 h2 h3 => ?_) (fun a blk e => ?_) (fun b blk l hb h1 h2 h3 => s.sep b blk l h2 h1 h3) (fun k o _ e => ?_) (fun _ => .inr ⟨_, _, put_self _ _ _ _, by simp, hb, fun _ => ?_, fun b blk l hb h1 h2 h3 => ?_⟩)
    · unfold put at e
      split at e
      · cases e; simp
      · rw [s.fresh] at e; cases e
    · rw [List.getElem?_append_left ((s.dom _ _ _ h3).2 l rfl)]
    · rw [List.getElem?_append_left (hφ0 a blk e)]; exact s.frz a blk e
    · unfold put at e
      split at e
      · rename_i q; omega
      · rw [s.fresh] at e; cases e
    · cases h : φ ha.length with
      | none => rfl
      | some x => exact absurd (hφ0 _ _ h) (by omega)
    · have := (s.dom _ _ _ h3).2 l rfl
      simp only
      omega
  · refine Ext.step hp.length blk (by simp) (by simp) hm (FrzLe.refl _) (by simp) (fun b hb => app_oth hb) (fun b k hb => put_ne hb) (fun a h1 _ => List.getElem?_append_left h1) (fun l h1 h2 => .inl ?_)
    rw [put_self] at h2
    cases h2
    exact Nat.le_refl _
/-- A new block of the value machine's alone: a slice without elements. -/
theorem Rel.ghost {μ : Ren} {φ : Frz} {hp : PHeap} {ha : AHeap} (s : Rel μ φ hp ha) (sz : Nat) (t : TypeId) (md : Md) :
    Rel (put μ hp.length 0 none) φ (hp ++ [.log [] sz t md]) ha ∧ Ext μ φ hp ha (put μ hp.length 0 none) φ (hp ++ [.log [] sz t md]) ha := by
  have hm := put_new s 0 none
  constructor
  · refine s.step hp.length (.log [] sz t md) (by simp) (Nat.le_refl _) hm (FrzLe.refl _) (by simp) (fun b hb => app_oth hb) (fun b k hb => put_ne hb) (fun k l e => ?_) (fun b blk l hb h1 h2 h3 => rfl) s.frz (fun b blk l hb h1 h2 h3 => s.sep b blk l h2 h1 h3) (fun k o _ e => ?_) (fun _ => .inl ⟨put_self _ _ _ _, _, _, _, rfl⟩)
    · unfold put at e
      split at e
      · cases e
      · rw [s.fresh] at e; cases e
    · unfold put at e
      split at e
      · rename_i q; omega
      · rw [s.fresh] at e; cases e
  · refine Ext.step hp.length (.log [] sz t md) (by simp) (Nat.le_refl _) hm (FrzLe.refl _) (by simp) (fun b hb => app_oth hb) (fun b k hb => put_ne hb) (fun a h1 _ => rfl) (fun l h1 h2 => ?_)
    have : put μ hp.length 0 none hp.length 0 = some (some l) := h2
    rw [put_self] at this
    cases this
theorem set_oth {α : Type} {l : List α} {x : α} {b b' : Nat} (h : b' ≠ b) : (l.set b x)[b']? = l[b']? := by rw [List.getElem?_set_ne (fun e => h e.symm)]
theorem set_at {α : Type} {l : List α} {x : α} {b : Nat} (h : b < l.length) : (l.set b x)[b]? = some x := by rw [List.getElem?_set_self h]
/-- A block is written; its version stays, or its place does. -/
theorem Rel.write {μ : Ren} {φ : Frz} {hp : PHeap} {ha : AHeap} (s : Rel μ φ hp ha) {b : Nat} {blk blk1 : PBlk} {l : Am.Loc} {blk' : ABlk} (hb : hp[b]? = some blk) (hw : wrB blk) (e : μ b (ver blk) = some (some l))
    (hk : ∀ o, μ b (ver blk1) = some o → o = some l) (hvle : ver blk ≤ ver blk1) (hbr : BR (put μ b (ver blk1) (some l)) φ l.K blk1 blk') :
    Rel (put μ b (ver blk1) (some l)) φ (hp.set b blk1) (ha.set l.blk blk') ∧ Ext μ φ hp ha (put μ b (ver blk1) (some l)) φ (hp.set b blk1) (ha.set l.blk blk') := by
  have hm : RenLe μ (put μ b (ver blk1) (some l)) := put_le hk
  have hbl := some_lt hb
  have hll := (s.dom _ _ _ e).2 l rfl
  have hsep := s.sep b blk l hb hw.own e
  have hne : ∀ b' blk' l', b' ≠ b → hp[b']? = some blk' → blk' ≠ .dead → μ b' (ver blk') = some (some l') → l'.blk ≠ l.blk := fun b' blk' l' h1 h2 h3 h4 h5 => h1 (s.inj b' b blk' blk l' l h2 h3 hb hw.live h4 e h5)
  constructor
  · refine s.step b blk1 (by simp) (by simp) hm (FrzLe.refl _) (set_at hbl) (fun b' h => set_oth h) (fun b' k h => put_ne h) (fun k l' h => ?_) (fun b' blk' l' h1 h2 h3 h4 => set_oth (hne b' blk' l' h1 h2 h3 h4)) (fun a x h => ?_) (fun b' blk l' hb' h1 h2 h3 => s.sep b' blk l' h2 h1 h3) (fun k o _ h => ?_)
      (fun _ => .inr ⟨l, blk', put_self _ _ _ _, set_at hll, hbr, fun _ => hsep, hne⟩)
    · rw [List.length_set]
      unfold put at h
      split at h
      · cases h; exact hll
      · exact (s.dom _ _ _ h).2 l' rfl
    · rw [set_oth (by rintro rfl; rw [hsep] at h; cases h)]
      exact s.frz a x h
    · unfold put at h
      split at h
      · rename_i q; omega
      · exact Nat.le_trans (s.top _ _ _ _ hb hw.live h) hvle
  · refine Ext.step b blk1 (by simp) (by simp) hm (FrzLe.refl _) (set_at hbl) (fun b' h => set_oth h) (fun b' k h => put_ne h) (fun a h1 h2 => set_oth fun h => h2 blk l hb hw e h.symm) (fun l' h1 h2 => .inr ⟨blk, l, hb, hw, e, ?_⟩)
    rw [put_self] at h2
    cases h2
    rfl
theorem put_same {μ : Ren} {b k : Nat} {o : Option Am.Loc} (h : μ b k = some o) : put μ b k o = μ := by
  funext b' k'
  unfold put
  split
  · rename_i q
    rw [q.1, q.2, h]
  · rfl
/-- A block is written, its version stays. -/
theorem Rel.write0 {μ : Ren} {φ : Frz} {hp : PHeap} {ha : AHeap} (s : Rel μ φ hp ha) {b : Nat} {blk blk1 : PBlk} {l : Am.Loc} {blk' : ABlk} (hb : hp[b]? = some blk) (hw : wrB blk) (e : μ b (ver blk) = some (some l))
    (hv : ver blk1 = ver blk) (hbr : BR μ φ l.K blk1 blk') : Rel μ φ (hp.set b blk1) (ha.set l.blk blk') ∧ Ext μ φ hp ha μ φ (hp.set b blk1) (ha.set l.blk blk') := by
  have hp' : put μ b (ver blk1) (some l) = μ := put_same (by rw [hv]; exact e)
  have := s.write (blk1 := blk1) (blk' := blk') hb hw e (fun o h => by rw [hv, e] at h; cases h; rfl) (by omega) (by rw [hp']; exact hbr)
  rw [hp'] at this
  exact this
/-- A slice's rows move to a new block. -/
theorem Rel.grow {μ : Ren} {φ : Frz} {hp : PHeap} {ha ha0 : AHeap} (s : Rel μ φ hp ha) {b : Nat} {blk blk1 : PBlk} {K : Nat} {blk' : ABlk} (hb : hp[b]? = some blk) (hw : wrB blk) (hk : ver blk < ver blk1)
    (hlen : ha0.length = ha.length) (ho : ∀ a, (∀ l, μ b (ver blk) = some (some l) → l.blk ≠ a) → ha0[a]? = ha[a]?) (hbr : BR (put μ b (ver blk1) (some ⟨ha.length, K⟩)) φ K blk1 blk') :
    Rel (put μ b (ver blk1) (some ⟨ha.length, K⟩)) φ (hp.set b blk1) (ha0 ++ [blk']) ∧ Ext μ φ hp ha (put μ b (ver blk1) (some ⟨ha.length, K⟩)) φ (hp.set b blk1) (ha0 ++ [blk']) := by
  have hm : RenLe μ (put μ b (ver blk1) (some ⟨ha.length, K⟩)) := put_le fun o h => by have := s.top _ _ _ _ hb hw.live h; omega
  have hbl := some_lt hb
  have hφ0 : ∀ a blk, φ a = some blk → a < ha.length := fun a blk e => some_lt (s.frz a blk e)
  have hget : ∀ a, a < ha.length → (∀ l, μ b (ver blk) = some (some l) → l.blk ≠ a) → (ha0 ++ [blk'])[a]? = ha[a]? := fun a h1 h2 => by rw [List.getElem?_append_left (by omega)]; exact ho a h2
  constructor
  · refine s.step b blk1 (by simp) (by simp [hlen]) hm (FrzLe.refl _) (set_at hbl) (fun b' h => set_oth h) (fun b' k h => put_ne h) (fun k l' h => ?_) (fun b2 blk2 l2 h1 h2 h3 h4 => ?_) (fun a x h => ?_) (fun b' blk l' hb' h1 h2 h3 => s.sep b' blk l' h2 h1 h3) (fun k o _ h => ?_)
      (fun _ => .inr ⟨_, blk', put_self _ _ _ _, by simp only; rw [← hlen]; simp, hbr, fun _ => ?_, fun b2 blk2 l2 h1 h2 h3 h4 => ?_⟩)
    · unfold put at h
      split at h
      · cases h; simp [hlen]
      · have := (s.dom _ _ _ h).2 l' rfl; simp; omega
    · exact hget _ ((s.dom _ _ _ h4).2 l2 rfl) fun l e he => h1 (s.inj b2 b blk2 blk l2 l h2 h3 hb hw.live h4 e he.symm)
    · rw [hget a (hφ0 a x h) fun l e he => ?_]
      · exact s.frz a x h
      · have := s.sep b blk l hb hw.own e
        rw [he, h] at this
        cases this
    · unfold put at h
      split at h
      · rename_i q; omega
      · have := s.top _ _ _ _ hb hw.live h; omega
    · cases h : φ ha.length with
      | none => rfl
      | some x => exact absurd (hφ0 _ _ h) (by omega)
    · have := (s.dom _ _ _ h4).2 l2 rfl
      simp only
      omega
  · refine Ext.step b blk1 (by simp) (by simp [hlen]) hm (FrzLe.refl _) (set_at hbl) (fun b' h => set_oth h) (fun b' k h => put_ne h) (fun a h1 h2 => hget a h1 fun l e => h2 blk l hb hw e) (fun l' h1 h2 => .inl ?_)
    rw [put_self] at h2
    cases h2
    exact Nat.le_refl _
/-- A block is left alone from here on. -/
theorem Rel.freeze {μ : Ren} {φ : Frz} {hp : PHeap} {ha : AHeap} (s : Rel μ φ hp ha) {b : Nat} {blk blk1 : PBlk} {l : Am.Loc} {blk' : ABlk} (hb : hp[b]? = some blk) (hw : wrB blk) (e : μ b (ver blk) = some (some l)) (ha' : ha[l.blk]? = some blk')
    (hv : ver blk1 = ver blk) (ho : ¬ ownB blk1) (hd : blk1 ≠ .dead) (hbr : ∀ φ', FrzLe φ φ' → BR μ φ' l.K blk1 blk') : ∃ φ', φ' l.blk = some blk' ∧ Rel μ φ' (hp.set b blk1) ha ∧ Ext μ φ hp ha μ φ' (hp.set b blk1) ha := by
  have hbl := some_lt hb
  have hsep := s.sep b blk l hb hw.own e
  obtain ⟨φ', hφ'⟩ : ∃ φ' : Frz, φ' = fun a => if a = l.blk then some blk' else φ a := ⟨_, rfl⟩
  have hat : φ' l.blk = some blk' := by rw [hφ']; exact if_pos rfl
  have hoth : ∀ a, a ≠ l.blk → φ' a = φ a := fun a h => by rw [hφ']; exact if_neg h
  have hf : FrzLe φ φ' := fun a x h => by
    by_cases ha0 : a = l.blk
    · subst ha0; rw [hsep] at h; cases h
    · rw [hoth a ha0]; exact h
  refine ⟨φ', hat, ?_, ?_⟩
  · refine s.step b blk1 (by simp) (Nat.le_refl _) (RenLe.refl _) hf (set_at hbl) (fun b' h => set_oth h) (fun b' k h => rfl) (fun k l' h => (s.dom _ _ _ h).2 l' rfl) (fun _ _ _ _ _ _ _ => rfl) (fun a x h => ?_) (fun b2 blk2 l2 h1 h2 h3 h4 => ?_)
      (fun k o _ h => by rw [hv]; exact s.top _ _ _ _ hb hw.live h)
      (fun _ => .inr ⟨l, blk', by rw [hv]; exact e, ha', hbr φ' hf, fun h => absurd h ho, fun b2 blk2 l2 h1 h2 h3 h4 h5 => h1 (s.inj b2 b blk2 blk l2 l h2 h3 hb hw.live h4 e h5)⟩)
    · by_cases ha0 : a = l.blk
      · subst ha0; rw [hat] at h; cases h; exact ha'
      · rw [hoth a ha0] at h; exact s.frz a x h
    · rw [hoth _ fun h5 => h1 (s.inj b2 b blk2 blk l2 l h3 (by rintro rfl; exact h2) hb hw.live h4 e h5)]
      exact s.sep b2 blk2 l2 h3 h2 h4
  · exact Ext.step b blk1 (by simp) (Nat.le_refl _) (RenLe.refl _) hf (set_at hbl) (fun b' h => set_oth h) (fun b' k h => rfl) (fun _ _ _ => rfl) (fun l' h1 h2 => absurd h1.own ho)
end Go.Vm

/- Each pure operation of the value machine is one of the abstract machine. -/
namespace Go.Vm
open Go.Am
variable {μ : Ren} {φ : Frz}

theorem PR.ofV1 (v : Value) : PR μ φ (Vm.ofV1 v) v := by
  unfold Vm.ofV1
  split <;> constructor
theorem PRL.ofV1 (l : List Value) : PRL μ φ (l.map Vm.ofV1) l := by
  induction l with
  | nil => exact .nil
  | cons v l ih => exact .cons (PR.ofV1 v) ih
theorem PR.ofV (v : Value) : PR μ φ (Vm.ofV v) v := by
  unfold Vm.ofV
  split
  · rename_i cs
    have := PR.agg (PRL.ofV1 (μ := μ) (φ := φ) cs.toList)
    simpa using this
  · exact .iface _ (PR.ofV1 _)
  · exact PR.ofV1 _
theorem PR.undef : PR μ φ undefP undef := .tuple .nil
theorem PR.cells {v : PV} {y : Value} (h : PR μ φ v y) (hn : (cellsP v).length ≠ 0) : PRL μ φ (cellsP v) (cellsL y) := by
  cases h with
  | junk => exact absurd rfl hn
  | agg h => simpa [cellsP, cellsL] using h
  | _ => exact .cons (by constructor <;> assumption) .nil
theorem PR.oneC {v : PV} {y : Value} (h : PR μ φ v y) (ho : oneP v = true) : Am.oneC y = true := by
  cases h <;> first | rfl | (simp [oneP] at ho)
theorem PRL.oneC {vs : List PV} {ys : List Value} (h : PRL μ φ vs ys) (ho : vs.all oneP = true) : ys.all Am.oneC = true := by
  induction vs generalizing ys with
  | nil => cases h; rfl
  | cons v vs ih =>
    cases h with
    | cons h hs =>
      simp only [List.all_cons, Bool.and_eq_true] at ho ⊢
      exact ⟨h.oneC ho.1, ih hs ho.2⟩
theorem pure_one {v : PV} (h : pure1 v = true) : oneP v = true := by cases v <;> first | rfl | (simp [pure1] at h)
theorem pure_ones {vs : List PV} (h : vs.all pure1 = true) : vs.all oneP = true := List.all_eq_true.2 fun v hv => pure_one (List.all_eq_true.1 h v hv)

theorem bin_int (op : BinOp) (k k' : IntKind) (a b : Int) : binP op (.int k a) (.int k' b) = (binf op (.int k a) (.int k' b)).map ofV1 := by
  unfold binP binf
  cases op <;> simp only [] <;> (repeat' split) <;> rfl
theorem bin_str (op : BinOp) (a b : ByteArray) : binP op (.str a) (.str b) = (binf op (.string a) (.string b)).map ofV1 := by
  unfold binP binf
  cases op <;> simp only [] <;> (repeat' split) <;> rfl
theorem binP_sim {op : BinOp} {x y v : PV} {x' y' : Value} (hx : PR μ φ x x') (hy : PR μ φ y y') (h : binP op x y = some v) : ∃ v', binf op x' y' = some v' ∧ PR μ φ v v' := by
  have h0 := h
  unfold binP at h0
  split at h0
  · clear h0
    cases hx
    cases hy
    rw [bin_int, Option.map_eq_some_iff] at h
    obtain ⟨v', h1, rfl⟩ := h
    exact ⟨v', h1, PR.ofV1 v'⟩
  · clear h0
    cases hx
    cases hy
    rw [bin_str, Option.map_eq_some_iff] at h
    obtain ⟨v', h1, rfl⟩ := h
    exact ⟨v', h1, PR.ofV1 v'⟩
  · cases h0
theorem eqBoolP_sim {neg : Bool} {x y v : PV} {x' y' : Value} (hx : PR μ φ x x') (hy : PR μ φ y y') (h : eqBoolP neg x y = some v) : ∃ v', eqBoolf neg x' y' = some v' ∧ PR μ φ v v' := by
  unfold eqBoolP at h
  split at h
  · cases hx; cases hy; cases h; exact ⟨_, rfl, .bool _⟩
  · cases h
theorem isNilP_sim {k : NilKind} {neg : Bool} {x v : PV} {x' : Value} (hx : PR μ φ x x') (h : isNilP k neg x = some v) : ∃ v', isNilKf k neg x' = some v' ∧ PR μ φ v v' := by
  unfold isNilP at h
  split at h <;> first | (cases h; cases hx <;> exact ⟨_, rfl, .bool _⟩) | cases h
theorem unkNil_sim {k : NilKind} {neg : Bool} {x : PV} {x' : Value} (hx : PR μ φ x x') (h : unkNil k x = true) : ∃ b, isNilKf k neg x' = some (.bool b) := by
  unfold unkNil at h
  split at h
  · cases hx <;> exact ⟨_, rfl⟩
  · cases hx with | emp a => cases a <;> exact ⟨_, rfl⟩
  · cases hx with
    | ref0 _ a => cases a <;> exact ⟨_, rfl⟩
    | ref => exact ⟨_, rfl⟩
  · cases h
theorem eqCellsP_sim : ∀ {ks : List BK} {xs ys : List PV} {xs' ys' : List Value} {r : Bool}, PRL μ φ xs xs' → PRL μ φ ys ys' → eqCellsP ks xs ys = some r → eqCells ks xs' ys' = some r := by
  intro ks
  induction ks with
  | nil =>
    intro xs ys xs' ys' r hx hy h
    cases hx with
    | nil => cases hy with
      | nil => exact h
      | cons h3 h4 => simp [eqCellsP] at h
    | cons h1 h2 => simp [eqCellsP] at h
  | cons k ks ih =>
    intro xs ys xs' ys' r hx hy h
    cases hx with
    | nil => cases k <;> simp [eqCellsP] at h
    | cons h1 h2 =>
      cases hy with
      | nil => cases k <;> (cases h1 <;> simp [eqCellsP] at h)
      | cons h3 h4 =>
        cases k with
        | int =>
          cases h1 <;> first | (simp [eqCellsP] at h; done) | skip
          cases h3 <;> first | (simp [eqCellsP] at h; done) | skip
          simp only [eqCellsP] at h
          split at h
          · rename_i hk
            rw [Option.map_eq_some_iff] at h
            obtain ⟨q, hq, rfl⟩ := h
            simp only [eqCells, if_pos hk, ih h2 h4 hq, Option.map_some]
          · cases h
        | bool =>
          cases h1 <;> first | (simp [eqCellsP] at h; done) | skip
          cases h3 <;> first | (simp [eqCellsP] at h; done) | skip
          simp only [eqCellsP, Option.map_eq_some_iff] at h
          obtain ⟨q, hq, rfl⟩ := h
          simp only [eqCells, ih h2 h4 hq, Option.map_some]
        | str =>
          cases h1 <;> first | (simp [eqCellsP] at h; done) | skip
          cases h3 <;> first | (simp [eqCellsP] at h; done) | skip
          simp only [eqCellsP, Option.map_eq_some_iff] at h
          obtain ⟨q, hq, rfl⟩ := h
          simp only [eqCells, ih h2 h4 hq, Option.map_some]
theorem eqAggP_sim {ks : List BK} {neg : Bool} {x y v : PV} {x' y' : Value} (hx : PR μ φ x x') (hy : PR μ φ y y') (h : eqAggP ks neg x y = some v) : ∃ v', eqAggf ks neg x' y' = some v' ∧ PR μ φ v v' := by
  unfold eqAggP at h
  split at h
  · rw [Option.map_eq_some_iff] at h
    obtain ⟨r, hr, rfl⟩ := h
    cases hx with | agg hx => cases hy with | agg hy =>
      refine ⟨_, ?_, .bool _⟩
      simp only [eqAggf, eqCellsP_sim hx hy hr, Option.map_some]
  · cases h
theorem unP_sim {op : UnOp} {x v : PV} {x' : Value} (hx : PR μ φ x x') (h : unP op x = some v) : ∃ v', unf op x' = some v' ∧ PR μ φ v v' := by
  unfold unP at h
  split at h <;> first | (cases h; cases hx; exact ⟨_, rfl, by constructor⟩) | cases h
theorem strIdP_sim {x v : PV} {x' : Value} (hx : PR μ φ x x') (h : strIdP x = some v) : ∃ v', strIdf x' = some v' ∧ PR μ φ v v' := by
  unfold strIdP at h
  split at h <;> first | (cases h; cases hx; exact ⟨_, rfl, by constructor⟩) | cases h
theorem convP_sim {k : IntKind} {x v : PV} {x' : Value} (hx : PR μ φ x x') (h : convP k x = some v) : ∃ v', convf k x' = some v' ∧ PR μ φ v v' := by
  unfold convP at h
  split at h <;> first | (cases h; cases hx; exact ⟨_, rfl, by constructor⟩) | cases h
theorem lenP_sim {str : Bool} {x v : PV} {x' : Value} (hx : PR μ φ x x') (h : lenP str x = some v) : ∃ v', lenf str x' = some v' ∧ PR μ φ v v' := by
  unfold lenP at h
  split at h
  · cases h; cases hx; exact ⟨_, rfl, .int _ _⟩
  · cases h; cases hx; exact ⟨_, rfl, .int _ _⟩
  · cases h; cases hx; exact ⟨_, rfl, .int _ _⟩
  · cases h
    cases hx with
    | frzNil => exact ⟨_, rfl, .int _ _⟩
    | frz0 => exact ⟨_, rfl, .int _ _⟩
    | frz hn => subst hn; exact ⟨_, rfl, .int _ _⟩
  · cases h
    cases hx with
    | ref0 => exact ⟨_, rfl, .int _ _⟩
    | ref => exact ⟨_, rfl, .int _ _⟩
  · cases h
theorem pickP_sim {c x y v : PV} {c' x' y' : Value} (hc : PR μ φ c c') (hx : PR μ φ x x') (hy : PR μ φ y y') (h : pickP c x y = some v) : ∃ v', pickf c' x' y' = some v' ∧ PR μ φ v v' := by
  unfold pickP at h
  split at h
  · rename_i b
    cases h
    cases hc
    refine ⟨_, rfl, ?_⟩
    cases b
    · exact hy
    · exact hx
  · cases h
theorem extractP_sim {x v : PV} {i : Nat} {x' : Value} (hx : PR μ φ x x') (h : extractP x i = some v) : ∃ v', extractf x' i = some v' ∧ PR μ φ v v' := by
  unfold extractP at h
  split at h
  · cases hx with | tuple hx =>
      obtain ⟨y, h1, h2⟩ := hx.get h
      exact ⟨y, by simpa [extractf] using h1, h2⟩
  · cases h
theorem partP_sim {agg : Bool} {off size : Nat} {cs : List PV} {v : PV} {cs' : List Value} (hx : PRL μ φ cs cs') (h : partP agg off size cs = some v) : ∃ v', partf agg off size cs' = some v' ∧ PR μ φ v v' := by
  unfold partP at h
  cases agg with
  | true =>
    simp only at h
    split at h
    · rename_i hle
      cases h
      rw [hx.length] at hle
      exact ⟨_, by unfold partf; simp only; rw [if_pos hle], .agg ((hx.drop _).take _)⟩
    · cases h
  | false =>
    obtain ⟨y, h1, h2⟩ := hx.get h
    exact ⟨y, h1, h2⟩
theorem fieldP_sim {agg : Bool} {off size : Nat} {x v : PV} {x' : Value} (hx : PR μ φ x x') (h : fieldP agg off size x = some v) : ∃ v', fieldf agg off size x' = some v' ∧ PR μ φ v v' := by
  unfold fieldP at h
  split at h
  · cases hx with | agg hx => exact partP_sim hx h
  · cases h
theorem indexArrP_sim {n : Nat} {agg : Bool} {size : Nat} {x i v : PV} {x' i' : Value} (hx : PR μ φ x x') (hi : PR μ φ i i') (h : indexArrP n agg size x i = some v) : ∃ v', indexArrf n agg size x' i' = some v' ∧ PR μ φ v v' := by
  unfold indexArrP at h
  split at h
  · cases hx with | agg hx =>
      cases hi
      split at h
      · rename_i hj
        simp only [indexArrf]
        rw [if_pos hj]
        exact partP_sim hx h
      · cases h
  · cases h
theorem indexStrP_sim {x i v : PV} {x' i' : Value} (hx : PR μ φ x x') (hi : PR μ φ i i') (h : indexStrP x i = some v) : ∃ v', indexStrf x' i' = some v' ∧ PR μ φ v v' := by
  unfold indexStrP at h
  split at h
  · cases hx; cases hi
    split at h
    · rename_i hj
      rw [Option.map_eq_some_iff] at h
      obtain ⟨b, h1, rfl⟩ := h
      refine ⟨_, ?_, .int _ _⟩
      simp only [indexStrf]
      rw [if_pos hj, h1]
      rfl
    · cases h
  · cases h
theorem fieldAddrP_sim {off : Nat} {x v : PV} {x' : Value} (hx : PR μ φ x x') (h : fieldAddrP off x = some v) : ∃ v', fieldAddrf off x' = some v' ∧ PR μ φ v v' := by
  unfold fieldAddrP at h
  split at h
  · cases h; cases hx with | ptr h1 => exact ⟨_, rfl, .ptr h1⟩
  · cases h; cases hx with | fptr h1 h2 h3 h4 => exact ⟨_, rfl, by rw [Nat.add_assoc]; exact .fptr h1 h2 h3 h4⟩
  · cases h; cases hx with | lptr h1 => exact ⟨_, rfl, by rw [Nat.add_assoc]; exact .lptr h1⟩
  · cases h
theorem flat_len {α : Type} {rows : List (List α)} {size : Nat} (hs : ∀ r ∈ rows, r.length = size) : rows.flatten.length = rows.length * size := by
  induction rows with
  | nil => simp
  | cons r rows ih => simp [hs r (by simp), ih fun q hq => hs q (by simp [hq]), Nat.add_mul, Nat.add_comm]
theorem flat_row {α : Type} {rows : List (List α)} {size : Nat} (hs : ∀ r ∈ rows, r.length = size) {i : Nat} {r : List α} (hi : rows[i]? = some r) : (rows.flatten.drop (i * size)).take size = r := by
  induction rows generalizing i with
  | nil => cases hi
  | cons q rows ih =>
    cases i with
    | zero =>
      have e : q = r := by simpa using hi
      subst e
      have := hs q (by simp)
      rw [Nat.zero_mul, List.drop_zero, List.flatten_cons, ← this, List.take_left]
    | succ i =>
      have hq := hs q (by simp)
      rw [List.flatten_cons, show (i + 1) * size = q.length + i * size by rw [Nat.add_mul]; omega, List.drop_length_add_append]
      exact ih (fun q hq => hs q (by simp [hq])) hi
theorem flat_take {α : Type} {rows : List (List α)} {size : Nat} (hs : ∀ r ∈ rows, r.length = size) (k : Nat) : (rows.take k).flatten = rows.flatten.take (k * size) := by
  induction rows generalizing k with
  | nil => simp
  | cons r rows ih =>
    cases k with
    | zero => simp
    | succ k =>
      have hr := hs r (by simp)
      rw [List.take_succ_cons, List.flatten_cons, List.flatten_cons, ih (fun q hq => hs q (by simp [hq])), List.take_append, show (k + 1) * size - r.length = k * size by rw [Nat.add_mul]; omega, List.take_of_length_le (l := r) (by rw [Nat.add_mul]; omega)]
theorem flat_drop {α : Type} {rows : List (List α)} {size : Nat} (hs : ∀ r ∈ rows, r.length = size) (k : Nat) : (rows.drop k).flatten = rows.flatten.drop (k * size) := by
  induction rows generalizing k with
  | nil => simp
  | cons r rows ih =>
    cases k with
    | zero => simp
    | succ k =>
      have hr := hs r (by simp)
      rw [List.drop_succ_cons, List.flatten_cons, ih (fun q hq => hs q (by simp [hq])), List.drop_append, show (k + 1) * size - r.length = k * size by rw [Nat.add_mul]; omega, List.drop_of_length_le (l := r) (by rw [Nat.add_mul]; omega), List.nil_append]
theorem row_le {n size i : Nat} (hi : i < n) : i * size + size ≤ n * size := by
  have := Nat.mul_le_mul_right size (show i + 1 ≤ n by omega)
  rw [Nat.add_mul] at this; omega
/-- A row of many, on both sides. -/
theorem PRL.row {rows : List (List PV)} {sz : Nat} {vs : List Value} {o : Nat} (hsz : ∀ r ∈ rows, r.length = sz) (hr : PRL μ φ rows.flatten ((vs.drop o).take (rows.length * sz))) {i : Nat} {row : List PV} (hi : rows[i]? = some row) :
    PRL μ φ row ((vs.drop (o + i * sz)).take sz) := by
  have := (hr.drop (i * sz)).take sz
  rw [flat_row hsz hi, List.drop_take, List.take_take, List.drop_drop, Nat.min_eq_left (by have := row_le (size := sz) (some_lt hi); omega)] at this
  exact this
theorem indexAddrP_sim {size : Nat} {x i v : PV} {x' i' : Value} (hx : PR μ φ x x') (hi : PR μ φ i i') (h : indexAddrP size x i = some v) : ∃ v', indexAddrf size x' i' = some v' ∧ PR μ φ v v' := by
  unfold indexAddrP at h
  split at h
  · rename_i sz0 rows k j
    cases hi
    split at h
    · rename_i hj
      obtain ⟨hj, rfl⟩ := hj
      rw [Option.map_eq_some_iff] at h
      obtain ⟨row, h1, rfl⟩ := h
      have hlt := some_lt h1
      cases hx with
      | frzNil => cases h1
      | frz0 => cases h1
      | @frz _ sz a o n c vs t rw_ hn hc hsz hφ hl hp hr =>
        subst hn
        have e1 := hsz row (List.mem_of_getElem? h1)
        have hle := row_le (size := sz0) hlt
        refine ⟨ptrTo a (o + j.toNat * sz0), ?_, ?_⟩
        · simp only [indexAddrf]
          rw [if_pos (by omega)]
        · have hrow := PRL.row hsz hr h1
          have := PR.fptr (off := 0) hφ (o := o + j.toNat * sz0) (row := row) (μ := μ) (by omega) (List.all_eq_true.2 fun z hz => List.all_eq_true.1 hp z (List.mem_flatten.2 ⟨row, List.mem_of_getElem? h1, hz⟩)) (by rw [e1]; exact hrow)
          exact this
    · cases h
  · rename_i b lo n ver sz k j
    cases hi
    split at h
    · rename_i hj
      obtain ⟨h1, h2, h3⟩ := hj
      cases h
      subst h3
      cases hx with
      | ref0 => omega
      | @ref _ _ _ _ _ c l hm hn hc =>
        refine ⟨ptrTo l.blk (lo * sz + j.toNat * sz), ?_, ?_⟩
        · simp only [indexAddrf]
          rw [if_pos ⟨h1, h2⟩]
        · rw [← Nat.add_mul]
          exact .lptr (off := 0) hm
    · cases h
  · cases h
theorem addr_as_field (n size : Nat) (x : Value) (k : IntKind) (j : Int) (hj : 0 ≤ j ∧ j < n) : indexAddrArrf n size x (.int k j) = fieldAddrf (j.toNat * size) x := by
  unfold indexAddrArrf fieldAddrf
  cases x with
  | pointer a =>
    cases a with
    | none => rfl
    | some a => simp only; rw [if_pos hj]
  | _ => rfl
theorem indexAddrArrP_sim {n size : Nat} {x i v : PV} {x' i' : Value} (hx : PR μ φ x x') (hi : PR μ φ i i') (h : indexAddrArrP n size x i = some v) : ∃ v', indexAddrArrf n size x' i' = some v' ∧ PR μ φ v v' := by
  unfold indexAddrArrP at h
  split at h
  · cases hi
    split at h
    · rename_i hj
      rw [addr_as_field _ _ _ _ _ hj]
      exact fieldAddrP_sim hx h
    · cases h
  · cases h
theorem nilCheckP_sim {x v : PV} {x' : Value} (hx : PR μ φ x x') (h : nilCheckP x = some v) : ∃ v', nilCheckf x' = some v' ∧ PR μ φ v v' := by
  unfold nilCheckP at h
  split at h
  · cases h; cases hx with | ptr h1 => exact ⟨_, rfl, .ptr h1⟩
  · cases h; cases hx with | fptr h1 h2 h3 h4 => exact ⟨_, rfl, .fptr h1 h2 h3 h4⟩
  · cases h; cases hx with | lptr h1 => exact ⟨_, rfl, .lptr h1⟩
  · cases h; cases hx with | func _ h1 h2 => exact ⟨_, rfl, .func _ h1 h2⟩
  · cases h
inductive OR (μ : Ren) (φ : Frz) : Option PV → Option Value → Prop
  | none : OR μ φ none none
  | some {x : PV} {y : Value} (h : PR μ φ x y) : OR μ φ (some x) (some y)
theorem boundP_sim {d : Nat} {x : Option PV} {x' : Option Value} {most n : Nat} (hx : OR μ φ x x') (h : boundP d x most = some n) : boundf d x' most = some n := by
  unfold boundP at h
  split at h
  · cases hx; exact h
  · cases hx with | some hx => cases hx; exact h
  · cases h
theorem bound_le {d : Nat} {x : Option Value} {most n : Nat} (h : boundf d x most = some n) (hd : d ≤ most) : n ≤ most := by
  unfold boundf at h
  split at h
  · cases h; exact hd
  · split at h
    · cases h; omega
    · cases h
  · cases h
/-- A bound that holds for less holds for more, unless nothing is said. -/
theorem bound_more {d d' : Nat} {x : Option Value} {m m' n : Nat} (h : boundf d x m = some n) (hm : m ≤ m') (hd : x = none → d' = d) : boundf d' x m' = some n := by
  unfold boundf at h ⊢
  split at h
  · cases h; rw [hd rfl]
  · split at h
    · cases h; rw [if_pos (by omega)]
    · cases h
  · cases h
theorem frz_part {rows : List (List PV)} {sz a o : Nat} {vs : List Value} {t : TypeId} {rw_ : Bool} (hsz : ∀ r ∈ rows, r.length = sz) (hφ : φ a = some (.cells vs t rw_)) (hl : o + rows.length * sz ≤ vs.length) (hp : rows.flatten.all pure1 = true)
    (hr : PRL μ φ rows.flatten ((vs.drop o).take (rows.length * sz))) {l h : Nat} (hlh : l ≤ h) (hh : h ≤ rows.length) (hcu : rows.length < capU) {c : Nat} (hc : h - l ≤ c) : PR μ φ (.frz sz ((rows.take h).drop l)) (.slice (some ⟨a, o + l * sz, none⟩) (h - l) c) := by
  have hlen : ((rows.take h).drop l).length = h - l := by simp; omega
  have hle : l * sz + (h - l) * sz ≤ rows.length * sz := by rw [← Nat.add_mul]; exact Nat.mul_le_mul_right _ (by omega)
  refine .frz (sz := sz) hlen.symm ⟨hc, by omega⟩ (fun r hr => hsz r (List.mem_of_mem_take (List.mem_of_mem_drop hr))) hφ (by omega) (List.all_eq_true.2 fun z hz => ?_) ?_
  · obtain ⟨r, h1, h2⟩ := List.mem_flatten.1 hz
    exact List.all_eq_true.1 hp z (List.mem_flatten.2 ⟨r, List.mem_of_mem_take (List.mem_of_mem_drop h1), h2⟩)
  · have h1 := (hr.drop (l * sz)).take ((h - l) * sz)
    rw [flat_drop (size := sz) (fun r hr => hsz r (List.mem_of_mem_take hr)), flat_take hsz, List.drop_take]
    rw [List.drop_take, List.take_take, List.drop_drop, Nat.min_eq_left (by omega)] at h1
    rw [show h * sz - l * sz = (h - l) * sz by rw [Nat.sub_mul]]
    exact h1
theorem none_or (x : Option Value) : x = none ∨ ∃ y, x = some y := by cases x <;> simp
theorem slicef_cap {size n h l : Nat} {a : Option Addr} {lo hi : Option Value} (e2 : boundf n hi n = some h) (e3 : boundf 0 lo h = some l) :
    slicef size (.slice a n capU) lo hi none = some (.slice (a.map fun a => ⟨a.block, a.off + l * size, none⟩) (h - l) capU) := by
  have e1 : boundf n (none : Option Value) n = some n := rfl
  simp only [slicef, if_true, e1, Option.bind_some, e2, e3]
theorem slicef_capm {size n m h l : Nat} {a : Option Addr} {lo hi : Option Value} {mx : Value} (e1 : boundf n (some mx) n = some m) (e2 : boundf n hi m = some h) (e3 : boundf 0 lo h = some l) (hn : n < capU) :
    slicef size (.slice a n capU) lo hi (some mx) = some (.slice (if m = l then a else a.map fun a => ⟨a.block, a.off + l * size, none⟩) (h - l) (m - l)) := by
  have l1 := bound_le e1 (Nat.le_refl _)
  simp only [slicef, if_true, e1, Option.bind_some, e2, e3]
  rw [if_pos (by omega)]
theorem slicef_known {size n c m h l : Nat} {a : Option Addr} {lo hi mx : Option Value} (hc : c ≠ capU) (e1 : boundf c mx c = some m) (e2 : boundf n hi m = some h) (e3 : boundf 0 lo h = some l) :
    slicef size (.slice a n c) lo hi mx = some (.slice (if m = l then a else a.map fun a => ⟨a.block, a.off + l * size, none⟩) (h - l) (m - l)) := by
  simp only [slicef, if_neg hc, e1, Option.bind_some, e2, e3]
theorem frz_any (sz : Nat) (a : Option Addr) (c : Nat) (h : a = none → c = 0) : PR μ φ (.frz sz []) (.slice a 0 c) := by
  cases a with
  | none => rw [h rfl]; exact .frzNil sz
  | some a => exact .frz0 sz a c
theorem take_drop_nil {α : Type} {l : List α} {h b : Nat} (e : h = b) : (l.take h).drop b = [] := by subst e; rw [List.drop_eq_nil_of_le]; simp; omega
theorem sliceP_sim {size : Nat} {x v : PV} {lo hi mx : Option PV} {x' : Value} {lo' hi' mx' : Option Value} (hx : PR μ φ x x') (hlo : OR μ φ lo lo') (hhi : OR μ φ hi hi') (hmx : OR μ φ mx mx')
    (h : sliceP size x lo hi mx = some v) : ∃ v', slicef size x' lo' hi' mx' = some v' ∧ PR μ φ v v' := by
  have hcap : (0 : Nat) ≠ capU := by decide
  unfold sliceP at h
  split at h
  · simp only [Option.bind_eq_some_iff] at h
    obtain ⟨m, h1, a, h2, b, h3, h4⟩ := h
    cases h4
    cases hx
    have e1 := boundP_sim hmx h1
    have e2 := boundP_sim hhi h2
    have e3 := boundP_sim hlo h3
    obtain rfl : m = 0 := by have := bound_le e1 (Nat.le_refl _); omega
    obtain rfl : a = 0 := by have := bound_le e2 (Nat.le_refl _); omega
    obtain rfl : b = 0 := by have := bound_le e3 (Nat.le_refl _); omega
    exact ⟨_, slicef_known hcap e1 e2 e3, .nilS⟩
  · simp only [Option.bind_eq_some_iff] at h
    obtain ⟨m, h1, a, h2, b, h3, h4⟩ := h
    cases h4
    cases hx with
    | emp ad =>
      have e1 := boundP_sim hmx h1
      have e2 := boundP_sim hhi h2
      have e3 := boundP_sim hlo h3
      obtain rfl : m = 0 := by have := bound_le e1 (Nat.le_refl _); omega
      obtain rfl : a = 0 := by have := bound_le e2 (Nat.le_refl _); omega
      obtain rfl : b = 0 := by have := bound_le e3 (Nat.le_refl _); omega
      exact ⟨_, slicef_known hcap e1 e2 e3, .emp _⟩
  · rename_i sz rows
    split at h
    · rename_i hsize
      subst hsize
      split at h
      · simp only [Option.bind_eq_some_iff] at h
        obtain ⟨a, h2, b, h3, h4⟩ := h
        cases h4
        cases hmx
        have e2 := boundP_sim hhi h2
        have e3 := boundP_sim hlo h3
        have l2 := bound_le e2 (Nat.le_refl _)
        have l3 := bound_le e3 (Nat.zero_le _)
        cases hx with
        | frzNil =>
          obtain rfl : a = 0 := by simpa using l2
          obtain rfl : b = 0 := by omega
          exact ⟨_, slicef_known hcap (m := 0) rfl e2 e3, .frzNil _⟩
        | frz0 _ ad c =>
          obtain rfl : a = 0 := by simpa using l2
          obtain rfl : b = 0 := by omega
          by_cases hc : c = capU
          · subst hc
            exact ⟨_, slicef_cap e2 e3, .frz0 _ _ _⟩
          · refine ⟨_, slicef_known hc (m := c) rfl (bound_more e2 (Nat.zero_le _) fun _ => rfl) e3, ?_⟩
            split <;> exact .frz0 _ _ _
        | @frz _ _ ad o n c vs t rw_ hn hc hsz hφ hl hp hr =>
          subst hn
          by_cases hcu : c = capU
          · subst hcu
            exact ⟨_, slicef_cap e2 e3, frz_part hsz hφ hl hp hr l3 l2 hc.2 (by omega)⟩
          · refine ⟨_, slicef_known hcu (m := c) rfl (bound_more e2 hc.1 fun _ => rfl) e3, ?_⟩
            split
            · rename_i hcb
              have e : a = b := by omega
              rw [take_drop_nil e, show a - b = 0 by omega]
              exact .frz0 _ _ _
            · exact frz_part hsz hφ hl hp hr l3 l2 hc.2 (by omega)
      · rename_i mv
        split at h
        case h_2 => cases h
        rename_i hv
        simp only [Option.bind_eq_some_iff] at h
        obtain ⟨m, h1, a, h2, b, h3, h4⟩ := h
        cases h4
        cases hmx with | @some _ mv' hmv =>
        cases hhi with | @some _ hv' hhv =>
        have e1 := boundP_sim (OR.some hmv) h1
        have e2 := boundP_sim (OR.some hhv) h2
        have e3 := boundP_sim hlo h3
        have l1 := bound_le e1 (Nat.zero_le _)
        have l3 := bound_le e3 (Nat.zero_le _)
        cases hx with
        | frzNil =>
          obtain rfl : m = 0 := by simpa using l1
          have l2 := bound_le e2 (Nat.le_refl _)
          obtain rfl : a = 0 := by simpa using l2
          obtain rfl : b = 0 := by omega
          exact ⟨_, slicef_known hcap (bound_more e1 (Nat.le_refl _) fun h => by cases h) e2 e3, .emp _⟩
        | frz0 _ ad c =>
          obtain rfl : m = 0 := by simpa using l1
          have l2 := bound_le e2 (Nat.le_refl _)
          obtain rfl : a = 0 := by simpa using l2
          obtain rfl : b = 0 := by omega
          by_cases hc : c = capU
          · subst hc
            exact ⟨_, slicef_capm (bound_more e1 (Nat.le_refl _) fun h => by cases h) e2 e3 (by decide), .emp _⟩
          · exact ⟨_, slicef_known hc (bound_more e1 (Nat.zero_le _) fun h => by cases h) e2 e3, .emp _⟩
        | @frz _ _ ad o n c vs t rw_ hn hc hsz hφ hl hp hr =>
          subst hn
          have fine : ∀ (q : Value), slicef sz (.slice (some ⟨ad, o, none⟩) rows.length c) lo' (some hv') (some mv') = some (.slice (if m = b then some ⟨ad, o, none⟩ else (some (⟨ad, o, none⟩ : Addr)).map fun a => ⟨a.block, a.off + b * sz, none⟩) (a - b) (m - b)) →
              a ≤ m → ∃ v', slicef sz (.slice (some ⟨ad, o, none⟩) rows.length c) lo' (some hv') (some mv') = some v' ∧ PR μ φ (if m = b then .emp else .frz sz ((rows.take a).drop b)) v' := by
            intro _ hs ham
            refine ⟨_, hs, ?_⟩
            split
            · rename_i hmb
              rw [show a - b = 0 by omega, show m - b = 0 by omega]
              exact .emp _
            · exact frz_part hsz hφ hl hp hr l3 (by omega) hc.2 (by omega)
          have ham : a ≤ m := bound_le e2 (Nat.zero_le _)
          by_cases hcu : c = capU
          · subst hcu
            exact fine (.int .i64 0) (slicef_capm (bound_more e1 (Nat.le_refl _) fun h => by cases h) (bound_more e2 (Nat.le_refl _) fun h => by cases h) e3 hc.2) ham
          · exact fine (.int .i64 0) (slicef_known hcu (bound_more e1 hc.1 fun h => by cases h) (bound_more e2 (Nat.le_refl _) fun h => by cases h) e3) ham
    · cases h
  · rename_i b0 lo0 n vr sz
    split at h
    · rename_i hsize
      subst hsize
      split at h
      · simp only [Option.bind_eq_some_iff] at h
        obtain ⟨a, h2, b, h3, h4⟩ := h
        cases h4
        cases hmx
        have e2 := boundP_sim hhi h2
        have e3 := boundP_sim hlo h3
        have l2 := bound_le e2 (Nat.le_refl _)
        have l3 := bound_le e3 (Nat.zero_le _)
        cases hx with
        | ref0 _ ad hm =>
          obtain rfl : a = 0 := by omega
          obtain rfl : b = 0 := by omega
          rw [if_pos rfl]
          exact ⟨_, slicef_known hcap (m := 0) rfl e2 e3, frz_any _ _ _ fun _ => rfl⟩
        | @ref _ _ _ _ _ c l hm hn hc =>
          rcases hc with ⟨rfl, hc⟩ | ⟨hc1, hc2, hc3⟩
          · refine ⟨_, slicef_cap e2 e3, ?_⟩
            split
            · rename_i hab
              rw [show a - b = 0 by omega]
              exact .frz0 _ _ _
            · show PR μ φ _ (.slice (some ⟨l.blk, lo0 * sz + b * sz, none⟩) _ _)
              rw [← Nat.add_mul]
              exact .ref hm (by omega) (.inl ⟨rfl, by omega⟩)
          · refine ⟨_, slicef_known (by omega) (m := c) rfl (bound_more e2 hc2 fun _ => rfl) e3, ?_⟩
            split
            · rename_i hab
              rw [show a - b = 0 by omega]
              exact frz_any _ _ _ fun h => by split at h <;> cases h
            · rw [if_neg (by omega)]
              show PR μ φ _ (.slice (some ⟨l.blk, lo0 * sz + b * sz, none⟩) _ _)
              rw [← Nat.add_mul]
              exact .ref hm (by omega) (.inr ⟨by omega, by omega, by omega⟩)
      · cases h
    · cases h
  · cases h
theorem sliceStrP_sim {x v : PV} {lo hi : Option PV} {x' : Value} {lo' hi' : Option Value} (hx : PR μ φ x x') (hlo : OR μ φ lo lo') (hhi : OR μ φ hi hi') (h : sliceStrP x lo hi = some v) : ∃ v', sliceStrf x' lo' hi' = some v' ∧ PR μ φ v v' := by
  unfold sliceStrP at h
  split at h
  · cases hx
    rw [Option.bind_eq_some_iff] at h
    obtain ⟨a, h1, h⟩ := h
    rw [Option.bind_eq_some_iff] at h
    obtain ⟨b, h2, h⟩ := h
    cases h
    refine ⟨_, ?_, .str _⟩
    simp only [sliceStrf, boundP_sim hhi h1, boundP_sim hlo h2, Option.bind_some]
  · cases h
theorem max2P_sim {x y v : PV} {x' y' : Value} (hx : PR μ φ x x') (hy : PR μ φ y y') (h : max2P x y = some v) : ∃ v', max2f x' y' = some v' ∧ PR μ φ v v' := by
  unfold max2P at h
  split at h
  · cases hx; cases hy
    split at h
    · rename_i hk; cases h; exact ⟨_, by simp only [max2f]; rw [if_pos hk], .int _ _⟩
    · cases h
  · cases h
theorem min2P_sim {x y v : PV} {x' y' : Value} (hx : PR μ φ x x') (hy : PR μ φ y y') (h : min2P x y = some v) : ∃ v', min2f x' y' = some v' ∧ PR μ φ v v' := by
  unfold min2P at h
  split at h
  · cases hx; cases hy
    split at h
    · rename_i hk; cases h; exact ⟨_, by simp only [min2f]; rw [if_pos hk], .int _ _⟩
    · cases h
  · cases h
theorem foldP_sim {f : PV → PV → Option PV} {g : Value → Value → Option Value} (hfg : ∀ x y v x' y', PR μ φ x x' → PR μ φ y y' → f x y = some v → ∃ v', g x' y' = some v' ∧ PR μ φ v v') :
    ∀ {l : List PV} {l' : List Value} {x v : PV} {x' : Value}, PRL μ φ l l' → PR μ φ x x' → foldP f x l = some v → ∃ v', foldf g x' l' = some v' ∧ PR μ φ v v' := by
  intro l
  induction l with
  | nil => intro l' x v x' hl hx h; cases hl; cases h; exact ⟨_, rfl, hx⟩
  | cons y r ih =>
    intro l' x v x' hl hx h
    cases hl with | cons h1 h2 =>
      simp only [foldP, Option.bind_eq_some_iff] at h
      obtain ⟨z, hz, h⟩ := h
      obtain ⟨z', k1, k2⟩ := hfg _ _ _ _ _ hx h1 hz
      obtain ⟨v', k3, k4⟩ := ih h2 k2 h
      exact ⟨v', by simp only [foldf, k1, Option.bind_some, k3], k4⟩
theorem fold1P_sim {f : PV → PV → Option PV} {g : Value → Value → Option Value} (hfg : ∀ x y v x' y', PR μ φ x x' → PR μ φ y y' → f x y = some v → ∃ v', g x' y' = some v' ∧ PR μ φ v v')
    {l : List PV} {l' : List Value} {v : PV} (hl : PRL μ φ l l') (h : fold1P f l = some v) : ∃ v', fold1f g l' = some v' ∧ PR μ φ v v' := by
  cases hl with
  | nil => cases h
  | cons h1 h2 => exact foldP_sim hfg h2 h1 h
/-- Parts of a literal. -/
inductive PPR (μ : Ren) (φ : Frz) : List (Nat × Nat × PV) → List (Nat × Nat × Value) → Prop
  | nil : PPR μ φ [] []
  | cons {i n : Nat} {x : PV} {y : Value} {xs : List (Nat × Nat × PV)} {ys : List (Nat × Nat × Value)} (h : PR μ φ x y) (hs : PPR μ φ xs ys) : PPR μ φ ((i, n, x) :: xs) ((i, n, y) :: ys)
theorem fillP_sim : ∀ {ps : List (Nat × Nat × PV)} {ps' : List (Nat × Nat × Value)} {cs : List PV} {cs' : List Value} {r : List PV}, PRL μ φ cs cs' → PPR μ φ ps ps' → fillP cs ps = some r → ∃ r', fillf cs' ps' = some r' ∧ PRL μ φ r r' := by
  intro ps
  induction ps with
  | nil => intro ps' cs cs' r hc hp h; cases hp; cases h; exact ⟨_, rfl, hc⟩
  | cons p ps ih =>
    intro ps' cs cs' r hc hp h
    cases hp with
    | @cons i n x y _ ys h1 h2 =>
      simp only [fillP] at h
      split at h
      · rename_i hk
        obtain ⟨k1, k2, k3⟩ := hk
        have hcl := h1.cells (by omega)
        obtain ⟨r', k4, k5⟩ := ih ((((hc.take i).append hcl)).append (hc.drop (i + n))) h2 h
        refine ⟨r', ?_, k5⟩
        simp only [fillf]
        rw [if_pos ⟨by rw [← hcl.length]; exact k1, by rw [← hc.length]; exact k3⟩]
        exact k4
      · cases h
end Go.Vm
