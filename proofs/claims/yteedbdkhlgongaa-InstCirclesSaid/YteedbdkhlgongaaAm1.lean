/- The abstract machine: a deterministic semantics of the model's code over abstract blocks, written as plain functions. Nothing here is trusted: Am4 proves that the model does what it says. -/
import Derived.CallsIn
import Derived.OrdersIn
import Derived.KernelRfl
namespace Go.Am

abbrev Env := Nat → Value
/-- An abstract value of which nothing is known. -/
def junk : Value := .complex .f64 7 7
/-- The capacity of a slice of which only the length is known. -/
def capU : Nat := 1180591620717411303424
def upd (e : Env) (i : Nat) (v : Value) : Env := fun j => bif Nat.beq i j then v else e j
def updO (e : Env) (d : Option Nat) (v : Value) : Env := match d with | some i => upd e i v | none => e
def junkAll (e : Env) : List Nat → Env
  | [] => e
  | i :: r => upd (junkAll e r) i junk
def setMany (e : Env) : List Nat → List Value → Env
  | [], _ => e
  | i :: r, vs => upd (setMany e r vs.tail) i (vs.headD undef)
/-- Value k of a list. -/
def nth (vs : List Value) : Nat → Value
  | 0 => vs.headD undef
  | k + 1 => nth vs.tail k

def cellsL : Value → List Value
  | .agg cs => cs.toList
  | .complex _ _ _ => []
  | v => [v]
def ptrTo (b o : Nat) : Value := .pointer (some ⟨b, o, none⟩)

/-! ### Pure operations -/
def binf (op : BinOp) (x y : Value) : Option Value :=
  match x, y with
  | .int k a, .int k' b =>
    match op with
    | .shl => if b < 0 then none else some (.int k (k.wrap (a * 2 ^ (min b.toNat k.bits))))
    | .shr => if b < 0 then none else some (.int k (a.fdiv (2 ^ (min b.toNat k.bits))))
    | op =>
      if k = k' then
        match op with
        | .add => some (.int k (k.wrap (a + b)))
        | .sub => some (.int k (k.wrap (a - b)))
        | .mul => some (.int k (k.wrap (a * b)))
        | .quo => if b = 0 then none else some (.int k (k.wrap (a.tdiv b)))
        | .rem => if b = 0 then none else some (.int k (a.tmod b))
        | .and => some (.int k (k.wrap (BitVec.ofInt k.bits a &&& BitVec.ofInt k.bits b).toNat))
        | .or => some (.int k (k.wrap (BitVec.ofInt k.bits a ||| BitVec.ofInt k.bits b).toNat))
        | .xor => some (.int k (k.wrap (BitVec.ofInt k.bits a ^^^ BitVec.ofInt k.bits b).toNat))
        | .andNot => some (.int k (k.wrap (BitVec.ofInt k.bits a &&& ~~~(BitVec.ofInt k.bits b)).toNat))
        | .eql => some (.bool (a == b))
        | .neq => some (.bool (a != b))
        | .lss => some (.bool (decide (a < b)))
        | .leq => some (.bool (decide (a ≤ b)))
        | .gtr => some (.bool (decide (a > b)))
        | .geq => some (.bool (decide (a ≥ b)))
        | _ => none
      else none
  | .string a, .string b =>
    match op with
    | .add => if a.size + b.size ≤ 4611686018427387904 then some (.string (a ++ b)) else none
    | .eql => some (.bool (a.toList == b.toList))
    | .neq => some (.bool !(a.toList == b.toList))
    | _ => none
  | _, _ => none
/-- '==' of two bools (neg: '!='). -/
def eqBoolf (neg : Bool) (x y : Value) : Option Value :=
  match x, y with
  | .bool a, .bool b => some (.bool (neg != (a == b)))
  | _, _ => none
/-- Is a slice, a pointer, a function, a map or an interface value nil? -/
def isNilf (neg : Bool) (x : Value) : Option Value :=
  match x with
  | .slice none _ _ | .pointer none | .nilFunc | .map none | .nilIface => some (.bool (neg != true))
  | .slice (some _) _ _ | .pointer (some _) | .func _ _ _ | .map (some _) | .iface _ _ => some (.bool (neg != false))
  | _ => none
inductive NilKind where
  | slice | pointer | map | func | iface
def kindIs : NilKind → Value → Bool
  | .slice, .slice .. => true
  | .pointer, .pointer _ => true
  | .map, .map _ => true
  | .func, .func .. => true
  | .func, .nilFunc => true
  | .iface, .iface .. => true
  | .iface, .nilIface => true
  | _, _ => false
def isNilKf (k : NilKind) (neg : Bool) (x : Value) : Option Value :=
  match kindIs k x with
  | true => isNilf neg x
  | false => none
/-- The kinds of cells that are compared one by one. -/
inductive BK where
  | int | bool | str
/-- Equality of two rows of cells that are whole numbers, bools and strings. -/
def eqCells : List BK → List Value → List Value → Option Bool
  | [], [], [] => some true
  | .int :: ks, .int k a :: xs, .int k' b :: ys => if k = k' then (eqCells ks xs ys).map (fun r => (a == b) && r) else none
  | .bool :: ks, .bool a :: xs, .bool b :: ys => (eqCells ks xs ys).map (fun r => (a == b) && r)
  | .str :: ks, .string a :: xs, .string b :: ys => (eqCells ks xs ys).map (fun r => (a == b) && r)
  | _, _, _ => none
def eqAggf (ks : List BK) (neg : Bool) (x y : Value) : Option Value :=
  match x, y with
  | .agg xs, .agg ys => (eqCells ks xs.toList ys.toList).map fun r => .bool (neg != r)
  | _, _ => none
def unf (op : UnOp) (x : Value) : Option Value :=
  match op, x with
  | .neg, .int k n => some (.int k (k.wrap (0 - n)))
  | .not, .bool b => some (.bool !b)
  | .xor, .int k n => some (.int k (k.wrap (BitVec.ofInt k.bits (if k.signed then -1 else k.max) ^^^ BitVec.ofInt k.bits n).toNat))
  | _, _ => none
def strIdf (x : Value) : Option Value :=
  match x with
  | .string s => some (.string s)
  | _ => none
def convf (k : IntKind) (x : Value) : Option Value :=
  match x with
  | .int _ n => some (.int k (k.wrap n))
  | _ => none
def lenf (str : Bool) (x : Value) : Option Value :=
  match str, x with
  | true, .string s => some (.int .i64 s.size)
  | false, .slice _ n _ => some (.int .i64 n)
  | _, _ => none
def pickf (c x y : Value) : Option Value :=
  match c with
  | .bool b => some (if b then x else y)
  | _ => none
def extractf (x : Value) (i : Nat) : Option Value :=
  match x with
  | .tuple vs => vs[i]?
  | _ => none
/-- A part of an aggregate's cells. -/
def partf (agg : Bool) (off size : Nat) (cs : List Value) : Option Value :=
  match agg with
  | true => if off + size ≤ cs.length then some (.agg ((cs.drop off).take size).toArray) else none
  | false => cs[off]?
def fieldf (agg : Bool) (off size : Nat) (x : Value) : Option Value :=
  match x with
  | .agg cs => partf agg off size cs.toList
  | _ => none
def indexArrf (n : Nat) (agg : Bool) (size : Nat) (x i : Value) : Option Value :=
  match x, i with
  | .agg cs, .int _ j => if 0 ≤ j ∧ j < n then partf agg (j.toNat * size) size cs.toList else none
  | _, _ => none
def indexStrf (x i : Value) : Option Value :=
  match x, i with
  | .string s, .int _ j => if 0 ≤ j then (s.data[j.toNat]?).map fun b => .int .u8 b.toNat else none
  | _, _ => none
def fieldAddrf (off : Nat) (x : Value) : Option Value :=
  match x with
  | .pointer (some a) => some (ptrTo a.block (a.off + off))
  | _ => none
def indexAddrf (size : Nat) (x i : Value) : Option Value :=
  match x, i with
  | .slice (some a) n _, .int _ j => if 0 ≤ j ∧ j < n then some (ptrTo a.block (a.off + j.toNat * size)) else none
  | _, _ => none
def indexAddrArrf (n size : Nat) (x i : Value) : Option Value :=
  match x, i with
  | .pointer (some a), .int _ j => if 0 ≤ j ∧ j < n then some (ptrTo a.block (a.off + j.toNat * size)) else none
  | _, _ => none
def nilCheckf (x : Value) : Option Value :=
  match x with
  | .pointer (some a) => some (.pointer (some a))
  | .func (.func f) xs ys => some (.func (.func f) xs ys)
  | _ => none
/-- A bound of a slice expression. -/
def boundf (d : Nat) (x : Option Value) (most : Nat) : Option Nat :=
  match x with
  | none => some d
  | some (.int _ j) => if 0 ≤ j ∧ j ≤ most then some j.toNat else none
  | _ => none
/-- x[lo:hi:mx] of a slice; a capacity that isn't known is taken to be the length where it bounds. -/
def slicef (size : Nat) (x : Value) (lo hi mx : Option Value) : Option Value :=
  match x with
  | .slice a n c =>
    let most := if c = capU then n else c
    (boundf most mx most).bind fun m => (boundf n hi m).bind fun h => (boundf 0 lo h).bind fun l =>
      if c = capU then
        match mx with
        | none => some (.slice (a.map fun a => ⟨a.block, a.off + l * size, none⟩) (h - l) capU)
        | some _ => if m < capU then some (.slice (if m = l then a else a.map fun a => ⟨a.block, a.off + l * size, none⟩) (h - l) (m - l)) else none
      else some (.slice (if m = l then a else a.map fun a => ⟨a.block, a.off + l * size, none⟩) (h - l) (m - l))
  | _ => none
def sliceStrf (x : Value) (lo hi : Option Value) : Option Value :=
  match x with
  | .string s => (boundf s.size hi s.size).bind fun h => (boundf 0 lo h).bind fun l => some (.string (s.extract l h))
  | _ => none
def sliceArrf (n size : Nat) (x : Value) (lo hi mx : Option Value) : Option Value :=
  match x with
  | .pointer (some a) =>
    (boundf n mx n).bind fun m => (boundf n hi m).bind fun h => (boundf 0 lo h).bind fun l =>
      some (.slice (some (if m = l then a else ⟨a.block, a.off + l * size, none⟩)) (h - l) (m - l))
  | _ => none
def max2f (x y : Value) : Option Value :=
  match x, y with
  | .int k a, .int k' b => if k = k' then some (.int k (if b > a then b else a)) else none
  | _, _ => none
def min2f (x y : Value) : Option Value :=
  match x, y with
  | .int k a, .int k' b => if k = k' then some (.int k (if b < a then b else a)) else none
  | _, _ => none
def foldf (f : Value → Value → Option Value) (x : Value) : List Value → Option Value
  | [] => some x
  | y :: r => (f x y).bind fun z => foldf f z r
def fold1f (f : Value → Value → Option Value) : List Value → Option Value
  | [] => none
  | x :: r => foldf f x r
/-- The parts of a literal, laid over its zero value's cells: where each begins, and how many cells it has. -/
def fillf (cells : List Value) : List (Nat × Nat × Value) → Option (List Value)
  | [] => some cells
  | (off, size, v) :: r =>
    if (cellsL v).length = size ∧ off + size ≤ cells.length then fillf (cells.take off ++ cellsL v ++ cells.drop (off + size)) r else none

/-! ### Code -/
inductive AOp where
  | move (x : Operand)
  | pick (c a b : Operand)
  | bin (op : BinOp) (x y : Operand)
  | eqBool (neg : Bool) (x y : Operand)
  | isNil (k : NilKind) (neg : Bool) (x : Operand)
  | eqAgg (ks : List BK) (neg : Bool) (x y : Operand)
  | un (op : UnOp) (x : Operand)
  | conv (k : IntKind) (x : Operand)
  | strId (x : Operand)
  | len (str : Bool) (x : Operand)
  | extract (x : Operand) (i : Nat)
  | field (agg : Bool) (off size : Nat) (x : Operand)
  | indexArr (n : Nat) (agg : Bool) (size : Nat) (x i : Operand)
  | indexStr (x i : Operand)
  | fieldAddr (off : Nat) (x : Operand)
  | indexAddr (size : Nat) (x i : Operand)
  | indexAddrArr (n size : Nat) (x i : Operand)
  | nilCheck (x : Operand)
  | slice (size : Nat) (x : Operand) (lo hi mx : Option Operand)
  | sliceStr (x : Operand) (lo hi : Option Operand)
  | sliceArr (n size : Nat) (x : Operand) (lo hi mx : Option Operand)
  | max (xs : List Operand)
  | min (xs : List Operand)
  | build (zero : List Value) (parts : List (Nat × Nat × Operand))
  | mkFunc (f : FuncId) (first captured : List Operand)
  | mkIface (t : TypeId) (x : Operand)
  -- memory
  | box (elem : TypeId) (x : Operand)
  | new (elem : TypeId) (zero : List Value)
  | buildSlice (elem : TypeId) (zero : List Value) (len : Nat) (parts : List (Nat × Nat × Operand))
  | mkSlice (elem : TypeId) (zero : List Value) (n c : Operand)
  | load (agg : Bool) (n : Nat) (x : Operand)
  | store (n : Nat) (x v : Operand)
  | append (elem : TypeId) (size : Nat) (s x : Operand)
  | copy (size : Nat) (d s : Operand)
  | clear (zero : List Value) (x : Operand)
  | appendN (elem : TypeId) (size : Nat) (zero : List Value) (s k : Operand)
  | mkMap
  | lookup (k : BK) (zero : Value) (ok : Bool) (x i : Operand)
  | mapSet (k : BK) (x i v : Operand)
  | lenMap (x : Operand)
  | bytesToStr (x : Operand)
  | call (f : FuncId) (args : List Operand)
  | callV (f : Operand) (args : List Operand)
  -- what the machine does not cover: nothing is told where it is reached
  | fail

/-- The operations of a region, in the text's order. 'sc': a group that is performed where slot c holds isAnd, and the pick behind it. chk: the operation must leave alone what was there. -/
inductive ASteps where
  | nil
  | op (dst : Option Nat) (o : AOp) (chk : Bool) (rest : ASteps)
  | sc (dst : Nat) (c : Nat) (isAnd : Bool) (tmp : List Nat) (body : ASteps) (y : Operand) (rest : ASteps)

inductive ACode where
  | skip
  | region (draw : Bool) (s : ASteps)
  | seq (a b : ACode)
  | cond (c : Operand) (mod tmp : List Nat) (a b : ACode)
  | block (id : Nat) (mod tmp : List Nat) (c : ACode)
  | loop (mod tmp : List Nat) (c : ACode)
  | exit (id : Nat)
  | ret
  /-- A range over a function: what the body sees of the frame, where the round's values go. -/
  | rangeF (g : Operand) (lv ps : List Nat) (assign body : ACode)

inductive AExit where
  | normal
  | exit (id : Nat)
  | ret

/-! ### Memory -/
/-- How a range over a function stands. -/
inductive LSt where
  | ready | busy | done
/-- An abstract block: cells (rw: may they be written?), a map, or nothing that can be used any more. -/
inductive ABlk where
  | cells (vs : List Value) (elem : TypeId) (rw : Bool)
  | map (es : List (Value × Value))
  | loop (vals : List Value) (lv ps : List Nat) (assign body : ACode) (st : LSt) (pend : Option AExit)
  | dead
abbrev AHeap := List ABlk

def readN (h : AHeap) (b off n : Nat) : Option (List Value) :=
  match h[b]? with
  | some (.cells vs _ _) => if off + n ≤ vs.length then some ((vs.drop off).take n) else none
  | _ => none
def readC (h : AHeap) (b off : Nat) : Option Value :=
  match h[b]? with
  | some (.cells vs _ _) => vs[off]?
  | _ => none
/-- A value of one cell. -/
def oneC : Value → Bool
  | .agg _ | .tuple _ | .complex _ _ _ => false
  | _ => true
def writeN (h : AHeap) (b off : Nat) (l : List Value) : Option AHeap :=
  match h[b]? with
  | some (.cells vs t true) => if off + l.length ≤ vs.length ∧ l.all oneC = true then some (h.set b (.cells (vs.take off ++ l ++ vs.drop (off + l.length)) t true)) else none
  | _ => none
def loadf (agg : Bool) (n : Nat) (x : Value) (h : AHeap) : Option Value :=
  match x with
  | .pointer (some a) =>
    match agg with
    | true => (readN h a.block a.off n).map fun l => .agg l.toArray
    | false => readC h a.block a.off
  | _ => none
def storef (n : Nat) (x v : Value) (h : AHeap) : Option AHeap :=
  match x with
  | .pointer (some a) => if (cellsL v).length = n then writeN h a.block a.off (cellsL v) else none
  | _ => none
/-- The first n elements of a slice or a string, as cells. -/
def firstf (size n : Nat) (x : Value) (h : AHeap) : Option (List Value) :=
  match x with
  | .slice (some a) m _ => if n = 0 then some [] else if n ≤ m then readN h a.block a.off (n * size) else none
  | .slice none _ _ => if n = 0 then some [] else none
  | .string s => if size = 1 ∧ n ≤ s.size then some (((s.extract 0 n).data.toList).map fun b => .int .u8 b.toNat) else none
  | _ => none
def lenOf (x : Value) : Option Nat :=
  match x with
  | .slice _ n _ => some n
  | .string s => some s.size
  | _ => none
def rep (zero : List Value) : Nat → List Value
  | 0 => []
  | n + 1 => zero ++ rep zero n
/-- How many elements a slice may have. -/
def mostLen : Nat := 4294967296
/-- append: where the capacity is not known the old block is given up, and the new one has the contents. -/
def appendc (elem : TypeId) (size : Nat) (s : Value) (m : Nat) (new : List Value) (h : AHeap) : Option (Value × AHeap) :=
  match s with
  | .slice a n c =>
      if c = capU then
        match a with
        | some ⟨b, 0, none⟩ =>
          if m = 0 then some (.slice (some ⟨b, 0, none⟩) n capU, h) else
          match h[b]? with
          | some (.cells vs t true) =>
            if n * size ≤ vs.length ∧ n + m ≤ mostLen ∧ t = elem ∧ 0 < n ∧ new.all oneC = true then
              some (.slice (some ⟨h.length, 0, none⟩) (n + m) capU, h.set b .dead ++ [.cells (vs.take (n * size) ++ new) elem true])
            else none
          | _ => none
        | _ => none
      else if n + m ≤ c then
        match a with
        | some a => (if m = 0 then some h else writeN h a.block (a.off + n * size) new).map fun h' => (.slice (some a) (n + m) c, h')
        | none => if m = 0 then some (.slice none n c, h) else none
      else if n + m ≤ mostLen then
        (firstf size n s h).map fun old => (.slice (some ⟨h.length, 0, none⟩) (n + m) capU, h ++ [.cells (old ++ new) elem true])
      else none
  | _ => none
def appendf (elem : TypeId) (size : Nat) (s x : Value) (h : AHeap) : Option (Value × AHeap) :=
  (lenOf x).bind fun m => (firstf size m x h).bind fun new => appendc elem size s m new h
/-- append(s, make([]T, k)...). -/
def appendNf (elem : TypeId) (size : Nat) (zero : List Value) (s k : Value) (h : AHeap) : Option (Value × AHeap) :=
  match k with
  | .int .i64 l => if 0 ≤ l ∧ l ≤ mostLen then appendc elem size s l.toNat (rep zero l.toNat) h else none
  | _ => none
def copyf (size : Nat) (d s : Value) (h : AHeap) : Option (Value × AHeap) :=
  match d with
  | .slice a n _ =>
    (lenOf s).bind fun m => (firstf size (Nat.min m n) s h).bind fun new =>
      match a with
      | some a => (if Nat.min m n = 0 then some h else writeN h a.block a.off new).map fun h' => (.int .i64 (Nat.min m n), h')
      | none => if Nat.min m n = 0 then some (.int .i64 0, h) else none
  | _ => none
/-- clear of a slice. -/
def clearf (zero : List Value) (x : Value) (h : AHeap) : Option (Value × AHeap) :=
  match x with
  | .slice none _ _ => some (undef, h)
  | .slice (some a) n _ => if n = 0 then some (undef, h) else (writeN h a.block a.off (rep zero n)).map fun h' => (undef, h')
  | _ => none
def mkSlicef (elem : TypeId) (zero : List Value) (n c : Value) (h : AHeap) : Option (Value × AHeap) :=
  match n, c with
  | .int .i64 n, .int .i64 c =>
    if 0 ≤ n ∧ n ≤ c ∧ c ≤ mostLen then some (.slice (some ⟨h.length, 0, none⟩) n.toNat c.toNat, h ++ [.cells (rep zero c.toNat) elem true]) else none
  | _, _ => none
/-- Equality of two keys that are whole numbers, bools or strings. -/
def keyEq (k : BK) (x y : Value) : Option Bool :=
  match k, x, y with
  | .int, .int k a, .int k' b => if k = k' then some (a == b) else none
  | .bool, .bool a, .bool b => some (a == b)
  | .str, .string a, .string b => some (a == b)
  | _, _, _ => none
def findMap (k : BK) (x : Value) : List (Value × Value) → Option (Option Value)
  | [] => some none
  | (y, v) :: r => match keyEq k x y with
    | some true => some (some v)
    | some false => findMap k x r
    | none => none
def setMap (k : BK) (x v : Value) : List (Value × Value) → Option (List (Value × Value))
  | [] => some [(x, v)]
  | (y, u) :: r => match keyEq k x y with
    | some true => some ((x, v) :: r)
    | some false => (setMap k x v r).map fun q => (y, u) :: q
    | none => none
def mapOf (x : Value) (h : AHeap) : Option (List (Value × Value)) :=
  match x with
  | .map none => some []
  | .map (some b) => match h[b]? with
    | some (.map es) => some es
    | _ => none
  | _ => none
def lookupf (k : BK) (zero : Value) (ok : Bool) (x i : Value) (h : AHeap) : Option Value :=
  (mapOf x h).bind fun es => (findMap k i es).map fun r =>
    match r, ok with
    | some v, true => .tuple #[v, .bool true]
    | some v, false => v
    | none, true => .tuple #[zero, .bool false]
    | none, false => zero
def setMapf (k : BK) (x i v : Value) (h : AHeap) : Option AHeap :=
  match x with
  | .map (some b) => match h[b]? with
    | some (.map es) => (setMap k i v es).map fun q => h.set b (.map q)
    | _ => none
  | _ => none
def lenMapf (x : Value) (h : AHeap) : Option Value := (mapOf x h).map fun es => .int .i64 es.length
def bytesOf : List Value → Option (List UInt8)
  | [] => some []
  | .int .u8 n :: r => (bytesOf r).map fun l => UInt8.ofNat n.toNat :: l
  | _ => none
def bytesToStrf (x : Value) (h : AHeap) : Option Value :=
  match x with
  | .slice (some a) n _ => (readN h a.block a.off n).bind fun l => (bytesOf l).map fun bs => .string ⟨bs.toArray⟩
  | .slice none _ _ => some (.string .empty)
  | _ => none

/-! ### Code -/
def val (e : Env) : Operand → Value
  | .tmp t => e t
  | .const v => v
  | .global _ => junk
  | .func f => .func (.func f) #[] #[]

/-- The number under which a callee is asked for a round of a range over a function. -/
def yieldId : FuncId := 1152921504606846976
abbrev Callee := FuncId → List Value → AHeap → Option (Value × AHeap)
section
variable {R : Type}

def callVf (Γ : Callee) (f : Value) (args : List Value) (h : AHeap) : Option (Value × AHeap) :=
  match f with
  | .func (.func g) first captured => bif Nat.blt g yieldId then Γ g (first.toList ++ args ++ captured.toList) h else none
  | .func (.yield b) ⟨[]⟩ ⟨[]⟩ => Γ yieldId (ptrTo b 0 :: args) h
  | _ => none
/-- .. of a function that has a body. -/
def callFf (Γ : Callee) (f : Value) (args : List Value) (h : AHeap) : Option (Value × AHeap) :=
  match f with
  | .func (.func g) first captured => bif Nat.blt g yieldId then Γ g (first.toList ++ args ++ captured.toList) h else none
  | _ => none
def vals (e : Env) : List Operand → List Value
  | [] => []
  | x :: r => val e x :: vals e r
def valO (e : Env) : Option Operand → Option Value
  | none => none
  | some x => some (val e x)
def valP (e : Env) : List (Nat × Nat × Operand) → List (Nat × Nat × Value)
  | [] => []
  | (i, n, x) :: r => (i, n, val e x) :: valP e r

def opK (Γ : Callee) (o : AOp) (e : Env) (h : AHeap) (k : Value → AHeap → Option R) : Option R :=
  match o with
  | .move x => k (val e x) h
  | .pick c a b => (pickf (val e c) (val e a) (val e b)).bind fun v => k v h
  | .bin op x y => (binf op (val e x) (val e y)).bind fun v => k v h
  | .eqBool neg x y => (eqBoolf neg (val e x) (val e y)).bind fun v => k v h
  | .isNil t neg x => (isNilKf t neg (val e x)).bind fun v => k v h
  | .eqAgg ks neg x y => (eqAggf ks neg (val e x) (val e y)).bind fun v => k v h
  | .un op x => (unf op (val e x)).bind fun v => k v h
  | .conv t x => (convf t (val e x)).bind fun v => k v h
  | .strId x => (strIdf (val e x)).bind fun v => k v h
  | .len str x => (lenf str (val e x)).bind fun v => k v h
  | .extract x i => (extractf (val e x) i).bind fun v => k v h
  | .field agg off size x => (fieldf agg off size (val e x)).bind fun v => k v h
  | .indexArr n agg size x i => (indexArrf n agg size (val e x) (val e i)).bind fun v => k v h
  | .indexStr x i => (indexStrf (val e x) (val e i)).bind fun v => k v h
  | .fieldAddr off x => (fieldAddrf off (val e x)).bind fun v => k v h
  | .indexAddr size x i => (indexAddrf size (val e x) (val e i)).bind fun v => k v h
  | .indexAddrArr n size x i => (indexAddrArrf n size (val e x) (val e i)).bind fun v => k v h
  | .nilCheck x => (nilCheckf (val e x)).bind fun v => k v h
  | .slice size x lo hi mx => (slicef size (val e x) (valO e lo) (valO e hi) (valO e mx)).bind fun v => k v h
  | .sliceStr x lo hi => (sliceStrf (val e x) (valO e lo) (valO e hi)).bind fun v => k v h
  | .sliceArr n size x lo hi mx => (sliceArrf n size (val e x) (valO e lo) (valO e hi) (valO e mx)).bind fun v => k v h
  | .max xs => (fold1f max2f (vals e xs)).bind fun v => k v h
  | .min xs => (fold1f min2f (vals e xs)).bind fun v => k v h
  | .build zero parts => (fillf zero (valP e parts)).bind fun l => k (.agg l.toArray) h
  | .mkFunc f first captured => k (.func (.func f) (vals e first).toArray (vals e captured).toArray) h
  | .mkIface t x => k (.iface t (val e x)) h
  | .box t x => k (ptrTo h.length 0) (h ++ [.cells (cellsL (val e x)) t true])
  | .new t zero => k (ptrTo h.length 0) (h ++ [.cells zero t true])
  | .buildSlice t zero n parts => (fillf (rep zero n) (valP e parts)).bind fun l => k (.slice (some ⟨h.length, 0, none⟩) n n) (h ++ [.cells l t true])
  | .mkSlice t zero n c => (mkSlicef t zero (val e n) (val e c) h).bind fun p => k p.1 p.2
  | .load agg n x => (loadf agg n (val e x) h).bind fun v => k v h
  | .store n x v => (storef n (val e x) (val e v) h).bind fun h' => k undef h'
  | .append t size s x => (appendf t size (val e s) (val e x) h).bind fun p => k p.1 p.2
  | .copy size d s => (copyf size (val e d) (val e s) h).bind fun p => k p.1 p.2
  | .clear zero x => (clearf zero (val e x) h).bind fun p => k p.1 p.2
  | .appendN t size zero s n => (appendNf t size zero (val e s) (val e n) h).bind fun p => k p.1 p.2
  | .mkMap => k (.map (some h.length)) (h ++ [.map []])
  | .lookup t zero ok x i => (lookupf t zero ok (val e x) (val e i) h).bind fun v => k v h
  | .mapSet t x i v => (setMapf t (val e x) (val e i) (val e v) h).bind fun h' => k undef h'
  | .lenMap x => (lenMapf (val e x) h).bind fun v => k v h
  | .bytesToStr x => (bytesToStrf (val e x) h).bind fun v => k v h
  | .call f args => (Γ f (vals e args) h).bind fun p => k p.1 p.2
  | .callV f args => (callVf Γ (val e f) (vals e args) h).bind fun p => k p.1 p.2
  | .fail => none

open Classical in
/-- What was there has not changed. -/
noncomputable def sameQ (h h' : AHeap) (m : Option R) : Option R := if h <+: h' then m else none
noncomputable def chkK (chk : Bool) (h h' : AHeap) (m : Option R) : Option R :=
  match chk with
  | true => sameQ h h' m
  | false => m
/-- Ways meet: k is what follows. -/
def J1 (k : Value → AHeap → Option R) (b : (Value → AHeap → Option R) → Option R) : Option R := b k
def JL (k : List Value → AHeap → Option R) (b : (List Value → AHeap → Option R) → Option R) : Option R := b k
def scK (v : Value) (isAnd : Bool) (a b : Option R) : Option R :=
  match v with
  | .bool t => if t = isAnd then a else b
  | _ => none
def ifK (v : Value) (a b : Option R) : Option R :=
  match v with
  | .bool t => if t = true then a else b
  | _ => none

noncomputable def stepsK (Γ : Callee) : ASteps → (Env → AHeap → Option R) → Env → AHeap → Option R
  | .nil, K, e, h => K e h
  | .op d o chk rest, K, e, h => opK Γ o e h fun v h' => chkK chk h h' (stepsK Γ rest K (updO e d v) h')
  | .sc d c isAnd tmp body y rest, K, e, h =>
    J1 (fun v h => stepsK Γ rest K (upd (junkAll e tmp) d v) h) fun j =>
      scK (e c) isAnd (stepsK Γ body (fun e' h' => j (val e' y) h') e h) (j (.bool !isAnd) h)

def loopN (B : (List Value → AHeap → Option R) → List Value → AHeap → Option R) : Nat → List Value → AHeap → Option R
  | 0, _, _ => none
  | n + 1, vs, h => B (loopN B n) vs h

def getMany (e : Env) : List Nat → List Value
  | [] => []
  | i :: r => e i :: getMany e r

/-- What a range over a function has left: the way on, if a round has chosen one. -/
def pendOf (b : Nat) (h : AHeap) : Option (Option AExit) :=
  match h[b]? with
  | some (.loop _ _ _ _ _ .ready pend) => some pend
  | some (.loop _ _ _ _ _ .done pend) => some pend
  | _ => none
/-- How a round ends. -/
def endRound (b : Nat) (o : AExit) (h : AHeap) : Option (Value × AHeap) :=
  match h[b]? with
  | some (.loop vals lv ps ab bb .busy _) => match o with
    | .normal => some (.bool true, h.set b (.loop vals lv ps ab bb .ready none))
    | .exit i => some (.bool false, h.set b (.loop vals lv ps ab bb .done (some (.exit i))))
    | .ret => some (.bool false, h.set b (.loop vals lv ps ab bb .done (some .ret)))
  | _ => none
/-- A round begins. -/
def beginRound (b : Nat) (h : AHeap) : Option AHeap :=
  match h[b]? with
  | some (.loop vals lv ps ab bb .ready pend) => some (h.set b (.loop vals lv ps ab bb .busy pend))
  | _ => none

noncomputable def codeK (Γ : Callee) (n : Nat) : ACode → (AExit → Env → AHeap → Option R) → Env → AHeap → Option R
  | .skip, K, e, h => K .normal e h
  | .region _ s, K, e, h => stepsK Γ s (fun e h => K .normal e h) e h
  | .seq a b, K, e, h => codeK Γ n a (fun o e h => match o with | .normal => codeK Γ n b K e h | .exit i => K (.exit i) e h | .ret => K .ret e h) e h
  | .cond c mod tmp a b, K, e, h =>
    JL (fun vs h => K .normal (setMany (junkAll e tmp) mod vs) h) fun j =>
      ifK (val e c)
        (codeK Γ n a (fun o e h => match o with | .normal => j (getMany e mod) h | .exit i => K (.exit i) e h | .ret => K .ret e h) e h)
        (codeK Γ n b (fun o e h => match o with | .normal => j (getMany e mod) h | .exit i => K (.exit i) e h | .ret => K .ret e h) e h)
  | .block id mod tmp c, K, e, h =>
    JL (fun vs h => K .normal (setMany (junkAll e tmp) mod vs) h) fun j =>
      codeK Γ n c (fun o e h => match o with
        | .normal => j (getMany e mod) h
        | .exit i => bif Nat.beq i id then j (getMany e mod) h else K (.exit i) e h
        | .ret => K .ret e h) e h
  | .loop mod tmp c, K, e, h =>
    loopN (fun cont vs h => codeK Γ n c (fun o e h => match o with | .normal => cont (getMany e mod) h | .exit i => K (.exit i) e h | .ret => K .ret e h) (setMany (junkAll e tmp) mod vs) h) n (getMany e mod) h
  | .exit i, K, e, h => K (.exit i) e h
  | .ret, K, e, h => K .ret e h
  | .rangeF g lv ps ab bb, K, e, h =>
    (callFf Γ (val e g) [.func (.yield h.length) ⟨[]⟩ ⟨[]⟩] (h ++ [.loop (getMany e lv) lv ps ab bb .ready none])).bind fun p =>
      (pendOf h.length p.2).bind fun o => match o with
        | none => K .normal e (p.2.set h.length .dead)
        | some x => K x e (p.2.set h.length .dead)

/-- Where a function's result lies: in a slot, or in memory behind a slot. -/
inductive ARes where
  | tmp (t : Nat)
  | cell (t : Nat) (agg : Bool) (n : Nat)
structure AFun where
  nargs : Nat
  ntmps : Nat
  code : ACode
  results : List ARes

def resultsK : List ARes → Env → AHeap → (List Value → Option R) → Option R
  | [], _, _, k => k []
  | .tmp t :: r, e, h, k => resultsK r e h fun vs => k (e t :: vs)
  | .cell t agg n :: r, e, h, k => (loadf agg n (e t) h).bind fun v => resultsK r e h fun vs => k (v :: vs)
def single : List Value → Value
  | [v] => v
  | vs => .tuple vs.toArray
end

/-! A value that names no memory; what a function has made is given up where its result names none, and where it has changed nothing. -/
def noRef1 : Value → Bool
  | .bool _ | .int _ _ | .string _ | .pointer none | .slice none 0 0 | .map none | .nilFunc | .nilIface => true
  | _ => false
def noRef2 : Value → Bool
  | .agg cs => cs.toList.all noRef1
  | .iface _ v => noRef1 v
  | v => noRef1 v
def noRef : Value → Bool
  | .tuple vs => vs.toList.all noRef2
  | v => noRef2 v
open Classical in
noncomputable def gc (r : Value) (h h' : AHeap) : AHeap := if noRef r = true ∧ h <+: h' then h else h'

def initEnv (args : List Value) : Env := fun i => args.getD i undef
noncomputable def funK (Γ : Callee) (n : Nat) (F : AFun) (args : List Value) (h : AHeap) : Option (Value × AHeap) :=
  bif Nat.beq args.length F.nargs then
    codeK Γ n F.code (fun o e h' => match o with
      | .normal => resultsK F.results e h' fun vs => some (single vs, gc (single vs) h h')
      | .ret => resultsK F.results e h' fun vs => some (single vs, gc (single vs) h h')
      | .exit _ => none) (initEnv args) h
  else none

/-- A round of a range over a function: yield is called. -/
noncomputable def roundK (Γ : Callee) (n : Nat) (args : List Value) (h : AHeap) : Option (Value × AHeap) :=
  match args with
  | .pointer (some ⟨b, 0, none⟩) :: vs =>
    match h[b]? with
    | some (.loop vals lv ps ab bb .ready _) =>
      bif Nat.beq vs.length ps.length then
        codeK Γ n ab (fun o e h1 => match o with
          | .normal => (beginRound b h1).bind fun h2 => codeK Γ n bb (fun o _ h3 => endRound b o h3) e h2
          | _ => none) (setMany (setMany (fun _ => junk) lv vals) ps vs) h
      else none
    | _ => none
  | _ => none

abbrev ATable := List (FuncId × AFun)
def ATable.get (T : ATable) (f : FuncId) : Option AFun :=
  match T with
  | [] => none
  | (g, F) :: r => bif Nat.beq g f then some F else ATable.get r f

/-- Calls with at most n levels, and at most n rounds a loop; Γ0: what is told of functions beside the table. -/
noncomputable def acall (Γ0 : Callee) (T : ATable) : Nat → Callee
  | 0, f, args, h => bif Nat.beq f yieldId then none else match T.get f with
    | some _ => none
    | none => Γ0 f args h
  | n + 1, f, args, h => bif Nat.beq f yieldId then roundK (acall Γ0 T n) n args h else match T.get f with
    | some F => funK (acall Γ0 T n) n F args h
    | none => Γ0 f args h

open Classical in
/-- What a call comes to, however many levels and rounds it takes. -/
noncomputable def run (Γ0 : Callee) (T : ATable) : Callee := fun f args h =>
  if H : ∃ n, (acall Γ0 T n f args h).isSome = true then acall Γ0 T (Classical.choose H) f args h else none
def noCallee : Callee := fun _ _ _ => none

end Go.Am
