/- One part of the proof. -/
import Derived.CallsIn
import Derived.OrdersIn
import Derived.KernelRfl
import Derived.Laws.StructEq
import Derived.ChangeKeysEq
import Derived.Laws.Entries
import Derived.Laws.Cells
import Derived.Laws.CopyRow
import Derived.Laws.BitsLemmas
import Derived.Laws.BytesString
import Derived.RangeFuncLeaves
import Derived.RangeFuncRecord
import Derived.Great.BuildSlice
set_option linter.unusedSimpArgs false
set_option linter.unusedVariables false
set_option linter.unusedSimpArgs false
set_option linter.unusedVariables false
/- The abstract machine: a deterministic semantics of the model's code over abstract blocks, written as plain functions. Nothing here is trusted: Am4 proves that the model does what it says. -/
namespace Go.Am
abbrev Env := Nat → Value
def junk : Value := .complex .f64 7 7
def capU : Nat := 1180591620717411303424
def upd (e : Env) (i : Nat) (v : Value) : Env := fun j => bif Nat.beq i j then v else e j
def updO (e : Env) (d : Option Nat) (v : Value) : Env := match d with | some i => upd e i v | none => e
def junkAll (e : Env) : List Nat → Env
  | [] => e
  | i :: r => upd (junkAll e r) i junk
def setMany (e : Env) : List Nat → List Value → Env
  | [], _ => e
  | i :: r, vs => upd (setMany e r vs.tail) i (vs.headD undef)
def nth (vs : List Value) : Nat → Value
  | 0 => vs.headD undef
  | k + 1 => nth vs.tail k
def cellsL : Value → List Value
  | .agg cs => cs.toList
  | .complex _ _ _ => []
  | v => [v]
def ptrTo (b o : Nat) : Value := .pointer (some ⟨b, o, none⟩)
def binf (op : BinOp) (x y : Value) : Option Value :=
  match x, y with
  | .int k a, .int k' b =>
    match op with
    | .shl => if b < 0 then none else some (.int k (k.wrap (a * 2 ^ (min b.toNat k.bits))))
    | .shr => if b < 0 then none else some (.int k (a.fdiv (2 ^ (min b.toNat k.bits))))
    | op =>
      if k = k' then
        match op with
        | .add => some (.int k (k.wrap (a + b)))
        | .sub => some (.int k (k.wrap (a - b)))
        | .mul => some (.int k (k.wrap (a * b)))
        | .quo => if b = 0 then none else some (.int k (k.wrap (a.tdiv b)))
        | .rem => if b = 0 then none else some (.int k (a.tmod b))
        | .and => some (.int k (k.wrap (BitVec.ofInt k.bits a &&& BitVec.ofInt k.bits b).toNat))
        | .or => some (.int k (k.wrap (BitVec.ofInt k.bits a ||| BitVec.ofInt k.bits b).toNat))
        | .xor => some (.int k (k.wrap (BitVec.ofInt k.bits a ^^^ BitVec.ofInt k.bits b).toNat))
        | .andNot => some (.int k (k.wrap (BitVec.ofInt k.bits a &&& ~~~(BitVec.ofInt k.bits b)).toNat))
        | .eql => some (.bool (a == b))
        | .neq => some (.bool (a != b))
        | .lss => some (.bool (decide (a < b)))
        | .leq => some (.bool (decide (a ≤ b)))
        | .gtr => some (.bool (decide (a > b)))
        | .geq => some (.bool (decide (a ≥ b)))
        | _ => none
      else none
  | .string a, .string b =>
    match op with
    | .add => if a.size + b.size ≤ 4611686018427387904 then some (.string (a ++ b)) else none
    | .eql => some (.bool (a.toList == b.toList))
    | .neq => some (.bool !(a.toList == b.toList))
    | _ => none
  | _, _ => none
def eqBoolf (neg : Bool) (x y : Value) : Option Value :=
  match x, y with
  | .bool a, .bool b => some (.bool (neg != (a == b)))
  | _, _ => none
def isNilf (neg : Bool) (x : Value) : Option Value :=
  match x with
  | .slice none _ _ | .pointer none | .nilFunc | .map none | .nilIface => some (.bool (neg != true))
  | .slice (some _) _ _ | .pointer (some _) | .func _ _ _ | .map (some _) | .iface _ _ => some (.bool (neg != false))
  | _ => none
inductive NilKind where
  | slice | pointer | map | func | iface
def kindIs : NilKind → Value → Bool
  | .slice, .slice .. => true
  | .pointer, .pointer _ => true
  | .map, .map _ => true
  | .func, .func .. => true
  | .func, .nilFunc => true
  | .iface, .iface .. => true
  | .iface, .nilIface => true
  | _, _ => false
def isNilKf (k : NilKind) (neg : Bool) (x : Value) : Option Value :=
  match kindIs k x with
  | true => isNilf neg x
  | false => none
inductive BK where
  | int | bool | str
def eqCells : List BK → List Value → List Value → Option Bool
  | [], [], [] => some true
  | .int :: ks, .int k a :: xs, .int k' b :: ys => if k = k' then (eqCells ks xs ys).map (fun r => (a == b) && r) else none
  | .bool :: ks, .bool a :: xs, .bool b :: ys => (eqCells ks xs ys).map (fun r => (a == b) && r)
  | .str :: ks, .string a :: xs, .string b :: ys => (eqCells ks xs ys).map (fun r => (a == b) && r)
  | _, _, _ => none
def eqAggf (ks : List BK) (neg : Bool) (x y : Value) : Option Value :=
  match x, y with
  | .agg xs, .agg ys => (eqCells ks xs.toList ys.toList).map fun r => .bool (neg != r)
  | _, _ => none
def unf (op : UnOp) (x : Value) : Option Value :=
  match op, x with
  | .neg, .int k n => some (.int k (k.wrap (0 - n)))
  | .not, .bool b => some (.bool !b)
  | .xor, .int k n => some (.int k (k.wrap (BitVec.ofInt k.bits (if k.signed then -1 else k.max) ^^^ BitVec.ofInt k.bits n).toNat))
  | _, _ => none
def strIdf (x : Value) : Option Value :=
  match x with
  | .string s => some (.string s)
  | _ => none
def convf (k : IntKind) (x : Value) : Option Value :=
  match x with
  | .int _ n => some (.int k (k.wrap n))
  | _ => none
def lenf (str : Bool) (x : Value) : Option Value :=
  match str, x with
  | true, .string s => some (.int .i64 s.size)
  | false, .slice _ n _ => some (.int .i64 n)
  | _, _ => none
def pickf (c x y : Value) : Option Value :=
  match c with
  | .bool b => some (if b then x else y)
  | _ => none
def extractf (x : Value) (i : Nat) : Option Value :=
  match x with
  | .tuple vs => vs[i]?
  | _ => none
def partf (agg : Bool) (off size : Nat) (cs : List Value) : Option Value :=
  match agg with
  | true => if off + size ≤ cs.length then some (.agg ((cs.drop off).take size).toArray) else none
  | false => cs[off]?
def fieldf (agg : Bool) (off size : Nat) (x : Value) : Option Value :=
  match x with
  | .agg cs => partf agg off size cs.toList
  | _ => none
def indexArrf (n : Nat) (agg : Bool) (size : Nat) (x i : Value) : Option Value :=
  match x, i with
  | .agg cs, .int _ j => if 0 ≤ j ∧ j < n then partf agg (j.toNat * size) size cs.toList else none
  | _, _ => none
def indexStrf (x i : Value) : Option Value :=
  match x, i with
  | .string s, .int _ j => if 0 ≤ j then (s.data[j.toNat]?).map fun b => .int .u8 b.toNat else none
  | _, _ => none
def fieldAddrf (off : Nat) (x : Value) : Option Value :=
  match x with
  | .pointer (some a) => some (ptrTo a.block (a.off + off))
  | _ => none
def indexAddrf (size : Nat) (x i : Value) : Option Value :=
  match x, i with
  | .slice (some a) n _, .int _ j => if 0 ≤ j ∧ j < n then some (ptrTo a.block (a.off + j.toNat * size)) else none
  | _, _ => none
def indexAddrArrf (n size : Nat) (x i : Value) : Option Value :=
  match x, i with
  | .pointer (some a), .int _ j => if 0 ≤ j ∧ j < n then some (ptrTo a.block (a.off + j.toNat * size)) else none
  | _, _ => none
def nilCheckf (x : Value) : Option Value :=
  match x with
  | .pointer (some a) => some (.pointer (some a))
  | .func (.func f) xs ys => some (.func (.func f) xs ys)
  | _ => none
def boundf (d : Nat) (x : Option Value) (most : Nat) : Option Nat :=
  match x with
  | none => some d
  | some (.int _ j) => if 0 ≤ j ∧ j ≤ most then some j.toNat else none
  | _ => none
def slicef (size : Nat) (x : Value) (lo hi mx : Option Value) : Option Value :=
  match x with
  | .slice a n c =>
    let most := if c = capU then n else c
    (boundf most mx most).bind fun m => (boundf n hi m).bind fun h => (boundf 0 lo h).bind fun l =>
      if c = capU then
        match mx with
        | none => some (.slice (a.map fun a => ⟨a.block, a.off + l * size, none⟩) (h - l) capU)
        | some _ => if m < capU then some (.slice (if m = l then a else a.map fun a => ⟨a.block, a.off + l * size, none⟩) (h - l) (m - l)) else none
      else some (.slice (if m = l then a else a.map fun a => ⟨a.block, a.off + l * size, none⟩) (h - l) (m - l))
  | _ => none
def sliceStrf (x : Value) (lo hi : Option Value) : Option Value :=
  match x with
  | .string s => (boundf s.size hi s.size).bind fun h => (boundf 0 lo h).bind fun l => some (.string (s.extract l h))
  | _ => none
def sliceArrf (n size : Nat) (x : Value) (lo hi mx : Option Value) : Option Value :=
  match x with
  | .pointer (some a) =>
    (boundf n mx n).bind fun m => (boundf n hi m).bind fun h => (boundf 0 lo h).bind fun l =>
      some (.slice (some (if m = l then a else ⟨a.block, a.off + l * size, none⟩)) (h - l) (m - l))
  | _ => none
def max2f (x y : Value) : Option Value :=
  match x, y with
  | .int k a, .int k' b => if k = k' then some (.int k (if b > a then b else a)) else none
  | _, _ => none
def min2f (x y : Value) : Option Value :=
  match x, y with
  | .int k a, .int k' b => if k = k' then some (.int k (if b < a then b else a)) else none
  | _, _ => none
def foldf (f : Value → Value → Option Value) (x : Value) : List Value → Option Value
  | [] => some x
  | y :: r => (f x y).bind fun z => foldf f z r
def fold1f (f : Value → Value → Option Value) : List Value → Option Value
  | [] => none
  | x :: r => foldf f x r
def fillf (cells : List Value) : List (Nat × Nat × Value) → Option (List Value)
  | [] => some cells
  | (off, size, v) :: r =>
    if (cellsL v).length = size ∧ off + size ≤ cells.length then fillf (cells.take off ++ cellsL v ++ cells.drop (off + size)) r else none
inductive AOp where
  | move (x : Operand)
  | pick (c a b : Operand)
  | bin (op : BinOp) (x y : Operand)
  | eqBool (neg : Bool) (x y : Operand)
  | isNil (k : NilKind) (neg : Bool) (x : Operand)
  | eqAgg (ks : List BK) (neg : Bool) (x y : Operand)
  | un (op : UnOp) (x : Operand)
  | conv (k : IntKind) (x : Operand)
  | strId (x : Operand)
  | len (str : Bool) (x : Operand)
  | extract (x : Operand) (i : Nat)
  | field (agg : Bool) (off size : Nat) (x : Operand)
  | indexArr (n : Nat) (agg : Bool) (size : Nat) (x i : Operand)
  | indexStr (x i : Operand)
  | fieldAddr (off : Nat) (x : Operand)
  | indexAddr (size : Nat) (x i : Operand)
  | indexAddrArr (n size : Nat) (x i : Operand)
  | nilCheck (x : Operand)
  | slice (size : Nat) (x : Operand) (lo hi mx : Option Operand)
  | sliceStr (x : Operand) (lo hi : Option Operand)
  | sliceArr (n size : Nat) (x : Operand) (lo hi mx : Option Operand)
  | max (xs : List Operand)
  | min (xs : List Operand)
  | build (zero : List Value) (parts : List (Nat × Nat × Operand))
  | mkFunc (f : FuncId) (first captured : List Operand)
  | mkIface (t : TypeId) (x : Operand)
  -- memory
  | box (elem : TypeId) (x : Operand)
  | new (elem : TypeId) (zero : List Value)
  | buildSlice (elem : TypeId) (zero : List Value) (len : Nat) (parts : List (Nat × Nat × Operand))
  | mkSlice (elem : TypeId) (zero : List Value) (n c : Operand)
  | load (agg : Bool) (n : Nat) (x : Operand)
  | store (n : Nat) (x v : Operand)
  | append (elem : TypeId) (size : Nat) (s x : Operand)
  | copy (size : Nat) (d s : Operand)
  | clear (zero : List Value) (x : Operand)
  | appendN (elem : TypeId) (size : Nat) (zero : List Value) (s k : Operand)
  | mkMap
  | lookup (k : BK) (zero : Value) (ok : Bool) (x i : Operand)
  | mapSet (k : BK) (x i v : Operand)
  | lenMap (x : Operand)
  | bytesToStr (x : Operand)
  | call (f : FuncId) (args : List Operand)
  | callV (f : Operand) (args : List Operand)
  -- what the machine does not cover: nothing is told where it is reached
  | fail
inductive Chk where
  | no
  | calm
  | far (ps : List (Nat × Nat))
inductive ASteps where
  | nil
  | op (dst : Option Nat) (o : AOp) (chk : Chk) (rest : ASteps)
  | sc (dst : Nat) (c : Nat) (isAnd : Bool) (tmp : List Nat) (body : ASteps) (y : Operand) (rest : ASteps)
inductive ACode where
  | skip
  | region (draw : Bool) (s : ASteps)
  | seq (a b : ACode)
  | cond (c : Operand) (mod tmp : List Nat) (a b : ACode)
  | block (id : Nat) (mod tmp : List Nat) (c : ACode)
  | loop (mod tmp : List Nat) (c : ACode)
  | exit (id : Nat)
  | ret
    | rangeF (g : Operand) (lv ps : List Nat) (assign body : ACode)
inductive AExit where
  | normal
  | exit (id : Nat)
  | ret
inductive LSt where
  | ready | busy | done
inductive ABlk where
  | cells (vs : List Value) (elem : TypeId) (rw : Bool)
  | map (es : List (Value × Value))
  | loop (vals : List Value) (lv ps : List Nat) (assign body : ACode) (st : LSt) (pend : Option AExit)
  | dead
abbrev AHeap := List ABlk
def readN (h : AHeap) (b off n : Nat) : Option (List Value) :=
  match h[b]? with
  | some (.cells vs _ _) => if off + n ≤ vs.length then some ((vs.drop off).take n) else none
  | _ => none
def readC (h : AHeap) (b off : Nat) : Option Value :=
  match h[b]? with
  | some (.cells vs _ _) => vs[off]?
  | _ => none
def oneC : Value → Bool
  | .agg _ | .tuple _ | .complex _ _ _ => false
  | _ => true
def writeN (h : AHeap) (b off : Nat) (l : List Value) : Option AHeap :=
  match h[b]? with
  | some (.cells vs t true) => if off + l.length ≤ vs.length ∧ l.all oneC = true then some (h.set b (.cells (vs.take off ++ l ++ vs.drop (off + l.length)) t true)) else none
  | _ => none
def loadf (agg : Bool) (n : Nat) (x : Value) (h : AHeap) : Option Value :=
  match x with
  | .pointer (some a) =>
    match agg with
    | true => (readN h a.block a.off n).map fun l => .agg l.toArray
    | false => readC h a.block a.off
  | _ => none
def storef (n : Nat) (x v : Value) (h : AHeap) : Option AHeap :=
  match x with
  | .pointer (some a) => if (cellsL v).length = n then writeN h a.block a.off (cellsL v) else none
  | _ => none
def firstf (size n : Nat) (x : Value) (h : AHeap) : Option (List Value) :=
  match x with
  | .slice (some a) m _ => if n = 0 then some [] else if n ≤ m then readN h a.block a.off (n * size) else none
  | .slice none _ _ => if n = 0 then some [] else none
  | .string s => if size = 1 ∧ n ≤ s.size then some (((s.extract 0 n).data.toList).map fun b => .int .u8 b.toNat) else none
  | _ => none
def lenOf (x : Value) : Option Nat :=
  match x with
  | .slice _ n _ => some n
  | .string s => some s.size
  | _ => none
def rep (zero : List Value) : Nat → List Value
  | 0 => []
  | n + 1 => zero ++ rep zero n
def mostLen : Nat := 4294967296
def appendc (elem : TypeId) (size : Nat) (s : Value) (m : Nat) (new : List Value) (h : AHeap) : Option (Value × AHeap) :=
  match s with
  | .slice a n c =>
      if c = capU then
        match a with
        | some ⟨b, 0, none⟩ =>
          if m = 0 then some (.slice (some ⟨b, 0, none⟩) n capU, h) else
          match h[b]? with
          | some (.cells vs t true) =>
            if n * size ≤ vs.length ∧ n + m ≤ mostLen ∧ t = elem ∧ 0 < n ∧ new.all oneC = true then
              some (.slice (some ⟨h.length, 0, none⟩) (n + m) capU, h.set b .dead ++ [.cells (vs.take (n * size) ++ new) elem true])
            else none
          | _ => none
        | _ => none
      else if n + m ≤ c then
        match a with
        | some a => (if m = 0 then some h else writeN h a.block (a.off + n * size) new).map fun h' => (.slice (some a) (n + m) c, h')
        | none => if m = 0 then some (.slice none n c, h) else none
      else if n + m ≤ mostLen then
        (firstf size n s h).map fun old => (.slice (some ⟨h.length, 0, none⟩) (n + m) capU, h ++ [.cells (old ++ new) elem true])
      else none
  | _ => none
def appendf (elem : TypeId) (size : Nat) (s x : Value) (h : AHeap) : Option (Value × AHeap) :=
  (lenOf x).bind fun m => (firstf size m x h).bind fun new => appendc elem size s m new h
def appendNf (elem : TypeId) (size : Nat) (zero : List Value) (s k : Value) (h : AHeap) : Option (Value × AHeap) :=
  match k with
  | .int .i64 l => if 0 ≤ l ∧ l ≤ mostLen then appendc elem size s l.toNat (rep zero l.toNat) h else none
  | _ => none
def copyf (size : Nat) (d s : Value) (h : AHeap) : Option (Value × AHeap) :=
  match d with
  | .slice a n _ =>
    (lenOf s).bind fun m => (firstf size (Nat.min m n) s h).bind fun new =>
      match a with
      | some a => (if Nat.min m n = 0 then some h else writeN h a.block a.off new).map fun h' => (.int .i64 (Nat.min m n), h')
      | none => if Nat.min m n = 0 then some (.int .i64 0, h) else none
  | _ => none
def clearf (zero : List Value) (x : Value) (h : AHeap) : Option (Value × AHeap) :=
  match x with
  | .slice none _ _ => some (undef, h)
  | .slice (some a) n _ => if n = 0 then some (undef, h) else (writeN h a.block a.off (rep zero n)).map fun h' => (undef, h')
  | _ => none
def mkSlicef (elem : TypeId) (zero : List Value) (n c : Value) (h : AHeap) : Option (Value × AHeap) :=
  match n, c with
  | .int .i64 n, .int .i64 c =>
    if 0 ≤ n ∧ n ≤ c ∧ c ≤ mostLen then some (.slice (some ⟨h.length, 0, none⟩) n.toNat c.toNat, h ++ [.cells (rep zero c.toNat) elem true]) else none
  | _, _ => none
def keyEq (k : BK) (x y : Value) : Option Bool :=
  match k, x, y with
  | .int, .int k a, .int k' b => if k = k' then some (a == b) else none
  | .bool, .bool a, .bool b => some (a == b)
  | .str, .string a, .string b => some (a == b)
  | _, _, _ => none
def findMap (k : BK) (x : Value) : List (Value × Value) → Option (Option Value)
  | [] => some none
  | (y, v) :: r => match keyEq k x y with
    | some true => some (some v)
    | some false => findMap k x r
    | none => none
def setMap (k : BK) (x v : Value) : List (Value × Value) → Option (List (Value × Value))
  | [] => some [(x, v)]
  | (y, u) :: r => match keyEq k x y with
    | some true => some ((x, v) :: r)
    | some false => (setMap k x v r).map fun q => (y, u) :: q
    | none => none
def mapOf (x : Value) (h : AHeap) : Option (List (Value × Value)) :=
  match x with
  | .map none => some []
  | .map (some b) => match h[b]? with
    | some (.map es) => some es
    | _ => none
  | _ => none
def lookupf (k : BK) (zero : Value) (ok : Bool) (x i : Value) (h : AHeap) : Option Value :=
  (mapOf x h).bind fun es => (findMap k i es).map fun r =>
    match r, ok with
    | some v, true => .tuple #[v, .bool true]
    | some v, false => v
    | none, true => .tuple #[zero, .bool false]
    | none, false => zero
def setMapf (k : BK) (x i v : Value) (h : AHeap) : Option AHeap :=
  match x with
  | .map (some b) => match h[b]? with
    | some (.map es) => (setMap k i v es).map fun q => h.set b (.map q)
    | _ => none
  | _ => none
def lenMapf (x : Value) (h : AHeap) : Option Value := (mapOf x h).map fun es => .int .i64 es.length
def bytesOf : List Value → Option (List UInt8)
  | [] => some []
  | .int .u8 n :: r => (bytesOf r).map fun l => UInt8.ofNat n.toNat :: l
  | _ => none
def bytesToStrf (x : Value) (h : AHeap) : Option Value :=
  match x with
  | .slice (some a) n _ => if n = 0 then some (.string ⟨#[]⟩) else (readN h a.block a.off n).bind fun l => (bytesOf l).map fun bs => .string ⟨bs.toArray⟩
  | .slice none _ _ => some (.string .empty)
  | _ => none
def val (e : Env) : Operand → Value
  | .tmp t => e t
  | .const v => v
  | .global _ => junk
  | .func f => .func (.func f) #[] #[]
def yieldId : FuncId := 1152921504606846976
abbrev Callee := FuncId → List Value → AHeap → Option (Value × AHeap)
section
variable {R : Type}
def callVf (Γ : Callee) (f : Value) (args : List Value) (h : AHeap) : Option (Value × AHeap) :=
  match f with
  | .func (.func g) first captured => bif Nat.blt g yieldId then Γ g (first.toList ++ args ++ captured.toList) h else none
  | .func (.yield b) ⟨[]⟩ ⟨[]⟩ => Γ yieldId (ptrTo b 0 :: args) h
  | _ => none
def callFf (Γ : Callee) (f : Value) (args : List Value) (h : AHeap) : Option (Value × AHeap) :=
  match f with
  | .func (.func g) first captured => bif Nat.blt g yieldId then Γ g (first.toList ++ args ++ captured.toList) h else none
  | _ => none
def vals (e : Env) : List Operand → List Value
  | [] => []
  | x :: r => val e x :: vals e r
def valO (e : Env) : Option Operand → Option Value
  | none => none
  | some x => some (val e x)
def valP (e : Env) : List (Nat × Nat × Operand) → List (Nat × Nat × Value)
  | [] => []
  | (i, n, x) :: r => (i, n, val e x) :: valP e r
def opK (Γ : Callee) (o : AOp) (e : Env) (h : AHeap) (k : Value → AHeap → Option R) : Option R :=
  match o with
  | .move x => k (val e x) h
  | .pick c a b => (pickf (val e c) (val e a) (val e b)).bind fun v => k v h
  | .bin op x y => (binf op (val e x) (val e y)).bind fun v => k v h
  | .eqBool neg x y => (eqBoolf neg (val e x) (val e y)).bind fun v => k v h
  | .isNil t neg x => (isNilKf t neg (val e x)).bind fun v => k v h
  | .eqAgg ks neg x y => (eqAggf ks neg (val e x) (val e y)).bind fun v => k v h
  | .un op x => (unf op (val e x)).bind fun v => k v h
  | .conv t x => (convf t (val e x)).bind fun v => k v h
  | .strId x => (strIdf (val e x)).bind fun v => k v h
  | .len str x => (lenf str (val e x)).bind fun v => k v h
  | .extract x i => (extractf (val e x) i).bind fun v => k v h
  | .field agg off size x => (fieldf agg off size (val e x)).bind fun v => k v h
  | .indexArr n agg size x i => (indexArrf n agg size (val e x) (val e i)).bind fun v => k v h
  | .indexStr x i => (indexStrf (val e x) (val e i)).bind fun v => k v h
  | .fieldAddr off x => (fieldAddrf off (val e x)).bind fun v => k v h
  | .indexAddr size x i => (indexAddrf size (val e x) (val e i)).bind fun v => k v h
  | .indexAddrArr n size x i => (indexAddrArrf n size (val e x) (val e i)).bind fun v => k v h
  | .nilCheck x => (nilCheckf (val e x)).bind fun v => k v h
  | .slice size x lo hi mx => (slicef size (val e x) (valO e lo) (valO e hi) (valO e mx)).bind fun v => k v h
  | .sliceStr x lo hi => (sliceStrf (val e x) (valO e lo) (valO e hi)).bind fun v => k v h
  | .sliceArr n size x lo hi mx => (sliceArrf n size (val e x) (valO e lo) (valO e hi) (valO e mx)).bind fun v => k v h
  | .max xs => (fold1f max2f (vals e xs)).bind fun v => k v h
  | .min xs => (fold1f min2f (vals e xs)).bind fun v => k v h
  | .build zero parts => (fillf zero (valP e parts)).bind fun l => k (.agg l.toArray) h
  | .mkFunc f first captured => k (.func (.func f) (vals e first).toArray (vals e captured).toArray) h
  | .mkIface t x => k (.iface t (val e x)) h
  | .box t x => k (ptrTo h.length 0) (h ++ [.cells (cellsL (val e x)) t true])
  | .new t zero => k (ptrTo h.length 0) (h ++ [.cells zero t true])
  | .buildSlice t zero n parts => (fillf (rep zero n) (valP e parts)).bind fun l => k (.slice (some ⟨h.length, 0, none⟩) n n) (h ++ [.cells l t true])
  | .mkSlice t zero n c => (mkSlicef t zero (val e n) (val e c) h).bind fun p => k p.1 p.2
  | .load agg n x => (loadf agg n (val e x) h).bind fun v => k v h
  | .store n x v => (storef n (val e x) (val e v) h).bind fun h' => k undef h'
  | .append t size s x => (appendf t size (val e s) (val e x) h).bind fun p => k p.1 p.2
  | .copy size d s => (copyf size (val e d) (val e s) h).bind fun p => k p.1 p.2
  | .clear zero x => (clearf zero (val e x) h).bind fun p => k p.1 p.2
  | .appendN t size zero s n => (appendNf t size zero (val e s) (val e n) h).bind fun p => k p.1 p.2
  | .mkMap => k (.map (some h.length)) (h ++ [.map []])
  | .lookup t zero ok x i => (lookupf t zero ok (val e x) (val e i) h).bind fun v => k v h
  | .mapSet t x i v => (setMapf t (val e x) (val e i) (val e v) h).bind fun h' => k undef h'
  | .lenMap x => (lenMapf (val e x) h).bind fun v => k v h
  | .bytesToStr x => (bytesToStrf (val e x) h).bind fun v => k v h
  | .call f args => (Γ f (vals e args) h).bind fun p => k p.1 p.2
  | .callV f args => (callVf Γ (val e f) (vals e args) h).bind fun p => k p.1 p.2
  | .fail => none
open Classical in
noncomputable def sameQ (h h' : AHeap) (m : Option R) : Option R := if h <+: h' then m else none
def farV (s p : Value) : Prop := ∃ a o, p = .pointer (some ⟨a, o, none⟩) ∧ ((∃ x, s = .slice x 0 0) ∨ ∃ b o' n c, s = .slice (some ⟨b, o', none⟩) n c ∧ b ≠ a)
open Classical in
noncomputable def chkK (chk : Chk) (e : Env) (h h' : AHeap) (m : Option R) : Option R :=
  match chk with
  | .no => m
  | .calm => sameQ h h' m
  | .far ps => if ∀ p ∈ ps, farV (e p.1) (e p.2) then m else none
def J1 (k : Value → AHeap → Option R) (b : (Value → AHeap → Option R) → Option R) : Option R := b k
def JL (k : List Value → AHeap → Option R) (b : (List Value → AHeap → Option R) → Option R) : Option R := b k
def scK (v : Value) (isAnd : Bool) (a b : Option R) : Option R :=
  match v with
  | .bool t => if t = isAnd then a else b
  | _ => none
def ifK (v : Value) (a b : Option R) : Option R :=
  match v with
  | .bool t => if t = true then a else b
  | _ => none
noncomputable def stepsK (Γ : Callee) : ASteps → (Env → AHeap → Option R) → Env → AHeap → Option R
  | .nil, K, e, h => K e h
  | .op d o chk rest, K, e, h => opK Γ o e h fun v h' => chkK chk e h h' (stepsK Γ rest K (updO e d v) h')
  | .sc d c isAnd tmp body y rest, K, e, h =>
    J1 (fun v h => stepsK Γ rest K (upd (junkAll e tmp) d v) h) fun j =>
      scK (e c) isAnd (stepsK Γ body (fun e' h' => j (val e' y) h') e h) (j (.bool !isAnd) h)
def loopN (B : (List Value → AHeap → Option R) → List Value → AHeap → Option R) : Nat → List Value → AHeap → Option R
  | 0, _, _ => none
  | n + 1, vs, h => B (loopN B n) vs h
def getMany (e : Env) : List Nat → List Value
  | [] => []
  | i :: r => e i :: getMany e r
def pendOf (b : Nat) (h : AHeap) : Option (Option AExit) :=
  match h[b]? with
  | some (.loop _ _ _ _ _ .ready pend) => some pend
  | some (.loop _ _ _ _ _ .done pend) => some pend
  | _ => none
def endRound (b : Nat) (o : AExit) (h : AHeap) : Option (Value × AHeap) :=
  match h[b]? with
  | some (.loop vals lv ps ab bb .busy _) => match o with
    | .normal => some (.bool true, h.set b (.loop vals lv ps ab bb .ready none))
    | .exit i => some (.bool false, h.set b (.loop vals lv ps ab bb .done (some (.exit i))))
    | .ret => some (.bool false, h.set b (.loop vals lv ps ab bb .done (some .ret)))
  | _ => none
def beginRound (b : Nat) (h : AHeap) : Option AHeap :=
  match h[b]? with
  | some (.loop vals lv ps ab bb .ready pend) => some (h.set b (.loop vals lv ps ab bb .busy pend))
  | _ => none
noncomputable def codeK (Γ : Callee) (n : Nat) : ACode → (AExit → Env → AHeap → Option R) → Env → AHeap → Option R
  | .skip, K, e, h => K .normal e h
  | .region _ s, K, e, h => stepsK Γ s (fun e h => K .normal e h) e h
  | .seq a b, K, e, h => codeK Γ n a (fun o e h => match o with | .normal => codeK Γ n b K e h | .exit i => K (.exit i) e h | .ret => K .ret e h) e h
  | .cond c mod tmp a b, K, e, h =>
    JL (fun vs h => K .normal (setMany (junkAll e tmp) mod vs) h) fun j =>
      ifK (val e c)
        (codeK Γ n a (fun o e h => match o with | .normal => j (getMany e mod) h | .exit i => K (.exit i) e h | .ret => K .ret e h) e h)
        (codeK Γ n b (fun o e h => match o with | .normal => j (getMany e mod) h | .exit i => K (.exit i) e h | .ret => K .ret e h) e h)
  | .block id mod tmp c, K, e, h =>
    JL (fun vs h => K .normal (setMany (junkAll e tmp) mod vs) h) fun j =>
      codeK Γ n c (fun o e h => match o with
        | .normal => j (getMany e mod) h
        | .exit i => bif Nat.beq i id then j (getMany e mod) h else K (.exit i) e h
        | .ret => K .ret e h) e h
  | .loop mod tmp c, K, e, h =>
    loopN (fun cont vs h => codeK Γ n c (fun o e h => match o with | .normal => cont (getMany e mod) h | .exit i => K (.exit i) e h | .ret => K .ret e h) (setMany (junkAll e tmp) mod vs) h) n (getMany e mod) h
  | .exit i, K, e, h => K (.exit i) e h
  | .ret, K, e, h => K .ret e h
  | .rangeF g lv ps ab bb, K, e, h =>
    (callFf Γ (val e g) [.func (.yield h.length) ⟨[]⟩ ⟨[]⟩] (h ++ [.loop (getMany e lv) lv ps ab bb .ready none])).bind fun p =>
      (pendOf h.length p.2).bind fun o => match o with
        | none => K .normal e (p.2.set h.length .dead)
        | some x => K x e (p.2.set h.length .dead)
inductive ARes where
  | tmp (t : Nat)
  | cell (t : Nat) (agg : Bool) (n : Nat)
structure AFun where
  nargs : Nat
  ntmps : Nat
  code : ACode
  results : List ARes
def resultsK : List ARes → Env → AHeap → (List Value → Option R) → Option R
  | [], _, _, k => k []
  | .tmp t :: r, e, h, k => resultsK r e h fun vs => k (e t :: vs)
  | .cell t agg n :: r, e, h, k => (loadf agg n (e t) h).bind fun v => resultsK r e h fun vs => k (v :: vs)
def single : List Value → Value
  | [v] => v
  | vs => .tuple vs.toArray
end
def noRef1 : Value → Bool
  | .bool _ | .int _ _ | .string _ | .pointer none | .slice none 0 0 | .map none | .nilFunc | .nilIface => true
  | _ => false
def noRef2 : Value → Bool
  | .agg cs => cs.toList.all noRef1
  | .iface _ v => noRef1 v
  | v => noRef1 v
def noRef : Value → Bool
  | .tuple vs => vs.toList.all noRef2
  | v => noRef2 v
noncomputable def gc (r : Value) (h h' : AHeap) : AHeap := h'
def initEnv (args : List Value) : Env := fun i => args.getD i undef
noncomputable def funK (Γ : Callee) (n : Nat) (F : AFun) (args : List Value) (h : AHeap) : Option (Value × AHeap) :=
  bif Nat.beq args.length F.nargs then
    codeK Γ n F.code (fun o e h' => match o with
      | .normal => resultsK F.results e h' fun vs => some (single vs, gc (single vs) h h')
      | .ret => resultsK F.results e h' fun vs => some (single vs, gc (single vs) h h')
      | .exit _ => none) (initEnv args) h
  else none
noncomputable def roundK (Γ : Callee) (n : Nat) (args : List Value) (h : AHeap) : Option (Value × AHeap) :=
  match args with
  | .pointer (some ⟨b, 0, none⟩) :: vs =>
    match h[b]? with
    | some (.loop vals lv ps ab bb .ready _) =>
      bif Nat.beq vs.length ps.length then
        codeK Γ n ab (fun o e h1 => match o with
          | .normal => (beginRound b h1).bind fun h2 => codeK Γ n bb (fun o _ h3 => endRound b o h3) e h2
          | _ => none) (setMany (setMany (fun _ => junk) lv vals) ps vs) h
      else none
    | _ => none
  | _ => none
abbrev ATable := List (FuncId × AFun)
def ATable.get (T : ATable) (f : FuncId) : Option AFun :=
  match T with
  | [] => none
  | (g, F) :: r => bif Nat.beq g f then some F else ATable.get r f
noncomputable def acall (Γ0 : Callee) (T : ATable) : Nat → Callee
  | 0, f, args, h => bif Nat.beq f yieldId then none else match T.get f with
    | some _ => none
    | none => Γ0 f args h
  | n + 1, f, args, h => bif Nat.beq f yieldId then roundK (acall Γ0 T n) n args h else match T.get f with
    | some F => funK (acall Γ0 T n) n F args h
    | none => Γ0 f args h
open Classical in
noncomputable def run (Γ0 : Callee) (T : ATable) : Callee := fun f args h =>
  if H : ∃ n, (acall Γ0 T n f args h).isSome = true then acall Γ0 T (Classical.choose H) f args h else none
end Go.Am
/- From the model's code to the machine's: the definitions alone. -/
namespace Go.Am
def isAggD : TypeDesc → Bool
  | .struct _ | .array _ _ => true
  | _ => false
def nilOf : TypeDesc → Option Value
  | .slice _ => some (.slice none 0 0)
  | .pointer _ => some (.pointer none)
  | .map _ _ => some (.map none)
  | .func _ _ _ => some .nilFunc
  | .interface _ => some .nilIface
  | _ => none
def bkOf : Option TypeDesc → Option BK
  | some (.int _) => some .int
  | some .bool => some .bool
  | some .string => some .str
  | _ => none
def layOf (P : Program) (t : TypeId) : Option (Bool × Nat) :=
  match P.underlying t, P.info? t with
  | some d, some i => if 0 < i.size then some (isAggD d, i.size) else none
  | _, _ => none
def flatL (g : TypeId → Option (List BK)) (P : Program) : Nat → List Field → Option (List BK)
  | _, [] => some []
  | i, f :: fs => match g f.type, layOf P f.type with
    | some ks, some l => if f.offset = i ∧ (f.name == "_") = false ∧ ks.length = l.2 then (flatL g P (i + l.2) fs).map (ks ++ ·) else none
    | _, _ => none
def repBK (ks : List BK) : Nat → List BK
  | 0 => []
  | n + 1 => ks ++ repBK ks n
def flatD (P : Program) : Nat → TypeId → Option (List BK)
  | 0, _ => none
  | m + 1, t => match bkOf (P.underlying t) with
    | some b => some [b]
    | none => match P.underlying t with
      | some (.struct fs) => if P.stoodInHeld t = false then flatL (flatD P m) P 0 fs.toList else none
      | some (.array n e) => match flatD P m e, layOf P e with
        | some ks, some l => if ks.length = l.2 ∧ P.cellsOf e = l.2 then some (repBK ks n) else none
        | _, _ => none
      | _ => none
def flatT (P : Program) (t : TypeId) : Option (List BK) :=
  match P.underlying t with
  | some (.struct _) | some (.array _ _) => if P.eqGuardType P.depth t = false then flatD P 16 t else none
  | _ => none
def okX : Operand → Bool
  | .const v => noRef v
  | .global _ => false
  | _ => true
def zeroLay (P : Program) (t : TypeId) : Option (List Value) :=
  match P.info? t with
  | some i =>
    match i.zero with
    | some z => if z.cells.toList.all noRef1 = true ∧ z.cells.size = i.size ∧ 0 < i.size ∧ i.bytes ≤ 16384 then some z.cells.toList else none
    | none => none
  | none => none
def isNilConst (d : TypeDesc) (x : Operand) : Bool :=
  match x, d with
  | .const (.slice none 0 0), .slice _ => true
  | .const (.pointer none), .pointer _ => true
  | .const (.map none), .map _ _ => true
  | .const .nilFunc, .func _ _ _ => true
  | .const .nilIface, .interface _ => true
  | _, _ => false
def negOf : BinOp → Option Bool
  | .eql => some false
  | .neq => some true
  | _ => none
def kindOf : TypeDesc → Option NilKind
  | .slice _ => some .slice
  | .pointer _ => some .pointer
  | .map _ _ => some .map
  | .func _ _ _ => some .func
  | .interface _ => some .iface
  | _ => none
def compBin (P : Program) (op : BinOp) (t : TypeId) (x y : Operand) : Option AOp :=
  match P.underlying t with
  | some (.int _) => some (.bin op x y)
  | some .string => some (.bin op x y)
  | some .bool => (negOf op).map fun neg => .eqBool neg x y
  | some (.struct _) => match negOf op, flatT P t with
    | some neg, some ks => some (.eqAgg ks neg x y)
    | _, _ => none
  | some (.array _ _) => match negOf op, flatT P t with
    | some neg, some ks => some (.eqAgg ks neg x y)
    | _, _ => none
  | some d =>
    match negOf op, kindOf d with
    | some neg, some k => if isNilConst d y = true then some (.isNil k neg x) else if isNilConst d x = true then some (.isNil k neg y) else none
    | _, _ => none
  | none => none
def compConv (P : Program) (s d : TypeId) (x : Operand) : Option AOp :=
  match P.underlying s, P.underlying d with
  | some _, some (.int k) => some (.conv k x)
  | some .string, some .string => some (.strId x)
  | some (.slice e), some .string => match P.underlying e with
    | some (.int .u8) => some (.bytesToStr x)
    | _ => none
  | _, _ => none
def fieldOf (P : Program) (t : TypeId) (f : Nat) : Option (Field × Bool × Nat) :=
  match P.underlying t with
  | some (.struct fs) => match fs[f]? with
    | some fd => (layOf P fd.type).map fun l => (fd, l.1, l.2)
    | none => none
  | _ => none
def partsOf (place : Nat → Option (Nat × Nat)) : List (Nat × Operand) → Option (List (Nat × Nat × Operand))
  | [] => some []
  | (i, x) :: r =>
    match place i, partsOf place r with
    | some (off, size), some ps => if 0 < size then some ((off, size, x) :: ps) else none
    | _, _ => none
def placeOf (P : Program) (t : TypeId) : Option (Nat → Option (Nat × Nat)) :=
  match P.underlying t with
  | some (.array _ e) => (P.info? e).map fun i => fun j => some (j * i.size, i.size)
  | some (.struct fs) => (fs.toList.mapM (fun f => (P.info? f.type).map fun i => (f.offset, i.size))).map fun l => fun j => l.toArray[j]?
  | _ => none
def okL (l : List Operand) : Bool := l.all okX
def compBuiltin (P : Program) (b : Builtin) (args : List Operand) (argTypes : Array TypeId) : Option AOp :=
  match b, args with
  | .len, [x] => match argTypes with
    | ⟨[t]⟩ => match P.underlying t with
      | some .string => some (.len true x)
      | some (.slice _) => some (.len false x)
      | some (.array n _) => some (.move (.const (.int .i64 n)))
      | some (.map _ _) => some (.lenMap x)
      | _ => none
    | _ => none
  | .append, [x, y] => match argTypes with
    | ⟨[st, xt]⟩ => match P.underlying st, P.underlying xt with
      | some (.slice e), some (.slice _) => match zeroLay P e, layOf P e with
        | some _, some (_, n) => some (.append e n x y)
        | _, _ => none
      | some (.slice e), some .string => match zeroLay P e, layOf P e with
        | some _, some (_, n) => some (.append e n x y)
        | _, _ => none
      | some (.slice e), some (.int _) => match zeroLay P e, layOf P e with
        | some z, some (_, n) => some (.appendN e n z x y)
        | _, _ => none
      | _, _ => none
    | _ => none
  | .copy, [x, y] => match argTypes with
    | ⟨[dt, _]⟩ => match P.underlying dt with
      | some (.slice e) => (layOf P e).map fun l => .copy l.2 x y
      | _ => none
    | _ => none
  | .clear, [x] => match argTypes with
    | ⟨[t]⟩ => match P.underlying t with
      | some (.slice e) => (zeroLay P e).map fun z => .clear z x
      | _ => none
    | _ => none
  | .max, xs => some (.max xs)
  | .min, xs => some (.min xs)
  | _, _ => none
def compOp1 (P : Program) : Op → Option AOp
  | .move x => some (.move x)
  | .assign x => some (.move x)
  | .pick c a b => some (.pick c a b)
  | .binOp op t x y _ => compBin P op t x y
  | .unOp op _ x => some (.un op x)
  | .convert s d x => compConv P s d x
  | .extract x i => some (.extract x i)
  | .field t x f => (fieldOf P t f).map fun r => .field r.2.1 r.1.offset r.2.2 x
  | .fieldAddr t x f => (fieldOf P t f).map fun r => .fieldAddr r.1.offset x
  | .indexAddr t x i => match P.underlying t with
    | some (.slice e) => (layOf P e).map fun l => .indexAddr l.2 x i
    | some (.array n e) => (layOf P e).map fun l => .indexAddrArr n l.2 x i
    | _ => none
  | .index t x i => match P.underlying t with
    | some (.array n e) => (layOf P e).map fun l => .indexArr n l.1 l.2 x i
    | some .string => some (.indexStr x i)
    | _ => none
  | .nilCheck x => some (.nilCheck x)
  | .slice t x lo hi mx => if mx.isSome = true → hi.isSome = true then
      match P.underlying t with
      | some (.slice e) => (layOf P e).map fun l => .slice l.2 x lo hi mx
      | some .string => if mx.isNone = true then some (.sliceStr x lo hi) else none
      | some (.array n e) => if n < capU then (layOf P e).map fun l => .sliceArr n l.2 x lo hi mx else none
      | _ => none
    else none
  | .build t parts => match zeroLay P t, placeOf P t with
    | some z, some place => (partsOf place parts.toList).map fun ps => .build z ps
    | _, _ => none
  | .buildSlice t n parts => match P.underlying t with
    | some (.slice e) => match zeroLay P e, layOf P e with
      | some z, some (_, s) => if n * s ≤ 2 ^ 24 ∧ 0 < n then (partsOf (fun i => some (i * s, s)) parts.toList).map fun ps => .buildSlice e z n ps else if n = 0 ∧ parts.toList.isEmpty = true then some (.buildSlice e [] 0 []) else none
      | _, _ => none
    | _ => none
  | .makeFunc (.func f) first captured => some (.mkFunc f first.toList captured.toList)
  | .makeInterface t x => match P.underlying t with
    | some (.interface _) => none
    | some _ => some (.mkIface t x)
    | none => none
  | .box t x => some (.box t x)
  | .alloc t => (zeroLay P t).map fun z => .new t z
  | .makeSlice t n c => match P.underlying t with
    | some (.slice e) => (zeroLay P e).map fun z => .mkSlice e z n c
    | _ => none
  | .load t x => (layOf P t).map fun l => .load l.1 l.2 x
  | .store t x v => (layOf P t).map fun l => .store l.2 x v
  | .call c => match c.callee with
    | .value (.func f) => if Nat.blt f yieldId = true then some (.call f c.args.toList) else none
    | .value f => some (.callV f c.args.toList)
    | .builtin b => compBuiltin P b c.args.toList c.argTypes
    | .invoke _ _ => none
  | .makeMap _ none => some .mkMap
  | .lookup t x i ok => match P.underlying t with
    | some (.map key elem) => match bkOf (P.underlying key), P.info? elem with
      | some k, some ie => match ie.zero with
        | some z => if noRef z = true then some (.lookup k z ok x i) else none
        | none => none
      | _, _ => none
    | _ => none
  | .mapUpdate t m k v => match P.underlying t with
    | some (.map key _) => (bkOf (P.underlying key)).map fun b => .mapSet b m k v
    | _ => none
  | .insert t m k v => match P.underlying t with
    | some (.map key _) => (bkOf (P.underlying key)).map fun b => .mapSet b m k v
    | _ => none
  | .panic _ => some .fail
  | _ => none
def compOp (P : Program) (o : Op) : Option AOp := if okL o.operands.toList = true then compOp1 P o else none
structure FOp where
  dst : Option Nat
  op : AOp
  guard : Option (Nat × Bool)
  chk : Chk
def eraseS : ASteps → Option (Nat × Bool) → List FOp
  | .nil, _ => []
  | .op d o chk rest, g => ⟨d, o, g, chk⟩ :: eraseS rest g
  | .sc d c isAnd tmp body y rest, g =>
    eraseS body (some (c, isAnd)) ++ ⟨some d, .pick (.tmp c) (if isAnd then y else .const (.bool true)) (if isAnd then .const (.bool false) else y), g, .no⟩ :: eraseS rest g
def writesS : ASteps → List Nat
  | .nil => []
  | .op d _ _ rest => d.toList ++ writesS rest
  | .sc d _ _ tmp body _ rest => d :: (tmp ++ writesS body ++ writesS rest)
def dstsS : ASteps → List Nat
  | .nil => []
  | .op d _ _ rest => d.toList ++ dstsS rest
  | .sc d _ _ _ body _ rest => dstsS body ++ d :: dstsS rest
def okS : List Nat → Option (List Nat) → ASteps → Bool
  | _, _, .nil => true
  | gs, df, .op d _ _ rest => (d.toList.all fun i => !gs.contains i) && okS gs (df.map (d.toList ++ ·)) rest
  | gs, df, .sc d c _ tmp body _ rest =>
    !gs.contains d && (tmp.all fun i => !gs.contains i && i != c) && (df.toList.all fun l => l.contains c) && ((dstsS body).all tmp.contains) && ((writesS body).all tmp.contains) && d != c && okS (c :: gs) (some []) body && okS gs (df.map (dstsS body ++ [d] ++ ·)) rest
def compF (P : Program) (ops : Array Oper) (chk : Chk) (o : Oper) : Option FOp :=
  match compOp P o.op with
  | some ao =>
    match o.guard with
    | none => some ⟨o.dst, ao, none, chk⟩
    | some (j, b) =>
      match (ops[j]?).bind (·.dst) with
      | some d => some ⟨o.dst, ao, some (d, b), chk⟩
      | none => none
  | none => none
def compL (P : Program) (ops : Array Oper) (chkOf : Nat → Chk) : List Oper → Nat → Option (List FOp)
  | [], _ => some []
  | o :: r, i =>
    match compF P ops (chkOf i) o, compL P ops chkOf r (i + 1) with
    | some f, some fs => some (f :: fs)
    | _, _ => none
def slotsX : Operand → List Nat
  | .tmp t => [t]
  | _ => []
def slotsL : List Operand → List Nat
  | [] => []
  | x :: r => slotsX x ++ slotsL r
def slotsO : Option Operand → List Nat
  | some x => slotsX x
  | none => []
def slotsP : List (Nat × Nat × Operand) → List Nat
  | [] => []
  | x :: r => slotsX x.2.2 ++ slotsP r
def aslots : AOp → List Nat
  | .move x => slotsX x
  | .pick c a b => slotsX c ++ (slotsX a ++ slotsX b)
  | .bin _ x y => slotsX x ++ slotsX y
  | .eqBool _ x y => slotsX x ++ slotsX y
  | .isNil _ _ x => slotsX x
  | .eqAgg _ _ x y => slotsX x ++ slotsX y
  | .un _ x => slotsX x
  | .conv _ x => slotsX x
  | .strId x => slotsX x
  | .len _ x => slotsX x
  | .extract x _ => slotsX x
  | .field _ _ _ x => slotsX x
  | .indexArr _ _ _ x i => slotsX x ++ slotsX i
  | .indexStr x i => slotsX x ++ slotsX i
  | .fieldAddr _ x => slotsX x
  | .indexAddr _ x i => slotsX x ++ slotsX i
  | .indexAddrArr _ _ x i => slotsX x ++ slotsX i
  | .nilCheck x => slotsX x
  | .slice _ x lo hi mx => slotsX x ++ (slotsO lo ++ (slotsO hi ++ slotsO mx))
  | .sliceStr x lo hi => slotsX x ++ (slotsO lo ++ slotsO hi)
  | .sliceArr _ _ x lo hi mx => slotsX x ++ (slotsO lo ++ (slotsO hi ++ slotsO mx))
  | .max xs => slotsL xs
  | .min xs => slotsL xs
  | .build _ ps => slotsP ps
  | .mkFunc _ a b => slotsL a ++ slotsL b
  | .mkIface _ x => slotsX x
  | .box _ x => slotsX x
  | .new _ _ => []
  | .buildSlice _ _ _ ps => slotsP ps
  | .mkSlice _ _ n c => slotsX n ++ slotsX c
  | .load _ _ x => slotsX x
  | .store _ x v => slotsX x ++ slotsX v
  | .append _ _ s x => slotsX s ++ slotsX x
  | .copy _ d s => slotsX d ++ slotsX s
  | .clear _ x => slotsX x
  | .appendN _ _ _ s k => slotsX s ++ slotsX k
  | .mkMap => []
  | .lookup _ _ _ x i => slotsX x ++ slotsX i
  | .mapSet _ x i v => slotsX x ++ (slotsX i ++ slotsX v)
  | .lenMap x => slotsX x
  | .bytesToStr x => slotsX x
  | .call _ args => slotsL args
  | .callV f args => slotsX f ++ slotsL args
  | .fail => []
def mayWrite : AOp → Bool
  | .store _ _ _ | .append _ _ _ _ | .copy _ _ _ | .clear _ _ | .appendN _ _ _ _ _ | .mapSet _ _ _ _ | .call _ _ | .callV _ _ => true
  | _ => false
def loud : AOp → Bool
  | .box _ _ | .new _ _ | .buildSlice _ _ _ _ | .mkSlice _ _ _ _ | .load _ _ _ | .bytesToStr _ | .mkMap | .lookup _ _ _ _ _ | .lenMap _ => true
  | o => mayWrite o
def looksF (f : FOp) : List Nat := aslots f.op ++ (match f.guard with | some (s, _) => [s] | none => [])
def befs (ops : Array Oper) : List Nat := (Region.before ops).toList
def edgesOkB (ops : Array Oper) : Bool :=
  (List.range ops.size).all fun i => match ops[i]? with
    | some o => o.after.toList.all fun e => !Region.binds .any e || decide (e.on < i)
    | none => true
def certOkB (ops : Array Oper) (B : List Nat) : Bool :=
  (List.range ops.size).all fun i => decide (B.getD i 0 < 2 ^ ops.size) && (List.range ops.size).all fun j => !(B.getD i 0).testBit j || match ops[i]? with
    | some o => o.after.toList.any fun e => Region.binds .any e && (j == e.on || (B.getD e.on 0).testBit j)
    | none => true
def clash (f f' : FOp) : Bool := (match f.dst with | some t => (looksF f').contains t | none => false) || (match f'.dst with | some t => (looksF f).contains t | none => false)
def sameDst (f f' : FOp) : Bool := match f.dst, f'.dst with | some t, some t' => t == t' | _, _ => false
def isNew : AOp → Bool
  | .new _ zero => zero.all noRef1
  | _ => false
def ownStore (fl : List FOp) (i j : Nat) (jnew : Bool) : Bool :=
  match fl[i]? with
  | some f => match f.op with
    | .store _ (.tmp t) _ => (List.range i).any fun m => !(Nat.beq m j) && (jnew || Nat.blt j m) && match fl[m]? with
      | some g => isNew g.op && g.guard.isNone && (g.dst == some t)
      | none => false
    | _ => false
  | none => false
def exempt (fl : List FOp) (i j : Nat) : Bool := decide (j < i) && ownStore fl i j (match fl[j]? with
  | some g => isNew g.op
  | none => false)
def loadAt : AOp → Option Nat
  | .load _ _ (.tmp t) => some t
  | _ => none
def appAt : AOp → Option Nat
  | .append _ _ (.tmp s) _ => some s
  | _ => none
def isCalm : Chk → Bool
  | .calm => true
  | _ => false
def farOf : Chk → List (Nat × Nat)
  | .far ps => ps
  | _ => []
def hasPair (ps : List (Nat × Nat)) (a b : Nat) : Bool := ps.any fun p => Nat.beq p.1 a && Nat.beq p.2 b
def noLater (fl : List FOp) (j t : Nat) : Bool := (fl.drop j).all fun f => match f.dst with
  | some d => !(Nat.beq d t)
  | none => true
def earlyOk (f f' : FOp) : Bool := match appAt f.op, f.dst, loadAt f'.op with
  | some _, some d, some t => hasPair (farOf f'.chk) d t
  | _, _, _ => false
def lateOk (fl : List FOp) (j : Nat) (f f' : FOp) : Bool := match appAt f.op, loadAt f'.op with
  | some s, some t => hasPair (farOf f.chk) s t && noLater fl j t
  | _, _ => false
def isMk : AOp → Bool
  | .new _ _ => true
  | .box _ _ => true
  | .buildSlice _ _ _ _ => true
  | _ => false
def makeOk (f f' : FOp) : Bool := isMk f'.op && (appAt f.op).isSome
def pairsOkB (fl : List FOp) (B : List Nat) : Bool :=
  (List.range fl.length).all fun i => (List.range fl.length).all fun j => match fl[i]?, fl[j]? with
    | some f, some f' => (i == j || !sameDst f f') && (!(decide (i < j)) || !clash f f' || (B.getD j 0).testBit i) &&
        (!(mayWrite f.op) || isCalm f.chk || !(loud f'.op) || ((!(decide (i < j)) || (B.getD j 0).testBit i || earlyOk f f') && (!(decide (j < i)) || (B.getD i 0).testBit j || exempt fl i j || lateOk fl j f f' || makeOk f f')))
    | _, _ => true
def needChk (fl : List FOp) (B : List Nat) (i : Nat) : Bool :=
  match fl[i]? with
  | some f => mayWrite f.op && !((List.range fl.length).all fun j => match fl[j]? with
    | some f' => !(loud f'.op) || ((!(decide (i < j)) || (B.getD j 0).testBit i) && (!(decide (j < i)) || (B.getD i 0).testBit j || exempt fl i j))
    | none => true)
  | none => false
def isFar (fl : List FOp) (B : List Nat) (i : Nat) : Bool :=
  match fl[i]? with
  | some f => (appAt f.op).isSome && f.dst.isSome && ((List.range fl.length).all fun j => match fl[j]? with
    | some f' => !(loud f'.op) || ((!(decide (i < j)) || (B.getD j 0).testBit i) && (!(decide (j < i)) || (B.getD i 0).testBit j || exempt fl i j)) || (match loadAt f'.op with
      | some t => !(decide (j < i)) || noLater fl j t
      | none => decide (j < i) && isMk f'.op)
    | none => true)
  | none => false
def chkFor (fl : List FOp) (B : List Nat) (i : Nat) : Chk :=
  match fl[i]? with
  | some f =>
    match loadAt f.op with
    | some t =>
      match (List.range i).filterMap (fun k => match fl[k]? with
        | some g => match appAt g.op, g.dst with
          | some _, some d => if (B.getD i 0).testBit k then none else if needChk fl B k && isFar fl B k then some (d, t) else none
          | _, _ => none
        | none => none) with
      | [] => .no
      | ps => .far ps
    | none => if needChk fl B i then match appAt f.op with
        | some s => if isFar fl B i then .far ((List.range i).filterMap fun j => match fl[j]? with
          | some g => match loadAt g.op with
            | some t => if (B.getD i 0).testBit j then none else some (s, t)
            | none => none
          | none => none) else .calm
        | none => .calm
      else .no
  | none => .no
def targets (fl : List FOp) (B : List Nat) : List Nat :=
  (List.range fl.length).filter fun i => match fl[i]? with
    | some f => (appAt f.op).isSome && needChk fl B i && !isFar fl B i
    | none => false
def orderOf (n : Nat) (tg B : List Nat) : List Nat :=
  ((List.range n).filter fun i => !(tg.any fun t => Nat.beq t i || (B.getD i 0).testBit t)) ++ (List.range n).filter fun i => tg.any fun t => Nat.beq t i || (B.getD i 0).testBit t
def posOf (σ : List Nat) (i : Nat) : Nat := σ.findIdx fun x => Nat.beq x i
def moveOp (σ : List Nat) (o : Oper) : Oper := { o with after := o.after.map fun e => { e with on := posOf σ e.on } }
def permOps (ops : Array Oper) (σ : List Nat) : Array Oper := (σ.map fun i => moveOp σ (ops.getD i default)).toArray
def permOk (ops : Array Oper) (σ : List Nat) : Bool :=
  decide (σ.length = ops.size) && (σ.all fun i => decide (i < ops.size)) && ((List.range ops.size).all fun i => decide (posOf σ i < ops.size) && Nat.beq (posOf σ (σ.getD i 0)) i) && (ops.toList.all fun o => o.guard.isNone && o.after.toList.all fun e => decide (e.on < ops.size))
def drawOkB (ops : Array Oper) (fl : List FOp) (B : List Nat) : Bool := edgesOkB ops && certOkB ops B && pairsOkB fl B
def compDraw (P : Program) (N : Nat) (ops : Array Oper) (fl0 : List FOp) : Option (List FOp) :=
  match compL P ops (chkFor fl0 (befs ops)) ops.toList 0 with
  | some fl => if (fl.all fun f => f.dst.toList.all fun d => decide (d < N)) = true ∧ drawOkB ops fl (befs ops) = true then some fl else none
  | none => none
def compRegion (P : Program) (N : Nat) (ops : Array Oper) (draw : Bool) : Option (List FOp) :=
  match draw with
  | false => match compL P ops (fun _ => .no) ops.toList 0 with
    | some fl => if (fl.all fun f => f.dst.toList.all fun d => decide (d < N)) = true then some fl else none
    | none => none
  | true => match compL P ops (fun _ => .no) ops.toList 0 with
    | some fl0 => match targets fl0 (befs ops) with
      | [] => compDraw P N ops fl0
      | tg => bif permOk ops (orderOf ops.size tg (befs ops)) then match compL P (permOps ops (orderOf ops.size tg (befs ops))) (fun _ => .no) (permOps ops (orderOf ops.size tg (befs ops))).toList 0 with
          | some fl1 => compDraw P N (permOps ops (orderOf ops.size tg (befs ops))) fl1
          | none => none
        else compDraw P N ops fl0
    | none => none
inductive FCode where
  | skip
  | region (draw : Bool) (fl : List FOp)
  | seq (a b : FCode)
  | cond (c : Operand) (a b : FCode)
  | block (id : Nat) (c : FCode)
  | loop (c : FCode)
  | exit (id : Nat)
  | ret
  | rangeF (g : Operand) (ps : List Nat) (a b : FCode)
def noRange : FCode → Bool
  | .rangeF _ _ _ _ => false
  | .seq a b => noRange a && noRange b
  | .cond _ a b => noRange a && noRange b
  | .block _ c => noRange c
  | .loop c => noRange c
  | _ => true
def eraseC : ACode → FCode
  | .skip => .skip
  | .region draw s => .region draw (eraseS s none)
  | .seq a b => .seq (eraseC a) (eraseC b)
  | .cond c _ _ a b => .cond c (eraseC a) (eraseC b)
  | .block id _ _ c => .block id (eraseC c)
  | .loop _ _ c => .loop (eraseC c)
  | .exit i => .exit i
  | .ret => .ret
  | .rangeF g _ ps a b => .rangeF g ps (eraseC a) (eraseC b)
def compCode (P : Program) (N : Nat) : Code → Option FCode
  | .skip => some .skip
  | .label _ => some .skip
  | .region _ ops draw => match compRegion P N ops draw with
    | some fl => some (.region draw fl)
    | none => none
  | .seq a b => match compCode P N a, compCode P N b with
    | some a, some b => some (.seq a b)
    | _, _ => none
  | .cond c a b => match okX c, compCode P N a, compCode P N b with
    | true, some a, some b => some (.cond c a b)
    | _, _, _ => none
  | .block id c => match compCode P N c with
    | some c => some (.block id c)
    | none => none
  | .loop c => match compCode P N c with
    | some c => some (.loop c)
    | none => none
  | .exit i => some (.exit i)
  | .ret => some .ret
  | .rangeFunc g ps assign body => match okX g, compCode P N assign, compCode P N body with
    | true, some a, some b => if (ps.toList.all fun p => decide (p < N)) = true ∧ ps.toList.Nodup ∧ noRange a = true ∧ noRange b = true then some (.rangeF g ps.toList a b) else none
    | _, _, _ => none
  | _ => none
def writesC : ACode → List Nat
  | .region _ s => writesS s
  | .seq a b => writesC a ++ writesC b
  | .cond _ mod tmp _ _ => mod ++ tmp
  | .block _ mod tmp _ => mod ++ tmp
  | .loop mod tmp _ => mod ++ tmp
  | _ => []
def subB (a b : List Nat) : Bool := a.all b.contains
def okC : ACode → Bool
  | .region _ s => okS [] none s
  | .seq a b => okC a && okC b
  | .cond _ mod tmp a b => subB (writesC a) (mod ++ tmp) && subB (writesC b) (mod ++ tmp) && okC a && okC b
  | .block _ mod tmp c => subB (writesC c) (mod ++ tmp) && okC c
  | .loop mod tmp c => subB (writesC c) (mod ++ tmp) && okC c
  | .rangeF _ _ _ a b => okC a && okC b
  | _ => true
def CodeOk (P : Program) (N : Nat) (ac : ACode) (c : Code) : Prop := compCode P N c = some (eraseC ac) ∧ okC ac = true ∧ noRange (eraseC ac) = true
def lstOf : LSt → LoopState
  | .ready => .ready
  | .busy => .busy
  | .done => .done
def exitCode : AExit → Code
  | .normal => .skip
  | .exit i => .exit i
  | .ret => .ret
end Go.Am
/- How an abstract state stands for a world: values and blocks by a renaming that is partial. -/
namespace Go.Am
structure Loc where
  blk : Nat
  K : Nat
abbrev Ren := Nat → Option Loc
mutual
inductive VR (μ : Ren) : Value → Value → Prop
  | junk (v : Value) : VR μ junk v
  | bool (b : Bool) : VR μ (.bool b) (.bool b)
  | int (k : IntKind) (n : Int) : VR μ (.int k n) (.int k n)
  | string (s : ByteArray) : VR μ (.string s) (.string s)
  | ptrNil : VR μ (.pointer none) (.pointer none)
  | ptr {b c K o : Nat} (h : μ b = some ⟨c, K⟩) : VR μ (.pointer (some ⟨b, o, none⟩)) (.pointer (some ⟨c, o, none⟩))
  | slNil : VR μ (.slice none 0 0) (.slice none 0 0)
  | sl {b c K o n m m' : Nat} (h : μ b = some ⟨c, K⟩) (hm : (m < capU ∧ m' = m) ∨ (m = capU ∧ n ≤ m' ∧ (o = 0 → m' ≤ K))) : VR μ (.slice (some ⟨b, o, none⟩) n m) (.slice (some ⟨c, o, none⟩) n m')
  | sl0 (a a' : Addr) (m' : Nat) : VR μ (.slice (some a) 0 capU) (.slice (some a') 0 m')
  | sl00 (a a' : Addr) : VR μ (.slice (some a) 0 0) (.slice (some a') 0 0)
  | mapNil : VR μ (.map none) (.map none)
  | map {b c K : Nat} (h : μ b = some ⟨c, K⟩) : VR μ (.map (some b)) (.map (some c))
  | func (f : FuncId) {xs ys xs' ys' : Array Value} (hx : VRL μ xs.toList xs'.toList) (hy : VRL μ ys.toList ys'.toList) : VR μ (.func (.func f) xs ys) (.func (.func f) xs' ys')
  | yield {b c K : Nat} (h : μ b = some ⟨c, K⟩) : VR μ (.func (.yield b) ⟨[]⟩ ⟨[]⟩) (.func (.yield c) ⟨[]⟩ ⟨[]⟩)
  | nilFunc : VR μ .nilFunc .nilFunc
  | nilIface : VR μ .nilIface .nilIface
  | iface (t : TypeId) {v v' : Value} (h : VR μ v v') : VR μ (.iface t v) (.iface t v')
  | agg {xs ys : Array Value} (h : VRL μ xs.toList ys.toList) : VR μ (.agg xs) (.agg ys)
  | tuple {xs ys : Array Value} (h : VRL μ xs.toList ys.toList) : VR μ (.tuple xs) (.tuple ys)
inductive VRL (μ : Ren) : List Value → List Value → Prop
  | nil : VRL μ [] []
  | cons {x y : Value} {xs ys : List Value} (h : VR μ x y) (hs : VRL μ xs ys) : VRL μ (x :: xs) (y :: ys)
end
def RenLe (μ μ' : Ren) : Prop := ∀ b c, μ b = some c → μ' b = some c
theorem RenLe.refl (μ : Ren) : RenLe μ μ := fun _ _ h => h
theorem RenLe.trans {a b c : Ren} (h : RenLe a b) (h' : RenLe b c) : RenLe a c := fun x y e => h' x y (h x y e)
mutual
theorem VR.mono {μ μ' : Ren} (hm : RenLe μ μ') {x y : Value} : VR μ x y → VR μ' x y
  | .junk v => .junk v
  | .bool b => .bool b
  | .int k n => .int k n
  | .string s => .string s
  | .ptrNil => .ptrNil
  | .ptr h => .ptr (hm _ _ h)
  | .slNil => .slNil
  | .sl h h' => .sl (hm _ _ h) h'
  | .sl0 a a' m' => .sl0 a a' m'
  | .sl00 a a' => .sl00 a a'
  | .mapNil => .mapNil
  | .map h => .map (hm _ _ h)
  | .func f h h' => .func f (VRL.mono hm h) (VRL.mono hm h')
  | .yield h => .yield (hm _ _ h)
  | .nilFunc => .nilFunc
  | .nilIface => .nilIface
  | .iface t h => .iface t (VR.mono hm h)
  | .agg h => .agg (VRL.mono hm h)
  | .tuple h => .tuple (VRL.mono hm h)
theorem VRL.mono {μ μ' : Ren} (hm : RenLe μ μ') {xs ys : List Value} : VRL μ xs ys → VRL μ' xs ys
  | .nil => .nil
  | .cons h hs => .cons (VR.mono hm h) (VRL.mono hm hs)
end
mutual
theorem VR.cut {μ μ' : Ren} (hm : RenLe μ μ') {x y0 y : Value} : VR μ x y0 → VR μ' x y → VR μ x y
  | .junk _, _ => .junk _
  | .bool _, h => by cases h; exact .bool _
  | .int _ _, h => by cases h; exact .int _ _
  | .string _, h => by cases h; exact .string _
  | .ptrNil, h => by cases h; exact .ptrNil
  | .ptr h0, h => by
    cases h with
    | ptr h1 =>
      have e := (hm _ _ h0).symm.trans h1
      cases e
      exact .ptr h0
  | .slNil, h => by cases h; exact .slNil
  | .sl h0 _, h => by
    cases h with
    | sl h1 h2 =>
      have e := (hm _ _ h0).symm.trans h1
      cases e
      exact .sl h0 h2
    | sl0 _ _ _ => exact .sl0 _ _ _
    | sl00 _ _ => exact .sl00 _ _
  | .sl0 a _ _, h => by
    cases h with
    | sl h1 h2 => exact .sl0 _ _ _
    | sl0 _ _ _ => exact .sl0 _ _ _
  | .sl00 a _, h => by
    cases h with
    | sl h1 h2 =>
      rcases h2 with ⟨_, rfl⟩ | ⟨e, _⟩
      · exact .sl00 _ _
      · exact absurd e (by decide)
    | sl00 _ _ => exact .sl00 _ _
  | .mapNil, h => by cases h; exact .mapNil
  | .map h0, h => by
    cases h with
    | map h1 =>
      have e := (hm _ _ h0).symm.trans h1
      cases e
      exact .map h0
  | .func _ h0 h0', h => by
    cases h with
    | func _ h1 h1' => exact .func _ (VRL.cut hm h0 h1) (VRL.cut hm h0' h1')
  | .yield h0, h => by
    cases h with
    | yield h1 =>
      have e := (hm _ _ h0).symm.trans h1
      cases e
      exact .yield h0
  | .nilFunc, h => by cases h; exact .nilFunc
  | .nilIface, h => by cases h; exact .nilIface
  | .iface _ h0, h => by
    cases h with
    | iface _ h1 => exact .iface _ (VR.cut hm h0 h1)
  | .agg h0, h => by
    cases h with
    | agg h1 => exact .agg (VRL.cut hm h0 h1)
  | .tuple h0, h => by
    cases h with
    | tuple h1 => exact .tuple (VRL.cut hm h0 h1)
theorem VRL.cut {μ μ' : Ren} (hm : RenLe μ μ') {xs ys0 ys : List Value} : VRL μ xs ys0 → VRL μ' xs ys → VRL μ xs ys
  | .nil, h => by cases h; exact .nil
  | .cons h0 hs0, h => by
    cases h with
    | cons h1 hs1 => exact .cons (VR.cut hm h0 h1) (VRL.cut hm hs0 hs1)
end
theorem VRL.length {μ : Ren} {xs ys : List Value} (h : VRL μ xs ys) : xs.length = ys.length := by
  induction xs generalizing ys with
  | nil => cases h; rfl
  | cons x xs ih =>
    cases h with
    | cons _ hs => simp [ih hs]
theorem VRL.get {μ : Ren} {xs ys : List Value} (h : VRL μ xs ys) {i : Nat} {x : Value} (hx : xs[i]? = some x) : ∃ y, ys[i]? = some y ∧ VR μ x y := by
  induction xs generalizing ys i with
  | nil => simp at hx
  | cons z xs ih =>
    cases h with
    | cons h0 hs =>
      cases i with
      | zero => simp only [List.getElem?_cons_zero, Option.some.injEq] at hx; subst hx; exact ⟨_, rfl, h0⟩
      | succ i => simp only [List.getElem?_cons_succ] at hx ⊢; exact ih hs hx
theorem VRL.of_get {μ : Ren} {xs ys : List Value} (hl : xs.length = ys.length) (h : ∀ (i : Nat) (x y : Value), xs[i]? = some x → ys[i]? = some y → VR μ x y) : VRL μ xs ys := by
  induction xs generalizing ys with
  | nil => cases ys with
    | nil => exact .nil
    | cons _ _ => simp at hl
  | cons x xs ih =>
    cases ys with
    | nil => simp at hl
    | cons y ys => exact .cons (h 0 x y rfl rfl) (ih (by simpa using hl) (fun i a b ha hb => h (i + 1) a b ha hb))
theorem VRL.append {μ : Ren} {xs ys xs' ys' : List Value} (h : VRL μ xs ys) (h' : VRL μ xs' ys') : VRL μ (xs ++ xs') (ys ++ ys') := by
  induction xs generalizing ys with
  | nil => cases h; exact h'
  | cons x xs ih => cases h with | cons h0 hs => exact .cons h0 (ih hs)
theorem VRL.take {μ : Ren} {xs ys : List Value} (h : VRL μ xs ys) (n : Nat) : VRL μ (xs.take n) (ys.take n) := by
  induction xs generalizing ys n with
  | nil => cases h; simpa using VRL.nil
  | cons x xs ih =>
    cases h with
    | cons h0 hs =>
      cases n with
      | zero => exact .nil
      | succ n => exact .cons h0 (ih hs n)
theorem VRL.drop {μ : Ren} {xs ys : List Value} (h : VRL μ xs ys) (n : Nat) : VRL μ (xs.drop n) (ys.drop n) := by
  induction xs generalizing ys n with
  | nil => cases h; simpa using VRL.nil
  | cons x xs ih =>
    cases h with
    | cons h0 hs =>
      cases n with
      | zero => exact .cons h0 hs
      | succ n => exact ih hs n
theorem VRL.splice {μ : Ren} {xs ys xs' ys' : List Value} (h : VRL μ xs ys) (h' : VRL μ xs' ys') (o : Nat) : VRL μ (xs.take o ++ xs' ++ xs.drop (o + xs'.length)) (ys.take o ++ ys' ++ ys.drop (o + ys'.length)) := by
  rw [h'.length]
  exact ((h.take o).append h').append (h.drop _)
theorem VR.of_noRef1 {μ : Ren} {v : Value} (h : noRef1 v = true) : VR μ v v := by
  cases v with
  | bool b => exact .bool b
  | int k n => exact .int k n
  | string s => exact .string s
  | pointer a => cases a with
    | none => exact .ptrNil
    | some a => simp [noRef1] at h
  | slice a n c => cases a with
    | none =>
      cases n with
      | zero => cases c with
        | zero => exact .slNil
        | succ c => simp [noRef1] at h
      | succ n => simp [noRef1] at h
    | some a => simp [noRef1] at h
  | map r => cases r with
    | none => exact .mapNil
    | some a => simp [noRef1] at h
  | nilFunc => exact .nilFunc
  | nilIface => exact .nilIface
  | _ => simp [noRef1] at h
theorem VRL.of_all {μ : Ren} {p : Value → Bool} (hp : ∀ v, p v = true → VR μ v v) : ∀ {l : List Value}, l.all p = true → VRL μ l l
  | [], _ => .nil
  | v :: l, h => by
    simp only [List.all_cons, Bool.and_eq_true] at h
    exact .cons (hp v h.1) (VRL.of_all hp h.2)
theorem VR.of_noRef2 {μ : Ren} {v : Value} (h : noRef2 v = true) : VR μ v v := by
  cases v with
  | agg cs => exact .agg (VRL.of_all (fun v => VR.of_noRef1) h)
  | iface t v => exact .iface t (VR.of_noRef1 h)
  | _ => exact VR.of_noRef1 h
theorem VR.of_noRef {μ : Ren} {v : Value} (h : noRef v = true) : VR μ v v := by
  cases v with
  | tuple cs => exact .tuple (VRL.of_all (fun v => VR.of_noRef2) h)
  | _ => exact VR.of_noRef2 h
theorem VR.undef {μ : Ren} : VR μ undef undef := .tuple .nil
theorem VR.eq_of_noRef1 {μ : Ren} {v y : Value} (h : noRef1 v = true) (hv : VR μ v y) : y = v := by
  cases hv <;> first | rfl | (simp [noRef1, Am.junk] at h)
theorem VRL.eq_of_all {μ : Ren} {p : Value → Bool} (hp : ∀ v y, p v = true → VR μ v y → y = v) : ∀ {l ys : List Value}, l.all p = true → VRL μ l ys → ys = l
  | [], _, _, hv => by cases hv; rfl
  | v :: l, _, h, hv => by
    simp only [List.all_cons, Bool.and_eq_true] at h
    cases hv with
    | cons h0 hs => rw [hp v _ h.1 h0, VRL.eq_of_all hp h.2 hs]
theorem VR.eq_of_noRef2 {μ : Ren} {v y : Value} (h : noRef2 v = true) (hv : VR μ v y) : y = v := by
  cases v with
  | agg cs =>
    cases hv with
    | agg hl =>
      have e := VRL.eq_of_all (p := noRef1) (fun v y h hv => VR.eq_of_noRef1 h hv) h hl
      exact congrArg Value.agg (Array.ext' e)
  | iface t v =>
    cases hv with
    | iface _ h' => rw [VR.eq_of_noRef1 h h']
  | _ => exact VR.eq_of_noRef1 h hv
theorem VR.eq_of_noRef {μ : Ren} {v y : Value} (h : noRef v = true) (hv : VR μ v y) : y = v := by
  cases v with
  | tuple cs =>
    cases hv with
    | tuple hl =>
      have e := VRL.eq_of_all (p := noRef2) (fun v y h hv => VR.eq_of_noRef2 h hv) h hl
      exact congrArg Value.tuple (Array.ext' e)
  | _ => exact VR.eq_of_noRef2 h hv
theorem VR.cells {μ : Ren} {v y : Value} (h : VR μ v y) (hj : v ≠ Am.junk) : VRL μ (cellsL v) y.cells.toList := by
  cases h with
  | junk => exact absurd rfl hj
  | agg h => exact h
  | _ => exact .cons (by constructor <;> assumption) .nil
theorem VR.cells' {μ : Ren} {v y : Value} (h : VR μ v y) : (cellsL v).length ≤ y.cells.size ∧ VRL μ (cellsL v) (y.cells.toList.take (cellsL v).length) := by
  by_cases hj : v = Am.junk
  · subst hj
    exact ⟨Nat.zero_le _, .nil⟩
  · have hc := h.cells hj
    have hl := hc.length
    rw [hl, List.take_length]
    exact ⟨by simp, hc⟩
theorem VR.cells_of {μ : Ren} {v y : Value} (h : VR μ v y) (hn : (cellsL v).length ≠ 0) : VRL μ (cellsL v) y.cells.toList :=
  h.cells (by rintro rfl; exact hn rfl)
def BR (P : Program) (μ : Ren) (K : Nat) (blk : ABlk) (o : Obj) : Prop :=
  match blk with
  | .cells vs elem rw => ∃ c fr, o = .cells c elem fr ∧ vs.length ≤ c.size ∧ VRL μ vs (c.toList.take vs.length) ∧ (rw = true → fr = (0, 0)) ∧ K * P.cellsOf elem ≤ c.size
  | .map es => ∃ l clock, o = .map l clock ∧ VRL μ (es.map (·.1)) (l.toList.map (·.key)) ∧ VRL μ (es.map (·.2)) (l.toList.map (·.val))
  | .loop vals lv ps ab bb st pend => ∃ r : Loop, o = .loop r ∧ r.state = lstOf st ∧ r.pending = pend.map exitCode ∧ r.params.toList = ps ∧ (ps.all fun p => decide (p < r.tmps.size)) = true ∧ ps.Nodup ∧
      CodeOk P r.tmps.size ab r.assign ∧ CodeOk P r.tmps.size bb r.body ∧ ∀ i, VR μ (setMany (fun _ => Am.junk) lv vals i) (r.tmps.getD i undef)
  | .dead => True
theorem BR.mono {P : Program} {μ μ' : Ren} (hm : RenLe μ μ') {K : Nat} {blk : ABlk} {o : Obj} (h : BR P μ K blk o) : BR P μ' K blk o := by
  cases blk with
  | cells vs elem rw => obtain ⟨c, fr, h1, h2, h3, h4, h5⟩ := h; exact ⟨c, fr, h1, h2, h3.mono hm, h4, h5⟩
  | map es => obtain ⟨l, k, h1, h2, h3⟩ := h; exact ⟨l, k, h1, h2.mono hm, h3.mono hm⟩
  | loop => obtain ⟨r, h1, h2, h3, h4, h5, h6, h7, h8, h9⟩ := h; exact ⟨r, h1, h2, h3, h4, h5, h6, h7, h8, fun i => (h9 i).mono hm⟩
  | dead => trivial
theorem BR.cut {P : Program} {μ μ' : Ren} (hm : RenLe μ μ') {K0 K : Nat} {blk : ABlk} {o0 o : Obj} (h0 : BR P μ K0 blk o0) (h : BR P μ' K blk o) : BR P μ K blk o := by
  cases blk with
  | cells vs elem rw =>
    obtain ⟨_, _, _, _, h3, _⟩ := h0
    obtain ⟨c, fr, h1, h2, h3', h4, h5⟩ := h
    exact ⟨c, fr, h1, h2, h3.cut hm h3', h4, h5⟩
  | map es =>
    obtain ⟨_, _, _, h2, h3⟩ := h0
    obtain ⟨l, k, h1, h2', h3'⟩ := h
    exact ⟨l, k, h1, h2.cut hm h2', h3.cut hm h3'⟩
  | loop =>
    obtain ⟨_, _, _, _, _, _, _, _, _, h9⟩ := h0
    obtain ⟨r, h1, h2, h3, h4, h5, h6, h7, h8, h9'⟩ := h
    exact ⟨r, h1, h2, h3, h4, h5, h6, h7, h8, fun i => (h9 i).cut hm (h9' i)⟩
  | dead => trivial
def live (h : AHeap) (b : Nat) : Prop := ∃ blk, h[b]? = some blk ∧ blk ≠ .dead
theorem live.lt {h : AHeap} {b : Nat} (hl : live h b) : b < h.length := by
  obtain ⟨blk, e, _⟩ := hl
  exact (List.getElem?_eq_some_iff.1 e).1
def isRo (h : AHeap) (b : Nat) : Prop := ∃ vs t, h[b]? = some (.cells vs t false)
theorem isRo.live {h : AHeap} {b : Nat} (hr : isRo h b) : live h b := by
  obtain ⟨vs, t, e⟩ := hr
  exact ⟨_, e, by simp⟩
structure Sim (P : Program) (μ : Ren) (h : AHeap) (w : World) : Prop where
  dom : ∀ b l, μ b = some l → b < h.length
  rel : ∀ b l blk, μ b = some l → h[b]? = some blk → blk ≠ .dead → ∃ o, w.heap[l.blk]? = some o ∧ BR P μ l.K blk o
  inj : ∀ b b' l l', μ b = some l → μ b' = some l' → l.blk = l'.blk → live h b → live h b' → b = b'
  lt : ∀ b l, μ b = some l → l.blk < w.heap.size
def Out (w w' : World) : Prop := w'.os = w.os ∧ w'.tape = w.tape ∧ w'.output = w.output
theorem Out.rfl {w : World} : Out w w := ⟨Eq.refl _, Eq.refl _, Eq.refl _⟩
theorem Out.trans {a b c : World} (h : Out a b) (h' : Out b c) : Out a c := ⟨h'.1.trans h.1, h'.2.1.trans h.2.1, h'.2.2.trans h.2.2⟩
structure ExtP (μ : Ren) (h : AHeap) (w : World) (μ' : Ren) (h' : AHeap) (w' : World) : Prop where
  le : h.length ≤ h'.length
  old : ∀ b, b < h.length → μ' b = μ b
  size : w.heap.size ≤ w'.heap.size
  frame : ∀ c, c < w.heap.size → (∀ b l, live h b → μ b = some l → l.blk ≠ c) → w'.heap[c]? = w.heap[c]?
  ro : ∀ b l, μ b = some l → isRo h b → w'.heap[l.blk]? = w.heap[l.blk]?
  roStay : ∀ b, isRo h b → h'[b]? = h[b]?
  new : ∀ b l, h.length ≤ b → μ' b = some l → w.heap.size ≤ l.blk ∨ ∃ b0 l0, live h b0 ∧ ¬ isRo h b0 ∧ μ b0 = some l0 ∧ l0.blk = l.blk ∧ ¬ live h' b0
  dead : ∀ b, b < h.length → ¬ live h b → ¬ live h' b
  out : Out w w'
theorem ExtP.refl (μ : Ren) (h : AHeap) (w : World) (hd : ∀ b l, μ b = some l → b < h.length) : ExtP μ h w μ h w :=
  ⟨Nat.le_refl _, fun _ _ => rfl, Nat.le_refl _, fun _ _ _ => rfl, fun _ _ _ _ => rfl, fun _ _ => rfl, fun b l hb e => absurd (hd b l e) (by omega), fun _ _ h => h, Out.rfl⟩
theorem ExtP.renLe {μ μ' : Ren} {h h' : AHeap} {w w' : World} (x : ExtP μ h w μ' h' w') (hd : ∀ b l, μ b = some l → b < h.length) : RenLe μ μ' :=
  fun b l e => (x.old b (hd b l e)).trans e
theorem ExtP.ro' {μ μ' : Ren} {h h' : AHeap} {w w' : World} (x : ExtP μ h w μ' h' w') {b : Nat} : isRo h b → isRo h' b
  | ⟨vs, t, e1⟩ => ⟨vs, t, (x.roStay b ⟨vs, t, e1⟩).trans e1⟩
theorem ExtP.trans {μ μ' μ'' : Ren} {h h' h'' : AHeap} {w w' w'' : World} (x : ExtP μ h w μ' h' w') (y : ExtP μ' h' w' μ'' h'' w'')
    (hd : ∀ b l, μ b = some l → b < h.length) : ExtP μ h w μ'' h'' w'' where
  le := Nat.le_trans x.le y.le
  old b hb := (y.old b (Nat.lt_of_lt_of_le hb x.le)).trans (x.old b hb)
  size := Nat.le_trans x.size y.size
  frame c hc hn := by
    rw [y.frame c (Nat.lt_of_lt_of_le hc x.size) ?_, x.frame c hc hn]
    intro b l hl e
    by_cases hb : b < h.length
    · rw [x.old b hb] at e
      by_cases hlb : live h b
      · exact hn b l hlb e
      · exact absurd hl (x.dead b hb hlb)
    · rcases x.new b l (by omega) e with h1 | ⟨b0, l0, hl0, _, e0, e1, _⟩
      · omega
      · rw [← e1]; exact hn b0 l0 hl0 e0
  ro b l e hr := by
    rw [y.ro b l ((x.old b (hd b l e)).trans e) (x.ro' hr), x.ro b l e hr]
  roStay b hr := by
    rw [y.roStay b (x.ro' hr), x.roStay b hr]
  new b l hb e := by
    by_cases hb' : b < h'.length
    · rw [y.old b hb'] at e
      rcases x.new b l hb e with h1 | ⟨b0, l0, hl0, hr0, e0, e1, hd0⟩
      · exact .inl h1
      · exact .inr ⟨b0, l0, hl0, hr0, e0, e1, y.dead b0 (Nat.lt_of_lt_of_le hl0.lt x.le) hd0⟩
    · rcases y.new b l (by omega) e with h1 | ⟨b0, l0, hl0, hr0, e0, e1, hd0⟩
      · exact .inl (Nat.le_trans x.size h1)
      · by_cases hb0 : b0 < h.length
        · rw [x.old b0 hb0] at e0
          have hlive : live h b0 := Classical.byContradiction fun hn => x.dead b0 hb0 hn hl0
          exact .inr ⟨b0, l0, hlive, fun hr => hr0 (x.ro' hr), e0, e1, hd0⟩
        · rcases x.new b0 l0 (by omega) e0 with h1 | ⟨b1, l1, hl1, hr1, e2, e3, hd1⟩
          · exact .inl (by omega)
          · exact .inr ⟨b1, l1, hl1, hr1, e2, e3.trans e1, y.dead b1 (Nat.lt_of_lt_of_le hl1.lt x.le) hd1⟩
  dead b hb hn := y.dead b (Nat.lt_of_lt_of_le hb x.le) (x.dead b hb hn)
  out := x.out.trans y.out
structure Ext (μ : Ren) (h : AHeap) (w : World) (μ' : Ren) (h' : AHeap) (w' : World) : Prop extends ExtP μ h w μ' h' w' where
  tot : ∀ b, h.length ≤ b → live h' b → ∃ l, μ' b = some l
theorem Ext.refl (μ : Ren) (h : AHeap) (w : World) (hd : ∀ b l, μ b = some l → b < h.length) : Ext μ h w μ h w :=
  ⟨ExtP.refl μ h w hd, fun b hb hl => absurd hl.lt (by omega)⟩
theorem Ext.renLe {μ μ' : Ren} {h h' : AHeap} {w w' : World} (x : Ext μ h w μ' h' w') (hd : ∀ b l, μ b = some l → b < h.length) : RenLe μ μ' := x.toExtP.renLe hd
theorem Ext.trans {μ μ' μ'' : Ren} {h h' h'' : AHeap} {w w' w'' : World} (x : Ext μ h w μ' h' w') (y : Ext μ' h' w' μ'' h'' w'')
    (hd : ∀ b l, μ b = some l → b < h.length) : Ext μ h w μ'' h'' w'' := by
  refine ⟨x.toExtP.trans y.toExtP hd, fun b hb hl => ?_⟩
  by_cases hb' : b < h'.length
  · have hl' : live h' b := Classical.byContradiction fun hn => y.dead b hb' hn hl
    obtain ⟨l, e⟩ := x.tot b hb hl'
    exact ⟨l, (y.old b hb').trans e⟩
  · exact y.tot b (by omega) hl
theorem cell_of_BR {P : Program} {μ : Ren} {w : World} {vs : List Value} {t : TypeId} {rw : Bool} {c K : Nat} {o : Obj} (hw : w.heap[c]? = some o) (hb : BR P μ K (.cells vs t rw) o) {i : Nat} {x : Value} (hx : vs[i]? = some x) :
    ∃ y, w.cell? ⟨c, i, none⟩ = some y ∧ VR μ x y := by
  obtain ⟨cs, fr, rfl, hl, hv, _⟩ := hb
  obtain ⟨y, hy, hr⟩ := hv.get hx
  have hi : i < vs.length := (List.getElem?_eq_some_iff.1 hx).1
  refine ⟨y, ?_, hr⟩
  rw [List.getElem?_take_of_lt hi] at hy
  simp only [World.cell?, hw, Option.isSome_none, Bool.false_eq_true, if_false]
  simpa using hy
theorem readC_sim {P : Program} {μ : Ren} {h : AHeap} {w : World} (s : Sim P μ h w) {b c K off : Nat} {x : Value} (e : μ b = some ⟨c, K⟩) (hx : readC h b off = some x) :
    ∃ y, w.cell? ⟨c, off, none⟩ = some y ∧ VR μ x y := by
  unfold readC at hx
  split at hx
  · rename_i vs t r hb
    obtain ⟨o, ho, hbr⟩ := s.rel b _ _ e hb (by simp)
    exact cell_of_BR ho hbr hx
  · cases hx
theorem readN_sim {P : Program} {μ : Ren} {h : AHeap} {w : World} (s : Sim P μ h w) {b c K off n : Nat} {xs : List Value} (e : μ b = some ⟨c, K⟩) (hx : readN h b off n = some xs) :
    xs.length = n ∧ ∃ ys, VRL μ xs ys ∧ ∀ j y, ys[j]? = some y → w.cell? ⟨c, off + j, none⟩ = some y := by
  unfold readN at hx
  split at hx
  · rename_i vs t r hb
    obtain ⟨o, ho, hbr⟩ := s.rel b _ _ e hb (by simp)
    split at hx
    · rename_i hle
      cases hx
      refine ⟨by simp; omega, ?_⟩
      obtain ⟨cs, fr, rfl, hl, hv, _⟩ := hbr
      refine ⟨_, (hv.drop off).take n, fun j y hy => ?_⟩
      have hj : j < n := by
        have := (List.getElem?_eq_some_iff.1 hy).1
        simp at this
        omega
      rw [List.getElem?_take_of_lt hj, List.getElem?_drop, List.getElem?_take_of_lt (by omega)] at hy
      simp only [World.cell?, ho, Option.isSome_none, Bool.false_eq_true, if_false]
      simpa using hy
    · cases hx
  · cases hx
end Go.Am
/- Each operation: where the abstract function answers, the model's run of the operation answers likewise. -/
namespace Go.Am
variable {P : Program} {μ : Ren}
theorem binf_sound {op : BinOp} {x y x' y' v : Value} {t : TypeId} {X Y : Operand} {w : World} (hx : VR μ x x') (hy : VR μ y y') (h : binf op x y = some v) :
    (do eqGuard op t X Y x' y'; binOp op t x' y' : Sem Value).run P w = .ok v w ∧ VR μ v v := by
  unfold binf at h
  split at h
  · rename_i k a k' b
    cases hx
    cases hy
    have hg : (eqGuard op t X Y (.int k a) (.int k' b)).run P w = .ok () w := by
      unfold eqGuard
      cases op <;> rfl
    simp only [Sem.run_bind, hg, Result.andThen_ok]
    cases op <;> simp only [] at h <;> first
      | (split at h
         · cases h
         · rename_i hb
           cases h
           refine ⟨?_, .int _ _⟩
           simp [binOp, Op.shift, hb])
      | (split at h
         · rename_i hk
           subst hk
           first
             | (cases h; refine ⟨?_, by constructor⟩; simp [binOp, Op.intArith, Op.intBits, Op.intCmp]; done)
             | (split at h
                · cases h
                · rename_i hb
                  cases h
                  refine ⟨?_, .int _ _⟩
                  simp [binOp, Op.intDiv, hb])
         · cases h)
  · rename_i a b
    cases hx
    cases hy
    have hg : (eqGuard op t X Y (.string a) (.string b)).run P w = .ok () w := by
      unfold eqGuard
      cases op <;> rfl
    simp only [Sem.run_bind, hg, Result.andThen_ok]
    cases op <;> simp only [] at h <;> first
      | (split at h
         · rename_i hle
           cases h
           refine ⟨?_, .string _⟩
           have hmx : (IntKind.i64.max : Int) = 9223372036854775807 := by decide
           simp only [binOp, Op.stringOp]
           rw [if_neg (by rw [hmx]; omega)]
           rfl
         · cases h)
      | (cases h; refine ⟨?_, .bool _⟩; simp [binOp, Op.stringOp]; done)
      | cases h
  · cases h
theorem run_underlying' {t : TypeId} {d : TypeDesc} {w : World} (h : P.underlying t = some d) : (underlying t).run P w = .ok d w := by
  simp [underlying, h]
theorem run_sizeOf' {t : TypeId} {i : TypeInfo} {w : World} (h : P.info? t = some i) : (sizeOf t).run P w = .ok i.size w := by
  simp [sizeOf, typeInfo, h]
theorem run_zeroValue' {t : TypeId} {i : TypeInfo} {z : Value} {w : World} (h : P.info? t = some i) (hz : i.zero = some z) : (zeroValue t).run P w = .ok z w := by
  simp [zeroValue, typeInfo, h, hz]
theorem run_typeInfo' {t : TypeId} {i : TypeInfo} {w : World} (h : P.info? t = some i) : (typeInfo t).run P w = .ok i w := by
  simp [typeInfo, h]
theorem run_isAgg' {t : TypeId} {d : TypeDesc} {w : World} (h : P.underlying t = some d) : (isAgg t).run P w = .ok (isAggD d) w := by
  simp only [isAgg, Sem.run_bind, run_underlying' h, Result.andThen_ok]
  cases d <;> rfl
theorem equalIn_bool (d : Nat) {t : TypeId} {w : World} (ht : P.underlying t = some .bool) (a b : Bool) : (Op.equalIn (d + 1) t (.bool a) (.bool b)).run P w = .ok (a == b) w := by
  simp [Op.equalIn, run_underlying' ht]
theorem eqBoolf_sound {neg : Bool} {op : BinOp} {x y x' y' v : Value} {t : TypeId} {X Y : Operand} {w : World} (hx : VR μ x x') (hy : VR μ y y') (h : eqBoolf neg x y = some v)
    (ht : P.underlying t = some .bool) (ho : op = if neg then .neq else .eql) :
    (do eqGuard op t X Y x' y'; binOp op t x' y' : Sem Value).run P w = .ok v w ∧ VR μ v v := by
  unfold eqBoolf at h
  split at h
  · rename_i a b
    cases hx
    cases hy
    cases h
    refine ⟨?_, .bool _⟩
    subst ho
    have he : (Op.equal t (.bool a) (.bool b)).run P w = .ok (a == b) w := equalIn_bool 9999 ht a b
    cases neg
    · have hg : (eqGuard .eql t X Y (.bool a) (.bool b)).run P w = .ok () w := rfl
      simp [hg, binOp, he]
    · have hg : (eqGuard .neq t X Y (.bool a) (.bool b)).run P w = .ok () w := rfl
      simp [hg, binOp, he]
  · cases h
def kindOk : TypeDesc → Value → Bool
  | .slice _, .slice .. => true
  | .pointer _, .pointer _ => true
  | .map _ _, .map _ => true
  | .func _ _ _, .func .. => true
  | .func _ _ _, .nilFunc => true
  | .interface _, .iface .. => true
  | .interface _, .nilIface => true
  | _, _ => false
theorem equalIn_slice (d : Nat) {t e : TypeId} {w : World} (ht : P.underlying t = some (.slice e)) (a : Option Addr) (n c : Nat) :
    (Op.equalIn (d + 1) t (.slice a n c) (.slice none 0 0)).run P w = .ok a.isNone w ∧ (Op.equalIn (d + 1) t (.slice none 0 0) (.slice a n c)).run P w = .ok a.isNone w := by
  cases a <;> simp [Op.equalIn, run_underlying' ht]
theorem equalIn_map (d : Nat) {t k e : TypeId} {w : World} (ht : P.underlying t = some (.map k e)) (a : Option Nat) :
    (Op.equalIn (d + 1) t (.map a) (.map none)).run P w = .ok a.isNone w ∧ (Op.equalIn (d + 1) t (.map none) (.map a)).run P w = .ok a.isNone w := by
  cases a <;> simp [Op.equalIn, run_underlying' ht]
theorem equalIn_ptr (d : Nat) {t e : TypeId} {w : World} (ht : P.underlying t = some (.pointer e)) (a : Option Addr) :
    (Op.equalIn (d + 1) t (.pointer a) (.pointer none)).run P w = .ok a.isNone w ∧ (Op.equalIn (d + 1) t (.pointer none) (.pointer a)).run P w = .ok a.isNone w := by
  cases a <;> simp [Op.equalIn, run_underlying' ht]
theorem equalIn_func (d : Nat) {t : TypeId} {ps rs : Array TypeId} {b : Bool} {w : World} (ht : P.underlying t = some (.func ps rs b)) (f : Fn) (xs ys : Array Value) :
    (Op.equalIn (d + 1) t (.func f xs ys) .nilFunc).run P w = .ok false w ∧ (Op.equalIn (d + 1) t .nilFunc (.func f xs ys)).run P w = .ok false w ∧ (Op.equalIn (d + 1) t .nilFunc .nilFunc).run P w = .ok true w := by
  simp [Op.equalIn, run_underlying' ht]
theorem equalIn_iface (d : Nat) {t : TypeId} {ms : Array (String × TypeId)} {w : World} (ht : P.underlying t = some (.interface ms)) (u : TypeId) (v : Value) :
    (Op.equalIn (d + 1) t (.iface u v) .nilIface).run P w = .ok false w ∧ (Op.equalIn (d + 1) t .nilIface (.iface u v)).run P w = .ok false w ∧ (Op.equalIn (d + 1) t .nilIface .nilIface).run P w = .ok true w := by
  simp [Op.equalIn, run_underlying' ht]
def isNilB : Value → Bool
  | .slice none _ _ | .pointer none | .nilFunc | .map none | .nilIface => true
  | _ => false
theorem isNilf_eq {neg : Bool} {x v : Value} (h : isNilf neg x = some v) : v = .bool (neg != isNilB x) := by
  unfold isNilf at h
  split at h <;> first | (cases h; rfl) | cases h
theorem isNil_equal {d : TypeDesc} {t : TypeId} {x z : Value} {w : World} (ht : P.underlying t = some d) (hz : nilOf d = some z) (hk : kindOk d x = true) :
    (Op.equal t x z).run P w = .ok (isNilB x) w ∧ (Op.equal t z x).run P w = .ok (isNilB x) w := by
  cases d with
  | slice e =>
    cases hz
    cases x with
    | slice a n c => have := equalIn_slice 9999 (w := w) ht a n c; cases a <;> exact this
    | _ => simp [kindOk] at hk
  | pointer e =>
    cases hz
    cases x with
    | pointer a => have := equalIn_ptr 9999 (w := w) ht a; cases a <;> exact this
    | _ => simp [kindOk] at hk
  | map k e =>
    cases hz
    cases x with
    | map a => have := equalIn_map 9999 (w := w) ht a; cases a <;> exact this
    | _ => simp [kindOk] at hk
  | func ps rs b =>
    cases hz
    cases x with
    | func f xs ys => have := equalIn_func 9999 (w := w) ht f xs ys; exact ⟨this.1, this.2.1⟩
    | nilFunc => have := (equalIn_func 9999 (w := w) ht (.func 0) #[] #[]).2.2; exact ⟨this, this⟩
    | _ => simp [kindOk] at hk
  | interface ms =>
    cases hz
    cases x with
    | iface u v => have := equalIn_iface 9999 (w := w) ht u v; exact ⟨this.1, this.2.1⟩
    | nilIface => have := (equalIn_iface 9999 (w := w) ht 0 .nilIface).2.2; exact ⟨this, this⟩
    | _ => simp [kindOk] at hk
  | _ => cases hz
theorem equalIn_int (d : Nat) {t : TypeId} {k0 : IntKind} {w : World} (ht : P.underlying t = some (.int k0)) (k : IntKind) (a b : Int) : (Op.equalIn (d + 1) t (.int k a) (.int k b)).run P w = .ok (a == b) w := by
  simp [Op.equalIn, run_underlying' ht]
theorem equalIn_str (d : Nat) {t : TypeId} {w : World} (ht : P.underlying t = some .string) (a b : ByteArray) : (Op.equalIn (d + 1) t (.string a) (.string b)).run P w = .ok (a == b) w := by
  simp [Op.equalIn, run_underlying' ht]
theorem eqCells_same {μ : Ren} : ∀ {ks : List BK} {xs ys xs' ys' : List Value} {r : Bool}, eqCells ks xs ys = some r → VRL μ xs xs' → VRL μ ys ys' → xs' = xs ∧ ys' = ys := by
  intro ks
  induction ks with
  | nil =>
    intro xs ys xs' ys' r h hx hy
    cases hx with
    | nil => cases hy with
      | nil => exact ⟨rfl, rfl⟩
      | cons => simp [eqCells] at h
    | cons => simp [eqCells] at h
  | cons k ks ih =>
    intro xs ys xs' ys' r h hx hy
    unfold eqCells at h
    split at h
    · rename_i heq; cases heq
    · rename_i heq
      cases heq
      cases hx with
      | cons h1 h2 =>
      cases hy with
      | cons g1 g2 =>
      cases h1
      cases g1
      split at h
      · rw [Option.map_eq_some_iff] at h
        obtain ⟨r', h, _⟩ := h
        obtain ⟨rfl, rfl⟩ := ih h h2 g2
        exact ⟨rfl, rfl⟩
      · cases h
    · rename_i heq
      cases heq
      cases hx with
      | cons h1 h2 =>
      cases hy with
      | cons g1 g2 =>
      cases h1
      cases g1
      rw [Option.map_eq_some_iff] at h
      obtain ⟨r', h, _⟩ := h
      obtain ⟨rfl, rfl⟩ := ih h h2 g2
      exact ⟨rfl, rfl⟩
    · rename_i heq
      cases heq
      cases hx with
      | cons h1 h2 =>
      cases hy with
      | cons g1 g2 =>
      cases h1
      cases g1
      rw [Option.map_eq_some_iff] at h
      obtain ⟨r', h, _⟩ := h
      obtain ⟨rfl, rfl⟩ := ih h h2 g2
      exact ⟨rfl, rfl⟩
    · cases h
theorem eqCells_app : ∀ {k1 k2 : List BK} {cx cy : List Value} {r : Bool}, eqCells (k1 ++ k2) cx cy = some r → ∃ r1 r2, eqCells k1 (cx.take k1.length) (cy.take k1.length) = some r1 ∧ eqCells k2 (cx.drop k1.length) (cy.drop k1.length) = some r2 ∧ r = (r1 && r2) := by
  intro k1
  induction k1 with
  | nil => intro k2 cx cy r h; exact ⟨true, r, by simp [eqCells], by simpa using h, by simp⟩
  | cons b k1 ih =>
    intro k2 cx cy r h
    rw [List.cons_append] at h
    unfold eqCells at h
    split at h
    · rename_i heq; cases heq
    · rename_i heq
      cases heq
      split at h
      · rename_i hk
        rw [Option.map_eq_some_iff] at h
        obtain ⟨q, hq, rfl⟩ := h
        obtain ⟨r1, r2, h1, h2, rfl⟩ := ih hq
        refine ⟨_, r2, ?_, by simpa using h2, (Bool.and_assoc _ _ _).symm⟩
        simp only [List.length_cons, List.take_succ_cons, eqCells, if_pos hk, h1, Option.map_some]
      · cases h
    · rename_i heq
      cases heq
      rw [Option.map_eq_some_iff] at h
      obtain ⟨q, hq, rfl⟩ := h
      obtain ⟨r1, r2, h1, h2, rfl⟩ := ih hq
      refine ⟨_, r2, ?_, by simpa using h2, (Bool.and_assoc _ _ _).symm⟩
      simp only [List.length_cons, List.take_succ_cons, eqCells, h1, Option.map_some]
    · rename_i heq
      cases heq
      rw [Option.map_eq_some_iff] at h
      obtain ⟨q, hq, rfl⟩ := h
      obtain ⟨r1, r2, h1, h2, rfl⟩ := ih hq
      refine ⟨_, r2, ?_, by simpa using h2, (Bool.and_assoc _ _ _).symm⟩
      simp only [List.length_cons, List.take_succ_cons, eqCells, h1, Option.map_some]
    · cases h
theorem eqCells_len : ∀ {ks : List BK} {cx cy : List Value} {r : Bool}, eqCells ks cx cy = some r → cx.length = ks.length ∧ cy.length = ks.length := by
  intro ks
  induction ks with
  | nil =>
    intro cx cy r h
    unfold eqCells at h
    split at h
    · exact ⟨rfl, rfl⟩
    all_goals first | contradiction | cases h
  | cons b ks ih =>
    intro cx cy r h
    unfold eqCells at h
    split at h
    · rename_i heq; cases heq
    · rename_i heq
      cases heq
      split at h
      · rw [Option.map_eq_some_iff] at h
        obtain ⟨q, hq, _⟩ := h
        obtain ⟨h1, h2⟩ := ih hq
        exact ⟨by simp [h1], by simp [h2]⟩
      · cases h
    · rename_i heq
      cases heq
      rw [Option.map_eq_some_iff] at h
      obtain ⟨q, hq, _⟩ := h
      obtain ⟨h1, h2⟩ := ih hq
      exact ⟨by simp [h1], by simp [h2]⟩
    · rename_i heq
      cases heq
      rw [Option.map_eq_some_iff] at h
      obtain ⟨q, hq, _⟩ := h
      obtain ⟨h1, h2⟩ := ih hq
      exact ⟨by simp [h1], by simp [h2]⟩
    · cases h
def mkV (P : Program) (t : TypeId) (cs : List Value) : Value := match P.underlying t with
  | some d => if isAggD d = true then .agg cs.toArray else cs.headD (.tuple #[])
  | none => .tuple #[]
theorem part_flat {t : TypeId} {l : Bool × Nat} {w : World} (hl : layOf P t = some l) {cs : Array Value} {off : Nat} (hb : off + l.2 ≤ cs.size) (hs : l.1 = true ∨ 0 < l.2) : (part t cs off).run P w = .ok (mkV P t ((cs.toList.drop off).take l.2)) w := by
  unfold layOf at hl
  split at hl
  · rename_i d i hd hi
    split at hl
    · rename_i hpos
      cases hl
      unfold mkV
      simp only [part, Sem.run_bind, run_isAgg' hd, Result.andThen_ok, hd]
      cases ha : isAggD d with
      | true =>
        simp only [if_true, Sem.run_bind, run_sizeOf' hi, Result.andThen_ok, Sem.run_pure]
        congr 2
        apply Array.ext'
        rw [Array.toList_extract]
        simp [List.extract]
      | false =>
        simp only [Bool.false_eq_true, if_false]
        have hlt : off < cs.size := by simp only at hb; omega
        have e1 : cs[off]? = some cs[off] := Array.getElem?_eq_getElem hlt
        have e2 : ((cs.toList.drop off).take i.size).headD (.tuple #[]) = cs[off] := by
          have hx : cs.toList.drop off = cs[off] :: cs.toList.drop (off + 1) := by
            rw [List.drop_eq_getElem_cons (by simpa using hlt)]
            simp
          rw [hx]
          obtain ⟨k, hk⟩ : ∃ k, i.size = k + 1 := ⟨i.size - 1, by omega⟩
          rw [hk]
          rfl
        rw [e1, e2]
        simp
    · cases hl
  · cases hl
def EqFlat (P : Program) (d : Nat) (t : TypeId) (ks : List BK) : Prop := ∀ (w : World) (cx cy : List Value) (r : Bool), eqCells ks cx cy = some r → (Op.equalIn d t (mkV P t cx) (mkV P t cy)).run P w = .ok r w
theorem lay_pos {t : TypeId} {l : Bool × Nat} (hl : layOf P t = some l) : 0 < l.2 := by
  unfold layOf at hl
  split at hl
  · split at hl
    · rename_i hpos; cases hl; exact hpos
    · cases hl
  · cases hl
theorem eqFlat_basic {d : Nat} {t : TypeId} {b : BK} (hb : bkOf (P.underlying t) = some b) : EqFlat P (d + 1) t [b] := by
  intro w cx cy r h
  unfold eqCells at h
  unfold bkOf at hb
  unfold mkV
  split at h
  · rename_i heq; cases heq
  · rename_i heq
    cases heq
    split at h
    · rename_i hk
      rw [Option.map_eq_some_iff] at h
      obtain ⟨q, hq, rfl⟩ := h
      have hl := eqCells_len hq
      unfold eqCells at hq
      split at hq
      · cases hq
        split at hb
        · rename_i hu
          subst hk
          simp only [hu, isAggD, Bool.false_eq_true, if_false, List.headD_cons, Bool.and_true]
          exact equalIn_int d hu _ _ _
        all_goals cases hb
      all_goals first | contradiction | cases hq
    · cases h
  · rename_i heq
    cases heq
    rw [Option.map_eq_some_iff] at h
    obtain ⟨q, hq, rfl⟩ := h
    unfold eqCells at hq
    split at hq
    · cases hq
      split at hb
      · cases hb
      · rename_i hu
        simp only [hu, isAggD, Bool.false_eq_true, if_false, List.headD_cons, Bool.and_true]
        exact equalIn_bool d hu _ _
      all_goals cases hb
    all_goals first | contradiction | cases hq
  · rename_i heq
    cases heq
    rw [Option.map_eq_some_iff] at h
    obtain ⟨q, hq, rfl⟩ := h
    unfold eqCells at hq
    split at hq
    · cases hq
      split at hb
      · cases hb
      · cases hb
      · rename_i hu
        simp only [hu, isAggD, Bool.false_eq_true, if_false, List.headD_cons, Bool.and_true]
        exact equalIn_str d hu _ _
      all_goals cases hb
    all_goals first | contradiction | cases hq
  · cases h
theorem eqFields_flat {d : Nat} {g : TypeId → Option (List BK)} (hg : ∀ t ks, g t = some ks → EqFlat P d t ks) (w : World) {xs ys : Array Value} : ∀ {fs : List Field} {ks : List BK} {i : Nat} {r : Bool}, flatL g P i fs = some ks → eqCells ks (xs.toList.drop i) (ys.toList.drop i) = some r →
    (Op.eqFields d xs ys fs).run P w = .ok r w := by
  intro fs
  induction fs with
  | nil =>
    intro ks i r hf h
    cases hf
    unfold eqCells at h
    split at h
    · cases h; simp [Op.eqFields]
    all_goals first | contradiction | cases h
  | cons f fs ih =>
    intro ks i r hf h
    unfold flatL at hf
    split at hf
    · rename_i k1 l hk hlay
      split at hf
      · rename_i hcond
        obtain ⟨ho, hn, hlen⟩ := hcond
        rw [Option.map_eq_some_iff] at hf
        obtain ⟨k2, hrest, rfl⟩ := hf
        have hn' : f.name ≠ "_" := by simpa using hn
        have hL := eqCells_len h
        obtain ⟨r1, r2, h1, h2, rfl⟩ := eqCells_app h
        have hx0 : i + l.2 ≤ xs.size := by
          have := hL.1
          have hp := lay_pos hlay
          simp only [List.length_drop, List.length_append, Array.length_toList] at this
          omega
        have hy0 : i + l.2 ≤ ys.size := by
          have := hL.2
          have hp := lay_pos hlay
          simp only [List.length_drop, List.length_append, Array.length_toList] at this
          omega
        rw [hlen] at h1 h2
        rw [List.drop_drop, List.drop_drop] at h2
        have hr2 := ih hrest h2
        have hp1 := part_flat (w := w) hlay hx0 (.inr (lay_pos hlay))
        have hp2 := part_flat (w := w) hlay hy0 (.inr (lay_pos hlay))
        rw [← ho] at hp1 hp2
        have hq := hg f.type k1 hk w _ _ _ h1
        rw [← ho] at hq
        rw [Op.eqFields]
        simp only [if_pos hn', Sem.run_bind, hp1, hp2, hq, Result.andThen_ok]
        cases r1
        · simp
        · simpa using hr2
      · cases hf
    · cases hf
theorem eqItems_flat {d : Nat} {e : TypeId} {ks : List BK} {l : Bool × Nat} (hg : EqFlat P d e ks) (hlay : layOf P e = some l) (hlen : ks.length = l.2) (w : World) {xs ys : Array Value} : ∀ (n j : Nat) {r : Bool}, eqCells (repBK ks n) (xs.toList.drop (j * l.2)) (ys.toList.drop (j * l.2)) = some r →
    (Op.eqItems d e l.2 xs ys (List.range' j n)).run P w = .ok r w := by
  intro n
  induction n with
  | zero =>
    intro j r h
    unfold repBK eqCells at h
    split at h
    · cases h; simp [Op.eqItems]
    all_goals first | contradiction | cases h
  | succ n ih =>
    intro j r h
    unfold repBK at h
    have hL := eqCells_len h
    obtain ⟨r1, r2, h1, h2, rfl⟩ := eqCells_app h
    have hp := lay_pos hlay
    have hx0 : j * l.2 + l.2 ≤ xs.size := by
      have := hL.1
      simp only [List.length_drop, List.length_append, Array.length_toList] at this
      omega
    have hy0 : j * l.2 + l.2 ≤ ys.size := by
      have := hL.2
      simp only [List.length_drop, List.length_append, Array.length_toList] at this
      omega
    rw [hlen] at h1 h2
    rw [List.drop_drop, List.drop_drop, ← Nat.succ_mul] at h2
    have hr2 := ih (j + 1) h2
    have hp1 := part_flat (w := w) hlay hx0 (.inr hp)
    have hp2 := part_flat (w := w) hlay hy0 (.inr hp)
    have hq := hg w _ _ _ h1
    rw [List.range'_succ, Op.eqItems]
    simp only [Sem.run_bind, hp1, hp2, hq, Result.andThen_ok]
    cases r1
    · simp
    · simpa using hr2
theorem eqFlat_deep (d : Nat) : ∀ (m : Nat) (t : TypeId) (ks : List BK), flatD P m t = some ks → EqFlat P (d + m) t ks
  | 0, t, ks, h => by cases h
  | m + 1, t, ks, h => by
    unfold flatD at h
    split at h
    · rename_i b hb
      cases h
      exact eqFlat_basic hb
    · split at h
      · rename_i fs hu
        split at h
        · rename_i hst
          intro w cx cy r hc
          have hfo : P.fieldsOf t = fs := by simp [Program.fieldsOf, hu]
          unfold mkV
          simp only [hu, isAggD, if_true]
          rw [show d + (m + 1) = (d + m) + 1 from rfl, run_equalIn_struct (P := P) w (d + m) t _ _ (by rw [hfo]; exact hu) hst, hfo]
          exact eqFields_flat (fun t ks hk => eqFlat_deep d m t ks hk) w h (by simpa using hc)
        · cases h
      · rename_i n e hu
        split at h
        · rename_i k1 l hk hlay
          split at h
          · rename_i hcond
            cases h
            intro w cx cy r hc
            unfold mkV
            simp only [hu, isAggD, if_true]
            obtain ⟨i, hi⟩ : ∃ i, P.info? e = some i := by
              unfold layOf at hlay
              split at hlay
              · rename_i d2 i2 _ hi2; exact ⟨_, hi2⟩
              · cases hlay
            rw [show d + (m + 1) = (d + m) + 1 from rfl, run_equalIn_array w (d + m) _ _ hu hi, hcond.2, List.range_eq_range']
            exact eqItems_flat (eqFlat_deep d m e k1 hk) hlay hcond.1 w n 0 (by simpa using hc)
          · cases h
        · cases h
      · cases h
theorem eqAggf_sound {μ : Ren} {ks : List BK} {neg : Bool} {op : BinOp} {x y x' y' v : Value} {t : TypeId} {X Y : Operand} {w : World} (hx : VR μ x x') (hy : VR μ y y') (h : eqAggf ks neg x y = some v)
    (ht : flatT P t = some ks) (ho : op = if neg then .neq else .eql) :
    (do eqGuard op t X Y x' y'; binOp op t x' y' : Sem Value).run P w = .ok v w ∧ VR μ v v := by
  unfold eqAggf at h
  split at h
  · rename_i xs ys
    cases hx with
    | agg hx =>
    cases hy with
    | agg hy =>
    rename_i xs' ys'
    rw [Option.map_eq_some_iff] at h
    obtain ⟨r, h, rfl⟩ := h
    obtain ⟨e1, e2⟩ := eqCells_same h hx hy
    obtain rfl : xs' = xs := Array.ext' e1
    obtain rfl : ys' = ys := Array.ext' e2
    have key : ∀ d, P.underlying t = some d → isAggD d = true → P.eqGuardType P.depth t = false → flatD P 16 t = some ks → (do eqGuard op t X Y (.agg xs') (.agg ys'); binOp op t (.agg xs') (.agg ys') : Sem Value).run P w = .ok (.bool (neg != r)) w := by
      intro d hu ha hc hf
      have he : (Op.equal t (.agg xs') (.agg ys')).run P w = .ok r w := by
        have hq := eqFlat_deep 9984 16 t ks hf w xs'.toList ys'.toList r h
        unfold mkV at hq
        simp only [hu, ha, if_true] at hq
        exact hq
      subst ho
      cases neg
      · have hg : (eqGuard .eql t X Y (.agg xs') (.agg ys')).run P w = .ok () w := by
          simp [eqGuard, hc]
        simp [hg, binOp, he]
      · have hg : (eqGuard .neq t X Y (.agg xs') (.agg ys')).run P w = .ok () w := by
          simp [eqGuard, hc]
        simp [hg, binOp, he]
    unfold flatT at ht
    split at ht
    · rename_i fs hu
      split at ht
      · rename_i hc
        exact ⟨key _ hu rfl hc ht, .bool _⟩
      · cases ht
    · rename_i n e hu
      split at ht
      · rename_i hc
        exact ⟨key _ hu rfl hc ht, .bool _⟩
      · cases ht
    · cases ht
  · cases h
end Go.Am
/- Memory: loads, stores, new blocks, append, copy. -/
namespace Go.Am
variable {P : Program} {μ : Ren}
theorem addr_add (c o n : Nat) : (⟨c, o, none⟩ : Addr).add n = ⟨c, o + n, none⟩ := by
  unfold Addr.add
  split
  · rename_i h; subst h; rfl
  · rfl
theorem VR.oneCell {x y : Value} (h : VR μ x y) (hx : oneC x = true) : y.oneCell' = true := by
  cases h <;> first | rfl | (simp [oneC, Am.junk] at hx)
theorem VRL.oneCell {xs ys : List Value} (h : VRL μ xs ys) (hx : xs.all oneC = true) : ∀ v ∈ ys, v.oneCell' = true := by
  intro v hv
  obtain ⟨i, hi⟩ := List.getElem?_of_mem hv
  have hl := h.length
  have hlt : i < xs.length := by have := (List.getElem?_eq_some_iff.1 hi).1; omega
  obtain ⟨y, hy, hr⟩ := h.get (List.getElem?_eq_getElem hlt)
  rw [hi] at hy
  cases hy
  exact hr.oneCell (List.all_eq_true.1 hx _ (List.getElem_mem hlt))
theorem live_set {h : AHeap} {b b' : Nat} {blk : ABlk} (hb : live h b) (hn : blk ≠ .dead) : live (h.set b blk) b' ↔ live h b' := by
  have hlt := hb.lt
  unfold live
  by_cases e : b = b'
  · subst e
    rw [List.getElem?_set_self hlt]
    exact ⟨fun _ => hb, fun _ => ⟨blk, rfl, hn⟩⟩
  · rw [List.getElem?_set_ne e]
theorem setRow_heap_self {w : World} {c : Nat} {cs cs' : Array Value} {t : TypeId} {fr : Nat × Nat} (h : w.heap[c]? = some (.cells cs t fr)) :
    (w.setRow c cs').heap[c]? = some (.cells cs' t fr) := by
  have hlt := (Array.getElem?_eq_some_iff.1 h).1
  simp only [World.setRow]
  rw [Array.getElem?_modify, if_pos rfl, h]
  rfl
theorem setRow_heap_ne {w : World} {c d : Nat} {cs' : Array Value} (h : c ≠ d) : (w.setRow c cs').heap[d]? = w.heap[d]? := by
  simp only [World.setRow]
  rw [Array.getElem?_modify, if_neg h]
theorem setRow_size (w : World) (c : Nat) (cs' : Array Value) : (w.setRow c cs').heap.size = w.heap.size := by
  simp [World.setRow]
theorem writeN_sound {h h' : AHeap} {w : World} (s : Sim P μ h w) {b c K off : Nat} {l ys : List Value} (e : μ b = some ⟨c, K⟩) (hv : VRL μ l ys) (hw : writeN h b off l = some h') :
    ∃ w', (storeCells ⟨c, off, none⟩ ys).run P w = .ok () w' ∧ Sim P μ h' w' ∧ Ext μ h w μ h' w' := by
  unfold writeN at hw
  split at hw
  · rename_i vs t hb
    split at hw
    · rename_i hc
      cases hw
      obtain ⟨o, ho, cs, fr, rfl, hl, hvs, hfr, hK⟩ := s.rel b _ _ e hb (by simp)
      replace ho : w.heap[c]? = some (.cells cs t fr) := ho
      have hfr' := hfr rfl
      subst hfr'
      have hlen := hv.length
      have hlive : live h b := ⟨_, hb, by simp⟩
      have hrun := run_storeCells_at (P := P) c off t ys 0 cs w ho (by omega) (hv.oneCell hc.2)
      simp only [Nat.add_zero] at hrun
      have hnew : ∀ b', live (h.set b (.cells (vs.take off ++ l ++ vs.drop (off + l.length)) t true)) b' ↔ live h b' := fun b' => live_set hlive (by simp)
      refine ⟨_, hrun, ⟨fun b' c' e' => by rw [List.length_set]; exact s.dom b' c' e', fun b' c' blk e' hb' hn => ?_, fun b1 b2 l1' l2' e1 e2 e3 l1 l2 => s.inj b1 b2 l1' l2' e1 e2 e3 ((hnew b1).1 l1) ((hnew b2).1 l2), fun b' c' e' => by rw [setRow_size]; exact s.lt b' c' e'⟩, ?_⟩
      · by_cases hbb : b = b'
        · subst hbb
          rw [e] at e'
          cases e'
          rw [List.getElem?_set_self hlive.lt] at hb'
          cases hb'
          have hsz : (cs.toList.take off ++ ys ++ cs.toList.drop (off + ys.length)).toArray.size = cs.size := by simp; omega
          refine ⟨_, setRow_heap_self ho, _, _, rfl, ?_, ?_, fun _ => rfl, by rw [hsz]; exact hK⟩
          · rw [hsz]
            simp
            omega
          · have h1 : (vs.take off ++ l ++ vs.drop (off + l.length)).length = vs.length := by simp; omega
            rw [h1]
            have h2 := hvs.splice hv off
            have h3 : ((cs.toList.take off ++ ys ++ cs.toList.drop (off + ys.length)).toArray.toList.take vs.length) = ((cs.toList.take vs.length).take off ++ ys ++ (cs.toList.take vs.length).drop (off + ys.length)) := by
              have hcs : vs.length ≤ cs.toList.length := by simpa using hl
              apply List.ext_getElem?
              intro i
              by_cases hi : i < vs.length
              · rw [List.getElem?_take_of_lt hi]
                by_cases h4 : i < off
                · rw [List.append_assoc, List.getElem?_append_left (by simp; omega), List.getElem?_take_of_lt h4, List.append_assoc, List.getElem?_append_left (by simp; omega), List.getElem?_take_of_lt h4, List.getElem?_take_of_lt hi]
                · by_cases h5 : i < off + ys.length
                  · rw [List.getElem?_append_left (by simp; omega), List.getElem?_append_right (by simp; omega), List.getElem?_append_left (by simp; omega), List.getElem?_append_right (by simp; omega)]
                    simp only [List.length_take]
                    congr 1
                    omega
                  · rw [List.getElem?_append_right (by simp; omega), List.getElem?_append_right (by simp; omega), List.getElem?_drop, List.getElem?_drop]
                    simp only [List.length_append, List.length_take]
                    rw [List.getElem?_take_of_lt (by omega)]
                    congr 1
                    omega
              · rw [List.getElem?_eq_none (by simp; omega), List.getElem?_eq_none (by simp; omega)]
            rw [h3]
            exact h2
        · rw [List.getElem?_set_ne hbb] at hb'
          have hne : c ≠ c'.blk := fun hcc => hbb (s.inj b b' _ _ e e' hcc hlive ⟨_, hb', hn⟩)
          obtain ⟨o', ho', hbr⟩ := s.rel b' c' blk e' hb' hn
          exact ⟨o', by rw [setRow_heap_ne hne]; exact ho', hbr⟩
      · refine ⟨⟨by rw [List.length_set]; exact Nat.le_refl _, fun _ _ => rfl, by rw [setRow_size]; exact Nat.le_refl _, fun c' _ hn => setRow_heap_ne (fun hcc => hn b _ hlive e hcc), fun b' c' e' hr => setRow_heap_ne (fun hcc => ?_), fun b' hr => ?_, fun b' c' hb' e' => absurd (s.dom b' c' e') (by omega), fun b' _ hn hl' => hn ((hnew b').1 hl'), ⟨rfl, rfl, rfl⟩⟩, fun b' hb' hl' => absurd ((hnew b').1 hl').lt (by omega)⟩
        · have := s.inj b b' _ _ e e' hcc hlive hr.live
          subst this
          obtain ⟨vs', t', e2⟩ := hr
          rw [hb] at e2
          cases e2
        · by_cases hbb : b = b'
          · subst hbb
            obtain ⟨vs', t', e2⟩ := hr
            rw [hb] at e2
            cases e2
          · exact List.getElem?_set_ne hbb
    · cases hw
  · cases hw
def grow (μ : Ren) (b c K : Nat) : Ren := fun x => if x = b then some ⟨c, K⟩ else μ x
theorem grow_le {h : AHeap} {w : World} (s : Sim P μ h w) (c K : Nat) : RenLe μ (grow μ h.length c K) := fun b l e => by
  unfold grow
  rw [if_neg (by have := s.dom b l e; omega)]
  exact e
theorem getElem?_alloc_new (w : World) (o : Obj) : (w.alloc o).heap[w.heap.size]? = some o := by
  show (w.heap.push o)[w.heap.size]? = some o
  simp
theorem getElem?_alloc_old (w : World) (o : Obj) {c : Nat} (h : c < w.heap.size) : (w.alloc o).heap[c]? = w.heap[c]? := by
  show (w.heap.push o)[c]? = w.heap[c]?
  rw [Array.getElem?_push_lt h, ← Array.getElem?_eq_getElem h]
theorem size_alloc' (w : World) (o : Obj) : (w.alloc o).heap.size = w.heap.size + 1 := by
  show (w.heap.push o).size = w.heap.size + 1
  simp
theorem live_append {h : AHeap} {blk : ABlk} {b : Nat} (hb : b < h.length) : live (h ++ [blk]) b ↔ live h b := by
  unfold live
  rw [List.getElem?_append_left hb]
theorem Sim.alloc {h : AHeap} {w w0 : World} (s : Sim P μ h w) (hw : w0.heap = w.heap) (ho : Out w w0) {K : Nat} {blk : ABlk} {o : Obj} (hb : BR P (grow μ h.length w.heap.size K) K blk o) :
    Sim P (grow μ h.length w.heap.size K) (h ++ [blk]) (w0.alloc o) ∧ Ext μ h w (grow μ h.length w.heap.size K) (h ++ [blk]) (w0.alloc o) := by
  have hs : w0.heap.size = w.heap.size := by rw [hw]
  have hcase : ∀ b l, grow μ h.length w.heap.size K b = some l → (b = h.length ∧ l = ⟨w.heap.size, K⟩) ∨ (b < h.length ∧ l.blk < w.heap.size ∧ μ b = some l) := by
    intro b l e
    unfold grow at e
    split at e
    · rename_i hb'; cases e; exact .inl ⟨hb', rfl⟩
    · exact .inr ⟨s.dom b l e, s.lt b l e, e⟩
  constructor
  · refine ⟨fun b l e => ?_, fun b l blk' e hb' hn => ?_, fun b b' l l' e e' el hl hl' => ?_, fun b l e => ?_⟩
    · rcases hcase b l e with ⟨h0, _⟩ | ⟨h1, _, _⟩ <;> simp <;> omega
    · rcases hcase b l e with ⟨rfl, rfl⟩ | ⟨h1, h2, h3⟩
      · rw [List.getElem?_concat_length] at hb'
        cases hb'
        exact ⟨o, by rw [← hs]; exact getElem?_alloc_new w0 o, hb⟩
      · rw [List.getElem?_append_left h1] at hb'
        obtain ⟨o', ho', hbr⟩ := s.rel b l blk' h3 hb' hn
        exact ⟨o', by rw [getElem?_alloc_old w0 o (by omega), hw]; exact ho', hbr.mono (grow_le s _ _)⟩
    · rcases hcase b l e with ⟨rfl, rfl⟩ | ⟨h1, h2, h3⟩ <;> rcases hcase b' l' e' with ⟨rfl, rfl⟩ | ⟨h1', h2', h3'⟩
      · rfl
      · simp only at el; omega
      · simp only at el; omega
      · exact s.inj b b' l l' h3 h3' el ((live_append h1).1 hl) ((live_append h1').1 hl')
    · rw [size_alloc', hs]
      rcases hcase b l e with ⟨_, rfl⟩ | ⟨_, h2, _⟩
      · exact Nat.lt_succ_self _
      · omega
  · refine ⟨⟨by simp, fun b hb' => ?_, by rw [size_alloc', hs]; omega, fun c hc _ => by rw [getElem?_alloc_old w0 o (by omega), hw], fun b l e _ => by rw [getElem?_alloc_old w0 o (by have := s.lt b l e; omega), hw], fun b hr => List.getElem?_append_left hr.live.lt, fun b l hb' e => ?_, fun b hb' hn hl => hn ((live_append hb').1 hl), ho⟩, fun b hb' hl => ⟨⟨w.heap.size, K⟩, by have := hl.lt; simp only [List.length_append, List.length_singleton] at this; unfold grow; rw [if_pos (by omega)]⟩⟩
    · unfold grow; rw [if_neg (by omega)]
    · rcases hcase b l e with ⟨_, rfl⟩ | ⟨h1, _, _⟩
      · exact .inl (Nat.le_refl _)
      · omega
theorem grow_new (b c K : Nat) : grow μ b c K b = some ⟨c, K⟩ := by simp [grow]
theorem loadf_sound {agg : Bool} {n : Nat} {x x' v : Value} {h : AHeap} {w : World} (s : Sim P μ h w) (hx : VR μ x x') (hv : loadf agg n x h = some v)
    {t : TypeId} {d : TypeDesc} {i : TypeInfo} (ht : P.underlying t = some d) (hi : P.info? t = some i) (ha : isAggD d = agg) (hn : i.size = n) :
    ∃ v', (Instr.loadAt t x').run P w = .ok v' w ∧ VR μ v v' := by
  unfold loadf at hv
  split at hv
  · cases hx with
    | @ptr b c K o e =>
      simp only [Instr.loadAt, Instr.sureAddr, Sem.run_bind, Sem.run_pure, Result.andThen_ok, loadVar, run_isAgg' ht, ha]
      cases agg with
      | true =>
        simp only [Option.map_eq_some_iff] at hv
        obtain ⟨l, hl, rfl⟩ := hv
        obtain ⟨hlen, ys, hys, hc⟩ := readN_sim s e hl
        have hyl : ys.length = n := by rw [← hys.length, hlen]
        have := run_loadCells_list (P := P) w ⟨c, o, none⟩ ys (fun j v hj => by rw [addr_add]; exact hc j v hj)
        rw [hyl] at this
        exact ⟨.agg ys.toArray, by simp [run_sizeOf' hi, hn, this], .agg hys⟩
      | false =>
        obtain ⟨y, hy, hr⟩ := readC_sim s e hv
        exact ⟨y, by simp [hy], hr⟩
  · cases hv
theorem storef_sound {n : Nat} {x x' v v' : Value} {h h' : AHeap} {w : World} (s : Sim P μ h w) (hx : VR μ x x') (hv : VR μ v v') (hs : storef n x v h = some h')
    {t : TypeId} {i : TypeInfo} (hi : P.info? t = some i) (hn : i.size = n) (h0 : 0 < n) :
    ∃ w', (Instr.storeAt t x' v').run P w = .ok () w' ∧ Sim P μ h' w' ∧ Ext μ h w μ h' w' := by
  unfold storef at hs
  split at hs
  · rename_i a
    cases hx with
    | ptr e =>
      split at hs
      · rename_i hlen
        have hcs := hv.cells_of (by omega)
        obtain ⟨w', hrun, h1, h2⟩ := writeN_sound (P := P) s e hcs hs
        refine ⟨w', ?_, h1, h2⟩
        have hsz : v'.cells.size = i.size := by
          have := hcs.length
          rw [hlen] at this
          rw [hn, this]
          simp
        simp only [Instr.storeAt, Instr.sureAddr, Sem.run_bind, Sem.run_pure, Result.andThen_ok, storeVar, run_sizeOf' hi, hsz, ne_eq, not_true_eq_false, if_false]
        simpa using hrun
      · cases hs
  · cases hs
end Go.Am
/- Pure operations: what is computed without memory. -/
namespace Go.Am
variable {P : Program} {μ : Ren} {w : World}
theorem isNilf_sound {neg : Bool} {op : BinOp} {x x' v z : Value} {d : TypeDesc} {t : TypeId} {X Y : Operand} (hx : VR μ x x') (h : isNilf neg x = some v)
    (ht : P.underlying t = some d) (hz : nilOf d = some z) (hk : kindOk d x = true) (ho : op = if neg then .neq else .eql) :
    (Y = .const z → (do eqGuard op t X Y x' z; binOp op t x' z : Sem Value).run P w = .ok v w) ∧
    (X = .const z → (do eqGuard op t X Y z x'; binOp op t z x' : Sem Value).run P w = .ok v w) ∧ VR μ v v := by
  have hv := isNilf_eq h
  subst hv
  have hk' : kindOk d x' = true := by cases hx <;> simp_all [kindOk, Am.junk] <;> (cases d <;> simp_all)
  have hn : isNilB x' = isNilB x := by cases hx <;> simp_all [isNilB, Am.junk, isNilf]
  have heq := isNil_equal (P := P) (w := w) ht hz hk'
  rw [hn] at heq
  have hg : ∀ a b : Value, (X = .const z ∨ Y = .const z) → (a = z ∨ b = z) → (eqGuard op t X Y a b).run P w = .ok () w := by
    intro a b hc hab
    have hnagg : ∀ cs, z ≠ .agg cs := by intro cs e; subst e; cases d <;> simp [nilOf] at hz
    unfold eqGuard
    subst ho
    cases neg <;>
    · simp only [Bool.false_eq_true, if_false, if_true]
      cases a <;> cases b <;> first
        | rfl
        | (rcases hc with rfl | rfl <;> first | rfl | (cases X <;> rfl))
        | (rcases hab with e | e <;> exact absurd e.symm (hnagg _))
  refine ⟨fun hY => ?_, fun hX => ?_, .bool _⟩
  · simp only [Sem.run_bind, hg x' z (.inr hY) (.inr rfl), Result.andThen_ok]
    subst ho
    cases d <;> simp only [nilOf, Option.some.injEq, reduceCtorEq] at hz <;> subst hz <;> cases x' <;> simp only [kindOk, Bool.false_eq_true] at hk' <;> cases neg <;>
      simp [binOp, heq.1, Bool.xor_false, Bool.xor_true]
  · simp only [Sem.run_bind, hg z x' (.inl hX) (.inl rfl), Result.andThen_ok]
    subst ho
    cases d <;> simp only [nilOf, Option.some.injEq, reduceCtorEq] at hz <;> subst hz <;> cases x' <;> simp only [kindOk, Bool.false_eq_true] at hk' <;> cases neg <;>
      simp [binOp, heq.2, Bool.xor_false, Bool.xor_true]
theorem unf_sound {op : UnOp} {x x' v : Value} (hx : VR μ x x') (h : unf op x = some v) : (Op.unary op x').run P w = .ok v w ∧ VR μ v v := by
  unfold unf at h
  split at h
  · cases hx; cases h; exact ⟨by simp [Op.unary, Op.intArith], .int _ _⟩
  · cases hx; cases h; exact ⟨by simp [Op.unary], .bool _⟩
  · cases hx; cases h; exact ⟨by simp [Op.unary, Op.intBits], .int _ _⟩
  · cases h
theorem convf_sound {k : IntKind} {x x' v : Value} {s d : TypeId} {ds : TypeDesc} (hx : VR μ x x') (h : convf k x = some v) (hs : P.underlying s = some ds) (hd : P.underlying d = some (.int k)) :
    (convert s d x').run P w = .ok v w ∧ VR μ v v := by
  unfold convf at h
  split at h
  · cases hx
    cases h
    refine ⟨?_, .int _ _⟩
    simp only [convert, Sem.run_bind, run_underlying' hs, run_underlying' hd, Result.andThen_ok]
    cases ds <;> rfl
  · cases h
theorem strIdf_sound {x x' v : Value} {s d : TypeId} (hx : VR μ x x') (h : strIdf x = some v) (hs : P.underlying s = some .string) (hd : P.underlying d = some .string) :
    (convert s d x').run P w = .ok v w ∧ VR μ v v := by
  unfold strIdf at h
  split at h
  · cases hx
    cases h
    refine ⟨?_, .string _⟩
    simp only [convert, Sem.run_bind, run_underlying' hs, run_underlying' hd, Result.andThen_ok]
    rfl
  · cases h
theorem pickf_sound {c c' x x' y y' v : Value} (hc : VR μ c c') (hx : VR μ x x') (hy : VR μ y y') (h : pickf c x y = some v) :
    ∃ b, c' = .bool b ∧ VR μ v (if b then x' else y') := by
  unfold pickf at h
  split at h
  · rename_i b
    cases hc
    cases h
    refine ⟨b, rfl, ?_⟩
    cases b <;> simpa
  · cases h
theorem lenf_sound {str : Bool} {x x' v : Value} {t ty : TypeId} (hx : VR μ x x') (h : lenf str x = some v) (ht : if str = true then P.underlying t = some .string else ∃ e, P.underlying t = some (.slice e)) :
    (Builtin.len_ #[t] ty #[x']).run P w = .ok v w ∧ VR μ v v := by
  unfold lenf at h
  split at h
  · cases hx
    cases h
    exact ⟨by simp [Builtin.len_, run_underlying' ht, goInt], .int _ _⟩
  · obtain ⟨e, ht⟩ := ht
    cases h
    cases hx <;> exact ⟨by simp [Builtin.len_, run_underlying' ht, goInt], .int _ _⟩
  · cases h
theorem extractf_sound {x x' v : Value} {i : Nat} (hx : VR μ x x') (h : extractf x i = some v) : ∃ v', (Instr.extract x' i).run P w = .ok v' w ∧ VR μ v v' := by
  unfold extractf at h
  split at h
  · rename_i vs
    cases hx with
    | @tuple _ ys hl =>
      have h' : vs.toList[i]? = some v := by simpa using h
      obtain ⟨y, hy, hr⟩ := hl.get h'
      refine ⟨y, ?_, hr⟩
      have hy' : ys[i]? = some y := by simpa using hy
      simp [Instr.extract, hy']
  · cases h
theorem partf_sound {agg : Bool} {off size : Nat} {xs : List Value} {ys : Array Value} {v : Value} (hl : VRL μ xs ys.toList) (h : partf agg off size xs = some v)
    {t : TypeId} {d : TypeDesc} {i : TypeInfo} (ht : P.underlying t = some d) (hi : P.info? t = some i) (ha : isAggD d = agg) (hn : i.size = size) :
    ∃ v', (part t ys off).run P w = .ok v' w ∧ VR μ v v' := by
  unfold partf at h
  simp only [part, Sem.run_bind, run_isAgg' ht, ha, Result.andThen_ok]
  cases agg with
  | true =>
    simp only [] at h
    split at h
    · rename_i hle
      cases h
      refine ⟨.agg (ys.extract off (off + size)), by simp [run_sizeOf' hi, hn], .agg ?_⟩
      have h1 := (hl.drop off).take size
      have h2 : (ys.extract off (off + size)).toList = (ys.toList.drop off).take size := by
        rw [Array.toList_extract]
        simp [List.extract]
      rw [h2]
      exact h1
    · cases h
  | false =>
    simp only [] at h
    obtain ⟨y, hy, hr⟩ := hl.get h
    refine ⟨y, ?_, hr⟩
    have hy' : ys[off]? = some y := by simpa using hy
    simp [hy']
theorem fieldf_sound {agg : Bool} {off size f : Nat} {x x' v : Value} (hx : VR μ x x') (h : fieldf agg off size x = some v)
    {t : TypeId} {fs : Array Field} {fd : Field} {d : TypeDesc} {i : TypeInfo} (htt : P.underlying t = some (.struct fs)) (hf : fs[f]? = some fd) (ho : fd.offset = off)
    (ht : P.underlying fd.type = some d) (hi : P.info? fd.type = some i) (ha : isAggD d = agg) (hn : i.size = size) :
    ∃ v', (Instr.field t x' f).run P w = .ok v' w ∧ VR μ v v' := by
  unfold fieldf at h
  split at h
  · cases hx with
    | agg hl =>
      obtain ⟨v', hr, hv⟩ := partf_sound (P := P) (w := w) hl h ht hi ha hn
      refine ⟨v', ?_, hv⟩
      simp [Instr.field, run_underlying' htt, hf, asAgg, ho, hr]
  · cases h
theorem indexArrf_sound {n : Nat} {agg : Bool} {size : Nat} {x x' i i' v : Value} (hx : VR μ x x') (hi : VR μ i i') (h : indexArrf n agg size x i = some v)
    {t e : TypeId} {d : TypeDesc} {inf : TypeInfo} (htt : P.underlying t = some (.array n e)) (ht : P.underlying e = some d) (hin : P.info? e = some inf) (ha : isAggD d = agg) (hn : inf.size = size) :
    ∃ v', (Instr.index t x' i').run P w = .ok v' w ∧ VR μ v v' := by
  unfold indexArrf at h
  split at h
  · rename_i cs k j
    cases hi
    cases hx with
    | agg hl =>
      split at h
      · rename_i hj
        obtain ⟨v', hr, hv⟩ := partf_sound (P := P) (w := w) hl h ht hin ha hn
        refine ⟨v', ?_, hv⟩
        simp only [Instr.index, asIntOf, Sem.run_bind, Sem.run_pure, Result.andThen_ok, run_underlying' htt]
        simp [hj, run_sizeOf' hin, hn, hr]
      · cases h
  · cases h
theorem indexStrf_sound {x x' i i' v : Value} (hx : VR μ x x') (hi : VR μ i i') (h : indexStrf x i = some v) {t : TypeId} (htt : P.underlying t = some .string) :
    (Instr.index t x' i').run P w = .ok v w ∧ VR μ v v := by
  unfold indexStrf at h
  split at h
  · rename_i s k j
    cases hi
    cases hx
    split at h
    · rename_i hj
      simp only [Option.map_eq_some_iff] at h
      obtain ⟨b, hb, rfl⟩ := h
      refine ⟨?_, .int _ _⟩
      have hb' : s[j.toNat]? = some b := by
        rw [← hb]
        obtain ⟨h1, h2⟩ := Array.getElem?_eq_some_iff.1 hb
        have h3 : j.toNat < s.size := h1
        rw [getElem?_pos s j.toNat h3, hb]
        exact congrArg some h2
      simp only [Instr.index, asIntOf, Sem.run_bind, Sem.run_pure, Result.andThen_ok, run_underlying' htt]
      simp [hj, hb']
    · cases h
  · cases h
theorem fieldAddrf_sound {off f : Nat} {x x' v : Value} (hx : VR μ x x') (h : fieldAddrf off x = some v) {t : TypeId} {fs : Array Field} {fd : Field} {i : TypeInfo}
    (htt : P.underlying t = some (.struct fs)) (hf : fs[f]? = some fd) (ho : fd.offset = off) (hi : P.info? fd.type = some i) (hn : i.size ≠ 0) :
    ∃ v', (Instr.fieldAt t x' f).run P w = .ok v' w ∧ VR μ v v' := by
  unfold fieldAddrf at h
  split at h
  · cases hx with
    | @ptr b c K o e =>
      cases h
      refine ⟨.pointer (some ⟨c, o + off, none⟩), ?_, .ptr e⟩
      simp [Instr.fieldAt, run_underlying' htt, hf, Instr.sureAddr, fieldPlace, run_sizeOf' hi, hn, addr_add, ho]
  · cases h
theorem indexAddrf_sound {size : Nat} {x x' i i' v : Value} (hx : VR μ x x') (hi : VR μ i i') (h : indexAddrf size x i = some v) {t e : TypeId} {inf : TypeInfo}
    (htt : P.underlying t = some (.slice e)) (hin : P.info? e = some inf) (hn : inf.size = size) :
    ∃ v', (Instr.indexAt t x' i').run P w = .ok v' w ∧ VR μ v v' := by
  unfold indexAddrf at h
  split at h
  · rename_i a n c k j
    cases hi
    split at h
    · rename_i hj
      cases h
      cases hx with
      | @sl b c' K o _ _ _ e =>
        refine ⟨.pointer (some ⟨c', o + j.toNat * size, none⟩), ?_, .ptr e⟩
        simp only [Instr.indexAt, asIntOf, Sem.run_bind, Sem.run_pure, Result.andThen_ok, run_underlying' htt]
        simp [hj, run_sizeOf' hin, hn, addr_add]
      | sl0 => simp at hj; omega
      | sl00 => simp at hj; omega
    · cases h
  · cases h
theorem indexAddrArrf_sound {n size : Nat} {x x' i i' v : Value} (hx : VR μ x x') (hi : VR μ i i') (h : indexAddrArrf n size x i = some v) {t e : TypeId} {inf : TypeInfo}
    (htt : P.underlying t = some (.array n e)) (hin : P.info? e = some inf) (hn : inf.size = size) :
    ∃ v', (Instr.indexAt t x' i').run P w = .ok v' w ∧ VR μ v v' := by
  unfold indexAddrArrf at h
  split at h
  · rename_i a k j
    cases hi
    split at h
    · rename_i hj
      cases h
      cases hx with
      | @ptr b c' K o e =>
        refine ⟨.pointer (some ⟨c', o + j.toNat * size, none⟩), ?_, .ptr e⟩
        simp only [Instr.indexAt, asIntOf, Sem.run_bind, Sem.run_pure, Result.andThen_ok, run_underlying' htt, Instr.sureAddr]
        simp [hj, run_sizeOf' hin, hn, addr_add]
    · cases h
  · cases h
theorem foldf_sound {f : Value → Value → Option Value} {g : Value → Value → Sem Value} (hfg : ∀ x y x' y' v, VR μ x x' → VR μ y y' → f x y = some v → (g x' y').run P w = .ok v w ∧ VR μ v v) :
    ∀ {xs ys : List Value} {x x' v : Value}, VR μ x x' → VRL μ xs ys → foldf f x xs = some v → ∃ v', (ys.foldlM g x').run P w = .ok v' w ∧ VR μ v v'
  | [], _, x, x', v, hx, hl, h => by
    cases hl
    cases h
    exact ⟨x', rfl, hx⟩
  | y :: xs, _, x, x', v, hx, hl, h => by
    cases hl with
    | @cons _ y' _ ys hy hs =>
      simp only [foldf, Option.bind_eq_some_iff] at h
      obtain ⟨z, hz, h⟩ := h
      obtain ⟨h1, h2⟩ := hfg _ _ _ _ _ hx hy hz
      obtain ⟨v', h3, h4⟩ := foldf_sound hfg h2 hs h
      exact ⟨v', by simp [List.foldlM_cons, h1, h3], h4⟩
theorem max2f_sound {x y x' y' v : Value} (hx : VR μ x x') (hy : VR μ y y') (h : max2f x y = some v) : (Builtin.max2 x' y').run P w = .ok v w ∧ VR μ v v := by
  unfold max2f at h
  split at h
  · cases hx; cases hy
    split at h
    · cases h; exact ⟨rfl, .int _ _⟩
    · cases h
  · cases h
theorem min2f_sound {x y x' y' v : Value} (hx : VR μ x x') (hy : VR μ y y') (h : min2f x y = some v) : (Builtin.min2 x' y').run P w = .ok v w ∧ VR μ v v := by
  unfold min2f at h
  split at h
  · cases hx; cases hy
    split at h
    · cases h; exact ⟨rfl, .int _ _⟩
    · cases h
  · cases h
end Go.Am
/- Slices, literals, append, copy, make. -/
namespace Go.Am
variable {P : Program} {μ : Ren} {w : World}
def OR (μ : Ren) (x x' : Option Value) : Prop := match x, x' with
  | none, none => True
  | some v, some v' => VR μ v v'
  | _, _ => False
theorem boundf_run {d most : Nat} {x x' : Option Value} {m most' : Nat} (hx : OR μ x x') (h : boundf d x most = some m) (hm : most ≤ most') :
    (x = none ∧ x' = none ∧ m = d) ∨ ∃ v v', x = some v ∧ x' = some v' ∧ m ≤ most ∧ ∀ code, (Instr.sliceBound v' most' code).run P w = .ok m w := by
  cases x with
  | none =>
    cases x' with
    | none => cases h; exact .inl ⟨rfl, rfl, rfl⟩
    | some v' => exact hx.elim
  | some v =>
    cases x' with
    | none => exact hx.elim
    | some v' =>
      unfold boundf at h
      split at h
      · rename_i e; cases e
      · rename_i k j e
        cases e
        have hv : VR μ (.int k j) v' := hx
        cases hv
        split at h
        · rename_i hj
          cases h
          refine .inr ⟨_, _, rfl, rfl, by omega, fun code => ?_⟩
          simp only [Instr.sliceBound, asIntOf, Sem.run_bind, Sem.run_pure, Result.andThen_ok]
          rw [if_pos (by omega)]
          rfl
        · cases h
      · cases h
theorem sliceBounds_run {isS : Bool} {n most most' : Nat} {lo lo' hi hi' mx mx' : Option Value} {l h m : Nat} (h1 : OR μ lo lo') (h2 : OR μ hi hi') (h3 : OR μ mx mx')
    (hmx : mx.isSome = true → hi.isSome = true) (hm : most ≤ most')
    (e3 : boundf most mx most = some m) (e2 : boundf n hi m = some h) (e1 : boundf 0 lo h = some l) :
    ∃ m', (Instr.sliceBounds isS n most' lo' hi' mx').run P w = .ok (l, h, m') w ∧ l ≤ h ∧ (n ≤ most → h ≤ m) ∧ m ≤ most ∧ ((mx = none ∧ m = most ∧ m' = most') ∨ (mx ≠ none ∧ m' = m)) := by
  unfold Instr.sliceBounds
  rcases boundf_run (P := P) (w := w) (most' := most') h3 e3 hm with ⟨rfl, rfl, hm'⟩ | ⟨v3, v3', rfl, rfl, hm', r3⟩
  · rcases boundf_run (P := P) (w := w) (most' := most') h2 e2 (by omega) with ⟨rfl, rfl, hh'⟩ | ⟨v2, v2', rfl, rfl, hh', r2⟩
    · rcases boundf_run (P := P) (w := w) (most' := h) h1 e1 (Nat.le_refl _) with ⟨rfl, rfl, hl'⟩ | ⟨v1, v1', rfl, rfl, hl', r1⟩
      · exact ⟨most', by subst hh' hl'; simp, by omega, by omega, by omega, .inl ⟨rfl, hm', rfl⟩⟩
      · exact ⟨most', by subst hh'; simp [r1], by omega, by omega, by omega, .inl ⟨rfl, hm', rfl⟩⟩
    · rcases boundf_run (P := P) (w := w) (most' := h) h1 e1 (Nat.le_refl _) with ⟨rfl, rfl, hl'⟩ | ⟨v1, v1', rfl, rfl, hl', r1⟩
      · exact ⟨most', by subst hl'; simp [r2], by omega, by omega, by omega, .inl ⟨rfl, hm', rfl⟩⟩
      · exact ⟨most', by simp [r1, r2], by omega, by omega, by omega, .inl ⟨rfl, hm', rfl⟩⟩
  · rcases boundf_run (P := P) (w := w) (most' := m) h2 e2 (Nat.le_refl _) with ⟨rfl, rfl, hh'⟩ | ⟨v2, v2', rfl, rfl, hh', r2⟩
    · simp at hmx
    · rcases boundf_run (P := P) (w := w) (most' := h) h1 e1 (Nat.le_refl _) with ⟨rfl, rfl, hl'⟩ | ⟨v1, v1', rfl, rfl, hl', r1⟩
      · exact ⟨m, by subst hl'; simp [r2, r3], by omega, by omega, by omega, .inr ⟨by simp, rfl⟩⟩
      · exact ⟨m, by simp [r1, r2, r3], by omega, by omega, by omega, .inr ⟨by simp, rfl⟩⟩
theorem slicef_sound {size : Nat} {x x' v : Value} {lo lo' hi hi' mx mx' : Option Value} (hx : VR μ x x') (h1 : OR μ lo lo') (h2 : OR μ hi hi') (h3 : OR μ mx mx')
    (hmx : mx.isSome = true → hi.isSome = true) (h : slicef size x lo hi mx = some v) {t e : TypeId} {i : TypeInfo} (ht : P.underlying t = some (.slice e)) (hin : P.info? e = some i) (hn : i.size = size) (hpos : 0 < size) :
    ∃ v', (Instr.sliceAt t x' lo' hi' mx').run P w = .ok v' w ∧ VR μ v v' := by
  have key : ∀ a' n c' l h m', (Instr.sliceBounds true n c' lo' hi' mx').run P w = .ok (l, h, m') w →
      (Instr.sliceAt t (.slice a' n c') lo' hi' mx').run P w = .ok (.slice (if m' = l then a' else a'.map (·.add (l * size))) (h - l) (m' - l)) w := by
    intro a' n c' l h m' hr
    simp only [Instr.sliceAt, Sem.run_bind, run_underlying' ht, Result.andThen_ok, Instr.slice, hr, run_sizeOf' hin, hn, Sem.run_pure]
  unfold slicef at h
  split at h
  · rename_i a n c
    simp only [Option.bind_eq_some_iff] at h
    obtain ⟨m, e3, hh, e2, l, e1, h⟩ := h
    cases hx with
    | slNil =>
      have hc : (0 : Nat) ≠ capU := by decide
      rw [if_neg hc] at e3
      rw [if_neg hc] at h
      cases h
      obtain ⟨m', hr, hlh, hhm, hmm, hcase⟩ := sliceBounds_run (P := P) (w := w) (isS := true) (most' := 0) h1 h2 h3 hmx (Nat.le_refl _) e3 e2 e1
      refine ⟨_, key _ _ _ _ _ _ hr, ?_⟩
      have hm0 : m = 0 := by omega
      have hm0' : m' = 0 := by rcases hcase with ⟨_, _, h5⟩ | ⟨_, h5⟩ <;> omega
      have hh0 : hh = 0 := by have := hhm (Nat.le_refl _); omega
      subst hm0 hm0' hh0
      have : (if (0 : Nat) = l then (none : Option Addr) else none.map fun a : Addr => ⟨a.block, a.off + l * size, none⟩) = none := by split <;> rfl
      have h7 : (if (0 : Nat) = l then (none : Option Addr) else none.map fun a : Addr => a.add (l * size)) = none := by split <;> rfl
      simp only [Option.map_none] at this h7 ⊢
      rw [this, Nat.zero_sub]
      exact .slNil
    | @sl b c0 K o _ _ c1 e hcap =>
      rcases hcap with ⟨hc, rfl⟩ | ⟨hc, hle, hK⟩
      · have hc' : c1 ≠ capU := by omega
        rw [if_neg hc'] at e3
        rw [if_neg hc'] at h
        cases h
        obtain ⟨m', hr, hlh, hhm, hmm, hcase⟩ := sliceBounds_run (P := P) (w := w) (isS := true) (most' := c1) h1 h2 h3 hmx (Nat.le_refl _) e3 e2 e1
        have hm' : m' = m := by rcases hcase with ⟨_, h4, h5⟩ | ⟨_, h5⟩ <;> omega
        subst hm'
        refine ⟨_, key _ _ _ _ _ _ hr, ?_⟩
        have hcl : m' - l < capU := by omega
        split
        · exact .sl e (.inl ⟨hcl, rfl⟩)
        · simp only [Option.map_some, addr_add]
          exact .sl e (.inl ⟨hcl, rfl⟩)
      · subst hc
        rw [if_pos rfl] at e3
        obtain ⟨m', hr, hlh, hhm, hmm, hcase⟩ := sliceBounds_run (P := P) (w := w) (isS := true) (most' := c1) h1 h2 h3 hmx hle e3 e2 e1
        refine ⟨_, key _ _ _ _ _ _ hr, ?_⟩
        have hhm' := hhm (Nat.le_refl _)
        rw [if_pos rfl] at h
        rcases hcase with ⟨rfl, h4, h5⟩ | ⟨h4, rfl⟩
        · cases h
          simp only [Option.map_some, addr_add]
          by_cases hml : m' = l
          · rw [if_pos hml]
            have : hh - l = 0 := by omega
            rw [this]
            exact .sl0 _ _ _
          · rw [if_neg hml]
            exact .sl e (.inr ⟨rfl, by omega, fun ho => by
              have hl0 : l * size = 0 := by omega
              have hl0' : l = 0 := by rcases Nat.mul_eq_zero.1 hl0 with h8 | h8 <;> omega
              have := hK (by omega)
              omega⟩)
        · cases mx with
          | none => exact absurd rfl h4
          | some mv =>
            simp only [] at h
            split at h
            · rename_i hlt
              cases h
              simp only [Option.map_some, addr_add]
              by_cases hml : m' = l
              · rw [if_pos hml, if_pos hml]
                exact .sl e (.inl ⟨by omega, rfl⟩)
              · rw [if_neg hml, if_neg hml]
                exact .sl e (.inl ⟨by omega, rfl⟩)
            · cases h
    | sl0 a1 a2 c1 =>
      rw [if_pos rfl] at e3
      obtain ⟨m', hr, hlh, hhm, hmm, hcase⟩ := sliceBounds_run (P := P) (w := w) (isS := true) (most' := c1) h1 h2 h3 hmx (Nat.zero_le _) e3 e2 e1
      refine ⟨_, key _ _ _ _ _ _ hr, ?_⟩
      have hhm' := hhm (Nat.le_refl _)
      have hm0 : m = 0 := by omega
      have hh0 : hh = 0 := by omega
      have hl0 : l = 0 := by omega
      subst hm0 hh0 hl0
      rw [if_pos rfl] at h
      have hsome : (if m' = 0 then some a2 else (some a2).map fun a => a.add (0 * size)) = some a2 := by
        split
        · rfl
        · rw [Nat.zero_mul]; rfl
      rw [hsome, Nat.sub_self]
      rcases hcase with ⟨rfl, h4, h5⟩ | ⟨h4, h5⟩
      · cases h
        exact .sl0 _ _ _
      · cases mx with
        | none => exact absurd rfl h4
        | some mv =>
          simp only [] at h
          split at h
          · cases h
            subst h5
            exact .sl00 _ _
          · cases h
    | sl00 a1 a2 =>
      have hc : (0 : Nat) ≠ capU := by decide
      rw [if_neg hc] at e3 h
      cases h
      obtain ⟨m', hr, hlh, hhm, hmm, hcase⟩ := sliceBounds_run (P := P) (w := w) (isS := true) (most' := 0) h1 h2 h3 hmx (Nat.le_refl _) e3 e2 e1
      refine ⟨_, key _ _ _ _ _ _ hr, ?_⟩
      have hm0 : m = 0 := by omega
      have hm0' : m' = 0 := by rcases hcase with ⟨_, _, h5⟩ | ⟨_, h5⟩ <;> omega
      have hh0 : hh = 0 := by have := hhm (Nat.le_refl _); omega
      have hl0 : l = 0 := by omega
      subst hm0 hm0' hh0 hl0
      exact .sl00 _ _
  · cases h
theorem sliceStrf_sound {x x' v : Value} {lo lo' hi hi' : Option Value} (hx : VR μ x x') (h1 : OR μ lo lo') (h2 : OR μ hi hi') (h : sliceStrf x lo hi = some v)
    {t : TypeId} (ht : P.underlying t = some .string) : (Instr.sliceAt t x' lo' hi' none).run P w = .ok v w ∧ VR μ v v := by
  unfold sliceStrf at h
  split at h
  · rename_i s
    cases hx
    simp only [Option.bind_eq_some_iff] at h
    obtain ⟨hh, e2, l, e1, h⟩ := h
    cases h
    obtain ⟨m', hr, _⟩ := sliceBounds_run (P := P) (w := w) (isS := false) (n := s.size) (most' := s.size) (mx := none) (mx' := none) h1 h2 trivial (by simp) (Nat.le_refl s.size) rfl e2 e1
    refine ⟨?_, .string _⟩
    simp [Instr.sliceAt, run_underlying' ht, Instr.slice, hr]
  · cases h
theorem sliceArrf_sound {n size : Nat} {x x' v : Value} {lo lo' hi hi' mx mx' : Option Value} (hx : VR μ x x') (h1 : OR μ lo lo') (h2 : OR μ hi hi') (h3 : OR μ mx mx')
    (hmx : mx.isSome = true → hi.isSome = true) (h : sliceArrf n size x lo hi mx = some v) {t e : TypeId} {i : TypeInfo} (ht : P.underlying t = some (.array n e)) (hin : P.info? e = some i) (hn : i.size = size) (hnU : n < capU) :
    ∃ v', (Instr.sliceAt t x' lo' hi' mx').run P w = .ok v' w ∧ VR μ v v' := by
  unfold sliceArrf at h
  split at h
  · cases hx with
    | @ptr b c K o e =>
      simp only [Option.bind_eq_some_iff] at h
      obtain ⟨m, e3, hh, e2, l, e1, h⟩ := h
      cases h
      obtain ⟨m', hr, hlh, hhm, hmm, hcase⟩ := sliceBounds_run (P := P) (w := w) (isS := false) (most' := n) h1 h2 h3 hmx (Nat.le_refl _) e3 e2 e1
      have hm' : m' = m := by rcases hcase with ⟨_, h4, h5⟩ | ⟨_, h5⟩ <;> omega
      subst hm'
      refine ⟨.slice (some (if m' = l then ⟨c, o, none⟩ else (⟨c, o, none⟩ : Addr).add (l * size))) (hh - l) (m' - l), ?_, ?_⟩
      · simp only [Instr.sliceAt, Sem.run_bind, run_underlying' ht, Result.andThen_ok, Instr.sureAddr, Sem.run_pure, hr, run_sizeOf' hin, hn]
      · rw [addr_add]
        split
        · exact .sl e (.inl ⟨by omega, rfl⟩)
        · exact .sl e (.inl ⟨by omega, rfl⟩)
  · cases h
end Go.Am


set_option linter.unusedSimpArgs false
set_option linter.unusedVariables false
/- Literals, make, append, copy, bytes to a string. -/
namespace Go.Am
variable {P : Program} {μ : Ren} {w : World}
theorem fold_set : ∀ (l : List Value) (k off : Nat) (cs : Array Value), off + k + l.length ≤ cs.size →
    (l.zipIdx k).foldl (fun cs (p : Value × Nat) => cs.setIfInBounds (off + p.2) p.1) cs = (cs.toList.take (off + k) ++ l ++ cs.toList.drop (off + k + l.length)).toArray
  | [], k, off, cs, _ => by simp
  | x :: l, k, off, cs, h => by
    simp only [List.length_cons] at h
    simp only [List.zipIdx_cons, List.foldl_cons]
    rw [fold_set l (k + 1) off _ (by simp; omega)]
    apply Array.ext'
    simp only [Array.toList_setIfInBounds, List.length_cons]
    have hlt : off + k < cs.toList.length := by simp; omega
    apply List.ext_getElem?
    intro i
    by_cases h1 : i < off + k
    · rw [List.append_assoc, List.getElem?_append_left (by simp; omega), List.getElem?_take_of_lt (by omega), List.getElem?_set_ne (by omega), List.append_assoc, List.getElem?_append_left (by simp; omega), List.getElem?_take_of_lt h1]
    · by_cases h2 : i = off + k
      · subst h2
        rw [List.append_assoc, List.getElem?_append_left (by simp; omega), List.getElem?_take_of_lt (by omega), List.getElem?_set_self hlt, List.append_assoc, List.getElem?_append_right (by simp; omega)]
        simp only [List.length_take]
        rw [show off + k - min (off + k) cs.toList.length = 0 from by omega]
        rfl
      · by_cases h3 : i < off + k + 1 + l.length
        · rw [List.getElem?_append_left (by simp; omega), List.getElem?_append_right (by simp; omega), List.getElem?_append_left (by simp; omega), List.getElem?_append_right (by simp; omega)]
          simp only [List.length_take, List.length_set]
          rw [show i - min (off + k) cs.toList.length = (i - min (off + (k + 1)) cs.toList.length) + 1 from by omega, List.getElem?_cons_succ]
        · rw [List.getElem?_append_right (by simp; omega), List.getElem?_append_right (by simp; omega), List.getElem?_drop, List.getElem?_drop, List.getElem?_set_ne (by simp; omega)]
          congr 1
          simp only [List.length_append, List.length_take, List.length_set, List.length_cons]
          omega
def PartsR (μ : Ren) (place : Nat → Option (Nat × Nat)) : List (Nat × Nat × Value) → List (Nat × Value) → Prop
  | [], [] => True
  | (off, size, v) :: ps, (i, v') :: qs => place i = some (off, size) ∧ 0 < size ∧ VR μ v v' ∧ PartsR μ place ps qs
  | _, _ => False
theorem fillf_sound {place : Nat → Option (Nat × Nat)} : ∀ {ps : List (Nat × Nat × Value)} {qs : List (Nat × Value)} {cells l : List Value} {cs : Array Value},
    PartsR μ place ps qs → VRL μ cells cs.toList → fillf cells ps = some l → ∃ cs', Instr.fill place cs qs = some cs' ∧ VRL μ l cs'.toList
  | [], [], cells, l, cs, _, hc, h => by cases h; exact ⟨cs, rfl, hc⟩
  | [], _ :: _, _, _, _, hp, _, _ => hp.elim
  | _ :: _, [], _, _, _, hp, _, _ => hp.elim
  | (off, size, v) :: ps, (i, v') :: qs, cells, l, cs, hp, hc, h => by
    obtain ⟨h1, h2, h3, h4⟩ := hp
    simp only [fillf] at h
    split at h
    · rename_i hh
      have hcs := h3.cells_of (by omega)
      have hl := hcs.length
      have hcl : cells.length = cs.size := by have := hc.length; simpa using this
      have hsz : v'.cells.size = size := by rw [← hh.1, hl]; simp
      have hfold : v'.cells.zipIdx.foldl (fun cs (p : Value × Nat) => cs.setIfInBounds (off + p.2) p.1) cs = (cs.toList.take off ++ v'.cells.toList ++ cs.toList.drop (off + size)).toArray := by
        rw [← Array.foldl_toList, Array.toList_zipIdx, fold_set _ 0 off cs (by simp; omega)]
        simp [hsz]
      have hnew : VRL μ (cells.take off ++ cellsL v ++ cells.drop (off + size)) (cs.toList.take off ++ v'.cells.toList ++ cs.toList.drop (off + size)) :=
        ((hc.take off).append hcs).append (hc.drop _)
      obtain ⟨cs', hf, hr⟩ := fillf_sound (cs := (cs.toList.take off ++ v'.cells.toList ++ cs.toList.drop (off + size)).toArray) h4 hnew h
      refine ⟨cs', ?_, hr⟩
      simp only [Instr.fill, h1]
      rw [if_neg (by simp [hsz]; omega)]
      exact (congrArg (fun z => Instr.fill place z qs) hfold).trans hf
    · cases h
theorem rep_length (zero : List Value) (n : Nat) : (rep zero n).length = n * zero.length := by
  induction n with
  | zero => simp [rep]
  | succ n ih => simp [rep, ih, Nat.succ_mul, Nat.add_comm]
theorem rep_eq (zero : Array Value) (n : Nat) : ((Array.range (n * zero.size)).map (zero[· % zero.size]!)).toList = rep zero.toList n := by
  simp only [Array.toList_map, Array.toList_range]
  induction n with
  | zero => simp [rep]
  | succ n ih =>
    have hr : List.range ((n + 1) * zero.size) = List.range zero.size ++ (List.range (n * zero.size)).map (zero.size + ·) := by
      rw [show (n + 1) * zero.size = zero.size + n * zero.size from by rw [Nat.succ_mul, Nat.add_comm], List.range_add]
    rw [hr, List.map_append, List.map_map, rep]
    congr 1
    · apply List.ext_getElem
      · simp
      · intro i h1 h2
        have h3 : i < zero.size := by simpa using h1
        simp [Nat.mod_eq_of_lt h3, h3]
    · rw [← ih]
      apply List.map_congr_left
      intro i _
      simp only [Function.comp]
      rw [Nat.add_mod_left]
theorem VRL.of_noRef1 {l : List Value} (h : l.all noRef1 = true) : VRL μ l l := VRL.of_all (fun _ => VR.of_noRef1) h
theorem VRL.rep {zero : List Value} (h : VRL μ zero zero) (n : Nat) : VRL μ (rep zero n) (rep zero n) := by
  induction n with
  | zero => exact .nil
  | succ n ih => exact h.append ih
theorem mkSlicef_sound {elem : TypeId} {zero : List Value} {n n' c c' : Value} {h : AHeap} {v : Value} {h1 : AHeap} (s : Sim P μ h w) (hn : VR μ n n') (hc : VR μ c c')
    (hm : mkSlicef elem zero n c h = some (v, h1)) {t : TypeId} {i : TypeInfo} {z : Value} (ht : P.underlying t = some (.slice elem)) (hi : P.info? elem = some i) (hz : i.zero = some z)
    (hzc : z.cells.toList = zero) (hzs : z.cells.size = i.size) (hb : i.bytes ≤ 16384) (href : zero.all noRef1 = true) :
    ∃ v' w1 μ1, (Instr.makeSlice t n' c').run P w = .ok v' w1 ∧ VR μ1 v v' ∧ Sim P μ1 h1 w1 ∧ Ext μ h w μ1 h1 w1 := by
  unfold mkSlicef at hm
  split at hm
  · rename_i a b
    cases hn
    cases hc
    split at hm
    · rename_i hab
      cases hm
      simp only [mostLen] at hab
      have hcell : P.cellsOf elem = i.size := by simp [Program.cellsOf, hi]
      have hrep : ((Array.range (b.toNat * i.size)).map (z.cells[· % z.cells.size]!)).toList = rep zero b.toNat := by
        rw [← hzs, ← hzc]
        exact rep_eq _ _
      have hlen : ((Array.range (b.toNat * i.size)).map (z.cells[· % z.cells.size]!)).size = b.toNat * i.size := by simp
      have hbr : BR P (grow μ h.length w.heap.size 0) 0 (.cells (rep zero b.toNat) elem true) (.cells ((Array.range (b.toNat * i.size)).map (z.cells[· % z.cells.size]!)) elem (0, 0)) := by
        refine ⟨_, _, rfl, ?_, ?_, fun _ => rfl, by omega⟩
        · rw [hlen, rep_length, ← hzc]
          simp [hzs]
        · rw [hrep, List.take_length]
          exact (VRL.of_noRef1 href).rep _
      obtain ⟨h2, h3⟩ := s.alloc (w0 := w) rfl Out.rfl hbr
      have hwa : IntKind.i64.wrap a = a := by rw [IntKind.wrap_i64]; omega
      have hwb : IntKind.i64.wrap b = b := by rw [IntKind.wrap_i64]; omega
      refine ⟨.slice (some ⟨w.heap.size, 0, none⟩) a.toNat b.toNat, _, _, ?_, .sl (grow_new _ _ _) (.inl ⟨by unfold capU; omega, rfl⟩), h2, h3⟩
      have hbig : ¬ ((i.bytes : Int) * b > 2 ^ 48) := by
        have : (i.bytes : Int) * b ≤ 16384 * 4294967296 := by
          apply Int.mul_le_mul <;> omega
        omega
      simp only [Instr.makeSlice, Sem.run_bind, run_underlying' ht, asInt, asIntOf, Sem.run_pure, Result.andThen_ok, run_typeInfo' hi, hwa, hwb]
      have hcond : ((decide (b < 0) || decide ((i.bytes : Int) * b > 2 ^ 48)) || decide (a < 0) || decide (a > b)) = false := by
        simp only [Bool.or_eq_false_iff, decide_eq_false_iff_not]
        exact ⟨⟨⟨by omega, hbig⟩, by omega⟩, by omega⟩
      rw [hcond]
      simp only [Bool.false_eq_true, if_false, Sem.run_bind, run_askRoom, Result.andThen_ok, run_sizeOf' hi]
      by_cases h0 : b.toNat * i.size = 0
      · rw [if_pos h0]
        simp only [Sem.run_bind, Sem.run_pure, Result.andThen_ok, newRow, run_newObj]
        have hsame : (Array.range (b.toNat * i.size)).map (fun x => (#[] : Array Value)[x % (#[] : Array Value).size]!) = (Array.range (b.toNat * i.size)).map (z.cells[· % z.cells.size]!) := by
          rw [h0]; apply Array.ext'; simp
        rw [hsame]
        rfl
      · rw [if_neg h0]
        simp only [Sem.run_bind, run_zeroValue' hi hz, Sem.run_pure, Result.andThen_ok, newRow, run_newObj]
        rfl
    · cases hm
  · cases hm
theorem cell_of_heap {w0 w : World} (e : w0.heap = w.heap) (a : Addr) : w0.cell? a = w.cell? a := by simp only [World.cell?, e]
theorem firstf_sound {size n : Nat} {x x' : Value} {h : AHeap} {l : List Value} (s : Sim P μ h w) (hx : VR μ x x') (hf : firstf size n x h = some l) :
    ∃ ys : Array Value, (∀ w0 : World, w0.heap = w.heap → (Builtin.firstCells size n x').run P w0 = .ok ys w0) ∧ VRL μ l ys.toList ∧ l.length = n * size := by
  unfold firstf at hf
  split at hf
  · rename_i a m c
    split at hf
    · rename_i hn0
      cases hf
      subst hn0
      cases hx with
      | sl => exact ⟨#[], fun w0 _ => by simp [Builtin.firstCells, loadCells, loadCellsFrom], .nil, by simp⟩
      | sl0 => exact ⟨#[], fun w0 _ => by simp [Builtin.firstCells, loadCells, loadCellsFrom], .nil, by simp⟩
      | sl00 => exact ⟨#[], fun w0 _ => by simp [Builtin.firstCells, loadCells, loadCellsFrom], .nil, by simp⟩
    rename_i hn00
    split at hf
    · rename_i hnm
      have hlen : l.length = n * size := by
        unfold readN at hf
        split at hf
        · split at hf
          · cases hf; simp; omega
          · cases hf
        · cases hf
      cases hx with
      | @sl b c0 K o _ _ m' e _ =>
        obtain ⟨_, ys, hys, hc⟩ := readN_sim s e hf
        have hyl : ys.length = n * size := by rw [← hys.length, hlen]
        refine ⟨ys.toArray, fun w0 e0 => ?_, hys, hlen⟩
        have := run_loadCells_list (P := P) w0 ⟨c0, o, none⟩ ys (fun j v hj => by rw [addr_add, cell_of_heap e0]; exact hc j v hj)
        rw [hyl] at this
        simp [Builtin.firstCells, this]
      | sl0 a a' m' =>
        have hn0 : n = 0 := by omega
        subst hn0
        have hl : l = [] := by rw [Nat.zero_mul] at hlen; exact List.eq_nil_of_length_eq_zero hlen
        subst hl
        exact ⟨#[], fun w0 _ => by simp [Builtin.firstCells, loadCells, loadCellsFrom], .nil, hlen⟩
      | sl00 a a' =>
        have hn0 : n = 0 := by omega
        subst hn0
        have hl : l = [] := by rw [Nat.zero_mul] at hlen; exact List.eq_nil_of_length_eq_zero hlen
        subst hl
        exact ⟨#[], fun w0 _ => by simp [Builtin.firstCells, loadCells, loadCellsFrom], .nil, hlen⟩
    · cases hf
  · cases hx with
    | slNil =>
      split at hf
      · rename_i hn0
        cases hf
        subst hn0
        exact ⟨#[], fun w0 _ => rfl, .nil, by simp⟩
      · cases hf
  · rename_i st
    cases hx
    split at hf
    · rename_i hc
      cases hf
      refine ⟨(st.extract 0 n).data.map fun b => .int .u8 b.toNat, fun w0 _ => rfl, ?_, ?_⟩
      · rw [Array.toList_map]
        refine VRL.of_noRef1 (List.all_eq_true.2 fun v hv => ?_)
        obtain ⟨b, _, rfl⟩ := List.mem_map.1 hv
        rfl
      · rw [List.length_map, hc.1, Nat.mul_one]
        have : (st.extract 0 n).size = n := by rw [ByteArray.size_extract]; omega
        exact this
    · cases hf
  · cases hf
theorem lenOf_sound {x x' : Value} {m : Nat} (hx : VR μ x x') (h : lenOf x = some m) : (Builtin.lenOf x').run P w = .ok m w := by
  unfold lenOf at h
  split at h <;> first
    | (cases h; cases hx <;> rfl)
    | cases h
theorem nextslicecap_le {need cap : Nat} (h : cap < need) : Builtin.nextslicecap need cap ≤ 2 * need + 1024 := by
  have hg : ∀ r c, c ≤ 2 * need + 1024 → Builtin.growBy need r c ≤ 2 * need + 1024 := by
    intro r
    induction r with
    | zero => intro c hc; exact hc
    | succ r ih =>
      intro c hc
      simp only [Builtin.growBy]
      split
      · exact hc
      · exact ih _ (by omega)
  unfold Builtin.nextslicecap
  split
  · omega
  · split
    · omega
    · exact hg 4 cap (by omega)
theorem Sim.kill {h : AHeap} {w w1 : World} {b c K : Nat} {blk : ABlk} {o : Obj} (s : Sim P μ h w) (e : μ b = some ⟨c, K⟩) (hl : live h b) (hro : ¬ isRo h b)
    (hw : w1.heap[c]? = some o) (hoth : ∀ d, d ≠ c → w1.heap[d]? = w.heap[d]?) (hsz : w1.heap.size = w.heap.size) (ho : Out w w1) (hb : BR P (grow μ h.length c K) K blk o) :
    Sim P (grow μ h.length c K) (h.set b .dead ++ [blk]) w1 ∧ Ext μ h w (grow μ h.length c K) (h.set b .dead ++ [blk]) w1 := by
  have hlen : (h.set b .dead).length = h.length := List.length_set
  have hcase : ∀ b' l, grow μ h.length c K b' = some l → (b' = h.length ∧ l = ⟨c, K⟩) ∨ (b' < h.length ∧ μ b' = some l) := by
    intro b' l e'
    unfold grow at e'
    split at e'
    · rename_i hb'; cases e'; exact .inl ⟨hb', rfl⟩
    · exact .inr ⟨s.dom b' l e', e'⟩
  have hold : ∀ b', b' < h.length → (h.set b .dead ++ [blk])[b']? = if b = b' then some .dead else h[b']? := by
    intro b' hb'
    rw [List.getElem?_append_left (by rw [hlen]; exact hb')]
    split
    · rename_i hbb; subst hbb; rw [List.getElem?_set_self hb']
    · rename_i hbb; rw [List.getElem?_set_ne hbb]
  have hlive : ∀ b', b' < h.length → live (h.set b .dead ++ [blk]) b' → live h b' ∧ b ≠ b' := by
    rintro b' hb' ⟨x, hx, hn⟩
    rw [hold b' hb'] at hx
    split at hx
    · cases hx; exact absurd rfl hn
    · rename_i hbb; exact ⟨⟨x, hx, hn⟩, hbb⟩
  constructor
  · refine ⟨fun b' l e' => ?_, fun b' l blk' e' hb' hn => ?_, fun b1 b2 l1 l2 e1 e2 el h1 h2 => ?_, fun b' l e' => ?_⟩
    · rcases hcase b' l e' with ⟨h0, _⟩ | ⟨h1, _⟩ <;> simp <;> omega
    · rcases hcase b' l e' with ⟨rfl, rfl⟩ | ⟨h1, h2⟩
      · rw [← hlen, List.getElem?_concat_length] at hb'
        cases hb'
        exact ⟨o, hw, hb⟩
      · have hl' := hlive b' h1 ⟨_, hb', hn⟩
        rw [hold b' h1, if_neg hl'.2] at hb'
        obtain ⟨o', ho', hbr⟩ := s.rel b' l blk' h2 hb' hn
        have hne : l.blk ≠ c := fun hc => hl'.2 (s.inj b b' _ l e h2 hc.symm hl hl'.1)
        exact ⟨o', by rw [hoth _ hne]; exact ho', hbr.mono (grow_le s _ _)⟩
    · rcases hcase b1 l1 e1 with ⟨rfl, rfl⟩ | ⟨h1', h3⟩ <;> rcases hcase b2 l2 e2 with ⟨rfl, rfl⟩ | ⟨h2', h4⟩
      · rfl
      · have := hlive b2 h2' h2
        exact absurd (s.inj b b2 _ _ e h4 el hl this.1) this.2
      · have := hlive b1 h1' h1
        exact absurd (s.inj b b1 _ _ e h3 el.symm hl this.1) this.2
      · exact s.inj b1 b2 l1 l2 h3 h4 el (hlive b1 h1' h1).1 (hlive b2 h2' h2).1
    · rw [hsz]
      rcases hcase b' l e' with ⟨_, rfl⟩ | ⟨_, h2⟩
      · exact s.lt b _ e
      · exact s.lt b' l h2
  · refine ⟨⟨by simp, fun b' hb' => ?_, by omega, fun c' _ hn => hoth c' (fun hc => hn b _ hl e hc.symm), fun b' l e' hr => hoth _ (fun hc => ?_), fun b' hr => ?_, fun b' l hb' e' => ?_, fun b' hb' hn hl' => hn (hlive b' hb' hl').1, ho⟩, fun b' hb' hl' => ⟨⟨c, K⟩, by have := hl'.lt; simp only [List.length_append, List.length_singleton, List.length_set] at this; unfold grow; rw [if_pos (by omega)]⟩⟩
    · unfold grow; rw [if_neg (by omega)]
    · have := s.inj b' b l _ e' e hc hr.live hl
      subst this
      exact hro hr
    · rw [hold b' hr.live.lt, if_neg]
      rintro rfl
      exact hro hr
    · rcases hcase b' l e' with ⟨_, rfl⟩ | ⟨h1, _⟩
      · refine .inr ⟨b, _, hl, hro, e, rfl, fun hl' => (hlive b hl.lt hl').2 rfl⟩
      · omega
theorem Sim.giveUp {h : AHeap} {b : Nat} (s : Sim P μ h w) (hro : ¬ isRo h b) : Sim P μ (h.set b .dead) w ∧ Ext μ h w μ (h.set b .dead) w := by
  have hold : ∀ b', b' < h.length → (h.set b .dead)[b']? = if b = b' then some .dead else h[b']? := by
    intro b' hb'
    split
    · rename_i hbb; subst hbb; rw [List.getElem?_set_self hb']
    · rename_i hbb; rw [List.getElem?_set_ne hbb]
  have hlive : ∀ b', live (h.set b .dead) b' → live h b' := by
    rintro b' ⟨x, hx, hn⟩
    have hb' : b' < h.length := by have := (List.getElem?_eq_some_iff.1 hx).1; simpa using this
    rw [hold b' hb'] at hx
    split at hx
    · cases hx; exact absurd rfl hn
    · exact ⟨x, hx, hn⟩
  constructor
  · refine ⟨fun b' l e => by rw [List.length_set]; exact s.dom b' l e, fun b' l blk e hb' hn => ?_, fun b1 b2 l1 l2 e1 e2 el h1 h2 => s.inj b1 b2 l1 l2 e1 e2 el (hlive b1 h1) (hlive b2 h2), s.lt⟩
    rw [hold b' (s.dom b' l e)] at hb'
    split at hb'
    · cases hb'; exact absurd rfl hn
    · exact s.rel b' l blk e hb' hn
  · refine ⟨⟨by simp, fun _ _ => rfl, Nat.le_refl _, fun _ _ _ => rfl, fun _ _ _ _ => rfl, fun b' hr => ?_, fun b' l hb' e => absurd (s.dom b' l e) (by omega), fun b' _ hn hl' => hn (hlive b' hl'), Out.rfl⟩, fun b' hb' hl' => absurd (hlive b' hl').lt (by omega)⟩
    rw [hold b' hr.live.lt, if_neg]
    rintro rfl
    exact hro hr
theorem append_room {size n m c' : Nat} {a' : Option Addr} {y' : Value} {ys : Array Value} {elem ty st xt : TypeId} {i : TypeInfo} {dx : TypeDesc} (hst : P.underlying st = some (.slice elem)) (hxt : P.underlying xt = some dx) (hdx : ∀ k, dx ≠ .int k)
    (hi : P.info? elem = some i) (hsz : i.size = size) (hlen : (Builtin.lenOf y').run P w = .ok m w) (hys : (Builtin.firstCells size m y').run P w = .ok ys w) (hroom : n + m ≤ c') :
    (Builtin.append_ #[st, xt] ty #[.slice a' n c', y']).run P w =
      (match a' with | some a => (storeCells (a.add (n * size)) ys.toList).run P w | none => .ok () w).andThen fun _ w' => .ok (.slice a' (n + m) c') w' := by
  have hz : (dx matches .int _) = false := by cases dx <;> first | rfl | exact absurd rfl (hdx _)
  simp only [Builtin.append_, List.getElem?_toArray, List.getElem?_cons_zero, List.getElem?_cons_succ, Sem.run_bind, run_underlying' hst, run_underlying' hxt, run_sizeOf' hi, hsz, Result.andThen_ok, Sem.run_pure, hz, Bool.false_eq_true, if_false, hlen, hroom, if_true, Bool.not_false, hys]
  cases a' with
  | none => simp
  | some a => simp
theorem append_grow {size n m c' : Nat} {a' : Option Addr} {y' : Value} {ys olds : Array Value} {elem ty st xt : TypeId} {i : TypeInfo} {z : Value} {dx : TypeDesc} (hst : P.underlying st = some (.slice elem)) (hxt : P.underlying xt = some dx) (hdx : ∀ k, dx ≠ .int k)
    (hi : P.info? elem = some i) (hsz : i.size = size) (hz : i.zero = some z) (hb' : i.bytes ≤ 16384) (hlen : (Builtin.lenOf y').run P w = .ok m w)
    (hys : ∀ w0 : World, w0.heap = w.heap → (Builtin.firstCells size m y').run P w0 = .ok ys w0) (hold : ∀ w0 : World, w0.heap = w.heap → (Builtin.firstCells size n (.slice a' n c')).run P w0 = .ok olds w0)
    (hroom : c' < n + m) (hmost : n + m ≤ mostLen) :
    ∃ cap, n + m ≤ cap ∧ (Builtin.append_ #[st, xt] ty #[.slice a' n c', y']).run P w =
      .ok (.slice (some ⟨w.heap.size, 0, none⟩) (n + m) cap) (w.drew.alloc (.cells (olds ++ ys ++ Builtin.zeroCells z.cells (cap - (n + m))) elem)) := by
  have hzz : (dx matches .int _) = false := by cases dx <;> first | rfl | exact absurd rfl (hdx _)
  refine ⟨(Question.appendCap (n + m) c' elem).cut (w.tape w.drawn (.appendCap (n + m) c' elem)), ?_, ?_⟩
  · simp only [Question.cut]
    omega
  · have hnc := nextslicecap_le hroom
    unfold mostLen at hmost
    have hbig : ¬ (Builtin.nextslicecap (n + m) c' * i.bytes > 2 ^ 48) := by
      have : Builtin.nextslicecap (n + m) c' * i.bytes ≤ (2 * 4294967296 + 1024) * 16384 := Nat.mul_le_mul (by omega) hb'
      omega
    have hmax : (IntKind.i64.max : Int) = 9223372036854775807 := by decide
    have hneed : ¬ (((n + m : Nat) : Int) > IntKind.i64.max ∧ (False ∨ i.bytes = 0)) := by rw [hmax]; omega
    have hforced : (Question.appendCap (n + m) c' elem).forced = false := rfl
    have hdrew : ({ w with drawn := w.drawn + 1 } : World) = w.drew := rfl
    simp only [Builtin.append_, List.getElem?_toArray, List.getElem?_cons_zero, List.getElem?_cons_succ, Sem.run_bind, run_underlying' hst, run_underlying' hxt, run_sizeOf' hi, hsz, Result.andThen_ok, Sem.run_pure, hzz, Bool.false_eq_true, if_false, hlen,
      show ¬ (n + m ≤ c') from by omega, run_typeInfo' hi, Bool.not_false, if_true]
    rw [if_neg hneed]
    simp only [Sem.run_bind, run_typeInfo' hi, Result.andThen_ok]
    rw [if_neg hbig]
    simp only [Sem.run_bind, run_choose, hforced, Bool.false_eq_true, if_false, hdrew, Result.andThen_ok, run_typeInfo' hi, run_askRoom, hold w.drew rfl, hys w.drew rfl, run_zeroValue' hi hz, newRow, run_newObj, Sem.run_pure]
    rfl
theorem appendc_sound {elem : TypeId} {size m : Nat} {x x' : Value} {new : List Value} {ys : Array Value} {h : AHeap} {v : Value} {h1 : AHeap} (s : Sim P μ h w) (hx : VR μ x x')
    (ha : appendc elem size x m new h = some (v, h1)) {i : TypeInfo} {z : Value} (A : Value → Sem Value) (hvs : VRL μ new ys.toList) (hnl : new.length = m * size)
    (hroom : ∀ (n : Nat) (a' : Option Addr) (c' : Nat), n + m ≤ c' → (A (.slice a' n c')).run P w = (match a' with | some a => (storeCells (a.add (n * size)) ys.toList).run P w | none => .ok () w).andThen fun _ w' => .ok (.slice a' (n + m) c') w')
    (hgrow : ∀ (n : Nat) (a' : Option Addr) (c' : Nat) (olds : Array Value), (∀ w0 : World, w0.heap = w.heap → (Builtin.firstCells size n (.slice a' n c')).run P w0 = .ok olds w0) → c' < n + m → n + m ≤ mostLen →
      ∃ cap, n + m ≤ cap ∧ (A (.slice a' n c')).run P w = .ok (.slice (some ⟨w.heap.size, 0, none⟩) (n + m) cap) (w.drew.alloc (.cells (olds ++ ys ++ Builtin.zeroCells z.cells (cap - (n + m))) elem)))
    (hi : P.info? elem = some i) (hsz : i.size = size) (hz : i.zero = some z) (hzs : z.cells.size = i.size) :
    ∃ v' w1 μ1, (A x').run P w = .ok v' w1 ∧ VR μ1 v v' ∧ Sim P μ1 h1 w1 ∧ Ext μ h w μ1 h1 w1 := by
  have hcell : P.cellsOf elem = size := by simp [Program.cellsOf, hi, hsz]
  have hzl : ∀ k, (Builtin.zeroCells z.cells k).size = k * size := by intro k; simp [Builtin.zeroCells, hzs, hsz]
  unfold appendc at ha
  split at ha
  · rename_i a n c
    replace hroom := hroom n
    -- no elements
    have hm0 : m = 0 → ys = #[] := by
      rintro rfl
      have h2 := hvs.length
      rw [hnl, Nat.zero_mul] at h2
      exact Array.ext' (List.eq_nil_of_length_eq_zero h2.symm)
    have hysl : ys.toList.length = m * size := by rw [← hvs.length, hnl]
    -- a new row, with what was there and what is appended; the elder block is left, or given up
    have hnewrow : ∀ {a' : Option Addr} {c' : Nat}, VR μ (.slice a n c) (.slice a' n c') → ∀ (olds : Array Value) (old : List Value), (∀ w0 : World, w0.heap = w.heap → (Builtin.firstCells size n (.slice a' n c')).run P w0 = .ok olds w0) → VRL μ old olds.toList →
        old.length = n * size → c' < n + m → n + m ≤ mostLen → ∀ {hh : AHeap}, (hh = h ∨ ∃ b l, μ b = some l ∧ live h b ∧ ¬ isRo h b ∧ hh = h.set b .dead) →
        ∃ v' w1 μ1, (A (.slice a' n c')).run P w = .ok v' w1 ∧ VR μ1 (.slice (some ⟨h.length, 0, none⟩) (n + m) capU) v' ∧ Sim P μ1 (hh ++ [.cells (old ++ new) elem true]) w1 ∧ Ext μ h w μ1 (hh ++ [.cells (old ++ new) elem true]) w1 := by
      intro a' c' _ olds old hold hov holn hroom' hmost hh hhh
      obtain ⟨cap, hcap, hg⟩ := hgrow n a' c' olds hold hroom' hmost
      have holds : olds.size = n * size := by have := hov.length; rw [holn] at this; simpa using this.symm
      have hyss : ys.size = m * size := by simpa using hysl
      have hbr : ∀ K', BR P (grow μ h.length w.heap.size K') cap (.cells (old ++ new) elem true) (.cells (olds ++ ys ++ Builtin.zeroCells z.cells (cap - (n + m))) elem (0, 0)) := by
        intro K'
        refine ⟨_, _, rfl, ?_, ?_, fun _ => rfl, ?_⟩
        · simp [holds, hyss, holn, hnl]
        · simp only [Array.toList_append]
          rw [List.append_assoc olds.toList, ← List.append_assoc, List.take_append_of_le_length (by simp [holds, hyss, holn, hnl]), List.take_of_length_le (by simp [holds, hyss, holn, hnl])]
          exact (hov.append hvs).mono (grow_le s _ _)
        · rw [hcell]
          simp only [Array.size_append, holds, hyss, hzl]
          rw [← Nat.add_mul, ← Nat.add_mul]
          exact Nat.le_of_eq (congrArg (· * size) (by omega))
      rcases hhh with rfl | ⟨b, l, hb1, hb2, hb3, rfl⟩
      · obtain ⟨h5, h6⟩ := s.alloc (w0 := w.drew) rfl ⟨rfl, rfl, rfl⟩ (hbr cap)
        refine ⟨_, _, _, hg, .sl (grow_new _ _ _) (.inr ⟨rfl, hcap, fun _ => Nat.le_refl _⟩), h5, h6⟩
      · obtain ⟨s', x'⟩ := s.giveUp hb3
        have hbr' := hbr cap
        rw [← List.length_set (i := b) (a := ABlk.dead)] at hbr'
        obtain ⟨h5, h6⟩ := s'.alloc (w0 := w.drew) rfl ⟨rfl, rfl, rfl⟩ hbr'
        have hg2 := grow_new (μ := μ) (h.set b .dead).length w.heap.size cap
        rw [List.length_set] at hg2 h5 h6
        refine ⟨_, _, _, hg, .sl hg2 (.inr ⟨rfl, hcap, fun _ => Nat.le_refl _⟩), h5, x'.trans h6 s.dom⟩
    by_cases hcU : c = capU
    · subst hcU
      rw [if_pos rfl] at ha
      split at ha
      · rename_i b
        by_cases hmz : m = 0
        · subst hmz
          rw [if_pos rfl] at ha
          cases ha
          have hy0 := hm0 rfl
          subst hy0
          have hst0 : ∀ a : Addr, (storeCells a (#[] : Array Value).toList).run P w = .ok () w := fun a => rfl
          cases hx with
          | @sl _ c0 K _ _ _ c1 e hcap =>
            rcases hcap with ⟨h8, _⟩ | ⟨_, h9, h10⟩
            · omega
            · refine ⟨_, w, μ, ?_, .sl e (.inr ⟨rfl, h9, h10⟩), s, Ext.refl _ _ _ s.dom⟩
              rw [hroom _ _ (by omega)]
              rfl
          | sl0 a1 a2 c1 =>
            refine ⟨_, w, μ, ?_, .sl0 _ a2 c1, s, Ext.refl _ _ _ s.dom⟩
            rw [hroom _ _ (by omega)]
            rfl
        · rw [if_neg hmz] at ha
          split at ha
          · rename_i vs t hb
            split at ha
            · rename_i hc
              cases ha
              obtain ⟨hc1, hc2, rfl, hc4, hc5⟩ := hc
              cases hx with
              | @sl _ c0 K _ _ _ c1 e hcap =>
                rcases hcap with ⟨h8, _⟩ | ⟨_, h9, h10⟩
                · omega
                have hK := h10 rfl
                obtain ⟨o, ho, cs, fr, rfl, hl, hvv, hfr, hKs⟩ := s.rel b _ _ e hb (by simp)
                replace ho : w.heap[c0]? = some (.cells cs t fr) := ho
                have hfr' := hfr rfl
                subst hfr'
                have hlive : live h b := ⟨_, hb, by simp⟩
                have hnro : ¬ isRo h b := by
                  rintro ⟨vs', t', e2⟩
                  rw [hb] at e2
                  cases e2
                rw [hcell] at hKs
                replace hKs : K * size ≤ cs.size := hKs
                by_cases hr : n + m ≤ c1
                · -- in place
                  have hKm : (n + m) * size ≤ cs.size := Nat.le_trans (Nat.mul_le_mul_right _ (show n + m ≤ K from Nat.le_trans hr hK)) hKs
                  rw [Nat.add_mul] at hKm
                  have hrun := run_storeCells_at (P := P) c0 (n * size) t ys.toList 0 cs w ho (by omega) (hvs.oneCell hc5)
                  simp only [Nat.add_zero] at hrun
                  have hbr : BR P (grow μ h.length c0 K) K (.cells (vs.take (n * size) ++ new) t true) (.cells (cs.toList.take (n * size) ++ ys.toList ++ cs.toList.drop (n * size + ys.toList.length)).toArray t (0, 0)) := by
                    have hln := hvs.length
                    refine ⟨_, _, rfl, ?_, ?_, fun _ => rfl, ?_⟩
                    · have h2 : ys.size = m * size := by simpa using hysl
                      simp
                      omega
                    · have h2 : (vs.take (n * size) ++ new).length = n * size + ys.toList.length := by rw [List.length_append, List.length_take, hln]; omega
                      rw [h2]
                      have h3 : (cs.toList.take (n * size) ++ ys.toList ++ cs.toList.drop (n * size + ys.toList.length)).take (n * size + ys.toList.length) = cs.toList.take (n * size) ++ ys.toList := by
                        rw [List.take_append_of_le_length (by simp; omega), List.take_of_length_le (by simp; omega)]
                      simp only [List.toList_toArray]
                      rw [h3]
                      have h4 := (hvv.take (n * size)).append hvs
                      rw [List.take_take, Nat.min_eq_left hc1] at h4
                      exact h4.mono (grow_le s _ _)
                    · rw [hcell]
                      simp
                      omega
                  obtain ⟨h5, h6⟩ := Sim.kill s e hlive hnro (setRow_heap_self ho) (fun d hd => setRow_heap_ne (Ne.symm hd)) (setRow_size _ _ _) ⟨rfl, rfl, rfl⟩ hbr
                  refine ⟨_, _, _, ?_, .sl (grow_new _ _ _) (.inr ⟨rfl, hr, fun _ => hK⟩), h5, h6⟩
                  rw [hroom _ _ hr]
                  simp only [addr_add, Nat.zero_add, hrun, Result.andThen_ok]
                · -- a new row
                  exact hnewrow (.sl e (.inr ⟨rfl, h9, h10⟩)) (cs.toList.take (n * size)).toArray (vs.take (n * size)) (fun w0 e0 => by
                    have h2 := run_loadCells_list (P := P) w0 ⟨c0, 0, none⟩ (cs.toList.take (n * size)) (fun j v hj => by
                      have hj' : j < n * size := by
                        have h7 := (List.getElem?_eq_some_iff.1 hj).1
                        rw [List.length_take] at h7
                        omega
                      rw [List.getElem?_take_of_lt hj'] at hj
                      rw [addr_add, cell_of_heap e0]
                      simp only [World.cell?, ho, Option.isSome_none, Bool.false_eq_true, if_false, Nat.zero_add]
                      simpa using hj)
                    rw [show (cs.toList.take (n * size)).length = n * size from by simp; omega] at h2
                    simpa [Builtin.firstCells] using h2) (by
                    have h4 := hvv.take (n * size)
                    rw [List.take_take, Nat.min_eq_left hc1] at h4
                    exact h4) (by simp; omega) (by omega) hc2 (.inr ⟨b, _, e, hlive, hnro, rfl⟩)
              | sl0 a1 a2 c1 => omega
            · cases ha
          · cases ha
      · cases ha
    · rw [if_neg hcU] at ha
      split at ha
      · rename_i hroomA
        -- a capacity that is known, and room
        split at ha
        · rename_i a
          rw [Option.map_eq_some_iff] at ha
          obtain ⟨h2, hw2, ha⟩ := ha
          cases ha
          by_cases hmz : m = 0
          · subst hmz
            rw [if_pos rfl] at hw2
            cases hw2
            have hy0 := hm0 rfl
            subst hy0
            cases hx with
            | @sl b c0 K o _ _ c1 e hcap =>
              rcases hcap with ⟨h8, rfl⟩ | ⟨h8, _⟩
              · refine ⟨_, w, μ, ?_, .sl e (.inl ⟨h8, rfl⟩), s, Ext.refl _ _ _ s.dom⟩
                rw [hroom _ _ hroomA]
                rfl
              · exact absurd h8 hcU
            | sl0 => exact absurd rfl hcU
            | sl00 a1 a2 =>
              refine ⟨_, w, μ, ?_, .sl00 _ a2, s, Ext.refl _ _ _ s.dom⟩
              rw [hroom _ _ hroomA]
              rfl
          · rw [if_neg hmz] at hw2
            cases hx with
            | @sl b c0 K o _ _ c1 e hcap =>
              rcases hcap with ⟨h8, rfl⟩ | ⟨h8, _⟩
              · obtain ⟨w2, hr2, h5, h6⟩ := writeN_sound (P := P) s e hvs hw2
                refine ⟨_, w2, μ, ?_, .sl e (.inl ⟨h8, rfl⟩), h5, h6⟩
                rw [hroom _ _ hroomA]
                simp only [addr_add, hr2, Result.andThen_ok]
              · exact absurd h8 hcU
            | sl0 => exact absurd rfl hcU
            | sl00 a1 a2 => omega
        · cases hx with
          | slNil =>
            split at ha
            · rename_i hmz
              cases ha
              subst hmz
              refine ⟨_, w, μ, ?_, .slNil, s, Ext.refl _ _ _ s.dom⟩
              rw [hroom _ _ (by omega)]
              rfl
            · cases ha
      · rename_i hroomA
        split at ha
        · rename_i hmost
          rw [Option.map_eq_some_iff] at ha
          obtain ⟨old, hold, ha⟩ := ha
          cases ha
          obtain ⟨olds, holds, hov, hol⟩ := firstf_sound s hx hold
          cases hx with
          | slNil => exact hnewrow .slNil olds old holds hov hol (by omega) hmost (.inl rfl)
          | @sl b c0 K o _ _ c1 e hcap =>
            rcases hcap with ⟨h8, rfl⟩ | ⟨h8, _⟩
            · exact hnewrow (.sl e (.inl ⟨h8, rfl⟩)) olds old holds hov hol (by omega) hmost (.inl rfl)
            · exact absurd h8 hcU
          | sl0 => exact absurd rfl hcU
          | sl00 a1 a2 => exact hnewrow (.sl00 a1 a2) olds old holds hov hol (by omega) hmost (.inl rfl)
        · cases ha
  · cases ha
theorem appendf_sound {elem : TypeId} {size : Nat} {x x' y y' : Value} {h : AHeap} {v : Value} {h1 : AHeap} (s : Sim P μ h w) (hx : VR μ x x') (hy : VR μ y y')
    (ha : appendf elem size x y h = some (v, h1)) {ty st xt : TypeId} {i : TypeInfo} {z : Value} {dx : TypeDesc} (hst : P.underlying st = some (.slice elem)) (hxt : P.underlying xt = some dx) (hdx : ∀ k, dx ≠ .int k)
    (hi : P.info? elem = some i) (hsz : i.size = size) (hz : i.zero = some z) (hzs : z.cells.size = i.size) (hb' : i.bytes ≤ 16384) :
    ∃ v' w1 μ1, (Builtin.append_ #[st, xt] ty #[x', y']).run P w = .ok v' w1 ∧ VR μ1 v v' ∧ Sim P μ1 h1 w1 ∧ Ext μ h w μ1 h1 w1 := by
  unfold appendf at ha
  simp only [Option.bind_eq_some_iff] at ha
  obtain ⟨m, hm, new, hnew, ha⟩ := ha
  obtain ⟨ys, hys, hvs, hnl⟩ := firstf_sound s hy hnew
  have hlen := lenOf_sound (w := w) (P := P) hy hm
  exact appendc_sound s hx ha (fun x' => Builtin.append_ #[st, xt] ty #[x', y']) hvs hnl (fun n a' c' hr => append_room (P := P) (w := w) (ty := ty) (a' := a') hst hxt hdx hi hsz hlen (hys w rfl) hr)
    (fun n a' c' olds hold hroom' hmost => append_grow (P := P) (w := w) (ty := ty) (a' := a') (olds := olds) hst hxt hdx hi hsz hz hb' hlen hys hold hroom' hmost) hi hsz hz hzs
theorem copyf_sound {size : Nat} {d d' x x' v : Value} {h h1 : AHeap} (s : Sim P μ h w) (hd : VR μ d d') (hx : VR μ x x') (hc : copyf size d x h = some (v, h1))
    {ty dt xt elem : TypeId} {i : TypeInfo} (hdt : P.underlying dt = some (.slice elem)) (hi : P.info? elem = some i) (hsz : i.size = size) :
    ∃ w1, (Builtin.copy_ #[dt, xt] ty #[d', x']).run P w = .ok v w1 ∧ VR μ v v ∧ Sim P μ h1 w1 ∧ Ext μ h w μ h1 w1 := by
  unfold copyf at hc
  split at hc
  · rename_i a n c
    simp only [Option.bind_eq_some_iff] at hc
    obtain ⟨m, hm, new, hnew, hc⟩ := hc
    obtain ⟨ys, hys, hvs, hnl⟩ := firstf_sound s hx hnew
    have hlen := lenOf_sound (w := w) (P := P) hx hm
    have hrun : ∀ a' c', (Builtin.copy_ #[dt, xt] ty #[.slice a' n c', x']).run P w = (match a' with | some a => (storeCells a ys.toList).run P w | none => .ok () w).andThen fun _ w' => .ok (goInt (Nat.min m n)) w' := by
      intro a' c'
      simp only [Builtin.copy_, List.getElem?_toArray, List.getElem?_cons_zero, List.getElem?_cons_succ, Sem.run_bind, run_underlying' hdt, run_sizeOf' hi, hsz, Result.andThen_ok, Sem.run_pure, hlen, hys w rfl]
      cases a' with
      | none => simp
      | some a => simp
    have hy0 : Nat.min m n = 0 → ys = #[] := by
      intro e
      have h2 := hvs.length
      rw [hnl, e, Nat.zero_mul] at h2
      exact Array.ext' (List.eq_nil_of_length_eq_zero h2.symm)
    split at hc
    · rename_i a
      rw [Option.map_eq_some_iff] at hc
      obtain ⟨h2, hw2, hc⟩ := hc
      cases hc
      by_cases hz : Nat.min m n = 0
      · rw [if_pos hz] at hw2
        cases hw2
        have hy := hy0 hz
        subst hy
        cases hd <;> exact ⟨w, by rw [hrun]; rfl, .int _ _, s, Ext.refl _ _ _ s.dom⟩
      · rw [if_neg hz] at hw2
        cases hd with
        | @sl b c0 K o _ _ c1 e hcap =>
          obtain ⟨w2, hr2, h5, h6⟩ := writeN_sound (P := P) s e hvs hw2
          exact ⟨w2, by rw [hrun]; simp only [hr2, Result.andThen_ok]; rfl, .int _ _, h5, h6⟩
        | sl0 => exact absurd (Nat.le_zero.1 (Nat.min_le_right m 0)) hz
        | sl00 => exact absurd (Nat.le_zero.1 (Nat.min_le_right m 0)) hz
    · cases hd
      split at hc
      · rename_i hz
        cases hc
        exact ⟨w, by rw [hrun, hz]; rfl, .int _ _, s, Ext.refl _ _ _ s.dom⟩
      · cases hc
  · cases hc
theorem clearf_sound {x x' v : Value} {h h1 : AHeap} (s : Sim P μ h w) (hx : VR μ x x')
    {ty t elem : TypeId} {i : TypeInfo} {z : Value} (ht : P.underlying t = some (.slice elem)) (hi : P.info? elem = some i) (hz : i.zero = some z) (hn : z.cells.toList.all noRef1 = true)
    (hc : clearf z.cells.toList x h = some (v, h1)) :
    ∃ w1, (Builtin.clear_ #[t] ty #[x']).run P w = .ok v w1 ∧ VR μ v v ∧ Sim P μ h1 w1 ∧ Ext μ h w μ h1 w1 := by
  unfold clearf at hc
  split at hc
  · cases hc
    cases hx
    exact ⟨w, by simp [Builtin.clear_, run_underlying' ht]; rfl, .undef, s, Ext.refl _ _ _ s.dom⟩
  · rename_i a n c
    split at hc
    · rename_i h0
      cases hc
      subst h0
      refine ⟨w, ?_, .undef, s, Ext.refl _ _ _ s.dom⟩
      cases hx <;> (simp [Builtin.clear_, run_underlying' ht]; rfl)
    · rename_i h0
      rw [Option.map_eq_some_iff] at hc
      obtain ⟨h2, hw2, hc⟩ := hc
      cases hc
      have hzc : (Builtin.zeroCells z.cells n).toList = rep z.cells.toList n := rep_eq _ _
      cases hx with
      | @sl b c0 K o _ _ c1 e hcap =>
        obtain ⟨w2, hr2, h5, h6⟩ := writeN_sound (P := P) s e ((VRL.of_noRef1 hn).rep n) hw2
        refine ⟨w2, ?_, .undef, h5, h6⟩
        obtain ⟨k, rfl⟩ : ∃ k, n = k + 1 := ⟨n - 1, by omega⟩
        simp only [Builtin.clear_, List.getElem?_toArray, List.getElem?_cons_zero, Sem.run_bind, run_underlying' ht, Result.andThen_ok, zeroValue, typeInfo, hi, hz]
        simp [hi, hz, hzc, hr2]
        rfl
      | sl0 => exact absurd rfl h0
      | sl00 => exact absurd rfl h0
  · cases hc
theorem zeros_run {size m : Nat} {elem : TypeId} {i : TypeInfo} {z : Value} (hi : P.info? elem = some i) (hsz : i.size = size) (hz : i.zero = some z) (hzs : z.cells.size = i.size) (w0 : World) :
    (if m * size = 0 then pure #[] else do pure (Builtin.zeroCells (← zeroValue elem).cells m) : Sem (Array Value)).run P w0 = .ok (Builtin.zeroCells z.cells m) w0 := by
  split
  · rename_i h0
    have : (Builtin.zeroCells z.cells m).size = 0 := by simp [Builtin.zeroCells, hzs, hsz, h0]
    rw [Array.eq_empty_of_size_eq_zero this]
    rfl
  · simp only [Sem.run_bind, run_zeroValue' hi hz, Result.andThen_ok, Sem.run_pure]
theorem appendN_room {size n m c' : Nat} {a' : Option Addr} {elem ty st xt : TypeId} {i : TypeInfo} {z : Value} {k : IntKind} (hst : P.underlying st = some (.slice elem)) (hxt : P.underlying xt = some (.int k))
    (hi : P.info? elem = some i) (hsz : i.size = size) (hz : i.zero = some z) (hzs : z.cells.size = i.size) (hb' : i.bytes ≤ 16384) (hm : m ≤ mostLen) (hroom : n + m ≤ c') :
    (Builtin.append_ #[st, xt] ty #[.slice a' n c', .int .i64 m]).run P w =
      (match a' with | some a => (storeCells (a.add (n * size)) (Builtin.zeroCells z.cells m).toList).run P w | none => .ok () w).andThen fun _ w' => .ok (.slice a' (n + m) c') w' := by
  unfold mostLen at hm
  have hw : IntKind.i64.wrap (m : Int) = (m : Int) := by simp [IntKind.wrap, IntKind.bits, IntKind.signed]; split <;> omega
  have hbig : ¬ ((m : Int) * (i.bytes : Int) > 2 ^ 48) := by
    have h1 : (m : Int) * (i.bytes : Int) ≤ 4294967296 * 16384 := Int.mul_le_mul (by omega) (by omega) (by omega) (by omega)
    omega
  have hz0 := zeros_run (P := P) (m := m) hi hsz hz hzs w
  have hai : (asInt (.int .i64 (m : Int))).run P w = .ok (m : Int) w := by simp [asInt, asIntOf]
  simp only [Builtin.append_, List.getElem?_toArray, List.getElem?_cons_zero, List.getElem?_cons_succ, Sem.run_bind, run_underlying' hst, run_underlying' hxt, run_sizeOf' hi, hsz, Result.andThen_ok, Sem.run_pure, if_true, hai, hw]
  rw [if_neg (by omega)]
  simp only [Sem.run_bind, run_typeInfo' hi, Result.andThen_ok, Sem.run_pure]
  rw [if_neg hbig]
  simp only [Sem.run_pure, Result.andThen_ok, Int.toNat_natCast, hroom, if_true, Bool.not_true, Bool.false_eq_true, if_false, Sem.run_bind, hz0]
  cases a' with
  | none => simp
  | some a => simp
theorem appendN_grow {size n m c' : Nat} {a' : Option Addr} {olds : Array Value} {elem ty st xt : TypeId} {i : TypeInfo} {z : Value} {k : IntKind} (hst : P.underlying st = some (.slice elem)) (hxt : P.underlying xt = some (.int k))
    (hi : P.info? elem = some i) (hsz : i.size = size) (hz : i.zero = some z) (hzs : z.cells.size = i.size) (hb' : i.bytes ≤ 16384)
    (hold : ∀ w0 : World, w0.heap = w.heap → (Builtin.firstCells size n (.slice a' n c')).run P w0 = .ok olds w0) (hroom : c' < n + m) (hmost : n + m ≤ mostLen) :
    ∃ cap, n + m ≤ cap ∧ (Builtin.append_ #[st, xt] ty #[.slice a' n c', .int .i64 m]).run P w =
      .ok (.slice (some ⟨w.heap.size, 0, none⟩) (n + m) cap) (w.drew.alloc (.cells (olds ++ Builtin.zeroCells z.cells m ++ Builtin.zeroCells z.cells (cap - (n + m))) elem)) := by
  refine ⟨(Question.appendCap (n + m) c' elem).cut (w.tape w.drawn (.appendCap (n + m) c' elem)), ?_, ?_⟩
  · simp only [Question.cut]
    omega
  · have hnc := nextslicecap_le hroom
    unfold mostLen at hmost
    have hw : IntKind.i64.wrap (m : Int) = (m : Int) := by simp [IntKind.wrap, IntKind.bits, IntKind.signed]; split <;> omega
    have hbig0 : ¬ ((m : Int) * (i.bytes : Int) > 2 ^ 48) := by
      have h1 : (m : Int) * (i.bytes : Int) ≤ 4294967296 * 16384 := Int.mul_le_mul (by omega) (by omega) (by omega) (by omega)
      omega
    have hbig : ¬ (Builtin.nextslicecap (n + m) c' * i.bytes > 2 ^ 48) := by
      have : Builtin.nextslicecap (n + m) c' * i.bytes ≤ (2 * 4294967296 + 1024) * 16384 := Nat.mul_le_mul (by omega) hb'
      omega
    have hmax : (IntKind.i64.max : Int) = 9223372036854775807 := by decide
    have hneed : ¬ (((n + m : Nat) : Int) > IntKind.i64.max ∧ (True ∨ i.bytes = 0)) := by rw [hmax]; omega
    have hforced : (Question.appendCap (n + m) c' elem).forced = false := rfl
    have hdrew : ({ w with drawn := w.drawn + 1 } : World) = w.drew := rfl
    have hz0 := zeros_run (P := P) (m := m) hi hsz hz hzs w.drew
    have hai : (asInt (.int .i64 (m : Int))).run P w = .ok (m : Int) w := by simp [asInt, asIntOf]
    simp only [Builtin.append_, List.getElem?_toArray, List.getElem?_cons_zero, List.getElem?_cons_succ, Sem.run_bind, run_underlying' hst, run_underlying' hxt, run_sizeOf' hi, hsz, Result.andThen_ok, Sem.run_pure, if_true, hai, hw]
    rw [if_neg (by omega)]
    simp only [Sem.run_bind, run_typeInfo' hi, Result.andThen_ok, Sem.run_pure]
    rw [if_neg hbig0]
    simp only [Sem.run_pure, Result.andThen_ok, Int.toNat_natCast, show ¬ (n + m ≤ c') from by omega, if_false, Sem.run_bind, run_typeInfo' hi]
    rw [if_neg hneed]
    simp only [Sem.run_bind, run_typeInfo' hi, Result.andThen_ok]
    rw [if_neg hbig]
    simp only [Sem.run_bind, run_choose, hforced, Bool.false_eq_true, if_false, hdrew, Result.andThen_ok, run_typeInfo' hi, run_askRoom, hold w.drew rfl, Bool.not_true, hz0, run_zeroValue' hi hz, newRow, run_newObj, Sem.run_pure]
    rfl
theorem appendNf_sound {elem : TypeId} {size : Nat} {zero : List Value} {x x' y y' : Value} {h : AHeap} {v : Value} {h1 : AHeap} (s : Sim P μ h w) (hx : VR μ x x') (hy : VR μ y y')
    (ha : appendNf elem size zero x y h = some (v, h1)) {ty st xt : TypeId} {i : TypeInfo} {z : Value} {k : IntKind} (hst : P.underlying st = some (.slice elem)) (hxt : P.underlying xt = some (.int k))
    (hi : P.info? elem = some i) (hsz : i.size = size) (hz : i.zero = some z) (hzs : z.cells.size = i.size) (hb' : i.bytes ≤ 16384) (hzl : z.cells.toList = zero) (hn : zero.all noRef1 = true) :
    ∃ v' w1 μ1, (Builtin.append_ #[st, xt] ty #[x', y']).run P w = .ok v' w1 ∧ VR μ1 v v' ∧ Sim P μ1 h1 w1 ∧ Ext μ h w μ1 h1 w1 := by
  unfold appendNf at ha
  split at ha
  · rename_i l
    split at ha
    · rename_i hl
      cases hy
      obtain ⟨m, rfl⟩ : ∃ m : Nat, l = m := ⟨l.toNat, by omega⟩
      have hm : m ≤ mostLen := by omega
      rw [Int.toNat_natCast] at ha
      have hzc : (Builtin.zeroCells z.cells m).toList = rep zero m := by rw [← hzl]; exact rep_eq _ _
      refine appendc_sound (ys := Builtin.zeroCells z.cells m) s hx ha (fun x' => Builtin.append_ #[st, xt] ty #[x', .int .i64 m]) (by rw [hzc]; exact (VRL.of_noRef1 hn).rep m) ?_
        (fun n a' c' hr => appendN_room hst hxt hi hsz hz hzs hb' hm hr) (fun n a' c' olds hold hr hmost => appendN_grow hst hxt hi hsz hz hzs hb' hold hr hmost) hi hsz hz hzs
      rw [← hzc, Array.length_toList]
      simp [Builtin.zeroCells, hzs, hsz]
    · cases ha
  · cases ha
theorem bytesOf_ints : ∀ {l : List Value} {bs : List UInt8}, bytesOf l = some bs → ∃ ns : List Int, l = ns.map (Value.int .u8) ∧ bs = ns.map fun n => UInt8.ofNat n.toNat
  | [], _, h => by cases h; exact ⟨[], rfl, rfl⟩
  | v :: l, bs, h => by
    unfold bytesOf at h
    split at h
    · rename_i e; cases e
    · rename_i n r e
      cases e
      rw [Option.map_eq_some_iff] at h
      obtain ⟨bs', h', rfl⟩ := h
      obtain ⟨ns, rfl, rfl⟩ := bytesOf_ints h'
      exact ⟨n :: ns, rfl, rfl⟩
    · cases h
theorem foldl_push : ∀ (ns : List Int) (s : ByteArray), ns.foldl (fun r n => r.push (UInt8.ofNat n.toNat)) s = ⟨s.data ++ (ns.map fun n => UInt8.ofNat n.toNat).toArray⟩
  | [], s => by simp
  | n :: ns, s => by
    rw [List.foldl_cons, foldl_push ns]
    congr 1
    apply Array.ext'
    simp [ByteArray.push]
theorem bytesToStrf_sound {x x' v : Value} {h : AHeap} (s : Sim P μ h w) (hx : VR μ x x') (hv : bytesToStrf x h = some v)
    {src dst e : TypeId} (hs : P.underlying src = some (.slice e)) (he : P.underlying e = some (.int .u8)) (hd : P.underlying dst = some .string) :
    (convert src dst x').run P w = .ok v w ∧ VR μ v v := by
  unfold bytesToStrf at hv
  split at hv
  · rename_i a n c
    split at hv
    · rename_i hn0
      subst hn0
      cases hv
      refine ⟨?_, .string _⟩
      cases hx <;>
      · rw [run_convert_bytes_string w src dst e _ _ _ hs he hd, run_bytesToString w _ _ _ [] (by simp [loadCells, loadCellsFrom])]
        rfl
    simp only [Option.bind_eq_some_iff, Option.map_eq_some_iff] at hv
    obtain ⟨l, hl, bs, hb, rfl⟩ := hv
    obtain ⟨ns, rfl, rfl⟩ := bytesOf_ints hb
    refine ⟨?_, .string _⟩
    have hemp : (ByteArray.empty.data ++ (ns.map fun n => UInt8.ofNat n.toNat).toArray) = (ns.map fun n => UInt8.ofNat n.toNat).toArray := by
      apply Array.ext'
      simp [ByteArray.empty, ByteArray.emptyWithCapacity]
      rfl
    have hnl : ns.length = n := by
      unfold readN at hl
      split at hl
      · split at hl
        · rename_i hle
          have := congrArg (fun z => (z.getD []).length) hl
          simp at this
          omega
        · cases hl
      · cases hl
    cases hx with
    | @sl b c0 K o _ _ c1 e1 hcap =>
      obtain ⟨_, ys, hys, hc⟩ := readN_sim s e1 hl
      have hye : ys = ns.map (Value.int .u8) := VRL.eq_of_all (p := noRef1) (fun v y h hv => VR.eq_of_noRef1 h hv) (List.all_eq_true.2 fun v hv => by obtain ⟨n, _, rfl⟩ := List.mem_map.1 hv; rfl) hys
      subst hye
      have hrun := run_loadCells_list (P := P) w ⟨c0, o, none⟩ (ns.map (Value.int .u8)) (fun j v hj => by rw [addr_add]; exact hc j v hj)
      rw [List.length_map, hnl] at hrun
      rw [run_convert_bytes_string w src dst e _ _ _ hs he hd, run_bytesToString w _ _ _ ns hrun, foldl_push, hemp]
    | sl0 a a' m' =>
      have hns : ns = [] := List.eq_nil_of_length_eq_zero hnl
      subst hns
      rw [run_convert_bytes_string w src dst e _ _ _ hs he hd, run_bytesToString w _ _ _ [] (by simp [loadCells, loadCellsFrom])]
      rfl
    | sl00 a a' =>
      have hns : ns = [] := List.eq_nil_of_length_eq_zero hnl
      subst hns
      rw [run_convert_bytes_string w src dst e _ _ _ hs he hd, run_bytesToString w _ _ _ [] (by simp [loadCells, loadCellsFrom])]
      rfl
  · cases hx
    cases hv
    refine ⟨?_, .string _⟩
    rw [run_convert_bytes_string w src dst e _ _ _ hs he hd]
    rfl
  · cases hv
end Go.Am
/- Maps whose keys are numbers, bools or strings. -/
namespace Go.Am
variable {P : Program} {μ : Ren} {w : World}
theorem Sim.setBlk {h : AHeap} (s : Sim P μ h w) {b c K : Nat} {blk blk' : ABlk} {o' : Obj} (e : μ b = some ⟨c, K⟩) (hb : h[b]? = some blk) (hd : blk ≠ .dead) (hro : ¬ isRo h b) (hd' : blk' ≠ .dead) (hro' : ∀ vs t, blk' ≠ .cells vs t false) (hbr : BR P μ K blk' o') :
    Sim P μ (h.set b blk') (w.putObj c o') ∧ Ext μ h w μ (h.set b blk') (w.putObj c o') := by
  have hlive : live h b := ⟨_, hb, hd⟩
  have hc : c < w.heap.size := s.lt b _ e
  have hself : (w.putObj c o').heap[c]? = some o' := by simp [World.putObj, hc]
  have hother : ∀ k, k ≠ c → (w.putObj c o').heap[k]? = w.heap[k]? := fun k hk => by
    simp only [World.putObj]
    rw [Array.getElem?_setIfInBounds_ne (by omega)]
  have hsz : (w.putObj c o').heap.size = w.heap.size := by simp [World.putObj]
  have hnew : ∀ b', live (h.set b blk') b' ↔ live h b' := fun b' => live_set hlive hd'
  refine ⟨⟨fun b' c' e' => by rw [List.length_set]; exact s.dom b' c' e', fun b' c' k e' hb' hn => ?_, fun b1 b2 l1' l2' e1 e2 e3 l1 l2 => s.inj b1 b2 l1' l2' e1 e2 e3 ((hnew b1).1 l1) ((hnew b2).1 l2), fun b' c' e' => by rw [hsz]; exact s.lt b' c' e'⟩,
    ⟨⟨by rw [List.length_set]; exact Nat.le_refl _, fun _ _ => rfl, by rw [hsz]; exact Nat.le_refl _, fun c' _ hn => hother c' (fun hcc => hn b _ hlive e hcc.symm), fun b' c' e' hr => hother _ (fun hcc => ?_), fun b' hr => ?_, fun b' c' hb' e' => absurd (s.dom b' c' e') (by omega), fun b' _ hn hl' => hn ((hnew b').1 hl'), ⟨rfl, rfl, rfl⟩⟩, fun b' hb' hl' => absurd ((hnew b').1 hl').lt (by omega)⟩⟩
  · by_cases hbb : b = b'
    · subst hbb
      rw [e] at e'
      cases e'
      rw [List.getElem?_set_self hlive.lt] at hb'
      cases hb'
      exact ⟨o', hself, hbr⟩
    · rw [List.getElem?_set_ne hbb] at hb'
      have hne : c ≠ c'.blk := fun hcc => hbb (s.inj b b' _ _ e e' hcc hlive ⟨_, hb', hn⟩)
      obtain ⟨o2, ho2, hbr2⟩ := s.rel b' c' k e' hb' hn
      exact ⟨o2, by rw [hother _ (fun h => hne h.symm)]; exact ho2, hbr2⟩
  · have := s.inj b b' _ _ e e' hcc.symm hlive hr.live
    subst this
    exact hro hr
  · by_cases hbb : b = b'
    · subst hbb; exact absurd hr hro
    · exact List.getElem?_set_ne hbb
theorem keyEq_sound {k : BK} {x x' y y' : Value} {t : Bool} (hx : VR μ x x') (hy : VR μ y y') {d : TypeDesc} (hd : bkOf (some d) = some k) (h : keyEq k x y = some t) : Instr.sameNow d x' y' = some t ∧ x' = x ∧ y' = y := by
  unfold keyEq at h
  split at h
  · split at h
    · rename_i a b _ _ hk
      cases h
      subst hk
      cases hx; cases hy
      cases d <;> simp [bkOf] at hd
      exact ⟨by simp [Instr.sameNow], rfl, rfl⟩
    · cases h
  · cases h
    cases hx; cases hy
    cases d <;> simp [bkOf] at hd
    exact ⟨rfl, rfl, rfl⟩
  · cases h
    cases hx; cases hy
    cases d <;> simp [bkOf] at hd
    exact ⟨rfl, rfl, rfl⟩
  · cases h
theorem Sim.killBlk {h : AHeap} (s : Sim P μ h w) {b c K : Nat} {blk : ABlk} {o' : Obj} (e : μ b = some ⟨c, K⟩) (hb : h[b]? = some blk) (hd : blk ≠ .dead) (hro : ¬ isRo h b) :
    Sim P μ (h.set b .dead) (w.putObj c o') ∧ Ext μ h w μ (h.set b .dead) (w.putObj c o') := by
  have hlive : live h b := ⟨_, hb, hd⟩
  have hc : c < w.heap.size := s.lt b _ e
  have hother : ∀ k, k ≠ c → (w.putObj c o').heap[k]? = w.heap[k]? := fun k hk => by
    simp only [World.putObj]
    rw [Array.getElem?_setIfInBounds_ne (by omega)]
  have hsz : (w.putObj c o').heap.size = w.heap.size := by simp [World.putObj]
  obtain ⟨s1, x1⟩ := s.giveUp hro (b := b)
  have hnot : ¬ live (h.set b .dead) b := by
    rintro ⟨blk, h1, h2⟩
    rw [List.getElem?_set_self hlive.lt] at h1
    cases h1; exact h2 rfl
  have hlv : ∀ b', live (h.set b .dead) b' → live h b' := fun b' hl => by
    obtain ⟨blk, h1, h2⟩ := hl
    by_cases hbb : b = b'
    · subst hbb; exact absurd ⟨blk, h1, h2⟩ hnot
    · rw [List.getElem?_set_ne hbb] at h1; exact ⟨blk, h1, h2⟩
  refine ⟨⟨s1.dom, fun b' l k e' hb' hn => ?_, s1.inj, fun b' l e' => by rw [hsz]; exact s1.lt b' l e'⟩, ⟨⟨x1.le, x1.old, by rw [hsz]; exact Nat.le_refl _, fun k hk hn => hother k (fun hcc => hn b _ hlive e hcc.symm), fun b' l e' hr => hother _ (fun hcc => ?_), x1.roStay, fun b' l hb' e' => absurd (s.dom b' l e') (by omega), x1.dead, ⟨rfl, rfl, rfl⟩⟩, x1.tot⟩⟩
  · obtain ⟨o2, ho2, hbr2⟩ := s1.rel b' l k e' hb' hn
    have hl' := hlv b' ⟨_, hb', hn⟩
    have hne : l.blk ≠ c := fun hcc => by
      have := s.inj b' b _ _ e' e hcc hl' hlive
      subst this
      exact hnot ⟨_, hb', hn⟩
    exact ⟨o2, by rw [hother _ hne]; exact ho2, hbr2⟩
  · have := s.inj b' b _ _ e' e hcc hr.live hlive
    subst this
    exact hro hr
theorem Sim.spare {h : AHeap} (s : Sim P μ h w) (o : Obj) : Sim P μ h (w.alloc o) ∧ Ext μ h w μ h (w.alloc o) :=
  ⟨⟨s.dom, fun b l blk e hb hn => by obtain ⟨o', ho, hbr⟩ := s.rel b l blk e hb hn; exact ⟨o', by rw [getElem?_alloc_old w o (s.lt b l e)]; exact ho, hbr⟩, s.inj, fun b l e => by rw [size_alloc']; have := s.lt b l e; omega⟩,
    ⟨⟨Nat.le_refl _, fun _ _ => rfl, by rw [size_alloc']; omega, fun c hc _ => getElem?_alloc_old w o hc, fun b l e _ => getElem?_alloc_old w o (s.lt b l e), fun _ _ => rfl, fun b l hb e => absurd (s.dom b l e) (by omega), fun _ _ h => h, ⟨rfl, rfl, rfl⟩⟩, fun b hb hl => absurd hl.lt (by omega)⟩⟩
theorem bytes_beq' (a b : ByteArray) : (a == b) = true ↔ a = b := by
  constructor
  · intro h
    have h' : (a.data == b.data) = true := h
    have := eq_of_beq h'
    cases a; cases b
    simp_all
  · rintro rfl
    show (a.data == a.data) = true
    exact beq_self_eq_true _
theorem keyEq_true {k : BK} {x y : Value} (h : keyEq k x y = some true) : x = y ∧ noRef1 x = true ∧ ∀ n, Instr.sameBits n x x = true := by
  cases k <;> cases x <;> simp only [keyEq] at h <;> try (cases h; done)
  all_goals (cases y <;> simp only [keyEq] at h <;> try (cases h; done))
  · split at h
    · rename_i e
      subst e
      simp at h
      subst h
      exact ⟨rfl, rfl, fun n => by cases n <;> simp [Instr.sameBits]⟩
    · cases h
  · simp at h
    subst h
    exact ⟨rfl, rfl, fun n => by cases n <;> simp [Instr.sameBits]⟩
  · have e := (bytes_beq' _ _).1 (Option.some.inj h)
    subst e
    exact ⟨rfl, rfl, fun n => by cases n <;> simp [Instr.sameBits, bytes_beq']⟩
theorem findMap_sound {k : BK} {x x' : Value} {d : TypeDesc} (hd : bkOf (some d) = some k) (hx : VR μ x x') : ∀ {es : List (Value × Value)} {l : List MapEntry} {r : Option Value} (i : Nat), VRL μ (es.map (·.1)) (l.map (·.key)) → VRL μ (es.map (·.2)) (l.map (·.val)) → findMap k x es = some r →
    (r = none ∧ Instr.findNow d x' l i = some none) ∨ ∃ v v' j, r = some v ∧ VR μ v v' ∧ Instr.findNow d x' l i = some (some (j, v'))
  | [], l, r, i, h1, h2, hf => by
    cases l with
    | nil => cases hf; exact .inl ⟨rfl, rfl⟩
    | cons a l => cases h1
  | (y, v) :: es, l, r, i, h1, h2, hf => by
    cases l with
    | nil => cases h1
    | cons a l =>
      simp only [List.map_cons] at h1 h2
      cases h1 with
      | cons k1 k2 =>
        cases h2 with
        | cons m1 m2 =>
          unfold findMap at hf
          split at hf
          · rename_i hk
            cases hf
            obtain ⟨q1, q2, q3⟩ := keyEq_sound hx k1 hd hk
            exact .inr ⟨v, a.val, i, rfl, m1, by unfold Instr.findNow; rw [q1]⟩
          · rename_i hk
            obtain ⟨q1, q2, q3⟩ := keyEq_sound hx k1 hd hk
            rcases findMap_sound hd hx (i + 1) k2 m2 hf with ⟨e1, e2⟩ | ⟨v1, v2, j, e1, e2, e3⟩
            · exact .inl ⟨e1, by unfold Instr.findNow; rw [q1]; exact e2⟩
            · exact .inr ⟨v1, v2, j, e1, e2, by unfold Instr.findNow; rw [q1]; exact e3⟩
          · cases hf
theorem setMap_sound {k : BK} {x x' v v' : Value} {d : TypeDesc} (hd : bkOf (some d) = some k) (hx : VR μ x x') (hv : VR μ v v') : ∀ {es es2 : List (Value × Value)} {l : List MapEntry} (i : Nat), VRL μ (es.map (·.1)) (l.map (·.key)) → VRL μ (es.map (·.2)) (l.map (·.val)) → setMap k x v es = some es2 →
    (Instr.findNow d x' l i = some none ∧ es2 = es ++ [(x, v)]) ∨ ∃ (j : Nat) (u : Value) (e : MapEntry), Instr.findNow d x' l i = some (some (i + j, u)) ∧ l[j]? = some e ∧ e.key = x' ∧ noRef1 x' = true ∧ (∀ n, Instr.sameBits n x' x' = true) ∧
      VRL μ (es2.map (·.1)) ((l.modify j fun e => { e with key := x', val := v' }).map (·.key)) ∧ VRL μ (es2.map (·.2)) ((l.modify j fun e => { e with key := x', val := v' }).map (·.val))
  | [], es2, l, i, h1, h2, hf => by
    cases l with
    | nil => cases hf; exact .inl ⟨rfl, rfl⟩
    | cons a l => cases h1
  | (y, u) :: es, es2, l, i, h1, h2, hf => by
    cases l with
    | nil => cases h1
    | cons a l =>
      simp only [List.map_cons] at h1 h2
      cases h1 with
      | cons k1 k2 =>
        cases h2 with
        | cons m1 m2 =>
          unfold setMap at hf
          split at hf
          · rename_i hk
            cases hf
            obtain ⟨q1, q2, q3⟩ := keyEq_sound hx k1 hd hk
            obtain ⟨z1, z2, z3⟩ := keyEq_true hk
            have hkx : noRef1 x' = true ∧ (∀ n, Instr.sameBits n x' x' = true) ∧ a.key = x' := by
              rw [q2]
              exact ⟨z2, z3, by rw [q3, z1]⟩
            refine .inr ⟨0, a.val, a, by unfold Instr.findNow; rw [q1]; rfl, rfl, hkx.2.2, hkx.1, hkx.2.1, ?_, ?_⟩
            · simp only [List.map_cons, List.modify_zero_cons]
              exact .cons hx k2
            · simp only [List.map_cons, List.modify_zero_cons]
              exact .cons hv m2
          · rename_i hk
            rw [Option.map_eq_some_iff] at hf
            obtain ⟨q, hq, rfl⟩ := hf
            obtain ⟨q1, q2, q3⟩ := keyEq_sound hx k1 hd hk
            rcases setMap_sound hd hx hv (i + 1) k2 m2 hq with ⟨e1, rfl⟩ | ⟨j, u2, e, e1, e2, e3, e4, e5, e6, e7⟩
            · exact .inl ⟨by unfold Instr.findNow; rw [q1]; exact e1, rfl⟩
            · refine .inr ⟨j + 1, u2, e, by unfold Instr.findNow; rw [q1]; rw [show i + (j + 1) = i + 1 + j by omega]; exact e1, by simpa using e2, e3, e4, e5, ?_, ?_⟩
              · simp only [List.map_cons, List.modify_succ_cons]
                exact .cons k1 e6
              · simp only [List.map_cons, List.modify_succ_cons]
                exact .cons m1 e7
          · cases hf
theorem checkKey_simple {empty : Bool} {n : Nat} {t : TypeId} {d : TypeDesc} {k : BK} {v : Value} (ht : P.underlying t = some d) (hd : bkOf (some d) = some k) : (Instr.checkKey empty (n + 1) t v).run P w = .ok () w := by
  unfold Instr.checkKey
  simp only [Sem.run_bind, run_underlying' ht, Result.andThen_ok]
  cases d <;> simp [bkOf] at hd <;> simp [Sem.run_pure]
theorem mapOf_sound {x x' : Value} {h : AHeap} {es : List (Value × Value)} (s : Sim P μ h w) (hx : VR μ x x') (hm : mapOf x h = some es) :
    (x = .map none ∧ x' = .map none ∧ es = []) ∨ ∃ b c K l clock, x = .map (some b) ∧ x' = .map (some c) ∧ μ b = some ⟨c, K⟩ ∧ h[b]? = some (.map es) ∧ w.heap[c]? = some (.map l clock) ∧ VRL μ (es.map (·.1)) (l.toList.map (·.key)) ∧ VRL μ (es.map (·.2)) (l.toList.map (·.val)) := by
  unfold mapOf at hm
  split at hm
  · cases hm; cases hx; exact .inl ⟨rfl, rfl, rfl⟩
  · rename_i b
    split at hm
    · rename_i es' hb
      cases hm
      cases hx with
      | @map _ c K e =>
        obtain ⟨o, ho, l, clock, rfl, h2, h3⟩ := s.rel b _ _ e hb (by simp)
        exact .inr ⟨b, c, K, l, clock, rfl, rfl, e, hb, ho, h2, h3⟩
    · cases hm
  · cases hm
theorem lookupf_sound {k : BK} {zero : Value} {ok : Bool} {x x' i i' v : Value} {h : AHeap} (s : Sim P μ h w) (hx : VR μ x x') (hi : VR μ i i') (hl : lookupf k zero ok x i h = some v)
    {t key elem : TypeId} {d : TypeDesc} (ht : P.underlying t = some (.map key elem)) (hk : P.underlying key = some d) (hd : bkOf (some d) = some k) {ie : TypeInfo} (hie : P.info? elem = some ie) (hz : ie.zero = some zero) (hz0 : VR μ zero zero) :
    ∃ v', (Instr.lookup t x' i' ok).run P w = .ok v' w ∧ VR μ v v' := by
  unfold lookupf at hl
  simp only [Option.bind_eq_some_iff, Option.map_eq_some_iff] at hl
  obtain ⟨es, hm, r, hf, rfl⟩ := hl
  have hzv : (zeroValue elem).run P w = .ok zero w := by simp [zeroValue, typeInfo, hie, hz]
  have hck : ∀ b, (Instr.checkKey b 10000 key i').run P w = .ok () w := fun b => checkKey_simple (n := 9999) hk hd
  rcases mapOf_sound s hx hm with ⟨rfl, rfl, rfl⟩ | ⟨b, c, K, l, clock, rfl, rfl, e, hb, ho, h2, h3⟩
  · cases hf
    refine ⟨if ok then .tuple #[zero, .bool false] else zero, ?_, ?_⟩
    · simp only [Instr.lookup, Sem.run_bind, run_underlying' ht, Result.andThen_ok, Sem.run_pure, hck, Instr.findKey, run_underlying' hk, Instr.findNow, hzv]
    · cases ok
      · exact hz0
      · exact .tuple (.cons hz0 (.cons (.bool _) .nil))
  · have hg : (getObj c).run P w = .ok (.map l clock) w := by simp [getObj, Sem.run, ho]
    rcases findMap_sound hd hi 0 h2 h3 hf with ⟨rfl, e2⟩ | ⟨v1, v2, j, rfl, e2, e3⟩
    · refine ⟨if ok then .tuple #[zero, .bool false] else zero, ?_, ?_⟩
      · simp only [Instr.lookup, Sem.run_bind, run_underlying' ht, Result.andThen_ok, Sem.run_pure, hg, hck, Instr.findKey, run_underlying' hk, e2, hzv]
      · cases ok
        · exact hz0
        · exact .tuple (.cons hz0 (.cons (.bool _) .nil))
    · refine ⟨if ok then .tuple #[v2, .bool true] else v2, ?_, ?_⟩
      · simp only [Instr.lookup, Sem.run_bind, run_underlying' ht, Result.andThen_ok, Sem.run_pure, hg, hck, Instr.findKey, run_underlying' hk, e3]
      · cases ok
        · exact e2
        · exact .tuple (.cons e2 (.cons (.bool _) .nil))
theorem setMapf_sound {k : BK} {x x' i i' v v' : Value} {h h1 : AHeap} (s : Sim P μ h w) (hx : VR μ x x') (hi : VR μ i i') (hv : VR μ v v') (hl : setMapf k x i v h = some h1)
    {t key elem : TypeId} {d : TypeDesc} (ht : P.underlying t = some (.map key elem)) (hk : P.underlying key = some d) (hd : bkOf (some d) = some k) :
    ∃ w1, (Instr.mapUpdate t x' i' v').run P w = .ok () w1 ∧ Sim P μ h1 w1 ∧ Ext μ h w μ h1 w1 := by
  unfold setMapf at hl
  split at hl
  · rename_i b
    split at hl
    · rename_i es hb
      rw [Option.map_eq_some_iff] at hl
      obtain ⟨es2, hs, rfl⟩ := hl
      have hck : ∀ b, (Instr.checkKey b 10000 key i').run P w = .ok () w := fun b => checkKey_simple (n := 9999) hk hd
      cases hx with
      | @map _ c K e =>
        obtain ⟨o, ho, l, clock, rfl, h2, h3⟩ := s.rel b _ _ e hb (by simp)
        have hg : (getObj c).run P w = .ok (.map l clock) w := by simp [getObj, Sem.run, ho]
        have hset : ∀ o2, (setObj c o2).run P w = .ok () (w.putObj c o2) := fun o2 => by simp [setObj, Sem.run, ho, World.putObj]
        have hro : ¬ isRo h b := by rintro ⟨vs, t', e2⟩; rw [hb] at e2; cases e2
        rcases setMap_sound hd hi hv 0 h2 h3 hs with ⟨e1, rfl⟩ | ⟨j, u, en, e1, e2, e3, e4, e5, e6, e7⟩
        · obtain ⟨q1, q2⟩ := s.setBlk (blk' := .map (es ++ [(i, v)])) (o' := .map (l.push { key := i', val := v', born := clock }) (clock + 1)) e hb (by simp) hro (by simp) (by simp)
            ⟨_, _, rfl, by simpa using h2.append (.cons hi .nil), by simpa using h3.append (.cons hv .nil)⟩
          refine ⟨_, ?_, q1, q2⟩
          simp only [Instr.mapUpdate, Sem.run_bind, run_underlying' ht, Result.andThen_ok, hg, hck, Instr.findKey, run_underlying' hk, e1, Sem.run_pure, hset]
        · obtain ⟨q1, q2⟩ := s.setBlk (blk' := .map es2) (o' := .map (l.modify j fun e => { e with key := i', val := v' }) clock) e hb (by simp) hro (by simp) (by simp)
            ⟨_, _, rfl, by simpa using e6, by simpa using e7⟩
          refine ⟨_, ?_, q1, q2⟩
          have hj : (((l[j]?).map (·.key)).getD i') = i' := by
            have e2' : l[j]? = some en := by simpa using e2
            rw [e2']
            simpa using e3
          rw [Nat.zero_add] at e1
          simp only [Instr.mapUpdate, Sem.run_bind, run_underlying' ht, Result.andThen_ok, hg, hck, Instr.findKey, run_underlying' hk, e1, Sem.run_pure, hj, Instr.keyThatStays, e5, if_true, Nat.zero_add, hset]
    · cases hl
  · cases hl
theorem mkMap_sound {h : AHeap} (s : Sim P μ h w) {t : TypeId} : ∃ w1 μ1 v', (Instr.makeMap t none).run P w = .ok v' w1 ∧ VR μ1 (.map (some h.length)) v' ∧ Sim P μ1 (h ++ [.map []]) w1 ∧ Ext μ h w μ1 (h ++ [.map []]) w1 := by
  obtain ⟨q1, q2⟩ := s.alloc (w0 := w) rfl Out.rfl (K := 0) (blk := .map []) (o := .map #[] 0) ⟨_, _, rfl, .nil, .nil⟩
  refine ⟨_, _, .map (some w.heap.size), ?_, .map (grow_new h.length w.heap.size 0), q1, q2⟩
  simp only [Instr.makeMap, Sem.run_bind, run_newObj, Result.andThen_ok, Sem.run_pure]
  rfl
theorem lenMapf_sound {x x' v : Value} {h : AHeap} (s : Sim P μ h w) (hx : VR μ x x') (hl : lenMapf x h = some v) {ty t k e : TypeId} (ht : P.underlying t = some (.map k e)) :
    (Builtin.len_ #[t] ty #[x']).run P w = .ok v w ∧ VR μ v v := by
  unfold lenMapf at hl
  rw [Option.map_eq_some_iff] at hl
  obtain ⟨es, hm, rfl⟩ := hl
  refine ⟨?_, .int _ _⟩
  rcases mapOf_sound s hx hm with ⟨rfl, rfl, rfl⟩ | ⟨b, c, K, l, clock, rfl, rfl, e, hb, ho, h2, h3⟩
  · simp [Builtin.len_, run_underlying' ht, goInt]
  · have hll := h2.length
    simp only [List.length_map, Array.length_toList] at hll
    have hg : (getObj c).run P w = .ok (.map l clock) w := by simp [getObj, Sem.run, ho]
    simp [Builtin.len_, run_underlying' ht, hg, hll, goInt]
end Go.Am
/- From the model's operations to the machine's, and that each is met. -/
namespace Go.Am
variable {P : Program} {μ : Ren} {w : World}
theorem layOf_spec {t : TypeId} {agg : Bool} {n : Nat} (h : layOf P t = some (agg, n)) : ∃ d i, P.underlying t = some d ∧ P.info? t = some i ∧ isAggD d = agg ∧ i.size = n ∧ 0 < n := by
  unfold layOf at h
  split at h
  · rename_i d i hd hi
    split at h
    · rename_i h0
      cases h
      exact ⟨d, i, hd, hi, rfl, rfl, h0⟩
    · cases h
  · cases h
theorem zeroLay_spec {t : TypeId} {zero : List Value} (h : zeroLay P t = some zero) : ∃ i z, P.info? t = some i ∧ i.zero = some z ∧ z.cells.toList = zero ∧ zero.all noRef1 = true ∧ z.cells.size = i.size ∧ 0 < i.size ∧ i.bytes ≤ 16384 := by
  unfold zeroLay at h
  split at h
  · rename_i i hi
    split at h
    · rename_i z hz
      split at h
      · rename_i hc
        cases h
        exact ⟨i, z, hi, hz, rfl, hc.1, hc.2.1, hc.2.2.1, hc.2.2.2⟩
      · cases h
    · cases h
  · cases h
theorem isNilConst_spec {d : TypeDesc} {x : Operand} (h : isNilConst d x = true) : ∃ z, x = .const z ∧ nilOf d = some z := by
  unfold isNilConst at h
  split at h <;> first | exact ⟨_, rfl, rfl⟩ | cases h
theorem negOf_spec {op : BinOp} {neg : Bool} (h : negOf op = some neg) : op = if neg then .neq else .eql := by
  cases op <;> simp [negOf] at h <;> subst h <;> rfl
theorem kindOk_of {d : TypeDesc} {k : NilKind} {x : Value} (h : kindOf d = some k) (hk : kindIs k x = true) : kindOk d x = true := by
  cases d <;> simp [kindOf] at h <;> subst h <;> cases x <;> simp_all [kindIs, kindOk]
theorem fieldOf_spec {t : TypeId} {f : Nat} {fd : Field} {agg : Bool} {n : Nat} (h : fieldOf P t f = some (fd, agg, n)) :
    ∃ fs d i, P.underlying t = some (.struct fs) ∧ fs[f]? = some fd ∧ P.underlying fd.type = some d ∧ P.info? fd.type = some i ∧ isAggD d = agg ∧ i.size = n ∧ 0 < n := by
  unfold fieldOf at h
  split at h
  · rename_i fs hu
    split at h
    · rename_i fd' hf
      rw [Option.map_eq_some_iff] at h
      obtain ⟨⟨a, m⟩, hl, e⟩ := h
      cases e
      obtain ⟨d, i, h1, h2, h3, h4, h5⟩ := layOf_spec hl
      exact ⟨fs, d, i, hu, hf, h1, h2, h3, h4, h5⟩
    · cases h
  · cases h
theorem built_of {t : TypeId} {place : Nat → Option (Nat × Nat)} {i : TypeInfo} {z : Value} (h : placeOf P t = some place) (hi : P.info? t = some i) (hz : i.zero = some z) (parts : List (Nat × Value)) :
    P.built t parts = Instr.fill place z.cells parts := by
  unfold placeOf at h
  unfold Program.built
  rw [hi]
  split at h
  · rename_i n e hu
    rw [Option.map_eq_some_iff] at h
    obtain ⟨ie, hie, rfl⟩ := h
    simp only [hu, hz, hie]
  · rename_i fs hu
    rw [Option.map_eq_some_iff] at h
    obtain ⟨l, hl, rfl⟩ := h
    simp only [hu, hz, hl]
  · cases h
def OpR (μ : Ren) (e : Env) (ρ : Operand → Value) : Prop := ∀ x, okX x = true → VR μ (val e x) (ρ x)
theorem partsOf_spec {place : Nat → Option (Nat × Nat)} {e : Env} {ρ : Operand → Value} (he : OpR μ e ρ) : ∀ {l : List (Nat × Operand)} {ps : List (Nat × Nat × Operand)}, partsOf place l = some ps → (l.all fun x => okX x.2) = true →
    PartsR μ place (valP e ps) (l.map fun x => (x.1, ρ x.2))
  | [], ps, h, _ => by cases h; trivial
  | (i, x) :: r, ps, h, hk => by
    simp only [List.all_cons, Bool.and_eq_true] at hk
    unfold partsOf at h
    split at h
    · rename_i off size ps' hp hps
      split at h
      · rename_i h0
        cases h
        exact ⟨hp, h0, he x hk.1, partsOf_spec he hps hk.2⟩
      · cases h
    · cases h
theorem vals_rel {e : Env} {ρ : Operand → Value} (he : OpR μ e ρ) : ∀ {l : List Operand}, okL l = true → VRL μ (vals e l) (l.map ρ)
  | [], _ => .nil
  | x :: l, h => by
    simp only [okL, List.all_cons, Bool.and_eq_true] at h
    exact .cons (he x h.1) (vals_rel he h.2)
theorem valO_rel {e : Env} {ρ : Operand → Value} (he : OpR μ e ρ) {x : Option Operand} (h : (x.all okX) = true) : OR μ (valO e x) (x.map ρ) := by
  cases x with
  | none => trivial
  | some x => exact he x h
end Go.Am
/- Each operation that is no call goes as the machine says. -/
namespace Go.Am
variable {P : Program} {μ : Ren} {w : World}
def OpGoes (P : Program) (o : Oper) (ρ : Operand → Value) (μ : Ren) (h : AHeap) (w : World) (v : Value) (h1 : AHeap) : Prop :=
  ∃ v' w1 μ1, ((execOp ρ o).run P w = .ok (.value v') w1 ∨ ((execOp ρ o).run P w = .ok .skip w1 ∧ v' = undef)) ∧ VR μ1 v v' ∧ Sim P μ1 h1 w1 ∧ Ext μ h w μ1 h1 w1
def isCall : AOp → Bool
  | .call _ _ | .callV _ _ => true
  | _ => false
section
variable {o : Oper} {ρ : Operand → Value} {h : AHeap} {v : Value} {h1 : AHeap}
theorem OpGoes.pure (s : Sim P μ h w) {v' : Value} (hr : (execOp ρ o).run P w = .ok (.value v') w) (hv : VR μ v v') : OpGoes P o ρ μ h w v h :=
  ⟨v', w, μ, .inl hr, hv, s, Ext.refl _ _ _ s.dom⟩
theorem OpGoes.val {v' : Value} {w1 : World} {μ1 : Ren} (hr : (execOp ρ o).run P w = .ok (.value v') w1) (hv : VR μ1 v v') (s : Sim P μ1 h1 w1) (x : Ext μ h w μ1 h1 w1) : OpGoes P o ρ μ h w v h1 :=
  ⟨v', w1, μ1, .inl hr, hv, s, x⟩
end
theorem run_v {x : Sem Value} {y : Value} {w1 : World} (h : x.run P w = .ok y w1) : (do pure (Next.value (← x)) : Sem Next).run P w = .ok (.value y) w1 := by
  simp only [Sem.run_bind, h, Result.andThen_ok, Sem.run_pure]
theorem run_builtin {b : Builtin} {args : Array Operand} {argTypes : Array TypeId} {dst : Option Tmp} {type : TypeId} {pos : String} {after : Array Edge} {guard : Option (Nat × Bool)} {ρ : Operand → Value} {v : Value} {w1 : World}
    (h : (builtin b argTypes type (args.map fun | .const _ => true | _ => false) (args.toList.map ρ).toArray).run P w = .ok (.value v) w1) :
    (execOp ρ ⟨dst, .call ⟨.builtin b, args, argTypes⟩, type, pos, after, guard⟩).run P w = .ok (.value v) w1 := by
  have hm : args.map ρ = (args.toList.map ρ).toArray := Array.ext' (by simp)
  simp only [execOp, resolve, Sem.run_bind, Sem.run_pure, Result.andThen_ok, invoke]
  rw [hm]
  exact h
theorem okL_mem {l : List Operand} (h : okL l = true) {x : Operand} (hx : x ∈ l) : okX x = true := List.all_eq_true.1 h x hx
theorem op_sound {o : Oper} {ao : AOp} {e : Env} {ρ : Operand → Value} {h h1 : AHeap} {v : Value} {Γ : Callee} (hc : compOp P o.op = some ao) (hn : isCall ao = false) (he : OpR μ e ρ) (s : Sim P μ h w)
    (hk : opK Γ ao e h (fun v h' => some (v, h')) = some (v, h1)) : OpGoes P o ρ μ h w v h1 := by
  unfold compOp at hc
  split at hc
  · rename_i hok
    obtain ⟨dst, op, type, pos, after, guard⟩ := o
    simp only at hc hok
    have hX : ∀ {x : Operand}, x ∈ op.operands.toList → VR μ (val e x) (ρ x) := fun hx => he _ (okL_mem hok hx)
    cases op with
    | move x =>
      cases hc
      cases hk
      exact .pure s rfl (hX (by simp [Op.operands]))
    | assign x =>
      cases hc
      cases hk
      exact .pure s rfl (hX (by simp [Op.operands]))
    | pick c a b =>
      cases hc
      simp only [opK, Option.bind_eq_some_iff] at hk
      obtain ⟨u, hu, hk⟩ := hk
      cases hk
      obtain ⟨t, ht, hv⟩ := pickf_sound (hX (x := c) (by simp [Op.operands])) (hX (x := a) (by simp [Op.operands])) (hX (x := b) (by simp [Op.operands])) hu
      exact .pure s (by simp [execOp, ht, asBool]) hv
    | binOp op t x y yt =>
      have hx := hX (x := x) (by simp [Op.operands])
      have hy := hX (x := y) (by simp [Op.operands])
      simp only [compOp1, compBin] at hc
      split at hc
      · cases hc
        simp only [opK, Option.bind_eq_some_iff] at hk
        obtain ⟨u, hu, hk⟩ := hk
        cases hk
        obtain ⟨hr, hv⟩ := binf_sound (P := P) (w := w) (t := t) (X := x) (Y := y) hx hy hu
        exact .pure s (run_v hr) hv
      · cases hc
        simp only [opK, Option.bind_eq_some_iff] at hk
        obtain ⟨u, hu, hk⟩ := hk
        cases hk
        obtain ⟨hr, hv⟩ := binf_sound (P := P) (w := w) (t := t) (X := x) (Y := y) hx hy hu
        exact .pure s (run_v hr) hv
      · rename_i ht
        rw [Option.map_eq_some_iff] at hc
        obtain ⟨neg, hneg, hc⟩ := hc
        cases hc
        simp only [opK, Option.bind_eq_some_iff] at hk
        obtain ⟨u, hu, hk⟩ := hk
        cases hk
        obtain ⟨hr, hv⟩ := eqBoolf_sound (P := P) (w := w) (t := t) (X := x) (Y := y) hx hy hu ht (negOf_spec hneg)
        exact .pure s (run_v hr) hv
      · split at hc
        · rename_i neg ks hneg hflat
          cases hc
          simp only [opK, Option.bind_eq_some_iff] at hk
          obtain ⟨u, hu, hk⟩ := hk
          cases hk
          obtain ⟨hr, hv⟩ := eqAggf_sound (P := P) (w := w) (t := t) (X := x) (Y := y) hx hy hu hflat (negOf_spec hneg)
          exact .pure s (run_v hr) hv
        · cases hc
      · split at hc
        · rename_i neg ks hneg hflat
          cases hc
          simp only [opK, Option.bind_eq_some_iff] at hk
          obtain ⟨u, hu, hk⟩ := hk
          cases hk
          obtain ⟨hr, hv⟩ := eqAggf_sound (P := P) (w := w) (t := t) (X := x) (Y := y) hx hy hu hflat (negOf_spec hneg)
          exact .pure s (run_v hr) hv
        · cases hc
      · rename_i d _ _ _ _ _ ht
        split at hc
        · rename_i neg k hneg hkd
          split at hc
          · rename_i hnc
            cases hc
            simp only [opK, Option.bind_eq_some_iff] at hk
            obtain ⟨u, hu, hk⟩ := hk
            cases hk
            obtain ⟨z, rfl, hz⟩ := isNilConst_spec hnc
            unfold isNilKf at hu
            split at hu
            · rename_i hkk
              obtain ⟨hr, _, hv⟩ := isNilf_sound (P := P) (w := w) (t := t) (X := x) (Y := .const z) hx hu ht hz (kindOk_of hkd hkk) (negOf_spec hneg)
              have hy2 : ρ (.const z) = z := VR.eq_of_noRef (v := z) (show okX (.const z) = true from okL_mem hok (by simp [Op.operands])) hy
              refine .pure s (run_v (x := do eqGuard op t x (.const z) (ρ x) (ρ (.const z)); binOp op t (ρ x) (ρ (.const z))) ?_) hv
              rw [hy2]
              exact hr rfl
            · cases hu
          · split at hc
            · rename_i hnc
              cases hc
              simp only [opK, Option.bind_eq_some_iff] at hk
              obtain ⟨u, hu, hk⟩ := hk
              cases hk
              obtain ⟨z, rfl, hz⟩ := isNilConst_spec hnc
              unfold isNilKf at hu
              split at hu
              · rename_i hkk
                obtain ⟨_, hr, hv⟩ := isNilf_sound (P := P) (w := w) (t := t) (X := .const z) (Y := y) hy hu ht hz (kindOk_of hkd hkk) (negOf_spec hneg)
                have hy2 : ρ (.const z) = z := VR.eq_of_noRef (v := z) (show okX (.const z) = true from okL_mem hok (by simp [Op.operands])) hx
                refine .pure s (run_v (x := do eqGuard op t (.const z) y (ρ (.const z)) (ρ y); binOp op t (ρ (.const z)) (ρ y)) ?_) hv
                rw [hy2]
                exact hr rfl
              · cases hu
            · cases hc
        · cases hc
      · cases hc
    | unOp op t x =>
      cases hc
      simp only [opK, Option.bind_eq_some_iff] at hk
      obtain ⟨u, hu, hk⟩ := hk
      cases hk
      obtain ⟨hr, hv⟩ := unf_sound (P := P) (w := w) (hX (x := x) (by simp [Op.operands])) hu
      exact .pure s (by simp [execOp, hr]) hv
    | convert sr d x =>
      have hx := hX (x := x) (by simp [Op.operands])
      simp only [compOp1, compConv] at hc
      split at hc
      · rename_i h2 h3
        cases hc
        simp only [opK, Option.bind_eq_some_iff] at hk
        obtain ⟨u, hu, hk⟩ := hk
        cases hk
        obtain ⟨hr, hv⟩ := convf_sound (P := P) (w := w) hx hu h2 h3
        exact .pure s (run_v hr) hv
      · rename_i h2 h3
        cases hc
        simp only [opK, Option.bind_eq_some_iff] at hk
        obtain ⟨u, hu, hk⟩ := hk
        cases hk
        obtain ⟨hr, hv⟩ := strIdf_sound (P := P) (w := w) hx hu h2 h3
        exact .pure s (run_v hr) hv
      · rename_i h2 h3
        split at hc
        · rename_i h4
          cases hc
          simp only [opK, Option.bind_eq_some_iff] at hk
          obtain ⟨u, hu, hk⟩ := hk
          cases hk
          obtain ⟨hr, hv⟩ := bytesToStrf_sound (P := P) (w := w) s hx hu h2 h4 h3
          exact .pure s (run_v hr) hv
        · cases hc
      · cases hc
    | extract x i =>
      cases hc
      simp only [opK, Option.bind_eq_some_iff] at hk
      obtain ⟨u, hu, hk⟩ := hk
      cases hk
      obtain ⟨v', hr, hv⟩ := extractf_sound (P := P) (w := w) (hX (x := x) (by simp [Op.operands])) hu
      exact .pure s (by simp [execOp, hr]) hv
    | field t x f =>
      simp only [compOp1, Option.map_eq_some_iff] at hc
      obtain ⟨⟨fd, agg, n⟩, hf, hc⟩ := hc
      cases hc
      simp only [opK, Option.bind_eq_some_iff] at hk
      obtain ⟨u, hu, hk⟩ := hk
      cases hk
      obtain ⟨fs, d, i, h1, h2, h3, h4, h5, h6, h7⟩ := fieldOf_spec hf
      obtain ⟨v', hr, hv⟩ := fieldf_sound (P := P) (w := w) (hX (x := x) (by simp [Op.operands])) hu h1 h2 rfl h3 h4 h5 h6
      exact .pure s (by simp [execOp, hr]) hv
    | fieldAddr t x f =>
      simp only [compOp1, Option.map_eq_some_iff] at hc
      obtain ⟨⟨fd, agg, n⟩, hf, hc⟩ := hc
      cases hc
      simp only [opK, Option.bind_eq_some_iff] at hk
      obtain ⟨u, hu, hk⟩ := hk
      cases hk
      obtain ⟨fs, d, i, h1, h2, h3, h4, h5, h6, h7⟩ := fieldOf_spec hf
      obtain ⟨v', hr, hv⟩ := fieldAddrf_sound (P := P) (w := w) (hX (x := x) (by simp [Op.operands])) hu h1 h2 rfl h4 (by omega)
      exact .pure s (by simp [execOp, hr]) hv
    | indexAddr t x ix =>
      have hx := hX (x := x) (by simp [Op.operands])
      have hy := hX (x := ix) (by simp [Op.operands])
      simp only [compOp1] at hc
      split at hc
      · rename_i e' ht
        rw [Option.map_eq_some_iff] at hc
        obtain ⟨⟨agg, n⟩, hl, hc⟩ := hc
        cases hc
        simp only [opK, Option.bind_eq_some_iff] at hk
        obtain ⟨u, hu, hk⟩ := hk
        cases hk
        obtain ⟨d, i, h1, h2, h3, h4, h5⟩ := layOf_spec hl
        obtain ⟨v', hr, hv⟩ := indexAddrf_sound (P := P) (w := w) hx hy hu ht h2 h4
        exact .pure s (run_v hr) hv
      · rename_i n' e' ht
        rw [Option.map_eq_some_iff] at hc
        obtain ⟨⟨agg, n⟩, hl, hc⟩ := hc
        cases hc
        simp only [opK, Option.bind_eq_some_iff] at hk
        obtain ⟨u, hu, hk⟩ := hk
        cases hk
        obtain ⟨d, i, h1, h2, h3, h4, h5⟩ := layOf_spec hl
        obtain ⟨v', hr, hv⟩ := indexAddrArrf_sound (P := P) (w := w) hx hy hu ht h2 h4
        exact .pure s (run_v hr) hv
      · cases hc
    | index t x ix =>
      have hx := hX (x := x) (by simp [Op.operands])
      have hy := hX (x := ix) (by simp [Op.operands])
      simp only [compOp1] at hc
      split at hc
      · rename_i n' e' ht
        rw [Option.map_eq_some_iff] at hc
        obtain ⟨⟨agg, n⟩, hl, hc⟩ := hc
        cases hc
        simp only [opK, Option.bind_eq_some_iff] at hk
        obtain ⟨u, hu, hk⟩ := hk
        cases hk
        obtain ⟨d, i, h1, h2, h3, h4, h5⟩ := layOf_spec hl
        obtain ⟨v', hr, hv⟩ := indexArrf_sound (P := P) (w := w) hx hy hu ht h1 h2 h3 h4
        exact .pure s (run_v hr) hv
      · rename_i ht
        cases hc
        simp only [opK, Option.bind_eq_some_iff] at hk
        obtain ⟨u, hu, hk⟩ := hk
        cases hk
        obtain ⟨hr, hv⟩ := indexStrf_sound (P := P) (w := w) hx hy hu ht
        exact .pure s (run_v hr) hv
      · cases hc
    | nilCheck x =>
      cases hc
      simp only [opK, Option.bind_eq_some_iff] at hk
      obtain ⟨u, hu, hk⟩ := hk
      cases hk
      have hx := hX (x := x) (by simp [Op.operands])
      have hx2 := hx
      unfold nilCheckf at hu
      split at hu
      · rename_i a ha
        cases hu
        rw [ha] at hx2
        generalize hy : ρ x = y at hx2
        cases hx2 with
        | ptr e1 => exact .pure s (by simp [execOp, hy]) (.ptr e1)
      · rename_i f xs ys ha
        cases hu
        rw [ha] at hx2
        generalize hy : ρ x = y at hx2
        cases hx2 with
        | func f e1 e2 => exact .pure s (by simp [execOp, hy]) (.func f e1 e2)
      · cases hu
    | slice t x lo hi mx =>
      have hx := hX (x := x) (by simp [Op.operands])
      have h1 : OR μ (valO e lo) (lo.map ρ) := valO_rel he (by cases lo <;> first | rfl | exact okL_mem hok (by simp [Op.operands]))
      have h2 : OR μ (valO e hi) (hi.map ρ) := valO_rel he (by cases hi <;> first | rfl | exact okL_mem hok (by simp [Op.operands]))
      have h3 : OR μ (valO e mx) (mx.map ρ) := valO_rel he (by cases mx <;> first | rfl | exact okL_mem hok (by simp [Op.operands]))
      simp only [compOp1] at hc
      split at hc
      · rename_i hmx
        have hmx' : (valO e mx).isSome = true → (valO e hi).isSome = true := by
          intro hs
          have := hmx (by cases mx <;> simp_all [valO])
          cases hi <;> simp_all [valO]
        split at hc
        · rename_i e' ht
          rw [Option.map_eq_some_iff] at hc
          obtain ⟨⟨agg, n⟩, hl, hc⟩ := hc
          cases hc
          simp only [opK, Option.bind_eq_some_iff] at hk
          obtain ⟨u, hu, hk⟩ := hk
          cases hk
          obtain ⟨d, i, h4, h5, h6, h7, h8⟩ := layOf_spec hl
          obtain ⟨v', hr, hv⟩ := slicef_sound (P := P) (w := w) hx h1 h2 h3 hmx' hu ht h5 h7 h8
          exact .pure s (run_v hr) hv
        · rename_i ht
          split at hc
          · rename_i hmn
            cases hc
            simp only [opK, Option.bind_eq_some_iff] at hk
            obtain ⟨u, hu, hk⟩ := hk
            cases hk
            obtain ⟨hr, hv⟩ := sliceStrf_sound (P := P) (w := w) hx h1 h2 hu ht
            cases mx with
            | none => exact .pure s (run_v hr) hv
            | some _ => cases hmn
          · cases hc
        · rename_i n' e' ht
          split at hc
          · rename_i hlt
            rw [Option.map_eq_some_iff] at hc
            obtain ⟨⟨agg, n⟩, hl, hc⟩ := hc
            cases hc
            simp only [opK, Option.bind_eq_some_iff] at hk
            obtain ⟨u, hu, hk⟩ := hk
            cases hk
            obtain ⟨d, i, h4, h5, h6, h7, h8⟩ := layOf_spec hl
            obtain ⟨v', hr, hv⟩ := sliceArrf_sound (P := P) (w := w) hx h1 h2 h3 hmx' hu ht h5 h7 hlt
            exact .pure s (run_v hr) hv
          · cases hc
        · cases hc
      · cases hc
    | build t parts =>
      simp only [compOp1] at hc
      split at hc
      · rename_i z0 place hz hp
        rw [Option.map_eq_some_iff] at hc
        obtain ⟨ps, hps, hc⟩ := hc
        cases hc
        simp only [opK, Option.bind_eq_some_iff] at hk
        obtain ⟨l, hl, hk⟩ := hk
        cases hk
        obtain ⟨i, z, h2, h3, rfl, h5, h6, h7, h8⟩ := zeroLay_spec hz
        have hpr := partsOf_spec he hps (by simpa [okL, Op.operands] using hok)
        obtain ⟨cs', hf, hv⟩ := fillf_sound hpr (VRL.of_noRef1 h5) hl
        have hb := built_of hp h2 h3 (parts.toList.map fun x => (x.1, ρ x.2))
        rw [hf] at hb
        refine .pure s (v' := .agg cs') (run_v ?_) (.agg hv)
        refine run_build w t _ cs' ?_
        simpa using hb
      · cases hc
    | buildSlice t n parts =>
      simp only [compOp1] at hc
      split at hc
      · rename_i e' ht
        split at hc
        · rename_i z0 agg sz hz hl
          split at hc
          · rename_i hsmall
            rw [Option.map_eq_some_iff] at hc
            obtain ⟨ps, hps, hc⟩ := hc
            cases hc
            simp only [opK, Option.bind_eq_some_iff] at hk
            obtain ⟨l, hl', hk⟩ := hk
            cases hk
            obtain ⟨i, z, h2, h3, rfl, h5, h6, h7, h8⟩ := zeroLay_spec hz
            obtain ⟨d, i', g1, g2, g3, g4, g5⟩ := layOf_spec hl
            rw [h2] at g2
            cases g2
            subst g4
            have hpr := partsOf_spec he hps (by simpa [okL, Op.operands] using hok)
            have hrep : ((Array.range (n * i.size)).map (z.cells[· % z.cells.size]!)).toList = rep z.cells.toList n := by
              rw [← h6]
              exact rep_eq _ _
            obtain ⟨cs', hf, hv⟩ := fillf_sound (cs := (Array.range (n * i.size)).map (z.cells[· % z.cells.size]!)) hpr (by rw [hrep]; exact (VRL.of_noRef1 h5).rep _) hl'
            have hlen : l.length = cs'.size := by simpa using hv.length
            have hbr : BR P (grow μ h.length w.heap.size 0) 0 (.cells l e' true) (.cells cs' e' (0, 0)) :=
              ⟨_, _, rfl, by omega, by rw [hlen, List.take_of_length_le (by simp)]; exact hv.mono (grow_le s _ _), fun _ => rfl, by omega⟩
            obtain ⟨h9, h10⟩ := s.alloc (w0 := w) rfl Out.rfl hbr
            have hU : n < capU := by
              have : n ≤ n * i.size := Nat.le_mul_of_pos_right _ g5
              unfold capU
              omega
            refine .val (run_v (run_buildSlice w t e' n _ cs' i z ht h2 h3 (by omega) ?_ ?_)) (.sl (grow_new _ _ _) (.inl ⟨hU, rfl⟩)) h9 h10
            · have : 0 < n * i.size := Nat.mul_pos hsmall.2 g5
              omega
            · simpa using hf
          · split at hc
            · rename_i h0
              cases hc
              obtain ⟨rfl, hpe⟩ := h0
              have hpe' : parts = #[] := by
                cases parts with
                | mk l => cases l with
                  | nil => rfl
                  | cons => cases hpe
              subst hpe'
              have hk' : v = .slice (some ⟨h.length, 0, none⟩) 0 0 ∧ h1 = h ++ [.cells [] e' true] := by
                simp only [opK, rep, valP, fillf, Option.bind_some] at hk
                cases hk
                exact ⟨rfl, rfl⟩
              obtain ⟨rfl, rfl⟩ := hk'
              obtain ⟨d, i', g1, g2, g3, g4, g5⟩ := layOf_spec hl
              have hbr : BR P (grow μ h.length w.heap.size 0) 0 (.cells [] e' true) (.cells #[] e' (0, 0)) :=
                ⟨_, _, rfl, by simp, .nil, fun _ => rfl, by omega⟩
              obtain ⟨h9, h10⟩ := s.alloc (w0 := w) rfl Out.rfl hbr
              have hrun : (Instr.buildSlice t 0 #[]).run P w = .ok (.slice (some ⟨w.heap.size, 0, none⟩) 0 0) (w.alloc (.cells #[] e')) := by
                simp [Instr.buildSlice, run_underlying' ht, run_sizeOf' g2, newRow, Instr.fill]
                have he0 : (Array.range 0).map (fun _ => (default : Value)) = #[] := Array.eq_empty_of_size_eq_zero (by simp)
                rw [he0]
              exact .val (run_v (by simpa using hrun)) (.sl (grow_new _ _ _) (.inl ⟨by decide, rfl⟩)) h9 h10
            · cases hc
        · cases hc
      · cases hc
    | makeFunc fn first captured =>
      cases fn with
      | func f =>
        cases hc
        cases hk
        have h2 : okL first.toList = true ∧ okL captured.toList = true := by
          simpa [okL, Op.operands] using hok
        exact .pure s rfl (.func f (by simpa using vals_rel he h2.1) (by simpa using vals_rel he h2.2))
      | _ => cases hc
    | makeMap t r =>
      cases r with
      | some x => cases hc
      | none =>
        cases hc
        cases hk
        obtain ⟨w1, μ1, v', hr, hv, hs, hx⟩ := mkMap_sound (P := P) (w := w) s (t := t)
        exact .val (run_v hr) hv hs hx
    | lookup t x i ok =>
      have hx := hX (x := x) (by simp [Op.operands])
      have hi := hX (x := i) (by simp [Op.operands])
      simp only [compOp1] at hc
      split at hc
      · rename_i key elem ht
        split at hc
        · rename_i k ie hb hie
          split at hc
          · rename_i z hz
            split at hc
            · rename_i hz0
              cases hc
              simp only [opK, Option.bind_eq_some_iff] at hk
              obtain ⟨u, hu, hk⟩ := hk
              cases hk
              cases hkd : P.underlying key with
              | none => rw [hkd] at hb; cases hb
              | some d =>
                rw [hkd] at hb
                obtain ⟨v', hr, hv⟩ := lookupf_sound (P := P) (w := w) s hx hi hu ht hkd hb hie hz (VR.of_noRef hz0)
                exact .pure s (run_v hr) hv
            · cases hc
          · cases hc
        · cases hc
      · cases hc
    | mapUpdate t m k v =>
      have hm := hX (x := m) (by simp [Op.operands])
      have hkk := hX (x := k) (by simp [Op.operands])
      have hvv := hX (x := v) (by simp [Op.operands])
      simp only [compOp1] at hc
      split at hc
      · rename_i key elem ht
        rw [Option.map_eq_some_iff] at hc
        obtain ⟨b, hb, hc⟩ := hc
        cases hc
        simp only [opK, Option.bind_eq_some_iff] at hk
        obtain ⟨u, hu, hk⟩ := hk
        cases hk
        cases hkd : P.underlying key with
        | none => rw [hkd] at hb; cases hb
        | some d =>
          rw [hkd] at hb
          obtain ⟨w1, hr, hs, hxx⟩ := setMapf_sound (P := P) (w := w) s hm hkk hvv hu ht hkd hb
          exact ⟨undef, w1, μ, .inr ⟨by simp [execOp, hr], rfl⟩, .undef, hs, hxx⟩
      · cases hc
    | insert t m k v =>
      have hm := hX (x := m) (by simp [Op.operands])
      have hkk := hX (x := k) (by simp [Op.operands])
      have hvv := hX (x := v) (by simp [Op.operands])
      simp only [compOp1] at hc
      split at hc
      · rename_i key elem ht
        rw [Option.map_eq_some_iff] at hc
        obtain ⟨b, hb, hc⟩ := hc
        cases hc
        simp only [opK, Option.bind_eq_some_iff] at hk
        obtain ⟨u, hu, hk⟩ := hk
        cases hk
        cases hkd : P.underlying key with
        | none => rw [hkd] at hb; cases hb
        | some d =>
          rw [hkd] at hb
          obtain ⟨w1, hr, hs, hxx⟩ := setMapf_sound (P := P) (w := w) s hm hkk hvv hu ht hkd hb
          exact ⟨undef, w1, μ, .inr ⟨by simp [execOp, hr], rfl⟩, .undef, hs, hxx⟩
      · cases hc
    | makeInterface t x =>
      simp only [compOp1] at hc
      split at hc
      · cases hc
      · rename_i d hnot ht
        cases hc
        cases hk
        refine .pure s (run_v ?_) (.iface t (hX (x := x) (by simp [Op.operands])))
        simp only [Instr.makeInterface, Sem.run_bind, run_underlying' ht, Result.andThen_ok]
        cases d <;> first | rfl | exact absurd rfl (hnot _)
      · cases hc
    | box t x =>
      cases hc
      cases hk
      have hx := (hX (x := x) (by simp [Op.operands])).cells'
      have hbr : BR P (grow μ h.length w.heap.size 0) 0 (.cells (cellsL (val e x)) t true) (.cells (ρ x).cells t (0, 0)) :=
        ⟨_, _, rfl, hx.1, hx.2.mono (grow_le s _ _), fun _ => rfl, by omega⟩
      obtain ⟨h9, h10⟩ := s.alloc (w0 := w) rfl Out.rfl hbr
      refine .val (v' := .pointer (some ⟨w.heap.size, 0, none⟩)) (run_v ?_) (.ptr (grow_new _ _ _)) h9 h10
      simp only [Instr.box, newVar, newRow, Sem.run_bind, run_newObj, Result.andThen_ok, Sem.run_pure]
      rfl
    | alloc t =>
      simp only [compOp1, Option.map_eq_some_iff] at hc
      obtain ⟨z0, hz, hc⟩ := hc
      cases hc
      cases hk
      obtain ⟨i, z, h2, h3, rfl, h5, h6, h7, h8⟩ := zeroLay_spec hz
      have hbr : BR P (grow μ h.length w.heap.size 0) 0 (.cells z.cells.toList t true) (.cells z.cells t (0, 0)) :=
        ⟨_, _, rfl, by simp, by rw [List.take_of_length_le (by simp)]; exact VRL.of_noRef1 h5, fun _ => rfl, by omega⟩
      obtain ⟨h9, h10⟩ := s.alloc (w0 := w) rfl Out.rfl hbr
      refine .val (v' := .pointer (some ⟨w.heap.size, 0, none⟩)) (run_v ?_) (.ptr (grow_new _ _ _)) h9 h10
      simp only [Instr.alloc, Sem.run_bind, run_zeroValue' h2 h3, newVar, newRow, run_newObj, Result.andThen_ok, Sem.run_pure]
      rfl
    | makeSlice t n c =>
      simp only [compOp1] at hc
      split at hc
      · rename_i e' ht
        rw [Option.map_eq_some_iff] at hc
        obtain ⟨z0, hz, hc⟩ := hc
        cases hc
        simp only [opK, Option.bind_eq_some_iff] at hk
        obtain ⟨⟨u, h2⟩, hu, hk⟩ := hk
        cases hk
        obtain ⟨i, z, g2, g3, g4, g5, g6, g7, g8⟩ := zeroLay_spec hz
        obtain ⟨v', w1, μ1, hr, hv, hs, hx⟩ := mkSlicef_sound (P := P) (w := w) s (hX (x := n) (by simp [Op.operands])) (hX (x := c) (by simp [Op.operands])) hu ht g2 g3 g4 g6 g8 g5
        exact .val (run_v hr) hv hs hx
      · cases hc
    | load t x =>
      simp only [compOp1, Option.map_eq_some_iff] at hc
      obtain ⟨⟨agg, n⟩, hl, hc⟩ := hc
      cases hc
      simp only [opK, Option.bind_eq_some_iff] at hk
      obtain ⟨u, hu, hk⟩ := hk
      cases hk
      obtain ⟨d, i, h1, h2, h3, h4, h5⟩ := layOf_spec hl
      obtain ⟨v', hr, hv⟩ := loadf_sound s (hX (x := x) (by simp [Op.operands])) hu h1 h2 h3 h4
      exact .pure s (by simp [execOp, hr]) hv
    | store t x y =>
      simp only [compOp1, Option.map_eq_some_iff] at hc
      obtain ⟨⟨agg, n⟩, hl, hc⟩ := hc
      cases hc
      simp only [opK, Option.bind_eq_some_iff] at hk
      obtain ⟨u, hu, hk⟩ := hk
      cases hk
      obtain ⟨d, i, h1, h2, h3, h4, h5⟩ := layOf_spec hl
      obtain ⟨w', hr, hs, hx⟩ := storef_sound s (hX (x := x) (by simp [Op.operands])) (hX (x := y) (by simp [Op.operands])) hu h2 h4 h5
      exact ⟨undef, w', μ, .inr ⟨by simp [execOp, hr], rfl⟩, VR.undef, hs, hx⟩
    | call c =>
      obtain ⟨callee, args, argTypes⟩ := c
      cases callee with
      | value f =>
        cases f with
        | func g =>
          simp only [compOp1] at hc
          split at hc
          · cases hc; cases hn
          · cases hc
        | _ => cases hc; cases hn
      | invoke _ _ => cases hc
      | builtin b =>
        have hargs : ∀ {x : Operand}, x ∈ args.toList → VR μ (val e x) (ρ x) := fun hx => hX (by simpa [Op.operands, Call.operands] using hx)
        have hall : okL args.toList = true := by simpa [okL, Op.operands, Call.operands] using hok
        obtain ⟨args⟩ := args
        simp only [compOp1, compBuiltin] at hc
        split at hc
        · rename_i x
          have hx := hargs (x := x) (by simp)
          split at hc
          · rename_i t
            split at hc
            · rename_i ht
              cases hc
              simp only [opK, Option.bind_eq_some_iff] at hk
              obtain ⟨u, hu, hk⟩ := hk
              cases hk
              obtain ⟨hr, hv⟩ := lenf_sound (P := P) (w := w) (ty := type) hx hu (by simpa using ht)
              exact .pure s (run_builtin (run_v hr)) hv
            · rename_i e' ht
              cases hc
              simp only [opK, Option.bind_eq_some_iff] at hk
              obtain ⟨u, hu, hk⟩ := hk
              cases hk
              obtain ⟨hr, hv⟩ := lenf_sound (P := P) (w := w) (ty := type) hx hu (by simpa using ⟨e', ht⟩)
              exact .pure s (run_builtin (run_v hr)) hv
            · rename_i n e' ht
              cases hc
              cases hk
              refine .pure s (v' := .int .i64 n) (run_builtin (run_v ?_)) (.int _ _)
              simp [Builtin.len_, run_underlying' ht, goInt]
            · rename_i k' e' ht
              cases hc
              simp only [opK, Option.bind_eq_some_iff] at hk
              obtain ⟨u, hu, hk⟩ := hk
              cases hk
              obtain ⟨hr, hv⟩ := lenMapf_sound (P := P) (w := w) (ty := type) s hx hu ht
              exact .pure s (run_builtin (run_v hr)) hv
            · cases hc
          · cases hc
        · rename_i x y
          have hx := hargs (x := x) (by simp)
          have hy := hargs (x := y) (by simp)
          have key : ∀ (st xt elem : TypeId) (dx : TypeDesc) (z0 : List Value) (l : Bool × Nat), argTypes = #[st, xt] → P.underlying st = some (.slice elem) → P.underlying xt = some dx → (∀ k, dx ≠ .int k) → zeroLay P elem = some z0 → layOf P elem = some l →
              ∀ u, appendf elem l.2 (val e x) (val e y) h = some u → OpGoes P ⟨dst, .call ⟨.builtin .append, ⟨[x, y]⟩, argTypes⟩, type, pos, after, guard⟩ ρ μ h w u.1 u.2 := by
            rintro st xt elem dx z0 ⟨agg, n⟩ rfl h1 h2 h3 h4 h5 ⟨u1, u2⟩ hu
            obtain ⟨i, z, g2, g3, g4, g5, g6, g7, g8⟩ := zeroLay_spec h4
            obtain ⟨d, i', k1, k2, k3, k4, k5⟩ := layOf_spec h5
            rw [g2] at k2
            cases k2
            obtain ⟨v', w1, μ1, hr, hv, hs, hxx⟩ := appendf_sound (P := P) (w := w) (ty := type) s hx hy hu h1 h2 h3 g2 k4 g3 g6 g8
            exact .val (run_builtin (run_v hr)) hv hs hxx
          split at hc
          · rename_i st xt
            split at hc
            · rename_i e' e'' h1 h2
              split at hc
              · rename_i z0 agg n h3 h4
                cases hc
                simp only [opK, Option.bind_eq_some_iff] at hk
                obtain ⟨u, hu, hk⟩ := hk
                cases hk
                exact key _ _ _ _ _ _ rfl h1 h2 (by simp) h3 h4 u hu
              · cases hc
            · rename_i e' h1 h2
              split at hc
              · rename_i z0 agg n h3 h4
                cases hc
                simp only [opK, Option.bind_eq_some_iff] at hk
                obtain ⟨u, hu, hk⟩ := hk
                cases hk
                exact key _ _ _ _ _ _ rfl h1 h2 (by simp) h3 h4 u hu
              · cases hc
            · rename_i e' k' h1 h2
              split at hc
              · rename_i z0 agg n h3 h4
                cases hc
                simp only [opK, Option.bind_eq_some_iff] at hk
                obtain ⟨⟨u1, u2⟩, hu, hk⟩ := hk
                cases hk
                obtain ⟨i, z, g2, g3, g4, g5, g6, g7, g8⟩ := zeroLay_spec h3
                obtain ⟨d, i', k1, k2, k3, k4, k5⟩ := layOf_spec h4
                rw [g2] at k2
                cases k2
                obtain ⟨v', w1, μ1, hr, hv, hs, hxx⟩ := appendNf_sound (P := P) (w := w) (ty := type) s hx hy hu h1 h2 g2 k4 g3 g6 g8 g4 g5
                exact .val (run_builtin (run_v hr)) hv hs hxx
              · cases hc
            · cases hc
          · cases hc
        · rename_i x y
          have hx := hargs (x := x) (by simp)
          have hy := hargs (x := y) (by simp)
          split at hc
          · rename_i dt xt
            split at hc
            · rename_i e' h1
              rw [Option.map_eq_some_iff] at hc
              obtain ⟨⟨agg, n⟩, hl, hc⟩ := hc
              cases hc
              simp only [opK, Option.bind_eq_some_iff] at hk
              obtain ⟨⟨u1, u2⟩, hu, hk⟩ := hk
              cases hk
              obtain ⟨d, i', k1, k2, k3, k4, k5⟩ := layOf_spec hl
              obtain ⟨w1, hr, hv, hs, hxx⟩ := copyf_sound (P := P) (w := w) (ty := type) (xt := xt) s hx hy hu h1 k2 k4
              exact .val (run_builtin (run_v hr)) hv hs hxx
            · cases hc
          · cases hc
        · rename_i x
          have hx := hargs (x := x) (by simp)
          split at hc
          · rename_i t
            split at hc
            · rename_i e' h1
              rw [Option.map_eq_some_iff] at hc
              obtain ⟨z0, hz0, hc⟩ := hc
              cases hc
              simp only [opK, Option.bind_eq_some_iff] at hk
              obtain ⟨⟨u1, u2⟩, hu, hk⟩ := hk
              cases hk
              obtain ⟨i, z, h2, h3, rfl, h5, h6, h7, h8⟩ := zeroLay_spec hz0
              obtain ⟨w1, hr, hv, hs, hxx⟩ := clearf_sound (P := P) (w := w) (ty := type) s hx h1 h2 h3 h5 hu
              exact .val (run_builtin (run_v hr)) hv hs hxx
            · cases hc
          · cases hc
        · cases hc
          simp only [opK, Option.bind_eq_some_iff] at hk
          obtain ⟨u, hu, hk⟩ := hk
          cases hk
          have hvs := vals_rel he hall
          cases args with
          | nil => cases hu
          | cons x xs =>
            cases hvs with
            | cons h1 h2 =>
              obtain ⟨v', hr, hv⟩ := foldf_sound (P := P) (w := w) (g := Builtin.max2) (fun x y x' y' v hx hy h => max2f_sound hx hy h) h1 h2 hu
              refine .pure s (run_builtin (run_v ?_)) hv
              simpa [Builtin.max_] using hr
        · cases hc
          simp only [opK, Option.bind_eq_some_iff] at hk
          obtain ⟨u, hu, hk⟩ := hk
          cases hk
          have hvs := vals_rel he hall
          cases args with
          | nil => cases hu
          | cons x xs =>
            cases hvs with
            | cons h1 h2 =>
              obtain ⟨v', hr, hv⟩ := foldf_sound (P := P) (w := w) (g := Builtin.min2) (fun x y x' y' v hx hy h => min2f_sound hx hy h) h1 h2 hu
              refine .pure s (run_builtin (run_v ?_)) hv
              simpa [Builtin.min_] using hr
        · cases hc
    | panic x => cases hc; simp only [opK] at hk; cases hk
    | _ => cases hc
  · cases hc
end Go.Am

