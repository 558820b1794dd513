/- From the model's code to the machine's: the definitions alone. -/
import Derived.Test.YteedbdkhlgongaaAm1
set_option linter.unusedVariables false
namespace Go.Am

def isAggD : TypeDesc → Bool
  | .struct _ | .array _ _ => true
  | _ => false
/-- The nil of a type's kind. -/
def nilOf : TypeDesc → Option Value
  | .slice _ => some (.slice none 0 0)
  | .pointer _ => some (.pointer none)
  | .map _ _ => some (.map none)
  | .func _ _ _ => some .nilFunc
  | .interface _ => some .nilIface
  | _ => none
def bkOf : Option TypeDesc → Option BK
  | some (.int _) => some .int
  | some .bool => some .bool
  | some .string => some .str
  | _ => none
def flatF (P : Program) : Nat → List Field → Option (List BK)
  | _, [] => some []
  | i, f :: fs => match bkOf (P.underlying f.type), flatF P (i + 1) fs with
    | some b, some bs => if f.offset = i ∧ (f.name == "_") = false then some (b :: bs) else none
    | _, _ => none
def flatT (P : Program) (t : TypeId) : Option (List BK) :=
  match P.underlying t with
  | some (.struct fs) => if P.stoodInHeld t = false ∧ P.eqGuardType P.depth t = false then flatF P 0 fs.toList else none
  | _ => none
def okX : Operand → Bool
  | .const v => noRef v
  | .global _ => false
  | _ => true
/-- Is a type's value an aggregate, and how many cells has it? -/
def layOf (P : Program) (t : TypeId) : Option (Bool × Nat) :=
  match P.underlying t, P.info? t with
  | some d, some i => if 0 < i.size then some (isAggD d, i.size) else none
  | _, _ => none
/-- A type's zero value's cells. -/
def zeroLay (P : Program) (t : TypeId) : Option (List Value) :=
  match P.info? t with
  | some i =>
    match i.zero with
    | some z => if z.cells.toList.all noRef1 = true ∧ z.cells.size = i.size ∧ 0 < i.size ∧ i.bytes ≤ 16384 then some z.cells.toList else none
    | none => none
  | none => none
def nilConst : Operand → Option Value
  | .const v => some v
  | _ => none
def isNilConst (d : TypeDesc) (x : Operand) : Bool :=
  match x, d with
  | .const (.slice none 0 0), .slice _ => true
  | .const (.pointer none), .pointer _ => true
  | .const (.map none), .map _ _ => true
  | .const .nilFunc, .func _ _ _ => true
  | .const .nilIface, .interface _ => true
  | _, _ => false
def negOf : BinOp → Option Bool
  | .eql => some false
  | .neq => some true
  | _ => none
def kindOf : TypeDesc → Option NilKind
  | .slice _ => some .slice
  | .pointer _ => some .pointer
  | .map _ _ => some .map
  | .func _ _ _ => some .func
  | .interface _ => some .iface
  | _ => none
def compBin (P : Program) (op : BinOp) (t : TypeId) (x y : Operand) : Option AOp :=
  match P.underlying t with
  | some (.int _) => some (.bin op x y)
  | some .string => some (.bin op x y)
  | some .bool => (negOf op).map fun neg => .eqBool neg x y
  | some (.struct _) => match negOf op, flatT P t with
    | some neg, some ks => some (.eqAgg ks neg x y)
    | _, _ => none
  | some d =>
    match negOf op, kindOf d with
    | some neg, some k => if isNilConst d y = true then some (.isNil k neg x) else if isNilConst d x = true then some (.isNil k neg y) else none
    | _, _ => none
  | none => none
def compConv (P : Program) (s d : TypeId) (x : Operand) : Option AOp :=
  match P.underlying s, P.underlying d with
  | some _, some (.int k) => some (.conv k x)
  | some .string, some .string => some (.strId x)
  | some (.slice e), some .string => match P.underlying e with
    | some (.int .u8) => some (.bytesToStr x)
    | _ => none
  | _, _ => none
def fieldOf (P : Program) (t : TypeId) (f : Nat) : Option (Field × Bool × Nat) :=
  match P.underlying t with
  | some (.struct fs) => match fs[f]? with
    | some fd => (layOf P fd.type).map fun l => (fd, l.1, l.2)
    | none => none
  | _ => none
def partsOf (place : Nat → Option (Nat × Nat)) : List (Nat × Operand) → Option (List (Nat × Nat × Operand))
  | [] => some []
  | (i, x) :: r =>
    match place i, partsOf place r with
    | some (off, size), some ps => if 0 < size then some ((off, size, x) :: ps) else none
    | _, _ => none
def placeOf (P : Program) (t : TypeId) : Option (Nat → Option (Nat × Nat)) :=
  match P.underlying t with
  | some (.array _ e) => (P.info? e).map fun i => fun j => some (j * i.size, i.size)
  | some (.struct fs) => (fs.toList.mapM (fun f => (P.info? f.type).map fun i => (f.offset, i.size))).map fun l => fun j => l.toArray[j]?
  | _ => none
def okL (l : List Operand) : Bool := l.all okX
def compBuiltin (P : Program) (b : Builtin) (args : List Operand) (argTypes : Array TypeId) : Option AOp :=
  match b, args with
  | .len, [x] => match argTypes with
    | ⟨[t]⟩ => match P.underlying t with
      | some .string => some (.len true x)
      | some (.slice _) => some (.len false x)
      | some (.array n _) => some (.move (.const (.int .i64 n)))
      | some (.map _ _) => some (.lenMap x)
      | _ => none
    | _ => none
  | .append, [x, y] => match argTypes with
    | ⟨[st, xt]⟩ => match P.underlying st, P.underlying xt with
      | some (.slice e), some (.slice _) => match zeroLay P e, layOf P e with
        | some _, some (_, n) => some (.append e n x y)
        | _, _ => none
      | some (.slice e), some .string => match zeroLay P e, layOf P e with
        | some _, some (_, n) => some (.append e n x y)
        | _, _ => none
      | some (.slice e), some (.int _) => match zeroLay P e, layOf P e with
        | some z, some (_, n) => some (.appendN e n z x y)
        | _, _ => none
      | _, _ => none
    | _ => none
  | .copy, [x, y] => match argTypes with
    | ⟨[dt, _]⟩ => match P.underlying dt with
      | some (.slice e) => (layOf P e).map fun l => .copy l.2 x y
      | _ => none
    | _ => none
  | .clear, [x] => match argTypes with
    | ⟨[t]⟩ => match P.underlying t with
      | some (.slice e) => (zeroLay P e).map fun z => .clear z x
      | _ => none
    | _ => none
  | .max, xs => some (.max xs)
  | .min, xs => some (.min xs)
  | _, _ => none
def compOp1 (P : Program) : Op → Option AOp
  | .move x => some (.move x)
  | .assign x => some (.move x)
  | .pick c a b => some (.pick c a b)
  | .binOp op t x y _ => compBin P op t x y
  | .unOp op _ x => some (.un op x)
  | .convert s d x => compConv P s d x
  | .extract x i => some (.extract x i)
  | .field t x f => (fieldOf P t f).map fun r => .field r.2.1 r.1.offset r.2.2 x
  | .fieldAddr t x f => (fieldOf P t f).map fun r => .fieldAddr r.1.offset x
  | .indexAddr t x i => match P.underlying t with
    | some (.slice e) => (layOf P e).map fun l => .indexAddr l.2 x i
    | some (.array n e) => (layOf P e).map fun l => .indexAddrArr n l.2 x i
    | _ => none
  | .index t x i => match P.underlying t with
    | some (.array n e) => (layOf P e).map fun l => .indexArr n l.1 l.2 x i
    | some .string => some (.indexStr x i)
    | _ => none
  | .nilCheck x => some (.nilCheck x)
  | .slice t x lo hi mx => if mx.isSome = true → hi.isSome = true then
      match P.underlying t with
      | some (.slice e) => (layOf P e).map fun l => .slice l.2 x lo hi mx
      | some .string => if mx.isNone = true then some (.sliceStr x lo hi) else none
      | some (.array n e) => if n < capU then (layOf P e).map fun l => .sliceArr n l.2 x lo hi mx else none
      | _ => none
    else none
  | .build t parts => match zeroLay P t, placeOf P t with
    | some z, some place => (partsOf place parts.toList).map fun ps => .build z ps
    | _, _ => none
  | .buildSlice t n parts => match P.underlying t with
    | some (.slice e) => match zeroLay P e, layOf P e with
      | some z, some (_, s) => if n * s ≤ 2 ^ 24 ∧ 0 < n then (partsOf (fun i => some (i * s, s)) parts.toList).map fun ps => .buildSlice e z n ps else if n = 0 ∧ parts.toList.isEmpty = true then some (.buildSlice e [] 0 []) else none
      | _, _ => none
    | _ => none
  | .makeFunc (.func f) first captured => some (.mkFunc f first.toList captured.toList)
  | .makeInterface t x => match P.underlying t with
    | some (.interface _) => none
    | some _ => some (.mkIface t x)
    | none => none
  | .box t x => some (.box t x)
  | .alloc t => (zeroLay P t).map fun z => .new t z
  | .makeSlice t n c => match P.underlying t with
    | some (.slice e) => (zeroLay P e).map fun z => .mkSlice e z n c
    | _ => none
  | .load t x => (layOf P t).map fun l => .load l.1 l.2 x
  | .store t x v => (layOf P t).map fun l => .store l.2 x v
  | .call c => match c.callee with
    | .value (.func f) => if Nat.blt f yieldId = true then some (.call f c.args.toList) else none
    | .value f => some (.callV f c.args.toList)
    | .builtin b => compBuiltin P b c.args.toList c.argTypes
    | .invoke _ _ => none
  | .makeMap _ none => some .mkMap
  | .lookup t x i ok => match P.underlying t with
    | some (.map key elem) => match bkOf (P.underlying key), P.info? elem with
      | some k, some ie => match ie.zero with
        | some z => if noRef z = true then some (.lookup k z ok x i) else none
        | none => none
      | _, _ => none
    | _ => none
  | .mapUpdate t m k v => match P.underlying t with
    | some (.map key _) => (bkOf (P.underlying key)).map fun b => .mapSet b m k v
    | _ => none
  | .insert t m k v => match P.underlying t with
    | some (.map key _) => (bkOf (P.underlying key)).map fun b => .mapSet b m k v
    | _ => none
  | .panic _ => some .fail
  | _ => none
def compOp (P : Program) (o : Op) : Option AOp := if okL o.operands.toList = true then compOp1 P o else none
structure FOp where
  dst : Option Nat
  op : AOp
  guard : Option (Nat × Bool)
  chk : Bool
def eraseS : ASteps → Option (Nat × Bool) → List FOp
  | .nil, _ => []
  | .op d o chk rest, g => ⟨d, o, g, chk⟩ :: eraseS rest g
  | .sc d c isAnd tmp body y rest, g =>
    eraseS body (some (c, isAnd)) ++ ⟨some d, .pick (.tmp c) (if isAnd then y else .const (.bool true)) (if isAnd then .const (.bool false) else y), g, false⟩ :: eraseS rest g
/-- What the steps write. -/
def writesS : ASteps → List Nat
  | .nil => []
  | .op d _ _ rest => d.toList ++ writesS rest
  | .sc d _ _ tmp body _ rest => d :: (tmp ++ writesS body ++ writesS rest)
/-- The operations' own slots. -/
def dstsS : ASteps → List Nat
  | .nil => []
  | .op d _ _ rest => d.toList ++ dstsS rest
  | .sc d _ _ _ body _ rest => dstsS body ++ d :: dstsS rest
/-- gs: the slots of the guards around; df: the slots that have been written inside the group around. -/
def okS : List Nat → Option (List Nat) → ASteps → Bool
  | _, _, .nil => true
  | gs, df, .op d _ _ rest => (d.toList.all fun i => !gs.contains i) && okS gs (df.map (d.toList ++ ·)) rest
  | gs, df, .sc d c _ tmp body _ rest =>
    !gs.contains d && (tmp.all fun i => !gs.contains i && i != c) && (df.toList.all fun l => l.contains c) && ((dstsS body).all tmp.contains) && ((writesS body).all tmp.contains) && d != c && okS (c :: gs) (some []) body && okS gs (df.map (dstsS body ++ [d] ++ ·)) rest
def compF (P : Program) (ops : Array Oper) (chk : Bool) (o : Oper) : Option FOp :=
  match compOp P o.op with
  | some ao =>
    match o.guard with
    | none => some ⟨o.dst, ao, none, chk⟩
    | some (j, b) =>
      match (ops[j]?).bind (·.dst) with
      | some d => some ⟨o.dst, ao, some (d, b), chk⟩
      | none => none
  | none => none
def compL (P : Program) (ops : Array Oper) (chkOf : Nat → Bool) : List Oper → Nat → Option (List FOp)
  | [], _ => some []
  | o :: r, i =>
    match compF P ops (chkOf i) o, compL P ops chkOf r (i + 1) with
    | some f, some fs => some (f :: fs)
    | _, _ => none
def slotsX : Operand → List Nat
  | .tmp t => [t]
  | _ => []
def slotsL : List Operand → List Nat
  | [] => []
  | x :: r => slotsX x ++ slotsL r
def slotsO : Option Operand → List Nat
  | some x => slotsX x
  | none => []
def slotsP : List (Nat × Nat × Operand) → List Nat
  | [] => []
  | x :: r => slotsX x.2.2 ++ slotsP r
def aslots : AOp → List Nat
  | .move x => slotsX x
  | .pick c a b => slotsX c ++ (slotsX a ++ slotsX b)
  | .bin _ x y => slotsX x ++ slotsX y
  | .eqBool _ x y => slotsX x ++ slotsX y
  | .isNil _ _ x => slotsX x
  | .eqAgg _ _ x y => slotsX x ++ slotsX y
  | .un _ x => slotsX x
  | .conv _ x => slotsX x
  | .strId x => slotsX x
  | .len _ x => slotsX x
  | .extract x _ => slotsX x
  | .field _ _ _ x => slotsX x
  | .indexArr _ _ _ x i => slotsX x ++ slotsX i
  | .indexStr x i => slotsX x ++ slotsX i
  | .fieldAddr _ x => slotsX x
  | .indexAddr _ x i => slotsX x ++ slotsX i
  | .indexAddrArr _ _ x i => slotsX x ++ slotsX i
  | .nilCheck x => slotsX x
  | .slice _ x lo hi mx => slotsX x ++ (slotsO lo ++ (slotsO hi ++ slotsO mx))
  | .sliceStr x lo hi => slotsX x ++ (slotsO lo ++ slotsO hi)
  | .sliceArr _ _ x lo hi mx => slotsX x ++ (slotsO lo ++ (slotsO hi ++ slotsO mx))
  | .max xs => slotsL xs
  | .min xs => slotsL xs
  | .build _ ps => slotsP ps
  | .mkFunc _ a b => slotsL a ++ slotsL b
  | .mkIface _ x => slotsX x
  | .box _ x => slotsX x
  | .new _ _ => []
  | .buildSlice _ _ _ ps => slotsP ps
  | .mkSlice _ _ n c => slotsX n ++ slotsX c
  | .load _ _ x => slotsX x
  | .store _ x v => slotsX x ++ slotsX v
  | .append _ _ s x => slotsX s ++ slotsX x
  | .copy _ d s => slotsX d ++ slotsX s
  | .clear _ x => slotsX x
  | .appendN _ _ _ s k => slotsX s ++ slotsX k
  | .mkMap => []
  | .lookup _ _ _ x i => slotsX x ++ slotsX i
  | .mapSet _ x i v => slotsX x ++ (slotsX i ++ slotsX v)
  | .lenMap x => slotsX x
  | .bytesToStr x => slotsX x
  | .call _ args => slotsL args
  | .callV f args => slotsX f ++ slotsL args
  | .fail => []
/-- May it write, or give up, what was there? -/
def mayWrite : AOp → Bool
  | .store _ _ _ | .append _ _ _ _ | .copy _ _ _ | .clear _ _ | .appendN _ _ _ _ _ | .mapSet _ _ _ _ | .call _ _ | .callV _ _ => true
  | _ => false
/-- Does memory matter to it, or it to memory? -/
def loud : AOp → Bool
  | .box _ _ | .new _ _ | .buildSlice _ _ _ _ | .mkSlice _ _ _ _ | .load _ _ _ | .bytesToStr _ | .mkMap | .lookup _ _ _ _ _ | .lenMap _ => true
  | o => mayWrite o
def looksF (f : FOp) : List Nat := aslots f.op ++ (match f.guard with | some (s, _) => [s] | none => [])
def befs (ops : Array Oper) : List Nat := (Region.before ops).toList
def edgesOkB (ops : Array Oper) : Bool :=
  (List.range ops.size).all fun i => match ops[i]? with
    | some o => o.after.toList.all fun e => !Region.binds .any e || decide (e.on < i)
    | none => true
def certOkB (ops : Array Oper) (B : List Nat) : Bool :=
  (List.range ops.size).all fun i => decide (B.getD i 0 < 2 ^ ops.size) && (List.range ops.size).all fun j => !(B.getD i 0).testBit j || match ops[i]? with
    | some o => o.after.toList.any fun e => Region.binds .any e && (j == e.on || (B.getD e.on 0).testBit j)
    | none => true
def clash (f f' : FOp) : Bool := (match f.dst with | some t => (looksF f').contains t | none => false) || (match f'.dst with | some t => (looksF f).contains t | none => false)
def sameDst (f f' : FOp) : Bool := match f.dst, f'.dst with | some t, some t' => t == t' | _, _ => false
/-- Makes a block of plain values. -/
def isNew : AOp → Bool
  | .new _ zero => zero.all noRef1
  | _ => false
/-- Operation i stores into a block that operation m has made just before; j is another one, ahead of m or itself a maker. -/
def ownStore (fl : List FOp) (i j : Nat) (jnew : Bool) : Bool :=
  match fl[i]? with
  | some f => match f.op with
    | .store _ (.tmp t) _ => (List.range i).any fun m => !(Nat.beq m j) && (jnew || Nat.blt j m) && match fl[m]? with
      | some g => isNew g.op && g.guard.isNone && (g.dst == some t)
      | none => false
    | _ => false
  | none => false
/-- A writer i need not be ordered with what comes ahead of it and cannot see its block. -/
def exempt (fl : List FOp) (i j : Nat) : Bool := decide (j < i) && ownStore fl i j (match fl[j]? with
  | some g => isNew g.op
  | none => false)
def pairsOkB (fl : List FOp) (B : List Nat) : Bool :=
  (List.range fl.length).all fun i => (List.range fl.length).all fun j => match fl[i]?, fl[j]? with
    | some f, some f' => (i == j || !sameDst f f') && (!(decide (i < j)) || !clash f f' || (B.getD j 0).testBit i) &&
        (!(mayWrite f.op) || f.chk || !(loud f'.op) || ((!(decide (i < j)) || (B.getD j 0).testBit i) && (!(decide (j < i)) || (B.getD i 0).testBit j || exempt fl i j)))
    | _, _ => true
/-- Must an operation leave alone what is there? Where it may write and isn't ordered with all that is loud. -/
def needChk (fl : List FOp) (B : List Nat) (i : Nat) : Bool :=
  match fl[i]? with
  | some f => mayWrite f.op && !((List.range fl.length).all fun j => match fl[j]? with
    | some f' => !(loud f'.op) || ((!(decide (i < j)) || (B.getD j 0).testBit i) && (!(decide (j < i)) || (B.getD i 0).testBit j || exempt fl i j))
    | none => true)
  | none => false
def drawOkB (ops : Array Oper) (fl : List FOp) (B : List Nat) : Bool := edgesOkB ops && certOkB ops B && pairsOkB fl B
def compRegion (P : Program) (N : Nat) (ops : Array Oper) (draw : Bool) : Option (List FOp) :=
  match draw with
  | false => match compL P ops (fun _ => false) ops.toList 0 with
    | some fl => if (fl.all fun f => f.dst.toList.all fun d => decide (d < N)) = true then some fl else none
    | none => none
  | true => match compL P ops (fun _ => false) ops.toList 0 with
    | some fl0 => match compL P ops (needChk fl0 (befs ops)) ops.toList 0 with
      | some fl => if (fl.all fun f => f.dst.toList.all fun d => decide (d < N)) = true ∧ drawOkB ops fl (befs ops) = true then some fl else none
      | none => none
    | none => none
inductive FCode where
  | skip
  | region (draw : Bool) (fl : List FOp)
  | seq (a b : FCode)
  | cond (c : Operand) (a b : FCode)
  | block (id : Nat) (c : FCode)
  | loop (c : FCode)
  | exit (id : Nat)
  | ret
  | rangeF (g : Operand) (ps : List Nat) (a b : FCode)
def noRange : FCode → Bool
  | .rangeF _ _ _ _ => false
  | .seq a b => noRange a && noRange b
  | .cond _ a b => noRange a && noRange b
  | .block _ c => noRange c
  | .loop c => noRange c
  | _ => true
def eraseC : ACode → FCode
  | .skip => .skip
  | .region draw s => .region draw (eraseS s none)
  | .seq a b => .seq (eraseC a) (eraseC b)
  | .cond c _ _ a b => .cond c (eraseC a) (eraseC b)
  | .block id _ _ c => .block id (eraseC c)
  | .loop _ _ c => .loop (eraseC c)
  | .exit i => .exit i
  | .ret => .ret
  | .rangeF g _ ps a b => .rangeF g ps (eraseC a) (eraseC b)
def compCode (P : Program) (N : Nat) : Code → Option FCode
  | .skip => some .skip
  | .label _ => some .skip
  | .region _ ops draw => match compRegion P N ops draw with
    | some fl => some (.region draw fl)
    | none => none
  | .seq a b => match compCode P N a, compCode P N b with
    | some a, some b => some (.seq a b)
    | _, _ => none
  | .cond c a b => match okX c, compCode P N a, compCode P N b with
    | true, some a, some b => some (.cond c a b)
    | _, _, _ => none
  | .block id c => match compCode P N c with
    | some c => some (.block id c)
    | none => none
  | .loop c => match compCode P N c with
    | some c => some (.loop c)
    | none => none
  | .exit i => some (.exit i)
  | .ret => some .ret
  | .rangeFunc g ps assign body => match okX g, compCode P N assign, compCode P N body with
    | true, some a, some b => if (ps.toList.all fun p => decide (p < N)) = true ∧ ps.toList.Nodup ∧ noRange a = true ∧ noRange b = true then some (.rangeF g ps.toList a b) else none
    | _, _, _ => none
  | _ => none
def writesC : ACode → List Nat
  | .region _ s => writesS s
  | .seq a b => writesC a ++ writesC b
  | .cond _ mod tmp _ _ => mod ++ tmp
  | .block _ mod tmp _ => mod ++ tmp
  | .loop mod tmp _ => mod ++ tmp
  | _ => []
def subB (a b : List Nat) : Bool := a.all b.contains
def okC : ACode → Bool
  | .region _ s => okS [] none s
  | .seq a b => okC a && okC b
  | .cond _ mod tmp a b => subB (writesC a) (mod ++ tmp) && subB (writesC b) (mod ++ tmp) && okC a && okC b
  | .block _ mod tmp c => subB (writesC c) (mod ++ tmp) && okC c
  | .loop mod tmp c => subB (writesC c) (mod ++ tmp) && okC c
  | .rangeF _ _ _ a b => okC a && okC b
  | _ => true
/-- An abstract piece of code stands for this one, in a frame of N slots. -/
def CodeOk (P : Program) (N : Nat) (ac : ACode) (c : Code) : Prop := compCode P N c = some (eraseC ac) ∧ okC ac = true ∧ noRange (eraseC ac) = true
def lstOf : LSt → LoopState
  | .ready => .ready
  | .busy => .busy
  | .done => .done
def exitCode : AExit → Code
  | .normal => .skip
  | .exit i => .exit i
  | .ret => .ret
end Go.Am
