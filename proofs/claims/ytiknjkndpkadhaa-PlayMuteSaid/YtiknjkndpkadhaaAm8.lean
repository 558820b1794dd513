/- From the model's operations to the machine's, and that each is met. -/
import Derived.Test.YtiknjkndpkadhaaAm7
import Derived.Great.BuildSlice
set_option linter.unusedSimpArgs false
set_option linter.unusedVariables false
namespace Go.Am
variable {P : Program} {μ : Ren} {w : World}

def okX : Operand → Bool
  | .const v => noRef v
  | .global _ => false
  | _ => true
/-- Is a type's value an aggregate, and how many cells has it? -/
def layOf (P : Program) (t : TypeId) : Option (Bool × Nat) :=
  match P.underlying t, P.info? t with
  | some d, some i => if 0 < i.size then some (isAggD d, i.size) else none
  | _, _ => none
theorem layOf_spec {t : TypeId} {agg : Bool} {n : Nat} (h : layOf P t = some (agg, n)) : ∃ d i, P.underlying t = some d ∧ P.info? t = some i ∧ isAggD d = agg ∧ i.size = n ∧ 0 < n := by
  unfold layOf at h
  split at h
  · rename_i d i hd hi
    split at h
    · rename_i h0
      cases h
      exact ⟨d, i, hd, hi, rfl, rfl, h0⟩
    · cases h
  · cases h
/-- A type's zero value's cells. -/
def zeroLay (P : Program) (t : TypeId) : Option (List Value) :=
  match P.info? t with
  | some i =>
    match i.zero with
    | some z => if z.cells.toList.all noRef1 = true ∧ z.cells.size = i.size ∧ 0 < i.size ∧ i.bytes ≤ 16384 then some z.cells.toList else none
    | none => none
  | none => none
theorem zeroLay_spec {t : TypeId} {zero : List Value} (h : zeroLay P t = some zero) : ∃ i z, P.info? t = some i ∧ i.zero = some z ∧ z.cells.toList = zero ∧ zero.all noRef1 = true ∧ z.cells.size = i.size ∧ 0 < i.size ∧ i.bytes ≤ 16384 := by
  unfold zeroLay at h
  split at h
  · rename_i i hi
    split at h
    · rename_i z hz
      split at h
      · rename_i hc
        cases h
        exact ⟨i, z, hi, hz, rfl, hc.1, hc.2.1, hc.2.2.1, hc.2.2.2⟩
      · cases h
    · cases h
  · cases h
def nilConst : Operand → Option Value
  | .const v => some v
  | _ => none
def isNilConst (d : TypeDesc) (x : Operand) : Bool :=
  match x, d with
  | .const (.slice none 0 0), .slice _ => true
  | .const (.pointer none), .pointer _ => true
  | .const (.map none), .map _ _ => true
  | .const .nilFunc, .func _ _ _ => true
  | .const .nilIface, .interface _ => true
  | _, _ => false
theorem isNilConst_spec {d : TypeDesc} {x : Operand} (h : isNilConst d x = true) : ∃ z, x = .const z ∧ nilOf d = some z := by
  unfold isNilConst at h
  split at h <;> first | exact ⟨_, rfl, rfl⟩ | cases h
def negOf : BinOp → Option Bool
  | .eql => some false
  | .neq => some true
  | _ => none
theorem negOf_spec {op : BinOp} {neg : Bool} (h : negOf op = some neg) : op = if neg then .neq else .eql := by
  cases op <;> simp [negOf] at h <;> subst h <;> rfl
def kindOf : TypeDesc → Option NilKind
  | .slice _ => some .slice
  | .pointer _ => some .pointer
  | .map _ _ => some .map
  | .func _ _ _ => some .func
  | .interface _ => some .iface
  | _ => none
theorem kindOk_of {d : TypeDesc} {k : NilKind} {x : Value} (h : kindOf d = some k) (hk : kindIs k x = true) : kindOk d x = true := by
  cases d <;> simp [kindOf] at h <;> subst h <;> cases x <;> simp_all [kindIs, kindOk]
def compBin (P : Program) (op : BinOp) (t : TypeId) (x y : Operand) : Option AOp :=
  match P.underlying t with
  | some (.int _) => some (.bin op x y)
  | some .string => some (.bin op x y)
  | some .bool => (negOf op).map fun neg => .eqBool neg x y
  | some (.struct _) => match negOf op, flatT P t with
    | some neg, some ks => some (.eqAgg ks neg x y)
    | _, _ => none
  | some d =>
    match negOf op, kindOf d with
    | some neg, some k => if isNilConst d y = true then some (.isNil k neg x) else if isNilConst d x = true then some (.isNil k neg y) else none
    | _, _ => none
  | none => none
def compConv (P : Program) (s d : TypeId) (x : Operand) : Option AOp :=
  match P.underlying s, P.underlying d with
  | some _, some (.int k) => some (.conv k x)
  | some .string, some .string => some (.strId x)
  | some (.slice e), some .string => match P.underlying e with
    | some (.int .u8) => some (.bytesToStr x)
    | _ => none
  | _, _ => none
def fieldOf (P : Program) (t : TypeId) (f : Nat) : Option (Field × Bool × Nat) :=
  match P.underlying t with
  | some (.struct fs) => match fs[f]? with
    | some fd => (layOf P fd.type).map fun l => (fd, l.1, l.2)
    | none => none
  | _ => none
theorem fieldOf_spec {t : TypeId} {f : Nat} {fd : Field} {agg : Bool} {n : Nat} (h : fieldOf P t f = some (fd, agg, n)) :
    ∃ fs d i, P.underlying t = some (.struct fs) ∧ fs[f]? = some fd ∧ P.underlying fd.type = some d ∧ P.info? fd.type = some i ∧ isAggD d = agg ∧ i.size = n ∧ 0 < n := by
  unfold fieldOf at h
  split at h
  · rename_i fs hu
    split at h
    · rename_i fd' hf
      rw [Option.map_eq_some_iff] at h
      obtain ⟨⟨a, m⟩, hl, e⟩ := h
      cases e
      obtain ⟨d, i, h1, h2, h3, h4, h5⟩ := layOf_spec hl
      exact ⟨fs, d, i, hu, hf, h1, h2, h3, h4, h5⟩
    · cases h
  · cases h
def partsOf (place : Nat → Option (Nat × Nat)) : List (Nat × Operand) → Option (List (Nat × Nat × Operand))
  | [] => some []
  | (i, x) :: r =>
    match place i, partsOf place r with
    | some (off, size), some ps => if 0 < size then some ((off, size, x) :: ps) else none
    | _, _ => none
def placeOf (P : Program) (t : TypeId) : Option (Nat → Option (Nat × Nat)) :=
  match P.underlying t with
  | some (.array _ e) => (P.info? e).map fun i => fun j => some (j * i.size, i.size)
  | some (.struct fs) => (fs.toList.mapM (fun f => (P.info? f.type).map fun i => (f.offset, i.size))).map fun l => fun j => l.toArray[j]?
  | _ => none
theorem built_of {t : TypeId} {place : Nat → Option (Nat × Nat)} {i : TypeInfo} {z : Value} (h : placeOf P t = some place) (hi : P.info? t = some i) (hz : i.zero = some z) (parts : List (Nat × Value)) :
    P.built t parts = Instr.fill place z.cells parts := by
  unfold placeOf at h
  unfold Program.built
  rw [hi]
  split at h
  · rename_i n e hu
    rw [Option.map_eq_some_iff] at h
    obtain ⟨ie, hie, rfl⟩ := h
    simp only [hu, hz, hie]
  · rename_i fs hu
    rw [Option.map_eq_some_iff] at h
    obtain ⟨l, hl, rfl⟩ := h
    simp only [hu, hz, hl]
  · cases h
/-- Operands as the frame has them. -/
def OpR (μ : Ren) (e : Env) (ρ : Operand → Value) : Prop := ∀ x, okX x = true → VR μ (val e x) (ρ x)
theorem partsOf_spec {place : Nat → Option (Nat × Nat)} {e : Env} {ρ : Operand → Value} (he : OpR μ e ρ) : ∀ {l : List (Nat × Operand)} {ps : List (Nat × Nat × Operand)}, partsOf place l = some ps → (l.all fun x => okX x.2) = true →
    PartsR μ place (valP e ps) (l.map fun x => (x.1, ρ x.2))
  | [], ps, h, _ => by cases h; trivial
  | (i, x) :: r, ps, h, hk => by
    simp only [List.all_cons, Bool.and_eq_true] at hk
    unfold partsOf at h
    split at h
    · rename_i off size ps' hp hps
      split at h
      · rename_i h0
        cases h
        exact ⟨hp, h0, he x hk.1, partsOf_spec he hps hk.2⟩
      · cases h
    · cases h
def okL (l : List Operand) : Bool := l.all okX
theorem vals_rel {e : Env} {ρ : Operand → Value} (he : OpR μ e ρ) : ∀ {l : List Operand}, okL l = true → VRL μ (vals e l) (l.map ρ)
  | [], _ => .nil
  | x :: l, h => by
    simp only [okL, List.all_cons, Bool.and_eq_true] at h
    exact .cons (he x h.1) (vals_rel he h.2)
theorem valO_rel {e : Env} {ρ : Operand → Value} (he : OpR μ e ρ) {x : Option Operand} (h : (x.all okX) = true) : OR μ (valO e x) (x.map ρ) := by
  cases x with
  | none => trivial
  | some x => exact he x h
def compBuiltin (P : Program) (b : Builtin) (args : List Operand) (argTypes : Array TypeId) : Option AOp :=
  match b, args with
  | .len, [x] => match argTypes with
    | ⟨[t]⟩ => match P.underlying t with
      | some .string => some (.len true x)
      | some (.slice _) => some (.len false x)
      | some (.array n _) => some (.move (.const (.int .i64 n)))
      | _ => none
    | _ => none
  | .append, [x, y] => match argTypes with
    | ⟨[st, xt]⟩ => match P.underlying st, P.underlying xt with
      | some (.slice e), some (.slice _) => match zeroLay P e, layOf P e with
        | some _, some (_, n) => some (.append e n x y)
        | _, _ => none
      | some (.slice e), some .string => match zeroLay P e, layOf P e with
        | some _, some (_, n) => some (.append e n x y)
        | _, _ => none
      | _, _ => none
    | _ => none
  | .copy, [x, y] => match argTypes with
    | ⟨[dt, _]⟩ => match P.underlying dt with
      | some (.slice e) => (layOf P e).map fun l => .copy l.2 x y
      | _ => none
    | _ => none
  | .clear, [x] => match argTypes with
    | ⟨[t]⟩ => match P.underlying t with
      | some (.slice e) => (zeroLay P e).map fun z => .clear z x
      | _ => none
    | _ => none
  | .max, xs => some (.max xs)
  | .min, xs => some (.min xs)
  | _, _ => none
def compOp1 (P : Program) : Op → Option AOp
  | .move x => some (.move x)
  | .assign x => some (.move x)
  | .pick c a b => some (.pick c a b)
  | .binOp op t x y _ => compBin P op t x y
  | .unOp op _ x => some (.un op x)
  | .convert s d x => compConv P s d x
  | .extract x i => some (.extract x i)
  | .field t x f => (fieldOf P t f).map fun r => .field r.2.1 r.1.offset r.2.2 x
  | .fieldAddr t x f => (fieldOf P t f).map fun r => .fieldAddr r.1.offset x
  | .indexAddr t x i => match P.underlying t with
    | some (.slice e) => (layOf P e).map fun l => .indexAddr l.2 x i
    | some (.array n e) => (layOf P e).map fun l => .indexAddrArr n l.2 x i
    | _ => none
  | .index t x i => match P.underlying t with
    | some (.array n e) => (layOf P e).map fun l => .indexArr n l.1 l.2 x i
    | some .string => some (.indexStr x i)
    | _ => none
  | .nilCheck x => some (.nilCheck x)
  | .slice t x lo hi mx => if mx.isSome = true → hi.isSome = true then
      match P.underlying t with
      | some (.slice e) => (layOf P e).map fun l => .slice l.2 x lo hi mx
      | some .string => if mx.isNone = true then some (.sliceStr x lo hi) else none
      | some (.array n e) => if n < capU then (layOf P e).map fun l => .sliceArr n l.2 x lo hi mx else none
      | _ => none
    else none
  | .build t parts => match zeroLay P t, placeOf P t with
    | some z, some place => (partsOf place parts.toList).map fun ps => .build z ps
    | _, _ => none
  | .buildSlice t n parts => match P.underlying t with
    | some (.slice e) => match zeroLay P e, layOf P e with
      | some z, some (_, s) => if n * s ≤ 2 ^ 24 ∧ 0 < n then (partsOf (fun i => some (i * s, s)) parts.toList).map fun ps => .buildSlice e z n ps else if n = 0 ∧ parts.toList.isEmpty = true then some (.buildSlice e [] 0 []) else none
      | _, _ => none
    | _ => none
  | .makeFunc (.func f) first captured => some (.mkFunc f first.toList captured.toList)
  | .makeInterface t x => match P.underlying t with
    | some (.interface _) => none
    | some _ => some (.mkIface t x)
    | none => none
  | .box t x => some (.box t x)
  | .alloc t => (zeroLay P t).map fun z => .new t z
  | .makeSlice t n c => match P.underlying t with
    | some (.slice e) => (zeroLay P e).map fun z => .mkSlice e z n c
    | _ => none
  | .load t x => (layOf P t).map fun l => .load l.1 l.2 x
  | .store t x v => (layOf P t).map fun l => .store l.2 x v
  | .call c => match c.callee with
    | .value (.func f) => some (.call f c.args.toList)
    | .value f => some (.callV f c.args.toList)
    | .builtin b => compBuiltin P b c.args.toList c.argTypes
    | .invoke _ _ => none
  | .panic _ => some .fail
  | _ => none
def compOp (P : Program) (o : Op) : Option AOp := if okL o.operands.toList = true then compOp1 P o else none

end Go.Am
