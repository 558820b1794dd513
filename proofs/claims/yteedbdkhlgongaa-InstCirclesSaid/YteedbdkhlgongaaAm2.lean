/- How an abstract state stands for a world: values and blocks by a renaming that is partial. -/
import Derived.Test.YteedbdkhlgongaaAm1b
namespace Go.Am

/-- Where an abstract block lies: the block, and how many elements the row that begins it may have. -/
structure Loc where
  blk : Nat
  K : Nat
abbrev Ren := Nat → Option Loc

mutual
inductive VR (μ : Ren) : Value → Value → Prop
  | junk (v : Value) : VR μ junk v
  | bool (b : Bool) : VR μ (.bool b) (.bool b)
  | int (k : IntKind) (n : Int) : VR μ (.int k n) (.int k n)
  | string (s : ByteArray) : VR μ (.string s) (.string s)
  | ptrNil : VR μ (.pointer none) (.pointer none)
  | ptr {b c K o : Nat} (h : μ b = some ⟨c, K⟩) : VR μ (.pointer (some ⟨b, o, none⟩)) (.pointer (some ⟨c, o, none⟩))
  | slNil : VR μ (.slice none 0 0) (.slice none 0 0)
  | sl {b c K o n m m' : Nat} (h : μ b = some ⟨c, K⟩) (hm : (m < capU ∧ m' = m) ∨ (m = capU ∧ n ≤ m' ∧ (o = 0 → m' ≤ K))) : VR μ (.slice (some ⟨b, o, none⟩) n m) (.slice (some ⟨c, o, none⟩) n m')
  | sl0 (a a' : Addr) (m' : Nat) : VR μ (.slice (some a) 0 capU) (.slice (some a') 0 m')
  | sl00 (a a' : Addr) : VR μ (.slice (some a) 0 0) (.slice (some a') 0 0)
  | mapNil : VR μ (.map none) (.map none)
  | map {b c K : Nat} (h : μ b = some ⟨c, K⟩) : VR μ (.map (some b)) (.map (some c))
  | func (f : FuncId) {xs ys xs' ys' : Array Value} (hx : VRL μ xs.toList xs'.toList) (hy : VRL μ ys.toList ys'.toList) : VR μ (.func (.func f) xs ys) (.func (.func f) xs' ys')
  | yield {b c K : Nat} (h : μ b = some ⟨c, K⟩) : VR μ (.func (.yield b) ⟨[]⟩ ⟨[]⟩) (.func (.yield c) ⟨[]⟩ ⟨[]⟩)
  | nilFunc : VR μ .nilFunc .nilFunc
  | nilIface : VR μ .nilIface .nilIface
  | iface (t : TypeId) {v v' : Value} (h : VR μ v v') : VR μ (.iface t v) (.iface t v')
  | agg {xs ys : Array Value} (h : VRL μ xs.toList ys.toList) : VR μ (.agg xs) (.agg ys)
  | tuple {xs ys : Array Value} (h : VRL μ xs.toList ys.toList) : VR μ (.tuple xs) (.tuple ys)
inductive VRL (μ : Ren) : List Value → List Value → Prop
  | nil : VRL μ [] []
  | cons {x y : Value} {xs ys : List Value} (h : VR μ x y) (hs : VRL μ xs ys) : VRL μ (x :: xs) (y :: ys)
end

/-- The renaming has grown. -/
def RenLe (μ μ' : Ren) : Prop := ∀ b c, μ b = some c → μ' b = some c
theorem RenLe.refl (μ : Ren) : RenLe μ μ := fun _ _ h => h
theorem RenLe.trans {a b c : Ren} (h : RenLe a b) (h' : RenLe b c) : RenLe a c := fun x y e => h' x y (h x y e)

mutual
theorem VR.mono {μ μ' : Ren} (hm : RenLe μ μ') {x y : Value} : VR μ x y → VR μ' x y
  | .junk v => .junk v
  | .bool b => .bool b
  | .int k n => .int k n
  | .string s => .string s
  | .ptrNil => .ptrNil
  | .ptr h => .ptr (hm _ _ h)
  | .slNil => .slNil
  | .sl h h' => .sl (hm _ _ h) h'
  | .sl0 a a' m' => .sl0 a a' m'
  | .sl00 a a' => .sl00 a a'
  | .mapNil => .mapNil
  | .map h => .map (hm _ _ h)
  | .func f h h' => .func f (VRL.mono hm h) (VRL.mono hm h')
  | .yield h => .yield (hm _ _ h)
  | .nilFunc => .nilFunc
  | .nilIface => .nilIface
  | .iface t h => .iface t (VR.mono hm h)
  | .agg h => .agg (VRL.mono hm h)
  | .tuple h => .tuple (VRL.mono hm h)
theorem VRL.mono {μ μ' : Ren} (hm : RenLe μ μ') {xs ys : List Value} : VRL μ xs ys → VRL μ' xs ys
  | .nil => .nil
  | .cons h hs => .cons (VR.mono hm h) (VRL.mono hm hs)
end

mutual
/-- What an abstract value names is told by one relation that it stands in: any other that agrees with it there can be cut down to it. -/
theorem VR.cut {μ μ' : Ren} (hm : RenLe μ μ') {x y0 y : Value} : VR μ x y0 → VR μ' x y → VR μ x y
  | .junk _, _ => .junk _
  | .bool _, h => by cases h; exact .bool _
  | .int _ _, h => by cases h; exact .int _ _
  | .string _, h => by cases h; exact .string _
  | .ptrNil, h => by cases h; exact .ptrNil
  | .ptr h0, h => by
    cases h with
    | ptr h1 =>
      have e := (hm _ _ h0).symm.trans h1
      cases e
      exact .ptr h0
  | .slNil, h => by cases h; exact .slNil
  | .sl h0 _, h => by
    cases h with
    | sl h1 h2 =>
      have e := (hm _ _ h0).symm.trans h1
      cases e
      exact .sl h0 h2
    | sl0 _ _ _ => exact .sl0 _ _ _
    | sl00 _ _ => exact .sl00 _ _
  | .sl0 a _ _, h => by
    cases h with
    | sl h1 h2 => exact .sl0 _ _ _
    | sl0 _ _ _ => exact .sl0 _ _ _
  | .sl00 a _, h => by
    cases h with
    | sl h1 h2 =>
      rcases h2 with ⟨_, rfl⟩ | ⟨e, _⟩
      · exact .sl00 _ _
      · exact absurd e (by decide)
    | sl00 _ _ => exact .sl00 _ _
  | .mapNil, h => by cases h; exact .mapNil
  | .map h0, h => by
    cases h with
    | map h1 =>
      have e := (hm _ _ h0).symm.trans h1
      cases e
      exact .map h0
  | .func _ h0 h0', h => by
    cases h with
    | func _ h1 h1' => exact .func _ (VRL.cut hm h0 h1) (VRL.cut hm h0' h1')
  | .yield h0, h => by
    cases h with
    | yield h1 =>
      have e := (hm _ _ h0).symm.trans h1
      cases e
      exact .yield h0
  | .nilFunc, h => by cases h; exact .nilFunc
  | .nilIface, h => by cases h; exact .nilIface
  | .iface _ h0, h => by
    cases h with
    | iface _ h1 => exact .iface _ (VR.cut hm h0 h1)
  | .agg h0, h => by
    cases h with
    | agg h1 => exact .agg (VRL.cut hm h0 h1)
  | .tuple h0, h => by
    cases h with
    | tuple h1 => exact .tuple (VRL.cut hm h0 h1)
theorem VRL.cut {μ μ' : Ren} (hm : RenLe μ μ') {xs ys0 ys : List Value} : VRL μ xs ys0 → VRL μ' xs ys → VRL μ xs ys
  | .nil, h => by cases h; exact .nil
  | .cons h0 hs0, h => by
    cases h with
    | cons h1 hs1 => exact .cons (VR.cut hm h0 h1) (VRL.cut hm hs0 hs1)
end

theorem VRL.length {μ : Ren} {xs ys : List Value} (h : VRL μ xs ys) : xs.length = ys.length := by
  induction xs generalizing ys with
  | nil => cases h; rfl
  | cons x xs ih =>
    cases h with
    | cons _ hs => simp [ih hs]
theorem VRL.get {μ : Ren} {xs ys : List Value} (h : VRL μ xs ys) {i : Nat} {x : Value} (hx : xs[i]? = some x) : ∃ y, ys[i]? = some y ∧ VR μ x y := by
  induction xs generalizing ys i with
  | nil => simp at hx
  | cons z xs ih =>
    cases h with
    | cons h0 hs =>
      cases i with
      | zero => simp only [List.getElem?_cons_zero, Option.some.injEq] at hx; subst hx; exact ⟨_, rfl, h0⟩
      | succ i => simp only [List.getElem?_cons_succ] at hx ⊢; exact ih hs hx
theorem VRL.of_get {μ : Ren} {xs ys : List Value} (hl : xs.length = ys.length) (h : ∀ (i : Nat) (x y : Value), xs[i]? = some x → ys[i]? = some y → VR μ x y) : VRL μ xs ys := by
  induction xs generalizing ys with
  | nil => cases ys with
    | nil => exact .nil
    | cons _ _ => simp at hl
  | cons x xs ih =>
    cases ys with
    | nil => simp at hl
    | cons y ys => exact .cons (h 0 x y rfl rfl) (ih (by simpa using hl) (fun i a b ha hb => h (i + 1) a b ha hb))
theorem VRL.append {μ : Ren} {xs ys xs' ys' : List Value} (h : VRL μ xs ys) (h' : VRL μ xs' ys') : VRL μ (xs ++ xs') (ys ++ ys') := by
  induction xs generalizing ys with
  | nil => cases h; exact h'
  | cons x xs ih => cases h with | cons h0 hs => exact .cons h0 (ih hs)
theorem VRL.take {μ : Ren} {xs ys : List Value} (h : VRL μ xs ys) (n : Nat) : VRL μ (xs.take n) (ys.take n) := by
  induction xs generalizing ys n with
  | nil => cases h; simpa using VRL.nil
  | cons x xs ih =>
    cases h with
    | cons h0 hs =>
      cases n with
      | zero => exact .nil
      | succ n => exact .cons h0 (ih hs n)
theorem VRL.drop {μ : Ren} {xs ys : List Value} (h : VRL μ xs ys) (n : Nat) : VRL μ (xs.drop n) (ys.drop n) := by
  induction xs generalizing ys n with
  | nil => cases h; simpa using VRL.nil
  | cons x xs ih =>
    cases h with
    | cons h0 hs =>
      cases n with
      | zero => exact .cons h0 hs
      | succ n => exact ih hs n
theorem VRL.splice {μ : Ren} {xs ys xs' ys' : List Value} (h : VRL μ xs ys) (h' : VRL μ xs' ys') (o : Nat) : VRL μ (xs.take o ++ xs' ++ xs.drop (o + xs'.length)) (ys.take o ++ ys' ++ ys.drop (o + ys'.length)) := by
  rw [h'.length]
  exact ((h.take o).append h').append (h.drop _)

/-! A value that names no memory stands for itself. -/
theorem VR.of_noRef1 {μ : Ren} {v : Value} (h : noRef1 v = true) : VR μ v v := by
  cases v with
  | bool b => exact .bool b
  | int k n => exact .int k n
  | string s => exact .string s
  | pointer a => cases a with
    | none => exact .ptrNil
    | some a => simp [noRef1] at h
  | slice a n c => cases a with
    | none =>
      cases n with
      | zero => cases c with
        | zero => exact .slNil
        | succ c => simp [noRef1] at h
      | succ n => simp [noRef1] at h
    | some a => simp [noRef1] at h
  | map r => cases r with
    | none => exact .mapNil
    | some a => simp [noRef1] at h
  | nilFunc => exact .nilFunc
  | nilIface => exact .nilIface
  | _ => simp [noRef1] at h
theorem VRL.of_all {μ : Ren} {p : Value → Bool} (hp : ∀ v, p v = true → VR μ v v) : ∀ {l : List Value}, l.all p = true → VRL μ l l
  | [], _ => .nil
  | v :: l, h => by
    simp only [List.all_cons, Bool.and_eq_true] at h
    exact .cons (hp v h.1) (VRL.of_all hp h.2)
theorem VR.of_noRef2 {μ : Ren} {v : Value} (h : noRef2 v = true) : VR μ v v := by
  cases v with
  | agg cs => exact .agg (VRL.of_all (fun v => VR.of_noRef1) h)
  | iface t v => exact .iface t (VR.of_noRef1 h)
  | _ => exact VR.of_noRef1 h
theorem VR.of_noRef {μ : Ren} {v : Value} (h : noRef v = true) : VR μ v v := by
  cases v with
  | tuple cs => exact .tuple (VRL.of_all (fun v => VR.of_noRef2) h)
  | _ => exact VR.of_noRef2 h
theorem VR.undef {μ : Ren} : VR μ undef undef := .tuple .nil
/-- .. and for nothing else. -/
theorem VR.eq_of_noRef1 {μ : Ren} {v y : Value} (h : noRef1 v = true) (hv : VR μ v y) : y = v := by
  cases hv <;> first | rfl | (simp [noRef1, Am.junk] at h)
theorem VRL.eq_of_all {μ : Ren} {p : Value → Bool} (hp : ∀ v y, p v = true → VR μ v y → y = v) : ∀ {l ys : List Value}, l.all p = true → VRL μ l ys → ys = l
  | [], _, _, hv => by cases hv; rfl
  | v :: l, _, h, hv => by
    simp only [List.all_cons, Bool.and_eq_true] at h
    cases hv with
    | cons h0 hs => rw [hp v _ h.1 h0, VRL.eq_of_all hp h.2 hs]
theorem VR.eq_of_noRef2 {μ : Ren} {v y : Value} (h : noRef2 v = true) (hv : VR μ v y) : y = v := by
  cases v with
  | agg cs =>
    cases hv with
    | agg hl =>
      have e := VRL.eq_of_all (p := noRef1) (fun v y h hv => VR.eq_of_noRef1 h hv) h hl
      exact congrArg Value.agg (Array.ext' e)
  | iface t v =>
    cases hv with
    | iface _ h' => rw [VR.eq_of_noRef1 h h']
  | _ => exact VR.eq_of_noRef1 h hv
theorem VR.eq_of_noRef {μ : Ren} {v y : Value} (h : noRef v = true) (hv : VR μ v y) : y = v := by
  cases v with
  | tuple cs =>
    cases hv with
    | tuple hl =>
      have e := VRL.eq_of_all (p := noRef2) (fun v y h hv => VR.eq_of_noRef2 h hv) h hl
      exact congrArg Value.tuple (Array.ext' e)
  | _ => exact VR.eq_of_noRef2 h hv
/-- The cells of a value. -/
theorem VR.cells {μ : Ren} {v y : Value} (h : VR μ v y) (hj : v ≠ Am.junk) : VRL μ (cellsL v) y.cells.toList := by
  cases h with
  | junk => exact absurd rfl hj
  | agg h => exact h
  | _ => exact .cons (by constructor <;> assumption) .nil
theorem VR.cells' {μ : Ren} {v y : Value} (h : VR μ v y) : (cellsL v).length ≤ y.cells.size ∧ VRL μ (cellsL v) (y.cells.toList.take (cellsL v).length) := by
  by_cases hj : v = Am.junk
  · subst hj
    exact ⟨Nat.zero_le _, .nil⟩
  · have hc := h.cells hj
    have hl := hc.length
    rw [hl, List.take_length]
    exact ⟨by simp, hc⟩
theorem VR.cells_of {μ : Ren} {v y : Value} (h : VR μ v y) (hn : (cellsL v).length ≠ 0) : VRL μ (cellsL v) y.cells.toList :=
  h.cells (by rintro rfl; exact hn rfl)

/-! ### Blocks and states -/
def BR (P : Program) (μ : Ren) (K : Nat) (blk : ABlk) (o : Obj) : Prop :=
  match blk with
  | .cells vs elem rw => ∃ c fr, o = .cells c elem fr ∧ vs.length ≤ c.size ∧ VRL μ vs (c.toList.take vs.length) ∧ (rw = true → fr = (0, 0)) ∧ K * P.cellsOf elem ≤ c.size
  | .map es => ∃ l clock, o = .map l clock ∧ VRL μ (es.map (·.1)) (l.toList.map (·.key)) ∧ VRL μ (es.map (·.2)) (l.toList.map (·.val))
  | .loop vals lv ps ab bb st pend => ∃ r : Loop, o = .loop r ∧ r.state = lstOf st ∧ r.pending = pend.map exitCode ∧ r.params.toList = ps ∧ (ps.all fun p => decide (p < r.tmps.size)) = true ∧ ps.Nodup ∧
      CodeOk P r.tmps.size ab r.assign ∧ CodeOk P r.tmps.size bb r.body ∧ ∀ i, VR μ (setMany (fun _ => Am.junk) lv vals i) (r.tmps.getD i undef)
  | .dead => True
theorem BR.mono {P : Program} {μ μ' : Ren} (hm : RenLe μ μ') {K : Nat} {blk : ABlk} {o : Obj} (h : BR P μ K blk o) : BR P μ' K blk o := by
  cases blk with
  | cells vs elem rw => obtain ⟨c, fr, h1, h2, h3, h4, h5⟩ := h; exact ⟨c, fr, h1, h2, h3.mono hm, h4, h5⟩
  | map es => obtain ⟨l, k, h1, h2, h3⟩ := h; exact ⟨l, k, h1, h2.mono hm, h3.mono hm⟩
  | loop => obtain ⟨r, h1, h2, h3, h4, h5, h6, h7, h8, h9⟩ := h; exact ⟨r, h1, h2, h3, h4, h5, h6, h7, h8, fun i => (h9 i).mono hm⟩
  | dead => trivial
theorem BR.cut {P : Program} {μ μ' : Ren} (hm : RenLe μ μ') {K0 K : Nat} {blk : ABlk} {o0 o : Obj} (h0 : BR P μ K0 blk o0) (h : BR P μ' K blk o) : BR P μ K blk o := by
  cases blk with
  | cells vs elem rw =>
    obtain ⟨_, _, _, _, h3, _⟩ := h0
    obtain ⟨c, fr, h1, h2, h3', h4, h5⟩ := h
    exact ⟨c, fr, h1, h2, h3.cut hm h3', h4, h5⟩
  | map es =>
    obtain ⟨_, _, _, h2, h3⟩ := h0
    obtain ⟨l, k, h1, h2', h3'⟩ := h
    exact ⟨l, k, h1, h2.cut hm h2', h3.cut hm h3'⟩
  | loop =>
    obtain ⟨_, _, _, _, _, _, _, _, _, h9⟩ := h0
    obtain ⟨r, h1, h2, h3, h4, h5, h6, h7, h8, h9'⟩ := h
    exact ⟨r, h1, h2, h3, h4, h5, h6, h7, h8, fun i => (h9 i).cut hm (h9' i)⟩
  | dead => trivial
def live (h : AHeap) (b : Nat) : Prop := ∃ blk, h[b]? = some blk ∧ blk ≠ .dead
theorem live.lt {h : AHeap} {b : Nat} (hl : live h b) : b < h.length := by
  obtain ⟨blk, e, _⟩ := hl
  exact (List.getElem?_eq_some_iff.1 e).1
def isRo (h : AHeap) (b : Nat) : Prop := ∃ vs t, h[b]? = some (.cells vs t false)
theorem isRo.live {h : AHeap} {b : Nat} (hr : isRo h b) : live h b := by
  obtain ⟨vs, t, e⟩ := hr
  exact ⟨_, e, by simp⟩

structure Sim (P : Program) (μ : Ren) (h : AHeap) (w : World) : Prop where
  dom : ∀ b l, μ b = some l → b < h.length
  rel : ∀ b l blk, μ b = some l → h[b]? = some blk → blk ≠ .dead → ∃ o, w.heap[l.blk]? = some o ∧ BR P μ l.K blk o
  inj : ∀ b b' l l', μ b = some l → μ b' = some l' → l.blk = l'.blk → live h b → live h b' → b = b'
  lt : ∀ b l, μ b = some l → l.blk < w.heap.size

/-- What lies outside of the heap has not turned. -/
def Out (w w' : World) : Prop := w'.os = w.os ∧ w'.tape = w.tape ∧ w'.output = w.output
theorem Out.rfl {w : World} : Out w w := ⟨Eq.refl _, Eq.refl _, Eq.refl _⟩
theorem Out.trans {a b c : World} (h : Out a b) (h' : Out b c) : Out a c := ⟨h'.1.trans h.1, h'.2.1.trans h.2.1, h'.2.2.trans h.2.2⟩
structure ExtP (μ : Ren) (h : AHeap) (w : World) (μ' : Ren) (h' : AHeap) (w' : World) : Prop where
  le : h.length ≤ h'.length
  old : ∀ b, b < h.length → μ' b = μ b
  size : w.heap.size ≤ w'.heap.size
  frame : ∀ c, c < w.heap.size → (∀ b l, live h b → μ b = some l → l.blk ≠ c) → w'.heap[c]? = w.heap[c]?
  ro : ∀ b l, μ b = some l → isRo h b → w'.heap[l.blk]? = w.heap[l.blk]?
  roStay : ∀ b, isRo h b → h'[b]? = h[b]?
  new : ∀ b l, h.length ≤ b → μ' b = some l → w.heap.size ≤ l.blk ∨ ∃ b0 l0, live h b0 ∧ ¬ isRo h b0 ∧ μ b0 = some l0 ∧ l0.blk = l.blk ∧ ¬ live h' b0
  dead : ∀ b, b < h.length → ¬ live h b → ¬ live h' b
  out : Out w w'

theorem ExtP.refl (μ : Ren) (h : AHeap) (w : World) (hd : ∀ b l, μ b = some l → b < h.length) : ExtP μ h w μ h w :=
  ⟨Nat.le_refl _, fun _ _ => rfl, Nat.le_refl _, fun _ _ _ => rfl, fun _ _ _ _ => rfl, fun _ _ => rfl, fun b l hb e => absurd (hd b l e) (by omega), fun _ _ h => h, Out.rfl⟩
theorem ExtP.renLe {μ μ' : Ren} {h h' : AHeap} {w w' : World} (x : ExtP μ h w μ' h' w') (hd : ∀ b l, μ b = some l → b < h.length) : RenLe μ μ' :=
  fun b l e => (x.old b (hd b l e)).trans e
theorem ExtP.ro' {μ μ' : Ren} {h h' : AHeap} {w w' : World} (x : ExtP μ h w μ' h' w') {b : Nat} : isRo h b → isRo h' b
  | ⟨vs, t, e1⟩ => ⟨vs, t, (x.roStay b ⟨vs, t, e1⟩).trans e1⟩
theorem ExtP.trans {μ μ' μ'' : Ren} {h h' h'' : AHeap} {w w' w'' : World} (x : ExtP μ h w μ' h' w') (y : ExtP μ' h' w' μ'' h'' w'')
    (hd : ∀ b l, μ b = some l → b < h.length) : ExtP μ h w μ'' h'' w'' where
  le := Nat.le_trans x.le y.le
  old b hb := (y.old b (Nat.lt_of_lt_of_le hb x.le)).trans (x.old b hb)
  size := Nat.le_trans x.size y.size
  frame c hc hn := by
    rw [y.frame c (Nat.lt_of_lt_of_le hc x.size) ?_, x.frame c hc hn]
    intro b l hl e
    by_cases hb : b < h.length
    · rw [x.old b hb] at e
      by_cases hlb : live h b
      · exact hn b l hlb e
      · exact absurd hl (x.dead b hb hlb)
    · rcases x.new b l (by omega) e with h1 | ⟨b0, l0, hl0, _, e0, e1, _⟩
      · omega
      · rw [← e1]; exact hn b0 l0 hl0 e0
  ro b l e hr := by
    rw [y.ro b l ((x.old b (hd b l e)).trans e) (x.ro' hr), x.ro b l e hr]
  roStay b hr := by
    rw [y.roStay b (x.ro' hr), x.roStay b hr]
  new b l hb e := by
    by_cases hb' : b < h'.length
    · rw [y.old b hb'] at e
      rcases x.new b l hb e with h1 | ⟨b0, l0, hl0, hr0, e0, e1, hd0⟩
      · exact .inl h1
      · exact .inr ⟨b0, l0, hl0, hr0, e0, e1, y.dead b0 (Nat.lt_of_lt_of_le hl0.lt x.le) hd0⟩
    · rcases y.new b l (by omega) e with h1 | ⟨b0, l0, hl0, hr0, e0, e1, hd0⟩
      · exact .inl (Nat.le_trans x.size h1)
      · by_cases hb0 : b0 < h.length
        · rw [x.old b0 hb0] at e0
          have hlive : live h b0 := Classical.byContradiction fun hn => x.dead b0 hb0 hn hl0
          exact .inr ⟨b0, l0, hlive, fun hr => hr0 (x.ro' hr), e0, e1, hd0⟩
        · rcases x.new b0 l0 (by omega) e0 with h1 | ⟨b1, l1, hl1, hr1, e2, e3, hd1⟩
          · exact .inl (by omega)
          · exact .inr ⟨b1, l1, hl1, hr1, e2, e3.trans e1, y.dead b1 (Nat.lt_of_lt_of_le hl1.lt x.le) hd1⟩
  dead b hb hn := y.dead b (Nat.lt_of_lt_of_le hb x.le) (x.dead b hb hn)
  out := x.out.trans y.out

/-- .. and what has been made is told where it lies. -/
structure Ext (μ : Ren) (h : AHeap) (w : World) (μ' : Ren) (h' : AHeap) (w' : World) : Prop extends ExtP μ h w μ' h' w' where
  tot : ∀ b, h.length ≤ b → live h' b → ∃ l, μ' b = some l
theorem Ext.refl (μ : Ren) (h : AHeap) (w : World) (hd : ∀ b l, μ b = some l → b < h.length) : Ext μ h w μ h w :=
  ⟨ExtP.refl μ h w hd, fun b hb hl => absurd hl.lt (by omega)⟩
theorem Ext.renLe {μ μ' : Ren} {h h' : AHeap} {w w' : World} (x : Ext μ h w μ' h' w') (hd : ∀ b l, μ b = some l → b < h.length) : RenLe μ μ' := x.toExtP.renLe hd
theorem Ext.trans {μ μ' μ'' : Ren} {h h' h'' : AHeap} {w w' w'' : World} (x : Ext μ h w μ' h' w') (y : Ext μ' h' w' μ'' h'' w'')
    (hd : ∀ b l, μ b = some l → b < h.length) : Ext μ h w μ'' h'' w'' := by
  refine ⟨x.toExtP.trans y.toExtP hd, fun b hb hl => ?_⟩
  by_cases hb' : b < h'.length
  · have hl' : live h' b := Classical.byContradiction fun hn => y.dead b hb' hn hl
    obtain ⟨l, e⟩ := x.tot b hb hl'
    exact ⟨l, (y.old b hb').trans e⟩
  · exact y.tot b (by omega) hl

/-! ### Reading -/
theorem cell_of_BR {P : Program} {μ : Ren} {w : World} {vs : List Value} {t : TypeId} {rw : Bool} {c K : Nat} {o : Obj} (hw : w.heap[c]? = some o) (hb : BR P μ K (.cells vs t rw) o) {i : Nat} {x : Value} (hx : vs[i]? = some x) :
    ∃ y, w.cell? ⟨c, i, none⟩ = some y ∧ VR μ x y := by
  obtain ⟨cs, fr, rfl, hl, hv, _⟩ := hb
  obtain ⟨y, hy, hr⟩ := hv.get hx
  have hi : i < vs.length := (List.getElem?_eq_some_iff.1 hx).1
  refine ⟨y, ?_, hr⟩
  rw [List.getElem?_take_of_lt hi] at hy
  simp only [World.cell?, hw, Option.isSome_none, Bool.false_eq_true, if_false]
  simpa using hy
theorem readC_sim {P : Program} {μ : Ren} {h : AHeap} {w : World} (s : Sim P μ h w) {b c K off : Nat} {x : Value} (e : μ b = some ⟨c, K⟩) (hx : readC h b off = some x) :
    ∃ y, w.cell? ⟨c, off, none⟩ = some y ∧ VR μ x y := by
  unfold readC at hx
  split at hx
  · rename_i vs t r hb
    obtain ⟨o, ho, hbr⟩ := s.rel b _ _ e hb (by simp)
    exact cell_of_BR ho hbr hx
  · cases hx
theorem readN_sim {P : Program} {μ : Ren} {h : AHeap} {w : World} (s : Sim P μ h w) {b c K off n : Nat} {xs : List Value} (e : μ b = some ⟨c, K⟩) (hx : readN h b off n = some xs) :
    xs.length = n ∧ ∃ ys, VRL μ xs ys ∧ ∀ j y, ys[j]? = some y → w.cell? ⟨c, off + j, none⟩ = some y := by
  unfold readN at hx
  split at hx
  · rename_i vs t r hb
    obtain ⟨o, ho, hbr⟩ := s.rel b _ _ e hb (by simp)
    split at hx
    · rename_i hle
      cases hx
      refine ⟨by simp; omega, ?_⟩
      obtain ⟨cs, fr, rfl, hl, hv, _⟩ := hbr
      refine ⟨_, (hv.drop off).take n, fun j y hy => ?_⟩
      have hj : j < n := by
        have := (List.getElem?_eq_some_iff.1 hy).1
        simp at this
        omega
      rw [List.getElem?_take_of_lt hj, List.getElem?_drop, List.getElem?_take_of_lt (by omega)] at hy
      simp only [World.cell?, ho, Option.isSome_none, Bool.false_eq_true, if_false]
      simpa using hy
    · cases hx
  · cases hx

end Go.Am
