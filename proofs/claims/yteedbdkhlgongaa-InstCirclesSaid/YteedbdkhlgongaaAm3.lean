/- Each operation: where the abstract function answers, the model's run of the operation answers likewise. -/
import Derived.Test.YteedbdkhlgongaaAm2
import Derived.Laws.StructEq
import Derived.Laws.Entries
import Derived.Laws.Cells
import Derived.Laws.CopyRow
namespace Go.Am
variable {P : Program} {μ : Ren}

/-! ### Pure operations -/
theorem binf_sound {op : BinOp} {x y x' y' v : Value} {t : TypeId} {X Y : Operand} {w : World} (hx : VR μ x x') (hy : VR μ y y') (h : binf op x y = some v) :
    (do eqGuard op t X Y x' y'; binOp op t x' y' : Sem Value).run P w = .ok v w ∧ VR μ v v := by
  unfold binf at h
  split at h
  · rename_i k a k' b
    cases hx
    cases hy
    have hg : (eqGuard op t X Y (.int k a) (.int k' b)).run P w = .ok () w := by
      unfold eqGuard
      cases op <;> rfl
    simp only [Sem.run_bind, hg, Result.andThen_ok]
    cases op <;> simp only [] at h <;> first
      | (split at h
         · cases h
         · rename_i hb
           cases h
           refine ⟨?_, .int _ _⟩
           simp [binOp, Op.shift, hb])
      | (split at h
         · rename_i hk
           subst hk
           first
             | (cases h; refine ⟨?_, by constructor⟩; simp [binOp, Op.intArith, Op.intBits, Op.intCmp]; done)
             | (split at h
                · cases h
                · rename_i hb
                  cases h
                  refine ⟨?_, .int _ _⟩
                  simp [binOp, Op.intDiv, hb])
         · cases h)
  · rename_i a b
    cases hx
    cases hy
    have hg : (eqGuard op t X Y (.string a) (.string b)).run P w = .ok () w := by
      unfold eqGuard
      cases op <;> rfl
    simp only [Sem.run_bind, hg, Result.andThen_ok]
    cases op <;> simp only [] at h <;> first
      | (split at h
         · rename_i hle
           cases h
           refine ⟨?_, .string _⟩
           have hmx : (IntKind.i64.max : Int) = 9223372036854775807 := by decide
           simp only [binOp, Op.stringOp]
           rw [if_neg (by rw [hmx]; omega)]
           rfl
         · cases h)
      | (cases h; refine ⟨?_, .bool _⟩; simp [binOp, Op.stringOp]; done)
      | cases h
  · cases h

theorem run_underlying' {t : TypeId} {d : TypeDesc} {w : World} (h : P.underlying t = some d) : (underlying t).run P w = .ok d w := by
  simp [underlying, h]
theorem run_sizeOf' {t : TypeId} {i : TypeInfo} {w : World} (h : P.info? t = some i) : (sizeOf t).run P w = .ok i.size w := by
  simp [sizeOf, typeInfo, h]
theorem run_zeroValue' {t : TypeId} {i : TypeInfo} {z : Value} {w : World} (h : P.info? t = some i) (hz : i.zero = some z) : (zeroValue t).run P w = .ok z w := by
  simp [zeroValue, typeInfo, h, hz]
theorem run_typeInfo' {t : TypeId} {i : TypeInfo} {w : World} (h : P.info? t = some i) : (typeInfo t).run P w = .ok i w := by
  simp [typeInfo, h]
theorem run_isAgg' {t : TypeId} {d : TypeDesc} {w : World} (h : P.underlying t = some d) : (isAgg t).run P w = .ok (isAggD d) w := by
  simp only [isAgg, Sem.run_bind, run_underlying' h, Result.andThen_ok]
  cases d <;> rfl

theorem equalIn_bool (d : Nat) {t : TypeId} {w : World} (ht : P.underlying t = some .bool) (a b : Bool) : (Op.equalIn (d + 1) t (.bool a) (.bool b)).run P w = .ok (a == b) w := by
  simp [Op.equalIn, run_underlying' ht]
theorem eqBoolf_sound {neg : Bool} {op : BinOp} {x y x' y' v : Value} {t : TypeId} {X Y : Operand} {w : World} (hx : VR μ x x') (hy : VR μ y y') (h : eqBoolf neg x y = some v)
    (ht : P.underlying t = some .bool) (ho : op = if neg then .neq else .eql) :
    (do eqGuard op t X Y x' y'; binOp op t x' y' : Sem Value).run P w = .ok v w ∧ VR μ v v := by
  unfold eqBoolf at h
  split at h
  · rename_i a b
    cases hx
    cases hy
    cases h
    refine ⟨?_, .bool _⟩
    subst ho
    have he : (Op.equal t (.bool a) (.bool b)).run P w = .ok (a == b) w := equalIn_bool 9999 ht a b
    cases neg
    · have hg : (eqGuard .eql t X Y (.bool a) (.bool b)).run P w = .ok () w := rfl
      simp [hg, binOp, he]
    · have hg : (eqGuard .neq t X Y (.bool a) (.bool b)).run P w = .ok () w := rfl
      simp [hg, binOp, he]
  · cases h

/-- A value of a type's kind, as far as nil is concerned. -/
def kindOk : TypeDesc → Value → Bool
  | .slice _, .slice .. => true
  | .pointer _, .pointer _ => true
  | .map _ _, .map _ => true
  | .func _ _ _, .func .. => true
  | .func _ _ _, .nilFunc => true
  | .interface _, .iface .. => true
  | .interface _, .nilIface => true
  | _, _ => false
theorem isNilf_val {neg : Bool} {x x' v : Value} (hx : VR μ x x') (h : isNilf neg x = some v) : isNilf neg x' = some v := by
  cases hx <;> simp_all [isNilf, Am.junk]
theorem equalIn_slice (d : Nat) {t e : TypeId} {w : World} (ht : P.underlying t = some (.slice e)) (a : Option Addr) (n c : Nat) :
    (Op.equalIn (d + 1) t (.slice a n c) (.slice none 0 0)).run P w = .ok a.isNone w ∧ (Op.equalIn (d + 1) t (.slice none 0 0) (.slice a n c)).run P w = .ok a.isNone w := by
  cases a <;> simp [Op.equalIn, run_underlying' ht]
theorem equalIn_map (d : Nat) {t k e : TypeId} {w : World} (ht : P.underlying t = some (.map k e)) (a : Option Nat) :
    (Op.equalIn (d + 1) t (.map a) (.map none)).run P w = .ok a.isNone w ∧ (Op.equalIn (d + 1) t (.map none) (.map a)).run P w = .ok a.isNone w := by
  cases a <;> simp [Op.equalIn, run_underlying' ht]
theorem equalIn_ptr (d : Nat) {t e : TypeId} {w : World} (ht : P.underlying t = some (.pointer e)) (a : Option Addr) :
    (Op.equalIn (d + 1) t (.pointer a) (.pointer none)).run P w = .ok a.isNone w ∧ (Op.equalIn (d + 1) t (.pointer none) (.pointer a)).run P w = .ok a.isNone w := by
  cases a <;> simp [Op.equalIn, run_underlying' ht]
theorem equalIn_func (d : Nat) {t : TypeId} {ps rs : Array TypeId} {b : Bool} {w : World} (ht : P.underlying t = some (.func ps rs b)) (f : Fn) (xs ys : Array Value) :
    (Op.equalIn (d + 1) t (.func f xs ys) .nilFunc).run P w = .ok false w ∧ (Op.equalIn (d + 1) t .nilFunc (.func f xs ys)).run P w = .ok false w ∧ (Op.equalIn (d + 1) t .nilFunc .nilFunc).run P w = .ok true w := by
  simp [Op.equalIn, run_underlying' ht]
theorem equalIn_iface (d : Nat) {t : TypeId} {ms : Array (String × TypeId)} {w : World} (ht : P.underlying t = some (.interface ms)) (u : TypeId) (v : Value) :
    (Op.equalIn (d + 1) t (.iface u v) .nilIface).run P w = .ok false w ∧ (Op.equalIn (d + 1) t .nilIface (.iface u v)).run P w = .ok false w ∧ (Op.equalIn (d + 1) t .nilIface .nilIface).run P w = .ok true w := by
  simp [Op.equalIn, run_underlying' ht]
/-- Is it nil? -/
def isNilB : Value → Bool
  | .slice none _ _ | .pointer none | .nilFunc | .map none | .nilIface => true
  | _ => false
theorem isNilf_eq {neg : Bool} {x v : Value} (h : isNilf neg x = some v) : v = .bool (neg != isNilB x) := by
  unfold isNilf at h
  split at h <;> first | (cases h; rfl) | cases h
theorem isNil_equal {d : TypeDesc} {t : TypeId} {x z : Value} {w : World} (ht : P.underlying t = some d) (hz : nilOf d = some z) (hk : kindOk d x = true) :
    (Op.equal t x z).run P w = .ok (isNilB x) w ∧ (Op.equal t z x).run P w = .ok (isNilB x) w := by
  cases d with
  | slice e =>
    cases hz
    cases x with
    | slice a n c => have := equalIn_slice 9999 (w := w) ht a n c; cases a <;> exact this
    | _ => simp [kindOk] at hk
  | pointer e =>
    cases hz
    cases x with
    | pointer a => have := equalIn_ptr 9999 (w := w) ht a; cases a <;> exact this
    | _ => simp [kindOk] at hk
  | map k e =>
    cases hz
    cases x with
    | map a => have := equalIn_map 9999 (w := w) ht a; cases a <;> exact this
    | _ => simp [kindOk] at hk
  | func ps rs b =>
    cases hz
    cases x with
    | func f xs ys => have := equalIn_func 9999 (w := w) ht f xs ys; exact ⟨this.1, this.2.1⟩
    | nilFunc => have := (equalIn_func 9999 (w := w) ht (.func 0) #[] #[]).2.2; exact ⟨this, this⟩
    | _ => simp [kindOk] at hk
  | interface ms =>
    cases hz
    cases x with
    | iface u v => have := equalIn_iface 9999 (w := w) ht u v; exact ⟨this.1, this.2.1⟩
    | nilIface => have := (equalIn_iface 9999 (w := w) ht 0 .nilIface).2.2; exact ⟨this, this⟩
    | _ => simp [kindOk] at hk
  | _ => cases hz

theorem equalIn_int (d : Nat) {t : TypeId} {k0 : IntKind} {w : World} (ht : P.underlying t = some (.int k0)) (k : IntKind) (a b : Int) : (Op.equalIn (d + 1) t (.int k a) (.int k b)).run P w = .ok (a == b) w := by
  simp [Op.equalIn, run_underlying' ht]
theorem equalIn_str (d : Nat) {t : TypeId} {w : World} (ht : P.underlying t = some .string) (a b : ByteArray) : (Op.equalIn (d + 1) t (.string a) (.string b)).run P w = .ok (a == b) w := by
  simp [Op.equalIn, run_underlying' ht]
/-! ### Equality of structs whose fields are whole numbers, bools and strings -/
theorem eqCells_same {μ : Ren} : ∀ {ks : List BK} {xs ys xs' ys' : List Value} {r : Bool}, eqCells ks xs ys = some r → VRL μ xs xs' → VRL μ ys ys' → xs' = xs ∧ ys' = ys := by
  intro ks
  induction ks with
  | nil =>
    intro xs ys xs' ys' r h hx hy
    cases hx with
    | nil => cases hy with
      | nil => exact ⟨rfl, rfl⟩
      | cons => simp [eqCells] at h
    | cons => simp [eqCells] at h
  | cons k ks ih =>
    intro xs ys xs' ys' r h hx hy
    unfold eqCells at h
    split at h
    · rename_i heq; cases heq
    · rename_i heq
      cases heq
      cases hx with
      | cons h1 h2 =>
      cases hy with
      | cons g1 g2 =>
      cases h1
      cases g1
      split at h
      · rw [Option.map_eq_some_iff] at h
        obtain ⟨r', h, _⟩ := h
        obtain ⟨rfl, rfl⟩ := ih h h2 g2
        exact ⟨rfl, rfl⟩
      · cases h
    · rename_i heq
      cases heq
      cases hx with
      | cons h1 h2 =>
      cases hy with
      | cons g1 g2 =>
      cases h1
      cases g1
      rw [Option.map_eq_some_iff] at h
      obtain ⟨r', h, _⟩ := h
      obtain ⟨rfl, rfl⟩ := ih h h2 g2
      exact ⟨rfl, rfl⟩
    · rename_i heq
      cases heq
      cases hx with
      | cons h1 h2 =>
      cases hy with
      | cons g1 g2 =>
      cases h1
      cases g1
      rw [Option.map_eq_some_iff] at h
      obtain ⟨r', h, _⟩ := h
      obtain ⟨rfl, rfl⟩ := ih h h2 g2
      exact ⟨rfl, rfl⟩
    · cases h
theorem part_basic {t : TypeId} {b : BK} {w : World} (hb : bkOf (P.underlying t) = some b) {cs : Array Value} {i : Nat} {v : Value} (hv : cs[i]? = some v) : (part t cs i).run P w = .ok v w := by
  have hd : ∃ d, P.underlying t = some d ∧ isAggD d = false := by
    unfold bkOf at hb
    split at hb <;> first | (rename_i hu; exact ⟨_, hu, rfl⟩) | cases hb
  obtain ⟨d, hu, ha⟩ := hd
  simp only [part, Sem.run_bind, run_isAgg' hu, ha, Result.andThen_ok, Bool.false_eq_true, if_false, hv, Sem.run_pure]
theorem eqFields_sound (w : World) {xs ys : Array Value} : ∀ {fs : List Field} {ks : List BK} {i : Nat} {r : Bool}, flatF P i fs = some ks → eqCells ks (xs.toList.drop i) (ys.toList.drop i) = some r →
    (Op.eqFields 9999 xs ys fs).run P w = .ok r w := by
  intro fs
  induction fs with
  | nil =>
    intro ks i r hf h
    cases hf
    unfold eqCells at h
    split at h
    · cases h; simp [Op.eqFields]
    all_goals first | (rename_i heq _ _; cases heq) | cases h
  | cons f fs ih =>
    intro ks i r hf h
    unfold flatF at hf
    split at hf
    · rename_i b bs hb hbs
      split at hf
      · rename_i hcond
        cases hf
        obtain ⟨ho, hn⟩ := hcond
        have hn' : f.name ≠ "_" := by simpa using hn
        have step : ∀ (x y : Value) (xs1 ys1 : List Value) (q r' : Bool), xs.toList.drop i = x :: xs1 → ys.toList.drop i = y :: ys1 → eqCells bs xs1 ys1 = some r' → (Op.equalIn 9999 f.type x y).run P w = .ok q w →
            (Op.eqFields 9999 xs ys (f :: fs)).run P w = .ok (q && r') w := by
          intro x y xs1 ys1 q r' hx hy hr hq
          have hx0 : xs[f.offset]? = some x := by
            have : (xs.toList.drop i)[0]? = some x := by rw [hx]; rfl
            rw [List.getElem?_drop] at this
            rw [ho]; simpa using this
          have hy0 : ys[f.offset]? = some y := by
            have : (ys.toList.drop i)[0]? = some y := by rw [hy]; rfl
            rw [List.getElem?_drop] at this
            rw [ho]; simpa using this
          have hx1 : xs.toList.drop (i + 1) = xs1 := by rw [← List.tail_drop, hx]; rfl
          have hy1 : ys.toList.drop (i + 1) = ys1 := by rw [← List.tail_drop, hy]; rfl
          have hrest := ih hbs (r := r') (by rw [hx1, hy1]; exact hr)
          rw [Op.eqFields]
          simp only [if_pos hn', Sem.run_bind, part_basic hb hx0, part_basic hb hy0, hq, Result.andThen_ok]
          cases q
          · simp
          · simpa using hrest
        unfold eqCells at h
        split at h
        · rename_i heq _ _; cases heq
        · rename_i heq hx hy
          cases heq
          split at h
          · rename_i hk
            rw [Option.map_eq_some_iff] at h
            obtain ⟨r', h, rfl⟩ := h
            refine step _ _ _ _ _ _ hx hy h ?_
            unfold bkOf at hb
            split at hb
            · rename_i hu
              subst hk
              exact equalIn_int 9998 hu _ _ _
            all_goals cases hb
          · cases h
        · rename_i heq hx hy
          cases heq
          rw [Option.map_eq_some_iff] at h
          obtain ⟨r', h, rfl⟩ := h
          refine step _ _ _ _ _ _ hx hy h ?_
          unfold bkOf at hb
          split at hb
          · cases hb
          · rename_i hu
            exact equalIn_bool 9998 hu _ _
          all_goals cases hb
        · rename_i heq hx hy
          cases heq
          rw [Option.map_eq_some_iff] at h
          obtain ⟨r', h, rfl⟩ := h
          refine step _ _ _ _ _ _ hx hy h ?_
          unfold bkOf at hb
          split at hb
          · cases hb
          · cases hb
          · rename_i hu
            exact equalIn_str 9998 hu _ _
          all_goals cases hb
        · cases h
      · cases hf
    · cases hf
theorem eqAggf_sound {μ : Ren} {ks : List BK} {neg : Bool} {op : BinOp} {x y x' y' v : Value} {t : TypeId} {X Y : Operand} {w : World} (hx : VR μ x x') (hy : VR μ y y') (h : eqAggf ks neg x y = some v)
    (ht : flatT P t = some ks) (ho : op = if neg then .neq else .eql) :
    (do eqGuard op t X Y x' y'; binOp op t x' y' : Sem Value).run P w = .ok v w ∧ VR μ v v := by
  unfold eqAggf at h
  split at h
  · rename_i xs ys
    cases hx with
    | agg hx =>
    cases hy with
    | agg hy =>
    rename_i xs' ys'
    rw [Option.map_eq_some_iff] at h
    obtain ⟨r, h, rfl⟩ := h
    obtain ⟨e1, e2⟩ := eqCells_same h hx hy
    obtain rfl : xs' = xs := Array.ext' e1
    obtain rfl : ys' = ys := Array.ext' e2
    unfold flatT at ht
    split at ht
    · rename_i fs hu
      split at ht
      · rename_i hc
        have hfo : P.fieldsOf t = fs := by simp [Program.fieldsOf, hu]
        have he : (Op.equal t (.agg xs') (.agg ys')).run P w = .ok r w := by
          show (Op.equalIn (9999 + 1) t (.agg xs') (.agg ys')).run P w = _
          rw [run_equalIn_struct (P := P) w 9999 t xs' ys' (by rw [hfo]; exact hu) hc.1, hfo]
          exact eqFields_sound w ht (by simpa using h)
        refine ⟨?_, .bool _⟩
        subst ho
        cases neg
        · have hg : (eqGuard .eql t X Y (.agg xs') (.agg ys')).run P w = .ok () w := by
            simp [eqGuard, hc.2]
          simp [hg, binOp, he]
        · have hg : (eqGuard .neq t X Y (.agg xs') (.agg ys')).run P w = .ok () w := by
            simp [eqGuard, hc.2]
          simp [hg, binOp, he]
      · cases ht
    · cases ht
  · cases h

end Go.Am
