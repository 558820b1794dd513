/- Loops by an invariant; what the library's functions over slices do. -/
import Derived.Test.YteedbdkhlgongaaAm30
set_option linter.unusedSimpArgs false
set_option linter.unusedVariables false
namespace Go.Am

/-- A loop: in each round it goes on with the invariant, or ends with what is wanted. -/
theorem loop_ok {R : Type} {B : (List Value → AHeap → Option R) → List Value → AHeap → Option R} {len : Nat} (Q : Nat → List Value → AHeap → Prop) (E : Option R → Prop)
    (hstep : ∀ i vs h, i < len → Q i vs h → (∃ vs' h', Q (i + 1) vs' h' ∧ ∀ K, B K vs h = K vs' h') ∨ (∃ r, E r ∧ ∀ K, B K vs h = r))
    (hend : ∀ vs h, Q len vs h → ∃ r, E r ∧ ∀ K, B K vs h = r) : ∀ (n i : Nat) (vs : List Value) (h : AHeap), Q i vs h → i ≤ len → len < n + i → E (loopN B n vs h) := by
  intro n
  induction n with
  | zero => intro i vs h _ _ _; omega
  | succ n ih =>
    intro i vs h hq hi hn
    rw [loopN_succ]
    by_cases hlt : i < len
    · rcases hstep i vs h hlt hq with ⟨vs', h', hq', e⟩ | ⟨r, hr, e⟩
      · rw [e]
        exact ih (i + 1) vs' h' hq' hlt (by omega)
      · rw [e]; exact hr
    · have : i = len := by omega
      subst this
      obtain ⟨r, hr, e⟩ := hend vs h hq
      rw [e]; exact hr

/-- Lengths that fit into memory. -/
theorem len64 {n : Nat} (h : n ≤ mostLen) : isI64 n := by unfold isI64; unfold mostLen at h; omega
theorem succ64 {i : Nat} (h : i < 4294967297) : IntKind.i64.wrap ((i : Int) + 1) = ((i + 1 : Nat) : Int) := by rw [wrap64 (by unfold isI64; omega)]; omega
theorem lt_len {α : Type} {l : List α} {i : Nat} (h : i < l.length) : ∃ a, l[i]? = some a := ⟨_, List.getElem?_eq_getElem h⟩

/-- The first place at which p holds, or -1. -/
def idxf {α : Type} (p : α → Bool) (l : List α) : Int := match l.findIdx? p with | some i => i | none => -1
theorem idxf_range {α : Type} (p : α → Bool) (l : List α) : -1 ≤ idxf p l ∧ idxf p l < l.length := by
  unfold idxf
  split
  · rename_i i hi
    obtain ⟨hlt, _⟩ := List.findIdx?_eq_some_iff_getElem.1 hi
    omega
  · omega
theorem idxf_any {α : Type} (p : α → Bool) (l : List α) : decide (idxf p l ≥ 0) = l.any p := by
  unfold idxf
  split
  · rename_i i hi
    obtain ⟨h1, h2, _⟩ := List.findIdx?_eq_some_iff_getElem.1 hi
    rw [List.any_eq_true.2 ⟨_, List.getElem_mem h1, h2⟩]
    exact decide_eq_true (by omega)
  · rename_i hi
    rw [List.findIdx?_eq_none_iff] at hi
    rw [List.any_eq_false.2 fun x hx => by simp [hi x hx]]
    simp
theorem idxf_at {α : Type} {p : α → Bool} {l : List α} {i : Nat} {a : α} (hi : l[i]? = some a) (hp : p a = true) (hb : ∀ j, j < i → ∀ b, l[j]? = some b → p b = false) : idxf p l = i := by
  unfold idxf
  have : l.findIdx? p = some i := List.findIdx?_eq_some_iff_getElem.2 ⟨(List.getElem?_eq_some_iff.1 hi).1, by rw [(List.getElem?_eq_some_iff.1 hi).2]; exact hp, fun j hj => by
    have := hb j hj _ (List.getElem?_eq_getElem (by have := (List.getElem?_eq_some_iff.1 hi).1; omega))
    simp [this]⟩
  rw [this]
theorem idxf_none {α : Type} {p : α → Bool} {l : List α} (hb : ∀ (j : Nat) b, l[j]? = some b → p b = false) : idxf p l = -1 := by
  unfold idxf
  have : l.findIdx? p = none := List.findIdx?_eq_none_iff.2 fun x hx => by
    obtain ⟨j, hj⟩ := List.getElem?_of_mem hx
    simp [hb j x hj]
  rw [this]

/-- An element of a slice whose elements have no slices in them. -/
theorem R.flat_at {α : Type} {f : α → List Dat} {vals : α → List Value} {S : Nat → Prop} {h : AHeap} {x : Value} {l : List α} {size : Nat} (r : R S h x (.sl (l.map f))) (hl : ∀ a, (f a).length = size) (h1 : 0 < size)
    (hf : ∀ ws a, RL S h ws (f a) → ws = vals a) {i : Nat} {a : α} (hi : l[i]? = some a) :
    ∃ b o, indexAddrf size x (.int .i64 i) = some (ptrTo b o) ∧ readN h b o size = some (vals a) ∧ S b := by
  obtain ⟨b, o, ws, g1, g2, g3, g4⟩ := r.elem (fun q hq => by obtain ⟨t, _, rfl⟩ := List.mem_map.1 hq; exact hl t) h1 (get_map hi)
  rw [hf ws a g3] at g2
  exact ⟨b, o, g1, g2, g4⟩
theorem R.struct_at {α : Type} {f : α → List Dat} {S : Nat → Prop} {h : AHeap} {x : Value} {l : List α} {size : Nat} (r : R S h x (.sl (l.map f))) (hl : ∀ a, (f a).length = size) (h1 : 0 < size) {i : Nat} {a : α} (hi : l[i]? = some a) :
    ∃ b o ws, indexAddrf size x (.int .i64 i) = some (ptrTo b o) ∧ readN h b o size = some ws ∧ RL S h ws (f a) ∧ S b :=
  r.elem (fun q hq => by obtain ⟨t, _, rfl⟩ := List.mem_map.1 hq; exact hl t) h1 (get_map hi)

/-! ### slices.Index of numbers -/
noncomputable def indexL (x0 x1 : Value) (h : AHeap) (v0 : Value) (j1 : List Value → AHeap → Rt) : (List Value → AHeap → Rt) → List Value → AHeap → Rt := fun c4 w5 h6 =>
 (binf .lss (nth w5 0) v0).bind fun v7 =>
 JL (fun w9 h10 =>
 JL (fun w12 h13 =>
 (binf .add (nth w5 0) ((.int .i64 1) : Value)).bind fun v14 =>
 c4 [v14] h13) fun j11 =>
 (indexAddrf 1 x0 (nth w5 0)).bind fun v15 =>
 (loadf false 1 v15 h10).bind fun v16 =>
 (binf .eql x1 v16).bind fun v17 =>
 JL (fun w19 h20 =>
 j11 [] h20) fun j18 =>
 ifK v17 (
 fin h h10 [(nth w5 0)]) (
 j18 [] h10)) fun j8 =>
 ifK v7 (
 j8 [] h6) (
 j1 [] h6)
noncomputable def indexK (n : Nat) (x0 x1 : Value) (h : AHeap) : Rt :=
 (lenf false x0).bind fun v0 =>
 JL (fun w2 h3 =>
 fin h h3 [((.int .i64 (-1)) : Value)]) fun j1 =>
 loopN (indexL x0 x1 h v0 j1) n [((.int .i64 0) : Value)] h
theorem index_ok {S : Nat → Prop} {h : AHeap} {x : Value} {l : List Int} {v : Int} (r : R S h x (.sl (l.map iD))) (hm : l.length ≤ mostLen) {n : Nat} (hn : l.length < n) :
    indexK n x (.int .i64 v) h = some (.int .i64 (idxf (v == ·) l), h) := by
  unfold indexK
  simp only [r.lenm, Option.bind_some, JL]
  refine loop_ok (len := l.length) (fun i vs h' => vs = [.int .i64 i] ∧ h = h' ∧ ∀ j, j < i → ∀ b, l[j]? = some b → (v == b) = false) (fun r : Rt => r = some (.int .i64 (idxf (v == ·) l), h)) ?_ ?_ n 0 _ _ ⟨rfl, rfl, fun j hj => by omega⟩ (Nat.zero_le _) (by omega)
  · rintro i _ _ hi ⟨rfl, rfl, hb⟩
    obtain ⟨a, ha⟩ := lt_len hi
    obtain ⟨b, o, g1, g2, _⟩ := r.int_at ha
    cases hp : (v == a) with
    | true =>
      refine .inr ⟨some (.int .i64 i, h), by rw [idxf_at ha hp hb], fun K => ?_⟩
      unfold indexL
      simp only [nth_zero, binf_lss, Option.bind_some, JL, ifK_bool, decide_eq_true_eq, load_cell, binf_eql]
      rw [if_pos (by omega)]
      simp only [g1, Option.bind_some, load_cell, g2, binf_eql, hp, ifK_bool, if_true, fin_self, single]
    | false =>
      refine .inl ⟨[.int .i64 ((i + 1 : Nat) : Int)], h, ⟨rfl, rfl, fun j hj b hb' => ?_⟩, fun K => ?_⟩
      · by_cases hji : j = i
        · subst hji; rw [ha] at hb'; cases hb'; exact hp
        · exact hb j (by omega) b hb'
      · unfold indexL
        unfold mostLen at hm
        simp only [nth_zero, binf_lss, Option.bind_some, JL, ifK_bool, decide_eq_true_eq, load_cell, binf_eql, binf_add]
        rw [if_pos (by omega)]
        simp only [g1, Option.bind_some, load_cell, g2, binf_eql, hp, ifK_bool, Bool.false_eq_true, if_false, succ64 (show i < 4294967297 by omega)]
  · rintro _ _ ⟨rfl, rfl, hb⟩
    refine ⟨some (.int .i64 (-1), h), by rw [idxf_none fun j b hj => hb j (List.getElem?_eq_some_iff.1 hj).1 b hj], fun K => ?_⟩
    unfold indexL
    simp only [nth_zero, binf_lss, Option.bind_some, JL, ifK_bool, decide_eq_true_eq]
    rw [if_neg (by omega), fin_self]
    rfl

/-! ### slices.IndexFunc -/
/-- A function of one element that tells p of it, and leaves the heap as it is, in every heap that has kept K. -/
def Tells (Γ : Callee) (fv : Value) {α : Type} (el : α → Value) (p : α → Bool) (l : List α) (K : Nat → Prop) (h0 : AHeap) : Prop :=
  ∀ (h : AHeap), h0.length ≤ h.length → (∀ b, K b → h[b]? = h0[b]?) → ∀ a ∈ l, callVf Γ fv [el a] h = some (.bool (p a), h)
noncomputable def indexFuncL (Γ : Callee) (agg : Bool) (size : Nat) (x0 x1 : Value) (h : AHeap) (v0 : Value) (j1 : List Value → AHeap → Rt) : (List Value → AHeap → Rt) → List Value → AHeap → Rt := fun c4 w5 h6 =>
 (binf .lss (nth w5 0) v0).bind fun v7 =>
 JL (fun w9 h10 =>
 JL (fun w12 h13 =>
 (binf .add (nth w5 0) ((.int .i64 1) : Value)).bind fun v14 =>
 c4 [v14] h13) fun j11 =>
 (indexAddrf size x0 (nth w5 0)).bind fun v15 =>
 (loadf agg size v15 h10).bind fun v16 =>
 (callVf Γ x1 [v16] h10).bind fun p17 =>
 JL (fun w19 h20 =>
 j11 [] h20) fun j18 =>
 ifK p17.1 (
 fin h p17.2 [(nth w5 0)]) (
 j18 [] p17.2)) fun j8 =>
 ifK v7 (
 j8 [] h6) (
 j1 [] h6)
noncomputable def indexFuncK (Γ : Callee) (agg : Bool) (size : Nat) (n : Nat) (x0 x1 : Value) (h : AHeap) : Rt :=
 (lenf false x0).bind fun v0 =>
 JL (fun w2 h3 =>
 fin h h3 [((.int .i64 (-1)) : Value)]) fun j1 =>
 loopN (indexFuncL Γ agg size x0 x1 h v0 j1) n [((.int .i64 0) : Value)] h
/-- An element as it is loaded. -/
theorem indexFunc_ok {Γ : Callee} {α : Type} {f : α → List Dat} {el : α → Value} {p : α → Bool} {h : AHeap} {x fv : Value} {l : List α} {agg : Bool} {size n : Nat} {S : Nat → Prop} {K0 : Nat → Prop} (r : R S h x (.sl (l.map f)))
    (hel : ∀ (i : Nat) a, l[i]? = some a → ∃ b o, indexAddrf size x (.int .i64 i) = some (ptrTo b o) ∧ loadf agg size (ptrTo b o) h = some (el a))
    (ht : Tells Γ fv el p l K0 h) (hm : l.length ≤ mostLen) (hn : l.length < n) :
    indexFuncK Γ agg size n x fv h = some (.int .i64 (idxf p l), h) := by
  unfold indexFuncK
  simp only [r.lenm, Option.bind_some, JL]
  refine loop_ok (len := l.length) (fun i vs h' => vs = [.int .i64 i] ∧ h = h' ∧ ∀ j, j < i → ∀ b, l[j]? = some b → p b = false) (fun r : Rt => r = some (.int .i64 (idxf p l), h)) ?_ ?_ n 0 _ _ ⟨rfl, rfl, fun j hj => by omega⟩ (Nat.zero_le _) (by omega)
  · rintro i _ _ hi ⟨rfl, rfl, hb⟩
    obtain ⟨a, ha⟩ := lt_len hi
    obtain ⟨b, o, g1, g2⟩ := hel i a ha
    have g3 := ht h (Nat.le_refl _) (fun _ _ => rfl) a (List.mem_of_getElem? ha)
    cases hp : p a with
    | true =>
      refine .inr ⟨some (.int .i64 i, h), by rw [idxf_at ha hp hb], fun K => ?_⟩
      unfold indexFuncL
      simp only [nth_zero, binf_lss, Option.bind_some, JL, ifK_bool, decide_eq_true_eq]
      rw [if_pos (by omega)]
      simp only [g1, Option.bind_some, g2, g3, hp, ifK_bool, if_true, fin_self, single]
    | false =>
      refine .inl ⟨[.int .i64 ((i + 1 : Nat) : Int)], h, ⟨rfl, rfl, fun j hj b hb' => ?_⟩, fun K => ?_⟩
      · by_cases hji : j = i
        · subst hji; rw [ha] at hb'; cases hb'; exact hp
        · exact hb j (by omega) b hb'
      · unfold indexFuncL
        unfold mostLen at hm
        simp only [nth_zero, binf_lss, Option.bind_some, JL, ifK_bool, decide_eq_true_eq, binf_add]
        rw [if_pos (by omega)]
        simp only [g1, Option.bind_some, g2, g3, hp, ifK_bool, Bool.false_eq_true, if_false, succ64 (show i < 4294967297 by omega)]
  · rintro _ _ ⟨rfl, rfl, hb⟩
    refine ⟨some (.int .i64 (-1), h), by rw [idxf_none fun j b hj => hb j (List.getElem?_eq_some_iff.1 hj).1 b hj], fun K => ?_⟩
    unfold indexFuncL
    simp only [nth_zero, binf_lss, Option.bind_some, JL, ifK_bool, decide_eq_true_eq]
    rw [if_neg (by omega), fin_self]
    rfl

/-! ### slices.Equal -/
/-- The truth of a proposition. -/
noncomputable def cdec (p : Prop) : Bool := @decide p (Classical.propDecidable p)
theorem cdec_iff {p : Prop} : cdec p = true ↔ p := @decide_eq_true_iff p (Classical.propDecidable p)
theorem cdec_true {p : Prop} (h : p) : cdec p = true := cdec_iff.2 h
theorem cdec_false {p : Prop} (h : ¬ p) : cdec p = false := by
  cases e : cdec p with
  | true => exact absurd (cdec_iff.1 e) h
  | false => rfl
theorem cdec_eq {p : Prop} {b : Bool} (h : b = true ↔ p) : b = cdec p := Bool.eq_iff_iff.2 (h.trans cdec_iff.symm)
theorem cdec_dec {p : Prop} [inst : Decidable p] : cdec p = decide p := (cdec_eq (by simp)).symm
noncomputable def equalL (agg : Bool) (size : Nat) (cmp : Value → Value → Option Value) (x0 : Value) (x1 : Value) (h : AHeap) (v6 : Value) (j7 : List Value → AHeap → Rt) : (List Value → AHeap → Rt) → List Value → AHeap → Rt := fun c10 w11 h12 =>
 (binf .lss (nth w11 0) v6).bind fun v13 =>
 JL (fun w15 h16 =>
 JL (fun w18 h19 =>
 (binf .add (nth w11 0) ((.int .i64 1) : Value)).bind fun v20 =>
 c10 [v20] h19) fun j17 =>
 (indexAddrf size x0 (nth w11 0)).bind fun v21 =>
 (loadf agg size v21 h16).bind fun v22 =>
 (indexAddrf size x1 (nth w11 0)).bind fun v23 =>
 (loadf agg size v23 h16).bind fun v24 =>
 (cmp v22 v24).bind fun v25 =>
 JL (fun w27 h28 =>
 j17 [] h28) fun j26 =>
 ifK v25 (
 fin h h16 [((.bool false) : Value)]) (
 j26 [] h16)) fun j14 =>
 ifK v13 (
 j14 [] h12) (
 j7 [] h12)
noncomputable def equalK (agg : Bool) (size : Nat) (cmp : Value → Value → Option Value) (n : Nat) (x0 : Value) (x1 : Value) (h : AHeap) : Rt :=
 (lenf false x0).bind fun v0 =>
 (lenf false x1).bind fun v1 =>
 (binf .neq v0 v1).bind fun v2 =>
 JL (fun w4 h5 =>
 (lenf false x0).bind fun v6 =>
 JL (fun w8 h9 =>
 fin h h9 [((.bool true) : Value)]) fun j7 =>
 loopN (equalL agg size cmp x0 x1 h v6 j7) n [((.int .i64 0) : Value)] h5) fun j3 =>
 ifK v2 (
 fin h h [((.bool false) : Value)]) (
 j3 [] h)
theorem eq_of_get {α : Type} {l m : List α} (hl : l.length = m.length) (hg : ∀ j, j < l.length → l[j]? = m[j]?) : l = m :=
  List.ext_getElem? fun i => by
    by_cases hi : i < l.length
    · exact hg i hi
    · rw [List.getElem?_eq_none (by omega), List.getElem?_eq_none (by omega)]
theorem equal_ok {α : Type} {f : α → List Dat} {el : α → Value} {S S' : Nat → Prop} {h : AHeap} {x y : Value} {l m : List α} {agg : Bool} {size n : Nat} {cmp : Value → Value → Option Value} (rx : R S h x (.sl (l.map f))) (ry : R S' h y (.sl (m.map f)))
    (hx : ∀ (i : Nat) a, l[i]? = some a → ∃ b o, indexAddrf size x (.int .i64 i) = some (ptrTo b o) ∧ loadf agg size (ptrTo b o) h = some (el a))
    (hy : ∀ (i : Nat) a, m[i]? = some a → ∃ b o, indexAddrf size y (.int .i64 i) = some (ptrTo b o) ∧ loadf agg size (ptrTo b o) h = some (el a))
    (hc : ∀ a b, cmp (el a) (el b) = some (.bool !(cdec (a = b)))) (hm : l.length ≤ mostLen) (hn : l.length < n) :
    equalK agg size cmp n x y h = some (.bool (cdec (l = m)), h) := by
  unfold equalK
  simp only [rx.lenm, ry.lenm, Option.bind_some, JL, binf_neq, ifK_bool, bne_iff_ne, ne_eq]
  by_cases hlen : l.length = m.length
  · rw [if_neg (by omega)]
    refine loop_ok (len := l.length) (fun i vs h' => vs = [.int .i64 i] ∧ h = h' ∧ ∀ j, j < i → l[j]? = m[j]?) (fun r : Rt => r = some (.bool (cdec (l = m)), h)) ?_ ?_ n 0 _ _ ⟨rfl, rfl, fun j hj => by omega⟩ (Nat.zero_le _) (by omega)
    · rintro i _ _ hi ⟨rfl, rfl, hb⟩
      obtain ⟨a, ha⟩ := lt_len hi
      obtain ⟨c, hc'⟩ := lt_len (show i < m.length by omega)
      obtain ⟨b, o, g1, g2⟩ := hx i a ha
      obtain ⟨b', o', g3, g4⟩ := hy i c hc'
      by_cases hp : a = c
      · refine .inl ⟨[.int .i64 ((i + 1 : Nat) : Int)], h, ⟨rfl, rfl, fun j hj => ?_⟩, fun K => ?_⟩
        · by_cases hji : j = i
          · subst hji; rw [ha, hc', hp]
          · exact hb j (by omega)
        · unfold equalL
          unfold mostLen at hm
          simp only [nth_zero, binf_lss, Option.bind_some, JL, ifK_bool, decide_eq_true_eq, binf_add]
          rw [if_pos (by omega)]
          simp only [g1, Option.bind_some, g2, g3, g4, hc, hp, cdec_true trivial, Bool.not_true, ifK_bool, Bool.false_eq_true, if_false, succ64 (show i < 4294967297 by omega)]
      · have hne : l ≠ m := fun e => hp (by rw [e, hc'] at ha; exact (Option.some.inj ha).symm)
        refine .inr ⟨some (.bool false, h), by rw [cdec_false hne], fun K => ?_⟩
        unfold equalL
        simp only [nth_zero, binf_lss, Option.bind_some, JL, ifK_bool, decide_eq_true_eq, binf_add]
        rw [if_pos (by omega)]
        simp only [g1, Option.bind_some, g2, g3, g4, hc, cdec_false hp, Bool.not_false, ifK_bool, if_true, fin_self, single]
    · rintro _ _ ⟨rfl, rfl, hb⟩
      refine ⟨some (.bool true, h), by rw [cdec_true (eq_of_get hlen hb)], fun K => ?_⟩
      unfold equalL
      simp only [nth_zero, binf_lss, Option.bind_some, JL, ifK_bool, decide_eq_true_eq]
      rw [if_neg (by omega), fin_self]
      rfl
  · rw [if_pos (by omega), fin_self, cdec_false (fun e => hlen (by rw [e]))]
    rfl
theorem neq_int (a b : Int) : binf .neq (.int .i64 a) (.int .i64 b) = some (.bool !(cdec (a = b))) := by
  rw [binf_neq]
  by_cases h : a = b <;> simp [h, cdec_dec]
theorem R.int_el {S : Nat → Prop} {h : AHeap} {x : Value} {l : List Int} (r : R S h x (.sl (l.map iD))) (i : Nat) (a : Int) (hi : l[i]? = some a) :
    ∃ b o, indexAddrf 1 x (.int .i64 i) = some (ptrTo b o) ∧ loadf false 1 (ptrTo b o) h = some (.int .i64 a) := by
  obtain ⟨b, o, h1, h2, _⟩ := r.int_at hi
  exact ⟨b, o, h1, h2⟩
theorem R.flat_el {α : Type} {f : α → List Dat} {vals : α → List Value} {S : Nat → Prop} {h : AHeap} {x : Value} {l : List α} {size : Nat} (r : R S h x (.sl (l.map f))) (hl : ∀ a, (f a).length = size) (h1 : 0 < size)
    (hf : ∀ ws a, RL S h ws (f a) → ws = vals a) (i : Nat) (a : α) (hi : l[i]? = some a) :
    ∃ b o, indexAddrf size x (.int .i64 i) = some (ptrTo b o) ∧ loadf true size (ptrTo b o) h = some (.agg (vals a).toArray) := by
  obtain ⟨b, o, g1, g2, _⟩ := r.flat_at hl h1 hf hi
  exact ⟨b, o, g1, by rw [load_agg, g2]; rfl⟩

end Go.Am
