/- Loops in loops; one's own slice, element by element. -/
import Derived.Test.YteedbdkhlgongaaAm32
set_option linter.unusedSimpArgs false
set_option linter.unusedVariables false
namespace Go.Am

/-- A loop inside of something: it goes on behind itself with Q', or ends the whole with E; whatever comes behind. -/
theorem loop_thru {R : Type} {B : (List Value → AHeap → Option R) → (List Value → AHeap → Option R) → List Value → AHeap → Option R} {len : Nat} (Q : Nat → List Value → AHeap → Prop) (Q' : List Value → AHeap → Prop) (E : Option R → Prop)
    (hstep : ∀ i vs h, i < len → Q i vs h → (∃ vs' h', Q (i + 1) vs' h' ∧ ∀ jj K, B jj K vs h = K vs' h') ∨ (∃ vs' h', Q' vs' h' ∧ ∀ jj K, B jj K vs h = jj vs' h') ∨ (∃ r, E r ∧ ∀ jj K, B jj K vs h = r))
    (hend : ∀ vs h, Q len vs h → (∃ vs' h', Q' vs' h' ∧ ∀ jj K, B jj K vs h = jj vs' h') ∨ (∃ r, E r ∧ ∀ jj K, B jj K vs h = r)) : ∀ (n i : Nat) (vs : List Value) (h : AHeap), Q i vs h → i ≤ len → len < n + i →
    (∃ vs' h', Q' vs' h' ∧ ∀ jj, loopN (B jj) n vs h = jj vs' h') ∨ (∃ r, E r ∧ ∀ jj, loopN (B jj) n vs h = r) := by
  intro n
  induction n with
  | zero => intro i vs h _ _ _; omega
  | succ n ih =>
    intro i vs h hq hi hn
    simp only [loopN_succ]
    by_cases hlt : i < len
    · rcases hstep i vs h hlt hq with ⟨vs', h', hq', e⟩ | ⟨vs', h', hq', e⟩ | ⟨r, hr, e⟩
      · simp only [e]
        exact ih (i + 1) vs' h' hq' hlt (by omega)
      · exact .inl ⟨vs', h', hq', fun jj => e jj _⟩
      · exact .inr ⟨r, hr, fun jj => e jj _⟩
    · have : i = len := by omega
      subst this
      rcases hend vs h hq with ⟨vs', h', hq', e⟩ | ⟨r, hr, e⟩
      · exact .inl ⟨vs', h', hq', fun jj => e jj _⟩
      · exact .inr ⟨r, hr, fun jj => e jj _⟩

theorem RL.set {S : Nat → Prop} {h : AHeap} {xs : List Value} {ds : List Dat} (r : RL S h xs ds) (k : Nat) {v : Value} {d : Dat} (rv : R S h v d) : RL S h (xs.set k v) (ds.set k d) := by
  induction k generalizing xs ds with
  | zero => cases r with
    | nil => exact .nil
    | cons hx hs => exact .cons rv hs
  | succ k ih => cases r with
    | nil => exact .nil
    | cons hx hs => exact .cons hx (ih hs)
theorem cellsL_one {v : Value} (h : oneC v = true) : cellsL v = [v] := by cases v <;> first | rfl | (simp [oneC] at h)
theorem flatten_set {α : Type} {rows : List (List α)} {size : Nat} (hs : ∀ r ∈ rows, r.length = size) {i j : Nat} {q : List α} (hi : rows[i]? = some q) (hj : j < size) (d : α) : (rows.set i (q.set j d)).flatten = rows.flatten.set (i * size + j) d := by
  induction rows generalizing i with
  | nil => cases hi
  | cons r rows ih =>
    have hr := hs r (by simp)
    cases i with
    | zero =>
      have e : r = q := by simpa using hi
      subst e
      rw [List.set_cons_zero, List.flatten_cons, List.flatten_cons, Nat.zero_mul, Nat.zero_add, List.set_append_left _ _ (by omega)]
    | succ i =>
      rw [List.set_cons_succ, List.flatten_cons, List.flatten_cons, ih (fun q hq => hs q (by simp [hq])) hi, List.set_append_right _ _ (by rw [Nat.add_mul]; omega)]
      congr 2
      rw [Nat.add_mul]; omega
theorem row_lt {n size i j : Nat} (hi : i < n) (hj : j < size) : i * size + j < n * size := by
  have := Nat.mul_le_mul_right size (show i + 1 ≤ n by omega)
  rw [Nat.add_mul] at this; omega
/-- An element of one's own slice: where it lies, what its cells read as. -/
theorem own_elem {N : Nat} {t : TypeId} {size : Nat} {S : Nat → Prop} {h : AHeap} {x : Value} {rows : List (List Dat)} (o : Own N t size S h x rows) {i : Nat} {q : List Dat} (hi : rows[i]? = some q) :
    ∃ b, ownB x b ∧ indexAddrf size x (.int .i64 i) = some (ptrTo b (i * size)) ∧ (∃ ws, readN h b (i * size) size = some ws ∧ RL S h ws q) ∧ ∀ (j : Nat) d, q[j]? = some d → ∃ w, readC h b (i * size + j) = some w ∧ R S h w d := by
  obtain ⟨hq, ho⟩ := o
  have hlt := (List.getElem?_eq_some_iff.1 hi).1
  have hql : q.length = size := hq q (List.mem_of_getElem? hi)
  rcases ho with ⟨_, rfl⟩ | ⟨b, c, cs, rfl, hb, _, hh, hl, hr, hc⟩
  · cases hi
  · have hw := (hr.drop (i * size)).take size
    rw [flatten_row hq hi] at hw
    have hle : i * size + size ≤ rows.length * size := by
      have := Nat.mul_le_mul_right size (show i + 1 ≤ rows.length by omega)
      rw [Nat.add_mul] at this; omega
    have e : ((cs.take (rows.length * size)).drop (i * size)).take size = (cs.drop (i * size)).take size := by
      rw [List.drop_take, List.take_take, Nat.min_eq_left (by omega)]
    rw [e] at hw
    have hrd : readN h b (i * size) size = some ((cs.drop (i * size)).take size) := by
      unfold readN; rw [hh]; simp only; rw [if_pos (by omega)]
    refine ⟨b, ⟨_, _, _, rfl⟩, ?_, ⟨_, hrd, hw⟩, fun j d hj => ?_⟩
    · rw [indexAddr_slice _ _ _ _ _ _ hlt, Nat.zero_add]
    · obtain ⟨w, h1, h2⟩ := hw.get hj
      exact ⟨w, readC_of_readN hrd h1, h2⟩
/-- A store into an element of one's own slice. -/
theorem own_store {N : Nat} {t : TypeId} {size : Nat} {S : Nat → Prop} {h : AHeap} {x v : Value} {rows : List (List Dat)} (o : Own N t size S h x rows) {i j : Nat} {q : List Dat} {d : Dat} (hi : rows[i]? = some q) (hj : j < size) (rv : R S h v d) {b : Nat} (hb : ownB x b) :
    ∃ h', storef 1 (ptrTo b (i * size + j)) v h = some h' ∧ Own N t size S h' x (rows.set i (q.set j d)) ∧ h'.length = h.length ∧ ∀ b', b' ≠ b → h'[b']? = h[b']? := by
  obtain ⟨hq, ho⟩ := o
  have hlt := (List.getElem?_eq_some_iff.1 hi).1
  have hql : q.length = size := hq q (List.mem_of_getElem? hi)
  have hk := row_lt hlt hj
  rcases ho with ⟨_, rfl⟩ | ⟨b', c, cs, rfl, hb', hsb, hh, hl, hr, hc⟩
  · cases hi
  · obtain ⟨_, _, _, e⟩ := hb
    cases e
    have hbl : b < h.length := (List.getElem?_eq_some_iff.1 hh).1
    refine ⟨h.set b (.cells (cs.set (i * size + j) v) t true), ?_, ⟨?_, .inr ⟨b, c, cs.set (i * size + j) v, by simp, hb', hsb, ?_, by simpa using hl, ?_, by simpa using hc⟩⟩, by simp, fun b' hne => set_get_ne hne⟩
    · simp only [storef, ptrTo]
      rw [cellsL_one rv.oneC]
      show writeN _ _ _ _ = _
      unfold writeN
      rw [hh]
      show (if _ ∧ _ then some _ else none) = _
      rw [if_pos ⟨by simp; omega, by simp [rv.oneC]⟩]
      congr 3
      rw [List.set_eq_take_append_cons_drop, if_pos (by omega)]
      simp
    · intro q' hq'
      rcases List.mem_or_eq_of_mem_set hq' with h | rfl
      · exact hq q' h
      · rw [List.length_set]; exact hql
    · rw [List.getElem?_set_self hbl]
    · rw [List.length_set, flatten_set hq hi hj, List.take_set]
      refine (hr.set _ rv).mono fun b' hb' => ⟨hb', ?_⟩
      exact set_get_ne fun e => hsb (e ▸ hb')
theorem pre_trans {a b c : AHeap} (h : a <+: b) (h' : b <+: c) : a <+: c := List.IsPrefix.trans h h'
theorem pre_len {a b : AHeap} (h : a <+: b) : a.length ≤ b.length := h.length_le
theorem pre_get {a b : AHeap} (h : a <+: b) {i : Nat} (hi : i < a.length) : b[i]? = a[i]? := prefix_get h hi
/-- One's own slice when the heap has grown. -/
theorem Own.pre {N : Nat} {t : TypeId} {size : Nat} {S S' : Nat → Prop} {h h' : AHeap} {x : Value} {rows : List (List Dat)} (o : Own N t size S h x rows) (hp : h <+: h') (hS : ∀ b, S b → b < h.length ∧ S' b) (hx : ∀ b, ownB x b → ¬ S' b) : Own N t size S' h' x rows :=
  o.mono (Nat.le_refl _) (fun b hb => ⟨pre_get hp (o.lt hb).2.1, hx b hb⟩) (fun b hb => ⟨(hS b hb).2, pre_get hp (hS b hb).1⟩)

end Go.Am
