/- Where a song starts: two walks over the orders, of which one takes a step more. -/
import Derived.Test.YtjfppnnoeebcbaaSwSong
set_option linter.unusedSimpArgs false
set_option linter.unusedVariables false
namespace Go.Vm.X

/-- Is there a pattern at a place? -/
def stopO (ords : List Int) (o : Nat) : Bool := match ords[o]? with | some x => !mark x | none => false
def nextO (ords : List Int) (rest o : Nat) : Nat := match ords[o]? with | some x => if x = 254 then o + 1 else rest | none => rest
/-- Where the first pattern stands from a place on, and after how many steps. -/
def walkO (ords : List Int) (rest : Nat) : Nat → Nat → Nat → Option (Nat × Nat)
  | 0, _, _ => none
  | k + 1, o, i => if stopO ords o = true then some (o, i) else walkO ords rest k (nextO ords rest o) (i + 1)
theorem skip_stop {ords : List Int} {o : Nat} (h : ords[o]? = some 254) : stopO ords o = false := by unfold stopO; rw [h]; rfl
theorem skip_next {ords : List Int} {rest o : Nat} (h : ords[o]? = some 254) : nextO ords rest o = o + 1 := by unfold nextO; rw [h]; rfl
theorem walk_skip {ords : List Int} {rest : Nat} : ∀ (j : Nat) {k o i : Nat}, (∀ t, t < j → ords[o + t]? = some 254) → walkO ords rest (j + k) o i = walkO ords rest k (o + j) (i + j)
  | 0, k, o, i, _ => by rw [Nat.zero_add, Nat.add_zero, Nat.add_zero]
  | j + 1, k, o, i, h => by
    have h0 := h 0 (by omega)
    rw [Nat.add_zero] at h0
    rw [show j + 1 + k = (j + k) + 1 by omega]
    show (if stopO ords o = true then _ else walkO ords rest (j + k) (nextO ords rest o) (i + 1)) = _
    rw [skip_stop h0, if_neg (by decide), skip_next h0, walk_skip j (fun t ht => by rw [show o + 1 + t = o + (t + 1) by omega]; exact h (t + 1) (by omega))]
    rw [show o + 1 + j = o + (j + 1) by omega, show i + 1 + j = i + (j + 1) by omega]
theorem walk_short {ords : List Int} {rest : Nat} : ∀ (k : Nat) {o i : Nat}, (∀ t, t < k → ords[o + t]? = some 254) → walkO ords rest k o i = none := fun k {o i} h => by
  have := walk_skip (rest := rest) k (k := 0) (i := i) h
  rw [Nat.add_zero] at this
  rw [this]; rfl
/-- Where the skips end. -/
def endO (ords : List Int) (o : Nat) : Nat := o + (ords.drop o).findIdx (fun x => x != 254)
theorem endO_le {ords : List Int} {o : Nat} (h : o ≤ ords.length) : endO ords o ≤ ords.length := by
  unfold endO
  have := List.findIdx_le_length (p := fun x : Int => x != 254) (xs := ords.drop o)
  rw [List.length_drop] at this
  omega
theorem endO_ge (ords : List Int) (o : Nat) : o ≤ endO ords o := by unfold endO; omega
theorem endO_skip {ords : List Int} {o t : Nat} (h : t < endO ords o - o) : ords[o + t]? = some 254 := by
  unfold endO at h
  rw [Nat.add_sub_cancel_left] at h
  have h1 := List.not_of_lt_findIdx h
  have h2 : t < (ords.drop o).length := Nat.lt_of_lt_of_le h List.findIdx_le_length
  rw [← List.getElem?_drop, List.getElem?_eq_getElem h2]
  have h3 : ((ords.drop o)[t] != 254) = false := by simpa using h1
  rw [bne_eq_false_iff_eq] at h3
  rw [h3]
theorem endO_end {ords : List Int} {o : Nat} : ords[endO ords o]? ≠ some 254 := by
  unfold endO
  intro h
  rw [← List.getElem?_drop] at h
  obtain ⟨hlt, he⟩ := List.getElem?_eq_some_iff.1 h
  have := List.findIdx_getElem (xs := ords.drop o) (p := fun x : Int => x != 254) (w := hlt)
  rw [he] at this
  exact absurd this (by decide)
theorem end_next {ords : List Int} {rest o : Nat} : nextO ords rest (endO ords o) = rest := by
  have h := endO_end (ords := ords) (o := o)
  unfold nextO
  cases hx : ords[endO ords o]? with
  | none => rfl
  | some x =>
    rw [hx] at h
    simp only
    rw [if_neg (fun e => h (by rw [e]))]
theorem stop_lt {ords : List Int} {o : Nat} (h : stopO ords o = true) : o < ords.length := by
  unfold stopO at h
  rcases Nat.lt_or_ge o ords.length with h1 | h1
  · exact h1
  · rw [List.getElem?_eq_none h1] at h; cases h
/-- From a place, if the skips end at a pattern. -/
theorem walk_found {ords : List Int} {rest o i k : Nat} (hs : stopO ords (endO ords o) = true) (hk : endO ords o - o < k) : walkO ords rest k o i = some (endO ords o, i + (endO ords o - o)) := by
  have hge := endO_ge ords o
  obtain ⟨m, hm⟩ : ∃ m, k = (endO ords o - o) + (m + 1) := ⟨k - (endO ords o - o) - 1, by omega⟩
  rw [hm, walk_skip _ (fun t ht => endO_skip ht), show o + (endO ords o - o) = endO ords o by omega]
  show (if stopO ords (endO ords o) = true then _ else _) = _
  rw [if_pos hs]
/-- .. if they end at the end. -/
theorem walk_jump {ords : List Int} {rest o i m : Nat} (hs : stopO ords (endO ords o) = false) : walkO ords rest ((endO ords o - o) + (m + 1)) o i = walkO ords rest m rest (i + (endO ords o - o) + 1) := by
  have hge := endO_ge ords o
  rw [walk_skip _ (fun t ht => endO_skip ht), show o + (endO ords o - o) = endO ords o by omega]
  show (if stopO ords (endO ords o) = true then _ else walkO ords rest m (nextO ords rest (endO ords o)) _) = _
  rw [hs, if_neg (by decide), end_next]
theorem walk_never {ords : List Int} {rest : Nat} (hs : stopO ords (endO ords rest) = false) : ∀ (n k i : Nat), k ≤ n → walkO ords rest k rest i = none := by
  intro n
  induction n with
  | zero => intro k i hk; have : k = 0 := by omega
            subst this; rfl
  | succ n ih =>
    intro k i hk
    rcases Nat.lt_or_ge (endO ords rest - rest) k with h | h
    · obtain ⟨m, hm⟩ : ∃ m, k = (endO ords rest - rest) + (m + 1) := ⟨k - (endO ords rest - rest) - 1, by omega⟩
      rw [hm, walk_jump hs]
      exact ih m _ (by omega)
    · exact walk_short k fun t ht => endO_skip (by omega)
/-- Twice the orders and one are steps enough. -/
theorem walk_enough {ords : List Int} {rest o i k : Nat} (ho : o ≤ ords.length) (hr : rest ≤ ords.length) (hk : 2 * ords.length + 1 ≤ k) : walkO ords rest k o i = walkO ords rest (2 * ords.length + 1) o i := by
  have h1 := endO_le ho
  have h2 := endO_le hr
  have h3 := endO_ge ords o
  have h4 := endO_ge ords rest
  cases hs : stopO ords (endO ords o) with
  | true => rw [walk_found hs (by omega), walk_found hs (by omega)]
  | false =>
    have key : ∀ k, 2 * ords.length + 1 ≤ k → walkO ords rest k o i = if stopO ords (endO ords rest) = true then some (endO ords rest, i + (endO ords o - o) + 1 + (endO ords rest - rest)) else none := by
      intro k hk
      obtain ⟨m, hm⟩ : ∃ m, k = (endO ords o - o) + (m + 1) := ⟨k - (endO ords o - o) - 1, by omega⟩
      rw [hm, walk_jump hs]
      cases hb : stopO ords (endO ords rest) with
      | true =>
        have := stop_lt hb
        rw [walk_found hb (by omega), if_pos rfl]
      | false => rw [walk_never hb m m _ (Nat.le_refl _), if_neg (by decide)]
    rw [key k hk, key _ (Nat.le_refl _)]
end Go.Vm.X
