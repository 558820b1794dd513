/- Compact of a list of numbers. -/
import Derived.Test.YtaacaogceplhoaaIkA
set_option linter.unusedSimpArgs false
set_option linter.unusedVariables false
namespace Go.Vm.X
open Go.Am Go.Vm

def keepAt (l : List Int) (j : Nat) : Bool := j == 0 || l.getD j 0 != l.getD (j - 1) 0
/-- The first m numbers without those that follow themselves. -/
def ddN (l : List Int) (m : Nat) : List Int := ((List.range m).filter (keepAt l)).map fun j => l.getD j 0
theorem ddN_succ (l : List Int) (m : Nat) : ddN l (m + 1) = if keepAt l m = true then ddN l m ++ [l.getD m 0] else ddN l m := by
  unfold ddN
  rw [List.range_succ, List.filter_append, List.map_append]
  cases h : keepAt l m with
  | true => simp [h]
  | false => simp [h]
theorem ddN_le (l : List Int) : ∀ m, (ddN l m).length ≤ m
  | 0 => by simp [ddN]
  | m + 1 => by
    have := ddN_le l m
    rw [ddN_succ]
    split
    · rw [List.length_append]; simp; omega
    · omega
theorem ddN_all {l : List Int} {m : Nat} (hm : m ≤ l.length) (h : ∀ j, j < m → keepAt l j = true) : ddN l m = l.take m := by
  induction m with
  | zero => simp [ddN]
  | succ m ih =>
    rw [ddN_succ, if_pos (h m (by omega)), ih (by omega) fun j hj => h j (by omega), List.take_add_one]
    congr 1
    rw [List.getD_eq_getElem?_getD, List.getElem?_eq_getElem (by omega)]
    rfl
theorem ddN_lt {l : List Int} {k : Nat} (h : keepAt l k = false) : ∀ m, k < m → (ddN l m).length < m
  | 0, hm => by omega
  | m + 1, hm => by
    rw [ddN_succ]
    by_cases e : k = m
    · subst e
      rw [if_neg (by rw [h]; decide)]
      have := ddN_le l k
      omega
    · have := ddN_lt h m (by omega)
      split
      · rw [List.length_append]; simp; omega
      · omega
theorem ddN_pos {l : List Int} : ∀ {m : Nat}, 0 < m → 0 < (ddN l m).length
  | 1, _ => by simp [ddN, keepAt]
  | m + 2, _ => by
    have := ddN_pos (l := l) (m := m + 1) (by omega)
    rw [ddN_succ]
    split
    · rw [List.length_append]; omega
    · exact this
/-- The block on the way. -/
def outN (l : List Int) (m : Nat) : List Int := ddN l m ++ l.drop (ddN l m).length
theorem outN_len {l : List Int} {m : Nat} (hm : m ≤ l.length) : (outN l m).length = l.length := by
  have := ddN_le l m
  unfold outN
  rw [List.length_append, List.length_drop]
  omega
theorem outN_get {l : List Int} {m j : Nat} (h : (ddN l m).length ≤ j) : (outN l m)[j]? = l[j]? := by
  unfold outN
  rw [List.getElem?_append_right h, List.getElem?_drop]
  congr 1
  omega
theorem outN_keep {l : List Int} {m : Nat} (hm : m < l.length) (h : keepAt l m = true) (hlt : (ddN l m).length < m) : (outN l m).set (ddN l m).length (l.getD m 0) = outN l (m + 1) := by
  unfold outN
  rw [ddN_succ, if_pos h, List.set_append_right _ _ (Nat.le_refl _), Nat.sub_self, List.append_assoc]
  congr 1
  have : (ddN l m).length < l.length := by omega
  rw [List.length_append, List.drop_eq_getElem_cons this]
  rfl
theorem outN_drop {l : List Int} {m : Nat} (h : keepAt l m = false) : outN l (m + 1) = outN l m := by
  unfold outN
  rw [ddN_succ, if_neg (by rw [h]; decide)]
/-! ### What it comes to -/
theorem mem_ddN {l : List Int} {m : Nat} {x : Int} (hm : m ≤ l.length) : x ∈ ddN l m ↔ x ∈ l.take m := by
  induction m with
  | zero => simp [ddN]
  | succ m ih =>
    have e : l.take (m + 1) = l.take m ++ [l.getD m 0] := by
      rw [List.take_add_one]; congr 1
      rw [List.getD_eq_getElem?_getD, List.getElem?_eq_getElem (by omega)]
      rfl
    rw [e, ddN_succ]
    split
    · rw [List.mem_append, List.mem_append, ih (by omega)]
    · rename_i hk
      rw [ih (by omega), List.mem_append]
      constructor
      · exact .inl
      · rintro (h | h)
        · exact h
        · have h1 : x = l.getD m 0 := by simpa using h
          unfold keepAt at hk
          simp only [Bool.or_eq_true, beq_iff_eq, bne_iff_ne, not_or, Decidable.not_not] at hk
          rw [h1, hk.2, List.mem_take_iff_getElem]
          refine ⟨m - 1, by omega, ?_⟩
          rw [List.getD_eq_getElem?_getD, List.getElem?_eq_getElem (by omega)]
          rfl
theorem ddN_sorted {l : List Int} (hs : l.Pairwise (· ≤ ·)) : ∀ {m : Nat}, m ≤ l.length → (ddN l m).Pairwise (· < ·)
  | 0, _ => by simp [ddN]
  | m + 1, hm => by
    rw [ddN_succ]
    split
    · rename_i hk
      rw [List.pairwise_append]
      refine ⟨ddN_sorted hs (by omega), by simp, fun x hx y hy => ?_⟩
      have hy' : y = l.getD m 0 := by simpa using hy
      rw [mem_ddN (by omega), List.mem_take_iff_getElem] at hx
      obtain ⟨j, hj, rfl⟩ := hx
      subst hy'
      unfold keepAt at hk
      simp only [Bool.or_eq_true, beq_iff_eq, bne_iff_ne] at hk
      have hm1 : m < l.length := by omega
      have e1 : l.getD m 0 = l[m] := by rw [List.getD_eq_getElem?_getD, List.getElem?_eq_getElem hm1]; rfl
      have e2 : l.getD (m - 1) 0 = l[m - 1] := by rw [List.getD_eq_getElem?_getD, List.getElem?_eq_getElem (by omega)]; rfl
      rw [e1, e2] at hk
      rw [e1]
      have h1 : l[m - 1] ≤ l[m] := by
        by_cases e : m - 1 < m
        · exact List.pairwise_iff_getElem.1 hs _ _ (by omega) hm1 e
        · omega
      have h2 : l[j] ≤ l[m - 1] := by
        by_cases e : j < m - 1
        · exact List.pairwise_iff_getElem.1 hs _ _ (by omega) (by omega) e
        · have : j = m - 1 := by omega
          subst this
          exact Int.le_refl _
      omega
    · exact ddN_sorted hs (by omega)
theorem sorted_eq : ∀ {a b : List Int}, a.Pairwise (· < ·) → b.Pairwise (· < ·) → (∀ x, x ∈ a ↔ x ∈ b) → a = b
  | [], [], _, _, _ => rfl
  | [], y :: b, _, _, h => absurd ((h y).2 (by simp)) (by simp)
  | x :: a, [], _, _, h => absurd ((h x).1 (by simp)) (by simp)
  | x :: a, y :: b, ha, hb, h => by
    rw [List.pairwise_cons] at ha hb
    have e : x = y := by
      rcases List.mem_cons.1 ((h x).1 (by simp)) with h1 | h1
      · exact h1
      · rcases List.mem_cons.1 ((h y).2 (by simp)) with h2 | h2
        · exact h2.symm
        · have := hb.1 x h1; have := ha.1 y h2; omega
    subst e
    rw [sorted_eq ha.2 hb.2 fun z => ?_]
    constructor
    · intro hz
      rcases List.mem_cons.1 ((h z).1 (by simp [hz])) with h1 | h1
      · subst h1; have := ha.1 z hz; omega
      · exact h1
    · intro hz
      rcases List.mem_cons.1 ((h z).2 (by simp [hz])) with h1 | h1
      · subst h1; have := hb.1 z hz; omega
      · exact h1
theorem srt_sorted (l : List Int) : (srt l).Pairwise (· ≤ ·) := by
  have := List.pairwise_mergeSort (le := fun x y : Int => decide (x ≤ y)) (fun a b c h1 h2 => by simp only [decide_eq_true_eq] at *; omega) (fun a b => by simp only [Bool.or_eq_true, decide_eq_true_eq]; omega) l
  exact this.imp fun h => by simpa using h
theorem mem_srt {l : List Int} {x : Int} : x ∈ srt l ↔ x ∈ l := List.mem_mergeSort
/-- Sorting and compacting. -/
theorem dd_srt {l b : List Int} (hb : b.Pairwise (· < ·)) (h : ∀ x, x ∈ l ↔ x ∈ b) : ddN (srt l) (srt l).length = b :=
  sorted_eq (ddN_sorted (srt_sorted l) (Nat.le_refl _)) hb fun x => by rw [mem_ddN (Nat.le_refl _), List.take_length, mem_srt]; exact h x
end Go.Vm.X
