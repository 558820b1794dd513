
/- Songs: names and letters. -/
import Derived.Test.YtaacaogceplhoaaIkCell
set_option linter.unusedSimpArgs false
set_option linter.unusedVariables false
namespace Go.Vm.X
open Go.Am Go.Vm
attribute [local congr] bind_c ifP_c loop_c K1_c

theorem first_not {α : Type} (p : α → Bool) (l : List α) : ∃ k, k ≤ l.length ∧ (∀ i a, i < k → l[i]? = some a → p a = true) ∧ (k = l.length ∧ l.all p = true ∨ ∃ a, l[k]? = some a ∧ p a = false ∧ l.all p = false) := by
  induction l with
  | nil => exact ⟨0, Nat.le_refl _, fun i a h => by omega, .inl ⟨rfl, rfl⟩⟩
  | cons x l ih =>
    cases hx : p x with
    | false => exact ⟨0, Nat.zero_le _, fun i a h => by omega, .inr ⟨x, rfl, hx, by simp [hx]⟩⟩
    | true =>
      obtain ⟨k, h1, h2, h3⟩ := ih
      refine ⟨k + 1, by simp; omega, fun i a hi ha => ?_, ?_⟩
      · cases i with
        | zero => cases ha; exact hx
        | succ i => exact h2 i a (by omega) ha
      · rcases h3 with ⟨h3, h4⟩ | ⟨a, h3, h4, h5⟩
        · exact .inl ⟨by simp [h3], by simp [hx, h4]⟩
        · exact .inr ⟨a, h3, h4, by simp [h5]⟩
/-- A string's bytes. -/
def bys (s : ByteArray) : List UInt8 := s.data.toList
theorem bys_len (s : ByteArray) : (bys s).length = s.size := by unfold bys; rw [Array.length_toList]; rfl
theorem idx_by {s : ByteArray} {i : Nat} {b : UInt8} (h : (bys s)[i]? = some b) : indexStrP (.str s) (.int .i64 (i : Int)) = some (.int .u8 (b.toNat : Int)) := by
  have e : s.data[i]? = some b := by unfold bys at h; rwa [Array.getElem?_toList] at h
  simp only [indexStrP, Int.toNat_natCast, e]
  rw [if_pos (by omega)]
  rfl
theorem lt_l {α : Type} {l : List α} {i : Nat} (h : i < l.length) : ∃ a, l[i]? = some a := ⟨_, List.getElem?_eq_getElem h⟩
def byOK (b : UInt8) : Bool := inW (b.toNat : Int) 32 126
def nameOK (s : ByteArray) : Bool := (bys s).all byOK && decide (s.size ≤ 22)
theorem conv_by (b : UInt8) : convP .i64 (.int .u8 (b.toNat : Int)) = some (.int .i64 (b.toNat : Int)) := by
  have := b.toNat_lt
  rw [conv_int, wrap64 (by unfold isI64; omega)]
/-- The letters of a dialect, and the commands of its volume column. -/
def volc (d : Int) : Int := if d = 2 then 1 else if d = 3 then 8 else if d = 4 then 10 else 0
def lettersL : Int → List UInt8 := fun d =>
  if d = 1 then [48, 49, 50, 51, 52, 53, 54, 55, 56, 57, 65, 66, 67, 68, 69, 70]
  else if d = 2 then [65, 66, 67, 68, 69, 70, 71, 72, 73, 74, 75, 76, 79, 81, 82, 83, 84, 85, 86, 88]
  else if d = 3 then [48, 49, 50, 51, 52, 53, 54, 55, 56, 57, 65, 66, 67, 68, 69, 70, 71, 72, 75, 76, 80, 82, 84, 88]
  else if d = 4 then [65, 66, 67, 68, 69, 70, 71, 72, 73, 74, 75, 76, 77, 78, 79, 80, 81, 82, 83, 84, 85, 86, 87, 88, 89, 90]
  else if d = 5 then [48, 49, 50, 51, 52, 53]
  else if d = 6 then [48, 49, 50, 51, 52, 65, 66, 67, 68, 69, 70, 78, 83]
  else []
def strOf (l : List UInt8) : PV := .str ⟨l.toArray⟩
theorem fin_str0 {h : PHeap} {s : ByteArray} : finP [.keep] h h [.str s] = some (.str s, h) := by
  have := fin_keep (h := h) (l := []) (v := .str s) fun _ => by simp [ltV]
  rwa [List.append_nil] at this
end Go.Vm.X
