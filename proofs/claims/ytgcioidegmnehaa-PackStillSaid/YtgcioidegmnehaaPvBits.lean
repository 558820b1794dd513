/- Packing: numbers as bits and bytes. -/
import Derived.Test.YtgcioidegmnehaaMvD
set_option linter.unusedSimpArgs false
set_option linter.unusedVariables false
namespace Go.Vm.X

/-- The low bits of a number. -/
def low (w : Nat) (x : Int) : Nat := (x % ((2 ^ w : Nat) : Int)).toNat
theorem low_lt (w : Nat) (x : Int) : low w x < 2 ^ w := by
  unfold low
  have h1 : (0 : Int) < ((2 ^ w : Nat) : Int) := by have := Nat.two_pow_pos w; omega
  have h2 := Int.emod_lt_of_pos x h1
  have h3 := Int.emod_nonneg x (show ((2 ^ w : Nat) : Int) ≠ 0 by omega)
  omega
/-- Values one behind another, w bits each, the first one lowest. -/
def packed (w : Nat) : List Int → Nat
  | [] => 0
  | x :: r => low w x + 2 ^ w * packed w r
theorem packed_lt (w : Nat) (l : List Int) : packed w l < 2 ^ (l.length * w) := by
  induction l with
  | nil => simp [packed]
  | cons x r ih =>
    have h := low_lt w x
    unfold packed
    rw [List.length_cons, show (r.length + 1) * w = w + r.length * w by rw [Nat.succ_mul]; omega, Nat.pow_add]
    have : 2 ^ w * (packed w r + 1) ≤ 2 ^ w * 2 ^ (r.length * w) := Nat.mul_le_mul_left _ ih
    rw [Nat.mul_add] at this
    omega
theorem packed_snoc (w : Nat) (l : List Int) (x : Int) : packed w (l ++ [x]) = packed w l + 2 ^ (l.length * w) * low w x := by
  induction l with
  | nil => simp [packed]
  | cons y r ih =>
    simp only [List.cons_append, packed, ih, List.length_cons]
    rw [show (r.length + 1) * w = w + r.length * w by rw [Nat.succ_mul]; omega, Nat.pow_add, Nat.mul_add]
    rw [Nat.mul_assoc, Nat.add_assoc]
/-- The first n bytes of a number. -/
def bytesN (n : Nat) (B : Nat) : List Nat := (List.range n).map fun k => B / 256 ^ k % 256
theorem bytesN_len (n B : Nat) : (bytesN n B).length = n := by simp [bytesN]
theorem bytesN_succ (n B : Nat) : bytesN (n + 1) B = bytesN n B ++ [B / 256 ^ n % 256] := by simp [bytesN, List.range_succ]
theorem pow256 (k : Nat) : 256 ^ k = 2 ^ (8 * k) := by rw [Nat.pow_mul]
theorem bytesN_grow {q B e x : Nat} (h : 8 * q ≤ e) : bytesN q (B + 2 ^ e * x) = bytesN q B := by
  unfold bytesN
  refine List.map_congr_left fun k hk => ?_
  rw [List.mem_range] at hk
  obtain ⟨d, rfl⟩ : ∃ d, e = 8 * k + 8 + d := ⟨e - (8 * k + 8), by omega⟩
  rw [show 2 ^ (8 * k + 8 + d) * x = 256 ^ k * (256 * (2 ^ d * x)) by rw [Nat.pow_add, Nat.pow_add, pow256, Nat.mul_assoc, Nat.mul_assoc]]
  rw [Nat.add_mul_div_left _ _ (Nat.pow_pos (by decide)), Nat.add_mul_mod_self_left]
theorem div_grow {q B e x : Nat} (h : 8 * q ≤ e) : (B + 2 ^ e * x) / 256 ^ q = B / 256 ^ q + 2 ^ (e - 8 * q) * x := by
  obtain ⟨d, rfl⟩ : ∃ d, e = 8 * q + d := ⟨e - 8 * q, by omega⟩
  rw [show 2 ^ (8 * q + d) * x = 256 ^ q * (2 ^ d * x) by rw [Nat.pow_add, pow256, Nat.mul_assoc], Nat.add_mul_div_left _ _ (Nat.pow_pos (by decide)), Nat.add_sub_cancel_left]
theorem div_small {q B e : Nat} (hB : B < 2 ^ e) (h : 8 * q ≤ e) : B / 256 ^ q < 2 ^ (e - 8 * q) := by
  rw [Nat.div_lt_iff_lt_mul (Nat.pow_pos (by decide)), pow256, ← Nat.pow_add, Nat.sub_add_cancel h]
  exact hB
theorem or_add {a x n : Nat} (h : a < 2 ^ n) : a ||| x * 2 ^ n = a + 2 ^ n * x := by
  rw [Nat.mul_comm x, Nat.or_comm, Nat.add_comm]
  exact (Nat.two_pow_add_eq_or_of_lt h x).symm
/-! ### Bit by bit -/
theorem packed_bit (w : Nat) (hw : 0 < w) : ∀ (l : List Int) (i : Nat) (x : Int), l[i / w]? = some x → (packed w l).testBit i = (low w x).testBit (i % w) := by
  intro l
  induction l with
  | nil => intro i x h; cases h
  | cons y r ih =>
    intro i x h
    unfold packed
    rw [Nat.add_comm, Nat.testBit_two_pow_mul_add _ (low_lt w y)]
    by_cases hi : i < w
    · rw [if_pos hi, Nat.mod_eq_of_lt hi]
      rw [Nat.div_eq_of_lt hi] at h
      cases h; rfl
    · rw [if_neg hi]
      have e1 : i / w = (i - w) / w + 1 := by rw [Nat.div_eq_sub_div hw (by omega)]
      have e2 : i % w = (i - w) % w := by rw [Nat.mod_eq_sub_mod (by omega)]
      rw [e1, List.getElem?_cons_succ] at h
      rw [ih _ _ h, e2]
theorem byte_bit (B k j : Nat) : (B / 256 ^ k % 256).testBit j = (decide (j < 8) && B.testBit (8 * k + j)) := by
  rw [show (256 : Nat) = 2 ^ 8 from rfl, Nat.testBit_mod_two_pow, ← Nat.pow_mul, Nat.testBit_div_two_pow, Nat.add_comm]
/-- Byte i/8 of the first i+1 bits of a number. -/
theorem bit_step (B i : Nat) : (B % 2 ^ (i + 1)) / 256 ^ (i / 8) % 256 = ((B % 2 ^ i) / 256 ^ (i / 8) % 256) ||| (if B.testBit i then 2 ^ (i % 8) else 0) := by
  refine Nat.eq_of_testBit_eq fun j => ?_
  rw [Nat.testBit_or, byte_bit, byte_bit, Nat.testBit_mod_two_pow, Nat.testBit_mod_two_pow]
  by_cases hj : j < 8
  · by_cases hji : j = i % 8
    · have e : 8 * (i / 8) + j = i := by omega
      rw [e]
      subst hji
      cases hb : B.testBit i <;> simp [hj, Nat.testBit_two_pow_self]
    · have e : 8 * (i / 8) + j ≠ i := by omega
      have e2 : (8 * (i / 8) + j < i + 1) ↔ (8 * (i / 8) + j < i) := by omega
      have e3 : (if B.testBit i then 2 ^ (i % 8) else 0).testBit j = false := by
        split
        · rw [Nat.testBit_two_pow]; simp; omega
        · simp
      rw [e3]
      simp [e2]
  · have e3 : (if B.testBit i then 2 ^ (i % 8) else 0).testBit j = false := by
      split
      · rw [Nat.testBit_two_pow]; simp; omega
      · simp
    rw [e3]
    simp [hj]
/-- The other bytes stay. -/
theorem bit_other (B i k : Nat) (hk : k ≠ i / 8) : (B % 2 ^ (i + 1)) / 256 ^ k % 256 = (B % 2 ^ i) / 256 ^ k % 256 := by
  refine Nat.eq_of_testBit_eq fun j => ?_
  rw [byte_bit, byte_bit, Nat.testBit_mod_two_pow, Nat.testBit_mod_two_pow]
  by_cases hj : j < 8
  · have e2 : (8 * k + j < i + 1) ↔ (8 * k + j < i) := by omega
    simp [e2]
  · simp [hj]
end Go.Vm.X
