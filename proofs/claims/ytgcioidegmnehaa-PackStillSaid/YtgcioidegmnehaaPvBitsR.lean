/- Packing: bytes as one number, and the values in it. -/
import Derived.Test.YtgcioidegmnehaaPvUndelta
set_option linter.unusedSimpArgs false
set_option linter.unusedVariables false
namespace Go.Vm.X
open Go.Am Go.Vm

/-- Bytes as one number, the first one lowest. -/
def rnum : List Nat → Nat
  | [] => 0
  | b :: r => b + 256 * rnum r
theorem rnum_append (a b : List Nat) : rnum (a ++ b) = rnum a + 256 ^ a.length * rnum b := by
  induction a with
  | nil => simp [rnum]
  | cons x a ih =>
    simp only [List.cons_append, rnum, ih, List.length_cons, Nat.pow_succ]
    rw [Nat.mul_add, ← Nat.add_assoc, Nat.mul_comm (256 ^ a.length) 256, Nat.mul_assoc]
theorem rnum_split (l : List Nat) (c : Nat) (hc : c ≤ l.length) : rnum l = rnum (l.take c) + 256 ^ c * rnum (l.drop c) := by
  have := rnum_append (l.take c) (l.drop c)
  rw [List.take_append_drop, List.length_take, Nat.min_eq_left hc] at this
  exact this
theorem rnum_lt {l : List Nat} (hl : ∀ x ∈ l, x < 256) : rnum l < 256 ^ l.length := by
  induction l with
  | nil => simp [rnum]
  | cons x l ih =>
    have h1 := ih fun y hy => hl y (by simp [hy])
    have h2 := hl x (by simp)
    rw [rnum, List.length_cons, Nat.pow_succ]
    omega
theorem rnum_succ {l : List Nat} {c a : Nat} (h : l[c]? = some a) : rnum (l.take (c + 1)) = rnum (l.take c) + 256 ^ c * a := by
  have hc := some_lt h
  rw [take_succ_get h, rnum_append, List.length_take, Nat.min_eq_left (by omega)]
  simp [rnum]
theorem take_256 {l : List Nat} (hl : ∀ x ∈ l, x < 256) (c : Nat) : ∀ x ∈ l.take c, x < 256 := fun x hx => hl x (List.mem_of_mem_take hx)
theorem rnum_take_lt {l : List Nat} (hl : ∀ x ∈ l, x < 256) {c : Nat} (hc : c ≤ l.length) : rnum (l.take c) < 256 ^ c := by
  have := rnum_lt (take_256 hl c)
  rwa [List.length_take, Nat.min_eq_left hc] at this
/-- Value number i of w bits. -/
def valAt (w R i : Nat) : Int := wrapB w ((R / 2 ^ (i * w) : Nat) : Int)
def valsN (w R k : Nat) : List Int := (List.range k).map (valAt w R)
theorem valsN_succ (w R k : Nat) : valsN w R (k + 1) = valsN w R k ++ [valAt w R k] := by unfold valsN; rw [List.range_succ, List.map_append]; rfl
theorem valsN_len (w R k : Nat) : (valsN w R k).length = k := by simp [valsN]
theorem wrapB_mod {w : Nat} (hw : 1 ≤ w) (x y : Nat) (h : x % 2 ^ w = y % 2 ^ w) : wrapB w (x : Int) = wrapB w (y : Int) := by
  rw [wrapB_low, wrapB_low, half_two hw]
  have e : ((x : Int) % ((2 ^ w : Nat) : Int)) = ((y : Int) % ((2 ^ w : Nat) : Int)) := by rw [← Int.natCast_emod, ← Int.natCast_emod, h]
  rw [e]
/-- The low bits of a number are those of its first bytes. -/
theorem low_bytes {l : List Nat} {c i w : Nat} (hc : c ≤ l.length) (h8 : (i + 1) * w ≤ 8 * c) : (rnum (l.take c) / 2 ^ (i * w)) % 2 ^ w = (rnum l / 2 ^ (i * w)) % 2 ^ w := by
  rw [rnum_split l c hc]
  obtain ⟨d, hd⟩ : ∃ d, 8 * c = i * w + w + d := ⟨8 * c - (i * w + w), by rw [Nat.add_mul] at h8; omega⟩
  have e : 256 ^ c * rnum (l.drop c) = 2 ^ (i * w) * (2 ^ w * (2 ^ d * rnum (l.drop c))) := by
    rw [pow256, hd, Nat.pow_add, Nat.pow_add, Nat.mul_assoc, Nat.mul_assoc]
  rw [e, Nat.add_mul_div_left _ _ (Nat.two_pow_pos _), Nat.add_mul_mod_self_left]
theorem val_of {l : List Nat} {c i w : Nat} (hw : 1 ≤ w) (hc : c ≤ l.length) (h8 : (i + 1) * w ≤ 8 * c) : wrapB w ((rnum (l.take c) / 2 ^ (i * w) : Nat) : Int) = valAt w (rnum l) i := wrapB_mod hw _ _ (low_bytes hc h8)
/-- One more byte. -/
theorem held_succ {l : List Nat} {c i w a : Nat} (h : l[c]? = some a) (h8 : i * w ≤ 8 * c) : rnum (l.take c) / 2 ^ (i * w) + 2 ^ (8 * c - i * w) * a = rnum (l.take (c + 1)) / 2 ^ (i * w) := by
  rw [rnum_succ h, show 256 ^ c * a = 2 ^ (i * w) * (2 ^ (8 * c - i * w) * a) by
    rw [pow256, ← Nat.mul_assoc, ← Nat.pow_add]; congr 2; omega, Nat.add_mul_div_left _ _ (Nat.two_pow_pos _)]
theorem held_lt {l : List Nat} (hl : ∀ x ∈ l, x < 256) {c i w : Nat} (hc : c ≤ l.length) (h8 : i * w ≤ 8 * c) : rnum (l.take c) / 2 ^ (i * w) < 2 ^ (8 * c - i * w) := by
  rw [Nat.div_lt_iff_lt_mul (Nat.two_pow_pos _), ← Nat.pow_add, Nat.sub_add_cancel h8, ← pow256]
  exact rnum_take_lt hl hc
/-- A bit of the number is a bit of a byte. -/
theorem rnum_bit : ∀ {l : List Nat}, (∀ x ∈ l, x < 256) → ∀ {i a : Nat}, l[i / 8]? = some a → (rnum l).testBit i = a.testBit (i % 8)
  | [], _, i, a, h => by cases h
  | x :: l, hl, i, a, h => by
    have hx := hl x (by simp)
    rw [rnum, Nat.add_comm, show (256 : Nat) = 2 ^ 8 from rfl, Nat.testBit_two_pow_mul_add _ (by omega)]
    by_cases hi : i < 8
    · rw [if_pos hi, Nat.mod_eq_of_lt hi]
      rw [Nat.div_eq_of_lt hi] at h
      cases h; rfl
    · rw [if_neg hi]
      have e1 : i / 8 = (i - 8) / 8 + 1 := by omega
      have e2 : i % 8 = (i - 8) % 8 := by omega
      rw [e1, List.getElem?_cons_succ] at h
      rw [rnum_bit (fun y hy => hl y (by simp [hy])) h, e2]
theorem mod_bit_succ (x k : Nat) : x % 2 ^ (k + 1) = x % 2 ^ k + (if x.testBit k then 2 ^ k else 0) := by
  rw [Nat.mod_pow_succ, Nat.testBit_eq_decide_div_mod_eq]
  have := Nat.mod_lt (x / 2 ^ k) (show 2 > 0 by decide)
  by_cases h : x / 2 ^ k % 2 = 1
  · simp [h]
  · have : x / 2 ^ k % 2 = 0 := by omega
    simp [this]
theorem div_testBit (x s k : Nat) : (x / 2 ^ s).testBit k = x.testBit (s + k) := by rw [Nat.testBit_div_two_pow, Nat.add_comm]
end Go.Vm.X
