/- Packing: Blocks, both sides. -/
import Derived.Test.YtgcioidegmnehaaPvRound
set_option linter.unusedSimpArgs false
set_option linter.unusedVariables false
namespace Go.Vm.X
open Go.Am Go.Vm

/-- The blocks of the first k pieces. -/
def blocksN (l : List Int) (k : Nat) : List Nat := (List.range k).flatMap fun i => blockB ((l.drop (256 * i)).take 256)
def nBlocks (l : List Int) : Nat := (l.length + 255) / 256
def blocksB (l : List Int) : List Nat := blocksN l (nBlocks l)
theorem blocksN_succ (l : List Int) (k : Nat) : blocksN l (k + 1) = blocksN l k ++ blockB ((l.drop (256 * k)).take 256) := by
  unfold blocksN; rw [List.range_succ, List.flatMap_append]; simp
theorem blockB_len {l : List Int} (h : l.length ≤ 256) : (blockB l).length ≤ 513 := by
  have := (width_range l).2
  have h2 : l.length * widthF l ≤ 256 * 16 := Nat.mul_le_mul h this
  unfold blockB
  rw [List.length_cons, bytesN_len]
  omega
theorem blocksN_len (l : List Int) (k : Nat) : (blocksN l k).length ≤ 513 * k := by
  induction k with
  | zero => simp [blocksN]
  | succ k ih =>
    rw [blocksN_succ, List.length_append]
    have := blockB_len (l := (l.drop (256 * k)).take 256) (by simp; omega)
    omega
theorem small_part {l : List Int} (hs : Small l) (a b : Nat) : Small ((l.drop a).take b) := fun x hx => hs x (List.mem_of_mem_drop (List.mem_of_mem_take hx))
/-- The reference's loop. -/
theorem refLoop {l : List Int} (hs : Small l) (hm : l.length ≤ 6000) (h : PHeap) (n : Nat) (hn : nBlocks l < n) {e : Int} :
    loopP (s12_L0 Γ0 n (h ++ [.log [] 1 5 .rw]) (fun w h2 => finP [.flat 1, .keep] h h2 [nthP w 0, .int .i64 e])) n [ints l, .ref h.length 0 0 0 1] (h ++ [.log [] 1 5 .rw]) = some (.tuple [u8s (blocksB l), .int .i64 e], h) := by
  have hnb : nBlocks l = (l.length + 255) / 256 := rfl
  refine loop_run (fun k => [ints (l.drop (256 * k)), .ref h.length 0 (blocksN l k).length (blocksN l k).length 1]) (fun k => h ++ [.log ((blocksN l k).map u8V) 1 5 .rw]) (nBlocks l) hn rfl rfl (fun k hk K => ?_) fun K => ?_
  · have hlen : (l.drop (256 * k)).length = l.length - 256 * k := by simp
    have hgt : (((l.drop (256 * k)).length : Nat) : Int) > 0 := by omega
    have hmin : min (256 : Int) ((l.drop (256 * k)).length : Int) = ((min 256 (l.drop (256 * k)).length : Nat) : Int) := by omega
    have ht : (l.drop (256 * k)).take (min 256 (l.drop (256 * k)).length) = (l.drop (256 * k)).take 256 := by
      rw [List.take_eq_take_iff]; omega
    have hd : (l.drop (256 * k)).drop (min 256 (l.drop (256 * k)).length) = l.drop (256 * (k + 1)) := by
      rw [List.drop_drop]
      by_cases h1 : 256 ≤ (l.drop (256 * k)).length
      · congr 1; omega
      · rw [List.drop_of_length_le (by omega), List.drop_of_length_le (by omega)]
    have hlb := blocksN_len l k
    have hlb2 := blockB_len (l := (l.drop (256 * k)).take 256) (by simp; omega)
    have ap := append_u8s (h := h) (l := [.log ((blocksN l k).map u8V) 1 5 .rw]) (k := 0) (ys := blockB ((l.drop (256 * k)).take 256)) rfl (by unfold mostLen; omega)
    simp only [Nat.add_zero, List.set_cons_zero, ← blocksN_succ] at ap
    unfold s12_L0
    simp only [nth_zero, nth_one, len_ints, bin_gtr, hgt, decide_true, Option.bind_some, KL_def, if_bool, if_true, fold1_two, min2_i, hmin, ints_hi (Nat.min_le_right _ _), ints_lo (Nat.min_le_right _ _), ht, hd, c34 (small_part hs _ _) (show ((l.drop (256 * k)).take 256).length ≤ 256 by simp; omega), ap]
    rw [trim_len _ (by simp)]
  · have hlen : (l.drop (256 * nBlocks l)).length = 0 := by simp; omega
    have hgt : ¬ (((l.drop (256 * nBlocks l)).length : Int) > 0) := by omega
    unfold s12_L0
    simp only [nth_zero, nth_one, len_ints, bin_gtr, hgt, decide_false, Option.bind_some, KL_def, if_bool, Bool.false_eq_true, if_false]
    exact fin_bytes e
/-- The values that are packed. -/
def codedL (v : Int) (b : Nat) (l : List Int) : List Int := if v = 2 then diffs b (diffs b l) else diffs b l
theorem codedL_len (v : Int) (b : Nat) (l : List Int) : (codedL v b l).length = l.length := by unfold codedL; split <;> simp [diffs_len]
theorem codedL_small {b : Nat} (h2 : b ≤ 16) (v : Int) (l : List Int) : Small (codedL v b l) := by unfold codedL; split <;> exact small_diffs h2 _
def isVer (v : Int) : Bool := v == 1 || v == 2
/-- What Blocks gives. -/
def blocksE (l : List Int) (bits v : Int) : Int := if right bits && isVer v then chk l bits else 1
def blocksOf (l : List Int) (bits v : Int) : List Nat := if blocksE l bits v = 0 then blocksB (codedL v bits.toNat l) else []
theorem blocksE_zero {l : List Int} {bits v : Int} (h : blocksE l bits v = 0) : isVer v = true ∧ chk l bits = 0 := by
  unfold blocksE at h
  split at h
  · rename_i hc
    rw [Bool.and_eq_true] at hc
    exact ⟨hc.2, h⟩
  · cases h
theorem c12 {l : List Int} (bits v : Int) (hm : l.length < 4294967296) (h : PHeap) : Γ0 12 [ints l, .int .i64 bits, .int .i64 v] h = some (.tuple [u8s (blocksOf l bits v), .int .i64 (blocksE l bits v)], h) := by
  refine gbody (F := A12) (by kernel_rfl) (l.length + 2) ?_
  rw [s12_eq]
  unfold s12
  simp only [c32, c33, c26 bits (show l.length < 9223372036854775808 by omega), Option.bind_some, un_not, K1_def, KL_def, sc_or, if_bool, bin_neq, ne0, bin_eql]
  unfold blocksOf blocksE isVer
  cases hr : right bits with
  | false => simp only [Bool.not_false, Bool.true_eq_false, if_false, if_true, Bool.false_and, Bool.false_eq_true, fin_err]; rfl
  | true =>
    cases hv : (v == 1 || v == 2) with
    | false => simp only [Bool.not_true, Bool.not_false, if_true, Bool.and_false, Bool.false_eq_true, if_false, fin_err]; rfl
    | true =>
      simp only [Bool.not_true, if_true, Bool.and_true, Bool.false_eq_true, if_false]
      by_cases h0 : chk l bits = 0
      · rw [if_neg (fun k => k h0), h0, if_pos rfl]
        obtain ⟨b, rfl, hb, ha, h4⟩ := chk_zero h0
        rw [Int.toNat_natCast]
        have hs := small_all (show b ≤ 16 by omega) ha
        simp only [c27 (b := b) (by omega) (by omega) hs hm, Option.bind_some, c27 (b := b) (by omega) (by omega) (small_diffs (show b ≤ 16 by omega) l) (show (diffs b l).length < 4294967296 by rw [diffs_len]; exact hm), nth_zero, fork_def]
        have hnb : ∀ x : List Int, x.length = l.length → nBlocks x < l.length + 2 := fun x hx => by unfold nBlocks; omega
        unfold codedL
        by_cases h2 : v = 2
        · subst h2
          simp only [beq_self_eq_true, if_true]
          exact refLoop (small_diffs (by omega) _) (by rw [diffs_len, diffs_len]; omega) h _ (hnb _ (by rw [diffs_len, diffs_len]))
        · have : (v == 2) = false := by simp [h2]
          simp only [this, Bool.false_eq_true, if_false, if_neg h2]
          exact refLoop (small_diffs (by omega) _) (by rw [diffs_len]; omega) h _ (hnb _ (diffs_len _ _))
      · rw [if_pos h0, if_neg h0, fin_err]
end Go.Vm.X
