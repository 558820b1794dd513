/- Packing: Delta, both sides; bytes as strings. -/
import Derived.Test.YtgcioidegmnehaaPvLists
set_option linter.unusedSimpArgs false
set_option linter.unusedVariables false
namespace Go.Vm.X
open Go.Am Go.Vm

/-- The bytes of one difference. -/
def dBytes (b : Nat) (d : Int) : List Nat := (d % 256).toNat :: if b = 16 then [(d / 256 % 256).toNat] else []
def deltaB (b : Nat) (l : List Int) : List Nat := l.flatMap (dBytes b)
theorem dBytes_len (b : Nat) (d : Int) : (dBytes b d).length ≤ 2 := by unfold dBytes; split <;> simp
theorem deltaB_len (b : Nat) (l : List Int) : (deltaB b l).length ≤ 2 * l.length := by
  unfold deltaB
  induction l with
  | nil => simp
  | cons x r ih => rw [List.flatMap_cons, List.length_append, List.length_cons]; have := dBytes_len b x; omega
theorem deltaB_succ {b : Nat} {l : List Int} {i : Nat} {a : Int} (hi : l[i]? = some a) : deltaB b (l.take (i + 1)) = deltaB b (l.take i) ++ dBytes b a := by
  rw [take_succ_get hi]; unfold deltaB; rw [List.flatMap_append]; simp
theorem u8_nat (d : Int) : IntKind.u8.wrap d = ((d % 256).toNat : Int) := by
  rw [wrap8, Int.toNat_of_nonneg (Int.emod_nonneg _ (by decide))]
/-- A slice of bytes that grows. -/
theorem append_u8 {h l : PHeap} {k : Nat} {t : TypeId} {xs : List Nat} (a : Nat) (e : l[k]? = some (.log (xs.map u8V) 1 t .rw)) (hm : xs.length < mostLen) :
    appendP t 1 (.ref (h.length + k) 0 xs.length xs.length 1) (.frz 1 [[.int .u8 a]]) (h ++ l) = some (.ref (h.length + k) 0 (xs ++ [a]).length (xs ++ [a]).length 1, h ++ l.set k (.log ((xs ++ [a]).map u8V) 1 t .rw)) := by
  rw [append_one xs.length (by simp) e rfl hm]
  simp [u8V]
theorem fin_bytes {h : PHeap} {s : Nat} {t : TypeId} {xs : List Nat} (e : Int) : finP [.flat s, .keep] h (h ++ [.log (xs.map u8V) 1 t .rw]) [.ref h.length 0 xs.length xs.length 1, .int .i64 e] = some (.tuple [u8s xs, .int .i64 e], h) := by
  have e := fz_logB (h := h) (l := [.log (xs.map u8V) 1 t .rw]) (k := 0) (s := s) xs.length rfl rfl
  simp only [Nat.add_zero] at e
  simp only [fin_def, fzL_cons, fzL_nil, fz_keep, e, Option.bind_some, Option.map_some, single_two]
  rw [trim_new _ (fun x hx => by simp only [List.mem_cons, List.not_mem_nil, or_false] at hx; rcases hx with rfl | rfl <;> first | exact lt_u8s _ _ | exact lt_int _ _ _)]
/-- An error, and no bytes. -/
theorem fin_err {h : PHeap} {e : Int} : finP [.flat 1, .keep] h h [.nilS, .int .i64 e] = some (.tuple [u8s [], .int .i64 e], h) := by
  simp only [fin_def, fzL_cons, fzL_nil, fz_keep, fz_nil, Option.bind_some, Option.map_some, single_two, trim_self]
  rfl
/-- Both loops, once. -/
theorem deltaLoop {b : Nat} (hb : b = 8 ∨ b = 16) {l : List Int} (hm : l.length ≤ 6000) (h : PHeap) (n : Nat) (hn : l.length < n) :
    loopP (s9_L0 Γ0 n (.int .i64 b) (ints l, h ++ [.log [] 1 5 .rw]) (.int .i64 l.length) (fun w h2 => finP [.flat 1, .keep] h h2 [nthP w 0, .int .i64 0])) n [.ref h.length 0 0 0 1, .int .i64 0] (h ++ [.log [] 1 5 .rw]) =
      some (.tuple [u8s (deltaB b l), .int .i64 0], h) := by
  refine loop_run (fun i => [.ref h.length 0 (deltaB b (l.take i)).length (deltaB b (l.take i)).length 1, .int .i64 i]) (fun i => h ++ [.log ((deltaB b (l.take i)).map u8V) 1 5 .rw]) l.length hn rfl rfl (fun i hi K => ?_) fun K => ?_
  · obtain ⟨a, ha⟩ := lt_len hi
    have hdl := deltaB_len b (l.take i)
    rw [List.length_take] at hdl
    have a1 := append_u8 (h := h) (l := [.log ((deltaB b (l.take i)).map u8V) 1 5 .rw]) (k := 0) (a % 256).toNat rfl (by unfold mostLen; omega)
    have a2 := append_u8 (h := h) (l := [.log ((deltaB b (l.take i) ++ [(a % 256).toNat]).map u8V) 1 5 .rw]) (k := 0) (a / 256 % 256).toNat rfl (by rw [List.length_append]; unfold mostLen; simp; omega)
    simp only [Nat.add_zero, List.set_cons_zero] at a1 a2
    unfold s9_L0
    simp only [nth_zero, nth_one, bin_lss, ltT hi, decide_true, Option.bind_some, KL_def, if_bool, if_true, idx_ints _ ha, load_iV, conv_int, u8_nat, fill_int, all_one, pure1, guard_true, chunk_one, fork_def, a1, bin_eql, bin_add, succ64 (show i < 4294967297 by omega)]
    rw [deltaB_succ ha]
    rcases hb with rfl | rfl
    · have h16 : (((8 : Nat) : Int) == 16) = false := rfl
      simp only [h16, Bool.false_eq_true, if_false]
      rw [trim_len _ (by simp)]
      rfl
    · have h16 : (((16 : Nat) : Int) == 16) = true := rfl
      have hsh : binP .shr (.int .i64 a) (.int .u64 8) = some (.int .i64 (a / 256)) := shr_pow a 8 .u64 (by decide)
      simp only [h16, if_true, hsh, Option.bind_some, conv_int, u8_nat, fill_int, all_one, pure1, guard_true, chunk_one, fork_def, a2]
      rw [trim_len _ (by simp), List.append_assoc]
      rfl
  · unfold s9_L0
    simp only [nth_zero, nth_one, bin_lss, ltF, decide_false, Option.bind_some, KL_def, if_bool, Bool.false_eq_true, if_false, List.take_length]
    exact fin_bytes 0
theorem chk_zero {l : List Int} {bits : Int} (h : chk l bits = 0) : ∃ b : Nat, bits = b ∧ (b = 8 ∨ b = 16) ∧ l.all (inR b) = true ∧ l.length ≤ 4096 := by
  unfold chk at h
  split at h
  · rename_i hr
    obtain ⟨b, rfl, hb⟩ := right_nat hr
    rw [Int.toNat_natCast] at h
    split at h
    · rename_i ha
      split at h
      · cases h
      · exact ⟨b, rfl, hb, ha, by omega⟩
    · cases h
  · cases h
theorem small_all {b : Nat} (h2 : b ≤ 16) {l : List Int} (h : l.all (inR b) = true) : Small l := fun x hx => small_in h2 (List.all_eq_true.1 h x hx)
/-- What Delta gives: bytes, and an error. -/
def deltaOf (l : List Int) (bits : Int) : List Nat := if chk l bits = 0 then deltaB bits.toNat (diffs bits.toNat l) else []
theorem ne0 (a : Int) : ((a != 0) = true) ↔ a ≠ 0 := by simp
theorem c9 {l : List Int} (bits : Int) (hm : l.length < 9223372036854775808) (h : PHeap) : Γ0 9 [ints l, .int .i64 bits] h = some (.tuple [u8s (deltaOf l bits), .int .i64 (chk l bits)], h) := by
  refine gbody (F := A9) (by kernel_rfl) (l.length + 1) ?_
  rw [s9_eq]
  unfold s9
  simp only [c24 bits hm, Option.bind_some, bin_neq, KL_def, if_bool, ne0]
  unfold deltaOf
  by_cases h0 : chk l bits = 0
  · rw [if_neg (fun k => k h0), h0, if_pos rfl]
    obtain ⟨b, rfl, hb, ha, h4⟩ := chk_zero h0
    rw [Int.toNat_natCast]
    simp only [fork_def, c25 (b := b) (by omega) (by omega) (small_all (by omega) ha) (show l.length < 4294967296 by omega), Option.bind_some, len_ints]
    exact deltaLoop hb (by rw [diffs_len]; omega) h _ (by rw [diffs_len]; omega)
  · rw [if_pos h0, if_neg h0, fin_err]
theorem c10 {l : List Int} (bits : Int) (hm : l.length < 4294967296) (h : PHeap) : Γ0 10 [ints l, .int .i64 bits] h = some (.tuple [u8s (deltaOf l bits), .int .i64 (chk l bits)], h) := by
  refine gbody (F := A10) (by kernel_rfl) (l.length + 1) ?_
  rw [s10_eq]
  unfold s10
  simp only [c26 bits (show l.length < 9223372036854775808 by omega), Option.bind_some, bin_neq, KL_def, if_bool, ne0]
  unfold deltaOf
  by_cases h0 : chk l bits = 0
  · rw [if_neg (fun k => k h0), h0, if_pos rfl]
    obtain ⟨b, rfl, hb, ha, h4⟩ := chk_zero h0
    rw [Int.toNat_natCast]
    simp only [fork_def, c27 (b := b) (by omega) (by omega) (small_all (by omega) ha) hm, Option.bind_some, len_ints]
    exact deltaLoop hb (by rw [diffs_len]; omega) h _ (by rw [diffs_len]; omega)
  · rw [if_pos h0, if_neg h0, fin_err]
def byteStr (l : List Nat) : ByteArray := ⟨(l.map UInt8.ofNat).toArray⟩
theorem bytes_map (l : List Nat) : bytesP (l.map u8V) = some (l.map UInt8.ofNat) := by
  induction l with
  | nil => rfl
  | cons a t ih => simp only [List.map_cons, u8V, bytesP] ; rw [show List.map u8V t = t.map u8V from rfl, ih]; rfl
theorem str_u8s (l : List Nat) (h : PHeap) : bytesToStrP (u8s l) h = some (.str (byteStr l)) := by
  unfold bytesToStrP u8s
  simp only [rows_frz, Option.bind_some, bytes_map, Option.map_some]
  rfl
end Go.Vm.X
