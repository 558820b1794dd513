/- Packing: Undelta, both sides. -/
import Derived.Test.YtgcioidegmnehaaPvFill
set_option linter.unusedSimpArgs false
set_option linter.unusedVariables false
namespace Go.Vm.X
open Go.Am Go.Vm

/-- Number i of s bytes each. -/
def rawAt (b : List Nat) (s i : Nat) : Nat := if s = 2 then b.getD (2 * i) 0 + 256 * b.getD (2 * i + 1) 0 else b.getD i 0
def undN (b : List Nat) (s bits k : Nat) : List Int := (List.range k).map fun i => wrapB bits (rawAt b s i)
theorem undN_succ (b : List Nat) (s bits k : Nat) : undN b s bits (k + 1) = undN b s bits k ++ [wrapB bits (rawAt b s k)] := by unfold undN; rw [List.range_succ, List.map_append]; rfl
theorem undN_len (b : List Nat) (s bits k : Nat) : (undN b s bits k).length = k := by simp [undN]
theorem undN_small {bits : Nat} (h : bits ≤ 16) (b : List Nat) (s k : Nat) : Small (undN b s bits k) := fun x hx => by
  unfold undN at hx
  obtain ⟨i, _, rfl⟩ := List.mem_map.1 hx
  exact small_in h (wrapB_range _ _)
theorem getD_nat {b : List Nat} {i a : Nat} (h : b[i]? = some a) : b.getD i 0 = a := by rw [List.getD_eq_getElem?_getD, h]; rfl
/-- A byte as a number. -/
theorem conv_u8 (a : Nat) (h : a < 256) : convP .i64 (.int .u8 (a : Int)) = some (.int .i64 (a : Int)) := by rw [conv_int, wrap64 (by unfold isI64; omega)]
/-- A slice of numbers that grows. -/
theorem append_i64 {h l : PHeap} {k : Nat} {t : TypeId} {xs : List Int} (a : Int) (e : l[k]? = some (.log (xs.map iV) 1 t .rw)) (hm : xs.length < mostLen) :
    appendP t 1 (.ref (h.length + k) 0 xs.length xs.length 1) (.frz 1 [[.int .i64 a]]) (h ++ l) = some (.ref (h.length + k) 0 (xs ++ [a]).length (xs ++ [a]).length 1, h ++ l.set k (.log ((xs ++ [a]).map iV) 1 t .rw)) := by
  rw [append_one xs.length (by simp) e rfl hm]
  simp [iV]
theorem und_lt {s n i len : Nat} (hs : 0 < s) (hi : i < min n (len / s)) : i < n ∧ s * i + s ≤ len := by
  have h1 : i + 1 ≤ len / s := by omega
  have := (Nat.le_div_iff_mul_le hs).1 h1
  rw [Nat.add_mul, Nat.mul_comm i] at this
  omega
theorem und_ge {s n len : Nat} (hs : 0 < s) : ¬ (s * min n (len / s) + s ≤ len ∧ min n (len / s) < n) := by
  rintro ⟨h1, h2⟩
  have h3 : min n (len / s) = len / s := by omega
  rw [h3] at h1
  have : len / s + 1 ≤ len / s := (Nat.le_div_iff_mul_le hs).2 (by rw [Nat.add_mul, Nat.mul_comm]; omega)
  omega
theorem undLoop {b : List Nat} (hb : ∀ x ∈ b, x < 256) (hl : b.length ≤ 400000) {s n bits : Nat} (hs : s = 1 ∧ bits = 8 ∨ s = 2 ∧ bits = 16) (hn : n ≤ 4096) (h : PHeap) (j : List PV → PHeap → Pt) (fuel : Nat) (hf : n < fuel) :
    loopP (s16_L0 Γ0 fuel (u8s b) (.int .i64 bits) (.int .i64 n) (h ++ [.log [] 1 3 .rw]) (.int .i64 s) j) fuel [.ref h.length 0 0 0 1, .int .i64 0, undefP, undefP, undefP, undefP] (h ++ [.log [] 1 3 .rw]) =
      j [.ref h.length 0 (undN b s bits (min n (b.length / s))).length (undN b s bits (min n (b.length / s))).length 1] (h ++ [.log ((undN b s bits (min n (b.length / s))).map iV) 1 3 .rw]) := by
  have hs0 : 0 < s := by omega
  have hs2 : s ≤ 2 := by omega
  let z : Nat → PV := fun i => if i = 0 then undefP else .junk
  have hml : min n (b.length / s) ≤ n := Nat.min_le_left _ _
  refine loop_run (fun i => [.ref h.length 0 (undN b s bits i).length (undN b s bits i).length 1, .int .i64 ((s * i : Nat) : Int), z i, z i, z i, z i]) (fun i => h ++ [.log ((undN b s bits i).map iV) 1 3 .rw]) (min n (b.length / s)) (by omega) rfl rfl (fun i hi K => ?_) fun K => ?_
  · obtain ⟨h1, h2⟩ := und_lt hs0 hi
    obtain ⟨a, ha⟩ := lt_len (show s * i < b.length by omega)
    have ha256 := hb a (List.mem_of_getElem? ha)
    have hadd : IntKind.i64.wrap (((s * i : Nat) : Int) + (s : Int)) = ((s * (i + 1) : Nat) : Int) := by rw [wrap64 (by unfold isI64; omega), Nat.mul_add]; omega
    have hle : (((s * (i + 1) : Nat) : Int) ≤ (b.length : Int)) = True := eq_true (by rw [Nat.mul_add]; omega)
    have hlt : (((undN b s bits i).length : Int) < (n : Int)) = True := eq_true (by rw [undN_len]; omega)
    have ap := append_i64 (h := h) (l := [.log ((undN b s bits i).map iV) 1 3 .rw]) (k := 0) (wrapB bits (rawAt b s i)) rfl (by rw [undN_len]; unfold mostLen; omega)
    simp only [Nat.add_zero, List.set_cons_zero, ← undN_succ] at ap
    unfold s16_L0
    simp only [nth_zero, nth_one, nth_two, bin_add, hadd, Option.bind_some, len_u8s, len_ref, bin_leq, hle, decide_true, bin_lss, hlt, K1_def, KL_def, sc_and, if_bool, if_true, idx_u8s _ ha, load_u8V, conv_u8 a ha256, bin_eql]
    rcases hs with ⟨rfl, rfl⟩ | ⟨rfl, rfl⟩
    · have hraw : rawAt b 1 i = a := by unfold rawAt; rw [if_neg (by decide)]; exact getD_nat (by rwa [Nat.one_mul] at ha)
      have h12 : (((1 : Nat) : Int) == 2) = false := rfl
      rw [hraw] at ap
      simp only [h12, Bool.false_eq_true, if_false, nth_zero, c38 (show 1 ≤ 8 by omega) (show 8 ≤ 16 by omega), Option.bind_some, fill_int, all_one, pure1, guard_true, chunk_one, fork_def, ap]
      rw [trim_len _ (by simp)]
      rfl
    · obtain ⟨a2, ha2⟩ := lt_len (show 2 * i + 1 < b.length by omega)
      have ha2' := hb a2 (List.mem_of_getElem? ha2)
      have hraw : rawAt b 2 i = a + 256 * a2 := by unfold rawAt; rw [if_pos rfl, getD_nat ha, getD_nat ha2]
      have h22 : (((2 : Nat) : Int) == 2) = true := rfl
      have hadd1 : IntKind.i64.wrap (((2 * i : Nat) : Int) + 1) = ((2 * i + 1 : Nat) : Int) := by rw [wrap64 (by unfold isI64; omega)]; omega
      have hsh : binP .shl (.int .i64 (a2 : Int)) (.int .u64 8) = some (.int .i64 ((a2 * 2 ^ 8 : Nat) : Int)) := by
        have := shl_pow (a2 : Int) 8 .u64 (by decide)
        rw [← Int.natCast_mul, wrap64 (by unfold isI64; omega)] at this
        exact this
      have hor := or_nat (k := .i64) a (a2 * 2 ^ 8) (by omega) (by omega)
      rw [or_add (show a < 2 ^ 8 by omega)] at hor
      rw [hraw] at ap
      simp only [h22, if_true, hadd1, Option.bind_some, idx_u8s _ ha2, load_u8V, conv_u8 a2 ha2', hsh, hor, nth_zero, show (2 : Nat) ^ 8 * a2 = 256 * a2 from rfl, c38 (show 1 ≤ 16 by omega) (show 16 ≤ 16 by omega), fill_int, all_one, pure1, guard_true, chunk_one, fork_def, ap]
      rw [trim_len _ (by simp)]
      rfl
  · have hge := und_ge (n := n) (len := b.length) hs0
    have hadd : IntKind.i64.wrap (((s * min n (b.length / s) : Nat) : Int) + (s : Int)) = ((s * min n (b.length / s) + s : Nat) : Int) := by
      have := Nat.mul_le_mul hs2 hml
      rw [wrap64 (by unfold isI64; omega)]; omega
    unfold s16_L0
    simp only [nth_zero, nth_one, nth_two, bin_add, hadd, Option.bind_some, len_u8s, len_ref, undN_len, bin_leq, bin_lss, K1_def, KL_def, sc_and, if_bool, decide_eq_true_eq]
    by_cases h1 : ((s * min n (b.length / s) + s : Nat) : Int) ≤ (b.length : Int)
    · have h2 : ¬ (((min n (b.length / s) : Nat) : Int) < (n : Int)) := by omega
      rw [if_pos h1, if_neg h2]
    · rw [if_neg h1]
      simp
theorem undLoopR {b : List Nat} (hb : ∀ x ∈ b, x < 256) (hl : b.length ≤ 400000) {s n bits : Nat} (hs : s = 1 ∧ bits = 8 ∨ s = 2 ∧ bits = 16) (hn : n ≤ 4096) (h : PHeap) (j : List PV → PHeap → Pt) (fuel : Nat) (hf : n < fuel) :
    loopP (s17_L0 Γ0 fuel (u8s b) (.int .i64 bits) (.int .i64 n) (.int .i64 s) (h ++ [.log [] 1 3 .rw]) j) fuel [.ref h.length 0 0 0 1, .int .i64 0, undefP, undefP, undefP, undefP, undefP, undefP, undefP] (h ++ [.log [] 1 3 .rw]) =
      j [.ref h.length 0 (undN b s bits (min n (b.length / s))).length (undN b s bits (min n (b.length / s))).length 1] (h ++ [.log ((undN b s bits (min n (b.length / s))).map iV) 1 3 .rw]) := by
  have hs0 : 0 < s := by omega
  have hs2 : s ≤ 2 := by omega
  let z : Nat → PV := fun i => if i = 0 then undefP else .junk
  have hml : min n (b.length / s) ≤ n := Nat.min_le_left _ _
  refine loop_run (fun i => [.ref h.length 0 (undN b s bits i).length (undN b s bits i).length 1, .int .i64 i, z i, z i, z i, z i, z i, z i, z i]) (fun i => h ++ [.log ((undN b s bits i).map iV) 1 3 .rw]) (min n (b.length / s)) (by omega) rfl rfl (fun i hi K => ?_) fun K => ?_
  · obtain ⟨h1, h2⟩ := und_lt hs0 hi
    obtain ⟨a, ha⟩ := lt_len (show s * i < b.length by omega)
    have ha256 := hb a (List.mem_of_getElem? ha)
    have hlt : ((i : Int) < (n : Int)) = True := eq_true (by omega)
    have hm1 : IntKind.i64.wrap (((i + 1 : Nat) : Int) * (s : Int)) = ((s * i + s : Nat) : Int) := by
      rw [← Int.natCast_mul, Nat.add_mul, Nat.one_mul, Nat.mul_comm i, wrap64 (by unfold isI64; omega)]
    have hm0 : IntKind.i64.wrap ((i : Int) * (s : Int)) = ((s * i : Nat) : Int) := by
      rw [← Int.natCast_mul, Nat.mul_comm i, wrap64 (by unfold isI64; omega)]
    have hle : (((s * i + s : Nat) : Int) ≤ (b.length : Int)) = True := eq_true (by omega)
    have ap := append_i64 (h := h) (l := [.log ((undN b s bits i).map iV) 1 3 .rw]) (k := 0) (wrapB bits (rawAt b s i)) rfl (by rw [undN_len]; unfold mostLen; omega)
    simp only [Nat.add_zero, List.set_cons_zero, ← undN_succ] at ap
    unfold s17_L0
    simp only [nth_zero, nth_one, nth_two, bin_add, Option.bind_some, len_u8s, bin_lss, hlt, decide_true, bin_leq, bin_mul, succ64 (show i < 4294967297 by omega), hm1, hm0, hle, K1_def, KL_def, sc_and, if_bool, if_true, idx_u8s _ ha, load_u8V, conv_u8 a ha256, bin_eql]
    rcases hs with ⟨rfl, rfl⟩ | ⟨rfl, rfl⟩
    · have hraw : rawAt b 1 i = a := by unfold rawAt; rw [if_neg (by decide)]; exact getD_nat (by rwa [Nat.one_mul] at ha)
      have h12 : (((1 : Nat) : Int) == 2) = false := rfl
      rw [hraw] at ap
      simp only [h12, Bool.false_eq_true, if_false, nth_zero, c43 (show 1 ≤ 8 by omega) (show 8 ≤ 16 by omega), Option.bind_some, fill_int, all_one, pure1, guard_true, chunk_one, fork_def, ap]
      rw [trim_len _ (by simp)]
      rfl
    · obtain ⟨a2, ha2⟩ := lt_len (show 2 * i + 1 < b.length by omega)
      have ha2' := hb a2 (List.mem_of_getElem? ha2)
      have hraw : rawAt b 2 i = a + 256 * a2 := by unfold rawAt; rw [if_pos rfl, getD_nat ha, getD_nat ha2]
      have h22 : (((2 : Nat) : Int) == 2) = true := rfl
      have hadd1 : IntKind.i64.wrap (((2 * i : Nat) : Int) + 1) = ((2 * i + 1 : Nat) : Int) := by rw [wrap64 (by unfold isI64; omega)]; omega
      have hmul2 : IntKind.i64.wrap (256 * (a2 : Int)) = ((256 * a2 : Nat) : Int) := by rw [wrap64 (by unfold isI64; omega)]; omega
      have hsum : IntKind.i64.wrap ((a : Int) + ((256 * a2 : Nat) : Int)) = ((a + 256 * a2 : Nat) : Int) := by rw [wrap64 (by unfold isI64; omega)]; omega
      rw [hraw] at ap
      simp only [h22, if_true, bin_mul, bin_add, hadd1, Option.bind_some, idx_u8s _ ha2, load_u8V, conv_u8 a2 ha2', hmul2, hsum, nth_zero, c43 (show 1 ≤ 16 by omega) (show 16 ≤ 16 by omega), fill_int, all_one, pure1, guard_true, chunk_one, fork_def, ap]
      rw [trim_len _ (by simp)]
      rfl
  · have hge := und_ge (n := n) (len := b.length) hs0
    have hmm := Nat.mul_le_mul hs2 hml
    have hm1 : IntKind.i64.wrap (((min n (b.length / s) + 1 : Nat) : Int) * (s : Int)) = ((s * min n (b.length / s) + s : Nat) : Int) := by
      rw [← Int.natCast_mul, Nat.add_mul, Nat.one_mul, Nat.mul_comm (min n (b.length / s)), wrap64 (by unfold isI64; omega)]
    unfold s17_L0
    simp only [nth_zero, nth_one, nth_two, bin_add, Option.bind_some, len_u8s, bin_leq, bin_mul, bin_lss, succ64 (show min n (b.length / s) < 4294967297 by omega), hm1, K1_def, KL_def, sc_and, if_bool, decide_eq_true_eq]
    by_cases h1 : ((s * min n (b.length / s) + s : Nat) : Int) ≤ (b.length : Int)
    · have h2 : ¬ (((min n (b.length / s) : Nat) : Int) < (n : Int)) := by omega
      rw [if_neg h2]
      simp
    · by_cases h2 : (((min n (b.length / s) : Nat) : Int) < (n : Int))
      · rw [if_pos h2, if_neg h1]
      · rw [if_neg h2]
        simp
/-- What Undelta says. -/
def undE (b : List Nat) (bits n : Int) : Int := if right bits then askd b n else 1
def undM (b : List Nat) (bits n : Int) : Nat := min n.toNat (b.length / (bits.toNat / 8))
def undL (b : List Nat) (bits n : Int) : List Int := if undE b bits n = 0 then padL (sums bits.toNat (undN b (bits.toNat / 8) bits.toNat (undM b bits n))) n.toNat else []
def undMiss (b : List Nat) (bits n : Int) : Int := if undE b bits n = 0 then ((n.toNat - undM b bits n : Nat) : Int) else 0
def undR (b : List Nat) (bits n : Int) : PV := .tuple [ints (undL b bits n), .int .i64 (undMiss b bits n), .int .i64 (undE b bits n)]
theorem fin_3 {h L : PHeap} {l : List Int} {a e : Int} : finP [.flat 1, .keep, .keep] h (h ++ L) [ints l, .int .i64 a, .int .i64 e] = some (.tuple [ints l, .int .i64 a, .int .i64 e], h) := by
  simp only [fin_def, fzL_cons, fzL_nil, fz_keep, fz_ints, Option.bind_some, Option.map_some, single_three]
  rw [trim_new _ (fun x hx => by simp only [List.mem_cons, List.not_mem_nil, or_false] at hx; rcases hx with rfl | rfl | rfl <;> first | exact lt_ints _ _ | exact lt_int _ _ _)]
theorem fin_3e {h : PHeap} {a e : Int} : finP [.flat 1, .keep, .keep] h h [.nilS, .int .i64 a, .int .i64 e] = some (.tuple [ints [], .int .i64 a, .int .i64 e], h) := by
  simp only [fin_def, fzL_cons, fzL_nil, fz_keep, fz_nil, Option.bind_some, Option.map_some, single_three, trim_self]
  rfl
theorem right_s {bits : Nat} (h : bits = 8 ∨ bits = 16) : bits / 8 = 1 ∧ bits = 8 ∨ bits / 8 = 2 ∧ bits = 16 := by omega
theorem c16 {b : List Nat} (hb : ∀ x ∈ b, x < 256) (bits n : Int) (h : PHeap) : Γ0 16 [u8s b, .int .i64 bits, .int .i64 n] h = some (undR b bits n, h) := by
  obtain ⟨N, hN⟩ : ∃ N : Nat, 4100 ≤ N := ⟨4100, Nat.le_refl _⟩
  refine gbody (F := A16) (by kernel_rfl) N ?_
  rw [s16_eq]
  unfold s16 undR undL undMiss
  have hE : (if right bits then askd b n else 1) = undE b bits n := rfl
  simp only [c39, hE, Option.bind_some, bin_neq, KL_def, if_bool, ne0]
  by_cases h0 : undE b bits n = 0
  · rw [if_neg (fun k => k h0), if_pos h0, if_pos h0, h0]
    have h0' := h0
    unfold undE at h0'
    cases hr : right bits with
    | false => rw [hr, if_neg Bool.false_ne_true] at h0'; exact absurd h0' (by decide)
    | true =>
      rw [hr, if_pos rfl] at h0'
      obtain ⟨hlen, m, rfl, hm⟩ := askd_zero h0'
      obtain ⟨k, rfl, hk⟩ := right_nat hr
      have hq : binP .quo (.int .i64 (k : Int)) (.int .i64 8) = some (.int .i64 ((k / 8 : Nat) : Int)) := quo_nat k 8 (by decide) (by omega)
      have hM0 : undM b (k : Int) (m : Int) = min m (b.length / (k / 8)) := by unfold undM; rw [Int.toNat_natCast, Int.toNat_natCast]
      rw [hM0, Int.toNat_natCast, Int.toNat_natCast]
      simp only [fork_def, hq, Option.bind_some]
      rw [undLoop hb hlen (right_s hk) hm h _ _ (by omega)]
      generalize hM : min m (b.length / (k / 8)) = M
      have hMm : M ≤ m := by omega
      have e := fz_logI (h := h) (l := [.log ((undN b (k / 8) k M).map iV) 1 3 .rw]) (k := 0) (s := 1) (undN b (k / 8) k M).length rfl rfl
      simp only [Nat.add_zero] at e
      have x0 : ∀ a b : PV, extractP (.tuple [a, b]) 0 = some a := fun _ _ => rfl
      have x1 : ∀ a b : PV, extractP (.tuple [a, b]) 1 = some b := fun _ _ => rfl
      simp only [nth_zero]
      rw [e]
      simp only [Option.bind_some, c41 (show 1 ≤ k by omega) (show k ≤ 16 by omega) (undN_small (show k ≤ 16 by omega) _ _ _) (show (undN b (k / 8) k M).length < 4294967296 by rw [undN_len]; omega), c40 (show (sums k (undN b (k / 8) k M)).length < 4294967296 by rw [sums_len, undN_len]; omega) hm, x0, x1, fin_3, sums_len, undN_len]
  · rw [if_pos h0, if_neg h0, if_neg h0]
    exact fin_3e
theorem c17 {b : List Nat} (hb : ∀ x ∈ b, x < 256) (bits n : Int) (h : PHeap) : Γ0 17 [u8s b, .int .i64 bits, .int .i64 n] h = some (undR b bits n, h) := by
  refine gbody (F := A17) (by kernel_rfl) 4100 ?_
  rw [s17_eq]
  unfold s17 undR undL undMiss
  simp only [c32, c42, Option.bind_some, un_not, bin_neq, KL_def, if_bool, ne0]
  cases hr : right bits with
  | false =>
    have h0 : undE b bits n = 1 := by unfold undE; rw [hr]; rfl
    rw [h0]
    simp only [Bool.not_false, if_true]
    exact fin_3e
  | true =>
    have h0 : undE b bits n = askd b n := by unfold undE; rw [hr]; rfl
    rw [h0]
    simp only [Bool.not_true, Bool.false_eq_true, if_false]
    by_cases ha : askd b n = 0
    · rw [if_neg (fun k => k ha), if_pos ha, if_pos ha, ha]
      obtain ⟨hlen, m, rfl, hm⟩ := askd_zero ha
      obtain ⟨k, rfl, hk⟩ := right_nat hr
      have hq : binP .quo (.int .i64 (k : Int)) (.int .i64 8) = some (.int .i64 ((k / 8 : Nat) : Int)) := quo_nat k 8 (by decide) (by omega)
      unfold undM
      simp only [Int.toNat_natCast, fork_def, hq, Option.bind_some]
      rw [undLoopR hb hlen (right_s hk) hm h _ _ (by omega)]
      generalize hM : min m (b.length / (k / 8)) = M
      have hMm : M ≤ m := by omega
      have e := fz_logI (h := h) (l := [.log ((undN b (k / 8) k M).map iV) 1 3 .rw]) (k := 0) (s := 1) (undN b (k / 8) k M).length rfl rfl
      simp only [Nat.add_zero] at e
      have hsub : IntKind.i64.wrap ((m : Int) - (M : Int)) = ((m - M : Nat) : Int) := by rw [wrap64 (by unfold isI64; omega)]; omega
      simp only [nth_zero]
      rw [e]
      simp only [Option.bind_some, c45 (show 1 ≤ k by omega) (show k ≤ 16 by omega) (undN_small (show k ≤ 16 by omega) _ _ _) (show (undN b (k / 8) k M).length < 4294967296 by rw [undN_len]; omega), c44 (show (sums k (undN b (k / 8) k M)).length ≤ m by rw [sums_len, undN_len]; omega) hm, len_ref, bin_sub, undN_len, hsub, fin_3]
    · rw [if_pos ha, if_neg ha, if_neg ha]
      exact fin_3e
theorem c15 (l : List Int) (hm : l.length < 4294967297) (h : PHeap) : Γ0 15 [ints l, ints l] h = some (.bool true, h) := by
  refine gbody (F := A15) (by kernel_rfl) (l.length + 1) ?_
  rw [s15_eq]
  unfold s15
  simp only [len_ints, Option.bind_some, bin_neq, bne_self_eq_false, KL_def, if_bool, Bool.false_eq_true, if_false]
  refine loop_pure (fun i => [.int .i64 i]) l.length (by omega) rfl (fun i hi K => ?_) fun K => ?_
  · obtain ⟨a, ha⟩ := lt_len hi
    unfold s15_L0
    simp only [nth_zero, bin_lss, ltT hi, decide_true, Option.bind_some, KL_def, if_bool, if_true, idx_ints _ ha, load_iV, bin_neq, bne_self_eq_false, Bool.false_eq_true, if_false, bin_add, succ64 (show i < 4294967297 by omega), trim_self]
  · unfold s15_L0
    simp only [nth_zero, bin_lss, ltF, decide_false, Option.bind_some, KL_def, if_bool, Bool.false_eq_true, if_false, fin_bool0]
end Go.Vm.X
