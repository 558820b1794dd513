/- Packing: Unblocks, the loops of the program. -/
import Derived.Test.YtgcioidegmnehaaPvBitsR
set_option linter.unusedSimpArgs false
set_option linter.unusedVariables false
namespace Go.Vm.X
open Go.Am Go.Vm

theorem nth_six (a b c d e f g : PV) (r : List PV) : nthP (a :: b :: c :: d :: e :: f :: g :: r) 6 = g := rfl
theorem nth_seven (a b c d e f g i : PV) (r : List PV) : nthP (a :: b :: c :: d :: e :: f :: g :: i :: r) 7 = i := rfl
theorem nth_eight (a b c d e f g i k : PV) (r : List PV) : nthP (a :: b :: c :: d :: e :: f :: g :: i :: k :: r) 8 = k := rfl

/-- How many bytes i values of w bits take, of the R that there are. -/
def cB (R w i : Nat) : Nat := min R ((i * w + 7) / 8)
theorem cB_zero (R w : Nat) : cB R w 0 = 0 := by unfold cB; rw [Nat.zero_mul]; omega
theorem cB_mono (R w i : Nat) : cB R w i ≤ cB R w (i + 1) := by unfold cB; rw [Nat.add_mul]; omega
theorem cB_le (R w i : Nat) : cB R w i ≤ R := Nat.min_le_left _ _
theorem cB_ge {R w i : Nat} (h : i * w ≤ 8 * R) : i * w ≤ 8 * cB R w i := by unfold cB; omega
theorem drop_get {b : List Nat} {p c : Nat} : (b.drop p)[c]? = b[p + c]? := List.getElem?_drop
theorem drop_256 {b : List Nat} (hb : ∀ x ∈ b, x < 256) (p : Nat) : ∀ x ∈ b.drop p, x < 256 := fun x hx => hb x (List.mem_of_mem_drop hx)
theorem two16 {d : Nat} (h : d ≤ 24) : 2 ^ d ≤ 16777216 := Nat.le_trans (Nat.pow_le_pow_right (by omega) h) (Nat.le_refl _)

theorem unL0 {b : List Nat} (hb : ∀ x ∈ b, x < 256) (hl : b.length ≤ 400000) {w : Nat} (h1 : 1 ≤ w) (h2 : w ≤ 16) {p i : Nat} (hp : p ≤ b.length) (hi : i * w ≤ 8 * (b.length - p)) (H : PHeap) (j : List PV → PHeap → Pt) (n fuel : Nat) (hf : 10 < fuel) (z1 z2 z3 z4 : PV) :
    loopP (s18_L0 Γ0 n (u8s b) (.int .i64 (w : Int)) H j) fuel [.int .i64 ((p + cB (b.length - p) w i : Nat) : Int), .int .i64 ((rnum ((b.drop p).take (cB (b.length - p) w i)) / 2 ^ (i * w) : Nat) : Int), .int .i64 ((8 * cB (b.length - p) w i - i * w : Nat) : Int), z1, z2, z3, z4] H =
      j [.int .i64 ((p + cB (b.length - p) w (i + 1) : Nat) : Int), .int .i64 ((rnum ((b.drop p).take (cB (b.length - p) w (i + 1))) / 2 ^ (i * w) : Nat) : Int), .int .i64 ((8 * cB (b.length - p) w (i + 1) - i * w : Nat) : Int), .junk, .junk, .junk, .junk] H := by
  have hge := cB_ge hi
  have hmo := cB_mono (b.length - p) w i
  have hR := cB_le (b.length - p) w (i + 1)
  have hdl : (b.drop p).length = b.length - p := List.length_drop
  have hd := drop_256 hb p
  have hc1 : cB (b.length - p) w (i + 1) = min (b.length - p) ((i * w + w + 7) / 8) := by unfold cB; rw [Nat.add_mul, Nat.one_mul]
  have hc0 : cB (b.length - p) w i = min (b.length - p) ((i * w + 7) / 8) := rfl
  generalize cB (b.length - p) w (i + 1) = c1 at *
  generalize cB (b.length - p) w i = c0 at *
  refine loop_pure (fun m => [.int .i64 ((p + (c0 + m) : Nat) : Int), .int .i64 ((rnum ((b.drop p).take (c0 + m)) / 2 ^ (i * w) : Nat) : Int), .int .i64 ((8 * (c0 + m) - i * w : Nat) : Int), if m = 0 then z1 else .junk, if m = 0 then z2 else .junk, if m = 0 then z3 else .junk, if m = 0 then z4 else .junk]) (c1 - c0) (by omega) rfl (fun m hm K => ?_) fun K => ?_
  · obtain ⟨a, ha⟩ := lt_len (show p + (c0 + m) < b.length by omega)
    have ha256 := hb a (List.mem_of_getElem? ha)
    have ha' : (b.drop p)[c0 + m]? = some a := by rw [drop_get]; exact ha
    have hlt : (((8 * (c0 + m) - i * w : Nat) : Int) < (w : Int)) = True := eq_true (by omega)
    have hlt2 : (((p + (c0 + m) : Nat) : Int) < (b.length : Int)) = True := eq_true (by omega)
    have hhl := held_lt hd (show c0 + m ≤ (b.drop p).length by omega) (show i * w ≤ 8 * (c0 + m) by omega)
    have hhs := held_succ ha' (show i * w ≤ 8 * (c0 + m) by omega)
    have h24 : 2 ^ (8 * (c0 + m) - i * w) ≤ 16777216 := two16 (by omega)
    have hsh := shl_pow (a : Int) (8 * (c0 + m) - i * w) .i64 (by omega)
    rw [← Int.natCast_mul, wrap64 (by
      have := Nat.mul_le_mul (Nat.le_of_lt ha256) h24
      unfold isI64; omega)] at hsh
    have hor := or_nat (k := .i64) (rnum ((b.drop p).take (c0 + m)) / 2 ^ (i * w)) (a * 2 ^ (8 * (c0 + m) - i * w)) (by omega) (by
      have := Nat.mul_le_mul (Nat.le_of_lt ha256) h24
      omega)
    rw [or_add hhl, hhs] at hor
    have hadd8 : IntKind.i64.wrap (((8 * (c0 + m) - i * w : Nat) : Int) + 8) = ((8 * (c0 + (m + 1)) - i * w : Nat) : Int) := by rw [wrap64 (by unfold isI64; omega)]; omega
    have hsuc : IntKind.i64.wrap (((p + (c0 + m) : Nat) : Int) + 1) = ((p + (c0 + (m + 1)) : Nat) : Int) := by rw [wrap64 (by unfold isI64; omega)]; omega
    unfold s18_L0
    simp only [nth_zero, nth_one, nth_two, bin_lss, hlt, hlt2, decide_true, Option.bind_some, K1_def, KL_def, sc_and, if_bool, if_true, len_u8s, idx_u8s _ ha, load_u8V, conv_u8 a ha256, hsh, hor, bin_add, hadd8, hsuc, trim_self]
    rfl
  · have e : c0 + (c1 - c0) = c1 := by omega
    simp only [e]
    unfold s18_L0
    simp only [nth_zero, nth_one, nth_two, bin_lss, Option.bind_some, K1_def, KL_def, sc_and, if_bool, len_u8s, decide_eq_true_eq]
    by_cases h1 : ((8 * c1 - i * w : Nat) : Int) < (w : Int)
    · have h2 : ¬ (((p + c1 : Nat) : Int) < (b.length : Int)) := by omega
      rw [if_pos h1, if_neg h2]
    · rw [if_neg h1]
      simp

theorem unL1 {b : List Nat} (hb : ∀ x ∈ b, x < 256) (hl : b.length ≤ 400000) {w : Nat} (h1 : 1 ≤ w) (h2 : w ≤ 16) {p size : Nat} (hp : p ≤ b.length) (hs : size ≤ 256) (out : List Int) (ho : out.length ≤ 4096) (h : PHeap) (j : List PV → PHeap → Pt) (n fuel : Nat) (hn : 10 < n) (hf : 256 < fuel) (z1 z2 z3 z4 : PV) (r : Pt)
    (hj : ∀ z1 z2 z3 z4, j [.int .i64 ((p + cB (b.length - p) w size : Nat) : Int), .ref h.length 0 (out ++ valsN w (rnum (b.drop p)) (min size (8 * (b.length - p) / w))).length (out ++ valsN w (rnum (b.drop p)) (min size (8 * (b.length - p) / w))).length 1, z1, z2, z3, z4] (h ++ [.log ((out ++ valsN w (rnum (b.drop p)) (min size (8 * (b.length - p) / w))).map iV) 1 3 .rw]) = r) :
    loopP (s18_L1 Γ0 n (u8s b) (.int .i64 (w : Int)) (h ++ [.log (out.map iV) 1 3 .rw]) j) fuel [.int .i64 (p : Int), .ref h.length 0 out.length out.length 1, .int .i64 0, .int .i64 0, .int .i64 (size : Int), z1, z2, z3, z4] (h ++ [.log (out.map iV) 1 3 .rw]) = r := by
  have hdl : (b.drop p).length = b.length - p := List.length_drop
  have hd := drop_256 hb p
  have hmany : ∀ i, i ≤ 8 * (b.length - p) / w → i * w ≤ 8 * (b.length - p) := fun i hi => (Nat.le_div_iff_mul_le h1).1 hi
  generalize hM : min size (8 * (b.length - p) / w) = M at hj
  refine loop_run (fun i => [.int .i64 ((p + cB (b.length - p) w i : Nat) : Int), .ref h.length 0 (out ++ valsN w (rnum (b.drop p)) i).length (out ++ valsN w (rnum (b.drop p)) i).length 1, .int .i64 ((rnum ((b.drop p).take (cB (b.length - p) w i)) / 2 ^ (i * w) : Nat) : Int), .int .i64 ((8 * cB (b.length - p) w i - i * w : Nat) : Int), .int .i64 ((size - i : Nat) : Int), if i = 0 then z1 else .junk, if i = 0 then z2 else .junk, if i = 0 then z3 else .junk, if i = 0 then z4 else .junk])
    (fun i => h ++ [.log ((out ++ valsN w (rnum (b.drop p)) i).map iV) 1 3 .rw]) M (by omega) ?_ ?_ (fun i hi K => ?_) fun K => ?_
  · simp [cB_zero, valsN, rnum]
  · simp [valsN]
  · have hiw := hmany i (by omega)
    have hiw1 := hmany (i + 1) (by omega)
    have hge := cB_ge hiw1
    have hcR := cB_le (b.length - p) w (i + 1)
    have hw1 : (i + 1) * w = i * w + w := by rw [Nat.add_mul, Nat.one_mul]
    have hgt : (((size - i : Nat) : Int) > 0) = True := eq_true (by omega)
    have hlt : (((8 * cB (b.length - p) w (i + 1) - i * w : Nat) : Int) < (w : Int)) = False := eq_false (by omega)
    have hv := val_of (l := b.drop p) (c := cB (b.length - p) w (i + 1)) (i := i) h1 (by omega) hge
    have hsub : IntKind.i64.wrap (((8 * cB (b.length - p) w (i + 1) - i * w : Nat) : Int) - (w : Int)) = ((8 * cB (b.length - p) w (i + 1) - (i + 1) * w : Nat) : Int) := by rw [wrap64 (by unfold isI64; omega)]; omega
    have hsub1 : IntKind.i64.wrap (((size - i : Nat) : Int) - 1) = ((size - (i + 1) : Nat) : Int) := by rw [wrap64 (by unfold isI64; omega)]; omega
    have hshr := shr_pow (((rnum ((b.drop p).take (cB (b.length - p) w (i + 1))) / 2 ^ (i * w) : Nat) : Int)) w .i64 (by omega)
    rw [← Int.natCast_ediv, Nat.div_div_eq_div_mul, ← Nat.pow_add, ← hw1] at hshr
    have ap := append_i64 (h := h) (l := [.log ((out ++ valsN w (rnum (b.drop p)) i).map iV) 1 3 .rw]) (k := 0) (t := 3) (valAt w (rnum (b.drop p)) i) rfl (by rw [List.length_append, valsN_len]; unfold mostLen; omega)
    simp only [Nat.add_zero, List.set_cons_zero, List.append_assoc, ← valsN_succ] at ap
    unfold s18_L1
    simp only [nth_zero, nth_one, nth_two, nth_three, nth_four, nth_five, nth_six, nth_seven, nth_eight, bin_gtr, hgt, decide_true, Option.bind_some, KL_def, if_bool, if_true]
    rw [unL0 hb hl h1 h2 hp hiw _ _ _ _ (by omega)]
    simp only [nth_zero, nth_one, nth_two, nth_three, nth_four, nth_five, nth_six, bin_lss, hlt, decide_false, Bool.false_eq_true, if_false, Option.bind_some, c38 h1 h2, hv, fill_int, all_one, pure1, guard_true, chunk_one, fork_def, ap, hshr, bin_sub, hsub, hsub1, if_bool]
    rw [trim_len _ (by simp)]
    rfl
  · have hiw := hmany M (by omega)
    unfold s18_L1
    simp only [nth_zero, nth_one, nth_two, nth_three, nth_four, nth_five, nth_six, nth_seven, nth_eight, bin_gtr, decide_eq_true_eq, Option.bind_some, KL_def, if_bool]
    by_cases hg : ((size - M : Nat) : Int) > 0
    · rw [if_pos hg, unL0 hb hl h1 h2 hp hiw _ _ _ _ (by omega)]
      have hlast : 8 * (b.length - p) < (M + 1) * w := by
        have : ¬ (M + 1 ≤ 8 * (b.length - p) / w) := by omega
        rw [Nat.le_div_iff_mul_le h1] at this
        omega
      have hw1 : (M + 1) * w = M * w + w := by rw [Nat.add_mul, Nat.one_mul]
      have e1 : cB (b.length - p) w (M + 1) = b.length - p := by unfold cB; omega
      have hsz : (M + 1) * w ≤ size * w := Nat.mul_le_mul_right _ (by omega)
      have e2 : cB (b.length - p) w size = b.length - p := by unfold cB; omega
      have hlt : (((8 * (b.length - p) - M * w : Nat) : Int) < (w : Int)) = True := eq_true (by omega)
      simp only [nth_zero, nth_one, nth_two, nth_three, nth_four, nth_five, nth_six, bin_lss, e1, hlt, decide_true, if_true, Option.bind_some, if_bool]
      rw [e2] at hj
      exact hj _ _ _ _
    · rw [if_neg hg]
      have e : M = size := by omega
      have := hj (if M = 0 then z1 else .junk) (if M = 0 then z2 else .junk) (if M = 0 then z3 else .junk) (if M = 0 then z4 else .junk)
      rw [← e] at this
      exact this

/-- What the blocks of b hold from byte u on. -/
def unb (b : List Nat) (bits m : Nat) : Nat → Nat → List Int → List Int × Nat × Bool
  | 0, u, out => (out, u, false)
  | F + 1, u, out =>
    if out.length < m ∧ u < b.length then
      if b.getD u 0 < 1 ∨ bits < b.getD u 0 then (out, u, true)
      else unb b bits m F (u + 1 + cB (b.length - (u + 1)) (b.getD u 0) (min 256 (m - out.length))) (out ++ valsN (b.getD u 0) (rnum (b.drop (u + 1))) (min (min 256 (m - out.length)) (8 * (b.length - (u + 1)) / b.getD u 0)))
    else (out, u, false)

theorem unL2 {b : List Nat} (hb : ∀ x ∈ b, x < 256) (hl : b.length ≤ 400000) {bits m : Nat} (hbits : bits ≤ 16) (hm : m ≤ 4096) (h h0 : PHeap) (j : List PV → PHeap → Pt) (n : Nat) (hn : 256 < n) (E : Pt)
    (herr : ∀ l : List Int, finP [.flat 1, .keep, .keep, .keep] h0 (h ++ [.log (l.map iV) 1 3 .rw]) [.nilS, .int .i64 0, .int .i64 0, .int .i64 9] = E) :
    ∀ (F u : Nat) (out : List Int), b.length - u < F → u ≤ b.length → out.length ≤ m → ∀ z3 z4 z5 z6 z7 z8 z9 z10 z11 z12 z13 : PV,
    loopP (s18_L2 Γ0 n (u8s b) (.int .i64 (bits : Int)) (.int .i64 (m : Int)) h0 (h ++ [.log [] 1 3 .rw]) j) F [.int .i64 (u : Int), .ref h.length 0 out.length out.length 1, z3, z4, z5, z6, z7, z8, z9, z10, z11, z12, z13] (h ++ [.log (out.map iV) 1 3 .rw]) =
      if (unb b bits m F u out).2.2 = true then E else j [.int .i64 ((unb b bits m F u out).2.1 : Int), .ref h.length 0 (unb b bits m F u out).1.length (unb b bits m F u out).1.length 1] (h ++ [.log ((unb b bits m F u out).1.map iV) 1 3 .rw])
  | 0, u, out, hF, _, _, _, _, _, _, _, _, _, _, _, _, _ => by omega
  | F + 1, u, out, hF, hu, ho, z3, z4, z5, z6, z7, z8, z9, z10, z11, z12, z13 => by
    rw [loopP_succ]
    generalize hK : loopP (s18_L2 Γ0 n (u8s b) (.int .i64 (bits : Int)) (.int .i64 (m : Int)) h0 (h ++ [.log [] 1 3 .rw]) j) F = K
    rw [show unb b bits m (F + 1) u out = if out.length < m ∧ u < b.length then
      if b.getD u 0 < 1 ∨ bits < b.getD u 0 then (out, u, true)
      else unb b bits m F (u + 1 + cB (b.length - (u + 1)) (b.getD u 0) (min 256 (m - out.length))) (out ++ valsN (b.getD u 0) (rnum (b.drop (u + 1))) (min (min 256 (m - out.length)) (8 * (b.length - (u + 1)) / b.getD u 0)))
    else (out, u, false) from rfl]
    by_cases hc : out.length < m ∧ u < b.length
    · rw [if_pos hc]
      obtain ⟨hc1, hc2⟩ := hc
      obtain ⟨a, ha⟩ := lt_len hc2
      have ha256 := hb a (List.mem_of_getElem? ha)
      rw [getD_nat ha]
      have hlt1 : ((out.length : Int) < (m : Int)) = True := eq_true (by omega)
      have hlt2 : ((u : Int) < (b.length : Int)) = True := eq_true (by omega)
      unfold s18_L2
      simp only [nth_zero, nth_one, len_ref, len_u8s, bin_lss, hlt1, hlt2, decide_true, Option.bind_some, K1_def, KL_def, sc_and, sc_or, if_bool, if_true, idx_u8s _ ha, load_u8V, conv_u8 a ha256, bin_add, bin_gtr, succ64 (show u < 4294967297 by omega)]
      by_cases hw1 : a < 1
      · have k1 : ((a : Int) < 1) = True := eq_true (by omega)
        simp only [k1, decide_true, Bool.true_eq_false, if_false, if_true, hw1, true_or, herr]
      · have k1 : ((a : Int) < 1) = False := eq_false (by omega)
        by_cases hw2 : bits < a
        · have k2 : ((a : Int) > (bits : Int)) = True := eq_true (by omega)
          simp only [k1, k2, decide_true, decide_false, if_true, hw1, hw2, or_true, herr]
        · have k2 : ((a : Int) > (bits : Int)) = False := eq_false (by omega)
          have hsub : IntKind.i64.wrap ((m : Int) - (out.length : Int)) = ((m - out.length : Nat) : Int) := by rw [wrap64 (by unfold isI64; omega)]; omega
          have hmin : min (256 : Int) ((m - out.length : Nat) : Int) = ((min 256 (m - out.length) : Nat) : Int) := by omega
          have hcR := cB_le (b.length - (u + 1)) a (min 256 (m - out.length))
          simp only [k1, k2, decide_false, if_true, Bool.false_eq_true, if_false, hw1, hw2, or_self, nth_zero, nth_one, len_ref, Option.bind_some, bin_sub, hsub, fold1_two, min2_i, hmin]
          refine unL1 hb hl (by omega) (by omega) (show u + 1 ≤ b.length by omega) (by omega) out (by omega) h _ n n (by omega) hn _ _ _ _ _ fun y1 y2 y3 y4 => ?_
          simp only [nth_zero, nth_one, nth_two, nth_three, nth_four, nth_five, nth_six, nth_seven, nth_eight]
          rw [trim_len _ (by simp)]
          have ih := unL2 hb hl hbits hm h h0 j n hn E herr F (u + 1 + cB (b.length - (u + 1)) a (min 256 (m - out.length))) (out ++ valsN a (rnum (b.drop (u + 1))) (min (min 256 (m - out.length)) (8 * (b.length - (u + 1)) / a))) (by omega) (by omega) (by rw [List.length_append, valsN_len]; omega)
          rw [← hK]
          exact ih _ _ _ _ _ _ _ _ _ _ _
    · rw [if_neg hc]
      unfold s18_L2
      simp only [nth_zero, nth_one, len_ref, len_u8s, bin_lss, Option.bind_some, K1_def, KL_def, sc_and, if_bool, decide_eq_true_eq, Bool.false_eq_true, if_false]
      by_cases hc1 : (out.length : Int) < (m : Int)
      · have hc2 : ¬ ((u : Int) < (b.length : Int)) := by omega
        rw [if_pos hc1, if_neg hc2]
      · rw [if_neg hc1]
end Go.Vm.X
