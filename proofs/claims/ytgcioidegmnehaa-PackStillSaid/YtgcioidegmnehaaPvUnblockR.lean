/- Packing: Undone, the loops of the reference. -/
import Derived.Test.YtgcioidegmnehaaPvUnblock
set_option linter.unusedSimpArgs false
set_option linter.unusedVariables false
namespace Go.Vm.X
open Go.Am Go.Vm

theorem shr_u8 (a k : Nat) (hk : k < 8) (ha : a < 256) : binP .shr (.int .u8 (a : Int)) (.int .i64 (k : Int)) = some (.int .u8 ((a / 2 ^ k : Nat) : Int)) := by
  rw [bin_shr _ _ _ _ (by omega), Int.toNat_natCast, show min k IntKind.u8.bits = k by show min k 8 = k; omega]
  congr 2
  rw [Int.fdiv_eq_ediv_of_nonneg _ (by have := Nat.two_pow_pos k; have h2 : (2 : Int) ^ k = ((2 ^ k : Nat) : Int) := by simp
                                       omega)]
  simp
theorem and1_u8 (a : Nat) (ha : a < 256) : binP .and (.int .u8 (a : Int)) (.int .u8 1) = some (.int .u8 ((a % 2 : Nat) : Int)) := by
  have e1 : (BitVec.ofInt 8 (a : Int)).toNat = a := by rw [BitVec.toNat_ofInt, Int.emod_eq_of_lt (by omega) (by omega)]; omega
  rw [bin_and, BitVec.toNat_and]
  have e2 : (BitVec.ofInt IntKind.u8.bits 1).toNat = 1 := rfl
  rw [e2, show (BitVec.ofInt IntKind.u8.bits (a : Int)).toNat = a from e1, Nat.and_one_is_mod, wrap8]
  congr 2
  omega
theorem bit_div (a k : Nat) : a / 2 ^ k % 2 = if a.testBit k then 1 else 0 := by
  rw [Nat.testBit_eq_decide_div_mod_eq]
  have := Nat.mod_lt (a / 2 ^ k) (show 2 > 0 by decide)
  by_cases h : a / 2 ^ k % 2 = 1
  · simp [h]
  · have : a / 2 ^ k % 2 = 0 := by omega
    simp [this]

theorem urL0 {b : List Nat} (hb : ∀ x ∈ b, x < 256) (hl : b.length ≤ 400000) {w : Nat} (h1 : 1 ≤ w) (h2 : w ≤ 16) {i : Nat} (hi : (i + 1) * w ≤ 8 * b.length) (x0 : PV) (xs : List PV) (H : PHeap) (j : List PV → PHeap → Pt) (n fuel : Nat) (hf : 20 < fuel) :
    loopP (s46_L0 Γ0 n (.int .i64 (w : Int)) (u8s b) (x0 :: .int .i64 (i : Int) :: xs) H j) fuel [.int .i64 0, .int .i64 0] H = j [.int .i64 ((rnum b / 2 ^ (i * w) % 2 ^ w : Nat) : Int)] H := by
  have hw1 : (i + 1) * w = i * w + w := by rw [Nat.add_mul, Nat.one_mul]
  have hiw : i * w ≤ 3200000 := by omega
  have hii : i ≤ i * w := Nat.le_mul_of_pos_right _ (by omega)
  refine loop_pure (fun k => [.int .i64 ((rnum b / 2 ^ (i * w) % 2 ^ k : Nat) : Int), .int .i64 (k : Int)]) w (by omega) (by simp [Nat.mod_one]) (fun k hk K => ?_) fun K => ?_
  · obtain ⟨a, ha⟩ := lt_len (show (i * w + k) / 8 < b.length by omega)
    have ha256 := hb a (List.mem_of_getElem? ha)
    have hbit := rnum_bit hb ha
    have hmod := mod_bit_succ (rnum b / 2 ^ (i * w)) k
    rw [div_testBit, hbit] at hmod
    have hmul : IntKind.i64.wrap ((i : Int) * (w : Int)) = ((i * w : Nat) : Int) := by rw [← Int.natCast_mul, wrap64 (by unfold isI64; omega)]
    have hadd : IntKind.i64.wrap (((i * w : Nat) : Int) + (k : Int)) = ((i * w + k : Nat) : Int) := by rw [wrap64 (by unfold isI64; omega)]; omega
    have hq : binP .quo (.int .i64 ((i * w + k : Nat) : Int)) (.int .i64 8) = some (.int .i64 (((i * w + k) / 8 : Nat) : Int)) := quo_nat _ 8 (by decide) (by omega)
    have hr : binP .rem (.int .i64 ((i * w + k : Nat) : Int)) (.int .i64 8) = some (.int .i64 (((i * w + k) % 8 : Nat) : Int)) := rem_nat _ 8 (by decide)
    have hsh := shr_u8 a ((i * w + k) % 8) (by omega) ha256
    have han := and1_u8 (a / 2 ^ ((i * w + k) % 8)) (Nat.lt_of_le_of_lt (Nat.div_le_self _ _) ha256)
    have hcv := conv_u8 (a / 2 ^ ((i * w + k) % 8) % 2) (by omega)
    have hsl := shl_pow ((a / 2 ^ ((i * w + k) % 8) % 2 : Nat) : Int) k .i64 (by omega)
    have h24 := two16 (d := k) (by omega)
    have h24w := two16 (d := w) (by omega)
    have hlo := Nat.mod_lt (rnum b / 2 ^ (i * w)) (Nat.two_pow_pos k)
    rw [← Int.natCast_mul, bit_div, wrap64 (by
      unfold isI64; split <;> omega), show (if a.testBit ((i * w + k) % 8) = true then 1 else 0) * 2 ^ k = if a.testBit ((i * w + k) % 8) = true then 2 ^ k else 0 by split <;> omega] at hsl
    rw [bit_div] at hcv han
    have hadd2 : IntKind.i64.wrap (((rnum b / 2 ^ (i * w) % 2 ^ k : Nat) : Int) + ((if a.testBit ((i * w + k) % 8) = true then 2 ^ k else 0 : Nat) : Int)) = ((rnum b / 2 ^ (i * w) % 2 ^ (k + 1) : Nat) : Int) := by
      rw [hmod, wrap64 (by unfold isI64; split <;> omega)]; omega
    unfold s46_L0
    simp only [nth_zero, nth_one, bin_lss, ltT hk, decide_true, Option.bind_some, KL_def, if_bool, if_true, bin_mul, hmul, bin_add, hadd, hq, hr, idx_u8s _ ha, load_u8V, hsh, han, hcv, hsl, hadd2, succ64 (show k < 4294967297 by omega), trim_self]
  · unfold s46_L0
    simp only [nth_zero, nth_one, bin_lss, ltF, decide_false, Option.bind_some, KL_def, if_bool, Bool.false_eq_true, if_false]

theorem valAt_mod {w : Nat} (hw : 1 ≤ w) (R i : Nat) : wrapB w ((R / 2 ^ (i * w) % 2 ^ w : Nat) : Int) = valAt w R i := wrapB_mod hw _ _ (Nat.mod_mod _ _)

theorem urL1 {b : List Nat} (hb : ∀ x ∈ b, x < 256) (hl : b.length ≤ 400000) {w : Nat} (h1 : 1 ≤ w) (h2 : w ≤ 16) {many : Nat} (hi : many * w ≤ 8 * b.length) (hmm : many ≤ 256) (out : List Int) (ho : out.length ≤ 4096) (h : PHeap) (x1 : PV) (j : List PV → PHeap → Pt) (n fuel : Nat) (hn : 20 < n) (hf : 256 < fuel) :
    loopP (s46_L1 Γ0 n (.int .i64 (w : Int)) (u8s b) [.int .i64 (many : Int), x1] (h ++ [.log (out.map iV) 1 3 .rw]) j) fuel [.ref h.length 0 out.length out.length 1, .int .i64 0] (h ++ [.log (out.map iV) 1 3 .rw]) =
      j [.ref h.length 0 (out ++ valsN w (rnum b) many).length (out ++ valsN w (rnum b) many).length 1] (h ++ [.log ((out ++ valsN w (rnum b) many).map iV) 1 3 .rw]) := by
  refine loop_run (fun i => [.ref h.length 0 (out ++ valsN w (rnum b) i).length (out ++ valsN w (rnum b) i).length 1, .int .i64 (i : Int)]) (fun i => h ++ [.log ((out ++ valsN w (rnum b) i).map iV) 1 3 .rw]) many (by omega) (by simp [valsN]) (by simp [valsN]) (fun i hi' K => ?_) fun K => ?_
  · have hiw1 : (i + 1) * w ≤ 8 * b.length := Nat.le_trans (Nat.mul_le_mul_right _ hi') hi
    have ap := append_i64 (h := h) (l := [.log ((out ++ valsN w (rnum b) i).map iV) 1 3 .rw]) (k := 0) (t := 3) (valAt w (rnum b) i) rfl (by rw [List.length_append, valsN_len]; unfold mostLen; omega)
    simp only [Nat.add_zero, List.set_cons_zero, List.append_assoc, ← valsN_succ] at ap
    unfold s46_L1
    simp only [nth_zero, nth_one, bin_lss, ltT hi', decide_true, Option.bind_some, KL_def, if_bool, if_true]
    rw [urL0 hb hl h1 h2 hiw1 _ _ _ _ _ _ hn]
    simp only [nth_zero, c43 h1 h2, valAt_mod h1, fill_int, all_one, pure1, guard_true, chunk_one, fork_def, Option.bind_some, ap, bin_add, succ64 (show i < 4294967297 by omega)]
    rw [trim_len _ (by simp)]
  · unfold s46_L1
    simp only [nth_zero, nth_one, bin_lss, ltF, decide_false, Option.bind_some, KL_def, if_bool, Bool.false_eq_true, if_false]

theorem unb_end (b : List Nat) (bits m F : Nat) (out : List Int) : unb b bits m F b.length out = (out, b.length, false) := by
  cases F with
  | zero => rfl
  | succ F => unfold unb; rw [if_neg (by omega)]

/-! Simp, in the order of the run -/
theorem bind_congr1 {α β : Type} {a b : Option α} {f : α → Option β} (h : a = b) : a.bind f = b.bind f := by rw [h]
theorem ifP_congr1 {R : Type} {c d : PV} {a b : Option R} (h : c = d) : ifP c a b = ifP d a b := by rw [h]
theorem scP_congr1 {R : Type} {c d : PV} {t : Bool} {a b : Option R} (h : c = d) : scP c t a b = scP d t a b := by rw [h]
theorem ite_congr1 {α : Sort _} {c d : Prop} [Decidable c] [Decidable d] {a b : α} (h : c = d) : (if c then a else b) = (if d then a else b) := by
  subst h; congr
theorem loop_congr1 {R : Type} {B : (List PV → PHeap → Option R) → List PV → PHeap → Option R} {n : Nat} {v w : List PV} {h k : PHeap} (e1 : v = w) (e2 : h = k) : loopP B n v h = loopP B n w k := by rw [e1, e2]
attribute [local congr] bind_congr1 ifP_congr1 scP_congr1 ite_congr1 loop_congr1
theorem urL2 {b : List Nat} (hb : ∀ x ∈ b, x < 256) (hl : b.length ≤ 400000) {bits m : Nat} (hbits : bits ≤ 16) (hm : m ≤ 4096) (h : PHeap) (j : List PV → PHeap → Pt) (n : Nat) (hn : 256 < n) :
    ∀ (F u : Nat) (out : List Int), b.length - u < F → u ≤ b.length → out.length ≤ m → ∀ z3 z4 z5 z6 z7 z8 z9 : PV,
    loopP (s46_L2 Γ0 n (u8s b) (.int .i64 (bits : Int)) (.int .i64 (m : Int)) (h ++ [.log [] 1 3 .rw]) j) F [.int .i64 (u : Int), .bool false, .ref h.length 0 out.length out.length 1, z3, z4, z5, z6, z7, z8, z9] (h ++ [.log (out.map iV) 1 3 .rw]) =
      j [.int .i64 ((unb b bits m F u out).2.1 : Int), .bool (unb b bits m F u out).2.2, .ref h.length 0 (unb b bits m F u out).1.length (unb b bits m F u out).1.length 1] (h ++ [.log ((unb b bits m F u out).1.map iV) 1 3 .rw])
  | 0, u, out, hF, _, _, _, _, _, _, _, _, _ => by omega
  | F + 1, u, out, hF, hu, ho, z3, z4, z5, z6, z7, z8, z9 => by
    rw [loopP_succ]
    generalize hK : loopP (s46_L2 Γ0 n (u8s b) (.int .i64 (bits : Int)) (.int .i64 (m : Int)) (h ++ [.log [] 1 3 .rw]) j) F = K
    rw [show unb b bits m (F + 1) u out = if out.length < m ∧ u < b.length then
      if b.getD u 0 < 1 ∨ bits < b.getD u 0 then (out, u, true)
      else unb b bits m F (u + 1 + cB (b.length - (u + 1)) (b.getD u 0) (min 256 (m - out.length))) (out ++ valsN (b.getD u 0) (rnum (b.drop (u + 1))) (min (min 256 (m - out.length)) (8 * (b.length - (u + 1)) / b.getD u 0)))
    else (out, u, false) from rfl]
    by_cases hc : out.length < m ∧ u < b.length
    · rw [if_pos hc]
      obtain ⟨hc1, hc2⟩ := hc
      obtain ⟨a, ha⟩ := lt_len hc2
      have ha256 := hb a (List.mem_of_getElem? ha)
      rw [getD_nat ha]
      have hlt1 : ((out.length : Int) < (m : Int)) = True := eq_true (by omega)
      have hlt2 : ((u : Int) < (b.length : Int)) = True := eq_true (by omega)
      unfold s46_L2
      simp only [nth_zero, nth_one, nth_two, len_ref, len_u8s, bin_lss, hlt1, hlt2, decide_true, Option.bind_some, ↓K1_def, ↓KL_def, sc_and, sc_or, if_bool, if_true, idx_u8s _ ha, load_u8V, conv_u8 a ha256, bin_gtr]
      by_cases hw1 : a < 1
      · have k1 : ((a : Int) < 1) = True := eq_true (by omega)
        simp only [k1, decide_true, Bool.true_eq_false, if_false, if_true, hw1, true_or]
      · have k1 : ((a : Int) < 1) = False := eq_false (by omega)
        by_cases hw2 : bits < a
        · have k2 : ((a : Int) > (bits : Int)) = True := eq_true (by omega)
          simp only [k1, k2, decide_true, decide_false, if_true, hw1, hw2, or_true]
        · have k2 : ((a : Int) > (bits : Int)) = False := eq_false (by omega)
          have hsub : IntKind.i64.wrap ((m : Int) - (out.length : Int)) = ((m - out.length : Nat) : Int) := by rw [wrap64 (by unfold isI64; omega)]; omega
          have hmin : min (256 : Int) ((m - out.length : Nat) : Int) = ((min 256 (m - out.length) : Nat) : Int) := by omega
          have hcR := cB_le (b.length - (u + 1)) a (min 256 (m - out.length))
          have hdl : (b.drop (u + 1)).length = b.length - (u + 1) := List.length_drop
          have hd := drop_256 hb (u + 1)
          have ih := urL2 hb hl hbits hm h j n hn F (u + 1 + cB (b.length - (u + 1)) a (min 256 (m - out.length))) (out ++ valsN a (rnum (b.drop (u + 1))) (min (min 256 (m - out.length)) (8 * (b.length - (u + 1)) / a))) (by omega) (by omega) (by rw [List.length_append, valsN_len]; omega)
          have hue := unb_end b bits m F (out ++ valsN a (rnum (b.drop (u + 1))) (min (min 256 (m - out.length)) (8 * (b.length - (u + 1)) / a)))
          have hS : min 256 (m - out.length) ≤ 256 := Nat.min_le_left _ _
          have hSo : out.length + min 256 (m - out.length) ≤ 4096 := by omega
          have hsw : min 256 (m - out.length) * a ≤ 256 * 16 := Nat.mul_le_mul hS (by omega)
          have hdiv : ∀ k, k ≤ 8 * (b.length - (u + 1)) / a ↔ k * a ≤ 8 * (b.length - (u + 1)) := fun k => Nat.le_div_iff_mul_le (by omega)
          have hcB : cB (b.length - (u + 1)) a (min 256 (m - out.length)) = min (b.length - (u + 1)) ((min 256 (m - out.length) * a + 7) / 8) := rfl
          generalize hSd : min 256 (m - out.length) = S at *
          have hmul : IntKind.i64.wrap ((S : Int) * (a : Int)) = ((S * a : Nat) : Int) := by rw [← Int.natCast_mul, wrap64 (by unfold isI64; omega)]
          have hadd7 : IntKind.i64.wrap (((S * a : Nat) : Int) + 7) = ((S * a + 7 : Nat) : Int) := by rw [wrap64 (by unfold isI64; omega)]; omega
          have hq : binP .quo (.int .i64 ((S * a + 7 : Nat) : Int)) (.int .i64 8) = some (.int .i64 (((S * a + 7) / 8 : Nat) : Int)) := quo_nat _ 8 (by decide) (by omega)
          have hsl : sliceP 1 (u8s b) (some (.int .i64 ((u + 1 : Nat) : Int))) none none = some (u8s (b.drop (u + 1))) := slice_lo (by omega)
          simp only [k1, k2, decide_false, if_true, Bool.false_eq_true, if_false, hw1, hw2, or_self, nth_zero, nth_one, nth_two, len_ref, Option.bind_some, bin_sub, hsub, fold1_two, min2_i, hmin, bin_mul, hmul, bin_add, hadd7, hq, succ64 (show u < 4294967297 by omega), hsl, len_u8s, hdl, decide_eq_true_eq, bin_gtr, if_bool, ↓KL_def, ↓K1_def]
          by_cases hcut : (((S * a + 7) / 8 : Nat) : Int) > ((b.length - (u + 1) : Nat) : Int)
          · have hM : min S (8 * (b.length - (u + 1)) / a) = 8 * (b.length - (u + 1)) / a := by
              have := hdiv S
              omega
            have hMlt : 8 * (b.length - (u + 1)) / a < S := by
              have := hdiv S
              omega
            have hmul8 : IntKind.i64.wrap (((b.length - (u + 1) : Nat) : Int) * 8) = ((8 * (b.length - (u + 1)) : Nat) : Int) := by rw [wrap64 (by unfold isI64; omega)]; omega
            have hq2 : binP .quo (.int .i64 ((8 * (b.length - (u + 1)) : Nat) : Int)) (.int .i64 (a : Int)) = some (.int .i64 ((8 * (b.length - (u + 1)) / a : Nat) : Int)) := quo_nat _ a (by omega) (by omega)
            have hltm : (((8 * (b.length - (u + 1)) / a : Nat) : Int) < (S : Int)) = True := eq_true (by omega)
            have h1p : IntKind.i64.wrap (1 + ((b.length - (u + 1) : Nat) : Int)) = ((b.length - u : Nat) : Int) := by rw [wrap64 (by unfold isI64; omega)]; omega
            have h2p : IntKind.i64.wrap ((u : Int) + ((b.length - u : Nat) : Int)) = (b.length : Int) := by rw [wrap64 (by unfold isI64; omega)]; omega
            have hule : u + 1 + cB (b.length - (u + 1)) a S = b.length := by omega
            rw [if_pos hcut, hule, hue]
            simp only [bin_mul, bin_lss, bin_add, bin_sub, fold1_two, min2_i, if_bool, ↓KL_def, ↓K1_def, hmul8, hq2, Option.bind_some, nth_zero, nth_one, nth_two, len_ref, hsub, hmin, hltm, decide_true, if_true, h1p, h2p]
            have hmle := (hdiv _).1 (Nat.le_refl (8 * (b.length - (u + 1)) / a))
            rw [urL1 hd (by omega) (by omega) (by omega) (by omega) (by omega) out (by omega) h _ _ n n (by omega) hn, hM]
            simp only [bin_mul, bin_lss, bin_add, bin_sub, fold1_two, min2_i, if_bool, ↓KL_def, ↓K1_def, Option.bind_some, hltm, decide_true, if_true, h1p, h2p, nth_zero]
          · have hM : min S (8 * (b.length - (u + 1)) / a) = S := by
              have := hdiv S
              omega
            have hltm : ((S : Int) < (S : Int)) = False := eq_false (by omega)
            have h1p : IntKind.i64.wrap (1 + (((S * a + 7) / 8 : Nat) : Int)) = ((1 + (S * a + 7) / 8 : Nat) : Int) := by rw [wrap64 (by unfold isI64; omega)]; omega
            have h2p : IntKind.i64.wrap ((u : Int) + ((1 + (S * a + 7) / 8 : Nat) : Int)) = ((u + 1 + cB (b.length - (u + 1)) a S : Nat) : Int) := by rw [wrap64 (by unfold isI64; omega)]; omega
            rw [if_neg hcut]
            simp only [bin_mul, bin_lss, bin_add, bin_sub, fold1_two, min2_i, if_bool, ↓KL_def, ↓K1_def, Option.bind_some, nth_zero, nth_one, nth_two, len_ref, hsub, hmin, hltm, decide_false, Bool.false_eq_true, if_false, h1p, h2p]
            rw [urL1 hd (by omega) (by omega) (by omega) (by omega) (by omega) out (by omega) h _ _ n n (by omega) hn]
            simp only [bin_mul, bin_lss, bin_add, bin_sub, fold1_two, min2_i, if_bool, ↓KL_def, ↓K1_def, Option.bind_some, hltm, decide_false, Bool.false_eq_true, if_false, h1p, h2p, nth_zero, nth_one, nth_two, nth_three, nth_four, nth_five]
            rw [trim_len _ (by simp), ← hK]
            rw [hM] at ih ⊢
            exact ih _ _ _ _ _ _ _
    · rw [if_neg hc]
      unfold s46_L2
      simp only [nth_zero, nth_one, nth_two, len_ref, len_u8s, bin_lss, Option.bind_some, ↓K1_def, ↓KL_def, sc_and, if_bool, decide_eq_true_eq, Bool.false_eq_true, if_false]
      by_cases hc1 : (out.length : Int) < (m : Int)
      · have hc2 : ¬ ((u : Int) < (b.length : Int)) := by omega
        rw [if_pos hc1, if_neg hc2]
      · rw [if_neg hc1]
end Go.Vm.X
