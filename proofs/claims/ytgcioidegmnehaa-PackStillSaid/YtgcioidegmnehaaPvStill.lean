/- Packing: Unnibbles of the program, and the law PackStill. -/
import Derived.Test.YtgcioidegmnehaaPvNib
set_option linter.unusedSimpArgs false
set_option linter.unusedVariables false
namespace Go.Vm.X
open Go.Am Go.Vm
attribute [local congr] bind_congr1 ifP_congr1 scP_congr1 ite_congr1 loop_congr1

theorem and15_u8 (a : Nat) (ha : a < 256) : binP .and (.int .u8 (a : Int)) (.int .u8 15) = some (.int .u8 ((a % 16 : Nat) : Int)) := by
  have e1 : (BitVec.ofInt 8 (a : Int)).toNat = a := by rw [BitVec.toNat_ofInt, Int.emod_eq_of_lt (by omega) (by omega)]; omega
  rw [bin_and, BitVec.toNat_and]
  have e2 : (BitVec.ofInt IntKind.u8.bits 15).toNat = 2 ^ 4 - 1 := rfl
  rw [e2, show (BitVec.ofInt IntKind.u8.bits (a : Int)).toNat = a from e1, Nat.and_two_pow_sub_one_eq_mod, wrap8]
  congr 2
  omega
def unN (b : List Nat) (i : Nat) : Nat := b.getD (i / 2) 0 / 2 ^ (4 * (i % 2)) % 16
def unT (b : List Nat) (t : List Int) (k : Nat) : List Int := (List.range k).map fun i => t.getD (unN b i) 0
theorem unT_succ (b : List Nat) (t : List Int) (k : Nat) : unT b t (k + 1) = unT b t k ++ [t.getD (unN b k) 0] := by unfold unT; rw [List.range_succ, List.map_append]; rfl
theorem unT_len (b : List Nat) (t : List Int) (k : Nat) : (unT b t k).length = k := by simp [unT]
/-- What Unnibbles says. -/
def unnE (b : List Nat) (t : List Int) (n : Int) : Int := if isTab t then askd b n else 1
def unnM (b : List Nat) (n : Int) : Nat := min n.toNat (2 * b.length)
def unnR (b : List Nat) (t : List Int) (n : Int) : PV :=
  if unnE b t n = 0 then .tuple [ints (padL (sums 8 (unT b t (unnM b n))) n.toNat), .int .i64 ((n.toNat - unnM b n : Nat) : Int), .int .i64 0]
  else .tuple [ints [], .int .i64 0, .int .i64 (unnE b t n)]
theorem unT_small {b : List Nat} {t : List Int} (ht : t.length = 16) (htr : ∀ x ∈ t, -128 ≤ x ∧ x ≤ 127) (k : Nat) : Small (unT b t k) := fun x hx => by
  unfold unT at hx
  obtain ⟨i, _, rfl⟩ := List.mem_map.1 hx
  obtain ⟨d, hd⟩ := lt_len (show unN b i < t.length by unfold unN; omega)
  rw [getD_of hd]
  have := htr d (List.mem_of_getElem? hd)
  omega
theorem c14 {b : List Nat} (hb : ∀ x ∈ b, x < 256) {t : List Int} (htm : t.length < 9223372036854775808) (n : Int) (h : PHeap) : Γ0 14 [u8s b, ints t, .int .i64 n] h = some (unnR b t n, h) := by
  obtain ⟨N, hN⟩ : ∃ N : Nat, 5000 ≤ N := ⟨5000, Nat.le_refl _⟩
  refine gbody (F := A14) (by kernel_rfl) N ?_
  rw [s14_eq]
  unfold s14 unnR unnE
  simp only [c37 htm, bS, un_not, ↓KLn, ↓K1n, if_bool]
  cases hT : isTab t with
  | false =>
    simp only [Bool.not_false, if_true, Bool.false_eq_true, if_false, show ((1 : Int) = 0) = False from eq_false (by decide), fin_3e]
  | true =>
    obtain ⟨ht, htr⟩ := isTab_get hT
    have h8r : right 8 = true := rfl
    simp only [Bool.not_true, Bool.false_eq_true, if_false, if_true, c39, h8r, bS, bin_neq, ne0, ↓KLn, if_bool]
    by_cases ha : askd b n = 0
    · obtain ⟨hlen, m, rfl, hm⟩ := askd_zero ha
      rw [if_neg (fun q => q ha), if_pos ha]
      have hmul : IntKind.i64.wrap (2 * (b.length : Int)) = ((2 * b.length : Nat) : Int) := by rw [wrap64 (by unfold isI64; omega)]; omega
      have hMd : unnM b (m : Int) = min m (2 * b.length) := by unfold unnM; rw [Int.toNat_natCast]
      simp only [fork_def, len_u8s, bS, bin_mul, hmul, fold1_two, min2_i, min_nat, ↓KLn, hMd, Int.toNat_natCast]
      generalize hM : min m (2 * b.length) = M
      have hMm : M ≤ m := by omega
      refine loop_run (fun i => [.ref h.length 0 (unT b t i).length (unT b t i).length 1, .int .i64 (i : Int)]) (fun i => h ++ [.log ((unT b t i).map iV) 1 3 .rw]) M (by omega) rfl rfl (fun i hi K => ?_) fun K => ?_
      · obtain ⟨a, ha2⟩ := lt_len (show i / 2 < b.length by omega)
        have ha256 := hb a (List.mem_of_getElem? ha2)
        have hun : unN b i = a / 2 ^ (4 * (i % 2)) % 16 := by unfold unN; rw [getD_nat ha2]
        obtain ⟨d, hd⟩ := lt_len (show a / 2 ^ (4 * (i % 2)) % 16 < t.length by omega)
        have hmod := Nat.mod_lt i (show 0 < 2 by decide)
        have q2 : binP .quo (.int .i64 (i : Int)) (.int .i64 2) = some (.int .i64 ((i / 2 : Nat) : Int)) := quo_nat i 2 (by decide) (by omega)
        have r2 : binP .rem (.int .i64 (i : Int)) (.int .i64 2) = some (.int .i64 ((i % 2 : Nat) : Int)) := rem_nat i 2 (by decide)
        have hm4 : IntKind.i64.wrap (4 * ((i % 2 : Nat) : Int)) = ((4 * (i % 2) : Nat) : Int) := by rw [wrap64 (by unfold isI64; omega)]; omega
        have hsh := shr_u8 a (4 * (i % 2)) (by omega) ha256
        have han := and15_u8 (a / 2 ^ (4 * (i % 2))) (Nat.lt_of_le_of_lt (Nat.div_le_self _ _) ha256)
        have ap := append_i64 (h := h) (l := [.log ((unT b t i).map iV) 1 3 .rw]) (k := 0) (t := 3) d rfl (by rw [unT_len]; unfold mostLen; omega)
        have hds : unT b t i ++ [d] = unT b t (i + 1) := by rw [unT_succ, hun, getD_of hd]
        simp only [Nat.add_zero, List.set_cons_zero, hds] at ap
        unfold s14_L0
        simp only [nth_zero, nth_one, bin_lss, ltT hi, decide_true, bS, ↓KLn, ↓K1n, if_bool, if_true, q2, idx_u8s _ ha2, load_u8V, r2, bin_mul, hm4, hsh, han, idx_ints _ hd, load_iV, fill_int, all_one, pure1, guard_true, chunk_one, fork_def, ap, bin_add, succ64 (show i < 4294967297 by omega)]
        rw [trim_len _ (by simp)]
      · unfold s14_L0
        have e := fz_logI (h := h) (l := [.log ((unT b t M).map iV) 1 3 .rw]) (k := 0) (s := 1) (unT b t M).length rfl rfl
        simp only [Nat.add_zero] at e
        have k41 := fun H => c41 (b := 8) (by decide) (by decide) (unT_small (b := b) ht htr M) (show (unT b t M).length < 4294967296 by rw [unT_len]; omega) H
        have h8 : ((8 : Nat) : Int) = 8 := rfl
        simp only [h8] at k41
        have k40 := fun H => c40 (l := sums 8 (unT b t M)) (show (sums 8 (unT b t M)).length < 4294967296 by rw [sums_len, unT_len]; omega) hm H
        simp only [sums_len, unT_len] at k40
        simp only [nth_zero, nth_one, bin_lss, ltF, decide_false, bS, ↓KLn, ↓K1n, if_bool, Bool.false_eq_true, if_false]
        rw [e]
        simp only [bS, k41, k40, y20, y21, fin_3]
    · rw [if_pos ha, if_neg ha, fin_3e]

/-! ### Plain -/
theorem far_nonneg (p x d : Int) : 0 ≤ far p x d := by unfold far; omega
theorem best_inv (p x : Int) (t : List Int) : ∀ k, (∀ j, j < k → (bestN p x t k).2 ≤ far p x (t.getD j 0)) ∧ ((bestN p x t k).2 = 1073741824 ∨ (bestN p x t k).2 = far p x (t.getD (bestN p x t k).1 0))
  | 0 => ⟨fun j h => by omega, .inl rfl⟩
  | k + 1 => by
    obtain ⟨h1, h2⟩ := best_inv p x t k
    unfold bestN
    split
    · rename_i hlt
      refine ⟨fun j hj => ?_, .inr rfl⟩
      by_cases e : j = k
      · subst e; exact Int.le_refl _
      · have := h1 j (by omega)
        show far p x (t.getD k 0) ≤ _
        omega
    · rename_i hlt
      refine ⟨fun j hj => ?_, h2⟩
      by_cases e : j = k
      · subst e; omega
      · exact h1 j (by omega)
theorem best_hit {p x : Int} {t : List Int} {j : Nat} (hj : j < 16) (h : wrapB 8 (p + t.getD j 0) = x) : wrapB 8 (p + t.getD (bestN p x t 16).1 0) = x := by
  obtain ⟨h1, h2⟩ := best_inv p x t 16
  have h3 := h1 j hj
  have h0 : far p x (t.getD j 0) = 0 := by unfold far; omega
  have h4 := far_nonneg p x (t.getD (bestN p x t 16).1 0)
  rcases h2 with h2 | h2
  · omega
  · have h5 : far p x (t.getD (bestN p x t 16).1 0) ≤ 0 := by omega
    unfold far at h5
    omega
def posL (t l : List Int) : List Int := (List.range l.length).map fun i => pos t l (i + 1)
theorem posL_len (t l : List Int) : (posL t l).length = l.length := by simp [posL]
theorem posL_get {t l : List Int} {i : Nat} (h : i < l.length) : (posL t l).getD i 0 = pos t l (i + 1) := getD_of (by unfold posL; rw [List.getElem?_map, List.getElem?_range h]; rfl)
theorem posL_in (t l : List Int) : (posL t l).all (inR 8) = true := List.all_eq_true.2 fun x hx => by
  unfold posL at hx
  obtain ⟨i, _, rfl⟩ := List.mem_map.1 hx
  exact wrapB_range _ _
theorem posL_of {t l : List Int} {x : List Int} (hx : x.length = l.length) (h : ∀ i, i < l.length → pos t l (i + 1) = x.getD i 0) : posL t l = x := by
  have : posL t l = (List.range x.length).map fun i => x.getD i 0 := by
    unfold posL
    rw [hx]
    exact List.map_congr_left fun i hi => h i (List.mem_range.1 hi)
  rw [this, map_getD]
theorem pos_again (t l : List Int) : ∀ i, i ≤ l.length → pos t (posL t l) i = pos t l i
  | 0, _ => rfl
  | i + 1, hi => by
    have ih := pos_again t l i (by omega)
    show wrapB 8 (pos t (posL t l) i + t.getD (bestN (pos t (posL t l) i) ((posL t l).getD i 0) t 16).1 0) = pos t l (i + 1)
    rw [ih, posL_get (by omega)]
    exact best_hit (j := nib t l i) (nib_lt t l i) rfl
theorem posL_again (t l : List Int) : posL t (posL t l) = posL t l := posL_of rfl fun i hi => by
  rw [posL_len] at hi
  rw [pos_again t l (i + 1) (by omega), posL_get hi]
theorem unN_nibs {t l : List Int} {i : Nat} (hi : i < l.length) : unN (nibs (nib t l) ((l.length + 1) / 2) l.length) i = nib t l i := by
  have h1 := nib_lt t l
  unfold unN
  rw [getD_nat (nibs_get (by omega))]
  unfold nibB
  rcases Nat.mod_two_eq_zero_or_one i with e | e
  · have e2 : 2 * (i / 2) = i := by omega
    have := h1 i
    rw [e2, e, if_pos hi]
    simp only [Nat.mul_zero, Nat.pow_zero, Nat.div_one]
    omega
  · have e2 : 2 * (i / 2) + 1 = i := by omega
    have e3 : 2 * (i / 2) = i - 1 := by omega
    have := h1 i
    have := h1 (i - 1)
    rw [e2, e3, e, if_pos hi, if_pos (by omega)]
    have : 2 ^ (4 * 1) = 16 := rfl
    omega
theorem sum_pos (t l : List Int) : ∀ i, i ≤ l.length → sumAt 8 (unT (nibs (nib t l) ((l.length + 1) / 2) l.length) t l.length) i = pos t l i
  | 0, _ => rfl
  | i + 1, hi => by
    show wrapB 8 (sumAt 8 _ i + (unT _ t l.length).getD i 0) = wrapB 8 (pos t l i + t.getD (nib t l i) 0)
    rw [sum_pos t l i (by omega)]
    congr 2
    refine getD_of ?_
    unfold unT
    rw [List.getElem?_map, List.getElem?_range (by omega)]
    show some (t.getD (unN _ i) 0) = _
    rw [unN_nibs (by omega)]
theorem sums_pos (t l : List Int) : sums 8 (unT (nibs (nib t l) ((l.length + 1) / 2) l.length) t l.length) = posL t l := by
  unfold sums posL
  rw [unT_len]
  exact List.map_congr_left fun i hi => sum_pos t l (i + 1) (by have := List.mem_range.1 hi; omega)
theorem nibE_zero {l t : List Int} (h : nibE l t = 0) : l.any badB = false ∧ isTab t = true ∧ l.length ≤ 4096 := by
  unfold nibE at h
  split at h
  · exact absurd h (by decide)
  · rename_i hc
    obtain ⟨_, _, _, _, h4⟩ := chk_zero h
    cases h1 : l.any badB <;> cases h2 : isTab t <;> simp [h1, h2] at hc ⊢
    exact h4
/-- Unnibbles of Nibbles. -/
theorem unn_back {l t : List Int} (h : nibE l t = 0) : unnR (nibO l t) t (l.length : Int) = .tuple [ints (posL t l), .int .i64 0, .int .i64 0] := by
  obtain ⟨h1, h2, h3⟩ := nibE_zero h
  have hO : nibO l t = nibs (nib t l) ((l.length + 1) / 2) l.length := by unfold nibO; rw [if_pos h]
  rw [hO]
  have hE : unnE (nibs (nib t l) ((l.length + 1) / 2) l.length) t (l.length : Int) = 0 := by unfold unnE; rw [if_pos h2, askd_ok (by rw [nibs_len]; omega) h3]
  have hM : unnM (nibs (nib t l) ((l.length + 1) / 2) l.length) (l.length : Int) = l.length := by unfold unnM; rw [Int.toNat_natCast, nibs_len]; omega
  unfold unnR
  rw [if_pos hE, hM, sums_pos, Int.toNat_natCast, Nat.sub_self]
  have := padL_all (posL t l)
  rw [posL_len, List.take_of_length_le (by rw [posL_len]; exact Nat.le_refl _)] at this
  rw [this]
  rfl
theorem nibE_again {l t : List Int} (h : nibE l t = 0) : nibE (posL t l) t = 0 := by
  obtain ⟨h1, h2, h3⟩ := nibE_zero h
  have hb : (posL t l).any badB = false := List.any_eq_false.2 fun x hx => by
    have := in8 (List.all_eq_true.1 (posL_in t l) x hx)
    unfold badB
    simp only [Bool.or_eq_true, decide_eq_true_eq]
    omega
  have hc : chk (posL t l) 8 = 0 := by
    unfold chk
    rw [if_pos (show right 8 = true from rfl), if_pos (show (posL t l).all (inR (Int.toNat 8)) = true from posL_in t l), if_neg (by rw [posL_len]; omega)]
  unfold nibE
  rw [hb, h2, hc]
  rfl
theorem nibO_256 (l t : List Int) : ∀ x ∈ nibO l t, x < 256 := fun x hx => by
  unfold nibO at hx
  split at hx
  · unfold nibs at hx
    obtain ⟨i, _, rfl⟩ := List.mem_map.1 hx
    exact nibB_lt (nib_lt t l) _ _
  · cases hx
/-- Whether all differences are in the table. -/
def hasD (t : List Int) (d : Int) : Nat → Bool
  | 0 => false
  | k + 1 => hasD t d k || ((t.getD k 0 - d).tmod 256 == 0)
def allF (t l : List Int) : Nat → Bool
  | 0 => true
  | i + 1 => allF t l i && hasD t (l.getD i 0 - prevOf l i) 16
theorem hasD_ex {t : List Int} {d : Int} : ∀ k, hasD t d k = true → ∃ j, j < k ∧ (t.getD j 0 - d).tmod 256 = 0
  | 0, h => by cases h
  | k + 1, h => by
    unfold hasD at h
    rw [Bool.or_eq_true, beq_iff_eq] at h
    rcases h with h | h
    · obtain ⟨j, h1, h2⟩ := hasD_ex k h
      exact ⟨j, by omega, h2⟩
    · exact ⟨k, by omega, h⟩
theorem all_pos {t l : List Int} (hl : ∀ x ∈ l, -128 ≤ x ∧ x ≤ 127) : ∀ i, i ≤ l.length → allF t l i = true → pos t l i = prevOf l i
  | 0, _, _ => rfl
  | i + 1, hi, h => by
    unfold allF at h
    rw [Bool.and_eq_true] at h
    have ih := all_pos hl i (by omega) h.1
    obtain ⟨j, hj, he⟩ := hasD_ex 16 h.2
    obtain ⟨a, ha⟩ := lt_len (show i < l.length by omega)
    have har := hl a (List.mem_of_getElem? ha)
    rw [getD_of ha] at he
    show wrapB 8 (pos t l i + t.getD (bestN (pos t l i) (l.getD i 0) t 16).1 0) = l.getD i 0
    rw [ih, getD_of ha]
    refine best_hit hj ?_
    have hd := Int.dvd_of_tmod_eq_zero he
    obtain ⟨c, hc⟩ := hd
    have e : prevOf l i + t.getD j 0 = a + 256 * c := by omega
    have hin : inR 8 a = true := by
      have e : half 8 = 128 := rfl
      unfold inR
      rw [e, Bool.and_eq_true, decide_eq_true_eq, decide_eq_true_eq]
      omega
    rw [e]
    rw [← wrapB_self hin]
    have e2 : half 8 = 128 := rfl
    unfold wrapB
    rw [e2]
    omega
end Go.Vm.X
