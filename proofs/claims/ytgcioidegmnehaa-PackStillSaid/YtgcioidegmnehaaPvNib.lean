/- Packing: Nibbles and Unnibbles of the program. -/
import Derived.Test.YtgcioidegmnehaaPvLaw6
set_option linter.unusedSimpArgs false
set_option linter.unusedVariables false
namespace Go.Vm.X
open Go.Am Go.Vm
attribute [local congr] bind_congr1 ifP_congr1 scP_congr1 ite_congr1 loop_congr1

def badB (x : Int) : Bool := decide (x < -128) || decide (x > 127)
theorem c36 (x : Int) (h : PHeap) : Γ0 36 [.int .i64 x] h = some (.bool (badB x), h) := by
  refine gbody (F := A36) (by kernel_rfl) 1 ?_
  rw [s36_eq]
  unfold s36 badB
  simp only [bin_lss, bin_gtr, bS, ↓K1n, sc_or]
  by_cases h1 : x < -128
  · simp only [h1, decide_true, Bool.true_eq_false, if_false, fin_bool0, Bool.true_or]
  · simp only [h1, decide_false, if_true, bS, fin_bool0, Bool.false_or]
theorem c59 (x : Int) (h : PHeap) : Γ0 59 [.int .i64 x] h = some (.bool (badB x), h) := by
  refine gbody (F := A59) (by kernel_rfl) 1 ?_
  rw [s59_eq]
  unfold s59 badB
  simp only [bin_lss, bin_gtr, bS, ↓K1n, sc_or]
  by_cases h1 : x < -128
  · simp only [h1, decide_true, Bool.true_eq_false, if_false, fin_bool0, Bool.true_or]
  · simp only [h1, decide_false, if_true, bS, fin_bool0, Bool.false_or]
def isTab (t : List Int) : Bool := decide (t.length = 16) && !t.any badB
theorem c37 {t : List Int} (hm : t.length < 9223372036854775808) (h : PHeap) : Γ0 37 [ints t] h = some (.bool (isTab t), h) := by
  refine gbody (F := A37) (by kernel_rfl) 1 ?_
  rw [s37_eq]
  unfold s37 isTab
  have k35 := c35 (f := .func 59 [] []) (p := badB) (h := h) hm fun x => by rw [callV_func Γ0 59]; exact c59 x h
  simp only [len_ints, bin_eql, bS, ↓K1n, sc_and]
  by_cases h1 : t.length = 16
  · have e : ((t.length : Int) == 16) = true := by rw [beq_iff_eq]; omega
    have hd : decide (t.length = 16) = true := decide_eq_true h1
    simp only [e, if_true, k35, bS, un_not, fin_bool0, hd, Bool.true_and]
  · have e : ((t.length : Int) == 16) = false := by rw [beq_eq_false_iff_ne]; omega
    have hd : decide (t.length = 16) = false := decide_eq_false h1
    simp only [e, Bool.false_eq_true, if_false, fin_bool0, hd, Bool.false_and]
theorem isTab_get {t : List Int} (h : isTab t = true) : t.length = 16 ∧ ∀ x ∈ t, -128 ≤ x ∧ x ≤ 127 := by
  unfold isTab at h
  rw [Bool.and_eq_true, decide_eq_true_eq] at h
  refine ⟨h.1, fun x hx => ?_⟩
  have h2 : t.any badB = false := by have := h.2; revert this; cases t.any badB <;> simp
  have := List.any_eq_false.1 h2 x hx
  unfold badB at this
  simp only [Bool.or_eq_true, decide_eq_true_eq] at this
  omega

/-- How far a place from x is, when d is added to p. -/
def far (p x d : Int) : Int := max (wrapB 8 (p + d) - x) (0 - (wrapB 8 (p + d) - x))
def bestN (p x : Int) (t : List Int) : Nat → Nat × Int
  | 0 => (0, 1073741824)
  | k + 1 => if far p x (t.getD k 0) < (bestN p x t k).2 then (k, far p x (t.getD k 0)) else bestN p x t k
theorem bestN_lt (p x : Int) (t : List Int) : ∀ k, (bestN p x t k).1 ≤ k - 1
  | 0 => Nat.le_refl _
  | k + 1 => by
    have := bestN_lt p x t k
    unfold bestN
    split
    · exact Nat.le_refl _
    · omega
def pos (t l : List Int) : Nat → Int
  | 0 => 0
  | i + 1 => wrapB 8 (pos t l i + t.getD (bestN (pos t l i) (l.getD i 0) t 16).1 0)
def nib (t l : List Int) (i : Nat) : Nat := (bestN (pos t l i) (l.getD i 0) t 16).1
theorem nib_lt (t l : List Int) (i : Nat) : nib t l i < 16 := by
  have := bestN_lt (pos t l i) (l.getD i 0) t 16
  unfold nib; omega
theorem in8 {x : Int} (h : inR 8 x = true) : -128 ≤ x ∧ x < 128 := by
  have e : half 8 = 128 := rfl
  unfold inR at h
  rw [e] at h
  simp only [Bool.and_eq_true, decide_eq_true_eq] at h
  exact h
theorem pos_in (t l : List Int) (i : Nat) : -128 ≤ pos t l i ∧ pos t l i < 128 := by
  cases i with
  | zero => show -128 ≤ (0 : Int) ∧ (0 : Int) < 128; omega
  | succ i => exact in8 (wrapB_range _ _)

theorem nibL0 {t l : List Int} (ht : t.length = 16) (htr : ∀ x ∈ t, -128 ≤ x ∧ x ≤ 127) {p x : Int} (hp : -128 ≤ p ∧ p < 128) (hx : -128 ≤ x ∧ x ≤ 127) (w : PV) (H : PHeap) (j : List PV → PHeap → Pt) (n fuel : Nat) (hf : 16 < fuel) :
    loopP (s13_L0 Γ0 n (ints t) [.int .i64 p, w] H (.int .i64 x) (.int .i64 (t.length : Int)) j) fuel [.int .i64 0, .int .i64 1073741824, .int .i64 0] H = j [.int .i64 ((bestN p x t 16).1 : Int)] H := by
  refine loop_pure (fun k => [.int .i64 ((bestN p x t k).1 : Int), .int .i64 (bestN p x t k).2, .int .i64 (k : Int)]) 16 hf rfl (fun k hk K => ?_) fun K => ?_
  · obtain ⟨d, hd⟩ := lt_len (show k < t.length by omega)
    have hdr := htr d (List.mem_of_getElem? hd)
    have hw := in8 (wrapB_range 8 (p + d))
    have e1 : IntKind.i64.wrap (p + d) = p + d := wrap64 (by unfold isI64; omega)
    have e2 : IntKind.i64.wrap (wrapB 8 (p + d) - x) = wrapB 8 (p + d) - x := wrap64 (by unfold isI64; omega)
    have e3 : IntKind.i64.wrap (0 - (wrapB 8 (p + d) - x)) = 0 - (wrapB 8 (p + d) - x) := wrap64 (by unfold isI64; omega)
    have hb : bestN p x t (k + 1) = if far p x d < (bestN p x t k).2 then (k, far p x d) else bestN p x t k := by
      show (if far p x (t.getD k 0) < (bestN p x t k).2 then (k, far p x (t.getD k 0)) else bestN p x t k) = _
      rw [getD_of hd]
    have hlt : ((k : Int) < (t.length : Int)) = True := eq_true (by omega)
    have hfar : max (wrapB 8 (p + d) - x) (0 - (wrapB 8 (p + d) - x)) = far p x d := rfl
    have h8 : ((8 : Nat) : Int) = 8 := rfl
    have k38 := c38 (b := 8) (by decide) (by decide) (p + d) H
    rw [h8] at k38
    unfold s13_L0
    simp only [nth_zero, nth_one, nth_two, bin_lss, hlt, decide_true, bS, ↓KLn, ↓K1n, if_bool, if_true, idx_ints _ hd, load_iV, bin_add, e1, k38, bin_sub, e2, un_neg, e3, fold1_two, max2_i, hfar, hb, decide_eq_true_eq, trim_self, succ64 (show k < 4294967297 by omega)]
    by_cases hc : far p x d < (bestN p x t k).2
    · simp only [hc, if_true, nth_zero, nth_one]
    · simp only [hc, if_false, nth_zero, nth_one]
  · have hlt : (((16 : Nat) : Int) < (t.length : Int)) = False := eq_false (by omega)
    unfold s13_L0
    simp only [nth_zero, nth_one, nth_two, bin_lss, hlt, decide_false, bS, ↓KLn, ↓K1n, if_bool, Bool.false_eq_true, if_false]

/-- The bytes when i of the nibbles are written. -/
def nibB (nb : Nat → Nat) (i j : Nat) : Nat := (if 2 * j < i then nb (2 * j) else 0) + 16 * (if 2 * j + 1 < i then nb (2 * j + 1) else 0)
def nibs (nb : Nat → Nat) (n i : Nat) : List Nat := (List.range n).map (nibB nb i)
theorem nibs_len (nb : Nat → Nat) (n i : Nat) : (nibs nb n i).length = n := by simp [nibs]
theorem nibs_get {nb : Nat → Nat} {n i j : Nat} (h : j < n) : (nibs nb n i)[j]? = some (nibB nb i j) := by simp [nibs, h]
theorem nibB_lt {nb : Nat → Nat} (h : ∀ i, nb i < 16) (i j : Nat) : nibB nb i j < 256 := by
  have := h (2 * j); have := h (2 * j + 1)
  unfold nibB; split <;> split <;> omega
theorem nib_or {nb : Nat → Nat} (h : ∀ i, nb i < 16) (i : Nat) : nibB nb i (i / 2) ||| (nb i * 2 ^ (4 * (i % 2))) = nibB nb (i + 1) (i / 2) := by
  have h1 := h i
  rcases Nat.mod_two_eq_zero_or_one i with e | e
  · have e2 : 2 * (i / 2) = i := by omega
    unfold nibB
    rw [e2, e, if_neg (by omega), if_neg (by omega), if_pos (by omega), if_neg (by omega)]
    simp
  · have e2 : 2 * (i / 2) + 1 = i := by omega
    have e3 : 2 * (i / 2) = i - 1 := by omega
    have h2 := h (i - 1)
    unfold nibB
    rw [e2, e3, e, if_pos (by omega), if_neg (by omega), if_pos (by omega), if_pos (by omega)]
    rw [show 16 * 0 = 0 from rfl, Nat.add_zero, Nat.mul_one, or_add (n := 4) (by omega)]
theorem nibs_set {nb : Nat → Nat} {n i : Nat} (h : i / 2 < n) : (nibs nb n i).set (i / 2) (nibB nb (i + 1) (i / 2)) = nibs nb n (i + 1) := by
  refine List.ext_getElem? fun j => ?_
  by_cases hj : j = i / 2
  · subst hj
    rw [List.getElem?_set_self (by rw [nibs_len]; exact h), nibs_get h]
  · rw [List.getElem?_set_ne (by omega)]
    by_cases hn : j < n
    · rw [nibs_get hn, nibs_get hn]
      unfold nibB
      have q1 : (2 * j < i + 1) ↔ (2 * j < i) := by omega
      have q2 : (2 * j + 1 < i + 1) ↔ (2 * j + 1 < i) := by omega
      simp only [q1, q2]
    · rw [List.getElem?_eq_none (by rw [nibs_len]; omega), List.getElem?_eq_none (by rw [nibs_len]; omega)]
theorem mk_u8 (t : TypeId) (n : Nat) (hm : n < 4294967296) (h : PHeap) : mkSliceP t [.int .u8 0] (.int .i64 n) (.int .i64 n) h = some (.ref h.length 0 n n 1, h ++ [.log (List.replicate n (u8V 0)) 1 t .rw]) := by
  simp only [mkSliceP]
  rw [if_pos ⟨by omega, by omega, by unfold mostLen; omega⟩]
  simp [u8V]

/-- What Nibbles says. -/
def nibE (l t : List Int) : Int := if l.any badB || !isTab t then 1 else chk l 8
def nibO (l t : List Int) : List Nat := if nibE l t = 0 then nibs (nib t l) ((l.length + 1) / 2) l.length else []
theorem any_bad {l : List Int} (h : l.any badB = false) : ∀ x ∈ l, -128 ≤ x ∧ x ≤ 127 := fun x hx => by
  have := List.any_eq_false.1 h x hx
  unfold badB at this
  simp only [Bool.or_eq_true, decide_eq_true_eq] at this
  omega
theorem c13 {l t : List Int} (hm : l.length < 9223372036854775808) (htm : t.length < 9223372036854775808) (h : PHeap) : Γ0 13 [ints l, ints t] h = some (.tuple [u8s (nibO l t), .int .i64 (nibE l t)], h) := by
  obtain ⟨N, hN⟩ : ∃ N : Nat, 5000 ≤ N := ⟨5000, Nat.le_refl _⟩
  refine gbody (F := A13) (by kernel_rfl) N ?_
  rw [s13_eq]
  unfold s13 nibO nibE
  have k35 := c35 (f := .func 36 [] []) (p := badB) (h := h) hm fun x => by rw [callV_func Γ0 36]; exact c36 x h
  simp only [k35, bS, ↓KLn, ↓K1n, sc_or]
  cases hb : l.any badB with
  | true =>
    simp only [Bool.true_eq_false, if_false, if_bool, if_true, Bool.true_or, fin_err, show ((1 : Int) = 0) = False from eq_false (by decide)]
  | false =>
    simp only [if_true, c37 htm, bS, un_not, Bool.false_or]
    cases hT : isTab t with
    | false =>
      simp only [Bool.not_false, if_bool, if_true, fin_err, show ((1 : Int) = 0) = False from eq_false (by decide), if_false]
    | true =>
      have k24 := c24 (l := l) 8 hm h
      simp only [Bool.not_true, Bool.false_eq_true, if_bool, if_false, k24, bS, bin_neq, ne0, ↓KLn]
      by_cases h0 : chk l 8 = 0
      · obtain ⟨_, _, _, _, h4⟩ := chk_zero h0
        obtain ⟨ht, htr⟩ := isTab_get hT
        have hlr := any_bad hb
        have hq : binP .quo (.int .i64 ((l.length + 1 : Nat) : Int)) (.int .i64 2) = some (.int .i64 (((l.length + 1) / 2 : Nat) : Int)) := quo_nat _ 2 (by decide) (by omega)
        have hrep : List.replicate ((l.length + 1) / 2) (u8V 0) = (nibs (nib t l) ((l.length + 1) / 2) 0).map u8V := by
          refine List.ext_getElem? fun j => ?_
          rw [List.getElem?_map]
          by_cases hj : j < (l.length + 1) / 2
          · rw [nibs_get hj, List.getElem?_replicate, if_pos hj]; rfl
          · rw [List.getElem?_eq_none (by simp; omega), List.getElem?_eq_none (by rw [nibs_len]; omega)]; rfl
        rw [if_neg (fun q => q h0), if_pos h0, h0]
        simp only [len_ints, bS, bin_add, succ64 (show l.length < 4294967297 by omega), hq, mk_u8 5 ((l.length + 1) / 2) (by omega), ↓KLn]
        rw [hrep]
        generalize hL : (l.length + 1) / 2 = L
        refine loop_run (fun i => [.int .i64 (pos t l i), .int .i64 (i : Int)]) (fun i => h ++ [.log ((nibs (nib t l) L i).map u8V) 1 5 .rw]) l.length (by omega) rfl rfl (fun i hi K => ?_) fun K => ?_
        · obtain ⟨a, ha⟩ := lt_len hi
          have hnb := nib_lt t l
          have hn : (bestN (pos t l i) a t 16).1 = nib t l i := by unfold nib; rw [getD_of ha]
          obtain ⟨d, hd⟩ := lt_len (show nib t l i < t.length by have := hnb i; omega)
          have hdr := htr d (List.mem_of_getElem? hd)
          have hpi := pos_in t l i
          have hps : wrapB 8 (pos t l i + d) = pos t l (i + 1) := by
            show _ = wrapB 8 (pos t l i + t.getD (nib t l i) 0)
            rw [getD_of hd]
          have e1 : IntKind.i64.wrap (pos t l i + d) = pos t l i + d := wrap64 (by unfold isI64; omega)
          have k38 := fun H => c38 (b := 8) (by decide) (by decide) (pos t l i + d) H
          have h8 : ((8 : Nat) : Int) = 8 := rfl
          simp only [h8, hps] at k38
          have q2 : binP .quo (.int .i64 (i : Int)) (.int .i64 2) = some (.int .i64 ((i / 2 : Nat) : Int)) := quo_nat i 2 (by decide) (by omega)
          have r2 : binP .rem (.int .i64 (i : Int)) (.int .i64 2) = some (.int .i64 ((i % 2 : Nat) : Int)) := rem_nat i 2 (by decide)
          have hm4 : IntKind.i64.wrap (4 * ((i % 2 : Nat) : Int)) = ((4 * (i % 2) : Nat) : Int) := by rw [wrap64 (by unfold isI64; omega)]; omega
          have hmod := Nat.mod_lt i (show 0 < 2 by decide)
          have hp4 : 2 ^ (4 * (i % 2)) ≤ 16 := by
            rcases Nat.mod_two_eq_zero_or_one i with e | e <;> rw [e] <;> decide
          have hnm : nib t l i * 2 ^ (4 * (i % 2)) < 256 := by
            have := Nat.mul_le_mul (show nib t l i ≤ 15 by have := hnb i; omega) hp4
            omega
          have hsh := shl_pow (nib t l i : Int) (4 * (i % 2)) .i64 (by omega)
          rw [← Int.natCast_mul, wrap64 (by unfold isI64; omega)] at hsh
          have hi2 : i / 2 < L := by omega
          have hrow : ((nibs (nib t l) L i).map u8V)[i / 2]? = some (u8V (nibB (nib t l) i (i / 2))) := by rw [List.getElem?_map, nibs_get hi2]; rfl
          have hget : (h ++ [PBlk.log ((nibs (nib t l) L i).map u8V) 1 5 .rw])[h.length]? = some (.log ((nibs (nib t l) L i).map u8V) 1 5 .rw) := by rw [get_new0]; rfl
          have hlen : L = ((nibs (nib t l) L i).map u8V).length := by rw [List.length_map, nibs_len]
          have hld : loadP false 1 (.lptr h.length (i / 2) 0 L 1) (h ++ [PBlk.log ((nibs (nib t l) L i).map u8V) 1 5 .rw]) = some (.int .u8 (nibB (nib t l) i (i / 2) : Nat)) := by
            rw [load_log hget hlen hrow]; rfl
          have hor := or_byte (nibB (nib t l) i (i / 2)) (nib t l i * 2 ^ (4 * (i % 2))) (nibB_lt hnb _ _) hnm
          rw [nib_or hnb] at hor
          have hst := store_el (v := .int .u8 ((nibB (nib t l) (i + 1) (i / 2) : Nat) : Int)) hget hlen hrow rfl
          have hset : ((nibs (nib t l) L i).map u8V).set (i / 2) [.int .u8 ((nibB (nib t l) (i + 1) (i / 2) : Nat) : Int)] = (nibs (nib t l) L (i + 1)).map u8V := by
            rw [← nibs_set hi2, List.map_set]; rfl
          rw [hset, set_new0, List.set_cons_zero] at hst
          have hL0 := nibL0 (l := l) ht htr hpi (hlr a (List.mem_of_getElem? ha))
          unfold s13_L1
          simp only [nth_zero, nth_one, bin_lss, ltT hi, decide_true, bS, ↓KLn, ↓K1n, if_bool, if_true, idx_ints _ ha, load_iV, len_ints]
          rw [hL0 _ _ _ _ _ (by omega), hn]
          simp only [nth_zero, nth_one, idx_ints _ hd, load_iV, bS, bin_add, e1, k38, q2, idx_ref _ hi2, Nat.zero_add, hld, r2, bin_mul, hm4, hsh, conv_int, wrapu8 _ hnm, hor, hst, succ64 (show i < 4294967297 by omega)]
          rw [trim_len _ (by simp)]
        · unfold s13_L1
          simp only [nth_zero, nth_one, bin_lss, ltF, decide_false, bS, ↓KLn, ↓K1n, if_bool, Bool.false_eq_true, if_false]
          have := fin_bytes (h := h) (s := 1) (t := 5) (xs := nibs (nib t l) L l.length) 0
          rw [nibs_len] at this
          exact this
      · rw [if_pos h0, if_neg h0, fin_err]
end Go.Vm.X
