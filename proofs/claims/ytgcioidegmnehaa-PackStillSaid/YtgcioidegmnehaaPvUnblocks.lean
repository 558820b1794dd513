/- Packing: Unblocks, both sides, and the law PackReads. -/
import Derived.Test.YtgcioidegmnehaaPvUnblockR
set_option linter.unusedSimpArgs false
set_option linter.unusedVariables false
namespace Go.Vm.X
open Go.Am Go.Vm

theorem unb_succ (b : List Nat) (bits m F u : Nat) (out : List Int) : unb b bits m (F + 1) u out = if out.length < m ∧ u < b.length then
      if b.getD u 0 < 1 ∨ bits < b.getD u 0 then (out, u, true)
      else unb b bits m F (u + 1 + cB (b.length - (u + 1)) (b.getD u 0) (min 256 (m - out.length))) (out ++ valsN (b.getD u 0) (rnum (b.drop (u + 1))) (min (min 256 (m - out.length)) (8 * (b.length - (u + 1)) / b.getD u 0)))
    else (out, u, false) := rfl
theorem small_vals {w : Nat} (h : w ≤ 16) (R k : Nat) : Small (valsN w R k) := fun x hx => by
  unfold valsN at hx
  obtain ⟨i, _, rfl⟩ := List.mem_map.1 hx
  exact small_in h (wrapB_range _ _)
theorem small_app {a b : List Int} (ha : Small a) (hb : Small b) : Small (a ++ b) := fun x hx => (List.mem_append.1 hx).elim (ha x) (hb x)
theorem unb_ok {b : List Nat} {bits m : Nat} (hbits : bits ≤ 16) : ∀ (F u : Nat) (out : List Int), out.length ≤ m → u ≤ b.length → Small out →
    (unb b bits m F u out).1.length ≤ m ∧ Small (unb b bits m F u out).1 ∧ (unb b bits m F u out).2.1 ≤ b.length ∧ (b.length - u < F → (unb b bits m F u out).2.2 = false → (unb b bits m F u out).1.length < m → (unb b bits m F u out).2.1 = b.length)
  | 0, u, out, ho, hu, hs => ⟨ho, hs, hu, fun h => by omega⟩
  | F + 1, u, out, ho, hu, hs => by
    rw [unb_succ]
    by_cases hc : out.length < m ∧ u < b.length
    · rw [if_pos hc]
      by_cases hw : b.getD u 0 < 1 ∨ bits < b.getD u 0
      · rw [if_pos hw]
        exact ⟨ho, hs, hu, fun _ h => by cases h⟩
      · rw [if_neg hw]
        have hcR := cB_le (b.length - (u + 1)) (b.getD u 0) (min 256 (m - out.length))
        have ih := unb_ok (b := b) (bits := bits) (m := m) hbits F (u + 1 + cB (b.length - (u + 1)) (b.getD u 0) (min 256 (m - out.length))) (out ++ valsN (b.getD u 0) (rnum (b.drop (u + 1))) (min (min 256 (m - out.length)) (8 * (b.length - (u + 1)) / b.getD u 0))) (by rw [List.length_append, valsN_len]; omega) (by omega) (small_app hs (small_vals (by omega) _ _))
        exact ⟨ih.1, ih.2.1, ih.2.2.1, fun h => ih.2.2.2 (by omega)⟩
    · rw [if_neg hc]
      exact ⟨ho, hs, hu, fun _ _ h => by show u = b.length; have : out.length < m := h; omega⟩

/-- What the bytes hold. -/
def unbR (b : List Nat) (bits n : Int) : List Int × Nat × Bool := unb b bits.toNat n.toNat (b.length + 300) 0 []
theorem unbR_nat (b : List Nat) (k m : Nat) : unbR b (k : Int) (m : Int) = unb b k m (b.length + 300) 0 [] := rfl
def decL (v : Int) (b : Nat) (l : List Int) : List Int := if v = 2 then sums b (sums b l) else sums b l
theorem decL_len (v : Int) (b : Nat) (l : List Int) : (decL v b l).length = l.length := by unfold decL; split <;> simp [sums_len]
theorem fin_t3 {h L : PHeap} {l : List Int} {a : Int} {e : Bool} : finP [.flat 1, .keep, .keep] h (h ++ L) [ints l, .int .i64 a, .bool e] = some (.tuple [ints l, .int .i64 a, .bool e], h) := by
  simp only [fin_def, fzL_cons, fzL_nil, fz_keep, fz_ints, Option.bind_some, Option.map_some, single_three]
  rw [trim_new _ (fun x hx => by simp only [List.mem_cons, List.not_mem_nil, or_false] at hx; rcases hx with rfl | rfl | rfl <;> first | exact lt_ints _ _ | exact lt_int _ _ _ | simp [ltV])]
theorem c46 {b : List Nat} (hb : ∀ x ∈ b, x < 256) (hl : b.length ≤ 400000) {k m : Nat} (hk : k = 8 ∨ k = 16) (hm : m ≤ 4096) (v : Int) (h : PHeap) : Γ0 46 [u8s b, .int .i64 k, .int .i64 v, .int .i64 m] h = some (.tuple [ints (decL v k (unbR b k m).1), .int .i64 ((unbR b k m).2.1 : Int), .bool (unbR b k m).2.2], h) := by
  obtain ⟨N, hN⟩ : ∃ N : Nat, b.length + 300 = N := ⟨_, rfl⟩
  refine gbody (F := A46) (by kernel_rfl) N ?_
  rw [s46_eq]
  unfold s46
  have hok := unb_ok (b := b) (bits := k) (m := m) (by omega) N 0 [] (by simp) (by omega) (fun x hx => by cases hx)
  simp only [fork_def, KL_def]
  rw [unbR_nat, hN]
  have hloop := urL2 hb hl (show k ≤ 16 by omega) hm h (fun w3 h4 =>
 (fz (.flat 1) (nthP w3 2) h4).bind fun q5 =>
 (Γ0 45 [q5.1, .int .i64 k] q5.2).bind fun p6 =>
 (binP .eql (.int .i64 v) (.int .i64 2 : PV)).bind fun v7 =>
 ifP v7 (
 (fz (.flat 1) p6.1 p6.2).bind fun q11 =>
 (Γ0 45 [q11.1, .int .i64 k] q11.2).bind fun p12 =>
 finP [(.flat 1), .keep, .keep] h p12.2 [(nthP [p12.1] 0), (nthP w3 0), (nthP w3 1)]) (
 finP [(.flat 1), .keep, .keep] h p6.2 [(nthP [p6.1] 0), (nthP w3 0), (nthP w3 1)])) N (by omega) N 0 [] (by omega) (by omega) (by simp) undefP undefP undefP undefP undefP undefP undefP
  refine Eq.trans hloop ?_
  generalize unb b k m N 0 [] = R at hok
  obtain ⟨l, u, bad⟩ := R
  obtain ⟨o1, o2, o3, o4⟩ := hok
  have e := fz_logI (h := h) (l := [.log (l.map iV) 1 3 .rw]) (k := 0) (s := 1) l.length rfl rfl
  simp only [Nat.add_zero] at e
  have o1' : l.length ≤ m := o1
  have s1 : (sums k l).length < 4294967296 := by rw [sums_len]; omega
  simp only [nth_zero, nth_one, nth_two, e, Option.bind_some, c45 (show 1 ≤ k by omega) (show k ≤ 16 by omega) o2 (show l.length < 4294967296 by omega), bin_eql, if_bool]
  unfold decL
  by_cases hv : v = 2
  · subst hv
    simp only [beq_self_eq_true, if_true, fz_ints, Option.bind_some, c45 (show 1 ≤ k by omega) (show k ≤ 16 by omega) (small_sums (show k ≤ 16 by omega) l) s1, fin_t3]
  · have hv' : (v == 2) = false := by simp [hv]
    simp only [hv', hv, Bool.false_eq_true, if_false, fin_t3]

/-- What Unblocks says. -/
def unbE0 (b : List Nat) (bits v n : Int) : Int := if right bits && isVer v then askd b n else 1
def unbE (b : List Nat) (bits v n : Int) : Int := if unbE0 b bits v n = 0 then (if (unbR b bits n).2.2 then 9 else 0) else unbE0 b bits v n
def unbPV (b : List Nat) (bits v n : Int) : PV :=
  if unbE b bits v n = 0 then .tuple [ints (padL (decL v bits.toNat (unbR b bits n).1) n.toNat), .int .i64 ((unbR b bits n).2.1 : Int), .int .i64 ((n.toNat - (unbR b bits n).1.length : Nat) : Int), .int .i64 0]
  else .tuple [ints [], .int .i64 0, .int .i64 0, .int .i64 (unbE b bits v n)]
theorem fin_4 {h L : PHeap} {l : List Int} {a b c : Int} : finP [.flat 1, .keep, .keep, .keep] h (h ++ L) [ints l, .int .i64 a, .int .i64 b, .int .i64 c] = some (.tuple [ints l, .int .i64 a, .int .i64 b, .int .i64 c], h) := by
  have single_four : ∀ a b c d : PV, singleP [a, b, c, d] = .tuple [a, b, c, d] := fun _ _ _ _ => rfl
  simp only [fin_def, fzL_cons, fzL_nil, fz_keep, fz_ints, Option.bind_some, Option.map_some, single_four]
  rw [trim_new _ (fun x hx => by simp only [List.mem_cons, List.not_mem_nil, or_false] at hx; rcases hx with rfl | rfl | rfl | rfl <;> first | exact lt_ints _ _ | exact lt_int _ _ _)]
theorem fin_4e {h L : PHeap} {a b c : Int} : finP [.flat 1, .keep, .keep, .keep] h (h ++ L) [.nilS, .int .i64 a, .int .i64 b, .int .i64 c] = some (.tuple [ints [], .int .i64 a, .int .i64 b, .int .i64 c], h) := by
  have single_four : ∀ a b c d : PV, singleP [a, b, c, d] = .tuple [a, b, c, d] := fun _ _ _ _ => rfl
  simp only [fin_def, fzL_cons, fzL_nil, fz_keep, fz_nil, Option.bind_some, Option.map_some, single_four]
  rw [trim_new _ (fun x hx => by simp only [List.mem_cons, List.not_mem_nil, or_false] at hx; rcases hx with rfl | rfl | rfl | rfl <;> first | exact lt_frz _ _ _ | exact lt_int _ _ _)]
  rfl
theorem fin_4n {h : PHeap} {l : List Int} {a b c : Int} : finP [.flat 1, .keep, .keep, .keep] h h [ints l, .int .i64 a, .int .i64 b, .int .i64 c] = some (.tuple [ints l, .int .i64 a, .int .i64 b, .int .i64 c], h) := by
  have := fin_4 (h := h) (L := []) (l := l) (a := a) (b := b) (c := c)
  rwa [List.append_nil] at this
theorem fin_4en {h : PHeap} {a b c : Int} : finP [.flat 1, .keep, .keep, .keep] h h [.nilS, .int .i64 a, .int .i64 b, .int .i64 c] = some (.tuple [ints [], .int .i64 a, .int .i64 b, .int .i64 c], h) := by
  have := fin_4e (h := h) (L := []) (a := a) (b := b) (c := c)
  rwa [List.append_nil] at this
theorem x40 (a b c d : PV) : extractP (.tuple [a, b, c, d]) 0 = some a := rfl
theorem x41 (a b c d : PV) : extractP (.tuple [a, b, c, d]) 1 = some b := rfl
theorem x42 (a b c d : PV) : extractP (.tuple [a, b, c, d]) 2 = some c := rfl
theorem x43 (a b c d : PV) : extractP (.tuple [a, b, c, d]) 3 = some d := rfl
theorem x30 (a b c : PV) : extractP (.tuple [a, b, c]) 0 = some a := rfl
theorem x31 (a b c : PV) : extractP (.tuple [a, b, c]) 1 = some b := rfl
theorem x32 (a b c : PV) : extractP (.tuple [a, b, c]) 2 = some c := rfl
theorem x20 (a b : PV) : extractP (.tuple [a, b]) 0 = some a := rfl
theorem x21 (a b : PV) : extractP (.tuple [a, b]) 1 = some b := rfl

theorem c19 {b : List Nat} (hb : ∀ x ∈ b, x < 256) (bits v n : Int) (h : PHeap) : Γ0 19 [u8s b, .int .i64 bits, .int .i64 v, .int .i64 n] h = some (unbPV b bits v n, h) := by
  refine gbody (F := A19) (by kernel_rfl) 1 ?_
  rw [s19_eq]
  unfold s19 unbPV unbE
  simp only [c32, c33, c42, Option.bind_some, un_not, ↓K1_def, ↓KL_def, sc_or, bin_neq]
  cases hr : right bits with
  | false =>
    have h0 : unbE0 b bits v n = 1 := by unfold unbE0; rw [hr]; rfl
    rw [h0]
    simp only [Bool.not_false, Bool.true_eq_false, if_false, if_bool, if_true, fin_4en]
    rfl
  | true =>
    cases hv : isVer v with
    | false =>
      have h0 : unbE0 b bits v n = 1 := by unfold unbE0; rw [hr, hv]; rfl
      have hv' : (v == 1 || v == 2) = false := hv
      rw [h0]
      simp only [Bool.not_true, if_true, hv', Bool.not_false, if_bool, fin_4en]
      rfl
    | true =>
      have h0 : unbE0 b bits v n = askd b n := by unfold unbE0; rw [hr, hv]; rfl
      have hv' : (v == 1 || v == 2) = true := hv
      rw [h0]
      simp only [Bool.not_true, if_true, hv', if_bool, Bool.false_eq_true, if_false, ne0]
      by_cases ha : askd b n = 0
      · obtain ⟨hlen, m, rfl, hm⟩ := askd_zero ha
        obtain ⟨k, rfl, hk⟩ := right_nat hr
        rw [if_neg (fun q => q ha), if_pos ha]
        have hok := unb_ok (b := b) (bits := k) (m := m) (by omega) (b.length + 300) 0 [] (by simp) (by omega) (fun x hx => by cases hx)
        simp only [c46 hb hlen hk hm, Option.bind_some, x30, x31, x32, Int.toNat_natCast]
        rw [← unbR_nat] at hok
        generalize unbR b k m = R at hok ⊢
        obtain ⟨l, u, bad⟩ := R
        obtain ⟨o1, o2, o3, o4⟩ := hok
        have o1' : l.length ≤ m := o1
        cases bad with
        | true =>
          simp only [if_bool, if_true, fin_4en]
          rfl
        | false =>
          have o4' : l.length < m → u = b.length := fun q => o4 (by omega) rfl q
          have hsub : IntKind.i64.wrap ((m : Int) - (l.length : Int)) = ((m - l.length : Nat) : Int) := by rw [wrap64 (by unfold isI64; omega)]; omega
          simp only [if_bool, Bool.false_eq_true, if_false, len_ints, decL_len, len_u8s, Option.bind_some, bin_sub, hsub, bin_gtr, decide_eq_true_eq, nth_zero, c44 (show (decL v k l).length ≤ m by rw [decL_len]; omega) hm, fin_4n, if_true]
          by_cases hg : ((m - l.length : Nat) : Int) > 0
          · have := o4' (by omega)
            rw [if_pos hg, this]
          · rw [if_neg hg]
      · rw [if_pos ha, if_neg ha, if_neg ha, fin_4en]
end Go.Vm.X
