/- AnalyseFrames: the mean squares, the program's side; the law. -/
import Derived.Test.YthoclgplhpnlgaaAfRef
set_option linter.unusedSimpArgs false
set_option linter.unusedVariables false
namespace Go.Am.X

theorem at_elem {x : Value} {xs : List (Int × Int)} {h : AHeap} (hp : PairsAt h x xs) {b o : Nat} (hv : readC h b o = some x) {i : Nat} {p : Int × Int} (hi : xs[i]? = some p) :
    ∃ b1 o1, indexAddrf 2 x (.int .i64 i) = some (ptrTo b1 o1) ∧ readC h b1 o1 = some (.int .i64 p.1) ∧ readC h b1 (o1 + 1) = some (.int .i64 p.2) := by
  obtain ⟨b1, o1, h1, h2⟩ := frame_at hp (List.prefix_refl _) hi
  exact ⟨b1, o1, h1, by have := readC_of_readN h2 (i := 0) rfl; simpa using this, readC_of_readN h2 (i := 1) rfl⟩
theorem c11 {x : Value} {xs : List (Int × Int)} {h : AHeap} (hp : PairsAt h x xs) {b o : Nat} (hv : readC h b o = some x) {i : Nat} {p : Int × Int} (hi : xs[i]? = some p) :
    Γ0 11 [.int .i64 i, ptrTo b o] h = some (.int .i64 p.1, h) := by
  refine run_of_body (F := A11) (by kernel_rfl) 1 ?_
  rw [s11_eq]
  unfold s11
  obtain ⟨b1, o1, h1, h2, h3⟩ := at_elem hp hv hi
  simp only [load_cell, hv, Option.bind_some, h1, fieldAddr_ptr, Nat.add_zero, h2, fin_self, single]
theorem c12 {x : Value} {xs : List (Int × Int)} {h : AHeap} (hp : PairsAt h x xs) {b o : Nat} (hv : readC h b o = some x) {i : Nat} {p : Int × Int} (hi : xs[i]? = some p) :
    Γ0 12 [.int .i64 i, ptrTo b o] h = some (.int .i64 p.2, h) := by
  refine run_of_body (F := A12) (by kernel_rfl) 1 ?_
  rw [s12_eq]
  unfold s12
  obtain ⟨b1, o1, h1, h2, h3⟩ := at_elem hp hv hi
  simp only [load_cell, hv, Option.bind_some, h1, fieldAddr_ptr, h3, fin_self, single]

theorem and_low {a : Int} (h0 : 0 ≤ a) (h1 : isI64 a) : IntKind.i64.wrap ((BitVec.ofInt 64 a &&& BitVec.ofInt 64 1099511627775).toNat : Int) = a % 1099511627776 := by
  unfold isI64 at h1
  have e : ((BitVec.ofInt 64 a &&& BitVec.ofInt 64 1099511627775).toNat : Int) = a % 1099511627776 := by
    rw [BitVec.toNat_and, BitVec.toNat_ofInt, BitVec.toNat_ofInt]
    have e1 : (a % ((2 ^ 64 : Nat) : Int)).toNat = a.toNat := by
      have : a % ((2 ^ 64 : Nat) : Int) = a := Int.emod_eq_of_lt h0 (by simp; omega)
      rw [this]
    have e2 : ((1099511627775 : Int) % ((2 ^ 64 : Nat) : Int)).toNat = 2 ^ 40 - 1 := by decide
    rw [e1, e2, Nat.and_two_pow_sub_one_eq_mod]
    omega
  rw [e, wrap64 (by unfold isI64; omega)]
theorem and40 {a : Int} (h0 : 0 ≤ a) (h1 : isI64 a) : binf .and (.int .i64 a) (.int .i64 1099511627775) = some (.int .i64 (a % 1099511627776)) := by
  rw [binf_and]
  exact congrArg (fun z => some (Value.int .i64 z)) (and_low h0 h1)
theorem shr40 {a : Int} (h0 : 0 ≤ a) (h1 : isI64 a) : binf .shr (.int .i64 a) (.int .u64 40) = some (.int .i64 (a / 1099511627776)) := by
  unfold isI64 at h1
  rw [binf_shr _ _ _ _ (by omega)]
  have w8 : ((2 : Int) ^ (min (Int.toNat 40) IntKind.i64.bits)) = 1099511627776 := by decide
  rw [w8, Int.fdiv_eq_ediv_of_nonneg _ (by omega)]
theorem shl40 {a : Int} (h1 : isI64 (a * 1099511627776)) : binf .shl (.int .i64 a) (.int .u64 40) = some (.int .i64 (a * 1099511627776)) := by
  rw [binf_shl _ _ _ _ (by omega)]
  have w8 : ((2 : Int) ^ (min (Int.toNat 40) IntKind.i64.bits)) = 1099511627776 := by decide
  rw [w8, wrap64 h1]
theorem bnd_sq (n : Int) : bnd n * bnd n = sz n * sz n := by
  rw [sz_bnd]
  by_cases h : bnd n ≤ -bnd n
  · rw [Int.max_eq_right h, Int.neg_mul_neg]
  · rw [Int.max_eq_left (by omega)]

/-- A function of one index that tells f of the pair there. -/
def Tells (v : Value) (f : Int × Int → Int) (xs : List (Int × Int)) (h : AHeap) : Prop := ∀ (i : Nat) (p : Int × Int), xs[i]? = some p → callVf Γ0 v [.int .i64 i] h = some (.int .i64 (f p), h)
theorem l10 {v : Value} {f : Int × Int → Int} {xs : List (Int × Int)} {h : AHeap} (hf : Tells v f xs h) (hlen : xs.length ≤ 2000) (j : List Value → AHeap → Rt) :
    ∀ (rest : List (Int × Int)) (i : Nat) (p q : Int) (n m : Nat), xs.drop i = rest → i ≤ xs.length → rest.length < n → (0 ≤ p ∧ p ≤ i * 2) → (0 ≤ q ∧ q < 1099511627776) →
      ∃ p' q', loopN (s10_L0 Γ0 m (.int .i64 xs.length) v j) n [.int .i64 p, .int .i64 q, .int .i64 i] h = j [.int .i64 p', .int .i64 q'] h ∧
        p' * 1099511627776 + q' = ss f (p * 1099511627776 + q) rest ∧ (0 ≤ p' ∧ p' ≤ 4000) ∧ (0 ≤ q' ∧ q' < 1099511627776) := by
  intro rest
  induction rest with
  | nil =>
    intro i p q n m hd hil hn hbp hbq
    obtain ⟨n, rfl⟩ : ∃ k, n = k + 1 := ⟨n - 1, by simp at hn; omega⟩
    have hi : xs.length ≤ i := by simpa using hd
    refine ⟨p, q, ?_, rfl, ⟨hbp.1, by omega⟩, hbq⟩
    rw [loopN_succ]
    unfold s10_L0
    simp only [nth_zero, nth_one, nth_two, binf_lss, Option.bind_some, JL, ifK_bool, decide_eq_true_eq]
    rw [if_neg (by omega)]
  | cons pr rest ih =>
    intro i p q n m hd hil hn hbp hbq
    obtain ⟨n, rfl⟩ : ∃ k, n = k + 1 := ⟨n - 1, by simp at hn; omega⟩
    obtain ⟨hi, hd', hlt⟩ := drop_cons hd
    have q1 := sq_bounds (f pr)
    obtain ⟨p', q', g1, g2, g3, g4⟩ := ih (i + 1) (p + (q + sz (f pr) * sz (f pr)) / 1099511627776) ((q + sz (f pr) * sz (f pr)) % 1099511627776) n m hd' hlt (by simp at hn; omega) (by omega) (by omega)
    refine ⟨p', q', ?_, ?_, g3, g4⟩
    · rw [loopN_succ]
      generalize loopN (s10_L0 Γ0 m (.int .i64 xs.length) v j) n = K at g1 ⊢
      unfold s10_L0
      have w2 : IntKind.i64.wrap ((i : Int) + 1) = ((i + 1 : Nat) : Int) := by rw [wrap64 (by unfold isI64; omega)]; omega
      have w3 : IntKind.i64.wrap (sz (f pr) * sz (f pr)) = sz (f pr) * sz (f pr) := wrap64 (by unfold isI64; omega)
      have w4 : IntKind.i64.wrap (q + sz (f pr) * sz (f pr)) = q + sz (f pr) * sz (f pr) := wrap64 (by unfold isI64; omega)
      have w6 : IntKind.i64.wrap (p + (q + sz (f pr) * sz (f pr)) / 1099511627776) = p + (q + sz (f pr) * sz (f pr)) / 1099511627776 := wrap64 (by unfold isI64; omega)
      have w7 := and40 (a := q + sz (f pr) * sz (f pr)) (by omega) (by unfold isI64; omega)
      have w8 := shr40 (a := q + sz (f pr) * sz (f pr)) (by omega) (by unfold isI64; omega)
      simp only [nth_zero, nth_one, nth_two, binf_lss, Option.bind_some, JL, ifK_bool, decide_eq_true_eq]
      rw [if_pos (by omega)]
      simp only [hf i pr hi, Option.bind_some, c8, binf_mul, bnd_sq, w3, binf_add, w4, w8, w6, w7, w2, nth_zero, nth_one, nth_two]
      exact g1
    · rw [g2]
      show ss f _ rest = ss f _ rest
      congr 1
      omega

theorem c10 {v : Value} {f : Int × Int → Int} {xs : List (Int × Int)} {h : AHeap} (hf : Tells v f xs h) (hlen : xs.length ≤ 2000) : Γ0 10 [.int .i64 xs.length, v] h = some (.int .i64 (mean f xs), h) := by
  refine run_of_body (F := A10) (by kernel_rfl) 3000 ?_
  rw [s10_eq]
  unfold s10
  simp only [binf_eql, Option.bind_some, JL, ifK_bool, beq_iff_eq]
  by_cases h0 : xs.length = 0
  · rw [if_pos (by omega), fin_self]
    unfold mean
    rw [if_pos h0]
    rfl
  · rw [if_neg (by omega)]
    obtain ⟨p, q, g1, g2, g3, g4⟩ := l10 hf hlen (fun w5 h6 => (binf .quo (nth w5 0) (.int .i64 xs.length)).bind fun v7 => (binf .shl v7 (.int .u64 40)).bind fun v8 => (binf .rem (nth w5 0) (.int .i64 xs.length)).bind fun v9 =>
      (binf .shl v9 (.int .u64 40)).bind fun v10 => (binf .add v10 (nth w5 1)).bind fun v11 => (binf .quo v11 (.int .i64 xs.length)).bind fun v12 => (binf .add v8 v12).bind fun v13 => fin h h6 [v13]) xs 0 0 0 3000 3000 rfl (by omega) (by omega) (by omega) (by omega)
    refine Eq.trans g1 ?_
    simp only [nth_zero, nth_one]
    have hn : (0 : Int) < xs.length := by omega
    generalize hN : (xs.length : Int) = N at hn ⊢
    have hN2 : N ≤ 2000 := by omega
    have d1 : p.tdiv N = p / N := Int.tdiv_eq_ediv_of_nonneg g3.1
    have d2 : p.tmod N = p % N := Int.tmod_eq_emod_of_nonneg g3.1
    have b1 : 0 ≤ p / N := Int.ediv_nonneg g3.1 (by omega)
    have b2 : p / N ≤ p := Int.ediv_le_self _ g3.1
    have b3 : 0 ≤ p % N := Int.emod_nonneg _ (by omega)
    have b4 : p % N < N := Int.emod_lt_of_pos _ hn
    have b5 : 0 ≤ (p % N * 1099511627776 + q) / N := Int.ediv_nonneg (by omega) (by omega)
    have b6 : (p % N * 1099511627776 + q) / N ≤ p % N * 1099511627776 + q := Int.ediv_le_self _ (by omega)
    have d3 : (p % N * 1099511627776 + q).tdiv N = (p % N * 1099511627776 + q) / N := Int.tdiv_eq_ediv_of_nonneg (by omega)
    rw [binf_quo _ _ _ (by omega), d1, wrap64 (by unfold isI64; omega)]
    simp only [Option.bind_some]
    rw [shl40 (by unfold isI64; omega)]
    simp only [Option.bind_some]
    rw [binf_rem _ _ _ (by omega), d2]
    simp only [Option.bind_some]
    rw [shl40 (by unfold isI64; omega)]
    simp only [Option.bind_some]
    rw [binf_add, wrap64 (by unfold isI64; omega)]
    simp only [Option.bind_some]
    rw [binf_quo _ _ _ (by omega), d3, wrap64 (by unfold isI64; omega)]
    simp only [Option.bind_some]
    rw [binf_add, wrap64 (by unfold isI64; omega)]
    simp only [Option.bind_some, fin_self, single]
    have e : p / N * 1099511627776 + (p % N * 1099511627776 + q) / N = mean f xs := by
      unfold mean
      rw [if_neg h0, hN]
      have g2' : p * 1099511627776 + q = ss f 0 xs := by rw [g2]; rfl
      rw [← g2']
      have e1 : p * 1099511627776 + q = (p % N * 1099511627776 + q) + N * (p / N * 1099511627776) := by
        have := Int.emod_add_mul_ediv p N
        have e2 : N * (p / N * 1099511627776) = (N * (p / N)) * 1099511627776 := by rw [Int.mul_assoc]
        rw [e2]
        omega
      rw [e1, Int.add_mul_ediv_left _ _ (by omega)]
      omega
    rw [e]
theorem c6 {x : Value} {xs : List (Int × Int)} {h : AHeap} (hp : PairsAt h x xs) (hlen : xs.length ≤ 2000) : Γ0 6 [x] h = some (.tuple #[.int .i64 (mean Prod.fst xs), .int .i64 (mean Prod.snd xs)], h) := by
  refine run_of_body (F := A6) (by kernel_rfl) 1 ?_
  rw [s6_eq]
  unfold s6
  have hc : cellsL x = [x] := by obtain ⟨a, c, rfl, _⟩ := hp; rfl
  have hp1 : PairsAt (h ++ [.cells [x] 22 true]) x xs := hp.mono (pre_app _ _)
  have hv : readC (h ++ [.cells [x] 22 true]) h.length 0 = some x := readC_new _ _ _ _ _
  have t1 : Tells (.func (.func 11) (List.toArray []) (List.toArray [ptrTo h.length 0])) Prod.fst xs (h ++ [.cells [x] 22 true]) := fun i p hi => c11 hp1 hv hi
  have t2 : Tells (.func (.func 12) (List.toArray []) (List.toArray [ptrTo h.length 0])) Prod.snd xs (h ++ [.cells [x] 22 true]) := fun i p hi => c12 hp1 hv hi
  simp only [fork, hc, load_cell, hv, Option.bind_some, len_at hp, c10 t1 hlen, c10 t2 hlen, sameQ_self]
  exact fin_gc rfl (pre_app _ _)
/-- The law. -/
theorem c3 {x : Value} {xs : List (Int × Int)} {h : AHeap} (hp : PairsAt h x xs) (hok : ∀ p ∈ xs, isI64 p.1 ∧ isI64 p.2) : Γ0 3 [x] h = some (.bool true, h) := by
  refine run_of_body (F := A3) (by kernel_rfl) 1 ?_
  rw [s3_eq]
  unfold s3
  simp only [len_at hp, Option.bind_some, binf_gtr, JL, ifK_bool, decide_eq_true_eq]
  by_cases hlen : xs.length ≤ 2000
  · rw [if_neg (by omega)]
    simp only [c4 hp hlen, c5 hp hlen hok, c6 hp hlen, c7 hp hlen hok, Option.bind_some, extractf, J1, scK_and]
    simp [binf_eql, scK_and, fin_self, single]
  · rw [if_pos (by omega), fin_self]
    rfl

end Go.Am.X
