/- AnalyseFrames: the reference's side. -/
import Derived.Test.YthoclgplhpnlgaaAfPeak
set_option linter.unusedSimpArgs false
set_option linter.unusedVariables false
namespace Go.Am.X

theorem l5 {x : Value} {xs : List (Int × Int)} {h0 : AHeap} (hp : PairsAt h0 x xs) (hlen : xs.length ≤ 2000) (hok : ∀ p ∈ xs, isI64 p.1 ∧ isI64 p.2) (j : List Value → AHeap → Rt) :
    ∀ (rest : List (Int × Int)) (i : Nat) (p q : Int) (h : AHeap) (n m : Nat), xs.drop i = rest → h0 <+: h → rest.length < n →
      ∃ h', h0 <+: h' ∧ loopN (s5_L0 Γ0 m x (.int .i64 xs.length) j) n [.int .i64 p, .int .i64 q, .int .i64 i] h = j [.int .i64 (peak p q rest).1, .int .i64 (peak p q rest).2] h' := by
  intro rest
  induction rest with
  | nil =>
    intro i p q h n m hd hh hn
    obtain ⟨n, rfl⟩ : ∃ k, n = k + 1 := ⟨n - 1, by simp at hn; omega⟩
    have hi : xs.length ≤ i := by simpa using hd
    refine ⟨h, hh, ?_⟩
    rw [loopN_succ]
    unfold s5_L0
    simp only [nth_zero, nth_one, nth_two, binf_lss, Option.bind_some, JL, ifK_bool, decide_eq_true_eq]
    rw [if_neg (by omega)]
    rfl
  | cons pr rest ih =>
    intro i p q h n m hd hh hn
    obtain ⟨n, rfl⟩ : ∃ k, n = k + 1 := ⟨n - 1, by simp at hn; omega⟩
    obtain ⟨hi, hd', hlt⟩ := drop_cons hd
    obtain ⟨b, o, ha, hr⟩ := frame_at hp hh hi
    obtain ⟨ok1, ok2⟩ := hok pr (List.mem_of_getElem? hi)
    have hh' : h0 <+: h ++ [.cells [.int .i64 pr.1, .int .i64 pr.2] 27 true] := hh.trans (pre_app _ _)
    obtain ⟨h', g1, g2⟩ := ih (i + 1) (max p (sz pr.1)) (max q (sz pr.2)) _ n m hd' hh' (by simp at hn; omega)
    refine ⟨h', g1, ?_⟩
    rw [loopN_succ]
    generalize loopN (s5_L0 Γ0 m x (.int .i64 xs.length) j) n = K at g2 ⊢
    unfold s5_L0
    have e1 : (cellsL (Value.agg [Value.int .i64 pr.1, Value.int .i64 pr.2].toArray)) = [Value.int .i64 pr.1, Value.int .i64 pr.2] := rfl
    have w2 : IntKind.i64.wrap ((i : Int) + 1) = ((i + 1 : Nat) : Int) := by rw [wrap64 (by unfold isI64; omega)]; omega
    simp only [nth_zero, nth_one, nth_two, binf_lss, Option.bind_some, JL, ifK_bool, decide_eq_true_eq]
    rw [if_pos (by omega)]
    simp only [ha, Option.bind_some, load_agg, hr, Option.map_some, fork]
    rw [store_new _ _ _ _ 2 rfl rfl rfl]
    simp only [e1, Option.bind_some, fieldAddr_ptr, Nat.zero_add, load_cell, readC_new, List.getElem?_cons_zero, List.getElem?_cons_succ, c9 _ ok1, c9 _ ok2, sameQ_self, fold1_two, max2_i, binf_add, w2, nth_zero, nth_one, nth_two]
    exact g2
theorem c5 {x : Value} {xs : List (Int × Int)} {h : AHeap} (hp : PairsAt h x xs) (hlen : xs.length ≤ 2000) (hok : ∀ p ∈ xs, isI64 p.1 ∧ isI64 p.2) : Γ0 5 [x] h = some (.tuple #[.int .i64 (peak 0 0 xs).1, .int .i64 (peak 0 0 xs).2], h) := by
  refine run_of_body (F := A5) (by kernel_rfl) 3000 ?_
  rw [s5_eq]
  unfold s5
  rw [len_at hp]
  simp only [Option.bind_some, JL]
  obtain ⟨h', h1, h2⟩ := l5 hp hlen hok (fun w2 h3 => fin h h3 [(nth w2 0), (nth w2 1)]) xs 0 0 0 h 3000 3000 rfl (List.prefix_refl _) (by omega)
  refine Eq.trans h2 ?_
  simp only [nth_zero, nth_one]
  exact fin_gc rfl h1

/-- The sum of the squares. -/
def ss (f : Int × Int → Int) (a : Int) : List (Int × Int) → Int
  | [] => a
  | x :: xs => ss f (a + sz (f x) * sz (f x)) xs
theorem sq_bounds (n : Int) : 0 ≤ sz n * sz n ∧ sz n * sz n ≤ 1099511627776 := by
  obtain ⟨h1, h2⟩ := sz_bounds n
  exact ⟨Int.mul_nonneg h1 h1, Int.mul_le_mul h2 h2 h1 (by omega)⟩
theorem ss_bounds (f : Int × Int → Int) : ∀ (xs : List (Int × Int)) (a : Int), a ≤ ss f a xs ∧ ss f a xs ≤ a + xs.length * 1099511627776
  | [], a => by simp [ss]
  | x :: xs, a => by
    have h1 := ss_bounds f xs (a + sz (f x) * sz (f x))
    have h2 := sq_bounds (f x)
    simp only [ss, List.length_cons]
    omega
theorem l7 {x : Value} {xs : List (Int × Int)} {h0 : AHeap} (hp : PairsAt h0 x xs) (hlen : xs.length ≤ 2000) (hok : ∀ p ∈ xs, isI64 p.1 ∧ isI64 p.2) (j : List Value → AHeap → Rt) :
    ∀ (rest : List (Int × Int)) (i : Nat) (p q : Int) (h : AHeap) (n m : Nat), xs.drop i = rest → h0 <+: h → rest.length < n → (0 ≤ p ∧ p ≤ i * 1099511627776) → (0 ≤ q ∧ q ≤ i * 1099511627776) →
      ∃ h', h0 <+: h' ∧ loopN (s7_L0 Γ0 m x (.int .i64 xs.length) j) n [.int .i64 p, .int .i64 q, .int .i64 i] h = j [.int .i64 (ss Prod.fst p rest), .int .i64 (ss Prod.snd q rest)] h' := by
  intro rest
  induction rest with
  | nil =>
    intro i p q h n m hd hh hn hbp hbq
    obtain ⟨n, rfl⟩ : ∃ k, n = k + 1 := ⟨n - 1, by simp at hn; omega⟩
    have hi : xs.length ≤ i := by simpa using hd
    refine ⟨h, hh, ?_⟩
    rw [loopN_succ]
    unfold s7_L0
    simp only [nth_zero, nth_one, nth_two, binf_lss, Option.bind_some, JL, ifK_bool, decide_eq_true_eq]
    rw [if_neg (by omega)]
    rfl
  | cons pr rest ih =>
    intro i p q h n m hd hh hn hbp hbq
    obtain ⟨n, rfl⟩ : ∃ k, n = k + 1 := ⟨n - 1, by simp at hn; omega⟩
    obtain ⟨hi, hd', hlt⟩ := drop_cons hd
    obtain ⟨b, o, ha, hr⟩ := frame_at hp hh hi
    obtain ⟨ok1, ok2⟩ := hok pr (List.mem_of_getElem? hi)
    have hh' : h0 <+: h ++ [.cells [.int .i64 pr.1, .int .i64 pr.2] 27 true] := hh.trans (pre_app _ _)
    have q1 := sq_bounds pr.1
    have q2 := sq_bounds pr.2
    obtain ⟨h', g1, g2⟩ := ih (i + 1) (p + sz pr.1 * sz pr.1) (q + sz pr.2 * sz pr.2) _ n m hd' hh' (by simp at hn; omega) (by omega) (by omega)
    refine ⟨h', g1, ?_⟩
    rw [loopN_succ]
    generalize loopN (s7_L0 Γ0 m x (.int .i64 xs.length) j) n = K at g2 ⊢
    unfold s7_L0
    have e1 : (cellsL (Value.agg [Value.int .i64 pr.1, Value.int .i64 pr.2].toArray)) = [Value.int .i64 pr.1, Value.int .i64 pr.2] := rfl
    have w2 : IntKind.i64.wrap ((i : Int) + 1) = ((i + 1 : Nat) : Int) := by rw [wrap64 (by unfold isI64; omega)]; omega
    have w3 : IntKind.i64.wrap (sz pr.1 * sz pr.1) = sz pr.1 * sz pr.1 := wrap64 (by unfold isI64; omega)
    have w4 : IntKind.i64.wrap (sz pr.2 * sz pr.2) = sz pr.2 * sz pr.2 := wrap64 (by unfold isI64; omega)
    have w5 : IntKind.i64.wrap (p + sz pr.1 * sz pr.1) = p + sz pr.1 * sz pr.1 := wrap64 (by unfold isI64; omega)
    have w6 : IntKind.i64.wrap (q + sz pr.2 * sz pr.2) = q + sz pr.2 * sz pr.2 := wrap64 (by unfold isI64; omega)
    simp only [nth_zero, nth_one, nth_two, binf_lss, Option.bind_some, JL, ifK_bool, decide_eq_true_eq]
    rw [if_pos (by omega)]
    simp only [ha, Option.bind_some, load_agg, hr, Option.map_some, fork]
    rw [store_new _ _ _ _ 2 rfl rfl rfl]
    simp only [e1, Option.bind_some, fieldAddr_ptr, Nat.zero_add, load_cell, readC_new, List.getElem?_cons_zero, List.getElem?_cons_succ, c9 _ ok1, c9 _ ok2, sameQ_self, binf_mul, binf_add, w2, w3, w4, w5, w6, nth_zero, nth_one, nth_two]
    exact g2
/-- The mean of n squares. -/
def mean (f : Int × Int → Int) (xs : List (Int × Int)) : Int := if xs.length = 0 then 0 else ss f 0 xs / xs.length
theorem quo_mean (f : Int × Int → Int) {xs : List (Int × Int)} (hlen : xs.length ≤ 2000) (h0 : xs.length ≠ 0) : binf .quo (.int .i64 (ss f 0 xs)) (.int .i64 xs.length) = some (.int .i64 (mean f xs)) := by
  have hb := ss_bounds f xs 0
  rw [binf_quo _ _ _ (by omega), Int.tdiv_eq_ediv_of_nonneg (by omega)]
  unfold mean
  rw [if_neg h0]
  have h1 : 0 ≤ ss f 0 xs / (xs.length : Int) := Int.ediv_nonneg (by omega) (by omega)
  have h2 : ss f 0 xs / (xs.length : Int) ≤ ss f 0 xs := Int.ediv_le_self _ (by omega)
  rw [wrap64 (by unfold isI64; omega)]
theorem c7 {x : Value} {xs : List (Int × Int)} {h : AHeap} (hp : PairsAt h x xs) (hlen : xs.length ≤ 2000) (hok : ∀ p ∈ xs, isI64 p.1 ∧ isI64 p.2) : Γ0 7 [x] h = some (.tuple #[.int .i64 (mean Prod.fst xs), .int .i64 (mean Prod.snd xs)], h) := by
  refine run_of_body (F := A7) (by kernel_rfl) 3000 ?_
  rw [s7_eq]
  unfold s7
  rw [len_at hp]
  simp only [Option.bind_some, JL]
  obtain ⟨h', h1, h2⟩ := l7 hp hlen hok (fun w2 h3 => (binf .eql (.int .i64 xs.length) (.int .i64 0)).bind fun v5 => ifK v5 (fin h h3 [.int .i64 0, .int .i64 0])
    ((binf .quo (nth [nth w2 0, nth w2 1] 0) (.int .i64 xs.length)).bind fun v10 => (binf .quo (nth [nth w2 0, nth w2 1] 1) (.int .i64 xs.length)).bind fun v12 => fin h h3 [v10, v12])) xs 0 0 0 h 3000 3000 rfl (List.prefix_refl _) (by omega) (by omega) (by omega)
  refine Eq.trans h2 ?_
  simp only [nth_zero, nth_one, binf_eql, Option.bind_some, ifK_bool, beq_iff_eq]
  by_cases h0 : xs.length = 0
  · rw [if_pos (by omega), fin_gc rfl h1]
    unfold mean
    rw [if_pos h0, if_pos h0]
    rfl
  · rw [if_neg (by omega), quo_mean _ hlen h0, quo_mean _ hlen h0]
    simp only [Option.bind_some]
    exact fin_gc rfl h1

end Go.Am.X
