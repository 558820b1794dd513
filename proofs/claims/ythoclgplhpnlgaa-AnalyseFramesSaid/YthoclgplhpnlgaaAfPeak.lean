/- AnalyseFrames: the greatest amounts. -/
import Derived.Test.YthoclgplhpnlgaaAm27
import Derived.Test.YthoclgplhpnlgaaGen
set_option linter.unusedSimpArgs false
set_option linter.unusedVariables false
namespace Go.Am.X
noncomputable abbrev Γ0 : Callee := run noCallee T
def bnd (n : Int) : Int := min (max n (-1048576)) 1048576
def sz (n : Int) : Int := min 1048576 (max n (-n))
theorem bnd_bounds (n : Int) : -1048576 ≤ bnd n ∧ bnd n ≤ 1048576 := by unfold bnd; omega
theorem sz_bounds (n : Int) : 0 ≤ sz n ∧ sz n ≤ 1048576 := by unfold sz; omega
theorem sz_bnd (n : Int) : sz n = max (bnd n) (-bnd n) := by unfold sz bnd; omega
theorem c8 (n : Int) (h : AHeap) : Γ0 8 [.int .i64 n] h = some (.int .i64 (bnd n), h) := by
  refine run_of_body (F := A8) (by kernel_rfl) 1 ?_
  rw [s8_eq]
  unfold s8
  simp only [fold1_two, max2_i, min2_i, Option.bind_some, fin_self, single]
  rfl
theorem c9 (n : Int) (hn : isI64 n) (h : AHeap) : Γ0 9 [.int .i64 n, .int .i64 1048576] h = some (.int .i64 (sz n), h) := by
  refine run_of_body (F := A9) (by kernel_rfl) 1 ?_
  rw [s9_eq]
  unfold s9
  unfold isI64 at hn
  have w1 : IntKind.i64.wrap (0 - 1048576) = -1048576 := by decide
  simp only [unf_neg, w1, Option.bind_some, binf_lss, JL, ifK_bool, decide_eq_true_eq]
  split
  · rename_i hlt
    have w2 : IntKind.i64.wrap (0 - -1048576) = 1048576 := by decide
    simp only [nth_zero, unf_neg, w2, fold1_two, max2_i, min2_i, Option.bind_some, fin_self, single]
    have : sz n = min 1048576 (max (-1048576) 1048576) := by unfold sz; omega
    rw [this]
  · rename_i hlt
    have w2 : IntKind.i64.wrap (0 - n) = 0 - n := wrap64 (by unfold isI64; omega)
    simp only [nth_zero, unf_neg, w2, fold1_two, max2_i, min2_i, Option.bind_some, fin_self, single]
    have : sz n = min 1048576 (max n (0 - n)) := by unfold sz; omega
    rw [this]

def peak : Int → Int → List (Int × Int) → Int × Int
  | p, q, [] => (p, q)
  | p, q, x :: xs => peak (max p (sz x.1)) (max q (sz x.2)) xs

/-- A frame, copied to a variable of its own. -/
theorem frame_at {x : Value} {xs : List (Int × Int)} {h0 h : AHeap} (hp : PairsAt h0 x xs) (hh : h0 <+: h) {i : Nat} {p : Int × Int} (hi : xs[i]? = some p) :
    ∃ b o, indexAddrf 2 x (.int .i64 i) = some (ptrTo b o) ∧ readN h b o 2 = some [.int .i64 p.1, .int .i64 p.2] := by
  obtain ⟨a, cap, rfl, _, hall⟩ := hp.mono hh
  obtain ⟨b, o, rfl, hr⟩ := hall i p hi
  have hlt : i < xs.length := (List.getElem?_eq_some_iff.1 hi).1
  exact ⟨b, o + i * 2, indexAddr_slice 2 b o _ _ i hlt, hr⟩
theorem len_at {x : Value} {xs : List (Int × Int)} {h0 : AHeap} (hp : PairsAt h0 x xs) : lenf false x = some (.int .i64 xs.length) := by
  obtain ⟨a, cap, rfl, _, _⟩ := hp
  rfl
theorem drop_cons {α : Type} {xs rest : List α} {i : Nat} {p : α} (h : xs.drop i = p :: rest) : xs[i]? = some p ∧ xs.drop (i + 1) = rest ∧ i < xs.length := by
  have h1 : (xs.drop i)[0]? = some p := by rw [h]; rfl
  rw [List.getElem?_drop] at h1
  refine ⟨h1, ?_, (List.getElem?_eq_some_iff.1 h1).1⟩
  rw [← List.tail_drop, h]
  rfl

theorem l4 {x : Value} {xs : List (Int × Int)} {h0 : AHeap} (hp : PairsAt h0 x xs) (hlen : xs.length ≤ 2000) (j : List Value → AHeap → Rt) :
    ∀ (rest : List (Int × Int)) (i : Nat) (p q : Int) (h : AHeap) (n m : Nat), xs.drop i = rest → h0 <+: h → rest.length < n →
      ∃ h', h0 <+: h' ∧ loopN (s4_L0 Γ0 m x (.int .i64 xs.length) j) n [.int .i64 p, .int .i64 q, .int .i64 i] h = j [.int .i64 (peak p q rest).1, .int .i64 (peak p q rest).2] h' := by
  intro rest
  induction rest with
  | nil =>
    intro i p q h n m hd hh hn
    obtain ⟨n, rfl⟩ : ∃ k, n = k + 1 := ⟨n - 1, by simp at hn; omega⟩
    have hi : xs.length ≤ i := by simpa using hd
    refine ⟨h, hh, ?_⟩
    rw [loopN_succ]
    unfold s4_L0
    simp only [nth_zero, nth_one, nth_two, binf_lss, Option.bind_some, JL, ifK_bool, decide_eq_true_eq]
    rw [if_neg (by omega)]
    rfl
  | cons pr rest ih =>
    intro i p q h n m hd hh hn
    obtain ⟨n, rfl⟩ : ∃ k, n = k + 1 := ⟨n - 1, by simp at hn; omega⟩
    obtain ⟨hi, hd', hlt⟩ := drop_cons hd
    obtain ⟨b, o, ha, hr⟩ := frame_at hp hh hi
    have hh' : h0 <+: h ++ [.cells [.int .i64 pr.1, .int .i64 pr.2] 27 true] := hh.trans (pre_app _ _)
    obtain ⟨h', g1, g2⟩ := ih (i + 1) (max p (sz pr.1)) (max q (sz pr.2)) _ n m hd' hh' (by simp at hn; omega)
    refine ⟨h', g1, ?_⟩
    rw [loopN_succ]
    generalize loopN (s4_L0 Γ0 m x (.int .i64 xs.length) j) n = K at g2 ⊢
    unfold s4_L0
    have e1 : (cellsL (Value.agg [Value.int .i64 pr.1, Value.int .i64 pr.2].toArray)) = [Value.int .i64 pr.1, Value.int .i64 pr.2] := rfl
    have w1 : ∀ z, IntKind.i64.wrap (0 - bnd z) = -bnd z := fun z => by rw [wrap64 (by have := bnd_bounds z; unfold isI64; omega)]; omega
    have w2 : IntKind.i64.wrap ((i : Int) + 1) = ((i + 1 : Nat) : Int) := by rw [wrap64 (by unfold isI64; omega)]; omega
    have m1 : ∀ p z : Int, max (max p (bnd z)) (-bnd z) = max p (sz z) := fun p z => by rw [sz_bnd]; omega
    simp only [nth_zero, nth_one, nth_two, binf_lss, Option.bind_some, JL, ifK_bool, decide_eq_true_eq]
    rw [if_pos (by omega)]
    simp only [ha, Option.bind_some, load_agg, hr, Option.map_some, fork]
    rw [store_new _ _ _ _ 2 rfl rfl rfl]
    simp only [e1, Option.bind_some, fieldAddr_ptr, Nat.zero_add, load_cell, readC_new, List.getElem?_cons_zero, List.getElem?_cons_succ, c8, sameQ_self, unf_neg, w1, fold1_three, max2_i, binf_add, w2, m1, nth_zero, nth_one, nth_two]
    exact g2
theorem c4 {x : Value} {xs : List (Int × Int)} {h : AHeap} (hp : PairsAt h x xs) (hlen : xs.length ≤ 2000) : Γ0 4 [x] h = some (.tuple #[.int .i64 (peak 0 0 xs).1, .int .i64 (peak 0 0 xs).2], h) := by
  refine run_of_body (F := A4) (by kernel_rfl) 3000 ?_
  rw [s4_eq]
  unfold s4
  rw [len_at hp]
  simp only [Option.bind_some, JL]
  obtain ⟨h', h1, h2⟩ := l4 hp hlen (fun w2 h3 => fin h h3 [(nth w2 0), (nth w2 1)]) xs 0 0 0 h 3000 3000 rfl (List.prefix_refl _) (by omega)
  refine Eq.trans h2 ?_
  simp only [nth_zero, nth_one]
  exact fin_gc rfl h1

end Go.Am.X
