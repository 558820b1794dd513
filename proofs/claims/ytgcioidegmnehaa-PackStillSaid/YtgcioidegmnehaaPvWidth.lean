/- Packing: the width of a block, both sides. -/
import Derived.Test.YtgcioidegmnehaaPvDelta
set_option linter.unusedSimpArgs false
set_option linter.unusedVariables false
namespace Go.Vm.X
open Go.Am Go.Vm

def needF : Nat → Int → Nat → Nat
  | 0, _, w => w
  | f + 1, x, w => if inR w x then w else needF f x (w + 1)
def widthF (l : List Int) : Nat := l.foldl (fun w x => needF (16 - w) x w) 1
theorem needF_range (x : Int) : ∀ f w, w + f = 16 → w ≤ needF f x w ∧ needF f x w ≤ 16 := by
  intro f
  induction f with
  | zero => intro w h; unfold needF; omega
  | succ f ih =>
    intro w h
    unfold needF
    split
    · omega
    · have := ih (w + 1) (by omega); omega
theorem width_range (l : List Int) : 1 ≤ widthF l ∧ widthF l ≤ 16 := by
  unfold widthF
  have : ∀ (l : List Int) w, 1 ≤ w → w ≤ 16 → 1 ≤ l.foldl (fun w x => needF (16 - w) x w) w ∧ l.foldl (fun w x => needF (16 - w) x w) w ≤ 16 := by
    intro l
    induction l with
    | nil => intro w h1 h2; exact ⟨h1, h2⟩
    | cons x r ih =>
      intro w h1 h2
      have := needF_range x (16 - w) w (by omega)
      exact ih _ (Nat.le_trans h1 this.1) this.2
  exact this l 1 (by omega) (by omega)
theorem width_succ {l : List Int} {i : Nat} {a : Int} (hi : l[i]? = some a) : widthF (l.take (i + 1)) = needF (16 - widthF (l.take i)) a (widthF (l.take i)) := by
  rw [take_succ_get hi]; unfold widthF; rw [List.foldl_append]; rfl
theorem small_16 {x : Int} (h : -32768 ≤ x ∧ x < 32768) : inR 16 x = true := by
  have e : half 16 = 32768 := rfl
  unfold inR
  rw [e]
  simp only [Bool.and_eq_true, decide_eq_true_eq]
  omega
theorem loopP_succ {R : Type} (B : (List PV → PHeap → Option R) → List PV → PHeap → Option R) (n : Nat) (vs : List PV) (h : PHeap) : loopP B (n + 1) vs h = B (loopP B n) vs h := rfl
theorem need_of {w : Nat} {x : Int} (f : Nat) : needF (f + 1) x w = if inR w x then w else needF f x (w + 1) := rfl
theorem need_16 {x : Int} (hx : inR 16 x = true) : needF 0 x 16 = 16 := rfl
/-- A loop that asks whether a width is enough. -/
theorem asks {x : Int} (hx : inR 16 x = true) {B : (List PV → PHeap → Pt) → List PV → PHeap → Pt} {h : PHeap} {pre : List PV} {out : Nat → Pt} (hB : ∀ (w : Nat) (rest : List PV) K, 1 ≤ w → w ≤ 16 → (∃ r2, inR w x = false → B K (.int .i64 w :: rest) h = K (.int .i64 ((w + 1 : Nat) : Int) :: r2) h) ∧ (inR w x = true → B K (.int .i64 w :: rest) h = out w)) :
    ∀ (f w m : Nat) (rest : List PV), w + f = 16 → 1 ≤ w → f < m → loopP B m (.int .i64 w :: rest) h = out (needF f x w) := by
  intro f
  induction f with
  | zero =>
    intro w m rest h1 h2 h3
    obtain ⟨m, rfl⟩ : ∃ k, m = k + 1 := ⟨m - 1, by omega⟩
    obtain rfl : w = 16 := by omega
    rw [loopP_succ, (hB 16 rest _ h2 (by omega)).2 hx]
    rfl
  | succ f ih =>
    intro w m rest h1 h2 h3
    obtain ⟨m, rfl⟩ : ∃ k, m = k + 1 := ⟨m - 1, by omega⟩
    obtain ⟨⟨r2, k1⟩, k2⟩ := hB w rest (loopP B m) h2 (by omega)
    rw [loopP_succ, need_of]
    cases hr : inR w x with
    | true => rw [k2 hr]; rfl
    | false => rw [k1 hr, ih (w + 1) m r2 (by omega) (by omega) (by omega)]; rfl
theorem needLoop {x : Int} (hx : inR 16 x = true) {n : Nat} {j : List PV → PHeap → Pt} {h : PHeap} (f w m : Nat) (rest : List PV) (h1 : w + f = 16) (h2 : 1 ≤ w) (h3 : f < m) :
    loopP (s30_L0 Γ0 n h (.int .i64 x) j) m (.int .i64 w :: rest) h = j [.int .i64 (needF f x w), .junk, .junk, .junk, .junk, .junk] h := by
  refine asks (out := fun w => j [.int .i64 w, .junk, .junk, .junk, .junk, .junk] h) (pre := []) hx (fun w rest K g1 g2 => ?_) f w m rest h1 h2 h3
  have w62 : w ≤ 62 := by omega
  have key : s30_L0 Γ0 n h (.int .i64 x) j K (.int .i64 w :: rest) h = if inR w x then j [.int .i64 w, .junk, .junk, .junk, .junk, .junk] h else K [.int .i64 ((w + 1 : Nat) : Int), .junk, .junk, .junk, .junk, .junk] h := by
    unfold s30_L0
    simp only [nth_zero, bin_sub, sub_one g1 w62, Option.bind_some, shl_half g1 g2, shl_nhalf g1 g2, bin_lss, bin_geq, K1_def, KL_def, sc_or, if_bool, bin_add, succ64 (show w < 4294967297 by omega), trim_self]
    unfold inR
    by_cases k1 : x < -half w
    · have k2 : ¬ -half w ≤ x := by omega
      simp [k1, k2]
    · have k2 : -half w ≤ x := by omega
      by_cases k3 : x ≥ half w
      · have k4 : ¬ x < half w := by omega
        simp [k1, k2, k3, k4]
      · have k4 : x < half w := by omega
        simp [k1, k2, k3, k4]
  exact ⟨⟨_, fun hr => by rw [key, hr]; rfl⟩, fun hr => by rw [key, hr]; rfl⟩
theorem c30 {l : List Int} (hs : Small l) (hm : l.length ≤ 100000) (h : PHeap) : Γ0 30 [ints l] h = some (.int .i64 (widthF l), h) := by
  refine gbody (F := A30) (by kernel_rfl) (l.length + 20) ?_
  rw [s30_eq]
  unfold s30
  simp only [len_ints, Option.bind_some, KL_def]
  let z : Nat → PV := fun i => if i = 0 then undefP else .junk
  refine loop_pure (fun i => [.int .i64 (widthF (l.take i)), .int .i64 i, z i, z i, z i, z i, z i]) l.length (by omega) rfl (fun i hi K => ?_) fun K => ?_
  · obtain ⟨a, ha⟩ := lt_len hi
    have hx := small_16 (hs a (List.mem_of_getElem? ha))
    have hw := width_range (l.take i)
    unfold s30_L1
    simp only [nth_zero, nth_one, nth_two, nth_three, nth_succ, bin_lss, ltT hi, decide_true, Option.bind_some, KL_def, if_bool, if_true, idx_ints _ ha, load_iV]
    rw [needLoop hx (16 - widthF (l.take i)) _ _ _ (by omega) hw.1 (by omega)]
    simp only [nth_zero, nth_one, nth_two, nth_three, nth_four, nth_five, nth_succ, bin_add, succ64 (show i < 4294967297 by omega), Option.bind_some, trim_self]
    rw [← width_succ ha]
    rfl
  · unfold s30_L1
    simp only [nth_zero, nth_one, nth_succ, bin_lss, ltF, decide_false, Option.bind_some, KL_def, if_bool, Bool.false_eq_true, if_false, fin_int0, List.take_length]
theorem fitLoop {l : List Int} {i : Nat} {x : Int} {w48 : List PV} (h48 : nthP w48 1 = .int .i64 i) (ha : l[i]? = some x) (hx : inR 16 x = true) {n : Nat} {j : List PV → PHeap → Pt} {h : PHeap} (f w m : Nat) (h1 : w + f = 16) (h2 : 1 ≤ w) (h3 : f < m) :
    loopP (s34_L1 Γ0 n (ints l) w48 h j) m [.int .i64 w] h = j [.int .i64 (needF f x w)] h := by
  refine asks (out := fun w => j [.int .i64 w] h) (pre := []) hx (fun w rest K g1 g2 => ?_) f w m [] h1 h2 h3
  have key : s34_L1 Γ0 n (ints l) w48 h j K (.int .i64 w :: rest) h = if inR w x then j [.int .i64 w] h else K [.int .i64 ((w + 1 : Nat) : Int)] h := by
    unfold s34_L1
    simp only [nth_zero, h48, idx_ints _ ha, load_iV, Option.bind_some, c54 g1 g2, un_not, KL_def, if_bool, bin_add, succ64 (show w < 4294967297 by omega), trim_self]
    cases hr : inR w x <;> simp
  exact ⟨⟨_, fun hr => by rw [key, hr]; rfl⟩, fun hr => by rw [key, hr]; rfl⟩
end Go.Vm.X
