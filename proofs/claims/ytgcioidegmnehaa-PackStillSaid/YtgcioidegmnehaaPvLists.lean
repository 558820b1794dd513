/- Packing: differences, sums, lists filled up, both sides. -/
import Derived.Test.YtgcioidegmnehaaPvOps
set_option linter.unusedSimpArgs false
set_option linter.unusedVariables false
namespace Go.Vm.X
open Go.Am Go.Vm

/-- The number ahead of a number. -/
def prevOf (l : List Int) : Nat → Int
  | 0 => 0
  | i + 1 => l.getD i 0
def diffsN (b : Nat) (l : List Int) (n : Nat) : List Int := (List.range n).map fun i => wrapB b (l.getD i 0 - prevOf l i)
/-- The wrapped differences. -/
def diffs (b : Nat) (l : List Int) : List Int := diffsN b l l.length
theorem diffsN_succ (b : Nat) (l : List Int) (n : Nat) : diffsN b l (n + 1) = diffsN b l n ++ [wrapB b (l.getD n 0 - prevOf l n)] := by simp [diffsN, List.range_succ]
theorem diffsN_len (b : Nat) (l : List Int) (n : Nat) : (diffsN b l n).length = n := by simp [diffsN]
theorem diffs_len (b : Nat) (l : List Int) : (diffs b l).length = l.length := diffsN_len _ _ _
theorem diffs_in (b : Nat) (l : List Int) : ∀ x ∈ diffs b l, inR b x = true := by
  intro x hx
  unfold diffs diffsN at hx
  obtain ⟨i, _, rfl⟩ := List.mem_map.1 hx
  exact wrapB_range _ _
/-- Numbers that fit into 16 bits. -/
def Small (l : List Int) : Prop := ∀ x ∈ l, -32768 ≤ x ∧ x < 32768
theorem small_in {b : Nat} (h2 : b ≤ 16) {x : Int} (h : inR b x = true) : -32768 ≤ x ∧ x < 32768 := by
  have := half_16 h2
  unfold inR at h
  simp only [Bool.and_eq_true, decide_eq_true_eq] at h
  omega
theorem small_diffs {b : Nat} (h2 : b ≤ 16) (l : List Int) : Small (diffs b l) := fun x hx => small_in h2 (diffs_in b l x hx)
theorem small_at {l : List Int} (hs : Small l) (i : Nat) : -32768 ≤ l.getD i 0 ∧ l.getD i 0 < 32768 := by
  rw [List.getD_eq_getElem?_getD]
  cases h : l[i]? with
  | none => simp
  | some a => exact hs a (List.mem_of_getElem? h)
theorem small_prev {l : List Int} (hs : Small l) (i : Nat) : -32768 ≤ prevOf l i ∧ prevOf l i < 32768 := by
  cases i with
  | zero => show -32768 ≤ (0 : Int) ∧ (0 : Int) < 32768; omega
  | succ i => exact small_at hs i
theorem getD_of {l : List Int} {i : Nat} {a : Int} (h : l[i]? = some a) : l.getD i 0 = a := by rw [List.getD_eq_getElem?_getD, h]; rfl
/-- make of numbers. -/
theorem mk_ints (t : TypeId) (n c : Nat) (hc : n ≤ c) (hm : c < 4294967296) (h : PHeap) : mkSliceP t [.int .i64 0] (.int .i64 n) (.int .i64 c) h = some (.ref h.length 0 n n 1, h ++ [.log (List.replicate n (iV 0)) 1 t .rw]) := by
  simp only [mkSliceP]
  rw [if_pos ⟨by omega, by omega, by unfold mostLen; omega⟩]
  simp [iV]
/-- A slice of numbers that is built is what is given. -/
theorem fin_built {h : PHeap} {s : Nat} {t : TypeId} {xs : List Int} (n : Nat) (hn : n = xs.length) : finP [.flat s] h (h ++ [.log (xs.map iV) 1 t .rw]) [.ref h.length 0 n n 1] = some (ints xs, h) := by
  have e := fz_logI (h := h) (l := [.log (xs.map iV) 1 t .rw]) (k := 0) (s := s) n hn rfl
  simp only [Nat.add_zero] at e
  simp only [fin_def, fzL_cons, fzL_nil, e, Option.bind_some, Option.map_some, single_one]
  rw [trim_new _ (fun x hx => by simp only [List.mem_singleton] at hx; subst hx; exact lt_ints _ _)]
theorem c25 {b : Nat} (h1 : 1 ≤ b) (h2 : b ≤ 16) {l : List Int} (hs : Small l) (hm : l.length < 4294967296) (h : PHeap) : Γ0 25 [ints l, .int .i64 b] h = some (ints (diffs b l), h) := by
  refine gbody (F := A25) (by kernel_rfl) (l.length + 1) ?_
  rw [s25_eq]
  unfold s25
  have mk := mk_ints 3 0 l.length (Nat.zero_le _) hm h
  simp only [Int.natCast_zero] at mk
  simp only [len_ints, Option.bind_some, mk, KL_def]
  refine loop_run (fun i => [.ref h.length 0 i i 1, .int .i64 (prevOf l i), .int .i64 i]) (fun i => h ++ [.log ((diffsN b l i).map iV) 1 3 .rw]) l.length (by omega) rfl rfl (fun i hi K => ?_) fun K => ?_
  · obtain ⟨a, ha⟩ := lt_len hi
    have hga := getD_of ha
    have s1 := small_at hs i
    have s2 := small_prev hs i
    rw [hga] at s1
    have hsub : IntKind.i64.wrap (a - prevOf l i) = a - prevOf l i := wrap64 (by unfold isI64; omega)
    have ap := append_one (h := h) (l := [.log ((diffsN b l i).map iV) 1 3 .rw]) (k := 0) (v := .int .i64 (wrapB b (a - prevOf l i))) i (by simp [diffsN_len]) rfl rfl (by unfold mostLen; omega)
    simp only [Nat.add_zero, List.set_cons_zero] at ap
    unfold s25_L0
    simp only [nth_zero, nth_one, nth_two, bin_lss, ltT hi, decide_true, Option.bind_some, KL_def, if_bool, if_true, idx_ints _ ha, load_iV, bin_sub, hsub, c38 h1 h2, fill_int, all_one, pure1, guard_true, chunk_one, fork_def, ap, bin_add, succ64 (show i < 4294967297 by omega)]
    rw [trim_len _ (by simp), diffsN_succ, hga, List.map_append]
    rw [show prevOf l (i + 1) = a from hga]
    rfl
  · unfold s25_L0
    simp only [nth_zero, nth_one, nth_two, bin_lss, ltF, decide_false, Option.bind_some, KL_def, if_bool, Bool.false_eq_true, if_false]
    exact fin_built _ (diffsN_len _ _ _).symm
theorem c27 {b : Nat} (h1 : 1 ≤ b) (h2 : b ≤ 16) {l : List Int} (hs : Small l) (hm : l.length < 4294967296) (h : PHeap) : Γ0 27 [ints l, .int .i64 b] h = some (ints (diffs b l), h) := by
  refine gbody (F := A27) (by kernel_rfl) (l.length + 1) ?_
  rw [s27_eq]
  unfold s27
  simp only [len_ints, Option.bind_some, mk_ints 3 l.length l.length (Nat.le_refl _) hm h, KL_def]
  have hd : ∀ i, i < l.length → True := fun _ _ => trivial
  refine loop_run (fun i => [.int .i64 (prevOf l i), .int .i64 i]) (fun i => h ++ [.log ((filled (fun i => wrapB b (l.getD i 0 - prevOf l i)) 0 l.length i).map iV) 1 3 .rw]) l.length (by omega) rfl (by rw [filled_zero, List.map_replicate]) (fun i hi K => ?_) fun K => ?_
  · obtain ⟨a, ha⟩ := lt_len hi
    have hga := getD_of ha
    have s1 := small_at hs i
    have s2 := small_prev hs i
    rw [hga] at s1
    have hsub : IntKind.i64.wrap (a - prevOf l i) = a - prevOf l i := wrap64 (by unfold isI64; omega)
    have st := store_fill (h := h) (l := [.log ((filled (fun i => wrapB b (l.getD i 0 - prevOf l i)) 0 l.length i).map iV) 1 3 .rw]) (k := 0) rfl hi
    simp only [Nat.add_zero, hga, List.set_cons_zero] at st
    unfold s27_L0
    simp only [nth_zero, nth_one, len_ints, bin_lss, ltT hi, decide_true, Option.bind_some, KL_def, if_bool, if_true, idx_ints _ ha, load_iV, bin_sub, hsub, c43 h1 h2, idx_ref _ hi, Nat.zero_add, st, bin_add, succ64 (show i < 4294967297 by omega)]
    rw [trim_len _ (by simp), show prevOf l (i + 1) = a from hga]
  · unfold s27_L0
    simp only [nth_zero, nth_one, len_ints, bin_lss, ltF, decide_false, Option.bind_some, KL_def, if_bool, Bool.false_eq_true, if_false]
    rw [filled_all]
    exact fin_built _ (diffs_len _ _).symm
/-- The way back: sums. -/
def sumAt (b : Nat) (l : List Int) : Nat → Int
  | 0 => 0
  | i + 1 => wrapB b (sumAt b l i + l.getD i 0)
def sums (b : Nat) (l : List Int) : List Int := (List.range l.length).map fun i => sumAt b l (i + 1)
theorem sums_len (b : Nat) (l : List Int) : (sums b l).length = l.length := by simp [sums]
theorem small_sum {b : Nat} (h2 : b ≤ 16) (l : List Int) (i : Nat) : -32768 ≤ sumAt b l i ∧ sumAt b l i < 32768 := by
  cases i with
  | zero => show -32768 ≤ (0 : Int) ∧ (0 : Int) < 32768; omega
  | succ i => exact small_in h2 (wrapB_range _ _)
theorem small_sums {b : Nat} (h2 : b ≤ 16) (l : List Int) : Small (sums b l) := fun x hx => by
  unfold sums at hx
  obtain ⟨i, _, rfl⟩ := List.mem_map.1 hx
  exact small_sum h2 l _
theorem c41 {b : Nat} (h1 : 1 ≤ b) (h2 : b ≤ 16) {l : List Int} (hs : Small l) (hm : l.length < 4294967296) (h : PHeap) : Γ0 41 [ints l, .int .i64 b] h = some (ints (sums b l), h) := by
  refine gbody (F := A41) (by kernel_rfl) (l.length + 1) ?_
  rw [s41_eq]
  unfold s41
  have mk := mk_ints 3 0 l.length (Nat.zero_le _) hm h
  simp only [Int.natCast_zero] at mk
  simp only [len_ints, Option.bind_some, mk, KL_def]
  refine loop_run (fun i => [.ref h.length 0 i i 1, .int .i64 (sumAt b l i), .int .i64 i]) (fun i => h ++ [.log (((List.range i).map fun i => sumAt b l (i + 1)).map iV) 1 3 .rw]) l.length (by omega) rfl rfl (fun i hi K => ?_) fun K => ?_
  · obtain ⟨a, ha⟩ := lt_len hi
    have hga := getD_of ha
    have s1 := small_at hs i
    have s2 := small_sum h2 l i
    rw [hga] at s1
    have hsub : IntKind.i64.wrap (sumAt b l i + a) = sumAt b l i + a := wrap64 (by unfold isI64; omega)
    have hn : wrapB b (sumAt b l i + a) = sumAt b l (i + 1) := by rw [sumAt, hga]
    have ap := append_one (h := h) (l := [.log (((List.range i).map fun i => sumAt b l (i + 1)).map iV) 1 3 .rw]) (k := 0) (v := .int .i64 (sumAt b l (i + 1))) i (by simp) rfl rfl (by unfold mostLen; omega)
    simp only [Nat.add_zero, List.set_cons_zero] at ap
    unfold s41_L0
    simp only [nth_zero, nth_one, nth_two, bin_lss, ltT hi, decide_true, Option.bind_some, KL_def, if_bool, if_true, idx_ints _ ha, load_iV, bin_add, hsub, c38 h1 h2, hn, fill_int, all_one, pure1, guard_true, chunk_one, fork_def, ap, succ64 (show i < 4294967297 by omega)]
    rw [trim_len _ (by simp), List.range_succ, List.map_append, List.map_append]
    rfl
  · unfold s41_L0
    simp only [nth_zero, nth_one, nth_two, bin_lss, ltF, decide_false, Option.bind_some, KL_def, if_bool, Bool.false_eq_true, if_false]
    exact fin_built _ (sums_len _ _).symm
theorem c45 {b : Nat} (h1 : 1 ≤ b) (h2 : b ≤ 16) {l : List Int} (hs : Small l) (hm : l.length < 4294967296) (h : PHeap) : Γ0 45 [ints l, .int .i64 b] h = some (ints (sums b l), h) := by
  refine gbody (F := A45) (by kernel_rfl) (l.length + 1) ?_
  rw [s45_eq]
  unfold s45
  simp only [len_ints, Option.bind_some, mk_ints 3 l.length l.length (Nat.le_refl _) hm h, KL_def]
  refine loop_run (fun i => [.int .i64 (sumAt b l i), .int .i64 i]) (fun i => h ++ [.log ((filled (fun i => sumAt b l (i + 1)) 0 l.length i).map iV) 1 3 .rw]) l.length (by omega) rfl (by rw [filled_zero, List.map_replicate]) (fun i hi K => ?_) fun K => ?_
  · obtain ⟨a, ha⟩ := lt_len hi
    have hga := getD_of ha
    have s1 := small_at hs i
    have s2 := small_sum h2 l i
    rw [hga] at s1
    have hsub : IntKind.i64.wrap (sumAt b l i + a) = sumAt b l i + a := wrap64 (by unfold isI64; omega)
    have hn : wrapB b (sumAt b l i + a) = sumAt b l (i + 1) := by rw [sumAt, hga]
    have st := store_fill (h := h) (l := [.log ((filled (fun i => sumAt b l (i + 1)) 0 l.length i).map iV) 1 3 .rw]) (k := 0) rfl hi
    simp only [Nat.add_zero, List.set_cons_zero] at st
    unfold s45_L0
    simp only [nth_zero, nth_one, len_ints, bin_lss, ltT hi, decide_true, Option.bind_some, KL_def, if_bool, if_true, idx_ints _ ha, load_iV, bin_add, hsub, c43 h1 h2, hn, idx_ref _ hi, Nat.zero_add, st, succ64 (show i < 4294967297 by omega)]
    rw [trim_len _ (by simp)]
  · unfold s45_L0
    simp only [nth_zero, nth_one, len_ints, bin_lss, ltF, decide_false, Option.bind_some, KL_def, if_bool, Bool.false_eq_true, if_false]
    rw [filled_all]
    exact fin_built _ (sums_len _ _).symm
end Go.Vm.X
