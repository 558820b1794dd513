/- One part of the proof. -/
import Derived.Test.YtgcioidegmnehaaP4
import Derived.Shelf.Sort.AssemblyIn
import Derived.Shelf.Slices.In.SortNone
import Derived.Test.YtgcioidegmnehaaChecked
set_option linter.unusedSimpArgs false
set_option linter.unusedVariables false
set_option linter.unusedSimpArgs false
set_option linter.unusedVariables false
namespace Go.Vm.X
open Go.Am Go.Vm
def prevOf (l : List Int) : Nat → Int
  | 0 => 0
  | i + 1 => l.getD i 0
def diffsN (b : Nat) (l : List Int) (n : Nat) : List Int := (List.range n).map fun i => wrapB b (l.getD i 0 - prevOf l i)
def diffs (b : Nat) (l : List Int) : List Int := diffsN b l l.length
theorem diffsN_succ (b : Nat) (l : List Int) (n : Nat) : diffsN b l (n + 1) = diffsN b l n ++ [wrapB b (l.getD n 0 - prevOf l n)] := by simp [diffsN, List.range_succ]
theorem diffsN_len (b : Nat) (l : List Int) (n : Nat) : (diffsN b l n).length = n := by simp [diffsN]
theorem diffs_len (b : Nat) (l : List Int) : (diffs b l).length = l.length := diffsN_len _ _ _
theorem diffs_in (b : Nat) (l : List Int) : ∀ x ∈ diffs b l, inR b x = true := by
  intro x hx
  unfold diffs diffsN at hx
  obtain ⟨i, _, rfl⟩ := List.mem_map.1 hx
  exact wrapB_range _ _
def Small (l : List Int) : Prop := ∀ x ∈ l, -32768 ≤ x ∧ x < 32768
theorem small_in {b : Nat} (h2 : b ≤ 16) {x : Int} (h : inR b x = true) : -32768 ≤ x ∧ x < 32768 := by
  have := half_16 h2
  unfold inR at h
  simp only [Bool.and_eq_true, decide_eq_true_eq] at h
  omega
theorem small_diffs {b : Nat} (h2 : b ≤ 16) (l : List Int) : Small (diffs b l) := fun x hx => small_in h2 (diffs_in b l x hx)
theorem small_at {l : List Int} (hs : Small l) (i : Nat) : -32768 ≤ l.getD i 0 ∧ l.getD i 0 < 32768 := by
  rw [List.getD_eq_getElem?_getD]
  cases h : l[i]? with
  | none => simp
  | some a => exact hs a (List.mem_of_getElem? h)
theorem small_prev {l : List Int} (hs : Small l) (i : Nat) : -32768 ≤ prevOf l i ∧ prevOf l i < 32768 := by
  cases i with
  | zero => show -32768 ≤ (0 : Int) ∧ (0 : Int) < 32768; omega
  | succ i => exact small_at hs i
theorem getD_of {l : List Int} {i : Nat} {a : Int} (h : l[i]? = some a) : l.getD i 0 = a := by rw [List.getD_eq_getElem?_getD, h]; rfl
theorem mk_ints (t : TypeId) (n c : Nat) (hc : n ≤ c) (hm : c < 4294967296) (h : PHeap) : mkSliceP t [.int .i64 0] (.int .i64 n) (.int .i64 c) h = some (.ref h.length 0 n n 1, h ++ [.log (List.replicate n (iV 0)) 1 t .rw]) := by
  simp only [mkSliceP]
  rw [if_pos ⟨by omega, by omega, by unfold mostLen; omega⟩]
  simp [iV]
theorem fin_built {h : PHeap} {s : Nat} {t : TypeId} {xs : List Int} (n : Nat) (hn : n = xs.length) : finP [.flat s] h (h ++ [.log (xs.map iV) 1 t .rw]) [.ref h.length 0 n n 1] = some (ints xs, h) := by
  have e := fz_logI (h := h) (l := [.log (xs.map iV) 1 t .rw]) (k := 0) (s := s) n hn rfl
  simp only [Nat.add_zero] at e
  simp only [fin_def, fzL_cons, fzL_nil, e, Option.bind_some, Option.map_some, single_one]
  rw [trim_new _ (fun x hx => by simp only [List.mem_singleton] at hx; subst hx; exact lt_ints _ _)]
theorem c25 {b : Nat} (h1 : 1 ≤ b) (h2 : b ≤ 16) {l : List Int} (hs : Small l) (hm : l.length < 4294967296) (h : PHeap) : Γ0 25 [ints l, .int .i64 b] h = some (ints (diffs b l), h) := by
  refine gbody (F := A25) (by kernel_rfl) (l.length + 1) ?_
  rw [s25_eq]
  unfold s25
  have mk := mk_ints 3 0 l.length (Nat.zero_le _) hm h
  simp only [Int.natCast_zero] at mk
  simp only [len_ints, Option.bind_some, mk, KL_def]
  refine loop_run (fun i => [.ref h.length 0 i i 1, .int .i64 (prevOf l i), .int .i64 i]) (fun i => h ++ [.log ((diffsN b l i).map iV) 1 3 .rw]) l.length (by omega) rfl rfl (fun i hi K => ?_) fun K => ?_
  · obtain ⟨a, ha⟩ := lt_len hi
    have hga := getD_of ha
    have s1 := small_at hs i
    have s2 := small_prev hs i
    rw [hga] at s1
    have hsub : IntKind.i64.wrap (a - prevOf l i) = a - prevOf l i := wrap64 (by unfold isI64; omega)
    have ap := append_one (h := h) (l := [.log ((diffsN b l i).map iV) 1 3 .rw]) (k := 0) (v := .int .i64 (wrapB b (a - prevOf l i))) i (by simp [diffsN_len]) rfl rfl (by unfold mostLen; omega)
    simp only [Nat.add_zero, List.set_cons_zero] at ap
    unfold s25_L0
    simp only [nth_zero, nth_one, nth_two, bin_lss, ltT hi, decide_true, Option.bind_some, KL_def, if_bool, if_true, idx_ints _ ha, load_iV, bin_sub, hsub, c38 h1 h2, fill_int, all_one, pure1, guard_true, chunk_one, fork_def, ap, bin_add, succ64 (show i < 4294967297 by omega)]
    rw [trim_len _ (by simp), diffsN_succ, hga, List.map_append]
    rw [show prevOf l (i + 1) = a from hga]
    rfl
  · unfold s25_L0
    simp only [nth_zero, nth_one, nth_two, bin_lss, ltF, decide_false, Option.bind_some, KL_def, if_bool, Bool.false_eq_true, if_false]
    exact fin_built _ (diffsN_len _ _ _).symm
theorem c27 {b : Nat} (h1 : 1 ≤ b) (h2 : b ≤ 16) {l : List Int} (hs : Small l) (hm : l.length < 4294967296) (h : PHeap) : Γ0 27 [ints l, .int .i64 b] h = some (ints (diffs b l), h) := by
  refine gbody (F := A27) (by kernel_rfl) (l.length + 1) ?_
  rw [s27_eq]
  unfold s27
  simp only [len_ints, Option.bind_some, mk_ints 3 l.length l.length (Nat.le_refl _) hm h, KL_def]
  have hd : ∀ i, i < l.length → True := fun _ _ => trivial
  refine loop_run (fun i => [.int .i64 (prevOf l i), .int .i64 i]) (fun i => h ++ [.log ((filled (fun i => wrapB b (l.getD i 0 - prevOf l i)) 0 l.length i).map iV) 1 3 .rw]) l.length (by omega) rfl (by rw [filled_zero, List.map_replicate]) (fun i hi K => ?_) fun K => ?_
  · obtain ⟨a, ha⟩ := lt_len hi
    have hga := getD_of ha
    have s1 := small_at hs i
    have s2 := small_prev hs i
    rw [hga] at s1
    have hsub : IntKind.i64.wrap (a - prevOf l i) = a - prevOf l i := wrap64 (by unfold isI64; omega)
    have st := store_fill (h := h) (l := [.log ((filled (fun i => wrapB b (l.getD i 0 - prevOf l i)) 0 l.length i).map iV) 1 3 .rw]) (k := 0) rfl hi
    simp only [Nat.add_zero, hga, List.set_cons_zero] at st
    unfold s27_L0
    simp only [nth_zero, nth_one, len_ints, bin_lss, ltT hi, decide_true, Option.bind_some, KL_def, if_bool, if_true, idx_ints _ ha, load_iV, bin_sub, hsub, c43 h1 h2, idx_ref _ hi, Nat.zero_add, st, bin_add, succ64 (show i < 4294967297 by omega)]
    rw [trim_len _ (by simp), show prevOf l (i + 1) = a from hga]
  · unfold s27_L0
    simp only [nth_zero, nth_one, len_ints, bin_lss, ltF, decide_false, Option.bind_some, KL_def, if_bool, Bool.false_eq_true, if_false]
    rw [filled_all]
    exact fin_built _ (diffs_len _ _).symm
def sumAt (b : Nat) (l : List Int) : Nat → Int
  | 0 => 0
  | i + 1 => wrapB b (sumAt b l i + l.getD i 0)
def sums (b : Nat) (l : List Int) : List Int := (List.range l.length).map fun i => sumAt b l (i + 1)
theorem sums_len (b : Nat) (l : List Int) : (sums b l).length = l.length := by simp [sums]
theorem small_sum {b : Nat} (h2 : b ≤ 16) (l : List Int) (i : Nat) : -32768 ≤ sumAt b l i ∧ sumAt b l i < 32768 := by
  cases i with
  | zero => show -32768 ≤ (0 : Int) ∧ (0 : Int) < 32768; omega
  | succ i => exact small_in h2 (wrapB_range _ _)
theorem c41 {b : Nat} (h1 : 1 ≤ b) (h2 : b ≤ 16) {l : List Int} (hs : Small l) (hm : l.length < 4294967296) (h : PHeap) : Γ0 41 [ints l, .int .i64 b] h = some (ints (sums b l), h) := by
  refine gbody (F := A41) (by kernel_rfl) (l.length + 1) ?_
  rw [s41_eq]
  unfold s41
  have mk := mk_ints 3 0 l.length (Nat.zero_le _) hm h
  simp only [Int.natCast_zero] at mk
  simp only [len_ints, Option.bind_some, mk, KL_def]
  refine loop_run (fun i => [.ref h.length 0 i i 1, .int .i64 (sumAt b l i), .int .i64 i]) (fun i => h ++ [.log (((List.range i).map fun i => sumAt b l (i + 1)).map iV) 1 3 .rw]) l.length (by omega) rfl rfl (fun i hi K => ?_) fun K => ?_
  · obtain ⟨a, ha⟩ := lt_len hi
    have hga := getD_of ha
    have s1 := small_at hs i
    have s2 := small_sum h2 l i
    rw [hga] at s1
    have hsub : IntKind.i64.wrap (sumAt b l i + a) = sumAt b l i + a := wrap64 (by unfold isI64; omega)
    have hn : wrapB b (sumAt b l i + a) = sumAt b l (i + 1) := by rw [sumAt, hga]
    have ap := append_one (h := h) (l := [.log (((List.range i).map fun i => sumAt b l (i + 1)).map iV) 1 3 .rw]) (k := 0) (v := .int .i64 (sumAt b l (i + 1))) i (by simp) rfl rfl (by unfold mostLen; omega)
    simp only [Nat.add_zero, List.set_cons_zero] at ap
    unfold s41_L0
    simp only [nth_zero, nth_one, nth_two, bin_lss, ltT hi, decide_true, Option.bind_some, KL_def, if_bool, if_true, idx_ints _ ha, load_iV, bin_add, hsub, c38 h1 h2, hn, fill_int, all_one, pure1, guard_true, chunk_one, fork_def, ap, succ64 (show i < 4294967297 by omega)]
    rw [trim_len _ (by simp), List.range_succ, List.map_append, List.map_append]
    rfl
  · unfold s41_L0
    simp only [nth_zero, nth_one, nth_two, bin_lss, ltF, decide_false, Option.bind_some, KL_def, if_bool, Bool.false_eq_true, if_false]
    exact fin_built _ (sums_len _ _).symm
end Go.Vm.X


set_option linter.unusedSimpArgs false
set_option linter.unusedVariables false
namespace Go.Vm.X
open Go.Am Go.Vm
theorem fin_bytes {h : PHeap} {s : Nat} {t : TypeId} {xs : List Nat} (e : Int) : finP [.flat s, .keep] h (h ++ [.log (xs.map u8V) 1 t .rw]) [.ref h.length 0 xs.length xs.length 1, .int .i64 e] = some (.tuple [u8s xs, .int .i64 e], h) := by
  have e := fz_logB (h := h) (l := [.log (xs.map u8V) 1 t .rw]) (k := 0) (s := s) xs.length rfl rfl
  simp only [Nat.add_zero] at e
  simp only [fin_def, fzL_cons, fzL_nil, fz_keep, e, Option.bind_some, Option.map_some, single_two]
  rw [trim_new _ (fun x hx => by simp only [List.mem_cons, List.not_mem_nil, or_false] at hx; rcases hx with rfl | rfl <;> first | exact lt_u8s _ _ | exact lt_int _ _ _)]
theorem fin_err {h : PHeap} {e : Int} : finP [.flat 1, .keep] h h [.nilS, .int .i64 e] = some (.tuple [u8s [], .int .i64 e], h) := by
  simp only [fin_def, fzL_cons, fzL_nil, fz_keep, fz_nil, Option.bind_some, Option.map_some, single_two, trim_self]
  rfl
theorem chk_zero {l : List Int} {bits : Int} (h : chk l bits = 0) : ∃ b : Nat, bits = b ∧ (b = 8 ∨ b = 16) ∧ l.all (inR b) = true ∧ l.length ≤ 4096 := by
  unfold chk at h
  split at h
  · rename_i hr
    obtain ⟨b, rfl, hb⟩ := right_nat hr
    rw [Int.toNat_natCast] at h
    split at h
    · rename_i ha
      split at h
      · cases h
      · exact ⟨b, rfl, hb, ha, by omega⟩
    · cases h
  · cases h
theorem small_all {b : Nat} (h2 : b ≤ 16) {l : List Int} (h : l.all (inR b) = true) : Small l := fun x hx => small_in h2 (List.all_eq_true.1 h x hx)
theorem ne0 (a : Int) : ((a != 0) = true) ↔ a ≠ 0 := by simp
def byteStr (l : List Nat) : ByteArray := ⟨(l.map UInt8.ofNat).toArray⟩
theorem bytes_map (l : List Nat) : bytesP (l.map u8V) = some (l.map UInt8.ofNat) := by
  induction l with
  | nil => rfl
  | cons a t ih => simp only [List.map_cons, u8V, bytesP] ; rw [show List.map u8V t = t.map u8V from rfl, ih]; rfl
theorem str_u8s (l : List Nat) (h : PHeap) : bytesToStrP (u8s l) h = some (.str (byteStr l)) := by
  unfold bytesToStrP u8s
  simp only [rows_frz, Option.bind_some, bytes_map, Option.map_some]
  rfl
end Go.Vm.X


set_option linter.unusedSimpArgs false
set_option linter.unusedVariables false
namespace Go.Vm.X
open Go.Am Go.Vm
def needF : Nat → Int → Nat → Nat
  | 0, _, w => w
  | f + 1, x, w => if inR w x then w else needF f x (w + 1)
def widthF (l : List Int) : Nat := l.foldl (fun w x => needF (16 - w) x w) 1
theorem needF_range (x : Int) : ∀ f w, w + f = 16 → w ≤ needF f x w ∧ needF f x w ≤ 16 := by
  intro f
  induction f with
  | zero => intro w h; unfold needF; omega
  | succ f ih =>
    intro w h
    unfold needF
    split
    · omega
    · have := ih (w + 1) (by omega); omega
theorem width_range (l : List Int) : 1 ≤ widthF l ∧ widthF l ≤ 16 := by
  unfold widthF
  have : ∀ (l : List Int) w, 1 ≤ w → w ≤ 16 → 1 ≤ l.foldl (fun w x => needF (16 - w) x w) w ∧ l.foldl (fun w x => needF (16 - w) x w) w ≤ 16 := by
    intro l
    induction l with
    | nil => intro w h1 h2; exact ⟨h1, h2⟩
    | cons x r ih =>
      intro w h1 h2
      have := needF_range x (16 - w) w (by omega)
      exact ih _ (Nat.le_trans h1 this.1) this.2
  exact this l 1 (by omega) (by omega)
theorem width_succ {l : List Int} {i : Nat} {a : Int} (hi : l[i]? = some a) : widthF (l.take (i + 1)) = needF (16 - widthF (l.take i)) a (widthF (l.take i)) := by
  rw [take_succ_get hi]; unfold widthF; rw [List.foldl_append]; rfl
theorem small_16 {x : Int} (h : -32768 ≤ x ∧ x < 32768) : inR 16 x = true := by
  have e : half 16 = 32768 := rfl
  unfold inR
  rw [e]
  simp only [Bool.and_eq_true, decide_eq_true_eq]
  omega
theorem loopP_succ {R : Type} (B : (List PV → PHeap → Option R) → List PV → PHeap → Option R) (n : Nat) (vs : List PV) (h : PHeap) : loopP B (n + 1) vs h = B (loopP B n) vs h := rfl
theorem need_of {w : Nat} {x : Int} (f : Nat) : needF (f + 1) x w = if inR w x then w else needF f x (w + 1) := rfl
theorem asks {x : Int} (hx : inR 16 x = true) {B : (List PV → PHeap → Pt) → List PV → PHeap → Pt} {h : PHeap} {pre : List PV} {out : Nat → Pt} (hB : ∀ (w : Nat) (rest : List PV) K, 1 ≤ w → w ≤ 16 → (∃ r2, inR w x = false → B K (.int .i64 w :: rest) h = K (.int .i64 ((w + 1 : Nat) : Int) :: r2) h) ∧ (inR w x = true → B K (.int .i64 w :: rest) h = out w)) :
    ∀ (f w m : Nat) (rest : List PV), w + f = 16 → 1 ≤ w → f < m → loopP B m (.int .i64 w :: rest) h = out (needF f x w) := by
  intro f
  induction f with
  | zero =>
    intro w m rest h1 h2 h3
    obtain ⟨m, rfl⟩ : ∃ k, m = k + 1 := ⟨m - 1, by omega⟩
    obtain rfl : w = 16 := by omega
    rw [loopP_succ, (hB 16 rest _ h2 (by omega)).2 hx]
    rfl
  | succ f ih =>
    intro w m rest h1 h2 h3
    obtain ⟨m, rfl⟩ : ∃ k, m = k + 1 := ⟨m - 1, by omega⟩
    obtain ⟨⟨r2, k1⟩, k2⟩ := hB w rest (loopP B m) h2 (by omega)
    rw [loopP_succ, need_of]
    cases hr : inR w x with
    | true => rw [k2 hr]; rfl
    | false => rw [k1 hr, ih (w + 1) m r2 (by omega) (by omega) (by omega)]; rfl
theorem needLoop {x : Int} (hx : inR 16 x = true) {n : Nat} {j : List PV → PHeap → Pt} {h : PHeap} (f w m : Nat) (rest : List PV) (h1 : w + f = 16) (h2 : 1 ≤ w) (h3 : f < m) :
    loopP (s30_L0 Γ0 n h (.int .i64 x) j) m (.int .i64 w :: rest) h = j [.int .i64 (needF f x w), .junk, .junk, .junk, .junk, .junk] h := by
  refine asks (out := fun w => j [.int .i64 w, .junk, .junk, .junk, .junk, .junk] h) (pre := []) hx (fun w rest K g1 g2 => ?_) f w m rest h1 h2 h3
  have w62 : w ≤ 62 := by omega
  have key : s30_L0 Γ0 n h (.int .i64 x) j K (.int .i64 w :: rest) h = if inR w x then j [.int .i64 w, .junk, .junk, .junk, .junk, .junk] h else K [.int .i64 ((w + 1 : Nat) : Int), .junk, .junk, .junk, .junk, .junk] h := by
    unfold s30_L0
    simp only [nth_zero, bin_sub, sub_one g1 w62, Option.bind_some, shl_half g1 g2, shl_nhalf g1 g2, bin_lss, bin_geq, K1_def, KL_def, sc_or, if_bool, bin_add, succ64 (show w < 4294967297 by omega), trim_self]
    unfold inR
    by_cases k1 : x < -half w
    · have k2 : ¬ -half w ≤ x := by omega
      simp [k1, k2]
    · have k2 : -half w ≤ x := by omega
      by_cases k3 : x ≥ half w
      · have k4 : ¬ x < half w := by omega
        simp [k1, k2, k3, k4]
      · have k4 : x < half w := by omega
        simp [k1, k2, k3, k4]
  exact ⟨⟨_, fun hr => by rw [key, hr]; rfl⟩, fun hr => by rw [key, hr]; rfl⟩
theorem c30 {l : List Int} (hs : Small l) (hm : l.length ≤ 100000) (h : PHeap) : Γ0 30 [ints l] h = some (.int .i64 (widthF l), h) := by
  refine gbody (F := A30) (by kernel_rfl) (l.length + 20) ?_
  rw [s30_eq]
  unfold s30
  simp only [len_ints, Option.bind_some, KL_def]
  let z : Nat → PV := fun i => if i = 0 then undefP else .junk
  refine loop_pure (fun i => [.int .i64 (widthF (l.take i)), .int .i64 i, z i, z i, z i, z i, z i]) l.length (by omega) rfl (fun i hi K => ?_) fun K => ?_
  · obtain ⟨a, ha⟩ := lt_len hi
    have hx := small_16 (hs a (List.mem_of_getElem? ha))
    have hw := width_range (l.take i)
    unfold s30_L1
    simp only [nth_zero, nth_one, nth_two, nth_three, nth_succ, bin_lss, ltT hi, decide_true, Option.bind_some, KL_def, if_bool, if_true, idx_ints _ ha, load_iV]
    rw [needLoop hx (16 - widthF (l.take i)) _ _ _ (by omega) hw.1 (by omega)]
    simp only [nth_zero, nth_one, nth_two, nth_three, nth_four, nth_five, nth_succ, bin_add, succ64 (show i < 4294967297 by omega), Option.bind_some, trim_self]
    rw [← width_succ ha]
    rfl
  · unfold s30_L1
    simp only [nth_zero, nth_one, nth_succ, bin_lss, ltF, decide_false, Option.bind_some, KL_def, if_bool, Bool.false_eq_true, if_false, fin_int0, List.take_length]
end Go.Vm.X


set_option linter.unusedSimpArgs false
set_option linter.unusedVariables false
namespace Go.Vm.X
open Go.Am Go.Vm
def upd4 (H : PHeap) (bl bo bn bh : Nat) (out : List Nat) (num held : Nat) : PHeap :=
  (((H.set bl (.log (out.map u8V) 1 5 .rw)).set bo (.box [.ref bl 0 out.length out.length 1] 24 .rw)).set bn (.box [.int .i64 num] 3 .rw)).set bh (.box [.int .i64 held] 3 .rw)
structure D4 (H : PHeap) (bl bo bn bh : Nat) : Prop where
  lo : bl ≠ bo
  ln : bl ≠ bn
  lh : bl ≠ bh
  on : bo ≠ bn
  oh : bo ≠ bh
  nh : bn ≠ bh
  l : bl < H.length
  o : bo < H.length
  n : bn < H.length
  h : bh < H.length
variable {H : PHeap} {bl bo bn bh : Nat} {out : List Nat} {num held : Nat}
theorem upd4_len : (upd4 H bl bo bn bh out num held).length = H.length := by simp [upd4]
theorem upd4_h (d : D4 H bl bo bn bh) : (upd4 H bl bo bn bh out num held)[bh]? = some (.box [.int .i64 held] 3 .rw) := by
  unfold upd4; rw [List.getElem?_set_self (by simpa using d.h)]
theorem upd4_n (d : D4 H bl bo bn bh) : (upd4 H bl bo bn bh out num held)[bn]? = some (.box [.int .i64 num] 3 .rw) := by
  unfold upd4; rw [set_oth d.nh, List.getElem?_set_self (by simpa using d.n)]
theorem upd4_o (d : D4 H bl bo bn bh) : (upd4 H bl bo bn bh out num held)[bo]? = some (.box [.ref bl 0 out.length out.length 1] 24 .rw) := by
  unfold upd4; rw [set_oth d.oh, set_oth d.on, List.getElem?_set_self (by simpa using d.o)]
theorem upd4_l (d : D4 H bl bo bn bh) : (upd4 H bl bo bn bh out num held)[bl]? = some (.log (out.map u8V) 1 5 .rw) := by
  unfold upd4; rw [set_oth d.lh, set_oth d.ln, set_oth d.lo, List.getElem?_set_self d.l]
theorem set_set {α : Type} {l : List α} {i : Nat} {a b : α} : (l.set i a).set i b = l.set i b := by simp
theorem set_swap {α : Type} {l : List α} {i j : Nat} {a b : α} (h : i ≠ j) : (l.set i a).set j b = (l.set j b).set i a := List.set_comm _ _ h
theorem upd4_seth (held' : Nat) : (upd4 H bl bo bn bh out num held).set bh (.box [.int .i64 held'] 3 .rw) = upd4 H bl bo bn bh out num held' := by unfold upd4; rw [set_set]
theorem upd4_setn (d : D4 H bl bo bn bh) (num' : Nat) : (upd4 H bl bo bn bh out num held).set bn (.box [.int .i64 num'] 3 .rw) = upd4 H bl bo bn bh out num' held := by
  unfold upd4; rw [set_swap d.nh.symm, set_set]
theorem upd4_setl (d : D4 H bl bo bn bh) (out' : List Nat) : ((upd4 H bl bo bn bh out num held).set bl (.log (out'.map u8V) 1 5 .rw)).set bo (.box [.ref bl 0 out'.length out'.length 1] 24 .rw) = upd4 H bl bo bn bh out' num held := by
  unfold upd4
  rw [set_swap d.lh.symm, set_swap d.ln.symm, set_swap d.lo.symm, set_set, set_swap d.oh.symm, set_swap d.on.symm, set_set]
theorem append_at {H : PHeap} {b : Nat} {t : TypeId} {xs : List Nat} (a : Nat) (e : H[b]? = some (.log (xs.map u8V) 1 t .rw)) (hm : xs.length < mostLen) :
    appendP t 1 (.ref b 0 xs.length xs.length 1) (.frz 1 [[.int .u8 a]]) H = some (.ref b 0 (xs ++ [a]).length (xs ++ [a]).length 1, H.set b (.log ((xs ++ [a]).map u8V) 1 t .rw)) := by
  have := append_ref (x := .frz 1 [[.int .u8 a]]) e (rows_frz _ _ _) (by decide) rfl (by simp; omega)
  simp only [List.length_map] at this
  rw [this]
  simp [u8V]
theorem u8_cast (X : Nat) : IntKind.u8.wrap (X : Int) = ((X % 256 : Nat) : Int) := by rw [wrap8]; omega
def put4 (H : PHeap) (bl bo bn bh : Nat) (pre : List Nat) (B T q : Nat) : PHeap := upd4 H bl bo bn bh (pre ++ bytesN q B) (T - 8 * q) (B / 256 ^ q)
theorem c31 (d : D4 H bl bo bn bh) {pre : List Nat} {B T v w : Nat} (hBT : B < 2 ^ T) (hv : v < 2 ^ w) (hw0 : 0 < w) (hw : w ≤ 16) (hlen : pre.length + (T + w) / 8 + 1 ≤ 4294967296) :
    Γ0 31 [.int .i64 v, .int .i64 w, .ptr bh 0, .ptr bn 0, .ptr bo 0] (put4 H bl bo bn bh pre B T (T / 8)) = some (.tuple [], put4 H bl bo bn bh pre (B + 2 ^ T * v) (T + w) ((T + w) / 8)) := by
  refine gbody (F := A31) (by kernel_rfl) ((T + w) / 8 + 1) ?_
  rw [s31_eq]
  unfold s31
  have hT : 8 * (T / 8) ≤ T := Nat.mul_div_le T 8
  have hq : T - 8 * (T / 8) < 8 := by omega
  have hB1 : B / 256 ^ (T / 8) < 2 ^ (T - 8 * (T / 8)) := div_small hBT hT
  have hB2 : B / 256 ^ (T / 8) < 2 ^ 62 := Nat.lt_of_lt_of_le hB1 (Nat.pow_le_pow_right (by decide) (by omega))
  have hv2 : v * 2 ^ (T - 8 * (T / 8)) < 2 ^ 62 := by
    have h1 : v * 2 ^ (T - 8 * (T / 8)) < 2 ^ w * 2 ^ (T - 8 * (T / 8)) := Nat.mul_lt_mul_of_pos_right hv (Nat.two_pow_pos _)
    rw [← Nat.pow_add] at h1
    exact Nat.lt_of_lt_of_le h1 (Nat.pow_le_pow_right (by decide) (by omega))
  have hsh : binP .shl (.int .i64 (v : Int)) (.int .i64 ((T - 8 * (T / 8) : Nat) : Int)) = some (.int .i64 ((v * 2 ^ (T - 8 * (T / 8)) : Nat) : Int)) := by
    rw [shl_pow _ _ _ (by omega), ← Int.natCast_mul, wrap64 (by unfold isI64; have : (2 : Nat) ^ 62 = 4611686018427387904 := rfl
                                                                omega)]
  have hor := or_nat (k := .i64) _ _ hB2 hv2
  have hB' : B / 256 ^ (T / 8) ||| v * 2 ^ (T - 8 * (T / 8)) = (B + 2 ^ T * v) / 256 ^ (T / 8) := by rw [or_add hB1, div_grow hT]
  rw [hB'] at hor
  have hadd : IntKind.i64.wrap (((T - 8 * (T / 8) : Nat) : Int) + (w : Int)) = ((T + w - 8 * (T / 8) : Nat) : Int) := by
    rw [wrap64 (by unfold isI64; omega)]; omega
  have e0 : put4 H bl bo bn bh pre B T (T / 8) = upd4 H bl bo bn bh (pre ++ bytesN (T / 8) (B + 2 ^ T * v)) (T - 8 * (T / 8)) (B / 256 ^ (T / 8)) := by unfold put4; rw [bytesN_grow hT]
  rw [e0]
  generalize hB3 : B + 2 ^ T * v = B3 at *
  have rd : ∀ {o : List Nat} {nm hd : Nat}, loadP false 1 (.ptr bh 0) (upd4 H bl bo bn bh o nm hd) = some (.int .i64 hd) ∧ loadP false 1 (.ptr bn 0) (upd4 H bl bo bn bh o nm hd) = some (.int .i64 nm) ∧ loadP false 1 (.ptr bo 0) (upd4 H bl bo bn bh o nm hd) = some (.ref bl 0 o.length o.length 1) := fun {o nm hd} => by
    refine ⟨?_, ?_, ?_⟩
    · rw [load_box, boxAt_some (upd4_h d)]; rfl
    · rw [load_box, boxAt_some (upd4_n d)]; rfl
    · rw [load_box, boxAt_some (upd4_o d)]; rfl
  have sh : ∀ {o : List Nat} {nm hd : Nat} (x : Nat), storeP 1 (.ptr bh 0) (.int .i64 x) (upd4 H bl bo bn bh o nm hd) = some (upd4 H bl bo bn bh o nm x) := fun {o nm hd} x => by
    rw [store_cell (upd4_h d) (by simp) rfl]; simp only [List.set_cons_zero]; rw [upd4_seth]
  have sn : ∀ {o : List Nat} {nm hd : Nat} (x : Nat), storeP 1 (.ptr bn 0) (.int .i64 x) (upd4 H bl bo bn bh o nm hd) = some (upd4 H bl bo bn bh o x hd) := fun {o nm hd} x => by
    rw [store_cell (upd4_n d) (by simp) rfl]; simp only [List.set_cons_zero]; rw [upd4_setn d]
  simp only [rd, Option.bind_some, hsh, hor, sh, bin_add, hadd, sn, KL_def]
  refine loop_run (fun _ => []) (fun i => put4 H bl bo bn bh pre B3 (T + w) (T / 8 + i)) ((T + w) / 8 - T / 8) (by omega) rfl rfl (fun i hi K => ?_) fun K => ?_
  · show s31_L0 _ _ _ _ _ _ _ K [] (upd4 _ _ _ _ _ _ _ _) = K [] (upd4 _ _ _ _ _ _ _ _)
    rw [show T / 8 + (i + 1) = (T / 8 + i) + 1 by omega]
    generalize hqq : T / 8 + i = q at *
    have hge : ((T + w - 8 * q : Nat) : Int) ≥ 8 := by omega
    have hshr : binP .shr (.int .i64 ((B3 / 256 ^ q : Nat) : Int)) (.int .u64 8) = some (.int .i64 ((B3 / 256 ^ (q + 1) : Nat) : Int)) := by
      have := shr_pow ((B3 / 256 ^ q : Nat) : Int) 8 .u64 (by decide)
      rw [← Int.natCast_ediv, Nat.div_div_eq_div_mul] at this
      rw [Nat.pow_succ]
      exact this
    have hsb : IntKind.i64.wrap (((T + w - 8 * q : Nat) : Int) - 8) = ((T + w - 8 * (q + 1) : Nat) : Int) := by
      rw [wrap64 (by unfold isI64; omega)]; omega
    have ap := append_at (B3 / 256 ^ q % 256) (upd4_l (out := pre ++ bytesN q B3) (num := T + w - 8 * q) (held := B3 / 256 ^ q) d) (by rw [List.length_append, bytesN_len]; unfold mostLen; omega)
    have so : storeP 1 (.ptr bo 0) (.ref bl 0 (pre ++ bytesN q B3 ++ [B3 / 256 ^ q % 256]).length (pre ++ bytesN q B3 ++ [B3 / 256 ^ q % 256]).length 1) ((upd4 H bl bo bn bh (pre ++ bytesN q B3) (T + w - 8 * q) (B3 / 256 ^ q)).set bl (.log ((pre ++ bytesN q B3 ++ [B3 / 256 ^ q % 256]).map u8V) 1 5 .rw)) =
        some (upd4 H bl bo bn bh (pre ++ bytesN (q + 1) B3) (T + w - 8 * q) (B3 / 256 ^ q)) := by
      rw [store_cell (vs := [.ref bl 0 (pre ++ bytesN q B3).length (pre ++ bytesN q B3).length 1]) (t := 24) (by rw [set_oth d.lo.symm]; exact upd4_o d) (by simp) rfl]
      simp only [List.set_cons_zero]
      rw [upd4_setl d, bytesN_succ, List.append_assoc]
    unfold s31_L0
    simp only [rd, Option.bind_some, bin_geq, hge, decide_true, KL_def, if_bool, if_true, conv_int, u8_cast, fill_int, all_one, pure1, guard_true, chunk_one, fork_def, ap, so, hshr, sh, bin_sub, hsb, sn]
    rw [trim_len _ (by simp [upd4_len])]
  · show s31_L0 _ _ _ _ _ _ _ K [] (upd4 _ _ _ _ _ _ _ _) = some (.tuple [], upd4 _ _ _ _ _ _ _ _)
    rw [show T / 8 + ((T + w) / 8 - T / 8) = (T + w) / 8 by have := Nat.div_le_div_right (c := 8) (show T ≤ T + w by omega); omega]
    have hge : ¬ (((T + w - 8 * ((T + w) / 8) : Nat) : Int) ≥ 8) := by omega
    unfold s31_L0
    simp only [rd, Option.bind_some, bin_geq, hge, decide_false, KL_def, if_bool, Bool.false_eq_true, if_false, fin_def, fzL_nil, Option.map_some]
    rw [trim_len _ (by simp [put4, upd4_len])]
    rfl
end Go.Vm.X


set_option linter.unusedSimpArgs false
set_option linter.unusedVariables false
namespace Go.Vm.X
open Go.Am Go.Vm
def blockB (l : List Int) : List Nat := widthF l :: bytesN ((l.length * widthF l + 7) / 8) (packed (widthF l) l)
theorem quo_nat (a b : Nat) (hb : 0 < b) (ha : a < 4294967296) : binP .quo (.int .i64 (a : Int)) (.int .i64 (b : Int)) = some (.int .i64 ((a / b : Nat) : Int)) := by
  have h1 := Nat.div_le_self a b
  rw [bin_quo _ _ _ (by omega), Int.tdiv_eq_ediv_of_nonneg (by omega), ← Int.natCast_ediv]
  generalize a / b = q at *
  rw [wrap64 (by unfold isI64; omega)]
theorem rem_nat (a b : Nat) (hb : 0 < b) : binP .rem (.int .i64 (a : Int)) (.int .i64 (b : Int)) = some (.int .i64 ((a % b : Nat) : Int)) := by
  rw [bin_rem _ _ _ (by omega), Int.tmod_eq_emod_of_nonneg (by omega), ← Int.natCast_emod]
end Go.Vm.X


set_option linter.unusedSimpArgs false
set_option linter.unusedVariables false
namespace Go.Vm.X
open Go.Am Go.Vm
def HB (h : PHeap) (m b1 b2 b3 c1 c2 : PBlk) (st : LSt) (pend : Option AExit) (out : List Nat) : PHeap :=
  h ++ [m, b1, b2, b3, .log (out.map u8V) 1 5 .rw, .box [.ref (h.length + 4) 0 out.length out.length 1] 24 .rw, c1, c2, .loop [.ptr (h.length + 5) 0] [11] [47] L11_0a L11_0b st pend .rw]
variable {h : PHeap} {m b1 b2 b3 c1 c2 : PBlk}
def HR (h : PHeap) (m b1 b2 b3 c1 c2 : PBlk) (out : List Nat) (num held : Nat) : PHeap :=
  h ++ [m, b1, b2, b3, .log (out.map u8V) 1 5 .rw, .box [.ref (h.length + 4) 0 out.length out.length 1] 24 .rw, c1, c2, .loop [.ptr (h.length + 5) 0] [11] [47] L11_0a L11_0b .busy none .rw, .box [.int .i64 held] 3 .rw, .box [.int .i64 num] 3 .rw]
theorem hr_upd (out out' : List Nat) (num num' held held' : Nat) : upd4 (HR h m b1 b2 b3 c1 c2 out num held) (h.length + 4) (h.length + 5) (h.length + 10) (h.length + 9) out' num' held' = HR h m b1 b2 b3 c1 c2 out' num' held' := by
  unfold upd4 HR
  simp only [set_new]
  rfl
theorem hr_d (out : List Nat) (num held : Nat) : D4 (HR h m b1 b2 b3 c1 c2 out num held) (h.length + 4) (h.length + 5) (h.length + 10) (h.length + 9) := by
  have hl : (HR h m b1 b2 b3 c1 c2 out num held).length = h.length + 11 := by unfold HR; rw [List.length_append]; rfl
  constructor <;> omega
theorem c31' (pre : List Nat) {B T v w : Nat} (hBT : B < 2 ^ T) (hv : v < 2 ^ w) (hw0 : 0 < w) (hw : w ≤ 16) (hlen : pre.length + (T + w) / 8 + 1 ≤ 4294967296) :
    Γ0 31 [.int .i64 v, .int .i64 w, .ptr (h.length + 9) 0, .ptr (h.length + 10) 0, .ptr (h.length + 5) 0] (HR h m b1 b2 b3 c1 c2 (pre ++ bytesN (T / 8) B) (T - 8 * (T / 8)) (B / 256 ^ (T / 8))) =
      some (.tuple [], HR h m b1 b2 b3 c1 c2 (pre ++ bytesN ((T + w) / 8) (B + 2 ^ T * v)) (T + w - 8 * ((T + w) / 8)) ((B + 2 ^ T * v) / 256 ^ ((T + w) / 8))) := by
  have := c31 (H := HR h m b1 b2 b3 c1 c2 (pre ++ bytesN (T / 8) B) (T - 8 * (T / 8)) (B / 256 ^ (T / 8))) (hr_d _ _ _) (pre := pre) hBT hv hw0 hw hlen
  unfold put4 at this
  rw [hr_upd, hr_upd] at this
  exact this
theorem low_cast (w : Nat) (x : Int) : x % ((2 ^ w : Nat) : Int) = ((low w x : Nat) : Int) := by
  unfold low
  rw [Int.toNat_of_nonneg (Int.emod_nonneg _ (by have := Nat.two_pow_pos w; omega))]
theorem cRound {c : List Int} (hs : Small c) (hm : c.length ≤ 256) {out : List Nat} (ho : out.length ≤ 100000) :
    Γ0 yieldId [.ptr (h.length + 8) 0, ints c] (HB h m b1 b2 b3 c1 c2 .ready none out) = some (.bool true, HB h m b1 b2 b3 c1 c2 .ready none (out ++ blockB c)) := by
  have hloop : (HB h m b1 b2 b3 c1 c2 .ready none out)[h.length + 8]? = some (.loop [.ptr (h.length + 5) 0] [11] [47] L11_0a L11_0b .ready none .rw) := by unfold HB; rw [get_new]; rfl
  refine gbody_round (c.length + 1) ?_
  rw [r11_0_eq _ _ _ _ _ _ _ _ hloop]
  unfold r11_0
  have hbeg : beginRoundP (h.length + 8) (HB h m b1 b2 b3 c1 c2 .ready none out) = some (HB h m b1 b2 b3 c1 c2 .busy none out) := by
    unfold beginRoundP
    rw [hloop]
    unfold HB
    simp only [set_new]
    rfl
  have hw := width_range c
  generalize hwe : widthF c = w at *
  have hcv : IntKind.u8.wrap (w : Int) = w := wrapu8 w (by omega)
  have hld : loadP false 1 (.ptr (h.length + 5) 0) (HB h m b1 b2 b3 c1 c2 .busy none out) = some (.ref (h.length + 4) 0 out.length out.length 1) := by
    rw [load_box, boxAt_some (vs := [.ref (h.length + 4) 0 out.length out.length 1]) (t := 24) (md := .rw) (by unfold HB; rw [get_new]; rfl)]; rfl
  have hap : appendP 5 1 (.ref (h.length + 4) 0 out.length out.length 1) (.frz 1 [[.int .u8 (w : Int)]]) (HB h m b1 b2 b3 c1 c2 .busy none out) = some (.ref (h.length + 4) 0 (out ++ [w]).length (out ++ [w]).length 1, (HB h m b1 b2 b3 c1 c2 .busy none out).set (h.length + 4) (.log ((out ++ [w]).map u8V) 1 5 .rw)) :=
    append_at w (by unfold HB; rw [get_new]; rfl) (by unfold mostLen; omega)
  have hst : storeP 1 (.ptr (h.length + 5) 0) (.ref (h.length + 4) 0 (out ++ [w]).length (out ++ [w]).length 1) ((HB h m b1 b2 b3 c1 c2 .busy none out).set (h.length + 4) (.log ((out ++ [w]).map u8V) 1 5 .rw)) = some (HB h m b1 b2 b3 c1 c2 .busy none (out ++ [w])) := by
    rw [store_cell (vs := [.ref (h.length + 4) 0 out.length out.length 1]) (t := 24) (by unfold HB; rw [set_new, get_new]; rfl) (by simp) rfl]
    unfold HB
    simp only [set_new]
    rfl
  have hlen : (HB h m b1 b2 b3 c1 c2 .busy none (out ++ [w])).length = h.length + 9 := by unfold HB; rw [List.length_append]; rfl
  have hlen2 : (HB h m b1 b2 b3 c1 c2 .busy none (out ++ [w]) ++ [PBlk.box [.int .i64 0] 3 .rw]).length = h.length + 10 := by rw [List.length_append, hlen]; rfl
  have hHR : HB h m b1 b2 b3 c1 c2 .busy none (out ++ [w]) ++ [PBlk.box [.int .i64 0] 3 .rw] ++ [PBlk.box [.int .i64 0] 3 .rw] = HR h m b1 b2 b3 c1 c2 (out ++ [w]) 0 0 := by unfold HB HR; simp
  have hs0 : storeP 1 (.ptr (h.length + 9) 0) (.int .i64 0) (HR h m b1 b2 b3 c1 c2 (out ++ [w]) 0 0) = some (HR h m b1 b2 b3 c1 c2 (out ++ [w]) 0 0) := by
    rw [store_cell (vs := [.int .i64 (0 : Nat)]) (t := 3) (by unfold HR; rw [get_new]; rfl) (by simp) rfl]
    unfold HR
    simp only [set_new]
    rfl
  have hs1 : storeP 1 (.ptr (h.length + 10) 0) (.int .i64 0) (HR h m b1 b2 b3 c1 c2 (out ++ [w]) 0 0) = some (HR h m b1 b2 b3 c1 c2 (out ++ [w]) 0 0) := by
    rw [store_cell (vs := [.int .i64 (0 : Nat)]) (t := 3) (by unfold HR; rw [get_new]; rfl) (by simp) rfl]
    unfold HR
    simp only [set_new]
    rfl
  simp only [hbeg, Option.bind_some, KL_def, c30 hs (show c.length ≤ 100000 by omega), hwe, hld, conv_int, hcv, fill_int, all_one, pure1, guard_true, chunk_one, fork_def, hap, hst, hlen, hlen2, hHR, hs0, hs1, len_ints]
  let B : Nat → Nat := fun i => packed w (c.take i)
  have hcl : c.length * w ≤ 256 * 16 := Nat.mul_le_mul hm hw.2
  have e0 : HR h m b1 b2 b3 c1 c2 (out ++ [w]) 0 0 = HR h m b1 b2 b3 c1 c2 (out ++ [w] ++ bytesN (0 * w / 8) (B 0)) (0 * w - 8 * (0 * w / 8)) (B 0 / 256 ^ (0 * w / 8)) := by
    simp [B, packed, bytesN]
  refine loop_run (fun i => [.int .i64 i]) (fun i => HR h m b1 b2 b3 c1 c2 (out ++ [w] ++ bytesN (i * w / 8) (B i)) (i * w - 8 * (i * w / 8)) (B i / 256 ^ (i * w / 8))) c.length (by omega) rfl e0.symm (fun i hi K => ?_) fun K => ?_
  · obtain ⟨a, ha⟩ := lt_len hi
    have hB : B i < 2 ^ (i * w) := by
      have := packed_lt w (c.take i)
      rwa [List.length_take, Nat.min_eq_left (by omega)] at this
    have hiw : i * w ≤ c.length * w := Nat.mul_le_mul_right _ (by omega)
    have hput := c31' (h := h) (m := m) (b1 := b1) (b2 := b2) (b3 := b3) (c1 := c1) (c2 := c2) (out ++ [w]) hB (low_lt w a) hw.1 hw.2 (by rw [List.length_append]; simp; omega)
    have hBs : B i + 2 ^ (i * w) * low w a = B (i + 1) := by
      show _ = packed w (c.take (i + 1))
      rw [take_succ_get ha, packed_snoc, List.length_take, Nat.min_eq_left (by omega)]
    rw [hBs, show i * w + w = (i + 1) * w by rw [Nat.add_mul]; omega] at hput
    have hw1 : IntKind.i64.wrap (2 * half w - 1) = ((2 ^ w : Nat) : Int) - 1 := by rw [wrap64 (wrap_half hw.1 hw.2).2.1, half_two hw.1]
    have hmask := and_mask a (show w ≤ 62 by omega)
    rw [low_cast] at hmask
    unfold r11_0_L0
    simp only [nth_zero, bin_lss, ltT hi, decide_true, Option.bind_some, KL_def, if_bool, if_true, idx_ints _ ha, load_iV, shl_full hw.1 hw.2, bin_sub, hw1, hmask, callV_func Γ0 31, List.nil_append, List.cons_append, hput, bin_add, succ64 (show i < 4294967297 by omega)]
    rw [trim_len _ (by unfold HR; simp)]
  · have hBl : B c.length = packed w c := by show packed w (c.take c.length) = _; rw [List.take_length]
    have hlt := packed_lt w c
    unfold r11_0_L0
    simp only [nth_zero, bin_lss, ltF, decide_false, Option.bind_some, KL_def, if_bool, Bool.false_eq_true, if_false]
    rw [hBl]
    have hld2 : ∀ (o : List Nat) (nm hd : Nat), loadP false 1 (.ptr (h.length + 10) 0) (HR h m b1 b2 b3 c1 c2 o nm hd) = some (.int .i64 nm) := fun o nm hd => by
      rw [load_box, boxAt_some (vs := [.int .i64 nm]) (t := 3) (md := .rw) (by unfold HR; rw [get_new]; rfl)]; rfl
    have hfin : ∀ (o : List Nat) (nm hd : Nat), (endRoundP (h.length + 8) .normal (HR h m b1 b2 b3 c1 c2 o nm hd)).map (fun q => (q.1, trim (HB h m b1 b2 b3 c1 c2 .ready none out) [] q.2)) = some (.bool true, HB h m b1 b2 b3 c1 c2 .ready none o) := fun o nm hd => by
      unfold endRoundP
      rw [show (HR h m b1 b2 b3 c1 c2 o nm hd)[h.length + 8]? = some (.loop [.ptr (h.length + 5) 0] [11] [47] L11_0a L11_0b .busy none .rw) by unfold HR; rw [get_new]; rfl]
      simp only [Option.map_some]
      have e1 : (HR h m b1 b2 b3 c1 c2 o nm hd).set (h.length + 8) (.loop [.ptr (h.length + 5) 0] [11] [47] L11_0a L11_0b .ready none .rw) = h ++ ([m, b1, b2, b3, .log (o.map u8V) 1 5 .rw, .box [.ref (h.length + 4) 0 o.length o.length 1] 24 .rw, c1, c2, .loop [.ptr (h.length + 5) 0] [11] [47] L11_0a L11_0b .ready none .rw] ++ [.box [.int .i64 hd] 3 .rw, .box [.int .i64 nm] 3 .rw]) := by
        unfold HR
        rw [set_new]
        rfl
      rw [e1]
      unfold HB
      rw [trim_app2 (by rfl) (fun v hv => by cases hv) fun k x hx => ?_]
      match k, hx with
      | 0, hx => exact .inl hx
      | 1, hx => exact .inl hx
      | 2, hx => exact .inl hx
      | 3, hx => exact .inl hx
      | 4, hx =>
        cases hx
        refine .inr fun x hx => ?_
        obtain ⟨r, h1, h2⟩ := List.mem_flatten.1 hx
        obtain ⟨a, _, rfl⟩ := List.mem_map.1 h1
        simp only [u8V, List.mem_singleton] at h2
        subst h2
        exact lt_int _ _ _
      | 5, hx =>
        cases hx
        refine .inr fun x hx => ?_
        simp only [List.mem_singleton] at hx
        subst hx
        simp [ltV]
      | 6, hx => exact .inl hx
      | 7, hx => exact .inl hx
      | 8, hx => exact .inl hx
      | k + 9, hx => simp at hx
    have hblk : ∀ z, z < 8 → (c.length * w + z) % 8 = 0 → (c.length * w + z) / 8 = (c.length * w + 7) / 8 := fun z h1 h2 => by omega
    unfold blockB
    rw [hwe]
    simp only [hld2, Option.bind_some, bin_gtr, if_bool, decide_eq_true_eq]
    by_cases hn : ((c.length * w - 8 * (c.length * w / 8) : Nat) : Int) > 0
    · have hput := c31' (h := h) (m := m) (b1 := b1) (b2 := b2) (b3 := b3) (c1 := c1) (c2 := c2) (out ++ [w]) (v := 0) (w := 8 - (c.length * w - 8 * (c.length * w / 8))) hlt (Nat.two_pow_pos _) (by omega) (by omega) (by rw [List.length_append]; simp; omega)
      have hsub : IntKind.i64.wrap (8 - ((c.length * w - 8 * (c.length * w / 8) : Nat) : Int)) = ((8 - (c.length * w - 8 * (c.length * w / 8)) : Nat) : Int) := by
        rw [wrap64 (by unfold isI64; omega)]; omega
      rw [if_pos hn]
      simp only [bin_sub, hsub, Option.bind_some, callV_func Γ0 31, List.nil_append, List.cons_append]
      rw [show ((0 : Nat) : Int) = 0 from rfl] at hput
      simp only [hput, Option.bind_some, hfin]
      rw [Nat.mul_zero, Nat.add_zero, hblk _ (by omega) (by omega), List.append_assoc]
      rfl
    · rw [if_neg hn, hfin]
      have := hblk 0 (by omega) (by omega)
      rw [Nat.add_zero] at this
      rw [this, List.append_assoc]
      rfl
end Go.Vm.X


set_option linter.unusedSimpArgs false
set_option linter.unusedVariables false
namespace Go.Vm.X
open Go.Am Go.Vm
def blocksN (l : List Int) (k : Nat) : List Nat := (List.range k).flatMap fun i => blockB ((l.drop (256 * i)).take 256)
def nBlocks (l : List Int) : Nat := (l.length + 255) / 256
def blocksB (l : List Int) : List Nat := blocksN l (nBlocks l)
theorem blocksN_succ (l : List Int) (k : Nat) : blocksN l (k + 1) = blocksN l k ++ blockB ((l.drop (256 * k)).take 256) := by
  unfold blocksN; rw [List.range_succ, List.flatMap_append]; simp
theorem blockB_len {l : List Int} (h : l.length ≤ 256) : (blockB l).length ≤ 513 := by
  have := (width_range l).2
  have h2 : l.length * widthF l ≤ 256 * 16 := Nat.mul_le_mul h this
  unfold blockB
  rw [List.length_cons, bytesN_len]
  omega
theorem blocksN_len (l : List Int) (k : Nat) : (blocksN l k).length ≤ 513 * k := by
  induction k with
  | zero => simp [blocksN]
  | succ k ih =>
    rw [blocksN_succ, List.length_append]
    have := blockB_len (l := (l.drop (256 * k)).take 256) (by simp; omega)
    omega
theorem small_part {l : List Int} (hs : Small l) (a b : Nat) : Small ((l.drop a).take b) := fun x hx => hs x (List.mem_of_mem_drop (List.mem_of_mem_take hx))
def codedL (v : Int) (b : Nat) (l : List Int) : List Int := if v = 2 then diffs b (diffs b l) else diffs b l
theorem codedL_len (v : Int) (b : Nat) (l : List Int) : (codedL v b l).length = l.length := by unfold codedL; split <;> simp [diffs_len]
theorem codedL_small {b : Nat} (h2 : b ≤ 16) (v : Int) (l : List Int) : Small (codedL v b l) := by unfold codedL; split <;> exact small_diffs h2 _
def isVer (v : Int) : Bool := v == 1 || v == 2
def blocksE (l : List Int) (bits v : Int) : Int := if right bits && isVer v then chk l bits else 1
def blocksOf (l : List Int) (bits v : Int) : List Nat := if blocksE l bits v = 0 then blocksB (codedL v bits.toNat l) else []
end Go.Vm.X


set_option linter.unusedSimpArgs false
set_option linter.unusedVariables false
namespace Go.Vm.X
open Go.Am Go.Vm
def fn25 : PV := .func 25 [] []
def fn41 : PV := .func 41 [] []
def fn56 (b : Nat) : PV := .func 56 [] [.ptr b 0]
theorem c55 (f : PV) (hc : cellsP f = [f]) (h : PHeap) : Γ0 55 [f] h = some (fn56 h.length, h ++ [.box [f] 43 .rw]) := by
  refine gbody (F := A55) (by kernel_rfl) 1 ?_
  rw [s55_eq]
  unfold s55
  simp only [fork_def, hc, fin_def, fzL_cons, fzL_nil, fz_keep, Option.bind_some, Option.map_some, single_one]
  rw [trim_ref ⟨_, List.mem_singleton.2 rfl, by simp [ltV]⟩]
  rfl
def waysM (h : PHeap) : List (PV × PV) := [(.int .i64 1, .agg [fn25, fn41]), (.int .i64 2, .agg [fn56 (h.length + 1), fn56 (h.length + 2)])]
def HW (h : PHeap) : PHeap := h ++ [.map (waysM h) .rw, .box [fn25] 43 .rw, .box [fn41] 43 .rw]
theorem c28 (h : PHeap) : Γ0 28 [] h = some (.map h.length, HW h) := by
  refine gbody (F := A28) (by kernel_rfl) 1 ?_
  rw [s28_eq]
  unfold s28
  have f1 : fillP [.nilF, .nilF] [(0, 1, fn25), (1, 1, fn41)] = some [fn25, fn41] := rfl
  have f2 : ∀ a b : Nat, fillP [.nilF, .nilF] [(0, 1, fn56 a), (1, 1, fn56 b)] = some [fn56 a, fn56 b] := fun a b => rfl
  have m1 : setMapP .int (.map h.length) (.int .i64 1) (.agg [fn25, fn41]) (h ++ [.map [] .rw]) = some (h ++ [.map [(.int .i64 1, .agg [fn25, fn41])] .rw]) := by
    unfold setMapP
    simp only [get_new0, set_new0]
    rfl
  have m2 : ∀ (l : PHeap) v, setMapP .int (.map h.length) (.int .i64 2) v (h ++ (.map [(.int .i64 1, .agg [fn25, fn41])] .rw :: l)) = some (h ++ (.map [(.int .i64 1, .agg [fn25, fn41]), (.int .i64 2, v)] .rw :: l)) := fun l v => by
    unfold setMapP
    simp only [get_new0, set_new0]
    rfl
  have k1 := c55 fn25 rfl (h ++ [.map [(.int .i64 1, .agg [fn25, fn41])] .rw])
  have k2 := c55 fn41 rfl (h ++ [.map [(.int .i64 1, .agg [fn25, fn41])] .rw] ++ [PBlk.box [fn25] 43 .rw])
  have l1 : (h ++ [PBlk.map [(.int .i64 1, .agg [fn25, fn41])] .rw]).length = h.length + 1 := by simp
  have l2 : (h ++ [PBlk.map [(.int .i64 1, .agg [fn25, fn41])] .rw] ++ [PBlk.box [fn25] 43 .rw]).length = h.length + 2 := by simp
  have e3 : h ++ [PBlk.map [(.int .i64 1, .agg [fn25, fn41])] .rw] ++ [PBlk.box [fn25] 43 .rw] ++ [PBlk.box [fn41] 43 .rw] = h ++ (PBlk.map [(.int .i64 1, .agg [fn25, fn41])] .rw :: [PBlk.box [fn25] 43 .rw, PBlk.box [fn41] 43 .rw]) := by simp
  rw [l1] at k1
  rw [l2, e3] at k2
  have g1 : PV.func 25 [] [] = fn25 := rfl
  have g2 : PV.func 41 [] [] = fn41 := rfl
  simp only [fork_def, f1, Option.bind_some, m1, callV_func Γ0 55, List.nil_append, List.append_nil, g1, g2, k1, k2, f2, m2, fin_def, fzL_cons, fzL_nil, fz_keep, Option.map_some, single_one]
  rw [trim_ref ⟨_, List.mem_singleton.2 rfl, by simp [ltV]⟩]
  rfl
theorem c56 {b : Nat} (h1 : 1 ≤ b) (h2 : b ≤ 16) {l : List Int} (hs : Small l) (hm : l.length < 4294967296) {h : PHeap} {k : Nat} (hb : boxAt h k = some [fn25]) : Γ0 56 [ints l, .int .i64 b, .ptr k 0] h = some (ints (diffs b (diffs b l)), h) := by
  refine gbody (F := A56) (by kernel_rfl) 1 ?_
  rw [s56_eq]
  unfold s56
  simp only [load_box, hb, part_cell, List.getElem?_cons_zero, Option.bind_some]
  unfold fn25
  simp only [callV_func Γ0 25, List.nil_append, List.append_nil, c25 h1 h2 hs hm, Option.bind_some, unl_self, c25 h1 h2 (small_diffs h2 l) (show (diffs b l).length < 4294967296 by rw [diffs_len]; exact hm), fin_def, fzL_cons, fzL_nil, fz_ints, Option.map_some, single_one, trim_self]
theorem c29 (l : List Int) (h : PHeap) : Γ0 29 [ints l, .int .i64 256] h = some (.func 57 [] [.ptr h.length 0, .ptr (h.length + 1) 0], h ++ [.box [ints l] 22 .rw, .box [.int .i64 256] 3 .rw]) := by
  refine gbody (F := A29) (by kernel_rfl) 1 ?_
  rw [s29_eq]
  unfold s29
  have l1 : (h ++ [PBlk.box [ints l] 22 .rw]).length = h.length + 1 := by simp
  have e1 : h ++ [PBlk.box [ints l] 22 .rw] ++ [PBlk.box [.int .i64 256] 3 .rw] = h ++ [.box [ints l] 22 .rw, .box [.int .i64 256] 3 .rw] := by simp
  have hb : boxAt (h ++ [.box [ints l] 22 .rw, .box [.int .i64 256] 3 .rw]) (h.length + 1) = some [.int .i64 256] := boxAt_some (by rw [get_new]; rfl)
  have hlt : ((256 : Int) < 1) = False := by simp
  simp only [fork_def, cells_ints, cells_int, l1, e1, load_box, hb, part_cell, List.getElem?_cons_zero, Option.bind_some, bin_lss, hlt, decide_false, KL_def, if_bool, Bool.false_eq_true, if_false, fin_def, fzL_cons, fzL_nil, fz_keep, Option.map_some, single_one]
  rw [trim_ref ⟨_, List.mem_singleton.2 rfl, by simp [ltV]⟩]
theorem c57 {l : List Int} (hs : Small l) (hm : l.length ≤ 6000) {h : PHeap} {m b1 b2 b3 : PBlk} :
    Γ0 57 [.yield (h.length + 8), .ptr (h.length + 6) 0, .ptr (h.length + 7) 0] (HB h m b1 b2 b3 (.box [ints l] 22 .rw) (.box [.int .i64 256] 3 .rw) .ready none []) = some (.tuple [], HB h m b1 b2 b3 (.box [ints l] 22 .rw) (.box [.int .i64 256] 3 .rw) .ready none (blocksB l)) := by
  refine gbody (F := A57) (by kernel_rfl) (nBlocks l + 1) ?_
  rw [s57_eq]
  unfold s57
  simp only [KL_def]
  have hnb : nBlocks l = (l.length + 255) / 256 := rfl
  have r1 : ∀ o, loadP false 1 (.ptr (h.length + 6) 0) (HB h m b1 b2 b3 (.box [ints l] 22 .rw) (.box [.int .i64 256] 3 .rw) .ready none o) = some (ints l) := fun o => by
    rw [load_box, boxAt_some (vs := [ints l]) (t := 22) (md := .rw) (by unfold HB; rw [get_new]; rfl)]; rfl
  have r2 : ∀ o, loadP false 1 (.ptr (h.length + 7) 0) (HB h m b1 b2 b3 (.box [ints l] 22 .rw) (.box [.int .i64 256] 3 .rw) .ready none o) = some (.int .i64 256) := fun o => by
    rw [load_box, boxAt_some (vs := [.int .i64 256]) (t := 3) (md := .rw) (by unfold HB; rw [get_new]; rfl)]; rfl
  refine loop_run (fun k => [.int .i64 ((256 * k : Nat) : Int)]) (fun k => HB h m b1 b2 b3 (.box [ints l] 22 .rw) (.box [.int .i64 256] 3 .rw) .ready none (blocksN l k)) (nBlocks l) (by omega) rfl rfl (fun k hk K => ?_) fun K => ?_
  · have hlt : 256 * k < l.length := by omega
    have hlen : (l.drop (256 * k)).length = l.length - 256 * k := by simp
    have hmin : min (256 : Int) ((l.drop (256 * k)).length : Int) = ((min 256 (l.drop (256 * k)).length : Nat) : Int) := by omega
    have hadd : IntKind.i64.wrap (((256 * k : Nat) : Int) + ((min 256 (l.drop (256 * k)).length : Nat) : Int)) = ((256 * k + min 256 (l.drop (256 * k)).length : Nat) : Int) := by rw [wrap64 (by unfold isI64; omega)]; omega
    have hadd2 : IntKind.i64.wrap (((256 * k : Nat) : Int) + 256) = ((256 * (k + 1) : Nat) : Int) := by rw [wrap64 (by unfold isI64; omega)]; omega
    have hcl := ints_clip (l := l) (a := 256 * k) (b := 256 * k + min 256 (l.drop (256 * k)).length) (by omega) (by omega)
    have hpart : (l.take (256 * k + min 256 (l.drop (256 * k)).length)).drop (256 * k) = (l.drop (256 * k)).take 256 := by
      rw [← drop_take_swap, List.take_eq_take_iff]; omega
    rw [hpart] at hcl
    have hrd := cRound (h := h) (m := m) (b1 := b1) (b2 := b2) (b3 := b3) (c1 := .box [ints l] 22 .rw) (c2 := .box [.int .i64 256] 3 .rw) (small_part hs (256 * k) 256) (show ((l.drop (256 * k)).take 256).length ≤ 256 by simp; omega) (out := blocksN l k) (by have := blocksN_len l k; omega)
    rw [← blocksN_succ] at hrd
    have hyv : ∀ args H, callVP Γ0 (.yield (h.length + 8)) args H = Γ0 yieldId (.ptr (h.length + 8) 0 :: args) H := fun _ _ => rfl
    unfold s57_L0
    simp only [r1, r2, Option.bind_some, len_ints, nth_zero, bin_lss, ltT hlt, decide_true, KL_def, if_bool, if_true, ints_lo (Nat.le_of_lt hlt), fold1_two, min2_i, hmin, bin_add, hadd, hcl, fz_ints, hyv, hrd, un_not, Bool.not_true, Bool.false_eq_true, if_false, hadd2]
    rw [trim_len _ (by unfold HB; simp)]
  · have hlt : ((((256 * nBlocks l : Nat) : Int)) < (l.length : Int)) = False := eq_false (by omega)
    unfold s57_L0
    simp only [r1, Option.bind_some, len_ints, nth_zero, bin_lss, hlt, decide_false, KL_def, if_bool, Bool.false_eq_true, if_false, fin_def, fzL_nil, Option.map_some]
    rw [trim_len _ (by unfold HB; simp)]
    rfl
theorem look1 (h : PHeap) (v : Int) : lookupP .int (.agg [.nilF, .nilF]) true (.map h.length) (.int .i64 v) (HW h) = some (.tuple [.agg (if v = 1 then [fn25, fn41] else if v = 2 then [fn56 (h.length + 1), fn56 (h.length + 2)] else [.nilF, .nilF]), .bool (isVer v)]) := by
  unfold lookupP mapOfP HW
  simp only [get_new0, List.getElem?_cons_zero, Option.bind_some, waysM, findMapP, keyEqP, if_true, isVer]
  by_cases h1 : v = 1
  · subst h1; rfl
  · have e1 : (v == 1) = false := by simp [h1]
    by_cases h2 : v = 2
    · subst h2; rfl
    · have e2 : (v == 2) = false := by simp [h2]
      simp [e1, e2, h1, h2]
theorem fin_errN {h l : PHeap} {e : Int} : finP [.flat 1, .keep] h (h ++ l) [.nilS, .int .i64 e] = some (.tuple [u8s [], .int .i64 e], h) := by
  simp only [fin_def, fzL_cons, fzL_nil, fz_keep, fz_nil, Option.bind_some, Option.map_some, single_two]
  rw [trim_new _ (fun x hx => by simp only [List.mem_cons, List.not_mem_nil, or_false] at hx; rcases hx with rfl | rfl <;> first | exact lt_frz _ _ _ | exact lt_int _ _ _)]
  rfl
theorem c11 {l : List Int} (bits v : Int) (hm : l.length < 9223372036854775808) (h : PHeap) : Γ0 11 [ints l, .int .i64 bits, .int .i64 v] h = some (.tuple [u8s (blocksOf l bits v), .int .i64 (blocksE l bits v)], h) := by
  refine gbody (F := A11) (by kernel_rfl) 1 ?_
  rw [s11_eq]
  unfold s11
  obtain ⟨fs, hfs, hfl⟩ : ∃ fs : List PV, fs = (if v = 1 then [fn25, fn41] else if v = 2 then [fn56 (h.length + 1), fn56 (h.length + 2)] else [.nilF, .nilF]) ∧ fs.length = 2 ∧ fs.all oneP = true := ⟨_, rfl, by split <;> first | (split <;> exact ⟨rfl, rfl⟩) | exact ⟨rfl, rfl⟩⟩
  have ex0 : ∀ a b : PV, extractP (.tuple [a, b]) 0 = some a := fun _ _ => rfl
  have ex1 : ∀ a b : PV, extractP (.tuple [a, b]) 1 = some b := fun _ _ => rfl
  have l1 : (HW h).length = h.length + 3 := by unfold HW; simp
  have H5 : HW h ++ [PBlk.box [.nilF, .nilF] 45 .rw] = h ++ [.map (waysM h) .rw, .box [fn25] 43 .rw, .box [fn41] 43 .rw, .box [.nilF, .nilF] 45 .rw] := by unfold HW; simp
  have st : storeP 2 (.ptr (h.length + 3) 0) (.agg fs) (h ++ [.map (waysM h) .rw, .box [fn25] 43 .rw, .box [fn41] 43 .rw, .box [.nilF, .nilF] 45 .rw]) = some (h ++ [.map (waysM h) .rw, .box [fn25] 43 .rw, .box [fn41] 43 .rw, .box fs 45 .rw]) := by
    rw [store_whole (n := 2) (vs := [.nilF, .nilF]) (t := 45) (by rw [get_new]; rfl) rfl hfl.1 (by decide) hfl.2, set_new]
    rfl
  simp only [c28, Option.bind_some, look1, ← hfs, ex0, ex1, fork_def, l1, H5, st, bin_neq, K1_def, KL_def, sc_and, sc_or, if_bool, un_not, ne0]
  unfold blocksOf blocksE
  cases hr : right bits with
  | false =>
    have n1 : (bits != 8) = true := by unfold right at hr; simp at hr ⊢; exact hr.1
    have n2 : (bits != 16) = true := by unfold right at hr; simp at hr ⊢; exact hr.2
    simp only [n1, n2, if_true, Bool.true_eq_false, if_false, fin_errN, Bool.false_and, Bool.false_eq_true]
    rfl
  | true =>
    obtain ⟨b, rfl, hb⟩ := right_nat hr
    cases hv : isVer v with
    | false =>
      rcases hb with rfl | rfl <;>
      · simp (config := { decide := true }) only [if_true, if_false, Bool.not_false, fin_errN, Bool.and_false, Bool.false_eq_true]
    | true =>
      have c24b := c24 (l := l) (b : Int) (by omega) (h ++ [.map (waysM h) .rw, .box [fn25] 43 .rw, .box [fn41] 43 .rw, .box fs 45 .rw])
      have hpq : (((b : Int) != 8) = true ∧ ((b : Int) != 16) = false) ∨ ((b : Int) != 8) = false := by rcases hb with rfl | rfl <;> simp
      have hF : (false = true) = False := by simp
      have hT : (true = false) = False := by simp
      simp only [Bool.not_true, c24b, Option.bind_some, bin_neq, if_bool, ne0, Bool.and_self, if_true, hF, hT, if_false]
      have collapse : ∀ (A B C : Pt), (if ((b : Int) != 8) = true then (if ((b : Int) != 16) = false then A else B) else A) = A := fun A B C => by
        rcases hpq with ⟨h1, h2⟩ | h1
        · rw [if_pos h1, if_pos h2]
        · rw [if_neg (by rw [h1]; simp)]
      simp only [collapse _ _ none]
      by_cases h0 : chk l (b : Int) = 0
      · obtain ⟨b', hbb, hb8, hall, h4⟩ := chk_zero h0
        obtain rfl : b = b' := by omega
        have hs := small_all (show b ≤ 16 by omega) hall
        have l4 : (h ++ [PBlk.map (waysM h) .rw, .box [fn25] 43 .rw, .box [fn41] 43 .rw, .box fs 45 .rw]).length = h.length + 4 := by simp
        have e6 : h ++ [PBlk.map (waysM h) .rw, .box [fn25] 43 .rw, .box [fn41] 43 .rw, .box fs 45 .rw] ++ [PBlk.log [] 1 5 .rw, PBlk.box [.ref (h.length + 4) 0 0 0 1] 24 .rw] = h ++ [.map (waysM h) .rw, .box [fn25] 43 .rw, .box [fn41] 43 .rw, .box fs 45 .rw, .log [] 1 5 .rw, .box [.ref (h.length + 4) 0 0 0 1] 24 .rw] := by simp
        have ia : indexAddrArrP 2 1 (.ptr (h.length + 3) 0) (.int .i64 0) = some (.ptr (h.length + 3) 0) := rfl
        have ld : loadP false 1 (.ptr (h.length + 3) 0) (h ++ [.map (waysM h) .rw, .box [fn25] 43 .rw, .box [fn41] 43 .rw, .box fs 45 .rw, .log [] 1 5 .rw, .box [.ref (h.length + 4) 0 0 0 1] 24 .rw]) = fs[0]? := by
          rw [load_box, boxAt_some (vs := fs) (t := 45) (md := .rw) (by rw [get_new]; rfl)]; rfl
        have call : ∃ f, fs[0]? = some f ∧ callVP Γ0 f [ints l, .int .i64 b] (h ++ [.map (waysM h) .rw, .box [fn25] 43 .rw, .box [fn41] 43 .rw, .box fs 45 .rw, .log [] 1 5 .rw, .box [.ref (h.length + 4) 0 0 0 1] 24 .rw]) = some (ints (codedL v b l), h ++ [.map (waysM h) .rw, .box [fn25] 43 .rw, .box [fn41] 43 .rw, .box fs 45 .rw, .log [] 1 5 .rw, .box [.ref (h.length + 4) 0 0 0 1] 24 .rw]) := by
          unfold isVer at hv
          simp only [Bool.or_eq_true, beq_iff_eq] at hv
          rcases hv with rfl | rfl
          · rw [hfs]
            refine ⟨fn25, rfl, ?_⟩
            unfold fn25
            rw [callV_func Γ0 25]
            simp only [List.nil_append, List.append_nil]
            rw [c25 (b := b) (by omega) (by omega) hs (show l.length < 4294967296 by omega)]
            rfl
          · rw [hfs]
            refine ⟨fn56 (h.length + 1), rfl, ?_⟩
            unfold fn56
            rw [callV_func Γ0 56]
            simp only [List.nil_append, List.cons_append]
            rw [c56 (b := b) (by omega) (by omega) hs (show l.length < 4294967296 by omega) (boxAt_some (t := 43) (md := .rw) (by rw [get_new]; rfl))]
            rfl
        obtain ⟨f, hf0, hf⟩ := call
        have l6 : (h ++ [PBlk.map (waysM h) .rw, .box [fn25] 43 .rw, .box [fn41] 43 .rw, .box fs 45 .rw, .log [] 1 5 .rw, .box [.ref (h.length + 4) 0 0 0 1] 24 .rw]).length = h.length + 6 := by simp
        have k29 := c29 (codedL v b l) (h ++ [PBlk.map (waysM h) .rw, .box [fn25] 43 .rw, .box [fn41] 43 .rw, .box fs 45 .rw, .log [] 1 5 .rw, .box [.ref (h.length + 4) 0 0 0 1] 24 .rw])
        have e8 : h ++ [PBlk.map (waysM h) .rw, .box [fn25] 43 .rw, .box [fn41] 43 .rw, .box fs 45 .rw, .log [] 1 5 .rw, .box [.ref (h.length + 4) 0 0 0 1] 24 .rw] ++ [PBlk.box [ints (codedL v b l)] 22 .rw, PBlk.box [.int .i64 256] 3 .rw] = h ++ [.map (waysM h) .rw, .box [fn25] 43 .rw, .box [fn41] 43 .rw, .box fs 45 .rw, .log [] 1 5 .rw, .box [.ref (h.length + 4) 0 0 0 1] 24 .rw, .box [ints (codedL v b l)] 22 .rw, .box [.int .i64 256] 3 .rw] := by simp
        rw [e8, l6] at k29
        have l8 : (h ++ [PBlk.map (waysM h) .rw, .box [fn25] 43 .rw, .box [fn41] 43 .rw, .box fs 45 .rw, .log [] 1 5 .rw, .box [.ref (h.length + 4) 0 0 0 1] 24 .rw, .box [ints (codedL v b l)] 22 .rw, .box [.int .i64 256] 3 .rw]).length = h.length + 8 := by simp
        have e9 : h ++ [PBlk.map (waysM h) .rw, .box [fn25] 43 .rw, .box [fn41] 43 .rw, .box fs 45 .rw, .log [] 1 5 .rw, .box [.ref (h.length + 4) 0 0 0 1] 24 .rw, .box [ints (codedL v b l)] 22 .rw, .box [.int .i64 256] 3 .rw] ++ [PBlk.loop [.ptr (h.length + 4 + 1) 0] [11] [47] L11_0a L11_0b .ready none .rw] = HB h (.map (waysM h) .rw) (.box [fn25] 43 .rw) (.box [fn41] 43 .rw) (.box fs 45 .rw) (.box [ints (codedL v b l)] 22 .rw) (.box [.int .i64 256] 3 .rw) .ready none [] := by unfold HB; simp
        have k57 := c57 (l := codedL v b l) (codedL_small (by omega) v l) (by rw [codedL_len]; omega) (h := h) (m := .map (waysM h) .rw) (b1 := .box [fn25] 43 .rw) (b2 := .box [fn41] 43 .rw) (b3 := .box fs 45 .rw)
        generalize hout : blocksB (codedL v b l) = out at k57
        have pe : pendOfP (h.length + 8) (HB h (.map (waysM h) .rw) (.box [fn25] 43 .rw) (.box [fn41] 43 .rw) (.box fs 45 .rw) (.box [ints (codedL v b l)] 22 .rw) (.box [.int .i64 256] 3 .rw) .ready none out) = some none := by
          unfold pendOfP HB
          rw [get_new]
          rfl
        have tr : trim (h ++ [PBlk.map (waysM h) .rw, .box [fn25] 43 .rw, .box [fn41] 43 .rw, .box fs 45 .rw, .log [] 1 5 .rw, .box [.ref (h.length + 4) 0 0 0 1] 24 .rw, .box [ints (codedL v b l)] 22 .rw, .box [.int .i64 256] 3 .rw]) [] ((HB h (.map (waysM h) .rw) (.box [fn25] 43 .rw) (.box [fn41] 43 .rw) (.box fs 45 .rw) (.box [ints (codedL v b l)] 22 .rw) (.box [.int .i64 256] 3 .rw) .ready none out).set (h.length + 8) .dead) =
            h ++ [.map (waysM h) .rw, .box [fn25] 43 .rw, .box [fn41] 43 .rw, .box fs 45 .rw, .log (out.map u8V) 1 5 .rw, .box [.ref (h.length + 4) 0 out.length out.length 1] 24 .rw, .box [ints (codedL v b l)] 22 .rw, .box [.int .i64 256] 3 .rw] := by
          have e10 : (HB h (.map (waysM h) .rw) (.box [fn25] 43 .rw) (.box [fn41] 43 .rw) (.box fs 45 .rw) (.box [ints (codedL v b l)] 22 .rw) (.box [.int .i64 256] 3 .rw) .ready none out).set (h.length + 8) .dead =
              h ++ ([.map (waysM h) .rw, .box [fn25] 43 .rw, .box [fn41] 43 .rw, .box fs 45 .rw, .log (out.map u8V) 1 5 .rw, .box [.ref (h.length + 4) 0 out.length out.length 1] 24 .rw, .box [ints (codedL v b l)] 22 .rw, .box [.int .i64 256] 3 .rw] ++ [.dead]) := by
            unfold HB
            rw [set_new]
            rfl
          rw [e10, trim_app2 (by rfl) (fun v hv => by cases hv) fun k x hx => ?_]
          match k, hx with
          | 0, hx => exact .inl hx
          | 1, hx => exact .inl hx
          | 2, hx => exact .inl hx
          | 3, hx => exact .inl hx
          | 4, hx =>
            cases hx
            refine .inr fun x hx => ?_
            obtain ⟨r, h1, h2⟩ := List.mem_flatten.1 hx
            obtain ⟨a, _, rfl⟩ := List.mem_map.1 h1
            simp only [u8V, List.mem_singleton] at h2
            subst h2
            exact lt_int _ _ _
          | 5, hx =>
            cases hx
            refine .inr fun x hx => ?_
            simp only [List.mem_singleton] at hx
            subst hx
            simp [ltV]
          | 6, hx => exact .inl hx
          | 7, hx => exact .inl hx
          | k + 8, hx => simp at hx
        have ld5 : loadP false 1 (.ptr (h.length + 4 + 1) 0) (h ++ [.map (waysM h) .rw, .box [fn25] 43 .rw, .box [fn41] 43 .rw, .box fs 45 .rw, .log (out.map u8V) 1 5 .rw, .box [.ref (h.length + 4) 0 out.length out.length 1] 24 .rw, .box [ints (codedL v b l)] 22 .rw, .box [.int .i64 256] 3 .rw]) = some (.ref (h.length + 4) 0 out.length out.length 1) := by
          rw [load_box, boxAt_some (vs := [.ref (h.length + 4) 0 out.length out.length 1]) (t := 24) (md := .rw) (by rw [show h.length + 4 + 1 = h.length + 5 from rfl, get_new]; rfl)]; rfl
        have ff := fz_logB (h := h) (l := [.map (waysM h) .rw, .box [fn25] 43 .rw, .box [fn41] 43 .rw, .box fs 45 .rw, .log (out.map u8V) 1 5 .rw, .box [.ref (h.length + 4) 0 out.length out.length 1] 24 .rw, .box [ints (codedL v b l)] 22 .rw, .box [.int .i64 256] 3 .rw]) (k := 4) (s := 1) out.length rfl rfl
        rw [if_neg (fun k => absurd h0 k)]
        simp only [l4, e6, ia, Option.bind_some, ld, hf0, hf, k29, l8, e9, callF_func Γ0 57, List.nil_append, List.cons_append, k57, pe, endF, tr, ld5, fin_def, fzL_cons, fzL_nil, fz_keep, ff, Option.map_some, single_two, h0, if_true, Int.toNat_natCast]
        rw [trim_new _ (fun x hx => by simp only [List.mem_cons, List.not_mem_nil, or_false] at hx; rcases hx with rfl | rfl <;> first | exact lt_u8s _ _ | exact lt_int _ _ _), hout]
      · rw [if_pos h0, if_neg h0, fin_errN]
end Go.Vm.X


set_option linter.unusedSimpArgs false
set_option linter.unusedVariables false
namespace Go.Vm.X
open Go.Am Go.Vm
theorem ex20 (a b : PV) : extractP (.tuple [a, b]) 0 = some a := rfl
theorem ex21 (a b : PV) : extractP (.tuple [a, b]) 1 = some b := rfl
theorem c8 (h : PHeap) : Γ0 8 [] h = some (.bool true, h) := by
  refine gbody (F := A8) (by kernel_rfl) 1 ?_
  rw [s8_eq]
  unfold s8
  have f : fillP (repP [.int .i64 0] 3) [(0, 1, (.int .i64 1 : PV)), (1, 1, (.int .i64 2 : PV)), (2, 1, (.int .i64 3 : PV))] = some [.int .i64 1, .int .i64 2, .int .i64 3] := rfl
  have g : PV.frz 1 (chunk 1 3 [.int .i64 1, .int .i64 2, .int .i64 3]) = ints [1, 2, 3] := rfl
  have hp : ([.int .i64 1, .int .i64 2, .int .i64 3] : List PV).all pure1 = true := rfl
  have e1 : blocksE [1, 2, 3] 8 2 = 0 := by decide +kernel
  have e2 : blocksOf [1, 2, 3] 8 2 = [2, 1] := by decide +kernel
  have e3 : ((byteStr [2, 1]).toList == (⟨#[2, 1]⟩ : ByteArray).toList) = true := by decide +kernel
  simp only [f, Option.bind_some, hp, guard_true, fork_def, g, c11 (l := [1, 2, 3]) 8 2 (by decide) h, e1, e2, ex20, ex21, bin_eql, beq_self_eq_true, K1_def, sc_and, if_true, str_u8s, bin_seq, e3, fin_bool0]
end Go.Vm.X


set_option linter.unusedSimpArgs false
set_option linter.unusedVariables false
namespace Go.Vm.X
open Go.Am Go.Vm
theorem append_emp {t : TypeId} {l : List Int} (h : PHeap) (h0 : l ≠ []) (hm : l.length ≤ mostLen) : appendP t 1 .emp (ints l) h = some (.ref h.length 0 l.length l.length 1, h ++ [.log (l.map iV) 1 t .rw]) := by
  have hn : ¬ (l.map iV).length = 0 := by rw [List.length_map]; intro h; exact h0 (List.eq_nil_of_length_eq_zero h)
  unfold appendP ints
  simp only [rows_frz, Option.bind_some, appendRows]
  rw [if_pos ⟨by rw [List.length_map]; exact hm, by decide, pure_ones (pure_map iV_pure l)⟩, if_neg hn, List.length_map]
theorem append_emp0 {t : TypeId} (h : PHeap) : appendP t 1 .emp (ints []) h = some (.emp, h) := rfl
def cloneR (l : List Int) (h : PHeap) : PV × PHeap := if l = [] then (.emp, h) else (.ref h.length 0 l.length l.length 1, h ++ [.log (l.map iV) 1 3 .rw])
theorem clone_nil (h : PHeap) : cloneR [] h = (.emp, h) := if_pos rfl
theorem clone_ne {l : List Int} (hl : l ≠ []) (h : PHeap) : cloneR l h = (.ref h.length 0 l.length l.length 1, h ++ [.log (l.map iV) 1 3 .rw]) := if_neg hl
theorem c49 {l : List Int} (hm : l.length < 4294967296) (h : PHeap) : Γ0 49 [ints l] h = some (cloneR l h) := by
  refine gbody (F := A49) (by kernel_rfl) 1 ?_
  rw [s49_eq]
  unfold s49
  simp only [KL_def]
  by_cases hl : l = []
  · subst hl
    refine isNil_frz (rows := [].map iV) (fun _ => ?_) ?_
    · simp only [if_bool, Bool.not_false, if_true, fin_def, fzL_cons, fzL_nil, fz_rawN, Option.bind_some, Option.map_some, single_one, trim_self, clone_nil]
    · show ifP (.bool false) _ ((appendP 3 1 .emp (ints []) h).bind _) = _
      simp only [if_bool, append_emp0, Bool.false_eq_true, if_false, fin_def, fzL_cons, fzL_nil, fz_rawE, Option.bind_some, Option.map_some, single_one, trim_self, clone_nil]
  · refine isNil_frz (rows := l.map iV) (fun e => absurd (List.map_eq_nil_iff.1 e) hl) ?_
    show ifP (.bool false) _ ((appendP 3 1 .emp (ints l) h).bind _) = _
    simp only [if_bool, append_emp h hl (show l.length ≤ mostLen by unfold mostLen; omega), Bool.false_eq_true, if_false, fin_def, fzL_cons, fzL_nil, fz_rawR, Option.bind_some, Option.map_some, single_one, clone_ne hl]
    rw [trim_ref ⟨_, List.mem_singleton.2 rfl, by simp [ltV]⟩]
theorem app_zeros {l : List Int} {h : PHeap} (k : Nat) (hk : l.length + k ≤ 100000) : ∃ v H, appendNP 3 1 [.int .i64 0] (cloneR l h).1 (.int .i64 (k : Int)) (cloneR l h).2 = some (v, H) ∧ ((l.length + k = 0 ∧ v = .emp ∧ H = h) ∨ (v = .ref h.length 0 (l.length + k) (l.length + k) 1 ∧ H = h ++ [.log ((l ++ List.replicate k 0).map iV) 1 3 .rw])) := by
  have hz : (List.replicate k [PV.int .i64 0]).flatten.all oneP = true := List.all_eq_true.2 fun x hx => by
    obtain ⟨r, h1, h2⟩ := List.mem_flatten.1 hx
    rw [(List.mem_replicate.1 h1).2] at h2
    simp only [List.mem_singleton] at h2
    subst h2; rfl
  by_cases hl : l = []
  · subst hl
    rw [clone_nil]
    simp only [appendNP, List.length_nil, Nat.zero_add]
    rw [if_pos ⟨by omega, by unfold mostLen; omega, rfl⟩]
    simp only [appendRows, Int.toNat_natCast, List.length_replicate]
    rw [if_pos ⟨by unfold mostLen; omega, by decide, hz⟩]
    by_cases hk0 : k = 0
    · rw [if_pos hk0]; exact ⟨_, _, rfl, .inl ⟨hk0, rfl, rfl⟩⟩
    · rw [if_neg hk0]; exact ⟨_, _, rfl, .inr ⟨rfl, by simp [iV]⟩⟩
  · rw [clone_ne hl]
    simp only [appendNP]
    rw [if_pos ⟨by omega, by unfold mostLen; omega, rfl⟩]
    simp only [appendRows, Int.toNat_natCast, List.length_replicate]
    rw [if_pos ⟨by unfold mostLen; omega, by decide, hz⟩, get_new0]
    simp only [List.getElem?_cons_zero, List.length_map]
    rw [if_pos ⟨trivial, trivial, trivial, trivial, trivial, trivial, by unfold mostLen; omega⟩, set_new0]
    exact ⟨_, _, rfl, .inr ⟨rfl, by simp [iV]⟩⟩
theorem fz_zeros {l : List Int} {h : PHeap} {k s : Nat} {v : PV} {H : PHeap} (hv : (l.length + k = 0 ∧ v = .emp ∧ H = h) ∨ (v = .ref h.length 0 (l.length + k) (l.length + k) 1 ∧ H = h ++ [.log ((l ++ List.replicate k 0).map iV) 1 3 .rw])) (hs : s = 1) :
    ∃ L, fz (.flat s) v H = some (ints (l ++ List.replicate k 0), h ++ L) := by
  subst hs
  rcases hv with ⟨h0, rfl, rfl⟩ | ⟨rfl, rfl⟩
  · have : l = [] := List.eq_nil_of_length_eq_zero (by omega)
    subst this
    obtain rfl : k = 0 := by simpa using h0
    exact ⟨[], by rw [fz_emp, List.append_nil]; rfl⟩
  · have e := fz_logI (h := h) (l := [.log ((l ++ List.replicate k 0).map iV) 1 3 .rw]) (k := 0) (s := 1) (l.length + k) (by simp) rfl
    simp only [Nat.add_zero] at e
    exact ⟨_, e⟩
def padL (l : List Int) (n : Nat) : List Int := l.take n ++ List.replicate (n - l.length) 0
theorem padL_len (l : List Int) (n : Nat) : (padL l n).length = n := by unfold padL; simp; omega
theorem c40 {l : List Int} {n : Nat} (hm : l.length < 4294967296) (hn : n ≤ 4096) (h : PHeap) : Γ0 40 [ints l, .int .i64 n] h = some (.tuple [ints (padL l n), .int .i64 ((n - l.length : Nat) : Int)], h) := by
  refine gbody (F := A40) (by kernel_rfl) 1 ?_
  rw [s40_eq]
  unfold s40
  have hmin : min (l.length : Int) (n : Int) = ((min l.length n : Nat) : Int) := by omega
  have ht : l.take (min l.length n) = l.take n := by rw [List.take_eq_take_iff]; omega
  have hlt : (l.take n).length = min n l.length := List.length_take
  have hsub : IntKind.i64.wrap ((n : Int) - ((l.take n).length : Int)) = ((n - l.length : Nat) : Int) := by rw [hlt, wrap64 (by unfold isI64; omega)]; omega
  obtain ⟨v, H, e1, e2⟩ := app_zeros (l := l.take n) (h := h) (n - l.length) (by omega)
  obtain ⟨L, e3⟩ := fz_zeros (s := 1) e2 rfl
  simp only [len_ints, Option.bind_some, fold1_two, min2_i, hmin, ints_hi (Nat.min_le_left _ _), ht, bin_sub, hsub, c49 (l := l.take n) (show (l.take n).length < 4294967296 by omega), e1, fin_def, fzL_cons, fzL_nil, fz_keep, e3, Option.map_some, single_two]
  rw [trim_new _ (fun x hx => by simp only [List.mem_cons, List.not_mem_nil, or_false] at hx; rcases hx with rfl | rfl <;> first | exact lt_ints _ _ | exact lt_int _ _ _)]
  rfl
theorem c44 {l : List Int} {n : Nat} (hl : l.length ≤ n) (hn : n ≤ 4096) (h : PHeap) : Γ0 44 [ints l, .int .i64 n] h = some (ints (padL l n), h) := by
  refine gbody (F := A44) (by kernel_rfl) 1 ?_
  rw [s44_eq]
  unfold s44
  have hsub : IntKind.i64.wrap ((n : Int) - (l.length : Int)) = ((n - l.length : Nat) : Int) := by rw [wrap64 (by unfold isI64; omega)]; omega
  obtain ⟨v, H, e1, e2⟩ := app_zeros (l := l) (h := h) (n - l.length) (by omega)
  obtain ⟨L, e3⟩ := fz_zeros (s := 1) e2 rfl
  have ea : appendP 3 1 .emp (ints l) h = some (cloneR l h) := by
    by_cases h0 : l = []
    · subst h0; rw [clone_nil]; rfl
    · rw [clone_ne h0, append_emp h h0 (by unfold mostLen; omega)]
  simp only [ea, len_ints, Option.bind_some, bin_sub, hsub, e1, fin_def, fzL_cons, fzL_nil, e3, Option.map_some, single_one]
  rw [trim_new _ (fun x hx => by simp only [List.mem_singleton] at hx; subst hx; exact lt_ints _ _)]
  unfold padL
  rw [List.take_of_length_le hl]
def askd (b : List Nat) (n : Int) : Int := if b.length > 400000 then 3 else if n < 0 ∨ n > 4096 then 5 else 0
theorem c42 {b : List Nat} (n : Int) (h : PHeap) : Γ0 42 [u8s b, .int .i64 n] h = some (.int .i64 (askd b n), h) := by
  refine gbody (F := A42) (by kernel_rfl) 1 ?_
  rw [s42_eq]
  unfold s42 askd
  simp only [KL_def, K1_def, len_u8s, Option.bind_some, bin_gtr, bin_lss, if_bool, sc_or, fin_int0, decide_eq_true_eq, decide_eq_false_iff_not]
  by_cases h1 : b.length > 400000
  · rw [if_pos (by omega), if_pos h1]
  · rw [if_neg (by omega), if_neg h1]
    by_cases h2 : n < 0
    · simp [h2]
    · by_cases h3 : n > 4096
      · simp [h2, h3]
      · simp [h2, h3]
theorem c39 {b : List Nat} (bits n : Int) (h : PHeap) : Γ0 39 [u8s b, .int .i64 bits, .int .i64 n] h = some (.int .i64 (if right bits then askd b n else 1), h) := by
  refine gbody (F := A39) (by kernel_rfl) 1 ?_
  rw [s39_eq]
  unfold s39
  simp only [KL_def, K1_def, len_u8s, Option.bind_some, bin_gtr, bin_lss, bin_neq, if_bool, sc_or, sc_and, fin_int0, decide_eq_true_eq, decide_eq_false_iff_not]
  have key : (if (b.length : Int) > 400000 then some (PV.int .i64 3, h) else if ¬n < 0 then if n > 4096 then some (.int .i64 5, h) else some (.int .i64 0, h) else if True then some (.int .i64 5, h) else some (.int .i64 0, h)) = some (.int .i64 (askd b n), h) := by
    unfold askd
    by_cases h1 : b.length > 400000
    · rw [if_pos (by omega), if_pos h1]
    · rw [if_neg (by omega), if_neg h1]
      by_cases h2 : n < 0
      · simp [h2]
      · by_cases h3 : n > 4096
        · simp [h2, h3]
        · simp [h2, h3]
  rw [key]
  unfold right
  by_cases k1 : bits = 8
  · simp [k1]
  · by_cases k2 : bits = 16
    · simp [k2]
    · simp [k1, k2]
theorem askd_zero {b : List Nat} {n : Int} (h : askd b n = 0) : b.length ≤ 400000 ∧ ∃ m : Nat, n = m ∧ m ≤ 4096 := by
  unfold askd at h
  split at h
  · cases h
  · split at h
    · cases h
    · exact ⟨by omega, n.toNat, by omega, by omega⟩
end Go.Vm.X


set_option linter.unusedSimpArgs false
set_option linter.unusedVariables false
namespace Go.Vm.X
open Go.Am Go.Vm
theorem getD_nat {b : List Nat} {i a : Nat} (h : b[i]? = some a) : b.getD i 0 = a := by rw [List.getD_eq_getElem?_getD, h]; rfl
theorem append_i64 {h l : PHeap} {k : Nat} {t : TypeId} {xs : List Int} (a : Int) (e : l[k]? = some (.log (xs.map iV) 1 t .rw)) (hm : xs.length < mostLen) :
    appendP t 1 (.ref (h.length + k) 0 xs.length xs.length 1) (.frz 1 [[.int .i64 a]]) (h ++ l) = some (.ref (h.length + k) 0 (xs ++ [a]).length (xs ++ [a]).length 1, h ++ l.set k (.log ((xs ++ [a]).map iV) 1 t .rw)) := by
  rw [append_one xs.length (by simp) e rfl hm]
  simp [iV]
theorem fin_3 {h L : PHeap} {l : List Int} {a e : Int} : finP [.flat 1, .keep, .keep] h (h ++ L) [ints l, .int .i64 a, .int .i64 e] = some (.tuple [ints l, .int .i64 a, .int .i64 e], h) := by
  simp only [fin_def, fzL_cons, fzL_nil, fz_keep, fz_ints, Option.bind_some, Option.map_some, single_three]
  rw [trim_new _ (fun x hx => by simp only [List.mem_cons, List.not_mem_nil, or_false] at hx; rcases hx with rfl | rfl | rfl <;> first | exact lt_ints _ _ | exact lt_int _ _ _)]
theorem fin_3e {h : PHeap} {a e : Int} : finP [.flat 1, .keep, .keep] h h [.nilS, .int .i64 a, .int .i64 e] = some (.tuple [ints [], .int .i64 a, .int .i64 e], h) := by
  simp only [fin_def, fzL_cons, fzL_nil, fz_keep, fz_nil, Option.bind_some, Option.map_some, single_three, trim_self]
  rfl
theorem c15 (l : List Int) (hm : l.length < 4294967297) (h : PHeap) : Γ0 15 [ints l, ints l] h = some (.bool true, h) := by
  refine gbody (F := A15) (by kernel_rfl) (l.length + 1) ?_
  rw [s15_eq]
  unfold s15
  simp only [len_ints, Option.bind_some, bin_neq, bne_self_eq_false, KL_def, if_bool, Bool.false_eq_true, if_false]
  refine loop_pure (fun i => [.int .i64 i]) l.length (by omega) rfl (fun i hi K => ?_) fun K => ?_
  · obtain ⟨a, ha⟩ := lt_len hi
    unfold s15_L0
    simp only [nth_zero, bin_lss, ltT hi, decide_true, Option.bind_some, KL_def, if_bool, if_true, idx_ints _ ha, load_iV, bin_neq, bne_self_eq_false, Bool.false_eq_true, if_false, bin_add, succ64 (show i < 4294967297 by omega), trim_self]
  · unfold s15_L0
    simp only [nth_zero, bin_lss, ltF, decide_false, Option.bind_some, KL_def, if_bool, Bool.false_eq_true, if_false, fin_bool0]
end Go.Vm.X


set_option linter.unusedSimpArgs false
set_option linter.unusedVariables false
namespace Go.Vm.X
open Go.Am Go.Vm
end Go.Vm.X


set_option linter.unusedSimpArgs false
set_option linter.unusedVariables false
namespace Go.Vm.X
open Go.Am Go.Vm
end Go.Vm.X


set_option linter.unusedSimpArgs false
set_option linter.unusedVariables false
namespace Go.Vm.X
open Go.Am Go.Vm
theorem shr_u8 (a k : Nat) (hk : k < 8) (ha : a < 256) : binP .shr (.int .u8 (a : Int)) (.int .i64 (k : Int)) = some (.int .u8 ((a / 2 ^ k : Nat) : Int)) := by
  rw [bin_shr _ _ _ _ (by omega), Int.toNat_natCast, show min k IntKind.u8.bits = k by show min k 8 = k; omega]
  congr 2
  rw [Int.fdiv_eq_ediv_of_nonneg _ (by have := Nat.two_pow_pos k; have h2 : (2 : Int) ^ k = ((2 ^ k : Nat) : Int) := by simp
                                       omega)]
  simp
theorem bind_congr1 {α β : Type} {a b : Option α} {f : α → Option β} (h : a = b) : a.bind f = b.bind f := by rw [h]
theorem ifP_congr1 {R : Type} {c d : PV} {a b : Option R} (h : c = d) : ifP c a b = ifP d a b := by rw [h]
theorem scP_congr1 {R : Type} {c d : PV} {t : Bool} {a b : Option R} (h : c = d) : scP c t a b = scP d t a b := by rw [h]
theorem ite_congr1 {α : Sort _} {c d : Prop} [Decidable c] [Decidable d] {a b : α} (h : c = d) : (if c then a else b) = (if d then a else b) := by
  subst h; congr
theorem loop_congr1 {R : Type} {B : (List PV → PHeap → Option R) → List PV → PHeap → Option R} {n : Nat} {v w : List PV} {h k : PHeap} (e1 : v = w) (e2 : h = k) : loopP B n v h = loopP B n w k := by rw [e1, e2]
attribute [local congr] bind_congr1 ifP_congr1 scP_congr1 ite_congr1 loop_congr1
end Go.Vm.X


set_option linter.unusedSimpArgs false
set_option linter.unusedVariables false
namespace Go.Vm.X
open Go.Am Go.Vm
theorem x30 (a b c : PV) : extractP (.tuple [a, b, c]) 0 = some a := rfl
theorem x31 (a b c : PV) : extractP (.tuple [a, b, c]) 1 = some b := rfl
theorem x32 (a b c : PV) : extractP (.tuple [a, b, c]) 2 = some c := rfl
theorem x20 (a b : PV) : extractP (.tuple [a, b]) 0 = some a := rfl
theorem x21 (a b : PV) : extractP (.tuple [a, b]) 1 = some b := rfl
end Go.Vm.X


set_option linter.unusedSimpArgs false
set_option linter.unusedVariables false
namespace Go.Vm.X
open Go.Am Go.Vm
attribute [local congr] bind_congr1 ifP_congr1 scP_congr1 ite_congr1 loop_congr1
theorem wf_u8 {a : Int} (h : (Lit.int .u8 a).wf = true) : 0 ≤ a ∧ a < 256 := by
  have h' : (decide (IntKind.u8.min ≤ a) && decide (a ≤ IntKind.u8.max)) = true := h
  simp only [Bool.and_eq_true, decide_eq_true_eq] at h'
  have e1 : IntKind.u8.min = 0 := by decide
  have e2 : IntKind.u8.max = 255 := by decide
  omega
theorem u8s_of {l : List Int} (h : ∀ a ∈ l, (Lit.int .u8 a).wf = true) : (.frz 1 (l.map (kV .u8)) : PV) = u8s (l.map Int.toNat) ∧ ∀ x ∈ l.map Int.toNat, x < 256 := by
  refine ⟨?_, fun x hx => ?_⟩
  · unfold u8s
    rw [List.map_map]
    congr 1
    refine List.map_congr_left fun a ha => ?_
    have := wf_u8 (h a ha)
    show [PV.int .u8 a] = [PV.int .u8 ((a.toNat : Nat) : Int)]
    rw [Int.toNat_of_nonneg this.1]
  · obtain ⟨a, ha, rfl⟩ := List.mem_map.1 hx
    have := wf_u8 (h a ha)
    omega
end Go.Vm.X


set_option linter.unusedSimpArgs false
set_option linter.unusedVariables false
namespace Go.Vm.X
open Go.Am Go.Vm
end Go.Vm.X


set_option linter.unusedSimpArgs false
set_option linter.unusedVariables false
namespace Go.Vm.X
open Go.Am Go.Vm
end Go.Vm.X


set_option linter.unusedSimpArgs false
set_option linter.unusedVariables false
namespace Go.Vm.X
open Go.Am Go.Vm
attribute [local congr] bind_congr1 ifP_congr1 scP_congr1 ite_congr1 loop_congr1
theorem min_nat (k n : Nat) : min (k : Int) (n : Int) = ((min k n : Nat) : Int) := by omega
theorem bS {α β : Type} (a : α) (f : α → Option β) : (some a).bind f = f a := Eq.trans (Option.bind_some a f) (Eq.refl _)
theorem KLn {R : Type} (k : List PV → PHeap → Option R) (b : (List PV → PHeap → Option R) → Option R) : KL k b = b k := Eq.trans (KL_def k b) (Eq.refl _)
theorem K1n {R : Type} (k : PV → PHeap → Option R) (b : (PV → PHeap → Option R) → Option R) : K1 k b = b k := Eq.trans (K1_def k b) (Eq.refl _)
theorem y20 (a b : PV) : extractP (.tuple [a, b]) 0 = some a := Eq.trans (x20 a b) (Eq.refl _)
theorem y21 (a b : PV) : extractP (.tuple [a, b]) 1 = some b := Eq.trans (x21 a b) (Eq.refl _)
theorem y30 (a b c : PV) : extractP (.tuple [a, b, c]) 0 = some a := Eq.trans (x30 a b c) (Eq.refl _)
theorem y31 (a b c : PV) : extractP (.tuple [a, b, c]) 1 = some b := Eq.trans (x31 a b c) (Eq.refl _)
theorem y32 (a b c : PV) : extractP (.tuple [a, b, c]) 2 = some c := Eq.trans (x32 a b c) (Eq.refl _)
end Go.Vm.X


set_option linter.unusedSimpArgs false
set_option linter.unusedVariables false
namespace Go.Vm.X
open Go.Am Go.Vm
attribute [local congr] bind_congr1 ifP_congr1 scP_congr1 ite_congr1 loop_congr1
def badB (x : Int) : Bool := decide (x < -128) || decide (x > 127)
theorem c36 (x : Int) (h : PHeap) : Γ0 36 [.int .i64 x] h = some (.bool (badB x), h) := by
  refine gbody (F := A36) (by kernel_rfl) 1 ?_
  rw [s36_eq]
  unfold s36 badB
  simp only [bin_lss, bin_gtr, bS, ↓K1n, sc_or]
  by_cases h1 : x < -128
  · simp only [h1, decide_true, Bool.true_eq_false, if_false, fin_bool0, Bool.true_or]
  · simp only [h1, decide_false, if_true, bS, fin_bool0, Bool.false_or]
theorem c59 (x : Int) (h : PHeap) : Γ0 59 [.int .i64 x] h = some (.bool (badB x), h) := by
  refine gbody (F := A59) (by kernel_rfl) 1 ?_
  rw [s59_eq]
  unfold s59 badB
  simp only [bin_lss, bin_gtr, bS, ↓K1n, sc_or]
  by_cases h1 : x < -128
  · simp only [h1, decide_true, Bool.true_eq_false, if_false, fin_bool0, Bool.true_or]
  · simp only [h1, decide_false, if_true, bS, fin_bool0, Bool.false_or]
def isTab (t : List Int) : Bool := decide (t.length = 16) && !t.any badB
theorem c37 {t : List Int} (hm : t.length < 9223372036854775808) (h : PHeap) : Γ0 37 [ints t] h = some (.bool (isTab t), h) := by
  refine gbody (F := A37) (by kernel_rfl) 1 ?_
  rw [s37_eq]
  unfold s37 isTab
  have k35 := c35 (f := .func 59 [] []) (p := badB) (h := h) hm fun x => by rw [callV_func Γ0 59]; exact c59 x h
  simp only [len_ints, bin_eql, bS, ↓K1n, sc_and]
  by_cases h1 : t.length = 16
  · have e : ((t.length : Int) == 16) = true := by rw [beq_iff_eq]; omega
    have hd : decide (t.length = 16) = true := decide_eq_true h1
    simp only [e, if_true, k35, bS, un_not, fin_bool0, hd, Bool.true_and]
  · have e : ((t.length : Int) == 16) = false := by rw [beq_eq_false_iff_ne]; omega
    have hd : decide (t.length = 16) = false := decide_eq_false h1
    simp only [e, Bool.false_eq_true, if_false, fin_bool0, hd, Bool.false_and]
theorem isTab_get {t : List Int} (h : isTab t = true) : t.length = 16 ∧ ∀ x ∈ t, -128 ≤ x ∧ x ≤ 127 := by
  unfold isTab at h
  rw [Bool.and_eq_true, decide_eq_true_eq] at h
  refine ⟨h.1, fun x hx => ?_⟩
  have h2 : t.any badB = false := by have := h.2; revert this; cases t.any badB <;> simp
  have := List.any_eq_false.1 h2 x hx
  unfold badB at this
  simp only [Bool.or_eq_true, decide_eq_true_eq] at this
  omega
def far (p x d : Int) : Int := max (wrapB 8 (p + d) - x) (0 - (wrapB 8 (p + d) - x))
def bestN (p x : Int) (t : List Int) : Nat → Nat × Int
  | 0 => (0, 1073741824)
  | k + 1 => if far p x (t.getD k 0) < (bestN p x t k).2 then (k, far p x (t.getD k 0)) else bestN p x t k
theorem bestN_lt (p x : Int) (t : List Int) : ∀ k, (bestN p x t k).1 ≤ k - 1
  | 0 => Nat.le_refl _
  | k + 1 => by
    have := bestN_lt p x t k
    unfold bestN
    split
    · exact Nat.le_refl _
    · omega
def pos (t l : List Int) : Nat → Int
  | 0 => 0
  | i + 1 => wrapB 8 (pos t l i + t.getD (bestN (pos t l i) (l.getD i 0) t 16).1 0)
def nib (t l : List Int) (i : Nat) : Nat := (bestN (pos t l i) (l.getD i 0) t 16).1
theorem nib_lt (t l : List Int) (i : Nat) : nib t l i < 16 := by
  have := bestN_lt (pos t l i) (l.getD i 0) t 16
  unfold nib; omega
theorem in8 {x : Int} (h : inR 8 x = true) : -128 ≤ x ∧ x < 128 := by
  have e : half 8 = 128 := rfl
  unfold inR at h
  rw [e] at h
  simp only [Bool.and_eq_true, decide_eq_true_eq] at h
  exact h
theorem pos_in (t l : List Int) (i : Nat) : -128 ≤ pos t l i ∧ pos t l i < 128 := by
  cases i with
  | zero => show -128 ≤ (0 : Int) ∧ (0 : Int) < 128; omega
  | succ i => exact in8 (wrapB_range _ _)
theorem nibL0 {t l : List Int} (ht : t.length = 16) (htr : ∀ x ∈ t, -128 ≤ x ∧ x ≤ 127) {p x : Int} (hp : -128 ≤ p ∧ p < 128) (hx : -128 ≤ x ∧ x ≤ 127) (w : PV) (H : PHeap) (j : List PV → PHeap → Pt) (n fuel : Nat) (hf : 16 < fuel) :
    loopP (s13_L0 Γ0 n (ints t) [.int .i64 p, w] H (.int .i64 x) (.int .i64 (t.length : Int)) j) fuel [.int .i64 0, .int .i64 1073741824, .int .i64 0] H = j [.int .i64 ((bestN p x t 16).1 : Int)] H := by
  refine loop_pure (fun k => [.int .i64 ((bestN p x t k).1 : Int), .int .i64 (bestN p x t k).2, .int .i64 (k : Int)]) 16 hf rfl (fun k hk K => ?_) fun K => ?_
  · obtain ⟨d, hd⟩ := lt_len (show k < t.length by omega)
    have hdr := htr d (List.mem_of_getElem? hd)
    have hw := in8 (wrapB_range 8 (p + d))
    have e1 : IntKind.i64.wrap (p + d) = p + d := wrap64 (by unfold isI64; omega)
    have e2 : IntKind.i64.wrap (wrapB 8 (p + d) - x) = wrapB 8 (p + d) - x := wrap64 (by unfold isI64; omega)
    have e3 : IntKind.i64.wrap (0 - (wrapB 8 (p + d) - x)) = 0 - (wrapB 8 (p + d) - x) := wrap64 (by unfold isI64; omega)
    have hb : bestN p x t (k + 1) = if far p x d < (bestN p x t k).2 then (k, far p x d) else bestN p x t k := by
      show (if far p x (t.getD k 0) < (bestN p x t k).2 then (k, far p x (t.getD k 0)) else bestN p x t k) = _
      rw [getD_of hd]
    have hlt : ((k : Int) < (t.length : Int)) = True := eq_true (by omega)
    have hfar : max (wrapB 8 (p + d) - x) (0 - (wrapB 8 (p + d) - x)) = far p x d := rfl
    have h8 : ((8 : Nat) : Int) = 8 := rfl
    have k38 := c38 (b := 8) (by decide) (by decide) (p + d) H
    rw [h8] at k38
    unfold s13_L0
    simp only [nth_zero, nth_one, nth_two, bin_lss, hlt, decide_true, bS, ↓KLn, ↓K1n, if_bool, if_true, idx_ints _ hd, load_iV, bin_add, e1, k38, bin_sub, e2, un_neg, e3, fold1_two, max2_i, hfar, hb, decide_eq_true_eq, trim_self, succ64 (show k < 4294967297 by omega)]
    by_cases hc : far p x d < (bestN p x t k).2
    · simp only [hc, if_true, nth_zero, nth_one]
    · simp only [hc, if_false, nth_zero, nth_one]
  · have hlt : (((16 : Nat) : Int) < (t.length : Int)) = False := eq_false (by omega)
    unfold s13_L0
    simp only [nth_zero, nth_one, nth_two, bin_lss, hlt, decide_false, bS, ↓KLn, ↓K1n, if_bool, Bool.false_eq_true, if_false]
def nibB (nb : Nat → Nat) (i j : Nat) : Nat := (if 2 * j < i then nb (2 * j) else 0) + 16 * (if 2 * j + 1 < i then nb (2 * j + 1) else 0)
def nibs (nb : Nat → Nat) (n i : Nat) : List Nat := (List.range n).map (nibB nb i)
theorem nibs_len (nb : Nat → Nat) (n i : Nat) : (nibs nb n i).length = n := by simp [nibs]
theorem nibs_get {nb : Nat → Nat} {n i j : Nat} (h : j < n) : (nibs nb n i)[j]? = some (nibB nb i j) := by simp [nibs, h]
theorem nibB_lt {nb : Nat → Nat} (h : ∀ i, nb i < 16) (i j : Nat) : nibB nb i j < 256 := by
  have := h (2 * j); have := h (2 * j + 1)
  unfold nibB; split <;> split <;> omega
theorem nib_or {nb : Nat → Nat} (h : ∀ i, nb i < 16) (i : Nat) : nibB nb i (i / 2) ||| (nb i * 2 ^ (4 * (i % 2))) = nibB nb (i + 1) (i / 2) := by
  have h1 := h i
  rcases Nat.mod_two_eq_zero_or_one i with e | e
  · have e2 : 2 * (i / 2) = i := by omega
    unfold nibB
    rw [e2, e, if_neg (by omega), if_neg (by omega), if_pos (by omega), if_neg (by omega)]
    simp
  · have e2 : 2 * (i / 2) + 1 = i := by omega
    have e3 : 2 * (i / 2) = i - 1 := by omega
    have h2 := h (i - 1)
    unfold nibB
    rw [e2, e3, e, if_pos (by omega), if_neg (by omega), if_pos (by omega), if_pos (by omega)]
    rw [show 16 * 0 = 0 from rfl, Nat.add_zero, Nat.mul_one, or_add (n := 4) (by omega)]
theorem nibs_set {nb : Nat → Nat} {n i : Nat} (h : i / 2 < n) : (nibs nb n i).set (i / 2) (nibB nb (i + 1) (i / 2)) = nibs nb n (i + 1) := by
  refine List.ext_getElem? fun j => ?_
  by_cases hj : j = i / 2
  · subst hj
    rw [List.getElem?_set_self (by rw [nibs_len]; exact h), nibs_get h]
  · rw [List.getElem?_set_ne (by omega)]
    by_cases hn : j < n
    · rw [nibs_get hn, nibs_get hn]
      unfold nibB
      have q1 : (2 * j < i + 1) ↔ (2 * j < i) := by omega
      have q2 : (2 * j + 1 < i + 1) ↔ (2 * j + 1 < i) := by omega
      simp only [q1, q2]
    · rw [List.getElem?_eq_none (by rw [nibs_len]; omega), List.getElem?_eq_none (by rw [nibs_len]; omega)]
theorem mk_u8 (t : TypeId) (n : Nat) (hm : n < 4294967296) (h : PHeap) : mkSliceP t [.int .u8 0] (.int .i64 n) (.int .i64 n) h = some (.ref h.length 0 n n 1, h ++ [.log (List.replicate n (u8V 0)) 1 t .rw]) := by
  simp only [mkSliceP]
  rw [if_pos ⟨by omega, by omega, by unfold mostLen; omega⟩]
  simp [u8V]
def nibE (l t : List Int) : Int := if l.any badB || !isTab t then 1 else chk l 8
def nibO (l t : List Int) : List Nat := if nibE l t = 0 then nibs (nib t l) ((l.length + 1) / 2) l.length else []
theorem any_bad {l : List Int} (h : l.any badB = false) : ∀ x ∈ l, -128 ≤ x ∧ x ≤ 127 := fun x hx => by
  have := List.any_eq_false.1 h x hx
  unfold badB at this
  simp only [Bool.or_eq_true, decide_eq_true_eq] at this
  omega
theorem c13 {l t : List Int} (hm : l.length < 9223372036854775808) (htm : t.length < 9223372036854775808) (h : PHeap) : Γ0 13 [ints l, ints t] h = some (.tuple [u8s (nibO l t), .int .i64 (nibE l t)], h) := by
  obtain ⟨N, hN⟩ : ∃ N : Nat, 5000 ≤ N := ⟨5000, Nat.le_refl _⟩
  refine gbody (F := A13) (by kernel_rfl) N ?_
  rw [s13_eq]
  unfold s13 nibO nibE
  have k35 := c35 (f := .func 36 [] []) (p := badB) (h := h) hm fun x => by rw [callV_func Γ0 36]; exact c36 x h
  simp only [k35, bS, ↓KLn, ↓K1n, sc_or]
  cases hb : l.any badB with
  | true =>
    simp only [Bool.true_eq_false, if_false, if_bool, if_true, Bool.true_or, fin_err, show ((1 : Int) = 0) = False from eq_false (by decide)]
  | false =>
    simp only [if_true, c37 htm, bS, un_not, Bool.false_or]
    cases hT : isTab t with
    | false =>
      simp only [Bool.not_false, if_bool, if_true, fin_err, show ((1 : Int) = 0) = False from eq_false (by decide), if_false]
    | true =>
      have k24 := c24 (l := l) 8 hm h
      simp only [Bool.not_true, Bool.false_eq_true, if_bool, if_false, k24, bS, bin_neq, ne0, ↓KLn]
      by_cases h0 : chk l 8 = 0
      · obtain ⟨_, _, _, _, h4⟩ := chk_zero h0
        obtain ⟨ht, htr⟩ := isTab_get hT
        have hlr := any_bad hb
        have hq : binP .quo (.int .i64 ((l.length + 1 : Nat) : Int)) (.int .i64 2) = some (.int .i64 (((l.length + 1) / 2 : Nat) : Int)) := quo_nat _ 2 (by decide) (by omega)
        have hrep : List.replicate ((l.length + 1) / 2) (u8V 0) = (nibs (nib t l) ((l.length + 1) / 2) 0).map u8V := by
          refine List.ext_getElem? fun j => ?_
          rw [List.getElem?_map]
          by_cases hj : j < (l.length + 1) / 2
          · rw [nibs_get hj, List.getElem?_replicate, if_pos hj]; rfl
          · rw [List.getElem?_eq_none (by simp; omega), List.getElem?_eq_none (by rw [nibs_len]; omega)]; rfl
        rw [if_neg (fun q => q h0), if_pos h0, h0]
        simp only [len_ints, bS, bin_add, succ64 (show l.length < 4294967297 by omega), hq, mk_u8 5 ((l.length + 1) / 2) (by omega), ↓KLn]
        rw [hrep]
        generalize hL : (l.length + 1) / 2 = L
        refine loop_run (fun i => [.int .i64 (pos t l i), .int .i64 (i : Int)]) (fun i => h ++ [.log ((nibs (nib t l) L i).map u8V) 1 5 .rw]) l.length (by omega) rfl rfl (fun i hi K => ?_) fun K => ?_
        · obtain ⟨a, ha⟩ := lt_len hi
          have hnb := nib_lt t l
          have hn : (bestN (pos t l i) a t 16).1 = nib t l i := by unfold nib; rw [getD_of ha]
          obtain ⟨d, hd⟩ := lt_len (show nib t l i < t.length by have := hnb i; omega)
          have hdr := htr d (List.mem_of_getElem? hd)
          have hpi := pos_in t l i
          have hps : wrapB 8 (pos t l i + d) = pos t l (i + 1) := by
            show _ = wrapB 8 (pos t l i + t.getD (nib t l i) 0)
            rw [getD_of hd]
          have e1 : IntKind.i64.wrap (pos t l i + d) = pos t l i + d := wrap64 (by unfold isI64; omega)
          have k38 := fun H => c38 (b := 8) (by decide) (by decide) (pos t l i + d) H
          have h8 : ((8 : Nat) : Int) = 8 := rfl
          simp only [h8, hps] at k38
          have q2 : binP .quo (.int .i64 (i : Int)) (.int .i64 2) = some (.int .i64 ((i / 2 : Nat) : Int)) := quo_nat i 2 (by decide) (by omega)
          have r2 : binP .rem (.int .i64 (i : Int)) (.int .i64 2) = some (.int .i64 ((i % 2 : Nat) : Int)) := rem_nat i 2 (by decide)
          have hm4 : IntKind.i64.wrap (4 * ((i % 2 : Nat) : Int)) = ((4 * (i % 2) : Nat) : Int) := by rw [wrap64 (by unfold isI64; omega)]; omega
          have hmod := Nat.mod_lt i (show 0 < 2 by decide)
          have hp4 : 2 ^ (4 * (i % 2)) ≤ 16 := by
            rcases Nat.mod_two_eq_zero_or_one i with e | e <;> rw [e] <;> decide
          have hnm : nib t l i * 2 ^ (4 * (i % 2)) < 256 := by
            have := Nat.mul_le_mul (show nib t l i ≤ 15 by have := hnb i; omega) hp4
            omega
          have hsh := shl_pow (nib t l i : Int) (4 * (i % 2)) .i64 (by omega)
          rw [← Int.natCast_mul, wrap64 (by unfold isI64; omega)] at hsh
          have hi2 : i / 2 < L := by omega
          have hrow : ((nibs (nib t l) L i).map u8V)[i / 2]? = some (u8V (nibB (nib t l) i (i / 2))) := by rw [List.getElem?_map, nibs_get hi2]; rfl
          have hget : (h ++ [PBlk.log ((nibs (nib t l) L i).map u8V) 1 5 .rw])[h.length]? = some (.log ((nibs (nib t l) L i).map u8V) 1 5 .rw) := by rw [get_new0]; rfl
          have hlen : L = ((nibs (nib t l) L i).map u8V).length := by rw [List.length_map, nibs_len]
          have hld : loadP false 1 (.lptr h.length (i / 2) 0 L 1) (h ++ [PBlk.log ((nibs (nib t l) L i).map u8V) 1 5 .rw]) = some (.int .u8 (nibB (nib t l) i (i / 2) : Nat)) := by
            rw [load_log hget hlen hrow]; rfl
          have hor := or_byte (nibB (nib t l) i (i / 2)) (nib t l i * 2 ^ (4 * (i % 2))) (nibB_lt hnb _ _) hnm
          rw [nib_or hnb] at hor
          have hst := store_el (v := .int .u8 ((nibB (nib t l) (i + 1) (i / 2) : Nat) : Int)) hget hlen hrow rfl
          have hset : ((nibs (nib t l) L i).map u8V).set (i / 2) [.int .u8 ((nibB (nib t l) (i + 1) (i / 2) : Nat) : Int)] = (nibs (nib t l) L (i + 1)).map u8V := by
            rw [← nibs_set hi2, List.map_set]; rfl
          rw [hset, set_new0, List.set_cons_zero] at hst
          have hL0 := nibL0 (l := l) ht htr hpi (hlr a (List.mem_of_getElem? ha))
          unfold s13_L1
          simp only [nth_zero, nth_one, bin_lss, ltT hi, decide_true, bS, ↓KLn, ↓K1n, if_bool, if_true, idx_ints _ ha, load_iV, len_ints]
          rw [hL0 _ _ _ _ _ (by omega), hn]
          simp only [nth_zero, nth_one, idx_ints _ hd, load_iV, bS, bin_add, e1, k38, q2, idx_ref _ hi2, Nat.zero_add, hld, r2, bin_mul, hm4, hsh, conv_int, wrapu8 _ hnm, hor, hst, succ64 (show i < 4294967297 by omega)]
          rw [trim_len _ (by simp)]
        · unfold s13_L1
          simp only [nth_zero, nth_one, bin_lss, ltF, decide_false, bS, ↓KLn, ↓K1n, if_bool, Bool.false_eq_true, if_false]
          have := fin_bytes (h := h) (s := 1) (t := 5) (xs := nibs (nib t l) L l.length) 0
          rw [nibs_len] at this
          exact this
      · rw [if_pos h0, if_neg h0, fin_err]
end Go.Vm.X


set_option linter.unusedSimpArgs false
set_option linter.unusedVariables false
namespace Go.Vm.X
open Go.Am Go.Vm
attribute [local congr] bind_congr1 ifP_congr1 scP_congr1 ite_congr1 loop_congr1
theorem and15_u8 (a : Nat) (ha : a < 256) : binP .and (.int .u8 (a : Int)) (.int .u8 15) = some (.int .u8 ((a % 16 : Nat) : Int)) := by
  have e1 : (BitVec.ofInt 8 (a : Int)).toNat = a := by rw [BitVec.toNat_ofInt, Int.emod_eq_of_lt (by omega) (by omega)]; omega
  rw [bin_and, BitVec.toNat_and]
  have e2 : (BitVec.ofInt IntKind.u8.bits 15).toNat = 2 ^ 4 - 1 := rfl
  rw [e2, show (BitVec.ofInt IntKind.u8.bits (a : Int)).toNat = a from e1, Nat.and_two_pow_sub_one_eq_mod, wrap8]
  congr 2
  omega
def unN (b : List Nat) (i : Nat) : Nat := b.getD (i / 2) 0 / 2 ^ (4 * (i % 2)) % 16
def unT (b : List Nat) (t : List Int) (k : Nat) : List Int := (List.range k).map fun i => t.getD (unN b i) 0
theorem unT_succ (b : List Nat) (t : List Int) (k : Nat) : unT b t (k + 1) = unT b t k ++ [t.getD (unN b k) 0] := by unfold unT; rw [List.range_succ, List.map_append]; rfl
theorem unT_len (b : List Nat) (t : List Int) (k : Nat) : (unT b t k).length = k := by simp [unT]
def unnE (b : List Nat) (t : List Int) (n : Int) : Int := if isTab t then askd b n else 1
def unnM (b : List Nat) (n : Int) : Nat := min n.toNat (2 * b.length)
def unnR (b : List Nat) (t : List Int) (n : Int) : PV :=
  if unnE b t n = 0 then .tuple [ints (padL (sums 8 (unT b t (unnM b n))) n.toNat), .int .i64 ((n.toNat - unnM b n : Nat) : Int), .int .i64 0]
  else .tuple [ints [], .int .i64 0, .int .i64 (unnE b t n)]
theorem unT_small {b : List Nat} {t : List Int} (ht : t.length = 16) (htr : ∀ x ∈ t, -128 ≤ x ∧ x ≤ 127) (k : Nat) : Small (unT b t k) := fun x hx => by
  unfold unT at hx
  obtain ⟨i, _, rfl⟩ := List.mem_map.1 hx
  obtain ⟨d, hd⟩ := lt_len (show unN b i < t.length by unfold unN; omega)
  rw [getD_of hd]
  have := htr d (List.mem_of_getElem? hd)
  omega
theorem c14 {b : List Nat} (hb : ∀ x ∈ b, x < 256) {t : List Int} (htm : t.length < 9223372036854775808) (n : Int) (h : PHeap) : Γ0 14 [u8s b, ints t, .int .i64 n] h = some (unnR b t n, h) := by
  obtain ⟨N, hN⟩ : ∃ N : Nat, 5000 ≤ N := ⟨5000, Nat.le_refl _⟩
  refine gbody (F := A14) (by kernel_rfl) N ?_
  rw [s14_eq]
  unfold s14 unnR unnE
  simp only [c37 htm, bS, un_not, ↓KLn, ↓K1n, if_bool]
  cases hT : isTab t with
  | false =>
    simp only [Bool.not_false, if_true, Bool.false_eq_true, if_false, show ((1 : Int) = 0) = False from eq_false (by decide), fin_3e]
  | true =>
    obtain ⟨ht, htr⟩ := isTab_get hT
    have h8r : right 8 = true := rfl
    simp only [Bool.not_true, Bool.false_eq_true, if_false, if_true, c39, h8r, bS, bin_neq, ne0, ↓KLn, if_bool]
    by_cases ha : askd b n = 0
    · obtain ⟨hlen, m, rfl, hm⟩ := askd_zero ha
      rw [if_neg (fun q => q ha), if_pos ha]
      have hmul : IntKind.i64.wrap (2 * (b.length : Int)) = ((2 * b.length : Nat) : Int) := by rw [wrap64 (by unfold isI64; omega)]; omega
      have hMd : unnM b (m : Int) = min m (2 * b.length) := by unfold unnM; rw [Int.toNat_natCast]
      simp only [fork_def, len_u8s, bS, bin_mul, hmul, fold1_two, min2_i, min_nat, ↓KLn, hMd, Int.toNat_natCast]
      generalize hM : min m (2 * b.length) = M
      have hMm : M ≤ m := by omega
      refine loop_run (fun i => [.ref h.length 0 (unT b t i).length (unT b t i).length 1, .int .i64 (i : Int)]) (fun i => h ++ [.log ((unT b t i).map iV) 1 3 .rw]) M (by omega) rfl rfl (fun i hi K => ?_) fun K => ?_
      · obtain ⟨a, ha2⟩ := lt_len (show i / 2 < b.length by omega)
        have ha256 := hb a (List.mem_of_getElem? ha2)
        have hun : unN b i = a / 2 ^ (4 * (i % 2)) % 16 := by unfold unN; rw [getD_nat ha2]
        obtain ⟨d, hd⟩ := lt_len (show a / 2 ^ (4 * (i % 2)) % 16 < t.length by omega)
        have hmod := Nat.mod_lt i (show 0 < 2 by decide)
        have q2 : binP .quo (.int .i64 (i : Int)) (.int .i64 2) = some (.int .i64 ((i / 2 : Nat) : Int)) := quo_nat i 2 (by decide) (by omega)
        have r2 : binP .rem (.int .i64 (i : Int)) (.int .i64 2) = some (.int .i64 ((i % 2 : Nat) : Int)) := rem_nat i 2 (by decide)
        have hm4 : IntKind.i64.wrap (4 * ((i % 2 : Nat) : Int)) = ((4 * (i % 2) : Nat) : Int) := by rw [wrap64 (by unfold isI64; omega)]; omega
        have hsh := shr_u8 a (4 * (i % 2)) (by omega) ha256
        have han := and15_u8 (a / 2 ^ (4 * (i % 2))) (Nat.lt_of_le_of_lt (Nat.div_le_self _ _) ha256)
        have ap := append_i64 (h := h) (l := [.log ((unT b t i).map iV) 1 3 .rw]) (k := 0) (t := 3) d rfl (by rw [unT_len]; unfold mostLen; omega)
        have hds : unT b t i ++ [d] = unT b t (i + 1) := by rw [unT_succ, hun, getD_of hd]
        simp only [Nat.add_zero, List.set_cons_zero, hds] at ap
        unfold s14_L0
        simp only [nth_zero, nth_one, bin_lss, ltT hi, decide_true, bS, ↓KLn, ↓K1n, if_bool, if_true, q2, idx_u8s _ ha2, load_u8V, r2, bin_mul, hm4, hsh, han, idx_ints _ hd, load_iV, fill_int, all_one, pure1, guard_true, chunk_one, fork_def, ap, bin_add, succ64 (show i < 4294967297 by omega)]
        rw [trim_len _ (by simp)]
      · unfold s14_L0
        have e := fz_logI (h := h) (l := [.log ((unT b t M).map iV) 1 3 .rw]) (k := 0) (s := 1) (unT b t M).length rfl rfl
        simp only [Nat.add_zero] at e
        have k41 := fun H => c41 (b := 8) (by decide) (by decide) (unT_small (b := b) ht htr M) (show (unT b t M).length < 4294967296 by rw [unT_len]; omega) H
        have h8 : ((8 : Nat) : Int) = 8 := rfl
        simp only [h8] at k41
        have k40 := fun H => c40 (l := sums 8 (unT b t M)) (show (sums 8 (unT b t M)).length < 4294967296 by rw [sums_len, unT_len]; omega) hm H
        simp only [sums_len, unT_len] at k40
        simp only [nth_zero, nth_one, bin_lss, ltF, decide_false, bS, ↓KLn, ↓K1n, if_bool, Bool.false_eq_true, if_false]
        rw [e]
        simp only [bS, k41, k40, y20, y21, fin_3]
    · rw [if_pos ha, if_neg ha, fin_3e]
end Go.Vm.X


set_option linter.unusedSimpArgs false
set_option linter.unusedVariables false
namespace Go.Vm.X
open Go.Am Go.Vm
def Rk (c k : Int → Int) (x y : Int) : Prop := c y < c x ∨ (c x = c y ∧ k x < k y)
section
variable {c k : Int → Int}
theorem Rk.trans {x y z : Int} (h1 : Rk c k x y) (h2 : Rk c k y z) : Rk c k x z := by
  unfold Rk at *; omega
theorem Rk.asymm {x y : Int} (h1 : Rk c k x y) (h2 : Rk c k y x) : False := by
  unfold Rk at *; omega
theorem rk_lt {x y : Int} (h : k x < k y) : Rk c k y x ↔ c x < c y := by
  unfold Rk; omega
theorem rk_ge {x y : Int} (h : k x < k y) (hn : ¬ c x < c y) : Rk c k x y := by
  unfold Rk; omega
def Srt (c k : Int → Int) (l : List Int) : Prop := l.Pairwise (Rk c k)
theorem srt_blocks {A B : List Int} {x y : Int} (hA : Srt c k (A ++ [x])) (hB : Srt c k (y :: B)) (h : Rk c k x y) : ∀ u ∈ A ++ [x], ∀ v ∈ y :: B, Rk c k u v := by
  intro u hu v hv
  have h1 : u = x ∨ Rk c k u x := by
    rw [List.mem_append, List.mem_singleton] at hu
    rcases hu with hu | rfl
    · exact .inr ((List.pairwise_append.1 hA).2.2 u hu x (by simp))
    · exact .inl rfl
  have h2 : v = y ∨ Rk c k y v := by
    rw [List.mem_cons] at hv
    rcases hv with rfl | hv
    · exact .inl rfl
    · exact .inr ((List.pairwise_cons.1 hB).1 v hv)
  rcases h1 with rfl | h1 <;> rcases h2 with rfl | h2
  · exact h
  · exact h.trans h2
  · exact h1.trans h
  · exact (h1.trans h).trans h2
theorem srt_join {A1 A2 B1 B2 M1 M2 : List Int} (hA : Srt c k (A1 ++ A2)) (hB : Srt c k (B1 ++ B2)) (h1 : ∀ x ∈ A1, ∀ y ∈ B2, Rk c k x y) (h2 : ∀ x ∈ B1, ∀ y ∈ A2, Rk c k x y)
    (p1 : M1.Perm (A1 ++ B1)) (s1 : Srt c k M1) (p2 : M2.Perm (A2 ++ B2)) (s2 : Srt c k M2) : Srt c k (M1 ++ M2) ∧ (M1 ++ M2).Perm ((A1 ++ A2) ++ (B1 ++ B2)) := by
  refine ⟨List.pairwise_append.2 ⟨s1, s2, fun x hx y hy => ?_⟩, ?_⟩
  · rw [p1.mem_iff, List.mem_append] at hx
    rw [p2.mem_iff, List.mem_append] at hy
    have hA3 := (List.pairwise_append.1 hA).2.2
    have hB3 := (List.pairwise_append.1 hB).2.2
    rcases hx with hx | hx <;> rcases hy with hy | hy
    · exact hA3 x hx y hy
    · exact h1 x hx y hy
    · exact h2 x hx y hy
    · exact hB3 x hx y hy
  · refine (p1.append p2).trans ?_
    rw [List.append_assoc, List.append_assoc]
    refine List.Perm.append_left A1 ?_
    rw [← List.append_assoc, ← List.append_assoc]
    exact List.Perm.append_right B2 List.perm_append_comm
theorem srt_insert {A B : List Int} {y : Int} (h : Srt c k (A ++ B)) (h1 : ∀ x ∈ A, Rk c k x y) (h2 : ∀ x ∈ B, Rk c k y x) : Srt c k (A ++ y :: B) := by
  have h3 := List.pairwise_append.1 h
  refine List.pairwise_append.2 ⟨h3.1, List.pairwise_cons.2 ⟨h2, h3.2.1⟩, fun a ha b hb => ?_⟩
  rw [List.mem_cons] at hb
  rcases hb with rfl | hb
  · exact h1 a ha
  · exact h3.2.2 a ha b hb
theorem srt_unique : ∀ {l l' : List Int}, Srt c k l → Srt c k l' → (∀ x, x ∈ l ↔ x ∈ l') → l = l'
  | [], [], _, _, _ => rfl
  | [], y :: t, _, _, h => by have := (h y).2 (by simp); cases this
  | x :: t, [], _, _, h => by have := (h x).1 (by simp); cases this
  | x :: t, y :: t', h1, h2, h => by
    have g1 := List.pairwise_cons.1 h1
    have g2 := List.pairwise_cons.1 h2
    have e : x = y := by
      have m1 := (h x).1 (by simp)
      have m2 := (h y).2 (by simp)
      rw [List.mem_cons] at m1 m2
      rcases m1 with m1 | m1
      · exact m1
      · rcases m2 with m2 | m2
        · exact m2.symm
        · exact ((g2.1 x m1).asymm (g1.1 y m2)).elim
    subst e
    congr 1
    refine srt_unique g1.2 g2.2 fun z => ?_
    have hz := h z
    rw [List.mem_cons, List.mem_cons] at hz
    constructor
    · intro hm
      rcases hz.1 (.inr hm) with rfl | q
      · exact ((g1.1 z hm).asymm (g1.1 z hm)).elim
      · exact q
    · intro hm
      rcases hz.2 (.inr hm) with rfl | q
      · exact ((g2.1 z hm).asymm (g2.1 z hm)).elim
      · exact q
end
end Go.Vm.X


set_option linter.unusedSimpArgs false
set_option linter.unusedVariables false
namespace Go.Vm.X
open Go.Am Go.Vm
attribute [local congr] bind_c ifP_c loop_c K1_c ite_c fork_c guard_c unl_c
def lg (p r : PHeap) (l : List Int) (md : Md) : PHeap := p ++ .log (l.map iV) 1 3 md :: r
theorem lg_at (p r : PHeap) (l : List Int) (md : Md) : (lg p r l md)[p.length]? = some (.log (l.map iV) 1 3 md) := by unfold lg; simp
theorem lg_set (p r : PHeap) (l l' : List Int) (md md' : Md) : (lg p r l md).set p.length (.log (l'.map iV) 1 3 md') = lg p r l' md' := by unfold lg; simp
theorem lg_len (p r : PHeap) (l : List Int) (md : Md) : (lg p r l md).length = p.length + (r.length + 1) := by unfold lg; simp
theorem lg_load {p r : PHeap} {l : List Int} {i n : Nat} {v : Int} {md : Md} (hn : n = l.length) (hv : l[i]? = some v) : loadP false 1 (.lptr p.length i 0 n 1) (lg p r l md) = some (.int .i64 v) := by
  subst hn
  simp only [loadP, logAt, lg_at, List.length_map, Nat.beq_refl, Bool.and_self, cond_true, Option.bind_some, List.getElem?_map, hv, Option.map_some]
  rfl
theorem lg_store {p r : PHeap} {l : List Int} {i n : Nat} {v : Int} (hn : n = l.length) (hi : i < l.length) : storeP 1 (.lptr p.length i 0 n 1) (.int .i64 v) (lg p r l .rw) = some (lg p r (l.set i v) .rw) := by
  subst hn
  have e : (l.map iV)[i]? = some (iV l[i]) := by rw [List.getElem?_map, List.getElem?_eq_getElem hi]; rfl
  have e2 : (l.map iV).set i (iV v) = (l.set i v).map iV := by rw [List.map_set]
  simp only [storeP, cellsP, List.length_cons, List.length_nil, lg_at, List.length_map, e, Option.bind_some]
  rw [← lg_set p r l (l.set i v) .rw .rw, ← e2]
  rfl
theorem rf_idx {b lo n v i : Nat} (hi : i < n) : indexAddrP 1 (.ref b lo n v 1) (.int .i64 (i : Int)) = some (.lptr b (lo + i) 0 v 1) := by
  simp only [indexAddrP]
  rw [if_pos ⟨by omega, by omega, trivial⟩, Int.toNat_natCast]
theorem rf_len {b lo n v : Nat} : lenP false (.ref b lo n v 1) = some (.int .i64 (n : Int)) := by simp only [lenP]
theorem pure_ints (l : List Int) : ((l.map iV).flatten).all pure1 = true := by
  rw [List.all_eq_true]
  intro x hx
  rw [List.mem_flatten] at hx
  obtain ⟨r, hr, hx⟩ := hx
  rw [List.mem_map] at hr
  obtain ⟨z, _, rfl⟩ := hr
  have : x = .int .i64 z := by simpa [iV] using hx
  subst this
  rfl
theorem fin_unit (h h' : PHeap) : finP [] h h' [] = some (undefP, trim h [] h') := by
  rw [fin_def, fzL_nil, Option.map_some]
  rfl
theorem lt_get {α : Type} {l : List α} {i : Nat} (h : i < l.length) : ∃ a, l[i]? = some a := ⟨_, List.getElem?_eq_getElem h⟩
theorem wadd {a b : Nat} (h : a + b < 9223372036854775808) : IntKind.i64.wrap ((a : Int) + (b : Int)) = ((a + b : Nat) : Int) := by
  rw [wrap64 (by unfold isI64; omega)]; omega
theorem wsub {a b : Nat} (h : b ≤ a) (h2 : a < 9223372036854775808) : IntKind.i64.wrap ((a : Int) - (b : Int)) = ((a - b : Nat) : Int) := by
  rw [wrap64 (by unfold isI64; omega)]; omega
theorem wsub1 {a : Nat} (h : 1 ≤ a) (h2 : a < 9223372036854775808) : IntKind.i64.wrap ((a : Int) - 1) = ((a - 1 : Nat) : Int) := by
  rw [wrap64 (by unfold isI64; omega)]; omega
theorem get_mid {α : Type} {U V : List α} {x : α} {n : Nat} (h : n = U.length) : (U ++ x :: V)[n]? = some x := by subst h; simp
theorem set_mid {α : Type} {U V : List α} {x y : α} {n : Nat} (h : n = U.length) : (U ++ x :: V).set n y = U ++ y :: V := by
  subst h
  rw [List.set_append_right _ _ (Nat.le_refl _), Nat.sub_self]
  rfl
theorem trim_lg {p r : PHeap} {l l' : List Int} {md md' : Md} {v : List PV} : trim (lg p r l md) v (lg p r l' md') = lg p r l' md' := trim_len _ (by rw [lg_len, lg_len])
def rf (p : PHeap) (n : Nat) : PV := .ref p.length 0 n n 1
theorem rf_ix {p : PHeap} {n i : Nat} (hi : i < n) : indexAddrP 1 (rf p n) (.int .i64 (i : Int)) = some (.lptr p.length i 0 n 1) := by
  unfold rf
  rw [rf_idx hi, Nat.zero_add]
theorem c85 {p r : PHeap} {X P Q R Z : List Int} {cmp : PV} {L a b n : Nat} (hR : R.length = n) (hP : P.length = n) (ha : a = X.length) (hb : b = X.length + P.length + Q.length) (hL : L = (X ++ P ++ Q ++ R ++ Z).length) (hm : L < 4294967296) :
    Γ0 85 [rf p L, .int .i64 (a : Int), .int .i64 (b : Int), .int .i64 (n : Int), cmp] (lg p r (X ++ P ++ Q ++ R ++ Z) .rw) = some (undefP, lg p r (X ++ R ++ Q ++ P ++ Z) .rw) := by
  refine gbody (F := A85) (by kernel_rfl) (n + 1) ?_
  rw [s85_eq]; unfold s85
  simp only [↓KLn]
  have hLs : L = X.length + P.length + Q.length + R.length + Z.length := by rw [hL]; simp only [List.length_append]
  refine loop_run (fun i => [.int .i64 (i : Int)]) (fun i => lg p r (X ++ (R.take i ++ P.drop i) ++ Q ++ (P.take i ++ R.drop i) ++ Z) .rw) n (by omega) rfl (by simp) (fun i hi K => ?_) fun K => ?_
  · obtain ⟨x, hx⟩ := lt_get (show i < P.length by omega)
    obtain ⟨y, hy⟩ := lt_get (show i < R.length by omega)
    have dP : P.drop i = x :: P.drop (i + 1) := by rw [List.drop_eq_getElem_cons (by omega)]; congr 1; exact (List.getElem?_eq_some_iff.1 hx).2
    have dR : R.drop i = y :: R.drop (i + 1) := by rw [List.drop_eq_getElem_cons (by omega)]; congr 1; exact (List.getElem?_eq_some_iff.1 hy).2
    have tP : P.take (i + 1) = P.take i ++ [x] := take_succ_get hx
    have tR : R.take (i + 1) = R.take i ++ [y] := take_succ_get hy
    have e0 : X ++ (R.take i ++ P.drop i) ++ Q ++ (P.take i ++ R.drop i) ++ Z = (X ++ R.take i) ++ x :: (P.drop (i + 1) ++ Q ++ P.take i ++ y :: (R.drop (i + 1) ++ Z)) := by rw [dP, dR]; simp
    have e1 : X ++ (R.take i ++ P.drop i) ++ Q ++ (P.take i ++ R.drop i) ++ Z = (X ++ R.take i ++ x :: (P.drop (i + 1) ++ Q ++ P.take i)) ++ y :: (R.drop (i + 1) ++ Z) := by rw [dP, dR]; simp
    have e2 : (X ++ R.take i) ++ y :: (P.drop (i + 1) ++ Q ++ P.take i ++ y :: (R.drop (i + 1) ++ Z)) = (X ++ R.take i ++ y :: (P.drop (i + 1) ++ Q ++ P.take i)) ++ y :: (R.drop (i + 1) ++ Z) := by simp
    have e3 : X ++ (R.take (i + 1) ++ P.drop (i + 1)) ++ Q ++ (P.take (i + 1) ++ R.drop (i + 1)) ++ Z = (X ++ R.take i ++ y :: (P.drop (i + 1) ++ Q ++ P.take i)) ++ x :: (R.drop (i + 1) ++ Z) := by rw [tP, tR]; simp
    have la : a + i = (X ++ R.take i).length := by simp; omega
    have lb : b + i = (X ++ R.take i ++ x :: (P.drop (i + 1) ++ Q ++ P.take i)).length := by simp; omega
    have lb2 : b + i = (X ++ R.take i ++ y :: (P.drop (i + 1) ++ Q ++ P.take i)).length := by simp; omega
    have len0 : L = (X ++ (R.take i ++ P.drop i) ++ Q ++ (P.take i ++ R.drop i) ++ Z).length := by simp; omega
    have g1 : loadP false 1 (.lptr p.length (b + i) 0 L 1) (lg p r (X ++ (R.take i ++ P.drop i) ++ Q ++ (P.take i ++ R.drop i) ++ Z) .rw) = some (.int .i64 y) := lg_load len0 (by rw [e1]; exact get_mid lb)
    have g2 : loadP false 1 (.lptr p.length (a + i) 0 L 1) (lg p r (X ++ (R.take i ++ P.drop i) ++ Q ++ (P.take i ++ R.drop i) ++ Z) .rw) = some (.int .i64 x) := lg_load len0 (by rw [e0]; exact get_mid la)
    have g3 : storeP 1 (.lptr p.length (a + i) 0 L 1) (.int .i64 y) (lg p r (X ++ (R.take i ++ P.drop i) ++ Q ++ (P.take i ++ R.drop i) ++ Z) .rw) = some (lg p r ((X ++ R.take i ++ y :: (P.drop (i + 1) ++ Q ++ P.take i)) ++ y :: (R.drop (i + 1) ++ Z)) .rw) := by
      rw [lg_store len0 (by omega), e0, set_mid la, e2]
    have g4 : storeP 1 (.lptr p.length (b + i) 0 L 1) (.int .i64 x) (lg p r ((X ++ R.take i ++ y :: (P.drop (i + 1) ++ Q ++ P.take i)) ++ y :: (R.drop (i + 1) ++ Z)) .rw) = some (lg p r (X ++ (R.take (i + 1) ++ P.drop (i + 1)) ++ Q ++ (P.take (i + 1) ++ R.drop (i + 1)) ++ Z) .rw) := by
      rw [lg_store (by simp; omega) (by simp; omega), set_mid lb2, e3]
    unfold s85_L0
    simp only [bS, nth_zero, bin_lss, ltT hi, decide_true, ↓KLn, ifW, if_true, bin_add, wadd (show a + i < 9223372036854775808 by omega), wadd (show b + i < 9223372036854775808 by omega), rf_ix (show a + i < L by omega), rf_ix (show b + i < L by omega), g1, g2, g3, g4, succ63 (show i < 9223372036854775807 by omega), trim_lg]
  · unfold s85_L0
    simp only [bS, nth_zero, bin_lss, ltF, decide_false, ↓KLn, ifW, Bool.false_eq_true, if_false, fin_unit, trim_lg]
    rw [show R.take n = R by rw [← hR, List.take_length], show P.take n = P by rw [← hP, List.take_length], show P.drop n = [] by rw [← hP, List.drop_length], show R.drop n = [] by rw [← hR, List.drop_length], List.append_nil, List.append_nil]
end Go.Vm.X


set_option linter.unusedSimpArgs false
set_option linter.unusedVariables false
namespace Go.Vm.X
open Go.Am Go.Vm
attribute [local congr] bind_c ifP_c loop_c K1_c ite_c fork_c guard_c unl_c
theorem loopS {R : Type} (B : (List PV → PHeap → Option R) → List PV → PHeap → Option R) (n : Nat) (v : List PV) (h : PHeap) : loopP B (n + 1) v h = B (loopP B n) v h := rfl
theorem rot_loop {p r : PHeap} {cmp : PV} {L m n : Nat} {T : List Int} {l0 : List Int} {j2 : List PV → PHeap → Pt} {R : Pt} (hm : L < 4294967296)
    (hr : ∀ (i : Nat) (X A B Y : List Int), A.length = i → B.length = i → m = X.length + i → (X ++ A ++ B ++ Y).length = L → X ++ B ++ A ++ Y = T → j2 [.int .i64 (i : Int)] (lg p r (X ++ A ++ B ++ Y) .rw) = R) :
    ∀ (s i j : Nat) (X A B Y : List Int) (f : Nat), i + j ≤ s → A.length = i → B.length = j → 0 < i → 0 < j → m = X.length + i → (X ++ A ++ B ++ Y).length = L → X ++ B ++ A ++ Y = T → s < f →
      loopP (s78_L0 Γ0 n (rf p L) (.int .i64 (m : Int)) cmp (lg p r l0 .rw) j2) f [.int .i64 (i : Int), .int .i64 (j : Int)] (lg p r (X ++ A ++ B ++ Y) .rw) = R
  | 0, i, j, X, A, B, Y, f, hs, _, _, hi, _, _, _, _, _ => by omega
  | s + 1, i, j, X, A, B, Y, f, hs, hA, hB, hi, hj, hX, hL, hT, hf => by
    obtain ⟨f, rfl⟩ : ∃ g, f = g + 1 := ⟨f - 1, by omega⟩
    have hLs : L = X.length + i + j + Y.length := by rw [← hL, ← hA, ← hB]; simp only [List.length_append]
    have ih := rot_loop (n := n) (l0 := l0) (cmp := cmp) hm hr s
    rw [loopS]
    generalize hK : loopP (s78_L0 Γ0 n (rf p L) (.int .i64 (m : Int)) cmp (lg p r l0 .rw) j2) f = K at ih
    have ih' := fun (i j : Nat) (X A B Y : List Int) h1 h2 h3 h4 h5 h6 h7 h8 => by
      have := ih i j X A B Y f h1 h2 h3 h4 h5 h6 h7 h8 (by omega)
      rw [hK] at this
      exact this
    unfold s78_L0
    rcases Nat.lt_trichotomy i j with h | h | h
    · have e1 : ((i : Int) != (j : Int)) = true := by rw [bne_iff_ne]; omega
      have e2 : ¬ ((i : Int) > (j : Int)) := by omega
      have q := c85 (p := p) (r := r) (X := X) (P := A) (Q := B.take (j - i)) (R := B.drop (j - i)) (Z := Y) (cmp := cmp) (L := L) (a := m - i) (b := m + j - i) (n := i) (by rw [List.length_drop]; omega) hA (by omega) (by rw [List.length_take]; omega) (by rw [List.append_assoc _ (B.take _), List.take_append_drop]; exact hL.symm) hm
      have eq1 : X ++ A ++ B.take (j - i) ++ B.drop (j - i) ++ Y = X ++ A ++ B ++ Y := by rw [List.append_assoc _ (B.take _), List.take_append_drop]
      rw [eq1] at q
      simp only [bS, nth_zero, nth_one, bin_neq, e1, ↓KLn, ifW, if_true, bin_gtr, e2, decide_false, Bool.false_eq_true, if_false, bin_sub, bin_add, wsub (show i ≤ m by omega) (show m < 9223372036854775808 by omega), wadd (show m + j < 9223372036854775808 by omega), wsub (show i ≤ m + j by omega) (show m + j < 9223372036854775808 by omega), q, wsub (show i ≤ j by omega) (show j < 9223372036854775808 by omega), trim_lg]
      have := ih' i (j - i) X (B.drop (j - i)) (B.take (j - i)) (A ++ Y) (by omega) (by rw [List.length_drop]; omega) (by rw [List.length_take]; omega) hi (by omega) hX (by simp [hA]; omega) (by rw [← hT]; simp only [List.append_assoc]; rw [← List.append_assoc (B.take _), List.take_append_drop])
      simp only [List.append_assoc] at this ⊢
      exact this
    · subst h
      have e1 : ((i : Int) != (i : Int)) = false := by simp
      simp only [bS, nth_zero, nth_one, bin_neq, e1, ↓KLn, ifW, Bool.false_eq_true, if_false]
      exact hr i X A B Y hA hB hX hL hT
    · have e1 : ((i : Int) != (j : Int)) = true := by rw [bne_iff_ne]; omega
      have e2 : ((i : Int) > (j : Int)) := by omega
      have q := c85 (p := p) (r := r) (X := X) (P := A.take j) (Q := A.drop j) (R := B) (Z := Y) (cmp := cmp) (L := L) (a := m - i) (b := m) (n := j) hB (by rw [List.length_take]; omega) (by omega) (by rw [List.length_take, List.length_drop]; omega) (by rw [List.append_assoc X (A.take _), List.take_append_drop]; exact hL.symm) hm
      have eq1 : X ++ A.take j ++ A.drop j ++ B ++ Y = X ++ A ++ B ++ Y := by rw [List.append_assoc X (A.take _), List.take_append_drop]
      rw [eq1] at q
      simp only [bS, nth_zero, nth_one, bin_neq, e1, ↓KLn, ifW, if_true, bin_gtr, e2, decide_true, bin_sub, wsub (show i ≤ m by omega) (show m < 9223372036854775808 by omega), q, wsub (show j ≤ i by omega) (show i < 9223372036854775808 by omega), trim_lg]
      have := ih' (i - j) j (X ++ B) (A.drop j) (A.take j) Y (by omega) (by rw [List.length_drop, hA]) (by rw [List.length_take]; omega) (by omega) hj (by rw [List.length_append]; omega) (by simp [hB]; omega) (by rw [← hT]; simp only [List.append_assoc]; rw [← List.append_assoc (A.take _), List.take_append_drop])
      exact this
theorem c78 {p r : PHeap} {X A B Y : List Int} {cmp : PV} {L a m b : Nat} (ha : a = X.length) (hmm : m = X.length + A.length) (hb : b = X.length + A.length + B.length) (h1 : 0 < A.length) (h2 : 0 < B.length) (hL : L = (X ++ A ++ B ++ Y).length) (hm : L < 4294967296) :
    Γ0 78 [rf p L, .int .i64 (a : Int), .int .i64 (m : Int), .int .i64 (b : Int), cmp] (lg p r (X ++ A ++ B ++ Y) .rw) = some (undefP, lg p r (X ++ B ++ A ++ Y) .rw) := by
  have hLs : L = X.length + A.length + B.length + Y.length := by rw [hL]; simp only [List.length_append]
  refine gbody (F := A78) (by kernel_rfl) (L + 1) ?_
  rw [s78_eq]; unfold s78
  simp only [bS, bin_sub, wsub (show a ≤ m by omega) (show m < 9223372036854775808 by omega), wsub (show m ≤ b by omega) (show b < 9223372036854775808 by omega), ↓KLn]
  refine rot_loop (T := X ++ B ++ A ++ Y) hm (fun i X' A' B' Y' g1 g2 g3 g4 g5 => ?_) L (m - a) (b - m) X A B Y (L + 1) (by omega) (by omega) (by omega) (by omega) (by omega) (by omega) hL.symm rfl (by omega)
  have q := c85 (p := p) (r := r) (X := X') (P := A') (Q := []) (R := B') (Z := Y') (cmp := cmp) (L := L) (a := m - i) (b := m) (n := i) g2 g1 (by omega) (by simp; omega) (by rw [← g4]; simp) hm
  simp only [List.append_nil] at q
  simp only [bS, nth_zero, bin_sub, wsub (show i ≤ m by omega) (show m < 9223372036854775808 by omega), q, fin_unit, trim_lg, g5]
end Go.Vm.X


set_option linter.unusedSimpArgs false
set_option linter.unusedVariables false
namespace Go.Vm.X
open Go.Am Go.Vm
attribute [local congr] bind_c ifP_c loop_c K1_c ite_c fork_c guard_c unl_c
theorem cv1 {s : Nat} (h : s < 9223372036854775808) : convP .u64 (.int .i64 (s : Int)) = some (.int .u64 (s : Int)) := by
  show some (PV.int IntKind.u64 (IntKind.u64.wrap (s : Int))) = _
  have e : IntKind.u64.wrap (s : Int) = s := by
    show ((s : Int) % 18446744073709551616) = s
    omega
  rw [e]
theorem cv2 (s : Nat) : binP .shr (.int .u64 (s : Int)) (.int .u64 1) = some (.int .u64 ((s / 2 : Nat) : Int)) := by
  unfold binP
  simp only
  rw [if_neg (by decide)]
  congr 2
  show (s : Int).fdiv 2 = _
  rw [Int.fdiv_eq_ediv_of_nonneg _ (by decide)]
  omega
theorem cv3 {s : Nat} (h : s < 9223372036854775808) : convP .i64 (.int .u64 (s : Int)) = some (.int .i64 (s : Int)) := by
  show some (PV.int IntKind.i64 (IntKind.i64.wrap (s : Int))) = _
  rw [wrap64 (by unfold isI64; omega)]
theorem bin_loop {B : (List PV → PHeap → Pt) → List PV → PHeap → Pt} {g : PHeap} {q : Nat → Bool} {lo hi : Nat}
    (hstep : ∀ (i j : Nat) (K : List PV → PHeap → Pt), lo ≤ i → i < j → j ≤ hi → B K [.int .i64 (i : Int), .int .i64 (j : Int)] g = if q ((i + j) / 2) = true then K [.int .i64 (((i + j) / 2 + 1 : Nat) : Int), .int .i64 (j : Int)] g else K [.int .i64 (i : Int), .int .i64 (((i + j) / 2 : Nat) : Int)] g) :
    ∀ (d f i j : Nat), j - i ≤ d → lo ≤ i → i ≤ j → j ≤ hi → (i = lo ∨ q (i - 1) = true) → (j = hi ∨ q j = false) → d < f →
      ∃ (s : Nat) (K : List PV → PHeap → Pt), lo ≤ s ∧ s ≤ hi ∧ (s = lo ∨ q (s - 1) = true) ∧ (s = hi ∨ q s = false) ∧ loopP B f [.int .i64 (i : Int), .int .i64 (j : Int)] g = B K [.int .i64 (s : Int), .int .i64 (s : Int)] g := by
  intro d
  induction d with
  | zero =>
    intro f i j h1 h2 h3 h4 h5 h6 h7
    obtain ⟨f, rfl⟩ : ∃ g, f = g + 1 := ⟨f - 1, by omega⟩
    obtain rfl : i = j := by omega
    exact ⟨i, _, h2, h4, h5, h6, rfl⟩
  | succ d ih =>
    intro f i j h1 h2 h3 h4 h5 h6 h7
    obtain ⟨f, rfl⟩ : ∃ g, f = g + 1 := ⟨f - 1, by omega⟩
    by_cases hij : i = j
    · subst hij
      exact ⟨i, _, h2, h4, h5, h6, rfl⟩
    · rw [loopS, hstep i j _ h2 (by omega) h4]
      cases hq : q ((i + j) / 2) with
      | true =>
        rw [if_pos rfl]
        exact ih f _ j (by omega) (by omega) (by omega) h4 (.inr (by rw [Nat.add_sub_cancel]; exact hq)) h6 (by omega)
      | false =>
        rw [if_neg (by decide)]
        exact ih f i _ (by omega) h2 (by omega) (by omega) h5 (.inr hq) (by omega)
def CmpOk (cmp : PV) (p r : PHeap) (c : Int → Int) (E : Int → Prop) : Prop := ∀ (l : List Int) (x y : Int), E x → E y → callVP Γ0 cmp [.int .i64 x, .int .i64 y] (lg p r l .rw) = some (.int .i64 (c y - c x), lg p r l .rw)
theorem getD_some {l : List Int} {i : Nat} {x d : Int} (h : l[i]? = some x) : l.getD i d = x := by rw [List.getD_eq_getElem?_getD, h]; rfl
theorem dec_sub (a b : Int) : decide (a - b < 0) = decide (a < b) := by
  by_cases h : a < b
  · rw [decide_eq_true h, decide_eq_true (by omega)]
  · rw [decide_eq_false h, decide_eq_false (by omega)]
section
variable {c k : Int → Int}
theorem srt_le {l : List Int} (h : Srt c k l) {i j : Nat} {x y : Int} (hij : i ≤ j) (hx : l[i]? = some x) (hy : l[j]? = some y) : c y ≤ c x := by
  by_cases e : i = j
  · subst e
    rw [hx] at hy
    cases hy
    exact Int.le_refl _
  · have := List.pairwise_iff_getElem.1 h i j (List.getElem?_eq_some_iff.1 hx).1 (List.getElem?_eq_some_iff.1 hy).1 (by omega)
    rw [(List.getElem?_eq_some_iff.1 hx).2, (List.getElem?_eq_some_iff.1 hy).2] at this
    unfold Rk at this
    omega
theorem take_mem {l : List Int} {n : Nat} {x : Int} (h : x ∈ l.take n) : ∃ i, i < n ∧ l[i]? = some x := by
  obtain ⟨i, hi⟩ := List.getElem?_of_mem h
  have hlt := (List.getElem?_eq_some_iff.1 hi).1
  rw [List.length_take] at hlt
  exact ⟨i, by omega, by rwa [List.getElem?_take_of_lt (by omega)] at hi⟩
theorem drop_mem {l : List Int} {n : Nat} {x : Int} (h : x ∈ l.drop n) : ∃ i, n ≤ i ∧ l[i]? = some x := by
  obtain ⟨i, hi⟩ := List.getElem?_of_mem h
  rw [List.getElem?_drop] at hi
  exact ⟨n + i, by omega, hi⟩
end
theorem up_loop {p r : PHeap} {L a s n : Nat} {X B1 W : List Int} {x : Int} {l0 : List Int} {j : List PV → PHeap → Pt} {R : Pt} {f : Nat} (ha : a = X.length) (hs : s = a + B1.length + 1) (hL : (X ++ x :: (B1 ++ W)).length = L) (hm : L < 4294967296) (hf : B1.length < f)
    (hr : ∀ h, h = lg p r (X ++ B1 ++ x :: W) .rw → j [] h = R) :
    loopP (s66_L3 Γ0 n (rf p L) [.int .i64 (s : Int)] (lg p r l0 .rw) j) f [.int .i64 (a : Int)] (lg p r (X ++ x :: (B1 ++ W)) .rw) = R := by
  have hLs : L = X.length + 1 + B1.length + W.length := by rw [← hL]; simp; omega
  refine loop_run (fun t => [.int .i64 ((a + t : Nat) : Int)]) (fun t => lg p r (X ++ B1.take t ++ x :: (B1.drop t ++ W)) .rw) B1.length hf rfl (by simp) (fun t ht K => ?_) fun K => ?_
  · obtain ⟨y, hy⟩ := lt_get ht
    have dB : B1.drop t = y :: B1.drop (t + 1) := by rw [List.drop_eq_getElem_cons ht]; congr 1; exact (List.getElem?_eq_some_iff.1 hy).2
    have tB : B1.take (t + 1) = B1.take t ++ [y] := take_succ_get hy
    have e0 : X ++ B1.take t ++ x :: (B1.drop t ++ W) = (X ++ B1.take t ++ [x]) ++ y :: (B1.drop (t + 1) ++ W) := by rw [dB]; simp
    have e1 : X ++ B1.take (t + 1) ++ x :: (B1.drop (t + 1) ++ W) = (X ++ B1.take t ++ [y]) ++ x :: (B1.drop (t + 1) ++ W) := by rw [tB]; simp
    have la : a + t = (X ++ B1.take t).length := by simp; omega
    have lb : a + t + 1 = (X ++ B1.take t ++ [x]).length := by simp; omega
    have lb2 : a + t + 1 = (X ++ B1.take t ++ [y]).length := by simp; omega
    have len0 : L = (X ++ B1.take t ++ x :: (B1.drop t ++ W)).length := by simp; omega
    have g1 : loadP false 1 (.lptr p.length (a + t + 1) 0 L 1) (lg p r (X ++ B1.take t ++ x :: (B1.drop t ++ W)) .rw) = some (.int .i64 y) := lg_load len0 (by rw [e0]; exact get_mid lb)
    have g2 : loadP false 1 (.lptr p.length (a + t) 0 L 1) (lg p r (X ++ B1.take t ++ x :: (B1.drop t ++ W)) .rw) = some (.int .i64 x) := lg_load len0 (get_mid la)
    have g3 : storeP 1 (.lptr p.length (a + t) 0 L 1) (.int .i64 y) (lg p r (X ++ B1.take t ++ x :: (B1.drop t ++ W)) .rw) = some (lg p r ((X ++ B1.take t ++ [y]) ++ y :: (B1.drop (t + 1) ++ W)) .rw) := by
      rw [lg_store len0 (by omega), set_mid la, dB]; simp
    have g4 : storeP 1 (.lptr p.length (a + t + 1) 0 L 1) (.int .i64 x) (lg p r ((X ++ B1.take t ++ [y]) ++ y :: (B1.drop (t + 1) ++ W)) .rw) = some (lg p r (X ++ B1.take (t + 1) ++ x :: (B1.drop (t + 1) ++ W)) .rw) := by
      rw [lg_store (by simp; omega) (by simp; omega), set_mid lb2, e1]
    have lt1 : ((a + t : Nat) : Int) < ((s - 1 : Nat) : Int) := by omega
    unfold s66_L3
    simp only [bS, nth_zero, bin_sub, wsub1 (show 1 ≤ s by omega) (show s < 9223372036854775808 by omega), bin_lss, lt1, decide_true, ↓KLn, ifW, if_true, bin_add, succ63 (show a + t < 9223372036854775807 by omega), rf_ix (show a + t < L by omega), rf_ix (show a + t + 1 < L by omega), g1, g2, g3, g4, trim_lg]
    rfl
  · have lt1 : ¬ ((a + B1.length : Nat) : Int) < ((s - 1 : Nat) : Int) := by omega
    unfold s66_L3
    simp only [bS, nth_zero, bin_sub, wsub1 (show 1 ≤ s by omega) (show s < 9223372036854775808 by omega), bin_lss, lt1, decide_false, ↓KLn, ifW, Bool.false_eq_true, if_false]
    exact hr _ (by simp)
theorem down_loop {p r : PHeap} {L m s n : Nat} {X A2 W : List Int} {y : Int} {l0 : List Int} {j : List PV → PHeap → Pt} {R : Pt} {f : Nat} (hs : s = X.length) (hm' : m = s + A2.length) (hL : (X ++ A2 ++ y :: W).length = L) (hm : L < 4294967296) (hf : A2.length < f)
    (hr : ∀ h, h = lg p r (X ++ y :: (A2 ++ W)) .rw → j [] h = R) :
    loopP (s66_L1 Γ0 n (rf p L) [.int .i64 (s : Int)] (lg p r l0 .rw) j) f [.int .i64 (m : Int)] (lg p r (X ++ A2 ++ y :: W) .rw) = R := by
  have hLs : L = X.length + A2.length + 1 + W.length := by rw [← hL]; simp; omega
  refine loop_run (fun t => [.int .i64 ((m - t : Nat) : Int)]) (fun t => lg p r (X ++ A2.take (A2.length - t) ++ y :: (A2.drop (A2.length - t) ++ W)) .rw) A2.length hf rfl (by simp) (fun t ht K => ?_) fun K => ?_
  · obtain ⟨d, hd⟩ : ∃ d, A2.length - t = d + 1 := ⟨A2.length - t - 1, by omega⟩
    have hd2 : A2.length - (t + 1) = d := by omega
    have hmt : m - t = s + d + 1 := by omega
    have hmt2 : m - (t + 1) = s + d := by omega
    obtain ⟨x, hx⟩ := lt_get (show d < A2.length by omega)
    have dA : A2.drop d = x :: A2.drop (d + 1) := by rw [List.drop_eq_getElem_cons (by omega)]; congr 1; exact (List.getElem?_eq_some_iff.1 hx).2
    have tA : A2.take (d + 1) = A2.take d ++ [x] := take_succ_get hx
    simp only [hd, hd2, hmt, hmt2]
    have e0 : X ++ A2.take (d + 1) ++ y :: (A2.drop (d + 1) ++ W) = (X ++ A2.take d) ++ x :: (y :: (A2.drop (d + 1) ++ W)) := by rw [tA]; simp
    have e1 : X ++ A2.take d ++ y :: (A2.drop d ++ W) = (X ++ A2.take d) ++ y :: (x :: (A2.drop (d + 1) ++ W)) := by rw [dA]; simp
    have e2 : (X ++ A2.take d) ++ x :: (x :: (A2.drop (d + 1) ++ W)) = (X ++ A2.take (d + 1)) ++ x :: (A2.drop (d + 1) ++ W) := by rw [tA]; simp
    have la : s + d = (X ++ A2.take d).length := by simp; omega
    have lb : s + d + 1 = (X ++ A2.take (d + 1)).length := by simp; omega
    have len0 : L = (X ++ A2.take (d + 1) ++ y :: (A2.drop (d + 1) ++ W)).length := by simp; omega
    have len1 : L = (X ++ A2.take (d + 1) ++ x :: (A2.drop (d + 1) ++ W)).length := by simp; omega
    have g1 : loadP false 1 (.lptr p.length (s + d) 0 L 1) (lg p r (X ++ A2.take (d + 1) ++ y :: (A2.drop (d + 1) ++ W)) .rw) = some (.int .i64 x) := lg_load len0 (by rw [e0]; exact get_mid la)
    have g2 : loadP false 1 (.lptr p.length (s + d + 1) 0 L 1) (lg p r (X ++ A2.take (d + 1) ++ y :: (A2.drop (d + 1) ++ W)) .rw) = some (.int .i64 y) := lg_load len0 (get_mid lb)
    have g3 : storeP 1 (.lptr p.length (s + d + 1) 0 L 1) (.int .i64 x) (lg p r (X ++ A2.take (d + 1) ++ y :: (A2.drop (d + 1) ++ W)) .rw) = some (lg p r (X ++ A2.take (d + 1) ++ x :: (A2.drop (d + 1) ++ W)) .rw) := by
      rw [lg_store len0 (by omega), set_mid lb]
    have g4 : storeP 1 (.lptr p.length (s + d) 0 L 1) (.int .i64 y) (lg p r (X ++ A2.take (d + 1) ++ x :: (A2.drop (d + 1) ++ W)) .rw) = some (lg p r (X ++ A2.take d ++ y :: (A2.drop d ++ W)) .rw) := by
      rw [lg_store len1 (by omega), ← e2, set_mid la, e1]
    have gt1 : ((s + d + 1 : Nat) : Int) > (s : Int) := by omega
    unfold s66_L1
    simp only [bS, nth_zero, bin_gtr, gt1, decide_true, ↓KLn, ifW, if_true, bin_sub, wsub1 (show 1 ≤ s + d + 1 by omega) (show s + d + 1 < 9223372036854775808 by omega), Nat.add_sub_cancel, rf_ix (show s + d < L by omega), rf_ix (show s + d + 1 < L by omega), g1, g2, g3, g4, trim_lg]
  · have gt1 : ¬ ((m - A2.length : Nat) : Int) > (s : Int) := by omega
    unfold s66_L1
    simp only [bS, nth_zero, bin_gtr, gt1, decide_false, ↓KLn, ifW, Bool.false_eq_true, if_false]
    exact hr _ (by simp)
end Go.Vm.X


set_option linter.unusedSimpArgs false
set_option linter.unusedVariables false
namespace Go.Vm.X
open Go.Am Go.Vm
attribute [local congr] bind_c ifP_c loop_c K1_c ite_c fork_c guard_c unl_c
theorem get_off {X A Y : List Int} {i n : Nat} {x : Int} (hx : A[i]? = some x) (hn : n = X.length + i) : (X ++ A ++ Y)[n]? = some x := by
  subst hn
  have := (List.getElem?_eq_some_iff.1 hx).1
  rw [List.append_assoc, List.getElem?_append_right (by omega), List.getElem?_append_left (by omega), show X.length + i - X.length = i by omega]
  exact hx
section
variable {c k : Int → Int} {E : Int → Prop} {p r : PHeap} {cmp : PV}
theorem sym_left (hc : CmpOk cmp p r c E) {X B Y : List Int} {x : Int} {a m b L : Nat} (hB : 0 < B.length) (ha : a = X.length) (hmm : m = a + 1) (hb : b = m + B.length) (hL : (X ++ x :: (B ++ Y)).length = L) (hm : L < 4294967296) (hk : ∀ y ∈ B, k x < k y) (hE : E x ∧ ∀ y ∈ B, E y) (sB : Srt c k B) :
    ∃ M, M.Perm (x :: B) ∧ Srt c k M ∧ Γ0 66 [rf p L, .int .i64 (a : Int), .int .i64 (m : Int), .int .i64 (b : Int), cmp] (lg p r (X ++ x :: (B ++ Y)) .rw) = some (undefP, lg p r (X ++ M ++ Y) .rw) := by
  have hLs : L = X.length + 1 + B.length + Y.length := by rw [← hL]; simp; omega
  have gx : (X ++ x :: (B ++ Y))[a]? = some x := get_mid ha
  have gB : ∀ (h : Nat) (y : Int), B[h]? = some y → (X ++ x :: (B ++ Y))[m + h]? = some y := fun h y hy => by
    have := get_off (X := X ++ [x]) (A := B) (Y := Y) (n := m + h) hy (by simp; omega)
    simpa using this
  have hN : ∃ N, N = L + 1 := ⟨_, rfl⟩
  obtain ⟨N, hN⟩ := hN
  -- the search
  obtain ⟨s, K, s1, s2, s3, s4, s5⟩ := bin_loop (g := lg p r (X ++ x :: (B ++ Y)) .rw) (q := fun h => decide (c x < c (B.getD (h - m) 0))) (lo := m) (hi := b)
    (B := s66_L4 Γ0 N (rf p L) (.int .i64 (a : Int)) cmp (lg p r (X ++ x :: (B ++ Y)) .rw) (fun w131 h132 => loopP (s66_L3 Γ0 N (rf p L) w131 h132 fun w h => finP [] (lg p r (X ++ x :: (B ++ Y)) .rw) h []) N [.int .i64 (a : Int)] h132))
    (fun i j K h1 h2 h3 => by
      obtain ⟨y, hy⟩ := lt_get (show (i + j) / 2 - m < B.length by omega)
      have hyg := gB _ y hy
      rw [show m + ((i + j) / 2 - m) = (i + j) / 2 by omega] at hyg
      have l1 : loadP false 1 (.lptr p.length ((i + j) / 2) 0 L 1) (lg p r (X ++ x :: (B ++ Y)) .rw) = some (.int .i64 y) := lg_load hL.symm hyg
      have l2 : loadP false 1 (.lptr p.length a 0 L 1) (lg p r (X ++ x :: (B ++ Y)) .rw) = some (.int .i64 x) := lg_load hL.symm gx
      have hcm := hc (X ++ x :: (B ++ Y)) y x (hE.2 y (List.mem_of_getElem? hy)) hE.1
      unfold s66_L4
      simp only [bS, nth_zero, nth_one, bin_lss, ltT h2, decide_true, ↓KLn, ifW, if_true, bin_add, wadd (show i + j < 9223372036854775808 by omega), cv1 (show i + j < 9223372036854775808 by omega), cv2, cv3 (show (i + j) / 2 < 9223372036854775808 by omega), rf_ix (show (i + j) / 2 < L by omega), rf_ix (show a < L by omega), l1, l2, hcm, dec_sub, getD_some hy, succ63 (show (i + j) / 2 < 9223372036854775807 by omega), trim_lg])
    (b - m) N m b (by omega) (Nat.le_refl _) (by omega) (Nat.le_refl _) (.inl rfl) (.inl rfl) (by omega)
  have hsplit : B = B.take (s - m) ++ B.drop (s - m) := (List.take_append_drop _ _).symm
  have lt1 : (B.take (s - m)).length = s - m := by rw [List.length_take]; omega
  refine ⟨B.take (s - m) ++ x :: B.drop (s - m), ?_, ?_, ?_⟩
  · refine List.perm_middle.trans ?_
    rw [List.take_append_drop]
  · refine srt_insert (by rw [List.take_append_drop]; exact sB) (fun y hy => ?_) (fun y hy => ?_)
    · obtain ⟨i, h1, h2⟩ := take_mem hy
      have hq := s3.resolve_left (by omega)
      obtain ⟨z, hz⟩ := lt_get (show s - 1 - m < B.length by omega)
      rw [getD_some hz, decide_eq_true_eq] at hq
      have := srt_le sB (show i ≤ s - 1 - m by omega) h2 hz
      unfold Rk
      omega
    · obtain ⟨i, h1, h2⟩ := drop_mem hy
      have hil := (List.getElem?_eq_some_iff.1 h2).1
      have hq := s4.resolve_left (by omega)
      obtain ⟨z, hz⟩ := lt_get (show s - m < B.length by omega)
      rw [getD_some hz, decide_eq_false_iff_not] at hq
      have := srt_le sB (show s - m ≤ i by omega) hz h2
      have := hk y (List.mem_of_getElem? h2)
      unfold Rk
      omega
  · refine gbody (F := A66) (by kernel_rfl) N ?_
    rw [s66_eq]; unfold s66
    have e1 : (((m - a : Nat) : Int) == 1) = true := by rw [beq_iff_eq]; omega
    simp only [bS, bin_sub, wsub (show a ≤ m by omega) (show m < 9223372036854775808 by omega), bin_eql, e1, ↓KLn, ifW, if_true]
    rw [s5]
    unfold s66_L4
    simp only [bS, nth_zero, nth_one, bin_lss, ltF, decide_false, ↓KLn, ifW, Bool.false_eq_true, if_false]
    have hspl : X ++ x :: (B ++ Y) = X ++ x :: (B.take (s - m) ++ (B.drop (s - m) ++ Y)) := by rw [← List.append_assoc (B.take _), List.take_append_drop]
    rw [hspl]
    refine up_loop (a := a) (s := s) (W := B.drop (s - m) ++ Y) ha (by omega) (by rw [← hspl]; exact hL) hm (by omega) (fun h hh => ?_)
    rw [hh, fin_unit, trim_lg]
    simp
theorem sym_right (hc : CmpOk cmp p r c E) {X A Y : List Int} {y : Int} {a m b L : Nat} (hA : 1 < A.length) (ha : a = X.length) (hmm : m = a + A.length) (hb : b = m + 1) (hL : (X ++ A ++ y :: Y).length = L) (hm : L < 4294967296) (hk : ∀ x ∈ A, k x < k y) (hE : E y ∧ ∀ x ∈ A, E x) (sA : Srt c k A) :
    ∃ M, M.Perm (A ++ [y]) ∧ Srt c k M ∧ Γ0 66 [rf p L, .int .i64 (a : Int), .int .i64 (m : Int), .int .i64 (b : Int), cmp] (lg p r (X ++ A ++ y :: Y) .rw) = some (undefP, lg p r (X ++ M ++ Y) .rw) := by
  have hLs : L = X.length + A.length + 1 + Y.length := by rw [← hL]; simp; omega
  have gy : (X ++ A ++ y :: Y)[m]? = some y := get_mid (by simp; omega)
  have gA : ∀ (h : Nat) (x : Int), A[h]? = some x → (X ++ A ++ y :: Y)[a + h]? = some x := fun h x hx => get_off hx (by omega)
  obtain ⟨N, hN⟩ : ∃ N, N = L + 1 := ⟨_, rfl⟩
  obtain ⟨s, K, s1, s2, s3, s4, s5⟩ := bin_loop (g := lg p r (X ++ A ++ y :: Y) .rw) (q := fun h => !decide (c (A.getD (h - a) 0) < c y)) (lo := a) (hi := m)
    (B := s66_L2 Γ0 N (rf p L) (.int .i64 (m : Int)) cmp (lg p r (X ++ A ++ y :: Y) .rw) (fun w79 h80 => loopP (s66_L1 Γ0 N (rf p L) w79 h80 fun w h => finP [] (lg p r (X ++ A ++ y :: Y) .rw) h []) N [.int .i64 (m : Int)] h80))
    (fun i j K h1 h2 h3 => by
      obtain ⟨x, hx⟩ := lt_get (show (i + j) / 2 - a < A.length by omega)
      have hxg := gA _ x hx
      rw [show a + ((i + j) / 2 - a) = (i + j) / 2 by omega] at hxg
      have l1 : loadP false 1 (.lptr p.length ((i + j) / 2) 0 L 1) (lg p r (X ++ A ++ y :: Y) .rw) = some (.int .i64 x) := lg_load hL.symm hxg
      have l2 : loadP false 1 (.lptr p.length m 0 L 1) (lg p r (X ++ A ++ y :: Y) .rw) = some (.int .i64 y) := lg_load hL.symm gy
      have hcm := hc (X ++ A ++ y :: Y) y x hE.1 (hE.2 x (List.mem_of_getElem? hx))
      unfold s66_L2
      simp only [bS, nth_zero, nth_one, bin_lss, ltT h2, decide_true, ↓KLn, ifW, if_true, bin_add, wadd (show i + j < 9223372036854775808 by omega), cv1 (show i + j < 9223372036854775808 by omega), cv2, cv3 (show (i + j) / 2 < 9223372036854775808 by omega), rf_ix (show (i + j) / 2 < L by omega), rf_ix (show m < L by omega), l1, l2, hcm, dec_sub, un_not, getD_some hx, succ63 (show (i + j) / 2 < 9223372036854775807 by omega), trim_lg])
    (m - a) N a m (by omega) (Nat.le_refl _) (by omega) (Nat.le_refl _) (.inl rfl) (.inl rfl) (by omega)
  have lt1 : (A.take (s - a)).length = s - a := by rw [List.length_take]; omega
  refine ⟨A.take (s - a) ++ y :: A.drop (s - a), ?_, ?_, ?_⟩
  · refine List.perm_middle.trans ?_
    rw [List.take_append_drop]
    exact (List.perm_append_comm (l₁ := A) (l₂ := [y])).symm
  · refine srt_insert (by rw [List.take_append_drop]; exact sA) (fun x hx => ?_) (fun x hx => ?_)
    · obtain ⟨i, h1, h2⟩ := take_mem hx
      have hq := s3.resolve_left (by omega)
      obtain ⟨z, hz⟩ := lt_get (show s - 1 - a < A.length by omega)
      rw [getD_some hz, Bool.not_eq_true', decide_eq_false_iff_not] at hq
      have := srt_le sA (show i ≤ s - 1 - a by omega) h2 hz
      have := hk x (List.mem_of_getElem? h2)
      unfold Rk
      omega
    · obtain ⟨i, h1, h2⟩ := drop_mem hx
      have hil := (List.getElem?_eq_some_iff.1 h2).1
      have hq := s4.resolve_left (by omega)
      obtain ⟨z, hz⟩ := lt_get (show s - a < A.length by omega)
      rw [getD_some hz, Bool.not_eq_false', decide_eq_true_eq] at hq
      have := srt_le sA (show s - a ≤ i by omega) hz h2
      unfold Rk
      omega
  · refine gbody (F := A66) (by kernel_rfl) N ?_
    rw [s66_eq]; unfold s66
    have e1 : (((m - a : Nat) : Int) == 1) = false := by rw [beq_eq_false_iff_ne]; omega
    have e2 : (((b - m : Nat) : Int) == 1) = true := by rw [beq_iff_eq]; omega
    simp only [bS, bin_sub, wsub (show a ≤ m by omega) (show m < 9223372036854775808 by omega), wsub (show m ≤ b by omega) (show b < 9223372036854775808 by omega), bin_eql, e1, e2, ↓KLn, ifW, if_true, Bool.false_eq_true, if_false]
    rw [s5]
    unfold s66_L2
    simp only [bS, nth_zero, nth_one, bin_lss, ltF, decide_false, ↓KLn, ifW, Bool.false_eq_true, if_false]
    have hspl : X ++ A ++ y :: Y = (X ++ A.take (s - a)) ++ A.drop (s - a) ++ y :: Y := by rw [List.append_assoc X (A.take _), List.take_append_drop]
    rw [hspl]
    refine down_loop (X := X ++ A.take (s - a)) (s := s) (m := m) (W := Y) (by simp; omega) (by rw [List.length_drop]; omega) (by rw [← hspl]; exact hL) hm (by rw [List.length_drop]; omega) (fun h hh => ?_)
    rw [hh, fin_unit, trim_lg]
    simp
end
end Go.Vm.X


set_option linter.unusedSimpArgs false
set_option linter.unusedVariables false
namespace Go.Vm.X
open Go.Am Go.Vm
attribute [local congr] bind_c ifP_c loop_c K1_c ite_c fork_c guard_c unl_c
noncomputable def symK (p r : PHeap) (cmp : PV) (L : Nat) (l : List Int) (a m b mid : Nat) : List PV → PHeap → Pt := fun w21 h22 =>
        (binP .sub (.int .i64 ((mid + m : Nat) : Int)) (nthP w21 0)).bind fun v23 =>
        (binP .lss (nthP w21 0) (.int .i64 (m : Int))).bind fun v24 =>
        K1 (fun v26 h27 =>
        KL (fun w29 h30 =>
        (binP .lss (.int .i64 (a : Int)) (nthP w21 0)).bind fun v31 =>
        K1 (fun v33 h34 =>
        KL (fun w36 h37 =>
        (binP .lss (.int .i64 (mid : Int)) v23).bind fun v38 =>
        K1 (fun v40 h41 =>
        KL (fun w43 h44 =>
        finP [] (lg p r l .rw) h44 []) fun j42 =>
        ifP v40 (
        (Γ0 66 [rf p L, .int .i64 (mid : Int), v23, .int .i64 (b : Int), cmp] h41).bind fun p45 =>
        j42 [] p45.2) (
        j42 [] h41)) fun j39 =>
        scP v38 true (
        (binP .lss v23 (.int .i64 (b : Int))).bind fun v46 =>
        j39 v46 h37)
        (j39 (.bool false) h37)) fun j35 =>
        ifP v33 (
        (Γ0 66 [rf p L, .int .i64 (a : Int), (nthP w21 0), .int .i64 (mid : Int), cmp] h34).bind fun p47 =>
        j35 [] p47.2) (
        j35 [] h34)) fun j32 =>
        scP v31 true (
        (binP .lss (nthP w21 0) (.int .i64 (mid : Int))).bind fun v48 =>
        j32 v48 h30)
        (j32 (.bool false) h30)) fun j28 =>
        ifP v26 (
        (Γ0 78 [rf p L, (nthP w21 0), .int .i64 (m : Int), v23, cmp] h27).bind fun p49 =>
        j28 [] p49.2) (
        j28 [] h27)) fun j25 =>
        scP v24 true (
        (binP .lss (.int .i64 (m : Int)) v23).bind fun v50 =>
        j25 v50 h22)
        (j25 (.bool false) h22)
set_option maxHeartbeats 1000000 in
theorem sym_run {p r : PHeap} {cmp : PV} {L N a m b mid lo hi s e : Nat} {l l1 l2 l3 : List Int} {K : List PV → PHeap → Pt} (hm : b < 4294967296) (ham : a < m) (hmb : m < b) (a1 : m - a ≠ 1) (b1 : b - m ≠ 1) (hmid : mid = (a + b) / 2) (hlh : (m > mid ∧ lo = mid + m - b ∧ hi = mid) ∨ (m ≤ mid ∧ lo = a ∧ hi = m)) (s1 : lo ≤ s) (s2 : s ≤ hi) (he : e = mid + m - s)
    (hs : loopP (s66_L0 Γ0 N (rf p L) cmp (lg p r l .rw) (.int .i64 ((mid + m - 1 : Nat) : Int)) (symK p r cmp L l a m b mid)) N [.int .i64 (lo : Int), .int .i64 (hi : Int)] (lg p r l .rw) = s66_L0 Γ0 N (rf p L) cmp (lg p r l .rw) (.int .i64 ((mid + m - 1 : Nat) : Int)) (symK p r cmp L l a m b mid) K [.int .i64 (s : Int), .int .i64 (s : Int)] (lg p r l .rw))
    (hr : (s < m ∧ m < e) → Γ0 78 [rf p L, .int .i64 (s : Int), .int .i64 (m : Int), .int .i64 (e : Int), cmp] (lg p r l .rw) = some (undefP, lg p r l1 .rw)) (hr' : ¬ (s < m ∧ m < e) → l = l1)
    (h1 : (a < s ∧ s < mid) → Γ0 66 [rf p L, .int .i64 (a : Int), .int .i64 (s : Int), .int .i64 (mid : Int), cmp] (lg p r l1 .rw) = some (undefP, lg p r l2 .rw)) (h1' : ¬ (a < s ∧ s < mid) → l1 = l2)
    (h2 : (mid < e ∧ e < b) → Γ0 66 [rf p L, .int .i64 (mid : Int), .int .i64 (e : Int), .int .i64 (b : Int), cmp] (lg p r l2 .rw) = some (undefP, lg p r l3 .rw)) (h2' : ¬ (mid < e ∧ e < b) → l2 = l3) :
    Γ0 66 [rf p L, .int .i64 (a : Int), .int .i64 (m : Int), .int .i64 (b : Int), cmp] (lg p r l .rw) = some (undefP, lg p r l3 .rw) := by
  have e1 : (((m - a : Nat) : Int) == 1) = false := by rw [beq_eq_false_iff_ne]; omega
  have e2 : (((b - m : Nat) : Int) == 1) = false := by rw [beq_eq_false_iff_ne]; omega
  have w1 := wsub (show a ≤ m by omega) (show m < 9223372036854775808 by omega)
  have w2 := wsub (show m ≤ b by omega) (show b < 9223372036854775808 by omega)
  have w3 := wadd (show a + b < 9223372036854775808 by omega)
  have w4 := cv1 (show a + b < 9223372036854775808 by omega)
  have w5 := cv3 (show mid < 9223372036854775808 by omega)
  have w6 := wadd (show mid + m < 9223372036854775808 by omega)
  have w7 := wsub1 (show 1 ≤ mid + m by omega) (show mid + m < 9223372036854775808 by omega)
  have w9 := wsub (show s ≤ mid + m by omega) (show mid + m < 9223372036854775808 by omega)
  rw [← he] at w9
  have c2 : ∀ n : Nat, binP .shr (.int .u64 (n : Int)) (.int .u64 1) = some (.int .u64 ((n / 2 : Nat) : Int)) := cv2
  -- behind the search
  have tail : symK p r cmp L l a m b mid [.int .i64 (s : Int)] (lg p r l .rw) = some (undefP, lg p r l3 .rw) := by
    have z : ∀ x y : Nat, decide ((x : Int) < (y : Int)) = decide (x < y) := fun x y => by
      by_cases h : x < y
      · rw [decide_eq_true h, decide_eq_true (by omega)]
      · rw [decide_eq_false h, decide_eq_false (by omega)]
    unfold symK
    by_cases q1 : s < m ∧ m < e
    case neg =>
      obtain rfl := hr' q1
      have d1 : (decide (s < m) && decide (m < e)) = false := by
        rw [Bool.and_eq_false_iff, decide_eq_false_iff_not, decide_eq_false_iff_not]; omega
      by_cases q2 : a < s ∧ s < mid
      case neg =>
        obtain rfl := h1' q2
        have d2 : (decide (a < s) && decide (s < mid)) = false := by
          rw [Bool.and_eq_false_iff, decide_eq_false_iff_not, decide_eq_false_iff_not]; omega
        by_cases q3 : mid < e ∧ e < b
        case neg =>
          obtain rfl := h2' q3
          have d3 : (decide (mid < e) && decide (e < b)) = false := by
            rw [Bool.and_eq_false_iff, decide_eq_false_iff_not, decide_eq_false_iff_not]; omega
          simp only [words, ↓KLn, Nat.reduceAdd, w9, z, K1_and, d1, d2, d3, Bool.false_eq_true, if_false, fin_unit, trim_lg]
        simp only [words, ↓KLn, Nat.reduceAdd, w9, z, K1_and, d1, d2, q3.1, q3.2, decide_true, Bool.and_self, if_true, h2 q3, Bool.false_eq_true, if_false, fin_unit, trim_lg]
      by_cases q3 : mid < e ∧ e < b
      case neg =>
        obtain rfl := h2' q3
        have d3 : (decide (mid < e) && decide (e < b)) = false := by
          rw [Bool.and_eq_false_iff, decide_eq_false_iff_not, decide_eq_false_iff_not]; omega
        simp only [words, ↓KLn, Nat.reduceAdd, w9, z, K1_and, d1, q2.1, q2.2, decide_true, Bool.and_self, if_true, h1 q2, d3, Bool.false_eq_true, if_false, fin_unit, trim_lg]
      simp only [words, ↓KLn, Nat.reduceAdd, w9, z, K1_and, d1, q2.1, q2.2, decide_true, Bool.and_self, if_true, h1 q2, q3.1, q3.2, h2 q3, Bool.false_eq_true, if_false, fin_unit, trim_lg]
    by_cases q2 : a < s ∧ s < mid
    case neg =>
      obtain rfl := h1' q2
      have d2 : (decide (a < s) && decide (s < mid)) = false := by
        rw [Bool.and_eq_false_iff, decide_eq_false_iff_not, decide_eq_false_iff_not]; omega
      by_cases q3 : mid < e ∧ e < b
      case neg =>
        obtain rfl := h2' q3
        have d3 : (decide (mid < e) && decide (e < b)) = false := by
          rw [Bool.and_eq_false_iff, decide_eq_false_iff_not, decide_eq_false_iff_not]; omega
        simp only [words, ↓KLn, Nat.reduceAdd, w9, z, K1_and, q1.1, q1.2, decide_true, Bool.and_self, if_true, hr q1, d2, d3, Bool.false_eq_true, if_false, fin_unit, trim_lg]
      simp only [words, ↓KLn, Nat.reduceAdd, w9, z, K1_and, q1.1, q1.2, decide_true, Bool.and_self, if_true, hr q1, d2, q3.1, q3.2, h2 q3, Bool.false_eq_true, if_false, fin_unit, trim_lg]
    by_cases q3 : mid < e ∧ e < b
    case neg =>
      obtain rfl := h2' q3
      have d3 : (decide (mid < e) && decide (e < b)) = false := by
        rw [Bool.and_eq_false_iff, decide_eq_false_iff_not, decide_eq_false_iff_not]; omega
      simp only [words, ↓KLn, Nat.reduceAdd, w9, z, K1_and, q1.1, q1.2, decide_true, Bool.and_self, if_true, hr q1, q2.1, q2.2, h1 q2, d3, Bool.false_eq_true, if_false, fin_unit, trim_lg]
    simp only [words, ↓KLn, Nat.reduceAdd, w9, z, K1_and, q1.1, q1.2, decide_true, Bool.and_self, if_true, hr q1, q2.1, q2.2, h1 q2, q3.1, q3.2, h2 q3, fin_unit, trim_lg]
  have srch : loopP (s66_L0 Γ0 N (rf p L) cmp (lg p r l .rw) (.int .i64 ((mid + m - 1 : Nat) : Int)) (symK p r cmp L l a m b mid)) N [.int .i64 (lo : Int), .int .i64 (hi : Int)] (lg p r l .rw) = some (undefP, lg p r l3 .rw) := by
    rw [hs]
    unfold s66_L0
    simp only [words, ↓KLn, Nat.reduceAdd, nth_one, ltF, decide_false, Bool.false_eq_true, if_false, tail]
  refine gbody (F := A66) (by kernel_rfl) N ?_
  rw [s66_eq]; unfold s66
  unfold symK at srch
  rcases hlh with ⟨g, g2, g3⟩ | ⟨g, g2, g3⟩
  · have g1 : ((m : Int) > (mid : Int)) := by omega
    have w8 := wsub (show b ≤ mid + m by omega) (show mid + m < 9223372036854775808 by omega)
    simp only [words, ↓KLn, Nat.reduceAdd, w1, w2, e1, e2, Bool.false_eq_true, if_false, w3, w4, c2, w5, ← hmid, w6, g1, decide_true, if_true, w7, w8]
    rw [g2, g3] at srch
    exact srch
  · have g1 : ¬ ((m : Int) > (mid : Int)) := by omega
    simp only [words, ↓KLn, Nat.reduceAdd, w1, w2, e1, e2, Bool.false_eq_true, if_false, w3, w4, c2, w5, ← hmid, w6, g1, decide_false, Bool.false_eq_true, if_false, w7]
    rw [g2, g3] at srch
    exact srch
end Go.Vm.X


set_option linter.unusedSimpArgs false
set_option linter.unusedVariables false
namespace Go.Vm.X
open Go.Am Go.Vm
attribute [local congr] bind_c ifP_c loop_c K1_c ite_c fork_c guard_c unl_c
section
variable {c k : Int → Int} {E : Int → Prop} {p r : PHeap} {cmp : PV}
def qS (c : Int → Int) (A B : List Int) (a m mid : Nat) (h : Nat) : Bool := !decide (c (A.getD (h - a) 0) < c (B.getD (mid + m - 1 - h - m) 0))
theorem sym_search (hc : CmpOk cmp p r c E) {L N a m b mid lo hi : Nat} {X A B Y : List Int} (hm : L < 4294967296) (hN : N = L + 1) (hA : 0 < A.length) (hB : 0 < B.length) (ha : a = X.length) (hmm : m = a + A.length) (hb : b = m + B.length) (hL : (X ++ A ++ B ++ Y).length = L) (hmid : mid = (a + b) / 2) (hlh : (m > mid ∧ lo = mid + m - b ∧ hi = mid) ∨ (m ≤ mid ∧ lo = a ∧ hi = m)) (EA : ∀ x ∈ A, E x) (EB : ∀ y ∈ B, E y) :
    ∃ (s : Nat) (K : List PV → PHeap → Pt), lo ≤ s ∧ s ≤ hi ∧ (s = lo ∨ qS c A B a m mid (s - 1) = true) ∧ (s = hi ∨ qS c A B a m mid s = false) ∧ loopP (s66_L0 Γ0 N (rf p L) cmp (lg p r (X ++ A ++ B ++ Y) .rw) (.int .i64 ((mid + m - 1 : Nat) : Int)) (symK p r cmp L (X ++ A ++ B ++ Y) a m b mid)) N [.int .i64 (lo : Int), .int .i64 (hi : Int)] (lg p r (X ++ A ++ B ++ Y) .rw) = s66_L0 Γ0 N (rf p L) cmp (lg p r (X ++ A ++ B ++ Y) .rw) (.int .i64 ((mid + m - 1 : Nat) : Int)) (symK p r cmp L (X ++ A ++ B ++ Y) a m b mid) K [.int .i64 (s : Int), .int .i64 (s : Int)] (lg p r (X ++ A ++ B ++ Y) .rw) := by
  have hLs : L = X.length + A.length + B.length + Y.length := by rw [← hL]; simp only [List.length_append]
  have gA : ∀ (h : Nat) (x : Int), A[h]? = some x → (X ++ A ++ B ++ Y)[a + h]? = some x := fun h x hx => by
    have := get_off (X := X) (A := A) (Y := B ++ Y) (n := a + h) hx (by omega)
    simpa using this
  have gB : ∀ (h : Nat) (y : Int), B[h]? = some y → (X ++ A ++ B ++ Y)[m + h]? = some y := fun h y hy => get_off (X := X ++ A) hy (by simp; omega)
  have hh : lo ≤ hi ∧ a ≤ lo ∧ hi ≤ m ∧ hi ≤ mid := by omega
  generalize symK p r cmp L (X ++ A ++ B ++ Y) a m b mid = CK
  exact bin_loop (g := lg p r (X ++ A ++ B ++ Y) .rw) (q := qS c A B a m mid) (lo := lo) (hi := hi)
    (B := s66_L0 Γ0 N (rf p L) cmp (lg p r (X ++ A ++ B ++ Y) .rw) (.int .i64 ((mid + m - 1 : Nat) : Int)) CK)
    (fun i j K h1 h2 h3 => by
      obtain ⟨x, hx⟩ := lt_get (show (i + j) / 2 - a < A.length by omega)
      obtain ⟨y, hy⟩ := lt_get (show mid + m - 1 - (i + j) / 2 - m < B.length by omega)
      have hxg := gA _ x hx
      have hyg := gB _ y hy
      rw [show a + ((i + j) / 2 - a) = (i + j) / 2 by omega] at hxg
      rw [show m + (mid + m - 1 - (i + j) / 2 - m) = mid + m - 1 - (i + j) / 2 by omega] at hyg
      have l1 : loadP false 1 (.lptr p.length ((i + j) / 2) 0 L 1) (lg p r (X ++ A ++ B ++ Y) .rw) = some (.int .i64 x) := lg_load hL.symm hxg
      have l2 : loadP false 1 (.lptr p.length (mid + m - 1 - (i + j) / 2) 0 L 1) (lg p r (X ++ A ++ B ++ Y) .rw) = some (.int .i64 y) := lg_load hL.symm hyg
      have hcm := hc (X ++ A ++ B ++ Y) y x (EB y (List.mem_of_getElem? hy)) (EA x (List.mem_of_getElem? hx))
      unfold s66_L0
      simp only [bS, nth_zero, nth_one, bin_lss, ltT h2, decide_true, ↓KLn, ifW, if_true, bin_add, wadd (show i + j < 9223372036854775808 by omega), cv1 (show i + j < 9223372036854775808 by omega), cv2, cv3 (show (i + j) / 2 < 9223372036854775808 by omega), bin_sub, wsub (show (i + j) / 2 ≤ mid + m - 1 by omega) (show mid + m - 1 < 9223372036854775808 by omega), rf_ix (show (i + j) / 2 < L by omega), rf_ix (show mid + m - 1 - (i + j) / 2 < L by omega), l1, l2, hcm, dec_sub, un_not, qS, getD_some hx, getD_some hy, succ63 (show (i + j) / 2 < 9223372036854775807 by omega), trim_lg])
    (hi - lo) N lo hi (Nat.le_refl _) (Nat.le_refl _) hh.1 (Nat.le_refl _) (.inl rfl) (.inl rfl) (by omega)
theorem sym_facts {X A B Y : List Int} {a m b mid lo hi s e : Nat} (hA : 0 < A.length) (hB : 0 < B.length) (ha : a = X.length) (hmm : m = a + A.length) (hb : b = m + B.length) (hmid : mid = (a + b) / 2) (hlh : (m > mid ∧ lo = mid + m - b ∧ hi = mid) ∨ (m ≤ mid ∧ lo = a ∧ hi = m)) (s1 : lo ≤ s) (s2 : s ≤ hi) (s3 : s = lo ∨ qS c A B a m mid (s - 1) = true) (s4 : s = hi ∨ qS c A B a m mid s = false) (he : e = mid + m - s) (hk : ∀ x ∈ A, ∀ y ∈ B, k x < k y) (sA' : Srt c k (A.take (s - a) ++ A.drop (s - a))) (sB' : Srt c k (B.take (e - m) ++ B.drop (e - m))) :
    (∀ x ∈ A.take (s - a), ∀ y ∈ B.drop (e - m), Rk c k x y) ∧ (∀ y ∈ B.take (e - m), ∀ x ∈ A.drop (s - a), Rk c k y x) := by
  have hh : lo ≤ hi ∧ a ≤ lo ∧ hi ≤ m ∧ hi ≤ mid := by omega
  have hem : e - m = mid - s := by omega
  have ltA : (A.take (s - a)).length = s - a := by rw [List.length_take]; omega
  have ldA : (A.drop (s - a)).length = m - s := by rw [List.length_drop]; omega
  have ltB : (B.take (e - m)).length = e - m := by rw [List.length_take]; omega
  have ldB : (B.drop (e - m)).length = b - e := by rw [List.length_drop]; omega
  unfold qS at s3 s4
  -- what the search has found
  have f1 : ∀ x ∈ A.take (s - a), ∀ y ∈ B.drop (e - m), Rk c k x y := by
    by_cases z1 : s = a
    · intro x hx
      rw [z1, Nat.sub_self] at hx
      cases hx
    by_cases z2 : e = b
    · intro x hx y hy
      rw [List.eq_nil_of_length_eq_zero (show (B.drop (e - m)).length = 0 by omega)] at hy
      cases hy
    have hq := s3.resolve_left (by omega)
    obtain ⟨x, hx⟩ := lt_get (show s - 1 - a < A.length by omega)
    obtain ⟨y, hy⟩ := lt_get (show e - m < B.length by omega)
    rw [show mid + m - 1 - (s - 1) - m = e - m by omega, getD_some hx, getD_some hy, Bool.not_eq_true', decide_eq_false_iff_not] at hq
    have e1 : A.take (s - a) = A.take (s - 1 - a) ++ [x] := by
      rw [show s - a = s - 1 - a + 1 by omega]
      exact take_succ_get hx
    have e2 : B.drop (e - m) = y :: B.drop (e - m + 1) := by rw [List.drop_eq_getElem_cons (by omega)]; congr 1; exact (List.getElem?_eq_some_iff.1 hy).2
    have q1 := (List.pairwise_append.1 sA').1
    have q2 := (List.pairwise_append.1 sB').2.1
    rw [e1] at q1 ⊢
    rw [e2] at q2 ⊢
    exact srt_blocks q1 q2 (rk_ge (hk x (List.mem_of_getElem? hx) y (List.mem_of_getElem? hy)) hq)
  have f2 : ∀ y ∈ B.take (e - m), ∀ x ∈ A.drop (s - a), Rk c k y x := by
    by_cases z1 : s = m
    · intro y hy x hx
      rw [List.eq_nil_of_length_eq_zero (show (A.drop (s - a)).length = 0 by omega)] at hx
      cases hx
    by_cases z2 : e = m
    · intro y hy
      rw [z2, Nat.sub_self] at hy
      cases hy
    have hq := s4.resolve_left (by omega)
    obtain ⟨x, hx⟩ := lt_get (show s - a < A.length by omega)
    obtain ⟨y, hy⟩ := lt_get (show e - 1 - m < B.length by omega)
    rw [show mid + m - 1 - s - m = e - 1 - m by omega, getD_some hx, getD_some hy, Bool.not_eq_false', decide_eq_true_eq] at hq
    have e1 : B.take (e - m) = B.take (e - 1 - m) ++ [y] := by
      rw [show e - m = e - 1 - m + 1 by omega]
      exact take_succ_get hy
    have e2 : A.drop (s - a) = x :: A.drop (s - a + 1) := by rw [List.drop_eq_getElem_cons (by omega)]; congr 1; exact (List.getElem?_eq_some_iff.1 hx).2
    have q1 := (List.pairwise_append.1 sB').1
    have q2 := (List.pairwise_append.1 sA').2.1
    rw [e1] at q1 ⊢
    rw [e2] at q2 ⊢
    exact srt_blocks q1 q2 ((rk_lt (hk x (List.mem_of_getElem? hx) y (List.mem_of_getElem? hy))).2 hq)
  exact ⟨f1, f2⟩
set_option maxHeartbeats 2000000 in
theorem c66 (hc : CmpOk cmp p r c E) {L : Nat} (hm : L < 4294967296) : ∀ (d : Nat) (X A B Y : List Int) (a m b : Nat), A.length + B.length ≤ d → 0 < A.length → 0 < B.length → a = X.length → m = a + A.length → b = m + B.length → (X ++ A ++ B ++ Y).length = L →
    (∀ x ∈ A, ∀ y ∈ B, k x < k y) → (∀ x ∈ A, E x) → (∀ y ∈ B, E y) → Srt c k A → Srt c k B →
    ∃ M, M.Perm (A ++ B) ∧ Srt c k M ∧ Γ0 66 [rf p L, .int .i64 (a : Int), .int .i64 (m : Int), .int .i64 (b : Int), cmp] (lg p r (X ++ A ++ B ++ Y) .rw) = some (undefP, lg p r (X ++ M ++ Y) .rw) := by
  intro d
  induction d with
  | zero => intro X A B Y a m b h1 h2; omega
  | succ d ih =>
    intro X A B Y a m b hd hA hB ha hmm hb hL hk EA EB sA sB
    have hLs : L = X.length + A.length + B.length + Y.length := by rw [← hL]; simp only [List.length_append]
    by_cases a1 : A.length = 1
    · obtain ⟨x, rfl⟩ : ∃ x, A = [x] := List.length_eq_one_iff.1 a1
      have := sym_left (X := X) (B := B) (Y := Y) (x := x) (a := a) (m := m) (b := b) (L := L) hc hB ha (by simpa using hmm) hb (by simpa using hL) hm (fun y hy => hk x (by simp) y hy) ⟨EA x (by simp), EB⟩ sB
      simpa using this
    by_cases b1 : B.length = 1
    · obtain ⟨y, rfl⟩ : ∃ y, B = [y] := List.length_eq_one_iff.1 b1
      have := sym_right (X := X) (A := A) (Y := Y) (y := y) (a := a) (m := m) (b := b) (L := L) hc (by omega) ha hmm (by simpa using hb) (by simpa using hL) hm (fun x hx => hk x hx y (by simp)) ⟨EB y (by simp), EA⟩ sA
      simpa using this
    have n1 : b < 4294967296 := by omega
    have n2 : a < m := by omega
    have n3 : m < b := by omega
    have n4 : m - a ≠ 1 := by omega
    have n5 : b - m ≠ 1 := by omega
    obtain ⟨N, hN⟩ : ∃ N, N = L + 1 := ⟨_, rfl⟩
    obtain ⟨mid, hmid⟩ : ∃ mid, mid = (a + b) / 2 := ⟨_, rfl⟩
    obtain ⟨lo, hi, hlh⟩ : ∃ lo hi, (m > mid ∧ lo = mid + m - b ∧ hi = mid) ∨ (m ≤ mid ∧ lo = a ∧ hi = m) := by
      by_cases h : m > mid
      · exact ⟨_, _, .inl ⟨h, rfl, rfl⟩⟩
      · exact ⟨_, _, .inr ⟨by omega, rfl, rfl⟩⟩
    have gA : ∀ (h : Nat) (x : Int), A[h]? = some x → (X ++ A ++ B ++ Y)[a + h]? = some x := fun h x hx => by
      have := get_off (X := X) (A := A) (Y := B ++ Y) (n := a + h) hx (by omega)
      simpa using this
    have gB : ∀ (h : Nat) (y : Int), B[h]? = some y → (X ++ A ++ B ++ Y)[m + h]? = some y := fun h y hy => get_off (X := X ++ A) hy (by simp; omega)
    have hh : lo ≤ hi ∧ a ≤ lo ∧ hi ≤ m ∧ hi ≤ mid := by omega
    -- the search
    obtain ⟨s, K, s1, s2, s3, s4, s5⟩ := sym_search (lo := lo) (hi := hi) hc hm hN hA hB ha hmm hb hL hmid hlh EA EB
    obtain ⟨e, he⟩ : ∃ e, e = mid + m - s := ⟨_, rfl⟩
    have hem : e - m = mid - s := by omega
    have ltA : (A.take (s - a)).length = s - a := by rw [List.length_take]; omega
    have ldA : (A.drop (s - a)).length = m - s := by rw [List.length_drop]; omega
    have ltB : (B.take (e - m)).length = e - m := by rw [List.length_take]; omega
    have ldB : (B.drop (e - m)).length = b - e := by rw [List.length_drop]; omega
    have tdA : A.take (s - a) ++ A.drop (s - a) = A := List.take_append_drop _ _
    have tdB : B.take (e - m) ++ B.drop (e - m) = B := List.take_append_drop _ _
    have sA' : Srt c k (A.take (s - a) ++ A.drop (s - a)) := by rw [tdA]; exact sA
    have sB' : Srt c k (B.take (e - m) ++ B.drop (e - m)) := by rw [tdB]; exact sB
    obtain ⟨f1, f2⟩ := sym_facts (X := X) (Y := Y) (s := s) (e := e) hA hB ha hmm hb hmid hlh s1 s2 s3 s4 he hk sA' sB'
    clear s3 s4
    -- the parts
    have k1 : ∀ x ∈ A.take (s - a), ∀ y ∈ B.take (e - m), k x < k y := fun x hx y hy => hk x (List.mem_of_mem_take hx) y (List.mem_of_mem_take hy)
    have k2 : ∀ x ∈ A.drop (s - a), ∀ y ∈ B.drop (e - m), k x < k y := fun x hx y hy => hk x (List.mem_of_mem_drop hx) y (List.mem_of_mem_drop hy)
    have r1 : ∃ M1, M1.Perm (A.take (s - a) ++ B.take (e - m)) ∧ Srt c k M1 ∧ ((a < s ∧ s < mid) → Γ0 66 [rf p L, .int .i64 (a : Int), .int .i64 (s : Int), .int .i64 (mid : Int), cmp] (lg p r (X ++ A.take (s - a) ++ B.take (e - m) ++ (A.drop (s - a) ++ B.drop (e - m) ++ Y)) .rw) = some (undefP, lg p r (X ++ M1 ++ (A.drop (s - a) ++ B.drop (e - m) ++ Y)) .rw)) ∧ (¬ (a < s ∧ s < mid) → M1 = A.take (s - a) ++ B.take (e - m)) := by
      by_cases hcase : a < s ∧ s < mid
      · obtain ⟨M1, q1, q2, q3⟩ := ih X (A.take (s - a)) (B.take (e - m)) (A.drop (s - a) ++ B.drop (e - m) ++ Y) a s mid (by omega) (by omega) (by omega) ha (by omega) (by omega) (by simp only [List.length_append, ltA, ltB, ldA, ldB]; omega) k1 (fun x hx => EA x (List.mem_of_mem_take hx)) (fun y hy => EB y (List.mem_of_mem_take hy)) (List.pairwise_append.1 sA').1 (List.pairwise_append.1 sB').1
        exact ⟨M1, q1, q2, fun _ => q3, fun hn => absurd hcase hn⟩
      · refine ⟨_, List.Perm.refl _, ?_, fun h => absurd h hcase, fun _ => rfl⟩
        by_cases z : s = a
        · rw [List.eq_nil_of_length_eq_zero (show (A.take (s - a)).length = 0 by omega), List.nil_append]
          exact (List.pairwise_append.1 sB').1
        · rw [List.eq_nil_of_length_eq_zero (show (B.take (e - m)).length = 0 by omega), List.append_nil]
          exact (List.pairwise_append.1 sA').1
    obtain ⟨M1, p1, t1, u1, w1⟩ := r1
    have lM1 : M1.length = mid - a := by rw [p1.length_eq, List.length_append, ltA, ltB]; omega
    have r2 : ∃ M2, M2.Perm (A.drop (s - a) ++ B.drop (e - m)) ∧ Srt c k M2 ∧ ((mid < e ∧ e < b) → Γ0 66 [rf p L, .int .i64 (mid : Int), .int .i64 (e : Int), .int .i64 (b : Int), cmp] (lg p r (X ++ M1 ++ A.drop (s - a) ++ B.drop (e - m) ++ Y) .rw) = some (undefP, lg p r (X ++ M1 ++ M2 ++ Y) .rw)) ∧ (¬ (mid < e ∧ e < b) → M2 = A.drop (s - a) ++ B.drop (e - m)) := by
      by_cases hcase : mid < e ∧ e < b
      · obtain ⟨M2, q1, q2, q3⟩ := ih (X ++ M1) (A.drop (s - a)) (B.drop (e - m)) Y mid e b (by omega) (by omega) (by omega) (by simp; omega) (by omega) (by omega) (by simp only [List.length_append, ldA, ldB]; omega) k2 (fun x hx => EA x (List.mem_of_mem_drop hx)) (fun y hy => EB y (List.mem_of_mem_drop hy)) (List.pairwise_append.1 sA').2.1 (List.pairwise_append.1 sB').2.1
        exact ⟨M2, q1, q2, fun _ => q3, fun hn => absurd hcase hn⟩
      · refine ⟨_, List.Perm.refl _, ?_, fun h => absurd h hcase, fun _ => rfl⟩
        by_cases z : s = m
        · rw [List.eq_nil_of_length_eq_zero (show (A.drop (s - a)).length = 0 by omega), List.nil_append]
          exact (List.pairwise_append.1 sB').2.1
        · rw [List.eq_nil_of_length_eq_zero (show (B.drop (e - m)).length = 0 by omega), List.append_nil]
          exact (List.pairwise_append.1 sA').2.1
    obtain ⟨M2, p2, t2, u2, w2⟩ := r2
    obtain ⟨j1, j2⟩ := srt_join sA' sB' f1 f2 p1 t1 p2 t2
    rw [tdA, tdB] at j2
    refine ⟨M1 ++ M2, j2, j1, ?_⟩
    -- the run
    have hrot : (s < m ∧ m < e) → Γ0 78 [rf p L, .int .i64 (s : Int), .int .i64 (m : Int), .int .i64 (e : Int), cmp] (lg p r (X ++ A ++ B ++ Y) .rw) = some (undefP, lg p r (X ++ A.take (s - a) ++ B.take (e - m) ++ (A.drop (s - a) ++ B.drop (e - m) ++ Y)) .rw) := fun hcase => by
      have q := c78 (p := p) (r := r) (X := X ++ A.take (s - a)) (A := A.drop (s - a)) (B := B.take (e - m)) (Y := B.drop (e - m) ++ Y) (cmp := cmp) (L := L) (a := s) (m := m) (b := e) (by simp only [List.length_append, ltA]; omega) (by simp only [List.length_append, ltA, ldA]; omega) (by simp only [List.length_append, ltA, ldA, ltB]; omega) (by omega) (by omega) (by simp only [List.length_append, ltA, ldA, ltB, ldB]; omega) hm
      have x1 : X ++ A.take (s - a) ++ A.drop (s - a) ++ B.take (e - m) ++ (B.drop (e - m) ++ Y) = X ++ A ++ B ++ Y := by
        rw [List.append_assoc X (A.take _), tdA, List.append_assoc _ (B.take _), ← List.append_assoc (B.take _), tdB]
        simp only [List.append_assoc]
      rw [x1] at q
      rw [q]
      simp only [List.append_assoc]
    have hno : ¬ (s < m ∧ m < e) → X ++ A ++ B ++ Y = X ++ A.take (s - a) ++ B.take (e - m) ++ (A.drop (s - a) ++ B.drop (e - m) ++ Y) := fun hcase => by
      have x0 : X ++ A ++ B ++ Y = X ++ (A.take (s - a) ++ A.drop (s - a)) ++ (B.take (e - m) ++ B.drop (e - m)) ++ Y := by rw [tdA, tdB]
      rw [x0]
      by_cases z : s = m
      · rw [List.eq_nil_of_length_eq_zero (show (A.drop (s - a)).length = 0 by omega)]
        simp only [List.append_assoc, List.append_nil, List.nil_append]
      · rw [List.eq_nil_of_length_eq_zero (show (B.take (e - m)).length = 0 by omega)]
        simp only [List.append_assoc, List.append_nil, List.nil_append]
    have hend1 : X ++ M1 ++ (A.drop (s - a) ++ B.drop (e - m) ++ Y) = X ++ M1 ++ A.drop (s - a) ++ B.drop (e - m) ++ Y := by simp only [List.append_assoc]
    have v1 : ¬ (a < s ∧ s < mid) → X ++ A.take (s - a) ++ B.take (e - m) ++ (A.drop (s - a) ++ B.drop (e - m) ++ Y) = X ++ M1 ++ (A.drop (s - a) ++ B.drop (e - m) ++ Y) := fun h => by rw [w1 h]; simp only [List.append_assoc]
    have v2 : (mid < e ∧ e < b) → Γ0 66 [rf p L, .int .i64 (mid : Int), .int .i64 (e : Int), .int .i64 (b : Int), cmp] (lg p r (X ++ M1 ++ (A.drop (s - a) ++ B.drop (e - m) ++ Y)) .rw) = some (undefP, lg p r (X ++ (M1 ++ M2) ++ Y) .rw) := fun h => by rw [hend1, u2 h]; simp only [List.append_assoc]
    have v3 : ¬ (mid < e ∧ e < b) → X ++ M1 ++ (A.drop (s - a) ++ B.drop (e - m) ++ Y) = X ++ (M1 ++ M2) ++ Y := fun h => by rw [w2 h]; simp only [List.append_assoc]
    exact @sym_run p r cmp L N a m b mid lo hi s e _ _ _ _ K n1 n2 n3 n4 n5 hmid hlh s1 s2 he s5 hrot hno u1 v1 v2 v3
end
end Go.Vm.X


set_option linter.unusedSimpArgs false
set_option linter.unusedVariables false
namespace Go.Vm.X
open Go.Am Go.Vm
attribute [local congr] bind_c ifP_c loop_c K1_c ite_c fork_c guard_c unl_c
def upI (c : Int → Int) (T : List Int) (y : Int) : List Int := T.filter fun x => !decide (c x < c y)
def dnI (c : Int → Int) (T : List Int) (y : Int) : List Int := T.filter fun x => decide (c x < c y)
def ins1 (c : Int → Int) (T : List Int) (y : Int) : List Int := upI c T y ++ y :: dnI c T y
def insA (c : Int → Int) (S : List Int) : List Int := S.foldl (ins1 c) []
theorem insA_snoc (c : Int → Int) (S : List Int) (y : Int) : insA c (S ++ [y]) = ins1 c (insA c S) y := by unfold insA; rw [List.foldl_append]; rfl
theorem ud_perm (c : Int → Int) (T : List Int) (y : Int) : (upI c T y ++ dnI c T y).Perm T := by
  induction T with
  | nil => exact List.Perm.refl _
  | cons x T ih =>
    unfold upI dnI at ih ⊢
    rw [List.filter_cons, List.filter_cons]
    by_cases h : c x < c y
    · simp only [h, decide_true, Bool.not_true, Bool.false_eq_true, if_false, if_true]
      exact List.perm_middle.trans (ih.cons x)
    · simp only [h, decide_false, Bool.not_false, Bool.false_eq_true, if_false, if_true, List.cons_append]
      exact ih.cons x
theorem ins1_perm (c : Int → Int) (T : List Int) (y : Int) : (ins1 c T y).Perm (y :: T) := List.perm_middle.trans ((ud_perm c T y).cons y)
theorem insA_perm (c : Int → Int) : ∀ S : List Int, (insA c S).Perm S := by
  intro S
  rw [← List.reverse_reverse S]
  induction S.reverse with
  | nil => exact List.Perm.refl _
  | cons y t ih =>
    rw [List.reverse_cons, insA_snoc]
    refine (ins1_perm c _ y).trans ((ih.cons y).trans ?_)
    exact (List.perm_append_comm (l₁ := [y]) (l₂ := t.reverse))
section
variable {c k : Int → Int}
theorem ud_split {T : List Int} (y : Int) (h : Srt c k T) : upI c T y ++ dnI c T y = T := by
  induction T with
  | nil => rfl
  | cons x T ih =>
    have h2 := List.pairwise_cons.1 h
    have ih := ih h2.2
    unfold upI dnI at ih ⊢
    rw [List.filter_cons, List.filter_cons]
    by_cases hx : c x < c y
    · have hall : ∀ z ∈ T, c z < c y := fun z hz => by
        have := h2.1 z hz
        unfold Rk at this
        omega
      have e1 : T.filter (fun x => !decide (c x < c y)) = [] := by
        rw [List.filter_eq_nil_iff]
        intro z hz
        simp [hall z hz]
      have e2 : T.filter (fun x => decide (c x < c y)) = T := by
        rw [List.filter_eq_self]
        intro z hz
        simp [hall z hz]
      simp only [hx, decide_true, Bool.not_true, Bool.false_eq_true, if_false, if_true, e1, e2, List.nil_append]
    · simp only [hx, decide_false, Bool.not_false, Bool.false_eq_true, if_false, if_true, List.cons_append, ih]
theorem insA_srt : ∀ {S : List Int}, S.Pairwise (fun x y => k x < k y) → Srt c k (insA c S) := by
  intro S
  rw [← List.reverse_reverse S]
  induction S.reverse with
  | nil => intro _; exact List.Pairwise.nil
  | cons y t ih =>
    intro h
    rw [List.reverse_cons] at h ⊢
    rw [insA_snoc]
    have h3 := List.pairwise_append.1 h
    have st := ih h3.1
    have hk : ∀ x ∈ insA c t.reverse, k x < k y := fun x hx => h3.2.2 x ((insA_perm c _).mem_iff.1 hx) y (by simp)
    refine srt_insert (by rw [ud_split y st]; exact st) (fun x hx => ?_) (fun x hx => ?_)
    · unfold upI at hx
      rw [List.mem_filter] at hx
      exact rk_ge (hk x hx.1) (by simpa using hx.2)
    · unfold dnI at hx
      rw [List.mem_filter] at hx
      exact (rk_lt (hk x hx.1)).2 (by simpa using hx.2)
variable {E : Int → Prop} {p r : PHeap} {cmp : PV}
theorem ins_loop (hc : CmpOk cmp p r c E) {L a n f : Nat} {X T W : List Int} {y : Int} {l0 : List Int} {j15 : List PV → PHeap → Pt} {R : Pt} (ha : a = X.length) (hL : (X ++ T ++ y :: W).length = L) (hm : L < 4294967296) (hf : T.length < f) (st : Srt c k T) (hE : E y ∧ ∀ x ∈ T, E x)
    (hr : j15 [] (lg p r (X ++ ins1 c T y ++ W) .rw) = R) :
    loopP (s65_L0 Γ0 n (rf p L) (.int .i64 (a : Int)) cmp (lg p r l0 .rw) j15) f [.int .i64 ((a + T.length : Nat) : Int)] (lg p r (X ++ T ++ y :: W) .rw) = R := by
  have hLs : L = X.length + T.length + 1 + W.length := by rw [← hL]; simp; omega
  have hsp := ud_split y st
  obtain ⟨U, hU⟩ : ∃ U, U = upI c T y := ⟨_, rfl⟩
  obtain ⟨V, hV⟩ : ∃ V, V = dnI c T y := ⟨_, rfl⟩
  have hr' : j15 [] (lg p r (X ++ (U ++ y :: V) ++ W) .rw) = R := by rw [hU, hV]; exact hr
  rw [← hU, ← hV] at hsp
  have hTl : T.length = U.length + V.length := by rw [← hsp, List.length_append]
  have mU : ∀ x ∈ U, E x ∧ ¬ c x < c y := fun x hx => by
    rw [hU] at hx
    unfold upI at hx
    rw [List.mem_filter] at hx
    exact ⟨hE.2 x hx.1, by simpa using hx.2⟩
  have mV : ∀ x ∈ V, E x ∧ c x < c y := fun x hx => by
    rw [hV] at hx
    unfold dnI at hx
    rw [List.mem_filter] at hx
    exact ⟨hE.2 x hx.1, by simpa using hx.2⟩
  refine loop_run (fun t => [.int .i64 ((a + U.length + (V.length - t) : Nat) : Int)]) (fun t => lg p r (X ++ U ++ V.take (V.length - t) ++ y :: (V.drop (V.length - t) ++ W)) .rw) V.length (by omega) (by rw [hTl, Nat.sub_zero, Nat.add_assoc]) (by rw [Nat.sub_zero, List.take_length, List.drop_length, List.nil_append, List.append_assoc X, hsp]) (fun t ht K => ?_) fun K => ?_
  · obtain ⟨d, hd⟩ : ∃ d, V.length - t = d + 1 := ⟨V.length - t - 1, by omega⟩
    have hd2 : V.length - (t + 1) = d := by omega
    obtain ⟨x, hx⟩ := lt_get (show d < V.length by omega)
    obtain ⟨Ex, hlt⟩ := mV x (List.mem_of_getElem? hx)
    have dV : V.drop d = x :: V.drop (d + 1) := by rw [List.drop_eq_getElem_cons (by omega)]; congr 1; exact (List.getElem?_eq_some_iff.1 hx).2
    have tV : V.take (d + 1) = V.take d ++ [x] := take_succ_get hx
    simp only [hd, hd2]
    have e0 : X ++ U ++ V.take (d + 1) ++ y :: (V.drop (d + 1) ++ W) = (X ++ U ++ V.take d) ++ x :: (y :: (V.drop (d + 1) ++ W)) := by rw [tV]; simp
    have e1 : X ++ U ++ V.take d ++ y :: (V.drop d ++ W) = (X ++ U ++ V.take d) ++ y :: (x :: (V.drop (d + 1) ++ W)) := by rw [dV]; simp
    have e2 : (X ++ U ++ V.take d) ++ x :: (x :: (V.drop (d + 1) ++ W)) = (X ++ U ++ V.take (d + 1)) ++ x :: (V.drop (d + 1) ++ W) := by rw [tV]; simp
    have la : a + U.length + d = (X ++ U ++ V.take d).length := by simp; omega
    have lb : a + U.length + (d + 1) = (X ++ U ++ V.take (d + 1)).length := by simp; omega
    have len0 : L = (X ++ U ++ V.take (d + 1) ++ y :: (V.drop (d + 1) ++ W)).length := by simp; omega
    have len1 : L = (X ++ U ++ V.take (d + 1) ++ x :: (V.drop (d + 1) ++ W)).length := by simp; omega
    have g1 : loadP false 1 (.lptr p.length (a + U.length + d) 0 L 1) (lg p r (X ++ U ++ V.take (d + 1) ++ y :: (V.drop (d + 1) ++ W)) .rw) = some (.int .i64 x) := lg_load len0 (by rw [e0]; exact get_mid la)
    have g2 : loadP false 1 (.lptr p.length (a + U.length + (d + 1)) 0 L 1) (lg p r (X ++ U ++ V.take (d + 1) ++ y :: (V.drop (d + 1) ++ W)) .rw) = some (.int .i64 y) := lg_load len0 (get_mid lb)
    have g3 : storeP 1 (.lptr p.length (a + U.length + (d + 1)) 0 L 1) (.int .i64 x) (lg p r (X ++ U ++ V.take (d + 1) ++ y :: (V.drop (d + 1) ++ W)) .rw) = some (lg p r (X ++ U ++ V.take (d + 1) ++ x :: (V.drop (d + 1) ++ W)) .rw) := by
      rw [lg_store len0 (by omega), set_mid lb]
    have g4 : storeP 1 (.lptr p.length (a + U.length + d) 0 L 1) (.int .i64 y) (lg p r (X ++ U ++ V.take (d + 1) ++ x :: (V.drop (d + 1) ++ W)) .rw) = some (lg p r (X ++ U ++ V.take d ++ y :: (V.drop d ++ W)) .rw) := by
      rw [lg_store len1 (by omega), ← e2, set_mid la, e1]
    have hcm := hc (X ++ U ++ V.take (d + 1) ++ y :: (V.drop (d + 1) ++ W)) y x hE.1 Ex
    have gt1 : ((a + U.length + (d + 1) : Nat) : Int) > (a : Int) := by omega
    have ws := wsub1 (show 1 ≤ a + U.length + (d + 1) by omega) (show a + U.length + (d + 1) < 9223372036854775808 by omega)
    rw [show a + U.length + (d + 1) - 1 = a + U.length + d by omega] at ws
    have i1 := rf_ix (p := p) (show a + U.length + d < L by omega)
    have i2 := rf_ix (p := p) (show a + U.length + (d + 1) < L by omega)
    unfold s65_L0
    simp only [words, ↓KLn, Nat.reduceAdd, ↓K1n, sc_and, gt1, decide_true, if_true, i1, i2, ws, g1, g2, hcm, dec_sub, hlt, g3, g4, trim_lg]
  · simp only [Nat.sub_self, Nat.add_zero, List.take_zero, List.drop_zero, List.append_nil]
    have hlast : j15 [] (lg p r (X ++ U ++ y :: (V ++ W)) .rw) = R := by
      rw [← hr']
      simp
    unfold s65_L0
    by_cases u0 : U.length = 0
    · have gt1 : ¬ ((a + U.length : Nat) : Int) > (a : Int) := by omega
      simp only [words, ↓KLn, Nat.reduceAdd, ↓K1n, sc_and, gt1, decide_false, Bool.false_eq_true, if_false, hlast]
    · obtain ⟨d, hd⟩ : ∃ d, U.length = d + 1 := ⟨U.length - 1, by omega⟩
      obtain ⟨x, hx⟩ := lt_get (show d < U.length by omega)
      obtain ⟨Ex, hge⟩ := mU x (List.mem_of_getElem? hx)
      have gt1 : ((a + U.length : Nat) : Int) > (a : Int) := by omega
      have len0 : L = (X ++ U ++ y :: (V ++ W)).length := by simp; omega
      have g1 : loadP false 1 (.lptr p.length (a + U.length - 1) 0 L 1) (lg p r (X ++ U ++ y :: (V ++ W)) .rw) = some (.int .i64 x) := lg_load len0 (get_off hx (by omega))
      have g2 : loadP false 1 (.lptr p.length (a + U.length) 0 L 1) (lg p r (X ++ U ++ y :: (V ++ W)) .rw) = some (.int .i64 y) := lg_load len0 (get_mid (by simp; omega))
      have hcm := hc (X ++ U ++ y :: (V ++ W)) y x hE.1 Ex
      have ws := wsub1 (show 1 ≤ a + U.length by omega) (show a + U.length < 9223372036854775808 by omega)
      have i1 := rf_ix (p := p) (show a + U.length - 1 < L by omega)
      have i2 := rf_ix (p := p) (show a + U.length < L by omega)
      simp only [words, ↓KLn, Nat.reduceAdd, ↓K1n, sc_and, gt1, decide_true, if_true, i1, i2, ws, g1, g2, hcm, dec_sub, hge, decide_false, Bool.false_eq_true, if_false, hlast]
theorem c65 (hc : CmpOk cmp p r c E) {L a b : Nat} {X S Y : List Int} (ha : a = X.length) (hb : b = a + S.length) (hL : (X ++ S ++ Y).length = L) (hm : L < 4294967296) (hk : S.Pairwise (fun x y => k x < k y)) (hE : ∀ x ∈ S, E x) :
    Γ0 65 [rf p L, .int .i64 (a : Int), .int .i64 (b : Int), cmp] (lg p r (X ++ S ++ Y) .rw) = some (undefP, lg p r (X ++ insA c S ++ Y) .rw) := by
  have hLs : L = X.length + S.length + Y.length := by rw [← hL]; simp only [List.length_append]
  refine gbody (F := A65) (by kernel_rfl) (L + 1) ?_
  rw [s65_eq]; unfold s65
  have w0 := succ63 (show a < 9223372036854775807 by omega)
  simp only [words, ↓KLn, Nat.reduceAdd, w0]
  by_cases s0 : S.length = 0
  · obtain rfl := List.eq_nil_of_length_eq_zero s0
    rw [loopS]
    have lt0 : ¬ ((a + 1 : Nat) : Int) < (b : Int) := by simp at hb; omega
    unfold s65_L1
    simp only [words, ↓KLn, Nat.reduceAdd, lt0, decide_false, Bool.false_eq_true, if_false, fin_unit, trim_lg]
    rfl
  refine loop_run (fun t => [.int .i64 ((a + 1 + t : Nat) : Int)]) (fun t => lg p r (X ++ insA c (S.take (t + 1)) ++ S.drop (t + 1) ++ Y) .rw) (S.length - 1) (by omega) rfl ?_ (fun t ht K => ?_) fun K => ?_
  · obtain ⟨y, hy⟩ := lt_get (show 0 < S.length by omega)
    have h1 : S.take (0 + 1) = [y] := by rw [take_succ_get hy]; rfl
    have h2 : insA c (S.take (0 + 1)) = S.take (0 + 1) := by rw [h1]; rfl
    rw [h2, List.append_assoc X, List.take_append_drop]
  · obtain ⟨y, hy⟩ := lt_get (show t + 1 < S.length by omega)
    have dS : S.drop (t + 1) = y :: S.drop (t + 1 + 1) := by rw [List.drop_eq_getElem_cons (by omega)]; congr 1; exact (List.getElem?_eq_some_iff.1 hy).2
    have tS : S.take (t + 1 + 1) = S.take (t + 1) ++ [y] := take_succ_get hy
    have hlen : (insA c (S.take (t + 1))).length = t + 1 := by rw [(insA_perm c _).length_eq, List.length_take]; omega
    have st : Srt c k (insA c (S.take (t + 1))) := insA_srt (hk.sublist (List.take_sublist _ _))
    have lt1 : ((a + 1 + t : Nat) : Int) < (b : Int) := by omega
    have e0 : X ++ insA c (S.take (t + 1)) ++ S.drop (t + 1) ++ Y = X ++ insA c (S.take (t + 1)) ++ y :: (S.drop (t + 1 + 1) ++ Y) := by rw [dS]; simp
    have w1 := succ63 (show a + 1 + t < 9223372036854775807 by omega)
    unfold s65_L1
    simp only [words, ↓KLn, Nat.reduceAdd, lt1, decide_true, if_true]
    rw [e0, tS, insA_snoc]
    have ea : a + 1 + t = a + (insA c (S.take (t + 1))).length := by rw [hlen]; omega
    rw [ea]
    refine ins_loop hc ha (by rw [← e0]; simp only [List.length_append, hlen, List.length_drop]; omega) hm (by omega) st ⟨hE y (List.mem_of_getElem? hy), fun x hx => hE x (List.mem_of_mem_take ((insA_perm c _).mem_iff.1 hx))⟩ ?_
    rw [← ea]
    simp only [words, ↓KLn, Nat.reduceAdd, w1, trim_lg]
    simp only [List.append_assoc]
    rfl
  · have lt1 : ¬ ((a + 1 + (S.length - 1) : Nat) : Int) < (b : Int) := by omega
    unfold s65_L1
    simp only [words, ↓KLn, Nat.reduceAdd, lt1, decide_false, Bool.false_eq_true, if_false, fin_unit, trim_lg]
    rw [show S.length - 1 + 1 = S.length by omega, List.take_length, List.drop_length, List.append_nil]
end
end Go.Vm.X


set_option linter.unusedSimpArgs false
set_option linter.unusedVariables false
namespace Go.Vm.X
open Go.Am Go.Vm
attribute [local congr] bind_c ifP_c loop_c K1_c ite_c fork_c guard_c unl_c
theorem loop_ex {B : (List PV → PHeap → Pt) → List PV → PHeap → Pt} {Inv : Nat → List PV → PHeap → Prop} : ∀ (len i f : Nat) (v : List PV) (h : PHeap), Inv i v h → (∀ j, i ≤ j → j < i + len → ∀ v h, Inv j v h → ∀ K, ∃ v' h', Inv (j + 1) v' h' ∧ B K v h = K v' h') → len < f →
    ∃ v' h' K, Inv (i + len) v' h' ∧ loopP B f v h = B K v' h'
  | 0, i, f, v, h, h0, _, hf => by
    obtain ⟨f, rfl⟩ : ∃ g, f = g + 1 := ⟨f - 1, by omega⟩
    exact ⟨v, h, _, h0, rfl⟩
  | len + 1, i, f, v, h, h0, hs, hf => by
    obtain ⟨f, rfl⟩ : ∃ g, f = g + 1 := ⟨f - 1, by omega⟩
    obtain ⟨v1, h1, i1, e1⟩ := hs i (Nat.le_refl _) (by omega) v h h0 (loopP B f)
    obtain ⟨v2, h2, K, i2, e2⟩ := loop_ex len (i + 1) f v1 h1 i1 (fun j a b => hs j (by omega) (by omega)) (by omega)
    refine ⟨v2, h2, K, by rw [show i + (len + 1) = i + 1 + len by omega]; exact i2, ?_⟩
    rw [loopS, e1, e2]
section
variable {c k : Int → Int}
def Good (c k : Int → Int) (s : Nat) (l O : List Int) : Prop := l.length = O.length ∧ ∀ j, ((l.drop (j * s)).take s).Perm ((O.drop (j * s)).take s) ∧ Srt c k ((l.drop (j * s)).take s)
theorem good_nil (s : Nat) : Good c k s [] [] := ⟨rfl, fun j => by simp [Srt]⟩
theorem good_snoc {s t : Nat} {D O1 M o : List Int} (hs : 0 < s) (g : Good c k s D O1) (hD : D.length = t * s) (hM : M.length ≤ s) (hp : M.Perm o) (st : Srt c k M) : Good c k s (D ++ M) (O1 ++ o) := by
  have hO : O1.length = t * s := by rw [← g.1, hD]
  have hl := hp.length_eq
  refine ⟨by rw [List.length_append, List.length_append, g.1, hl], fun j => ?_⟩
  rcases Nat.lt_trichotomy j t with h | h | h
  · have h1 : j * s + s ≤ t * s := by
      have := Nat.mul_le_mul_right s (show j + 1 ≤ t from h)
      rw [Nat.add_mul, Nat.one_mul] at this
      exact this
    have e1 : ((D ++ M).drop (j * s)).take s = (D.drop (j * s)).take s := by
      rw [List.drop_append_of_le_length (by omega), List.take_append_of_le_length (by rw [List.length_drop]; omega)]
    have e2 : ((O1 ++ o).drop (j * s)).take s = (O1.drop (j * s)).take s := by
      rw [List.drop_append_of_le_length (by omega), List.take_append_of_le_length (by rw [List.length_drop]; omega)]
    rw [e1, e2]
    exact g.2 j
  · subst h
    have e1 : ((D ++ M).drop (j * s)).take s = M := by
      rw [← hD, List.drop_left, List.take_of_length_le hM]
    have e2 : ((O1 ++ o).drop (j * s)).take s = o := by
      rw [← hO, List.drop_left, List.take_of_length_le (by omega)]
    rw [e1, e2]
    exact ⟨hp, st⟩
  · have h1 : t * s + s ≤ j * s := by
      have := Nat.mul_le_mul_right s (show t + 1 ≤ j from h)
      rw [Nat.add_mul, Nat.one_mul] at this
      exact this
    have e1 : (D ++ M).drop (j * s) = [] := List.drop_eq_nil_of_le (by rw [List.length_append]; omega)
    have e2 : (O1 ++ o).drop (j * s) = [] := List.drop_eq_nil_of_le (by rw [List.length_append]; omega)
    rw [e1, e2]
    simp [Srt]
theorem good_all {s : Nat} {l O : List Int} (g : Good c k s l O) (h : l.length ≤ s) : l.Perm O ∧ Srt c k l := by
  have := g.2 0
  rw [Nat.zero_mul, List.drop_zero, List.drop_zero, List.take_of_length_le h, List.take_of_length_le (by rw [← g.1]; exact h)] at this
  exact this
theorem seg_lt {O : List Int} (hO : O.Pairwise (fun x y => k x < k y)) {a m n : Nat} {x y : Int} (hx : x ∈ (O.drop a).take (m - a)) (hy : y ∈ (O.drop m).take n) : k x < k y := by
  obtain ⟨i, h1, h2⟩ := take_mem hx
  obtain ⟨j, h3, h4⟩ := take_mem hy
  rw [List.getElem?_drop] at h2 h4
  have := List.pairwise_iff_getElem.1 hO (a + i) (m + j) (List.getElem?_eq_some_iff.1 h2).1 (List.getElem?_eq_some_iff.1 h4).1 (by omega)
  rwa [(List.getElem?_eq_some_iff.1 h2).2, (List.getElem?_eq_some_iff.1 h4).2] at this
variable {E : Int → Prop} {p r : PHeap} {cmp : PV}
theorem take_two {α : Type} (l : List α) (a b : Nat) : l.take (a + b) = l.take a ++ (l.drop a).take b := List.take_add
theorem merge_two (hc : CmpOk cmp p r c E) {L s a e : Nat} {l O D : List Int} (hm : L < 4294967296) (hs : 0 < s) (hO : O.Pairwise (fun x y => k x < k y)) (hE : ∀ x ∈ O, E x) (hl : l.length = L) (hOL : O.length = L) (g : Good c k s l O) {t : Nat} (ha : a = t * s) (hD : D.length = a) (he1 : a + s < e) (he2 : e ≤ L) (he3 : e ≤ a + 2 * s) (hfull : e = a + 2 * s ∨ e = L) :
    ∃ M, M.Perm ((O.drop a).take (e - a)) ∧ Srt c k M ∧ Γ0 66 [rf p L, .int .i64 (a : Int), .int .i64 ((a + s : Nat) : Int), .int .i64 (e : Int), cmp] (lg p r (D ++ l.drop a) .rw) = some (undefP, lg p r (D ++ M ++ l.drop e) .rw) := by
  have gA := g.2 t
  have gB := g.2 (t + 1)
  rw [Nat.add_mul, Nat.one_mul, ← ha] at gB
  rw [← ha] at gA
  -- what lies behind the first block up to e: the whole second block
  have hBe : ∀ q : List Int, q.length = L → (e = a + 2 * s ∨ e = L) → (q.drop (a + s)).take s = (q.drop (a + s)).take (e - (a + s)) := fun q hq h => by
    rcases h with h | h
    · congr 1; omega
    · rw [List.take_of_length_le (by rw [List.length_drop]; omega), List.take_of_length_le (by rw [List.length_drop]; omega)]
  rw [hBe l hl hfull, hBe O hOL hfull] at gB
  have lA : ((l.drop a).take s).length = s := by rw [List.length_take, List.length_drop]; omega
  have lB : ((l.drop (a + s)).take (e - (a + s))).length = e - (a + s) := by rw [List.length_take, List.length_drop]; omega
  have split : ∀ q : List Int, (q.drop a).take (e - a) = (q.drop a).take s ++ (q.drop (a + s)).take (e - (a + s)) := fun q => by
    rw [show e - a = s + (e - (a + s)) by omega, take_two, List.drop_drop]
  have spl2 : l.drop a = (l.drop a).take s ++ (l.drop (a + s)).take (e - (a + s)) ++ l.drop e := by
    rw [← split l]
    have := (List.take_append_drop (e - a) (l.drop a)).symm
    rw [List.drop_drop, show a + (e - a) = e by omega] at this
    exact this
  obtain ⟨M, q1, q2, q3⟩ := c66 (k := k) hc hm (s + (e - (a + s))) D ((l.drop a).take s) ((l.drop (a + s)).take (e - (a + s))) (l.drop e) a (a + s) e (by rw [lA, lB]; exact Nat.le_refl _) (by omega) (by omega) hD.symm (by rw [lA]) (by rw [lB]; omega) (by simp only [List.length_append, lA, lB, hD, List.length_drop]; omega)
    (fun x hx y hy => by
      have hx' := gA.1.mem_iff.1 hx
      rw [show s = a + s - a by omega] at hx'
      exact seg_lt hO hx' (gB.1.mem_iff.1 hy))
    (fun x hx => hE x (List.mem_of_mem_drop (List.mem_of_mem_take (gA.1.mem_iff.1 hx)))) (fun y hy => hE y (List.mem_of_mem_drop (List.mem_of_mem_take (gB.1.mem_iff.1 hy)))) gA.2 gB.2
  refine ⟨M, q1.trans ?_, q2, ?_⟩
  · rw [split O]
    exact gA.1.append gB.1
  · rw [← q3]
    congr 2
    simp only [List.append_assoc]
    rw [← List.append_assoc ((l.drop a).take s), ← spl2]
theorem round_ok (hc : CmpOk cmp p r c E) {L s N : Nat} {l O l0 : List Int} {jK : List PV → PHeap → Pt} (hm : L < 4294967296) (hs : 0 < s) (hs2 : s < L) (hO : O.Pairwise (fun x y => k x < k y)) (hE : ∀ x ∈ O, E x) (hl : l.length = L) (hOL : O.length = L) (g : Good c k s l O) (hN : L < N)
    {j18 : List PV → PHeap → Pt} (hj : ∀ (a : Nat) (h : PHeap), a ≤ L → j18 [.int .i64 (a : Int)] h = if a + s < L then ((Γ0 66 [rf p L, .int .i64 (a : Int), .int .i64 ((a + s : Nat) : Int), .int .i64 (L : Int), cmp] h).bind fun q => jK [] q.2) else jK [] h) :
    ∃ l', l'.length = L ∧ Good c k (2 * s) l' O ∧ loopP (s61_L0 Γ0 N (rf p L) (.int .i64 (L : Int)) cmp [.int .i64 (s : Int)] (lg p r l0 .rw) j18) N [.int .i64 0, .int .i64 ((2 * s : Nat) : Int)] (lg p r l .rw) = jK [] (lg p r l' .rw) := by
  obtain ⟨cnt, hcnt⟩ : ∃ cnt, cnt = L / (2 * s) := ⟨_, rfl⟩
  have hc1 : cnt * (2 * s) ≤ L := by rw [hcnt]; exact Nat.div_mul_le_self _ _
  have hc2 : L < (cnt + 1) * (2 * s) := by
    rw [hcnt, Nat.add_mul, Nat.one_mul]
    have := Nat.lt_div_mul_add (a := L) (b := 2 * s) (by omega)
    omega
  have hcl : cnt ≤ L := Nat.le_trans (Nat.le_mul_of_pos_right cnt (by omega)) hc1
  obtain ⟨v, h, K, ⟨D, hD, gD, hv, hh⟩, e⟩ := loop_ex (B := s61_L0 Γ0 N (rf p L) (.int .i64 (L : Int)) cmp [.int .i64 (s : Int)] (lg p r l0 .rw) j18)
    (Inv := fun i v h => ∃ D, D.length = i * (2 * s) ∧ Good c k (2 * s) D (O.take (i * (2 * s))) ∧ v = [.int .i64 ((i * (2 * s) : Nat) : Int), .int .i64 (((i + 1) * (2 * s) : Nat) : Int)] ∧ h = lg p r (D ++ l.drop (i * (2 * s))) .rw)
    cnt 0 N [.int .i64 0, .int .i64 ((2 * s : Nat) : Int)] (lg p r l .rw) ⟨[], by simp, by simpa using good_nil _, by simp, by simp⟩
    (fun j _ hj2 v h ⟨D, hD, gD, hv, hh⟩ K => by
      subst hv hh
      have hb : (j + 1) * (2 * s) ≤ L := Nat.le_trans (Nat.mul_le_mul_right _ (show j + 1 ≤ cnt by omega)) hc1
      obtain ⟨a, ha⟩ : ∃ a, a = j * (2 * s) := ⟨_, rfl⟩
      have hj1 : (j + 1) * (2 * s) = a + 2 * s := by rw [ha, Nat.add_mul, Nat.one_mul]
      have hj3 : (j + 1 + 1) * (2 * s) = a + 2 * s + 2 * s := by rw [Nat.add_mul, Nat.one_mul, hj1]
      rw [hj1] at hb ⊢
      rw [hj3, ← ha]
      rw [← ha] at hD gD
      obtain ⟨M, q1, q2, q3⟩ := merge_two (k := k) (s := s) (a := a) (e := a + 2 * s) (D := D) (t := 2 * j) hc hm hs hO hE hl hOL g (by rw [ha, Nat.mul_comm 2 j, Nat.mul_assoc]) hD (by omega) hb (by omega) (.inl rfl)
      have hMl : M.length = 2 * s := by rw [q1.length_eq, List.length_take, List.length_drop]; omega
      refine ⟨_, _, ⟨D ++ M, by rw [List.length_append, hD, hMl], ?_, rfl, rfl⟩, ?_⟩
      · have := good_snoc (t := j) (show 0 < 2 * s by omega) gD (by rw [hD, ha]) (by omega) q1 q2
        rw [show a + 2 * s - a = 2 * s by omega, ← take_two] at this
        exact this
      · have c1 : ((a + 2 * s : Nat) : Int) ≤ (L : Int) := by omega
        have w1 := wadd (show a + s < 9223372036854775808 by omega)
        have w2 : IntKind.i64.wrap (2 * (s : Int)) = ((2 * s : Nat) : Int) := by rw [wrap64 (by unfold isI64; omega)]; omega
        have w3 := wadd (show a + 2 * s + 2 * s < 9223372036854775808 by omega)
        have wm : binP .mul (.int .i64 2) (.int .i64 (s : Int)) = some (.int .i64 ((2 * s : Nat) : Int)) := by rw [bin_mul, w2]
        unfold s61_L0
        simp only [words, ↓KLn, Nat.reduceAdd, nth_one, c1, decide_true, if_true, w1, q3, wm, w3, trim_lg])
    (by omega)
  rw [Nat.zero_add] at hD gD hv hh
  subst hv hh
  obtain ⟨a, ha⟩ : ∃ a, a = cnt * (2 * s) := ⟨_, rfl⟩
  have hj1 : (cnt + 1) * (2 * s) = a + 2 * s := by rw [ha, Nat.add_mul, Nat.one_mul]
  rw [hj1] at hc2 e
  rw [← ha] at hD gD e hc1
  have c1 : ¬ ((a + 2 * s : Nat) : Int) ≤ (L : Int) := by omega
  have ho : O.take a ++ O.drop a = O := List.take_append_drop _ _
  have hja := fun h => hj a h hc1
  by_cases hlast : a + s < L
  · obtain ⟨M, q1, q2, q3⟩ := merge_two (k := k) (s := s) (a := a) (e := L) (D := D) (t := 2 * cnt) hc hm hs hO hE hl hOL g (by rw [ha, Nat.mul_comm 2 cnt, Nat.mul_assoc]) hD hlast (Nat.le_refl _) (by omega) (.inr rfl)
    have hMl : M.length = L - a := by rw [q1.length_eq, List.length_take, List.length_drop]; omega
    have hz : l.drop L = [] := List.drop_eq_nil_of_le (by omega)
    rw [hz, List.append_nil] at q3
    have hoe : (O.drop a).take (L - a) = O.drop a := List.take_of_length_le (by rw [List.length_drop]; omega)
    rw [hoe] at q1
    refine ⟨D ++ M, by rw [List.length_append]; omega, ?_, ?_⟩
    · have := good_snoc (t := cnt) (show 0 < 2 * s by omega) gD (by rw [hD, ha]) (by omega) q1 q2
      rwa [ho] at this
    · rw [e]
      unfold s61_L0
      simp only [words, ↓KLn, Nat.reduceAdd, nth_one, c1, decide_false, Bool.false_eq_true, if_false, hja, if_pos hlast, q3]
  · have hg := g.2 (2 * cnt)
    rw [show 2 * cnt * s = a by rw [ha, Nat.mul_comm 2 cnt, Nat.mul_assoc], List.take_of_length_le (by rw [List.length_drop]; omega), List.take_of_length_le (by rw [List.length_drop]; omega)] at hg
    refine ⟨D ++ l.drop a, by rw [List.length_append, List.length_drop]; omega, ?_, ?_⟩
    · have := good_snoc (t := cnt) (show 0 < 2 * s by omega) gD (by rw [hD, ha]) (by rw [List.length_drop]; omega) hg.1 hg.2
      rwa [ho] at this
    · rw [e]
      unfold s61_L0
      simp only [words, ↓KLn, Nat.reduceAdd, nth_one, c1, decide_false, Bool.false_eq_true, if_false, hja, if_neg hlast]
theorem c61 (hc : CmpOk cmp p r c E) {O : List Int} (hO : O.Pairwise (fun x y => k x < k y)) (hE : ∀ x ∈ O, E x) (hOL : O.length = 256) :
    ∃ l', l'.Perm O ∧ Srt c k l' ∧ Γ0 61 [rf p 256, .int .i64 256, cmp] (lg p r O .rw) = some (undefP, lg p r l' .rw) := by
  obtain ⟨N, hN⟩ : ∃ N : Nat, 256 < N := ⟨257, by omega⟩
  -- the blocks
  have hblk : ∃ (l1 : List Int), l1.length = 256 ∧ Good c k 20 l1 O ∧ ∃ j : (List PV → PHeap → Pt) → Prop, ∀ (J : List PV → PHeap → Pt) (R : Pt), (∀ D : List Int, D.length = 240 → Γ0 65 [rf p 256, .int .i64 240, .int .i64 256, cmp] (lg p r (D ++ O.drop 240) .rw) = some (undefP, lg p r l1 .rw) → J [.int .i64 240] (lg p r (D ++ O.drop 240) .rw) = R) → loopP (s61_L2 Γ0 N (rf p 256) (.int .i64 256) cmp (lg p r O .rw) J) N [.int .i64 0, .int .i64 20] (lg p r O .rw) = R := by
    obtain ⟨D, hD⟩ : ∃ D : Nat → List Int, D = fun i => ((List.range i).map fun j => insA c ((O.drop (j * 20)).take 20)).flatten := ⟨_, rfl⟩
    have D0 : D 0 = [] := by rw [hD]; rfl
    have DS : ∀ i, D (i + 1) = D i ++ insA c ((O.drop (i * 20)).take 20) := fun i => by
      rw [hD]; simp only [List.range_succ, List.map_append, List.flatten_append, List.map_cons, List.map_nil, List.flatten_cons, List.flatten_nil, List.append_nil]
    have hsegk : ∀ i n, ((O.drop i).take n).Pairwise (fun x y => k x < k y) := fun i n => (hO.sublist (List.drop_sublist _ _)).sublist (List.take_sublist _ _)
    have hsegE : ∀ i n, ∀ x ∈ (O.drop i).take n, E x := fun i n x hx => hE x (List.mem_of_mem_drop (List.mem_of_mem_take hx))
    have DL : ∀ i, i ≤ 12 → (D i).length = i * 20 := fun i => by
      induction i with
      | zero => intro _; rw [D0]; rfl
      | succ i ih =>
        intro hi
        rw [DS, List.length_append, ih (by omega), (insA_perm c _).length_eq, List.length_take, List.length_drop]
        omega
    have DG : ∀ i, i ≤ 12 → Good c k 20 (D i) (O.take (i * 20)) := fun i => by
      induction i with
      | zero => intro _; rw [D0, Nat.zero_mul]; exact good_nil _
      | succ i ih =>
        intro hi
        rw [DS, Nat.add_mul, Nat.one_mul, take_two]
        exact good_snoc (t := i) (by decide) (ih (by omega)) (DL i (by omega)) (by rw [(insA_perm c _).length_eq, List.length_take]; omega) (insA_perm c _) (insA_srt (hsegk _ _))
    have hlst : (insA c (O.drop 240)).length = 16 := by rw [(insA_perm c _).length_eq, List.length_drop]; omega
    refine ⟨D 12 ++ insA c (O.drop 240), by rw [List.length_append, DL 12 (by omega), hlst], ?_, fun _ => True, fun J R hJ => ?_⟩
    · have := good_snoc (t := 12) (show 0 < 20 by decide) (DG 12 (by omega)) (DL 12 (by omega)) (by omega) (insA_perm c (O.drop 240)) (insA_srt (hO.sublist (List.drop_sublist _ _)))
      rwa [List.take_append_drop] at this
    · have hq := c65 (p := p) (r := r) (k := k) (X := D 12) (S := O.drop 240) (Y := []) (L := 256) (a := 240) (b := 256) hc (by rw [DL 12 (by omega)]) (by rw [List.length_drop]; omega) (by rw [List.append_nil, List.length_append, DL 12 (by omega), List.length_drop]; omega) (by decide) (hO.sublist (List.drop_sublist _ _)) (fun x hx => hE x (List.mem_of_mem_drop hx))
      rw [List.append_nil, List.append_nil] at hq
      have hJ' := hJ (D 12) (DL 12 (by omega)) hq
      refine loop_run (fun i => [.int .i64 ((i * 20 : Nat) : Int), .int .i64 (((i + 1) * 20 : Nat) : Int)]) (fun i => lg p r (D i ++ O.drop (i * 20)) .rw) 12 (by omega) rfl (by rw [D0]; rfl) (fun i hi K => ?_) fun K => ?_
      · have q := c65 (p := p) (r := r) (k := k) (X := D i) (S := (O.drop (i * 20)).take 20) (Y := O.drop ((i + 1) * 20)) (L := 256) (a := i * 20) (b := (i + 1) * 20) hc (by rw [DL i (by omega)]) (by rw [List.length_take, List.length_drop]; omega) (by simp only [List.length_append, DL i (by omega), List.length_take, List.length_drop]; omega) (by decide) (hsegk _ _) (hsegE _ _)
        have e0 : D i ++ (O.drop (i * 20)).take 20 ++ O.drop ((i + 1) * 20) = D i ++ O.drop (i * 20) := by
          rw [List.append_assoc, Nat.add_mul, Nat.one_mul, ← List.drop_drop, List.take_append_drop]
        rw [e0, ← DS] at q
        have c1 : (((i + 1) * 20 : Nat) : Int) ≤ (256 : Int) := by omega
        have w1 : IntKind.i64.wrap ((((i + 1) * 20 : Nat) : Int) + 20) = (((i + 1 + 1) * 20 : Nat) : Int) := by rw [wrap64 (by unfold isI64; omega)]; omega
        unfold s61_L2
        simp only [words, ↓KLn, Nat.reduceAdd, nth_one, c1, decide_true, if_true, q, w1, trim_lg]
      · unfold s61_L2
        have c1 : ¬ (((12 + 1) * 20 : Nat) : Int) ≤ (256 : Int) := by decide
        simp only [words, ↓KLn, Nat.reduceAdd, nth_one, c1, decide_false, Bool.false_eq_true, if_false]
        exact hJ'
  obtain ⟨l1, hl1, hg1, _, hrun⟩ := hblk
  -- the rounds
  have hall : ∀ J : List PV → PHeap → Pt, ∃ l', l'.Perm O ∧ Srt c k l' ∧ loopP (s61_L1 Γ0 N (rf p 256) (.int .i64 256) cmp (undefP, lg p r l1 .rw) J) N [.int .i64 20] (lg p r l1 .rw) = J [] (lg p r l' .rw) := by
    intro J
    obtain ⟨v, h, K, ⟨l, hl, hg, hv, hh⟩, e⟩ := loop_ex (B := s61_L1 Γ0 N (rf p 256) (.int .i64 256) cmp (undefP, lg p r l1 .rw) J)
      (Inv := fun e v h => ∃ l : List Int, l.length = 256 ∧ Good c k (20 * 2 ^ e) l O ∧ v = [.int .i64 ((20 * 2 ^ e : Nat) : Int)] ∧ h = lg p r l .rw)
      4 0 N [.int .i64 20] (lg p r l1 .rw) ⟨l1, hl1, hg1, rfl, rfl⟩
      (fun e _ he v h ⟨l, hl, hg, hv, hh⟩ K => by
        subst hv hh
        obtain ⟨s, hs⟩ : ∃ s, s = 20 * 2 ^ e := ⟨_, rfl⟩
        have hs2 : 20 * 2 ^ (e + 1) = 2 * s := by rw [hs, Nat.pow_succ]; omega
        have hs3 : 0 < s ∧ s < 256 := by
          rw [hs]
          have : e = 0 ∨ e = 1 ∨ e = 2 ∨ e = 3 := by omega
          rcases this with rfl | rfl | rfl | rfl <;> decide
        rw [hs2, ← hs]
        rw [← hs] at hg
        have w2 : IntKind.i64.wrap (2 * (s : Int)) = ((2 * s : Nat) : Int) := by rw [wrap64 (by unfold isI64; omega)]; omega
        have wm : binP .mul (.int .i64 2) (.int .i64 (s : Int)) = some (.int .i64 ((2 * s : Nat) : Int)) := by rw [bin_mul, w2]
        have w3 : IntKind.i64.wrap ((s : Int) * 2) = ((2 * s : Nat) : Int) := by rw [wrap64 (by unfold isI64; omega)]; omega
        have wn : binP .mul (.int .i64 (s : Int)) (.int .i64 2) = some (.int .i64 ((2 * s : Nat) : Int)) := by rw [bin_mul, w3]
        have c1 : ((s : Int) < 256) := by omega
        unfold s61_L1
        simp only [words, ↓KLn, Nat.reduceAdd, c1, decide_true, if_true, wm]
        obtain ⟨l', q1, q2, q3⟩ := round_ok (k := k) (s := s) (L := 256) (N := N) (l := l) (l0 := l) (jK := fun _ h => K [.int .i64 ((2 * s : Nat) : Int)] (trim (lg p r l1 .rw) [.int .i64 ((2 * s : Nat) : Int)] h)) hc (by decide) hs3.1 hs3.2 hO hE hl hOL hg hN
          (j18 := fun w19 h20 => (binP .add (nthP w19 0) (nthP [.int .i64 (s : Int)] 0)).bind fun v21 => (binP .lss v21 (.int .i64 256)).bind fun v22 => KL (fun w24 h25 => (binP .mul (nthP [.int .i64 (s : Int)] 0) (.int .i64 2)).bind fun v26 => KL (fun w15 h16 => K [nthP w15 0] (trim (lg p r l1 .rw) [nthP w15 0] h16)) fun j14 => j14 [v26] h25) fun j23 => ifP v22 ((Γ0 66 [rf p 256, nthP w19 0, v21, .int .i64 256, cmp] h20).bind fun p27 => j23 [] p27.2) (j23 [] h20))
          (fun a h ha => by
            have wa := wadd (show a + s < 9223372036854775808 by omega)
            by_cases hlt : a + s < 256
            · have c2 : (((a + s : Nat) : Int) < 256) := by omega
              rw [if_pos hlt]
              simp only [words, ↓KLn, Nat.reduceAdd, wa, c2, decide_true, if_true, wn]
              rfl
            · have c2 : ¬ (((a + s : Nat) : Int) < 256) := by omega
              rw [if_neg hlt]
              simp only [words, ↓KLn, Nat.reduceAdd, wa, c2, decide_false, Bool.false_eq_true, if_false, wn])
        refine ⟨_, _, ⟨l', q1, q2, rfl, rfl⟩, ?_⟩
        refine Eq.trans ?_ (q3.trans ?_)
        · rfl
        · rw [trim_lg])
      (by omega)
    subst hv hh
    obtain ⟨z1, z2⟩ := good_all hg (by rw [hl]; decide)
    refine ⟨l, z1, z2, ?_⟩
    rw [e]
    unfold s61_L1
    have c1 : ¬ (((20 * 2 ^ (0 + 4) : Nat) : Int) < 256) := by decide
    simp only [words, ↓KLn, Nat.reduceAdd, c1, decide_false, Bool.false_eq_true, if_false]
  obtain ⟨l', hp', hs', hfin⟩ := hall (fun w h => finP [] (lg p r O .rw) h [])
  refine ⟨l', hp', hs', gbody (F := A61) (by kernel_rfl) N ?_⟩
  rw [s61_eq]; unfold s61
  simp only [↓KLn]
  refine hrun _ _ fun D hD hq => ?_
  simp only [words, ↓KLn, Nat.reduceAdd, hq]
  rw [hfin, fin_unit, trim_lg]
theorem c47 (hc : CmpOk cmp p r c E) {O : List Int} (hO : O.Pairwise (fun x y => k x < k y)) (hE : ∀ x ∈ O, E x) (hOL : O.length = 256) :
    ∃ l', l'.Perm O ∧ Srt c k l' ∧ Γ0 47 [rf p 256, cmp] (lg p r O .rw) = some (undefP, lg p r l' .rw) := by
  obtain ⟨l', h1, h2, h3⟩ := c61 hc hO hE hOL
  refine ⟨l', h1, h2, gbody (F := A47) (by kernel_rfl) 1 ?_⟩
  rw [s47_eq]; unfold s47
  have hl : lenP false (rf p 256) = some (.int .i64 256) := rf_len
  simp only [words, ↓KLn, Nat.reduceAdd, hl, h3, fin_unit, trim_lg]
end
end Go.Vm.X


set_option linter.unusedSimpArgs false
set_option linter.unusedVariables false
namespace Go.Vm.X
open Go.Am Go.Vm
attribute [local congr] bind_c ifP_c loop_c K1_c ite_c fork_c guard_c unl_c
def cntL (ds : List Int) (x : Int) : Int := ((ds.filter fun d => d == x).length : Int)
def cntP (ds : List Int) : List PV := (List.range 256).map fun (i : Nat) => .int .i64 (cntL ds ((i : Int) - 128))
theorem cntP_nil : Z256 = cntP [] := by kernel_rfl
theorem cntP_len (ds : List Int) : (cntP ds).length = 256 := by simp [cntP]
theorem cntP_get (ds : List Int) {i : Nat} (h : i < 256) : (cntP ds)[i]? = some (.int .i64 (cntL ds ((i : Int) - 128))) := by simp [cntP, h]
theorem cntL_snoc (ds : List Int) (d x : Int) : cntL (ds ++ [d]) x = cntL ds x + if d = x then 1 else 0 := by
  unfold cntL
  rw [List.filter_append, List.length_append]
  by_cases h : d = x <;> simp [h]
theorem cntL_le (ds : List Int) (x : Int) : 0 ≤ cntL ds x ∧ cntL ds x ≤ ds.length := by
  unfold cntL
  have := List.length_filter_le (fun d => d == x) ds
  omega
theorem cntP_put (ds : List Int) {i : Nat} (h : i < 256) : putAt (cntP ds) i [.int .i64 (cntL ds ((i : Int) - 128) + 1)] = some (cntP (ds ++ [(i : Int) - 128])) := by
  unfold putAt
  rw [if_pos ⟨by rw [cntP_len]; simp; omega, rfl⟩]
  congr 1
  apply List.ext_getElem?
  intro j
  by_cases hj : j < 256
  · rw [cntP_get _ hj, cntL_snoc]
    by_cases h1 : j < i
    · rw [List.append_assoc, List.getElem?_append_left (by rw [List.length_take, cntP_len]; omega), List.getElem?_take_of_lt h1, cntP_get _ hj, if_neg (by omega), Int.add_zero]
    · by_cases h2 : j = i
      · subst h2
        rw [List.append_assoc, List.getElem?_append_right (by rw [List.length_take, cntP_len]; omega), List.length_take, cntP_len, show j - min j 256 = 0 by omega, if_pos rfl]
        rfl
      · rw [List.getElem?_append_right (by rw [List.length_append, List.length_take, cntP_len]; simp; omega), List.getElem?_drop, List.length_append, List.length_take, cntP_len, if_neg (by omega), Int.add_zero]
        rw [show i + [PV.int IntKind.i64 (cntL ds ((i : Int) - 128) + 1)].length + (j - (min i 256 + [PV.int IntKind.i64 (cntL ds ((i : Int) - 128) + 1)].length)) = j by simp; omega, cntP_get _ hj]
  · rw [List.getElem?_eq_none (by simp [cntP_len]; omega), List.getElem?_eq_none (by rw [cntP_len]; omega)]
theorem arr256 {b : Nat} {i : Nat} (h : i < 256) : indexAddrArrP 256 1 (.ptr b 0) (.int .i64 (i : Int)) = some (.ptr b i) := by
  simp only [indexAddrArrP]
  rw [if_pos ⟨by omega, by omega⟩, Int.toNat_natCast]
  simp only [fieldAddrP, Nat.mul_one, Nat.zero_add]
theorem off128 {d : Int} (h : -128 ≤ d ∧ d ≤ 127) : IntKind.i64.wrap (d + 128) = ((d + 128).toNat : Int) ∧ (d + 128).toNat < 256 ∧ (((d + 128).toNat : Int) - 128) = d := by
  refine ⟨?_, by omega, by omega⟩
  rw [wrap64 (by unfold isI64; omega)]; omega
theorem st1n (n : Int) (o : Nat) (vs : List PV) (t : TypeId) (r : PHeap) : storeP 1 (.ptr 0 o) (.int .i64 n) (.box vs t .rw :: r) = (putAt vs o [.int .i64 n]).map fun vs' => .box vs' t .rw :: r := st1 rfl o vs t r
theorem cnt_load {h r : PHeap} {ds : List Int} {i : Nat} (hi : i < 256) : loadP false 1 (.ptr h.length i) (h ++ .box (cntP ds) 65 .rw :: r) = some (.int .i64 (cntL ds ((i : Int) - 128))) := by
  rw [load_box]
  unfold boxAt
  rw [show h.length = h.length + 0 from rfl, get_new]
  exact cntP_get ds hi
def inB (x : Int) : Prop := -128 ≤ x ∧ x ≤ 127
theorem cmp_ok {h : PHeap} {ds : List Int} (hm : ds.length < 4294967296) : CmpOk (.func 48 [] [.ptr h.length 0]) (h ++ [.box (cntP ds) 65 .rw]) [] (cntL ds) inB := by
  intro l x y hx hy
  rw [callV_func Γ0 48]
  show Γ0 48 [.int .i64 x, .int .i64 y, .ptr h.length 0] _ = _
  obtain ⟨x1, x2, x3⟩ := off128 hx
  obtain ⟨y1, y2, y3⟩ := off128 hy
  have e : lg (h ++ [.box (cntP ds) 65 .rw]) [] l .rw = h ++ .box (cntP ds) 65 .rw :: [.log (l.map iV) 1 3 .rw] := by unfold lg; simp
  have lx := cnt_load (h := h) (ds := ds) (r := [.log (l.map iV) 1 3 .rw]) x2
  have ly := cnt_load (h := h) (ds := ds) (r := [.log (l.map iV) 1 3 .rw]) y2
  rw [x3, ← e] at lx
  rw [y3, ← e] at ly
  have b1 := cntL_le ds x
  have b2 := cntL_le ds y
  have w : IntKind.i64.wrap (cntL ds y - cntL ds x) = cntL ds y - cntL ds x := wrap64 (by unfold isI64; omega)
  refine gbody (F := A48) (by kernel_rfl) 1 ?_
  rw [s48_eq]; unfold s48
  simp only [bS, bin_add, x1, y1, arr256 x2, arr256 y2, lx, ly, bin_sub, w, fin_int0]
def rkN (x : Int) : Int := if x > 0 then 2 * x - 1 else -(2 * x)
def orgN : Nat → List Int
  | 0 => []
  | d + 1 => orgN d ++ (if d > 0 then [(d : Int)] else []) ++ [-(d : Int)]
def org : List Int := orgN 128 ++ [-128]
theorem orgN_mem : ∀ (n : Nat) (x : Int), x ∈ orgN n ↔ -(n : Int) < x ∧ x < n
  | 0, x => by simp [orgN]; omega
  | n + 1, x => by
    unfold orgN
    rw [List.mem_append, List.mem_append, orgN_mem n, List.mem_singleton]
    by_cases h : n > 0
    · rw [if_pos h, List.mem_singleton]; omega
    · rw [if_neg h]; simp only [List.not_mem_nil, or_false]; omega
theorem org_mem (x : Int) : x ∈ org ↔ inB x := by
  unfold org inB
  rw [List.mem_append, orgN_mem, List.mem_singleton]
  omega
theorem orgN_sorted : ∀ n : Nat, (orgN n).Pairwise (fun x y => rkN x < rkN y)
  | 0 => List.Pairwise.nil
  | n + 1 => by
    unfold orgN
    refine List.pairwise_append.2 ⟨List.pairwise_append.2 ⟨orgN_sorted n, ?_, fun x hx y hy => ?_⟩, List.pairwise_singleton _ _, fun x hx y hy => ?_⟩
    · split
      · exact List.pairwise_singleton _ _
      · exact List.Pairwise.nil
    · rw [orgN_mem] at hx
      split at hy
      · rw [List.mem_singleton] at hy
        subst hy
        unfold rkN
        split <;> split <;> omega
      · cases hy
    · rw [List.mem_singleton] at hy
      subst hy
      rw [List.mem_append, orgN_mem] at hx
      rcases hx with hx | hx
      · unfold rkN
        split <;> split <;> omega
      · split at hx
        · rw [List.mem_singleton] at hx
          subst hx
          unfold rkN
          split <;> split <;> omega
        · cases hx
theorem org_sorted : org.Pairwise (fun x y => rkN x < rkN y) := by
  unfold org
  refine List.pairwise_append.2 ⟨orgN_sorted 128, List.pairwise_singleton _ _, fun x hx y hy => ?_⟩
  rw [List.mem_singleton] at hy
  subst hy
  rw [orgN_mem] at hx
  unfold rkN
  split <;> split <;> omega
theorem orgN_len : ∀ n : Nat, (orgN (n + 1)).length = 2 * n + 1
  | 0 => rfl
  | n + 1 => by
    have := orgN_len n
    rw [orgN, List.length_append, List.length_append, this, if_pos (by omega)]
    simp only [List.length_cons, List.length_nil]
    omega
theorem org_len : org.length = 256 := by
  unfold org
  rw [List.length_append, orgN_len 127]
  rfl
theorem c50 (p r : PHeap) (l : List Int) : Γ0 50 [.ref p.length 0 l.length l.length 1] (lg p r l .rw) = some (undefP, lg p r (srt l) .rw) := by
  refine prun_of_base (by kernel_rfl) ?_
  unfold sortP
  simp only [Nat.beq_refl, cond_true]
  by_cases h0 : l.length = 0
  · obtain rfl := List.eq_nil_of_length_eq_zero h0
    rw [if_pos h0]
    have : srt [] = [] := List.eq_nil_of_length_eq_zero (srt_len [])
    rw [this]
  · rw [if_neg h0, lg_at]
    have e1 : (l.map iV).flatten = l.map (PV.int .i64) := flat_ones l
    simp only [List.length_map]
    rw [if_pos ⟨trivial, trivial, trivial, trivial, trivial, by omega⟩, e1, intsP_map, Option.map_some]
    rw [← lg_set p r l (srt l) .rw .rw]
    rfl
theorem app_lg {p : PHeap} {l : List Int} {x : Int} (hm : l.length < 4294967296) : appendP 3 1 (.ref p.length 0 l.length l.length 1) (.frz 1 [[.int .i64 x]]) (lg p [] l .rw) = some (.ref p.length 0 (l.length + 1) (l.length + 1) 1, lg p [] (l ++ [x]) .rw) := by
  have := append_one (h := p) (l := [.log (l.map iV) 1 3 .rw]) (k := 0) (rows := l.map iV) (v := .int .i64 x) (t := 3) l.length (by simp) rfl rfl (by simpa [mostLen] using hm)
  unfold lg
  rw [List.map_append]
  exact this
theorem fz_lg {p r : PHeap} {l : List Int} {k n : Nat} (hn : n = l.length) (hk : k ≤ n) : ∃ md, fz (.flat 1) (.ref p.length 0 k n 1) (lg p r l .rw) = some (ints (l.take k), lg p r l md) := by
  subst hn
  by_cases h0 : k = 0
  · subst h0
    exact ⟨.rw, by simp only [fz, if_true]; rfl⟩
  · refine ⟨.ro, ?_⟩
    rw [fz, if_neg h0, lg_at]
    simp only [List.length_map, List.drop_zero, lg_set]
    rw [← List.map_take, if_pos ⟨trivial, trivial, by omega, pure_ints _⟩]
    rfl
theorem gT {R : Type} (m : Option R) : guardP true m = m := nr rfl
theorem chunkO (v : PV) : chunk 1 1 [v] = [[v]] := nr rfl
theorem allI (k : IntKind) (v : Int) : [PV.int k v].all pure1 = true := nr rfl
theorem fin_ne {h : PHeap} {n : Int} : finP [.flat 1, .keep] h h [.nilS, .int .i64 n] = some (.tuple [ints [], .int .i64 n], h) := by
  have := fin_new (shapes := [.flat 1, .keep]) (h := h) (h' := h ++ []) (vs := [.nilS, .int .i64 n]) (ws := [ints [], .int .i64 n]) (l := []) (by simp only [fzL, fz, ints, Option.bind_some, Option.map_some]; rfl) (by simp [ltV, ints])
  rwa [List.append_nil] at this
theorem diffs8 {l : List Int} : ∀ d ∈ diffs 8 l, inB d := fun d hd => by
  have := in8 (diffs_in 8 l d hd)
  unfold inB
  omega
theorem cnt_loop {h : PHeap} {ds : List Int} {N : Nat} (hin : ∀ d ∈ ds, inB d) (hm : ds.length < 4294967296) (hN : ds.length < N) {j9 : List PV → PHeap → Pt} {R : Pt} (hr : j9 [] (h ++ [.box (cntP ds) 65 .rw]) = R) :
    loopP (s20_L1 Γ0 N (.ptr h.length 0) (ints ds, h ++ [.box (cntP []) 65 .rw]) (.int .i64 ds.length) j9) N [.int .i64 0] (h ++ [.box (cntP []) 65 .rw]) = R := by
  refine loop_run (fun i => [.int .i64 (i : Int)]) (fun i => h ++ [.box (cntP (ds.take i)) 65 .rw]) ds.length hN rfl rfl (fun i hi K => ?_) fun K => ?_
  · obtain ⟨d, hd⟩ := lt_get hi
    obtain ⟨o1, o2, o3⟩ := off128 (hin d (List.mem_of_getElem? hd))
    have ht : ds.take (i + 1) = ds.take i ++ [d] := take_succ_get hd
    have hb := cntL_le (ds.take i) d
    have hl : (ds.take i).length ≤ ds.length := by rw [List.length_take]; omega
    have w : IntKind.i64.wrap (cntL (ds.take i) d + 1) = cntL (ds.take i) d + 1 := wrap64 (by unfold isI64; omega)
    have hld := cnt_load (h := h) (ds := ds.take i) (r := []) o2
    have hput := cntP_put (ds.take i) o2
    rw [o3] at hld hput
    have iv0' : (iV d)[0]? = some (.int .i64 d) := rfl
    have htr : ∀ (a b : PBlk) (v : List PV), trim (h ++ [a]) v (h ++ [b]) = h ++ [b] := fun a b v => trim_len _ (by simp)
    unfold s20_L1
    simp only [words, ↓KLn, Nat.reduceAdd, ltT hi, decide_true, if_true, idx_ints _ hd, load_iV, iv0', o1, arr256 o2, hld, w]
    rw [ht]
    simp only [words, ↓KLn, Nat.reduceAdd, hput, st1n, cntP_get _ o2, o3, w, succ63 (show i < 9223372036854775807 by omega), htr]
  · unfold s20_L1
    simp only [words, ↓KLn, Nat.reduceAdd, ltF, decide_false, Bool.false_eq_true, if_false, List.take_length, hr]
theorem c20 {l : List Int} (hm : l.length < 9223372036854775808) (h : PHeap) :
    (chk l 8 ≠ 0 ∧ Γ0 20 [ints l] h = some (.tuple [ints [], .int .i64 (chk l 8)], h)) ∨ (chk l 8 = 0 ∧ ∃ l', l'.Perm org ∧ Srt (cntL (diffs 8 l)) rkN l' ∧ Γ0 20 [ints l] h = some (.tuple [ints (srt (l'.take 16)), .int .i64 0], h)) := by
  by_cases h0 : chk l 8 = 0
  case neg =>
    left
    refine ⟨h0, gbody (F := A20) (by kernel_rfl) 1 ?_⟩
    rw [s20_eq]; unfold s20
    have e : (chk l 8 != 0) = true := by rw [bne_iff_ne]; exact h0
    simp only [words, ↓KLn, Nat.reduceAdd, c24 8 hm, e, if_true, fin_ne]
  right
  refine ⟨h0, ?_⟩
  obtain ⟨b, _, _, _, hlen⟩ := chk_zero h0
  have hsm : Small l := by
    obtain ⟨b, _, hb, hall, _⟩ := chk_zero h0
    exact small_all (by omega) hall
  have hdl : (diffs 8 l).length = l.length := diffs_len 8 l
  obtain ⟨l', p1, p2, p3⟩ := c47 (k := rkN) (cmp_ok (h := h) (ds := diffs 8 l) (by omega)) org_sorted (fun x hx => (org_mem x).1 hx) org_len
  have hl'len : l'.length = 256 := by rw [p1.length_eq, org_len]
  refine ⟨l', p1, p2, ?_⟩
  obtain ⟨N, hN⟩ : ∃ N : Nat, 5000 ≤ N := ⟨5000, Nat.le_refl _⟩
  refine gbody (F := A20) (by kernel_rfl) N ?_
  rw [s20_eq]; unfold s20
  have k25 := fun H => c25 (b := 8) (by decide) (by decide) hsm (by omega) H
  have h8 : ((8 : Nat) : Int) = 8 := rfl
  rw [h8] at k25
  have e : (chk l 8 != 0) = false := by rw [h0]; rfl
  simp only [words, ↓KLn, Nat.reduceAdd, c24 8 hm, e, Bool.false_eq_true, if_false, cntP_nil, k25, len_ints]
  refine cnt_loop diffs8 (by omega) (by omega) ?_
  have hmk : mkSliceP 3 [.int .i64 0] (.int .i64 0) (.int .i64 256) (h ++ [.box (cntP (diffs 8 l)) 65 .rw]) = some (.ref (h ++ [PBlk.box (cntP (diffs 8 l)) 65 .rw]).length 0 0 0 1, lg (h ++ [PBlk.box (cntP (diffs 8 l)) 65 .rw]) [] [] .rw) := rfl
  obtain ⟨P, hP⟩ : ∃ P, P = h ++ [PBlk.box (cntP (diffs 8 l)) 65 .rw] := ⟨_, rfl⟩
  rw [← hP] at hmk p3 ⊢
  rw [hmk]
  simp only [bS, ↓KLn]
  refine loop_run (fun d => [.ref P.length 0 (orgN d).length (orgN d).length 1, .int .i64 (d : Int)]) (fun d => lg P [] (orgN d) .rw) 128 (by omega) rfl rfl (fun d hd K => ?_) fun K => ?_
  · have hlt : (d : Int) < 128 := by omega
    have hol : (orgN d).length ≤ 256 := by
      cases d with
      | zero => simp [orgN]
      | succ d => rw [orgN_len]; omega
    have w : IntKind.i64.wrap (0 - (d : Int)) = -(d : Int) := by rw [wrap64 (by unfold isI64; omega)]; omega
    unfold s20_L0
    by_cases hd0 : d > 0
    · have g : (d : Int) > 0 := by omega
      have e1 : orgN (d + 1) = orgN d ++ [(d : Int)] ++ [-(d : Int)] := by rw [orgN, if_pos hd0]
      have q2 : appendP 3 1 (.ref P.length 0 ((orgN d).length + 1) ((orgN d).length + 1) 1) (.frz 1 [[.int .i64 (-(d : Int))]]) (lg P [] (orgN d ++ [(d : Int)]) .rw) = some (.ref P.length 0 ((orgN d).length + 1 + 1) ((orgN d).length + 1 + 1) 1, lg P [] (orgN d ++ [(d : Int)] ++ [-(d : Int)]) .rw) := by
        have := app_lg (p := P) (l := orgN d ++ [(d : Int)]) (x := -(d : Int)) (by simp; omega)
        rw [List.length_append] at this
        exact this
      simp only [words, ↓KLn, Nat.reduceAdd, nth_one, hlt, decide_true, if_true, g, fill_int, allI, chunkO, gT, app_lg (p := P) (l := orgN d) (x := (d : Int)) (by omega), un_neg, w, q2, succ63 (show d < 9223372036854775807 by omega), trim_lg, e1, List.length_append]
      rfl
    · have g : ¬ (d : Int) > 0 := by omega
      have e1 : orgN (d + 1) = orgN d ++ [-(d : Int)] := by rw [orgN, if_neg hd0, List.append_nil]
      simp only [words, ↓KLn, Nat.reduceAdd, nth_one, hlt, decide_true, if_true, g, decide_false, Bool.false_eq_true, if_false, fill_int, allI, chunkO, gT, un_neg, w, app_lg (p := P) (l := orgN d) (x := -(d : Int)) (by omega), succ63 (show d < 9223372036854775807 by omega), trim_lg, e1, List.length_append]
      rfl
  · have hlt : ¬ ((128 : Nat) : Int) < 128 := by decide
    have hol : (orgN 128).length = 255 := orgN_len 127
    have q := app_lg (p := P) (l := orgN 128) (x := -128) (by omega)
    rw [hol] at q
    have eo : orgN 128 ++ [-128] = org := rfl
    rw [eo] at q
    unfold s20_L0
    rw [hol]
    have hsl : sliceP 1 (.ref P.length 0 256 256 1) none (some (.int .i64 16)) none = some (.ref P.length 0 16 256 1) := rfl
    obtain ⟨md, ez⟩ := fz_lg (p := P) (r := []) (l := l') (k := 16) (n := 256) hl'len.symm (by decide)
    have ht16 : (l'.take 16).length = 16 := by rw [List.length_take]; omega
    have hne : l'.take 16 ≠ [] := fun hh => by rw [hh] at ht16; cases ht16
    have k49 := c49 (l := l'.take 16) (by omega) (lg P [] l' md)
    rw [clone_ne hne] at k49
    have elg : lg P [] l' md ++ [.log ((l'.take 16).map iV) 1 3 .rw] = lg (lg P [] l' md) [] (l'.take 16) .rw := rfl
    rw [elg] at k49
    have k50 := c50 (lg P [] l' md) [] (l'.take 16)
    have hrf : PV.ref P.length 0 256 256 1 = rf P 256 := rfl
    simp only [words, ↓KLn, Nat.reduceAdd, nth_one, hlt, decide_false, Bool.false_eq_true, if_false, fill_int, allI, chunkO, gT, q]
    rw [hrf, p3]
    simp only [bS]
    rw [← hrf, hsl]
    simp only [bS]
    rw [ez]
    simp only [bS]
    rw [k49]
    simp only [bS]
    rw [k50]
    simp only [bS]
    obtain ⟨md2, ez2⟩ := fz_lg (p := lg P [] l' md) (r := []) (l := srt (l'.take 16)) (k := (l'.take 16).length) (n := (l'.take 16).length) (srt_len _).symm (Nat.le_refl _)
    rw [show (srt (l'.take 16)).take (l'.take 16).length = srt (l'.take 16) by rw [← srt_len (l'.take 16), List.take_length]] at ez2
    refine fin_new (ws := [ints (srt (l'.take 16)), .int .i64 0]) (l := [.box (cntP (diffs 8 l)) 65 .rw, .log (l'.map iV) 1 3 md, .log ((srt (l'.take 16)).map iV) 1 3 md2]) ?_ (by simp [ltV, ints])
    simp only [fzL, fz_keep, ez2, Option.bind_some, Option.map_some]
    rw [hP]
    unfold lg
    simp only [List.append_assoc, List.cons_append, List.nil_append]
end Go.Vm.X


set_option linter.unusedSimpArgs false
set_option linter.unusedVariables false
namespace Go.Vm.X
open Go.Am Go.Vm
attribute [local congr] bind_c ifP_c loop_c K1_c ite_c fork_c guard_c unl_c
theorem rk_abs {a b : Int} : (decide (max a (0 - a) < max b (0 - b)) || (max a (0 - a) == max b (0 - b) && decide (a > b))) = decide (rkN a < rkN b) := by
  rw [Bool.eq_iff_iff]
  simp only [Bool.or_eq_true, Bool.and_eq_true, decide_eq_true_eq, beq_iff_eq]
  unfold rkN
  split <;> split <;> omega
theorem c51 {a b : Int} (ha : inB a) (hb : inB b) (h : PHeap) : Γ0 51 [.int .i64 a, .int .i64 b] h = some (.bool (decide (rkN a < rkN b)), h) := by
  unfold inB at ha hb
  have w1 : IntKind.i64.wrap (0 - a) = 0 - a := wrap64 (by unfold isI64; omega)
  have w2 : IntKind.i64.wrap (0 - b) = 0 - b := wrap64 (by unfold isI64; omega)
  refine gbody (F := A51) (by kernel_rfl) 1 ?_
  rw [s51_eq]; unfold s51
  simp only [un_neg, bS, w1, w2, fold1_two, max2_i, bin_lss, bin_eql, bin_gtr, K1_and, K1_or, K1_one, rk_abs, fin_bool0]
theorem srt_sorted (l : List Int) : (srt l).Pairwise (· ≤ ·) := by
  have := List.pairwise_mergeSort (le := fun x y : Int => decide (x ≤ y)) (fun a b c h1 h2 => by simp only [decide_eq_true_eq] at *; omega) (fun a b => by simp only [Bool.or_eq_true, decide_eq_true_eq]; omega) l
  exact this.imp fun h => by simpa using h
theorem mem_srt {l : List Int} {x : Int} : x ∈ srt l ↔ x ∈ l := List.mem_mergeSort
instance (c k : Int → Int) (x y : Int) : Decidable (Rk c k x y) := by unfold Rk; exact inferInstance
def dOf (i : Nat) : Int := (i : Int) - 128
def bstF (c : Int → Int) (T : List Int) : Nat → Option Nat
  | 0 => none
  | i + 1 => if T.contains (dOf i) = true then bstF c T i else match bstF c T i with
    | none => some i
    | some b => if Rk c rkN (dOf i) (dOf b) then some i else some b
def bstV : Option Nat → Int
  | none => -1
  | some b => b
theorem bst_spec (c : Int → Int) (T : List Int) : ∀ i : Nat, match bstF c T i with
    | none => ∀ j, j < i → dOf j ∈ T
    | some b => b < i ∧ dOf b ∉ T ∧ ∀ j, j < i → dOf j ∉ T → j = b ∨ Rk c rkN (dOf b) (dOf j)
  | 0 => fun j h => absurd h (Nat.not_lt_zero j)
  | i + 1 => by
    have ih := bst_spec c T i
    unfold bstF
    by_cases hc : T.contains (dOf i) = true
    · rw [if_pos hc]
      rw [List.contains_iff_mem] at hc
      cases h : bstF c T i with
      | none =>
        rw [h] at ih
        intro j hj
        by_cases e : j = i
        · subst e; exact hc
        · exact ih j (by omega)
      | some b =>
        rw [h] at ih
        refine ⟨by have := ih.1; omega, ih.2.1, fun j hj hn => ?_⟩
        by_cases e : j = i
        · subst e; exact absurd hc hn
        · exact ih.2.2 j (by omega) hn
    · rw [if_neg hc]
      rw [List.contains_iff_mem] at hc
      cases h : bstF c T i with
      | none =>
        rw [h] at ih
        refine ⟨by omega, hc, fun j hj hn => ?_⟩
        by_cases e : j = i
        · exact .inl e
        · exact absurd (ih j (by omega)) hn
      | some b =>
        rw [h] at ih
        simp only
        by_cases hr : Rk c rkN (dOf i) (dOf b)
        · rw [if_pos hr]
          refine ⟨by omega, hc, fun j hj hn => ?_⟩
          by_cases e : j = i
          · exact .inl e
          · rcases ih.2.2 j (by omega) hn with rfl | q
            · exact .inr hr
            · exact .inr (hr.trans q)
        · rw [if_neg hr]
          refine ⟨by have := ih.1; omega, ih.2.1, fun j hj hn => ?_⟩
          by_cases e : j = i
          · subst e
            right
            have hne : rkN (dOf b) ≠ rkN (dOf j) := by
              have := ih.1
              unfold rkN dOf
              split <;> split <;> omega
            unfold Rk at hr ⊢
            omega
          · exact ih.2.2 j (by omega) hn
theorem bst_at {c : Int → Int} {L : List Int} (hp : L.Perm org) (hs : Srt c rkN L) {k : Nat} {x : Int} (hx : L[k]? = some x) : ∃ b : Nat, b < 256 ∧ bstF c (L.take k) 256 = some b ∧ dOf b = x := by
  have hxo : inB x := (org_mem x).1 (hp.mem_iff.1 (List.mem_of_getElem? hx))
  have hkl := (List.getElem?_eq_some_iff.1 hx).1
  have hnt : x ∉ L.take k := fun hm => by
    obtain ⟨i, h1, h2⟩ := take_mem hm
    have := List.pairwise_iff_getElem.1 hs i k (List.getElem?_eq_some_iff.1 h2).1 hkl h1
    rw [(List.getElem?_eq_some_iff.1 h2).2, (List.getElem?_eq_some_iff.1 hx).2] at this
    exact this.asymm this
  have hxd : dOf (x + 128).toNat = x := by unfold dOf inB at *; omega
  have sp := bst_spec c (L.take k) 256
  cases h : bstF c (L.take k) 256 with
  | none =>
    rw [h] at sp
    have := sp (x + 128).toNat (by unfold inB at hxo; omega)
    rw [hxd] at this
    exact absurd this hnt
  | some b =>
    rw [h] at sp
    obtain ⟨s1, s2, s3⟩ := sp
    refine ⟨b, s1, rfl, ?_⟩
    rcases s3 (x + 128).toNat (by unfold inB at hxo; omega) (by rw [hxd]; exact hnt) with q | q
    · rw [← q]; exact hxd
    · rw [hxd] at q
      have hbo : dOf b ∈ L := by
        rw [hp.mem_iff, org_mem]
        unfold inB dOf
        omega
      obtain ⟨i, hi⟩ := List.getElem?_of_mem hbo
      have hil := (List.getElem?_eq_some_iff.1 hi).1
      rcases Nat.lt_trichotomy i k with g | g | g
      · exfalso
        apply s2
        exact List.mem_of_getElem? (i := i) (by rw [List.getElem?_take_of_lt g]; exact hi)
      · subst g
        rw [hx] at hi
        cases hi
        rfl
      · exfalso
        have := List.pairwise_iff_getElem.1 hs k i hkl hil g
        rw [(List.getElem?_eq_some_iff.1 hx).2, (List.getElem?_eq_some_iff.1 hi).2] at this
        exact this.asymm q
def takP (T : List Int) : List PV := (List.range 256).map fun (i : Nat) => .bool (T.contains (dOf i))
theorem takP_nil : Z256b = takP [] := by kernel_rfl
theorem takP_len (l : List Int) : (takP l).length = 256 := by simp [takP]
theorem takP_get (l : List Int) {i : Nat} (h : i < 256) : (takP l)[i]? = some (.bool (l.contains (dOf i))) := by simp [takP, h]
theorem takP_put (l : List Int) {i : Nat} (h : i < 256) : putAt (takP l) i [.bool true] = some (takP (l ++ [dOf i])) := by
  unfold putAt
  rw [if_pos ⟨by rw [takP_len]; simp; omega, rfl⟩]
  congr 1
  apply List.ext_getElem?
  intro j
  by_cases hj : j < 256
  · rw [takP_get _ hj]
    have e2 : (l ++ [dOf i]).contains (dOf j) = (l.contains (dOf j) || decide (i = j)) := by
      rw [Bool.eq_iff_iff]
      simp only [List.contains_iff_mem, List.mem_append, List.mem_singleton, Bool.or_eq_true, decide_eq_true_eq]
      exact or_congr Iff.rfl (by unfold dOf; omega)
    rw [e2]
    by_cases h1 : j < i
    · rw [List.append_assoc, List.getElem?_append_left (by rw [List.length_take, takP_len]; omega), List.getElem?_take_of_lt h1, takP_get _ hj, decide_eq_false (by omega), Bool.or_false]
    · by_cases h2 : j = i
      · subst h2
        rw [List.append_assoc, List.getElem?_append_right (by rw [List.length_take, takP_len]; omega), List.length_take, takP_len, show j - min j 256 = 0 by omega, decide_eq_true rfl, Bool.or_true]
        rfl
      · rw [List.getElem?_append_right (by rw [List.length_append, List.length_take, takP_len]; simp; omega), List.getElem?_drop, List.length_append, List.length_take, takP_len]
        rw [show i + [PV.bool true].length + (j - (min i 256 + [PV.bool true].length)) = j by simp; omega, takP_get _ hj, decide_eq_false (by omega), Bool.or_false]
  · rw [List.getElem?_eq_none (by simp [takP_len]; omega), List.getElem?_eq_none (by rw [takP_len]; omega)]
def hT (h : PHeap) (ds T : List Int) : PHeap := h ++ [.box (cntP ds) 65 .rw, .box (takP T) 69 .rw]
theorem hT_cnt {h l : PHeap} {ds T : List Int} {i : Nat} (hi : i < 256) : loadP false 1 (.ptr h.length i) (hT h ds T ++ l) = some (.int .i64 (cntL ds (dOf i))) := by
  unfold hT
  rw [List.append_assoc]
  exact cnt_load hi
theorem hT_tak {h l : PHeap} {ds T : List Int} {i : Nat} (hi : i < 256) : loadP false 1 (.ptr (h.length + 1) i) (hT h ds T ++ l) = some (.bool (T.contains (dOf i))) := by
  unfold hT
  rw [List.append_assoc, load_box]
  unfold boxAt
  rw [get_new]
  exact takP_get T hi
theorem bst_loop {h : PHeap} {ds T : List Int} {N : Nat} (hN : 256 < N) {j54 : List PV → PHeap → Pt} {R : Pt} (hr : j54 [.int .i64 (bstV (bstF (cntL ds) T 256))] (hT h ds T) = R) :
    loopP (s21_L1 Γ0 N (.ptr h.length 0) (.ptr (h.length + 1) 0) (hT h ds T) j54) N [.int .i64 (-1), .int .i64 0] (hT h ds T) = R := by
  have lc : ∀ {i : Nat}, i < 256 → loadP false 1 (.ptr h.length i) (hT h ds T) = some (.int .i64 (cntL ds (dOf i))) := fun hi => by
    have := hT_cnt (h := h) (l := []) (ds := ds) (T := T) hi
    rwa [List.append_nil] at this
  have lt : ∀ {i : Nat}, i < 256 → loadP false 1 (.ptr (h.length + 1) i) (hT h ds T) = some (.bool (T.contains (dOf i))) := fun hi => by
    have := hT_tak (h := h) (l := []) (ds := ds) (T := T) hi
    rwa [List.append_nil] at this
  have wd : ∀ i : Nat, i < 256 → IntKind.i64.wrap ((i : Int) - 128) = dOf i := fun i hi => by
    unfold dOf
    exact wrap64 (by unfold isI64; omega)
  have hin : ∀ i : Nat, i < 256 → inB (dOf i) := fun i hi => by unfold inB dOf; omega
  refine loop_pure (fun i => [.int .i64 (bstV (bstF (cntL ds) T i)), .int .i64 (i : Int)]) 256 hN rfl (fun i hi K => ?_) fun K => ?_
  · have hlt : (i : Int) < 256 := by omega
    have sp := bst_spec (cntL ds) T i
    unfold s21_L1
    cases hc : T.contains (dOf i) with
    | true =>
      have e : bstF (cntL ds) T (i + 1) = bstF (cntL ds) T i := by rw [bstF, if_pos hc]
      simp only [words, ↓KLn, Nat.reduceAdd, ↓K1n, sc_and, sc_or, nth_one, hlt, decide_true, if_true, arr256 hi, lt hi, hc, Bool.not_true, Bool.false_eq_true, if_false, succ63 (show i < 9223372036854775807 by omega), trim_self, e]
    | false =>
      cases hb : bstF (cntL ds) T i with
      | none =>
        have e : bstF (cntL ds) T (i + 1) = some i := by rw [bstF, if_neg (by rw [hc]; decide), hb]
        have n1 : (-1 : Int) < 0 := by decide
        simp only [words, ↓KLn, Nat.reduceAdd, ↓K1n, sc_and, sc_or, nth_one, hlt, decide_true, if_true, arr256 hi, lt hi, hc, Bool.not_false, bstV, n1, Bool.true_eq_false, if_false, succ63 (show i < 9223372036854775807 by omega), trim_self, e]
      | some b =>
        rw [hb] at sp
        have hb256 : b < 256 := by have := sp.1; omega
        have n1 : ¬ (b : Int) < 0 := by omega
        have e : bstF (cntL ds) T (i + 1) = if Rk (cntL ds) rkN (dOf i) (dOf b) then some i else some b := by rw [bstF, if_neg (by rw [hc]; decide), hb]
        have k51 := c51 (hin i hi) (hin b hb256) (hT h ds T)
        by_cases g1 : cntL ds (dOf i) > cntL ds (dOf b)
        · have e' : bstF (cntL ds) T (i + 1) = some i := by rw [e, if_pos (by unfold Rk; omega)]
          simp only [words, ↓KLn, Nat.reduceAdd, ↓K1n, sc_and, sc_or, nth_one, hlt, decide_true, if_true, arr256 hi, arr256 hb256, lt hi, lc hi, lc hb256, hc, Bool.not_false, bstV, n1, decide_false, g1, Bool.true_eq_false, if_false, succ63 (show i < 9223372036854775807 by omega), trim_self, e']
        · by_cases g2 : cntL ds (dOf i) = cntL ds (dOf b)
          · have q2 : (cntL ds (dOf i) == cntL ds (dOf b)) = true := by rw [beq_iff_eq]; exact g2
            by_cases g3 : rkN (dOf i) < rkN (dOf b)
            · have e' : bstF (cntL ds) T (i + 1) = some i := by rw [e, if_pos (by unfold Rk; omega)]
              simp only [words, ↓KLn, Nat.reduceAdd, ↓K1n, sc_and, sc_or, nth_one, hlt, decide_true, if_true, arr256 hi, arr256 hb256, lt hi, lc hi, lc hb256, hc, Bool.not_false, bstV, n1, decide_false, g1, q2, wd i hi, wd b hb256, k51, g3, Bool.true_eq_false, if_false, succ63 (show i < 9223372036854775807 by omega), trim_self, e']
            · have e' : bstF (cntL ds) T (i + 1) = some b := by rw [e, if_neg (by unfold Rk; omega)]
              simp only [words, ↓KLn, Nat.reduceAdd, ↓K1n, sc_and, sc_or, nth_one, hlt, decide_true, if_true, arr256 hi, arr256 hb256, lt hi, lc hi, lc hb256, hc, Bool.not_false, bstV, n1, decide_false, g1, q2, wd i hi, wd b hb256, k51, g3, Bool.true_eq_false, Bool.false_eq_true, if_false, succ63 (show i < 9223372036854775807 by omega), trim_self, e']
          · have q2 : (cntL ds (dOf i) == cntL ds (dOf b)) = false := by rw [beq_eq_false_iff_ne]; exact g2
            have e' : bstF (cntL ds) T (i + 1) = some b := by rw [e, if_neg (by unfold Rk; omega)]
            simp only [words, ↓KLn, Nat.reduceAdd, ↓K1n, sc_and, sc_or, nth_one, hlt, decide_true, if_true, arr256 hi, arr256 hb256, lt hi, lc hi, lc hb256, hc, Bool.not_false, bstV, n1, decide_false, g1, q2, Bool.true_eq_false, Bool.false_eq_true, if_false, succ63 (show i < 9223372036854775807 by omega), trim_self, e']
  · have hlt : ¬ ((256 : Nat) : Int) < 256 := by decide
    unfold s21_L1
    simp only [words, ↓KLn, Nat.reduceAdd, nth_one, hlt, decide_false, Bool.false_eq_true, if_false, hr]
end Go.Vm.X


set_option linter.unusedSimpArgs false
set_option linter.unusedVariables false
namespace Go.Vm.X
open Go.Am Go.Vm
attribute [local congr] bind_c ifP_c loop_c K1_c ite_c fork_c guard_c unl_c
theorem cnt_loopR {h : PHeap} {ds : List Int} {N : Nat} (hin : ∀ d ∈ ds, inB d) (hm : ds.length < 4294967296) (hN : ds.length < N) {j9 : List PV → PHeap → Pt} {R : Pt} (hr : j9 [] (h ++ [.box (cntP ds) 65 .rw]) = R) :
    loopP (s21_L3 Γ0 N (.ptr h.length 0) (ints ds, h ++ [.box (cntP []) 65 .rw]) (.int .i64 ds.length) j9) N [.int .i64 0] (h ++ [.box (cntP []) 65 .rw]) = R := by
  refine loop_run (fun i => [.int .i64 (i : Int)]) (fun i => h ++ [.box (cntP (ds.take i)) 65 .rw]) ds.length hN rfl rfl (fun i hi K => ?_) fun K => ?_
  · obtain ⟨d, hd⟩ := lt_get hi
    obtain ⟨o1, o2, o3⟩ := off128 (hin d (List.mem_of_getElem? hd))
    have ht : ds.take (i + 1) = ds.take i ++ [d] := take_succ_get hd
    have hb := cntL_le (ds.take i) d
    have hl : (ds.take i).length ≤ ds.length := by rw [List.length_take]; omega
    have w : IntKind.i64.wrap (cntL (ds.take i) d + 1) = cntL (ds.take i) d + 1 := wrap64 (by unfold isI64; omega)
    have hld := cnt_load (h := h) (ds := ds.take i) (r := []) o2
    have hput := cntP_put (ds.take i) o2
    rw [o3] at hld hput
    have iv0' : (iV d)[0]? = some (.int .i64 d) := rfl
    have htr : ∀ (a b : PBlk) (v : List PV), trim (h ++ [a]) v (h ++ [b]) = h ++ [b] := fun a b v => trim_len _ (by simp)
    unfold s21_L3
    simp only [words, ↓KLn, Nat.reduceAdd, ltT hi, decide_true, if_true, idx_ints _ hd, load_iV, iv0', o1, arr256 o2, hld, w]
    rw [ht]
    simp only [words, ↓KLn, Nat.reduceAdd, hput, st1n, cntP_get _ o2, o3, w, succ63 (show i < 9223372036854775807 by omega), htr]
  · unfold s21_L3
    simp only [words, ↓KLn, Nat.reduceAdd, ltF, decide_false, Bool.false_eq_true, if_false, List.take_length, hr]
def ascT (T : List Int) (m : Nat) : List Int := ((List.range m).map dOf).filter fun x => T.contains x
theorem ascT_succ (T : List Int) (m : Nat) : ascT T (m + 1) = if T.contains (dOf m) = true then ascT T m ++ [dOf m] else ascT T m := by
  unfold ascT
  rw [List.range_succ, List.map_append, List.filter_append]
  cases h : T.contains (dOf m) with
  | true => simp only [List.map_cons, List.map_nil, List.filter_cons, h, if_true, List.filter_nil]
  | false => simp only [List.map_cons, List.map_nil, List.filter_cons, h, if_false, List.filter_nil, List.append_nil, Bool.false_eq_true]
theorem ascT_le (T : List Int) (m : Nat) : (ascT T m).length ≤ m := by
  unfold ascT
  exact Nat.le_trans (List.length_filter_le _ _) (by simp)
theorem ascT_srt {T : List Int} (hT : ∀ x ∈ T, inB x) (hn : T.Nodup) : ascT T 256 = srt T := by
  have s1 : Srt (fun _ => 0) (fun x => x) (ascT T 256) := by
    unfold Srt ascT
    refine List.Pairwise.filter _ ?_
    rw [List.pairwise_map]
    exact List.pairwise_lt_range.imp fun h => .inr ⟨rfl, by show dOf _ < dOf _; unfold dOf; omega⟩
  have hp : (srt T).Perm T := List.mergeSort_perm _ _
  have s2 : Srt (fun _ => 0) (fun x => x) (srt T) := by
    have h1 := srt_sorted T
    have h2 : (srt T).Nodup := hp.nodup_iff.2 hn
    unfold Srt
    exact (h1.and h2).imp fun ⟨a, b⟩ => .inr ⟨rfl, Int.lt_iff_le_and_ne.2 ⟨a, b⟩⟩
  refine srt_unique s1 s2 fun x => ?_
  rw [mem_srt]
  unfold ascT
  rw [List.mem_filter, List.mem_map, List.contains_iff_mem]
  constructor
  · exact fun h => h.2
  · intro hx
    have := hT x hx
    exact ⟨⟨(x + 128).toNat, by rw [List.mem_range]; unfold inB at this; omega, by unfold dOf; unfold inB at this; omega⟩, hx⟩
theorem st1t (o : Nat) (vs : List PV) (t : TypeId) (r : PHeap) : storeP 1 (.ptr 0 o) (.bool true) (.box vs t .rw :: r) = (putAt vs o [.bool true]).map fun vs' => .box vs' t .rw :: r := st1 rfl o vs t r
theorem take_loop {h : PHeap} {ds L : List Int} (hp : L.Perm org) (hs : Srt (cntL ds) rkN L) {N : Nat} (hN : 256 < N) {j14 : List PV → PHeap → Pt} {R : Pt} (hr : j14 [] (hT h ds (L.take 16)) = R) :
    loopP (s21_L2 Γ0 N (.ptr h.length 0) (.ptr (h.length + 1) 0) (hT h ds []) j14) N [.int .i64 0] (hT h ds []) = R := by
  have hl : L.length = 256 := by rw [hp.length_eq, org_len]
  have htr : ∀ (a b a' b' : PBlk) (v : List PV), trim (h ++ [a, b]) v (h ++ [a', b']) = h ++ [a', b'] := fun a b a' b' v => trim_len _ (by simp)
  refine loop_run (fun i => [.int .i64 (i : Int)]) (fun i => hT h ds (L.take i)) 16 (by omega) rfl rfl (fun i hi K => ?_) fun K => ?_
  · obtain ⟨x, hx⟩ := lt_get (show i < L.length by omega)
    obtain ⟨b, b1, b2, b3⟩ := bst_at hp hs hx
    have hlt : (i : Int) < 16 := by omega
    have ht : L.take (i + 1) = L.take i ++ [dOf b] := by rw [take_succ_get hx, b3]
    unfold s21_L2
    simp only [words, ↓KLn, Nat.reduceAdd, hlt, decide_true, if_true]
    refine bst_loop hN ?_
    rw [b2, ht]
    unfold hT
    simp only [words, ↓KLn, Nat.reduceAdd, bstV, arr256 b1, st1t, takP_put _ b1, succ63 (show i < 9223372036854775807 by omega), htr]
  · have hlt : ¬ ((16 : Nat) : Int) < 16 := by decide
    unfold s21_L2
    simp only [words, ↓KLn, Nat.reduceAdd, hlt, decide_false, Bool.false_eq_true, if_false, hr]
theorem out_loop {h : PHeap} {ds T : List Int} {N : Nat} (hN : 256 < N) :
    loopP (s21_L0 Γ0 N (.ptr (h.length + 1) 0) (lg (hT h ds T) [] [] .rw) (fun w20 h21 => finP [.flat 1, .keep] h h21 [nthP w20 0, .int .i64 0])) N [.ref (h.length + 2) 0 0 0 1, .int .i64 0] (lg (hT h ds T) [] [] .rw) = some (.tuple [ints (ascT T 256), .int .i64 0], h) := by
  have hlT : (hT h ds T).length = h.length + 2 := by unfold hT; simp
  refine loop_run (fun i => [.ref (h.length + 2) 0 (ascT T i).length (ascT T i).length 1, .int .i64 (i : Int)]) (fun i => lg (hT h ds T) [] (ascT T i) .rw) 256 hN rfl rfl (fun i hi K => ?_) fun K => ?_
  · have hlt : (i : Int) < 256 := by omega
    have hle := ascT_le T i
    have lt : loadP false 1 (.ptr (h.length + 1) i) (lg (hT h ds T) [] (ascT T i) .rw) = some (.bool (T.contains (dOf i))) := hT_tak hi
    have wd : IntKind.i64.wrap ((i : Int) - 128) = dOf i := wrap64 (by unfold isI64; omega)
    have q := app_lg (p := hT h ds T) (l := ascT T i) (x := dOf i) (by omega)
    rw [hlT] at q
    unfold s21_L0
    rw [ascT_succ]
    cases hc : T.contains (dOf i) with
    | true =>
      simp only [words, ↓KLn, Nat.reduceAdd, nth_one, hlt, decide_true, if_true, arr256 hi, lt, hc, wd, fill_int, allI, chunkO, gT, q, succ63 (show i < 9223372036854775807 by omega), trim_lg, List.length_append]
      rfl
    | false =>
      simp only [words, ↓KLn, Nat.reduceAdd, nth_one, hlt, decide_true, if_true, arr256 hi, lt, hc, Bool.false_eq_true, if_false, succ63 (show i < 9223372036854775807 by omega), trim_lg]
  · have hlt : ¬ ((256 : Nat) : Int) < 256 := by decide
    have hle := ascT_le T 256
    unfold s21_L0
    simp only [words, ↓KLn, Nat.reduceAdd, nth_one, hlt, decide_false, Bool.false_eq_true, if_false]
    obtain ⟨md2, ez2⟩ := fz_lg (p := hT h ds T) (r := []) (l := ascT T 256) (k := (ascT T 256).length) (n := (ascT T 256).length) rfl (Nat.le_refl _)
    rw [List.take_length, hlT] at ez2
    refine fin_new (ws := [ints (ascT T 256), .int .i64 0]) (l := [.box (cntP ds) 65 .rw, .box (takP T) 69 .rw, .log ((ascT T 256).map iV) 1 3 md2]) ?_ (by simp [ltV, ints])
    simp only [fzL, fz_keep, ez2, Option.bind_some, Option.map_some]
    unfold lg hT
    simp only [List.append_assoc, List.cons_append, List.nil_append]
theorem c21 {l : List Int} (hm : l.length < 9223372036854775808) (h : PHeap) :
    (chk l 8 ≠ 0 → Γ0 21 [ints l] h = some (.tuple [ints [], .int .i64 (chk l 8)], h)) ∧ (chk l 8 = 0 → ∀ l', l'.Perm org → Srt (cntL (diffs 8 l)) rkN l' → Γ0 21 [ints l] h = some (.tuple [ints (srt (l'.take 16)), .int .i64 0], h)) := by
  constructor
  · intro h0
    refine gbody (F := A21) (by kernel_rfl) 1 ?_
    rw [s21_eq]; unfold s21
    have e : (chk l 8 != 0) = true := by rw [bne_iff_ne]; exact h0
    simp only [words, ↓KLn, Nat.reduceAdd, c26 8 hm, e, if_true, fin_ne]
  · intro h0 l' hp hs
    obtain ⟨b, _, hb, hall, hlen⟩ := chk_zero h0
    have hsm : Small l := small_all (by omega) hall
    have hdl : (diffs 8 l).length = l.length := diffs_len 8 l
    have hsub : ∀ x ∈ l'.take 16, inB x := fun x hx => (org_mem x).1 (hp.mem_iff.1 (List.mem_of_mem_take hx))
    have hnd : (l'.take 16).Nodup := (hs.sublist (List.take_sublist _ _)).imp fun hr he => by subst he; exact hr.asymm hr
    rw [← ascT_srt hsub hnd]
    obtain ⟨N, hN⟩ : ∃ N : Nat, 5000 ≤ N := ⟨5000, Nat.le_refl _⟩
    refine gbody (F := A21) (by kernel_rfl) N ?_
    rw [s21_eq]; unfold s21
    have k27 := fun H => c27 (b := 8) (by decide) (by decide) hsm (by omega) H
    have h8 : ((8 : Nat) : Int) = 8 := rfl
    rw [h8] at k27
    have e : (chk l 8 != 0) = false := by rw [h0]; rfl
    simp only [words, ↓KLn, Nat.reduceAdd, c26 8 hm, e, Bool.false_eq_true, if_false, cntP_nil, k27, len_ints]
    refine cnt_loopR (ds := diffs 8 l) (N := N) diffs8 (by omega) (by omega) ?_
    simp only [words, ↓KLn, Nat.reduceAdd, takP_nil]
    refine take_loop (h := h) (ds := diffs 8 l) (N := N) hp hs (by omega) ?_
    unfold hT
    simp only [words, ↓KLn, Nat.reduceAdd]
    have e3 : lg (hT h (diffs 8 l) (l'.take 16)) [] [] .rw = h ++ [.box (cntP (diffs 8 l)) 65 .rw, .box (takP (l'.take 16)) 69 .rw, .log [] 1 3 .rw] := by
      unfold lg hT
      simp only [List.append_assoc, List.cons_append, List.nil_append, List.map_nil]
    have q := out_loop (h := h) (ds := diffs 8 l) (T := l'.take 16) (N := N) (by omega)
    rw [e3] at q
    exact q
end Go.Vm.X


set_option linter.unusedSimpArgs false
set_option linter.unusedVariables false
namespace Go.Vm.X
open Go.Am Go.Vm
attribute [local congr] bind_c ifP_c loop_c K1_c ite_c fork_c guard_c unl_c
theorem ivG (d : Int) : (iV d)[0]? = some (.int .i64 d) := nr rfl
theorem badB_in (x : Int) : badB x = !inR 8 x := by
  have e : half 8 = 128 := rfl
  unfold badB inR
  rw [e, Bool.eq_iff_iff]
  simp only [Bool.or_eq_true, decide_eq_true_eq, Bool.not_eq_true', Bool.and_eq_false_iff, decide_eq_false_iff_not]
  omega
theorem any_badB (l : List Int) : l.any badB = !l.all (inR 8) := by
  rw [List.not_all_eq_any_not]
  congr 1
  funext x
  exact badB_in x
theorem isTab_all (t : List Int) : isTab t = (t.all (inR 8) && decide (t.length = 16)) := by
  unfold isTab
  rw [any_badB, Bool.not_not, Bool.and_comm]
theorem nibE_chk (l t : List Int) : nibE l t = if (chk l 8 == 1 || !isTab t) = true then 1 else chk l 8 := by
  unfold nibE
  rw [any_badB]
  have e : chk l 8 = if l.all (inR 8) = true then (if l.length > 4096 then 3 else 0) else 1 := rfl
  rw [e]
  cases l.all (inR 8) <;> cases isTab t <;> simp
theorem c52 {t : List Int} (hm : t.length < 9223372036854775808) (h : PHeap) : Γ0 52 [ints t] h = some (.bool (isTab t), h) := by
  refine gbody (F := A52) (by kernel_rfl) (t.length + 1) ?_
  rw [s52_eq]; unfold s52
  have k54 := fun x H => c54 (b := 8) (by decide) (by decide) x H
  have h8 : ((8 : Nat) : Int) = 8 := rfl
  simp only [h8] at k54
  obtain ⟨k, h1, h2, h3⟩ := first_not (inR 8) t
  simp only [words, ↓KLn, Nat.reduceAdd, nth_zero, nth_one, nth_two]
  refine loop_pure (fun i => [.int .i64 i]) k (by omega) rfl (fun i hi K => ?_) fun K => ?_
  · obtain ⟨a, ha⟩ := lt_len (show i < t.length by omega)
    have hp := h2 i a hi ha
    unfold s52_L0
    simp only [words, ↓KLn, Nat.reduceAdd, nth_zero, nth_one, nth_two, len_ints, ltT (show i < t.length by omega), decide_true, if_true, idx_ints _ ha, load_iV, ivG, k54, hp, Bool.not_true, Bool.false_eq_true, if_false, succ63 (show i < 9223372036854775807 by omega), trim_self]
  · rcases h3 with ⟨h3, h4⟩ | ⟨a, h3, h4, h5⟩
    · subst h3
      have e : ((t.length : Int) == 16) = decide (t.length = 16) := by
        rw [Bool.eq_iff_iff]
        simp only [beq_iff_eq, decide_eq_true_eq]
        omega
      unfold s52_L0
      simp only [words, ↓KLn, Nat.reduceAdd, nth_zero, nth_one, nth_two, len_ints, ltF, decide_false, Bool.false_eq_true, if_false, e, fin_bool0]
      rw [isTab_all, h4, Bool.true_and]
    · have hk := some_lt h3
      unfold s52_L0
      simp only [words, ↓KLn, Nat.reduceAdd, nth_zero, nth_one, nth_two, len_ints, ltT hk, decide_true, if_true, idx_ints _ h3, load_iV, ivG, k54, h4, Bool.not_false, fin_bool0]
      rw [isTab_all, h5, Bool.false_and]
def bestR (p x : Int) (t : List Int) : Nat → Nat × Int
  | 0 => (0, 1000)
  | k + 1 => if far p x (t.getD k 0) < (bestR p x t k).2 then (k, far p x (t.getD k 0)) else bestR p x t k
theorem far_lt {p x d : Int} (hx : -128 ≤ x ∧ x ≤ 127) : far p x d < 1000 := by
  have := in8 (wrapB_range 8 (p + d))
  unfold far; omega
theorem bestR_eq {p x : Int} {t : List Int} (hx : -128 ≤ x ∧ x ≤ 127) : ∀ k, bestR p x t (k + 1) = bestN p x t (k + 1)
  | 0 => by
    have := far_lt (p := p) (d := t.getD 0 0) hx
    unfold bestR bestN bestR bestN
    rw [if_pos (by exact this), if_pos (by show _ < 1073741824; omega)]
  | k + 1 => by
    rw [bestR, bestN, bestR_eq hx k]
theorem nibR0 {t l : List Int} (ht : t.length = 16) (htr : ∀ x ∈ t, -128 ≤ x ∧ x ≤ 127) {p x : Int} (hp : -128 ≤ p ∧ p < 128) (hx : -128 ≤ x ∧ x ≤ 127) {i : Nat} (hi : l[i]? = some x) (H : PHeap) (j : List PV → PHeap → Pt) (n fuel : Nat) (hf : 16 < fuel) {R : Pt} (hr : j [.int .i64 ((bestN p x t 16).1 : Int)] H = R) :
    loopP (s22_L0 Γ0 n (ints l) (ints t) [.int .i64 p, .int .i64 i] H j) fuel [.int .i64 0, .int .i64 1000, .int .i64 0] H = R := by
  refine loop_pure (fun k => [.int .i64 ((bestR p x t k).1 : Int), .int .i64 (bestR p x t k).2, .int .i64 (k : Int)]) 16 hf rfl (fun k hk K => ?_) fun K => ?_
  · obtain ⟨d, hd⟩ := lt_len (show k < t.length by omega)
    have hdr := htr d (List.mem_of_getElem? hd)
    have hw := in8 (wrapB_range 8 (p + d))
    have e1 : IntKind.i64.wrap (p + d) = p + d := wrap64 (by unfold isI64; omega)
    have e2 : IntKind.i64.wrap (wrapB 8 (p + d) - x) = wrapB 8 (p + d) - x := wrap64 (by unfold isI64; omega)
    have e3 : IntKind.i64.wrap (0 - (wrapB 8 (p + d) - x)) = 0 - (wrapB 8 (p + d) - x) := wrap64 (by unfold isI64; omega)
    have hb : bestR p x t (k + 1) = if far p x d < (bestR p x t k).2 then (k, far p x d) else bestR p x t k := by
      show (if far p x (t.getD k 0) < (bestR p x t k).2 then (k, far p x (t.getD k 0)) else bestR p x t k) = _
      rw [getD_of hd]
    have hlt : (k : Int) < 16 := by omega
    have hfar : max (wrapB 8 (p + d) - x) (0 - (wrapB 8 (p + d) - x)) = far p x d := rfl
    have h8 : ((8 : Nat) : Int) = 8 := rfl
    have k43 := fun H => c43 (b := 8) (by decide) (by decide) (p + d) H
    simp only [h8] at k43
    unfold s22_L0
    simp only [words, ↓KLn, Nat.reduceAdd, nth_zero, nth_one, nth_two, hlt, decide_true, if_true, idx_ints _ hd, idx_ints _ hi, load_iV, ivG, e1, k43, e2, un_neg, e3, fold1_two, max2_i, hfar, hb, trim_self, succ63 (show k < 9223372036854775807 by omega)]
    by_cases hc : far p x d < (bestR p x t k).2
    · simp only [hc, decide_true, if_true, words, ↓KLn, Nat.reduceAdd, nth_zero, nth_one, nth_two, trim_self, succ63 (show k < 9223372036854775807 by omega)]
    · simp only [hc, decide_false, Bool.false_eq_true, if_false, words, ↓KLn, Nat.reduceAdd, nth_zero, nth_one, nth_two, trim_self, succ63 (show k < 9223372036854775807 by omega)]
  · have hlt : ¬ ((16 : Nat) : Int) < 16 := by decide
    unfold s22_L0
    simp only [words, ↓KLn, Nat.reduceAdd, nth_zero, nth_one, nth_two, hlt, decide_false, Bool.false_eq_true, if_false]
    rw [bestR_eq hx 15]
    exact hr
theorem shl_u8v (a b : Nat) (ha : a * 2 ^ b < 256) (hb : b ≤ 7) : binP .shl (.int .u8 (a : Int)) (.int .i64 (b : Int)) = some (.int .u8 ((a * 2 ^ b : Nat) : Int)) := by
  rw [bin_shl _ _ _ _ (by omega), Int.toNat_natCast, show min b IntKind.u8.bits = b by show min b 8 = b; omega]
  congr 2
  have e : (a : Int) * 2 ^ b = ((a * 2 ^ b : Nat) : Int) := by simp
  rw [e]
  exact wrapu8 _ ha
theorem c22 {l t : List Int} (hm : l.length < 9223372036854775808) (htm : t.length < 9223372036854775808) (h : PHeap) : Γ0 22 [ints l, ints t] h = some (.tuple [u8s (nibO l t), .int .i64 (nibE l t)], h) := by
  obtain ⟨N, hN⟩ : ∃ N : Nat, 5000 ≤ N := ⟨5000, Nat.le_refl _⟩
  refine gbody (F := A22) (by kernel_rfl) N ?_
  rw [s22_eq]; unfold s22 nibO
  rw [nibE_chk]
  simp only [words, ↓KLn, Nat.reduceAdd, nth_zero, nth_one, nth_two, c26 8 hm, c52 htm, sc_or]
  have n1 : ¬ (1 : Int) = 0 := by decide
  cases hc : chk l 8 == 1 with
  | true => simp only [words, ↓KLn, Nat.reduceAdd, nth_zero, nth_one, nth_two, Bool.true_eq_false, if_false, if_true, Bool.true_or, n1, fin_err]
  | false =>
    cases hT : isTab t with
    | false => simp only [words, ↓KLn, Nat.reduceAdd, nth_zero, nth_one, nth_two, Bool.not_false, if_true, Bool.or_true, n1, if_false, fin_err]
    | true =>
      simp only [words, ↓KLn, Nat.reduceAdd, nth_zero, nth_one, nth_two, Bool.not_true, Bool.false_eq_true, if_false, if_true, Bool.or_false]
      by_cases h0 : chk l 8 = 0
      · obtain ⟨b, hb8, _, h3, h4⟩ := chk_zero h0
        obtain rfl : b = 8 := by omega
        obtain ⟨ht, htr⟩ := isTab_get hT
        have hlr : ∀ x ∈ l, -128 ≤ x ∧ x ≤ 127 := fun x hx => by
          have := in8 (List.all_eq_true.1 h3 x hx)
          omega
        have hq : binP .quo (.int .i64 ((l.length + 1 : Nat) : Int)) (.int .i64 2) = some (.int .i64 (((l.length + 1) / 2 : Nat) : Int)) := quo_nat _ 2 (by decide) (by omega)
        have hrep : List.replicate ((l.length + 1) / 2) (u8V 0) = (nibs (nib t l) ((l.length + 1) / 2) 0).map u8V := by
          refine List.ext_getElem? fun j => ?_
          rw [List.getElem?_map]
          by_cases hj : j < (l.length + 1) / 2
          · rw [nibs_get hj, List.getElem?_replicate, if_pos hj]; rfl
          · rw [List.getElem?_eq_none (by simp; omega), List.getElem?_eq_none (by rw [nibs_len]; omega)]; rfl
        have e0 : (chk l 8 != 0) = false := by rw [h0]; rfl
        have w1 : IntKind.i64.wrap ((l.length : Int) + 1) = ((l.length + 1 : Nat) : Int) := by rw [wrap64 (by unfold isI64; omega)]; omega
        simp only [words, ↓KLn, Nat.reduceAdd, nth_zero, nth_one, nth_two, e0, Bool.false_eq_true, if_false, len_ints, w1, hq, mk_u8 5 ((l.length + 1) / 2) (by omega), h0, if_true]
        rw [hrep]
        generalize hL : (l.length + 1) / 2 = L
        refine loop_run (fun i => [.int .i64 (pos t l i), .int .i64 (i : Int)]) (fun i => h ++ [.log ((nibs (nib t l) L i).map u8V) 1 5 .rw]) l.length (by omega) rfl rfl (fun i hi K => ?_) fun K => ?_
        · obtain ⟨a, ha⟩ := lt_len hi
          have hnb := nib_lt t l
          have hn : (bestN (pos t l i) a t 16).1 = nib t l i := by unfold nib; rw [getD_of ha]
          obtain ⟨d, hd⟩ := lt_len (show nib t l i < t.length by have := hnb i; omega)
          have hdr := htr d (List.mem_of_getElem? hd)
          have hpi := pos_in t l i
          have hps : wrapB 8 (pos t l i + d) = pos t l (i + 1) := by
            show _ = wrapB 8 (pos t l i + t.getD (nib t l i) 0)
            rw [getD_of hd]
          have e1 : IntKind.i64.wrap (pos t l i + d) = pos t l i + d := wrap64 (by unfold isI64; omega)
          have k43 := fun H => c43 (b := 8) (by decide) (by decide) (pos t l i + d) H
          have h8 : ((8 : Nat) : Int) = 8 := rfl
          simp only [h8, hps] at k43
          have q2 : binP .quo (.int .i64 (i : Int)) (.int .i64 2) = some (.int .i64 ((i / 2 : Nat) : Int)) := quo_nat i 2 (by decide) (by omega)
          have r2 : binP .rem (.int .i64 (i : Int)) (.int .i64 2) = some (.int .i64 ((i % 2 : Nat) : Int)) := rem_nat i 2 (by decide)
          have hm4 : IntKind.i64.wrap (4 * ((i % 2 : Nat) : Int)) = ((4 * (i % 2) : Nat) : Int) := by rw [wrap64 (by unfold isI64; omega)]; omega
          have hmod := Nat.mod_lt i (show 0 < 2 by decide)
          have hp4 : 2 ^ (4 * (i % 2)) ≤ 16 := by
            rcases Nat.mod_two_eq_zero_or_one i with e | e <;> rw [e] <;> decide
          have hnm : nib t l i * 2 ^ (4 * (i % 2)) < 256 := by
            have := Nat.mul_le_mul (show nib t l i ≤ 15 by have := hnb i; omega) hp4
            omega
          have hn256 : nib t l i < 256 := by have := hnb i; omega
          have hsh := shl_u8v (nib t l i) (4 * (i % 2)) hnm (by omega)
          have hi2 : i / 2 < L := by omega
          have hrow : ((nibs (nib t l) L i).map u8V)[i / 2]? = some (u8V (nibB (nib t l) i (i / 2))) := by rw [List.getElem?_map, nibs_get hi2]; rfl
          have hget : (h ++ [PBlk.log ((nibs (nib t l) L i).map u8V) 1 5 .rw])[h.length]? = some (.log ((nibs (nib t l) L i).map u8V) 1 5 .rw) := by rw [get_new0]; rfl
          have hlen : L = ((nibs (nib t l) L i).map u8V).length := by rw [List.length_map, nibs_len]
          have hld : loadP false 1 (.lptr h.length (i / 2) 0 L 1) (h ++ [PBlk.log ((nibs (nib t l) L i).map u8V) 1 5 .rw]) = some (.int .u8 (nibB (nib t l) i (i / 2) : Nat)) := by
            rw [load_log hget hlen hrow]; rfl
          have hor := or_byte (nibB (nib t l) i (i / 2)) (nib t l i * 2 ^ (4 * (i % 2))) (nibB_lt hnb _ _) hnm
          rw [nib_or hnb] at hor
          have hst := store_el (v := .int .u8 ((nibB (nib t l) (i + 1) (i / 2) : Nat) : Int)) hget hlen hrow rfl
          have hset : ((nibs (nib t l) L i).map u8V).set (i / 2) [.int .u8 ((nibB (nib t l) (i + 1) (i / 2) : Nat) : Int)] = (nibs (nib t l) L (i + 1)).map u8V := by
            rw [← nibs_set hi2, List.map_set]; rfl
          rw [hset, set_new0, List.set_cons_zero] at hst
          unfold s22_L1
          simp only [words, ↓KLn, Nat.reduceAdd, nth_zero, nth_one, nth_two, len_ints, ltT hi, decide_true, if_true]
          refine nibR0 ht htr hpi (hlr a (List.mem_of_getElem? ha)) ha _ _ _ _ (by omega) ?_
          rw [hn]
          simp only [words, ↓KLn, Nat.reduceAdd, nth_zero, nth_one, nth_two, idx_ints _ hd, load_iV, ivG, e1, k43, q2, idx_ref _ hi2, Nat.zero_add, hld, r2, bin_mul, hm4, conv_int, wrapu8 _ hn256, hsh, hor, hst, succ63 (show i < 9223372036854775807 by omega)]
          rw [trim_len _ (by simp)]
        · unfold s22_L1
          simp only [words, ↓KLn, Nat.reduceAdd, nth_zero, nth_one, nth_two, len_ints, ltF, decide_false, Bool.false_eq_true, if_false]
          have := fin_bytes (h := h) (s := 1) (t := 5) (xs := nibs (nib t l) L l.length) 0
          rw [nibs_len] at this
          exact this
      · have e0 : (chk l 8 != 0) = true := by rw [bne_iff_ne]; exact h0
        simp only [words, ↓KLn, Nat.reduceAdd, nth_zero, nth_one, nth_two, e0, if_true, h0, if_false, fin_err]
end Go.Vm.X


set_option linter.unusedSimpArgs false
set_option linter.unusedVariables false
namespace Go.Vm.X
open Go.Am Go.Vm
attribute [local congr] bind_c ifP_c loop_c K1_c ite_c fork_c guard_c unl_c
theorem u8G (a : Nat) : (u8V a)[0]? = some (.int .u8 (a : Int)) := nr rfl
def sumsN (U : List Int) (i : Nat) : List Int := (List.range i).map fun i => sumAt 8 U (i + 1)
theorem sumsN_len (U : List Int) (i : Nat) : (sumsN U i).length = i := by simp [sumsN]
theorem sumsN_succ (U : List Int) (i : Nat) : sumsN U (i + 1) = sumsN U i ++ [sumAt 8 U (i + 1)] := by unfold sumsN; rw [List.range_succ, List.map_append]; rfl
theorem c23 {b : List Nat} (hb : ∀ x ∈ b, x < 256) {t : List Int} (htm : t.length < 9223372036854775808) (n : Int) (h : PHeap) : Γ0 23 [u8s b, ints t, .int .i64 n] h = some (unnR b t n, h) := by
  obtain ⟨N, hN⟩ : ∃ N : Nat, 5000 ≤ N := ⟨5000, Nat.le_refl _⟩
  refine gbody (F := A23) (by kernel_rfl) N ?_
  rw [s23_eq]; unfold s23 unnR unnE
  have n1 : ¬ (1 : Int) = 0 := by decide
  simp only [words, ↓KLn, Nat.reduceAdd, c52 htm]
  cases hT : isTab t with
  | false => simp only [words, ↓KLn, Nat.reduceAdd, Bool.not_false, if_true, Bool.false_eq_true, if_false, n1, fin_3e]
  | true =>
    obtain ⟨ht, htr⟩ := isTab_get hT
    simp only [words, ↓KLn, Nat.reduceAdd, Bool.not_true, Bool.false_eq_true, if_false, if_true, c42]
    by_cases ha : askd b n = 0
    · obtain ⟨hlen, m, rfl, hm⟩ := askd_zero ha
      have e0 : (askd b (m : Int) != 0) = false := by rw [ha]; rfl
      have hMd : unnM b (m : Int) = min m (2 * b.length) := by unfold unnM; rw [Int.toNat_natCast]
      simp only [words, ↓KLn, Nat.reduceAdd, e0, ha, Bool.false_eq_true, if_false, if_true, hMd, Int.toNat_natCast]
      generalize hM : min m (2 * b.length) = M
      have hMm : M ≤ m := by omega
      have hMb : M ≤ 2 * b.length := by omega
      refine loop_run (fun i => [.ref h.length 0 i i 1, .int .i64 (sumAt 8 (unT b t M) i), .int .i64 (i : Int)]) (fun i => h ++ [.log ((sumsN (unT b t M) i).map iV) 1 3 .rw]) M (by omega) rfl rfl (fun i hi K => ?_) fun K => ?_
      · have hi2 : i / 2 < b.length := by omega
        obtain ⟨a, ha2⟩ := lt_len hi2
        have ha256 := hb a (List.mem_of_getElem? ha2)
        have hun : unN b i = a / 2 ^ (4 * (i % 2)) % 16 := by unfold unN; rw [getD_nat ha2]
        obtain ⟨d, hd⟩ := lt_len (show a / 2 ^ (4 * (i % 2)) % 16 < t.length by omega)
        have hdr := htr d (List.mem_of_getElem? hd)
        have hmod := Nat.mod_lt i (show 0 < 2 by decide)
        have q2 : binP .quo (.int .i64 (i : Int)) (.int .i64 2) = some (.int .i64 ((i / 2 : Nat) : Int)) := quo_nat i 2 (by decide) (by omega)
        have r2 : binP .rem (.int .i64 (i : Int)) (.int .i64 2) = some (.int .i64 ((i % 2 : Nat) : Int)) := rem_nat i 2 (by decide)
        have hm4 : IntKind.i64.wrap (4 * ((i % 2 : Nat) : Int)) = ((4 * (i % 2) : Nat) : Int) := by rw [wrap64 (by unfold isI64; omega)]; omega
        have hsh := shr_u8 a (4 * (i % 2)) (by omega) ha256
        have han := and15_u8 (a / 2 ^ (4 * (i % 2))) (Nat.lt_of_le_of_lt (Nat.div_le_self _ _) ha256)
        have hget : (unT b t M).getD i 0 = d := by
          refine getD_of ?_
          unfold unT
          rw [List.getElem?_map, List.getElem?_range hi]
          show some (t.getD (unN b i) 0) = _
          rw [hun, getD_of hd]
        have hs := small_sum (b := 8) (by decide) (unT b t M) i
        have e1 : IntKind.i64.wrap (sumAt 8 (unT b t M) i + d) = sumAt 8 (unT b t M) i + d := wrap64 (by unfold isI64; omega)
        have hw : wrapB 8 (sumAt 8 (unT b t M) i + d) = sumAt 8 (unT b t M) (i + 1) := by rw [sumAt, hget]
        have k43 := fun H => c43 (b := 8) (by decide) (by decide) (sumAt 8 (unT b t M) i + d) H
        have h8 : ((8 : Nat) : Int) = 8 := rfl
        simp only [h8, hw] at k43
        have ap := append_one (h := h) (l := [.log ((sumsN (unT b t M) i).map iV) 1 3 .rw]) (k := 0) (v := .int .i64 (sumAt 8 (unT b t M) (i + 1))) i (by simp [sumsN_len]) rfl rfl (by unfold mostLen; omega)
        simp only [Nat.add_zero, List.set_cons_zero] at ap
        have hlt : (i : Int) < (m : Int) := by omega
        have hlt2 : ((i / 2 : Nat) : Int) < (b.length : Int) := by omega
        unfold s23_L0
        simp only [words, ↓KLn, Nat.reduceAdd, nth_zero, nth_one, nth_two, hlt, decide_true, sc_and, if_true, q2, len_u8s, hlt2, idx_u8s _ ha2, load_u8V, u8G, r2, bin_mul, hm4, hsh, han, idx_ints _ hd, load_iV, ivG, e1, k43, fill_int, all_one, pure1, guard_true, chunk_one, ap, succ63 (show i < 9223372036854775807 by omega)]
        rw [trim_len _ (by simp), sumsN_succ, List.map_append]
        rfl
      · have e := fz_logI (h := h) (l := [.log ((sumsN (unT b t M) M).map iV) 1 3 .rw]) (k := 0) (s := 1) M (by simp [sumsN_len]) rfl
        simp only [Nat.add_zero] at e
        have hsub : IntKind.i64.wrap ((m : Int) - (M : Int)) = ((m - M : Nat) : Int) := by rw [wrap64 (by unfold isI64; omega)]; omega
        have hsum : sumsN (unT b t M) M = sums 8 (unT b t M) := by unfold sumsN sums; rw [unT_len]
        have k44 := fun H => c44 (l := sumsN (unT b t M) M) (n := m) (by rw [sumsN_len]; exact hMm) hm H
        have q2 : binP .quo (.int .i64 (M : Int)) (.int .i64 2) = some (.int .i64 ((M / 2 : Nat) : Int)) := quo_nat M 2 (by decide) (by omega)
        have go : ∀ A : Pt, (loopP (s23_L0 Γ0 N (u8s b) (ints t) (.int .i64 (m : Int)) (h ++ [.log [] 1 3 .rw]) fun x y => A) 0 [] [] = none) := fun A => rfl
        unfold s23_L0
        by_cases g : (M : Int) < (m : Int)
        · have g2 : ¬ ((M / 2 : Nat) : Int) < (b.length : Int) := by omega
          simp only [words, ↓KLn, Nat.reduceAdd, nth_zero, nth_one, nth_two, g, decide_true, sc_and, if_true, q2, len_u8s, g2, decide_false, Bool.false_eq_true, if_false]
          rw [e]
          simp only [words, ↓KLn, Nat.reduceAdd, k44, len_ref, hsub, fin_3]
          rw [hsum]
        · simp only [words, ↓KLn, Nat.reduceAdd, nth_zero, nth_one, nth_two, g, decide_false, sc_and, Bool.false_eq_true, if_false]
          rw [e]
          simp only [words, ↓KLn, Nat.reduceAdd, k44, len_ref, hsub, fin_3]
          rw [hsum]
    · have e0 : (askd b n != 0) = true := by rw [bne_iff_ne]; exact ha
      simp only [words, ↓KLn, Nat.reduceAdd, e0, if_true, ha, if_false, fin_3e]
theorem unnR_is (b : List Nat) (t : List Int) (n : Int) : ∃ A x e, unnR b t n = .tuple [ints A, .int .i64 x, .int .i64 e] ∧ A.length ≤ 4096 := by
  unfold unnR
  split
  · rename_i h
    refine ⟨_, _, _, rfl, ?_⟩
    rw [padL_len]
    unfold unnE at h
    split at h
    · obtain ⟨_, m, rfl, hm⟩ := askd_zero h
      exact hm
    · exact absurd h (by decide)
  · exact ⟨_, _, _, rfl, by simp⟩
theorem sneN (s : ByteArray) : binP .neq (.str s) (.str s) = some (.bool false) := by rw [bin_sne, beq_self_eq_true]; rfl
theorem c7 {l t : List Int} {b : List Nat} (hm : l.length < 9223372036854775808) (htm : t.length < 9223372036854775808) (hb : ∀ x ∈ b, x < 256) (n : Int) (h : PHeap) : Γ0 7 [ints l, ints t, u8s b, .int .i64 n] h = some (.bool true, h) := by
  refine gbody (F := A7) (by kernel_rfl) 1 ?_
  rw [s7_eq]; unfold s7
  by_cases hl : (l.length : Int) > 6000
  · simp only [words, ↓KLn, Nat.reduceAdd, len_ints, hl, decide_true, if_true, c8, fin_bool0]
  · have hT : ∃ T e, Γ0 20 [ints l] h = some (.tuple [ints T, .int .i64 e], h) ∧ Γ0 21 [ints l] h = some (.tuple [ints T, .int .i64 e], h) ∧ T.length ≤ 16 := by
      rcases c20 hm h with ⟨h0, e⟩ | ⟨h0, l', hp, hs, e⟩
      · exact ⟨[], _, e, (c21 hm h).1 h0, by simp⟩
      · exact ⟨_, _, e, (c21 hm h).2 h0 l' hp hs, by rw [srt_len, List.length_take]; omega⟩
    obtain ⟨T, e, k20, k21, hTl⟩ := hT
    obtain ⟨A, x, e2, hA, hAl⟩ := unnR_is b t n
    simp only [words, ↓KLn, Nat.reduceAdd, len_ints, hl, decide_false, Bool.false_eq_true, if_false, k20, k21, y20, y21, c13 hm htm, c22 hm htm, str_u8s, sneN, bne_self_eq_false, sc_or, if_true, c15 T (by omega), Bool.not_true, c14 hb htm, c23 hb htm, hA, y30, y31, y32, beq_self_eq_true, sc_and, c15 A (by omega), c8, fin_bool0]
end Go.Vm.X


namespace Go.Proofs
open Go.Shelf
def Try.lays189_ren : Go.Shelf.Ren := ⟨fun | 189 => 50 | 125 => 63 | 257 => 62 | 128 => 76 | 129 => 77 | 294 => 67 | 295 => 68 | 296 => 69 | 297 => 70 | 298 => 71 | 299 => 72 | 216 => 73 | 300 => 74 | 301 => 75 | 328 => 79 | 329 => 80 | 330 => 81 | 331 => 82 | 332 => 83 | 215 => 84 | 343 => 86 | n => n, fun | 28 => 22 | 3 => 3 | 46 => 44 | 0 => 0 | 51 => 86 | 53 => 88 | 4 => 4 | 183 => 80 | 182 => 79 | 131 => 83 | 5 => 5 | 9 => 9 | 218 => 89 | 222 => 93 | 228 => 95 | 229 => 96 | n => n, fun | n => n⟩
theorem Try.lays189 : Go.Proofs.Lays.n189 Try.prog Try.lays189_ren := {
  mixed := by kernel_rfl
  f125 := Try.func63.trans (congrArg some (by kernel_rfl))
  f128 := Try.func76.trans (congrArg some (by kernel_rfl))
  f129 := Try.func77.trans (congrArg some (by kernel_rfl))
  f189 := Try.func50.trans (congrArg some (by kernel_rfl))
  f215 := Try.func84.trans (congrArg some (by kernel_rfl))
  f216 := Try.func73.trans (congrArg some (by kernel_rfl))
  f257 := Try.func62.trans (congrArg some (by kernel_rfl))
  f294 := Try.func67.trans (congrArg some (by kernel_rfl))
  f295 := Try.func68.trans (congrArg some (by kernel_rfl))
  f296 := Try.func69.trans (congrArg some (by kernel_rfl))
  f297 := Try.func70.trans (congrArg some (by kernel_rfl))
  f298 := Try.func71.trans (congrArg some (by kernel_rfl))
  f299 := Try.func72.trans (congrArg some (by kernel_rfl))
  f300 := Try.func74.trans (congrArg some (by kernel_rfl))
  f301 := Try.func75.trans (congrArg some (by kernel_rfl))
  f328 := Try.func79.trans (congrArg some (by kernel_rfl))
  f329 := Try.func80.trans (congrArg some (by kernel_rfl))
  f330 := Try.func81.trans (congrArg some (by kernel_rfl))
  f331 := Try.func82.trans (congrArg some (by kernel_rfl))
  f332 := Try.func83.trans (congrArg some (by kernel_rfl))
  f343 := Try.func86.trans (congrArg some (by kernel_rfl))
  t0 := Try.underlying0
  a0 := Try.isAgg0
  z0 := Try.sizeOf0
  v0 := Try.zeroValue0
  t3 := Try.underlying3
  a3 := Try.isAgg3
  z3 := Try.sizeOf3
  v3 := Try.zeroValue3
  t4 := Try.underlying4
  a4 := Try.isAgg4
  z4 := Try.sizeOf4
  v4 := Try.zeroValue4
  t5 := Try.underlying5
  a5 := Try.isAgg5
  z5 := Try.sizeOf5
  v5 := Try.zeroValue5
  t9 := Try.underlying9
  a9 := Try.isAgg9
  z9 := Try.sizeOf9
  v9 := Try.zeroValue9
  t28 := Try.underlying22
  a28 := Try.isAgg22
  z28 := Try.sizeOf22
  v28 := Try.zeroValue22
  t46 := Try.underlying44
  a46 := Try.isAgg44
  z46 := Try.sizeOf44
  v46 := Try.zeroValue44
  t51 := Try.underlying86
  a51 := Try.isAgg86
  z51 := Try.sizeOf86
  v51 := Try.zeroValue86
  t53 := Try.underlying88
  a53 := Try.isAgg88
  z53 := Try.sizeOf88
  v53 := Try.zeroValue88
  t131 := Try.underlying83
  a131 := Try.isAgg83
  z131 := Try.sizeOf83
  v131 := Try.zeroValue83
  t182 := Try.underlying79
  a182 := Try.isAgg79
  z182 := Try.sizeOf79
  v182 := Try.zeroValue79
  t183 := Try.underlying80
  a183 := Try.isAgg80
  z183 := Try.sizeOf80
  v183 := Try.zeroValue80
  t218 := Try.underlying89
  a218 := Try.isAgg89
  z218 := Try.sizeOf89
  v218 := Try.zeroValue89
  t222 := Try.underlying93
  a222 := Try.isAgg93
  z222 := Try.sizeOf93
  v222 := Try.zeroValue93
  t228 := Try.underlying95
  a228 := Try.isAgg95
  z228 := Try.sizeOf95
  v228 := Try.zeroValue95
  t229 := Try.underlying96
  a229 := Try.isAgg96
  z229 := Try.sizeOf96
  v229 := Try.zeroValue96 }
end Go.Proofs
namespace Go.Vm.X
open Go.Am Go.Vm Go.Proofs
theorem sort_enters : ∀ (xs : Array Value) (w : World), (callFunc 50 xs).run Try.prog w = .ok (.enter 50 xs) w := fun xs w => enter_run Try.func50 rfl (by kernel_rfl)
theorem sort_ok : CallOk Try.prog (sortA 50) := sortA_ok (L := [50, Try.lays189_ren.f 191, 62, 63, 67, 68, 69, 70, 71, 72, 73, 74, 75, 77, 79, 80, 81, 82, 83, 84, 86]) sort_enters (fun D blk off cap zs w hH hb hl => AnyS.slices_Sort_int_in Try.lays189 D blk off cap zs w hH hb hl) (fun D p cap w => AnyS.slices_Sort_int_none_in Try.lays189 D p cap w) rfl
theorem sort_sim {T : ATable} (hT : T.get 50 = none) : CallR (sortP 50) (run (sortA 50) T) := sim_run (fun f args h r hr => by obtain rfl := sortP_at hr; exact ⟨rfl, hT⟩) (sortP_sim 50)
end Go.Vm.X


namespace Go.Vm.X
open Go.Am Go.Vm
theorem c7i {l t b : List Int} (hm : l.length ≤ maxLen) (htm : t.length ≤ maxLen) (hb : ∀ a ∈ b, (Lit.int .u8 a).wf = true) (n : Int) (h : PHeap) : Γ0 7 [ints l, ints t, .frz 1 (b.map (kV .u8)), .int .i64 n] h = some (.bool true, h) := by
  rw [(u8s_of hb).1]
  exact c7 (by unfold maxLen at hm; omega) (by unfold maxLen at htm; omega) (u8s_of hb).2 n h
end Go.Vm.X

