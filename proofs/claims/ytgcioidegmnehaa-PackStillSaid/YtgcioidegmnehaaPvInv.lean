/- Packing: what is written is read as it was. Plain Lean. -/
import Derived.Test.YtgcioidegmnehaaPvReads
set_option linter.unusedSimpArgs false
set_option linter.unusedVariables false
namespace Go.Vm.X
open Go.Am Go.Vm

theorem wrapB_addl (b : Nat) (x y : Int) : wrapB b (wrapB b x + y) = wrapB b (x + y) := by
  unfold wrapB
  rw [show (x + half b) % (2 * half b) - half b + y + half b = (x + half b) % (2 * half b) + y by omega, Int.emod_add_emod, show x + half b + y = x + y + half b by omega]
theorem wrapB_addr (b : Nat) (x y : Int) : wrapB b (y + wrapB b x) = wrapB b (y + x) := by rw [Int.add_comm, wrapB_addl, Int.add_comm]
theorem inR_getD {k : Nat} {l : List Int} (h : l.all (inR k) = true) {i : Nat} {a : Int} (ha : l[i]? = some a) : inR k a = true := List.all_eq_true.1 h a (List.mem_of_getElem? ha)
/-! ### Sums of differences -/
theorem diffs_get {b : Nat} {l : List Int} {i : Nat} (h : i < l.length) : (diffs b l)[i]? = some (wrapB b (l.getD i 0 - prevOf l i)) := by
  unfold diffs diffsN
  rw [List.getElem?_map, List.getElem?_range h]; rfl
theorem sum_diffs {b : Nat} {l : List Int} (h : l.all (inR b) = true) : ∀ i, i ≤ l.length → sumAt b (diffs b l) i = prevOf l i
  | 0, _ => rfl
  | i + 1, hi => by
    obtain ⟨a, ha⟩ := lt_len (show i < l.length by omega)
    have e := sum_diffs h i (by omega)
    show wrapB b (sumAt b (diffs b l) i + (diffs b l).getD i 0) = l.getD i 0
    rw [e, getD_of (diffs_get (b := b) (show i < l.length by omega)), wrapB_addr, getD_of ha, show prevOf l i + (a - prevOf l i) = a by omega, wrapB_self (inR_getD h ha)]
theorem map_getD (l : List Int) : ((List.range l.length).map fun i => l.getD i 0) = l := by
  refine List.ext_getElem? fun i => ?_
  rw [List.getElem?_map]
  by_cases h : i < l.length
  · rw [List.getElem?_range h]
    obtain ⟨a, ha⟩ := lt_len h
    rw [ha]; show some (l.getD i 0) = some a
    rw [getD_of ha]
  · rw [List.getElem?_eq_none (by simpa using h), List.getElem?_eq_none (by omega)]; rfl
theorem sums_diffs {b : Nat} {l : List Int} (h : l.all (inR b) = true) : sums b (diffs b l) = l := by
  unfold sums
  rw [diffs_len]
  have : ((List.range l.length).map fun i => sumAt b (diffs b l) (i + 1)) = (List.range l.length).map fun i => l.getD i 0 := List.map_congr_left fun i hi => by
    rw [List.mem_range] at hi
    exact sum_diffs h (i + 1) hi
  rw [this, map_getD]
theorem sumAt_take (b : Nat) (l : List Int) (k : Nat) : ∀ i, i ≤ k → sumAt b (l.take k) i = sumAt b l i
  | 0, _ => rfl
  | i + 1, hi => by
    show wrapB b (sumAt b (l.take k) i + (l.take k).getD i 0) = wrapB b (sumAt b l i + l.getD i 0)
    rw [sumAt_take b l k i (by omega), List.getD_eq_getElem?_getD, List.getD_eq_getElem?_getD, List.getElem?_take_of_lt (by omega)]
theorem sums_take (b : Nat) (l : List Int) (k : Nat) : sums b (l.take k) = (sums b l).take k := by
  unfold sums
  rw [← List.map_take, List.take_range, List.length_take]
  refine List.map_congr_left fun i hi => ?_
  rw [List.mem_range] at hi
  exact sumAt_take b l k (i + 1) (by omega)
theorem all_diffs (b : Nat) (l : List Int) : (diffs b l).all (inR b) = true := List.all_eq_true.2 (diffs_in b l)
theorem decL_codedL {b : Nat} {l : List Int} (h : l.all (inR b) = true) (v : Int) : decL v b (codedL v b l) = l := by
  unfold decL codedL
  split
  · rw [sums_diffs (all_diffs b l), sums_diffs h]
  · exact sums_diffs h
theorem decL_take (v : Int) (b : Nat) (l : List Int) (k : Nat) : decL v b (l.take k) = (decL v b l).take k := by
  unfold decL
  split
  · rw [sums_take, sums_take]
  · exact sums_take _ _ _
/-! ### Delta -/
theorem wrapB_nat {w : Nat} (hw : 1 ≤ w) {x : Int} {n : Nat} (h : (n : Int) = x % ((2 ^ w : Nat) : Int)) (hx : inR w x = true) : wrapB w (n : Int) = x := by
  have hp := Nat.two_pow_pos w
  rw [h, wrapB_low, half_two hw, Int.emod_emod_of_dvd _ (Int.dvd_refl _), ← half_two hw, ← wrapB_low, wrapB_self hx]
theorem delta8 (l : List Int) : deltaB 8 l = l.map fun d => (d % 256).toNat := by
  unfold deltaB
  induction l with
  | nil => rfl
  | cons a l ih => rw [List.flatMap_cons, ih]; rfl
theorem delta16 : ∀ (l : List Int) (i : Nat) (a : Int), l[i]? = some a → (deltaB 16 l)[2 * i]? = some (a % 256).toNat ∧ (deltaB 16 l)[2 * i + 1]? = some (a / 256 % 256).toNat
  | [], i, a, h => by cases h
  | x :: l, 0, a, h => by cases h; exact ⟨rfl, rfl⟩
  | x :: l, i + 1, a, h => by
    have := delta16 l i a h
    have e : deltaB 16 (x :: l) = (x % 256).toNat :: (x / 256 % 256).toNat :: deltaB 16 l := rfl
    rw [e, show 2 * (i + 1) = 2 * i + 1 + 1 from rfl]
    exact this
theorem delta_length {b : Nat} (hb : b = 8 ∨ b = 16) (l : List Int) : (deltaB b l).length = b / 8 * l.length := by
  rcases hb with rfl | rfl
  · rw [delta8]; simp
  · induction l with
    | nil => rfl
    | cons x l ih =>
      have e : deltaB 16 (x :: l) = (x % 256).toNat :: (x / 256 % 256).toNat :: deltaB 16 l := rfl
      rw [e, List.length_cons, List.length_cons, ih, List.length_cons]; omega
theorem delta_256 {b : Nat} (hb : b = 8 ∨ b = 16) (l : List Int) : ∀ x ∈ deltaB b l, x < 256 := fun x hx => by
  unfold deltaB at hx
  obtain ⟨d, _, h2⟩ := List.mem_flatMap.1 hx
  unfold dBytes at h2
  have h1 := Int.emod_lt_of_pos d (show (0 : Int) < 256 by decide)
  have h1' := Int.emod_lt_of_pos (d / 256) (show (0 : Int) < 256 by decide)
  rcases List.mem_cons.1 h2 with rfl | h2
  · omega
  · split at h2
    · rw [List.mem_singleton] at h2; omega
    · cases h2
theorem raw_delta {b : Nat} (hb : b = 8 ∨ b = 16) {l : List Int} (hl : l.all (inR b) = true) {i k : Nat} {a : Int} (ha : l[i]? = some a) (hk : b / 8 * i + b / 8 ≤ k) : wrapB b (rawAt ((deltaB b l).take k) (b / 8) i) = a := by
  have hin := inR_getD hl ha
  rcases hb with rfl | rfl
  · refine wrapB_nat (by decide) ?_ hin
    have e : ((deltaB 8 l).take k)[i]? = some (a % 256).toNat := by
      rw [List.getElem?_take_of_lt (by omega), delta8, List.getElem?_map, ha]; rfl
    unfold rawAt
    rw [if_neg (by decide), getD_nat e]
    have : (2 ^ 8 : Nat) = 256 := rfl
    omega
  · refine wrapB_nat (by decide) ?_ hin
    obtain ⟨e1, e2⟩ := delta16 l i a ha
    unfold rawAt
    rw [if_pos (by decide), getD_nat (by rw [List.getElem?_take_of_lt (by omega)]; exact e1), getD_nat (by rw [List.getElem?_take_of_lt (by omega)]; exact e2)]
    have : (2 ^ 16 : Nat) = 65536 := rfl
    omega
theorem undN_delta {b : Nat} (hb : b = 8 ∨ b = 16) {l : List Int} (hl : l.all (inR b) = true) {k M : Nat} (hk : b / 8 * M ≤ k) (hM : M ≤ l.length) : undN ((deltaB b l).take k) (b / 8) b M = l.take M := by
  refine List.ext_getElem? fun i => ?_
  unfold undN
  rw [List.getElem?_map]
  by_cases h : i < M
  · obtain ⟨a, ha⟩ := lt_len (show i < l.length by omega)
    have hm : b / 8 * i + b / 8 ≤ b / 8 * M := by
      have := Nat.mul_le_mul_left (b / 8) (show i + 1 ≤ M by omega)
      rwa [Nat.mul_add, Nat.mul_one] at this
    rw [List.getElem?_range h, List.getElem?_take_of_lt h, ha]
    show some (wrapB b (rawAt ((deltaB b l).take k) (b / 8) i)) = some a
    rw [raw_delta hb hl ha (by omega)]
  · rw [List.getElem?_eq_none (by simpa using h), List.getElem?_eq_none (by rw [List.length_take]; omega)]; rfl
/-! ### Blocks -/
theorem half_mono {w k : Nat} (h : w ≤ k) : half w ≤ half k := by
  unfold half
  have := Nat.pow_le_pow_right (show 0 < 2 by decide) (show w - 1 ≤ k - 1 by omega)
  omega
theorem inR_mono {w k : Nat} (h : w ≤ k) {x : Int} (hx : inR w x = true) : inR k x = true := by
  have := half_mono h
  unfold inR at *
  simp only [Bool.and_eq_true, decide_eq_true_eq] at *
  omega
theorem need_le {k : Nat} {x : Int} (hx : inR k x = true) : ∀ f w, w ≤ k → needF f x w ≤ k
  | 0, w, h => h
  | f + 1, w, h => by
    rw [need_of]
    split
    · exact h
    · rename_i hn
      have : w ≠ k := fun e => hn (e ▸ hx)
      exact need_le hx f (w + 1) (by omega)
theorem need_fits {x : Int} (hx : inR 16 x = true) : ∀ f w, w + f = 16 → inR (needF f x w) x = true
  | 0, w, h => by
    obtain rfl : w = 16 := by omega
    exact hx
  | f + 1, w, h => by
    rw [need_of]
    split
    · assumption
    · exact need_fits hx f (w + 1) (by omega)
theorem fold_width : ∀ (l : List Int) (w : Nat), 1 ≤ w → w ≤ 16 → (∀ x ∈ l, inR 16 x = true) →
    w ≤ l.foldl (fun w x => needF (16 - w) x w) w ∧ l.foldl (fun w x => needF (16 - w) x w) w ≤ 16 ∧ (∀ x ∈ l, inR (l.foldl (fun w x => needF (16 - w) x w) w) x = true) ∧ (∀ k, w ≤ k → (∀ x ∈ l, inR k x = true) → l.foldl (fun w x => needF (16 - w) x w) w ≤ k)
  | [], w, h1, h2, _ => ⟨Nat.le_refl _, h2, fun x hx => (nomatch hx), fun k hk _ => hk⟩
  | y :: l, w, h1, h2, h => by
    have r := needF_range y (16 - w) w (by omega)
    have ih := fold_width l (needF (16 - w) y w) (by omega) r.2 fun x hx => h x (by simp [hx])
    rw [List.foldl_cons]
    refine ⟨by omega, ih.2.1, fun x hx => ?_, fun k hk hall => ih.2.2.2 k (need_le (hall y (by simp)) _ _ hk) fun x hx => hall x (by simp [hx])⟩
    rcases List.mem_cons.1 hx with rfl | hx
    · exact inR_mono ih.1 (need_fits (h x (by simp)) _ _ (by omega))
    · exact ih.2.2.1 x hx
theorem width_fits {l : List Int} (hs : Small l) : ∀ x ∈ l, inR (widthF l) x = true := (fold_width l 1 (by decide) (by decide) fun x hx => small_16 (hs x hx)).2.2.1
theorem width_le {l : List Int} (hs : Small l) {k : Nat} (hk : 1 ≤ k) (h : ∀ x ∈ l, inR k x = true) : widthF l ≤ k := (fold_width l 1 (by decide) (by decide) fun x hx => small_16 (hs x hx)).2.2.2 k hk h

theorem bytesN_256 (n B : Nat) : ∀ x ∈ bytesN n B, x < 256 := fun x hx => by
  unfold bytesN at hx
  obtain ⟨k, _, rfl⟩ := List.mem_map.1 hx
  exact Nat.mod_lt _ (by decide)
theorem rnum_bytes (B : Nat) : ∀ q, rnum (bytesN q B) = B % 256 ^ q
  | 0 => by simp [bytesN, rnum, Nat.mod_one]
  | q + 1 => by
    rw [bytesN_succ, rnum_append, rnum_bytes B q, bytesN_len, Nat.mod_pow_succ]
    simp [rnum]
theorem packed_at {w : Nat} : ∀ (l : List Int) (i : Nat) (a : Int), l[i]? = some a → packed w l / 2 ^ (i * w) % 2 ^ w = low w a
  | [], i, a, h => by cases h
  | x :: l, 0, a, h => by
    obtain rfl : x = a := Option.some.inj h
    have := low_lt w x
    rw [packed, Nat.zero_mul, Nat.pow_zero, Nat.div_one, Nat.add_mul_mod_self_left, Nat.mod_eq_of_lt this]
  | x :: l, i + 1, a, h => by
    have hlt := low_lt w x
    rw [packed, Nat.add_mul, Nat.one_mul, Nat.add_comm (i * w), Nat.pow_add, ← Nat.div_div_eq_div_mul, Nat.add_mul_div_left _ _ (Nat.two_pow_pos w), Nat.div_eq_of_lt hlt, Nat.zero_add]
    exact packed_at l i a h
theorem vals_eq {w : Nat} (hw : 1 ≤ w) {s : List Int} (hs : ∀ x ∈ s, inR w x = true) {rest : List Nat} {c q many : Nat} (hc : c ≤ rest.length) (hq : c ≤ q) (he : rest.take c = (bytesN q (packed w s)).take c) (hm : many ≤ s.length) (h8 : many * w ≤ 8 * c) :
    valsN w (rnum rest) many = s.take many := by
  refine List.ext_getElem? fun i => ?_
  unfold valsN
  rw [List.getElem?_map]
  by_cases h : i < many
  · obtain ⟨a, ha⟩ := lt_len (show i < s.length by omega)
    have hi8 : (i + 1) * w ≤ 8 * c := Nat.le_trans (Nat.mul_le_mul_right _ h) h8
    rw [List.getElem?_range h, List.getElem?_take_of_lt h, ha]
    show some (wrapB w _) = some a
    have e1 := low_bytes (l := rest) (c := c) (i := i) (w := w) hc hi8
    have e2 := low_bytes (l := bytesN q (packed w s)) (c := c) (i := i) (w := w) (by rw [bytesN_len]; exact hq) hi8
    have e3 := low_bytes (l := bytesN q (packed w s)) (c := q) (i := i) (w := w) (by rw [bytesN_len]; exact Nat.le_refl _) (by omega)
    have e4 : (packed w s % 256 ^ q / 2 ^ (i * w)) % 2 ^ w = (packed w s / 2 ^ (i * w)) % 2 ^ w := by
      obtain ⟨d, hd⟩ : ∃ d, 8 * q = i * w + w + d := ⟨8 * q - (i * w + w), by rw [Nat.add_mul] at hi8; omega⟩
      conv => rhs; rw [← Nat.div_add_mod (packed w s) (256 ^ q)]
      rw [pow256, hd, Nat.pow_add, Nat.pow_add, Nat.mul_assoc, Nat.mul_assoc, Nat.add_comm, Nat.add_mul_div_left _ _ (Nat.two_pow_pos _), Nat.mul_assoc, Nat.add_mul_mod_self_left]
    rw [← he, e1, rnum_bytes, e4, packed_at s i a ha] at e2
    congr 1
    rw [wrapB_mod hw _ (low w a) (by rw [e2, Nat.mod_eq_of_lt (low_lt w a)]), wrapB_nat hw (low_cast w a).symm (hs a (List.mem_of_getElem? ha))]
  · rw [List.getElem?_eq_none (by simpa using h), List.getElem?_eq_none (by rw [List.length_take]; omega)]; rfl
theorem blocksN_cons (l : List Int) (k : Nat) : blocksN l (k + 1) = blockB (l.take 256) ++ blocksN (l.drop 256) k := by
  unfold blocksN
  rw [List.range_succ_eq_map, List.flatMap_cons, List.flatMap_map]
  congr 1
  congr 1
  funext i
  rw [List.drop_drop]
  congr 3
  omega
end Go.Vm.X
