/- Packing: a beginning of what was written is read as a beginning of the data; the law PackBack. -/
import Derived.Test.YtgcioidegmnehaaPvInv
set_option linter.unusedSimpArgs false
set_option linter.unusedVariables false
namespace Go.Vm.X
open Go.Am Go.Vm

theorem take_join (r : List Int) (M : Nat) (h : M ≤ (r.drop 256).length) : r.take 256 ++ (r.drop 256).take M = r.take ((r.take 256).length + M) := by
  rw [List.length_drop] at h
  by_cases h2 : 256 ≤ r.length
  · rw [List.length_take, Nat.min_eq_left h2, List.take_add]
  · obtain rfl : M = 0 := by omega
    rw [List.take_zero, List.append_nil, Nat.add_zero, List.length_take, Nat.min_eq_right (by omega), List.take_of_length_le (by omega), List.take_of_length_le (Nat.le_refl _)]
theorem unb_back {b : List Nat} {bits m : Nat} (hb1 : 1 ≤ bits) (hb2 : bits ≤ 16) : ∀ (F u : Nat) (out r : List Int) (kk : Nat), b.drop u = (blocksN r (nBlocks r)).take kk → u ≤ b.length → out.length + r.length = m → (∀ x ∈ r, inR bits x = true) → b.length - u < F →
    ∃ M u', unb b bits m F u out = (out ++ r.take M, u', false) ∧ M ≤ r.length ∧ ((blocksN r (nBlocks r)).length ≤ kk → M = r.length ∧ u' = b.length)
  | 0, u, out, r, kk, _, _, _, _, hF => by omega
  | F + 1, u, out, r, kk, hd, hu, hm, hall, hF => by
    have hdl : (b.drop u).length = b.length - u := List.length_drop
    rw [unb_succ]
    by_cases hr : r = []
    · subst hr
      have e0 : (blocksN ([] : List Int) (nBlocks [])).take kk = [] := by rw [show blocksN ([] : List Int) (nBlocks []) = [] from rfl, List.take_nil]
      rw [e0] at hd
      rw [hd] at hdl
      have hu' : u = b.length := by simp at hdl; omega
      rw [if_neg (by omega)]
      exact ⟨0, u, by simp, by simp, fun _ => ⟨rfl, hu'⟩⟩
    · have hrl : 0 < r.length := List.length_pos_iff.2 hr
      have hnb : nBlocks r = nBlocks (r.drop 256) + 1 := by unfold nBlocks; rw [List.length_drop]; omega
      rw [hnb, blocksN_cons] at hd ⊢
      have hsl : (r.take 256).length = min 256 r.length := List.length_take
      have hss : ∀ x ∈ r.take 256, inR bits x = true := fun x hx => hall x (List.mem_of_mem_take hx)
      have hsm : Small (r.take 256) := fun x hx => small_in hb2 (hss x hx)
      have hwr := width_range (r.take 256)
      have hwl := width_le hsm hb1 hss
      have hwf := width_fits hsm
      have hbl : blockB (r.take 256) = widthF (r.take 256) :: bytesN (((r.take 256).length * widthF (r.take 256) + 7) / 8) (packed (widthF (r.take 256)) (r.take 256)) := rfl
      have hbq := bytesN_len (((r.take 256).length * widthF (r.take 256) + 7) / 8) (packed (widthF (r.take 256)) (r.take 256))
      have hjoin := fun M => take_join r M
      have hdrl : (r.drop 256).length = r.length - 256 := List.length_drop
      have hsub : ∀ M, M ≤ 256 → (r.take 256).take M = r.take M := fun M hM => by rw [List.take_take, Nat.min_eq_left hM]
      generalize hs : r.take 256 = s at *
      generalize hw : widthF s = w at *
      generalize hq : (s.length * w + 7) / 8 = q at *
      rw [hbl] at hd ⊢
      cases kk with
      | zero =>
        rw [List.take_zero] at hd
        rw [hd] at hdl
        rw [if_neg (by simp at hdl; omega)]
        exact ⟨0, u, by simp, by omega, fun h => by simp at h⟩
      | succ kk =>
        rw [List.cons_append, List.take_succ_cons] at hd
        have hult : u < b.length := by rw [hd, List.length_cons] at hdl; omega
        have ha : b[u]? = some w := by
          have e1 : (b.drop u)[0]? = b[u]? := by rw [List.getElem?_drop, Nat.add_zero]
          rw [← e1, hd]; rfl
        have hrest : b.drop (u + 1) = (bytesN q (packed w s) ++ blocksN (r.drop 256) (nBlocks (r.drop 256))).take kk := by
          rw [← List.drop_drop, hd]; rfl
        have hRl : (b.drop (u + 1)).length = b.length - (u + 1) := List.length_drop
        rw [if_pos ⟨by omega, hult⟩, getD_nat ha, if_neg (by omega), show min 256 (m - out.length) = s.length by omega]
        have hlen : (b.drop (u + 1)).length = min kk (q + (blocksN (r.drop 256) (nBlocks (r.drop 256))).length) := by rw [hrest, List.length_take, List.length_append, hbq]
        have hdiv : ∀ k, k ≤ 8 * (b.length - (u + 1)) / w ↔ k * w ≤ 8 * (b.length - (u + 1)) := fun k => Nat.le_div_iff_mul_le hwr.1
        by_cases hqR : q ≤ b.length - (u + 1)
        · have hcB : cB (b.length - (u + 1)) w s.length = q := by unfold cB; omega
          have hM : min s.length (8 * (b.length - (u + 1)) / w) = s.length := by
            have := (hdiv s.length).2 (by omega)
            omega
          have htq : (b.drop (u + 1)).take q = (bytesN q (packed w s)).take q := by
            rw [hrest, List.take_take, Nat.min_eq_left (by omega), List.take_append_of_le_length (by omega)]
          have hv := vals_eq hwr.1 hwf (rest := b.drop (u + 1)) (c := q) (q := q) (many := s.length) (by omega) (Nat.le_refl _) htq (Nat.le_refl _) (by omega)
          rw [hcB, hM, hv, List.take_of_length_le (Nat.le_refl s.length)]
          have hd2 : b.drop (u + 1 + q) = (blocksN (r.drop 256) (nBlocks (r.drop 256))).take (kk - q) := by
            rw [← List.drop_drop, hrest, List.drop_take, List.drop_append_of_le_length (by omega), List.drop_of_length_le (by omega), List.nil_append]
          obtain ⟨M, u', e1, e2, e3⟩ := unb_back (b := b) (bits := bits) (m := m) hb1 hb2 F (u + 1 + q) (out ++ s) (r.drop 256) (kk - q) hd2 (by omega) (by rw [List.length_append]; omega) (fun x hx => hall x (List.mem_of_mem_drop hx)) (by omega)
          refine ⟨s.length + M, u', ?_, by omega, fun h => ?_⟩
          · rw [e1, List.append_assoc, hjoin M e2]
          · rw [List.cons_append, List.length_cons, List.length_append, hbq] at h
            have := e3 (by omega)
            omega
        · have hcB : cB (b.length - (u + 1)) w s.length = b.length - (u + 1) := by unfold cB; omega
          have hmw := (hdiv (min s.length (8 * (b.length - (u + 1)) / w))).1 (by omega)
          have htq : (b.drop (u + 1)).take (b.length - (u + 1)) = (bytesN q (packed w s)).take (b.length - (u + 1)) := by
            rw [hrest, List.take_take, Nat.min_eq_left (by omega), List.take_append_of_le_length (by omega)]
          have hv := vals_eq hwr.1 hwf (rest := b.drop (u + 1)) (c := b.length - (u + 1)) (q := q) (many := min s.length (8 * (b.length - (u + 1)) / w)) (by omega) (by omega) htq (by omega) hmw
          rw [hcB, hv, show u + 1 + (b.length - (u + 1)) = b.length by omega, unb_end, hsub _ (by omega)]
          refine ⟨_, _, rfl, by omega, fun h => ?_⟩
          rw [List.cons_append, List.length_cons, List.length_append, hbq] at h
          omega

theorem padL_all (l : List Int) : padL (l.take l.length) l.length = l := by unfold padL; rw [List.take_length]; simp
theorem padL_get {l : List Int} {M i : Nat} (hM : M ≤ l.length) (hi : i < l.length) : (padL (l.take M) l.length)[i]? = some (if i < M then l.getD i 0 else 0) := by
  unfold padL
  have hl : (l.take M).length = M := by rw [List.length_take]; omega
  rw [List.take_of_length_le (by omega)]
  by_cases h : i < M
  · rw [if_pos h, List.getElem?_append_left (by omega), List.getElem?_take_of_lt h]
    obtain ⟨a, ha⟩ := lt_len hi
    rw [ha, getD_of ha]
  · rw [if_neg h, List.getElem?_append_right (by omega), List.getElem?_replicate, hl, if_pos (by omega)]
theorem askd_ok {b : List Nat} {n : Nat} (h1 : b.length ≤ 400000) (h2 : n ≤ 4096) : askd b (n : Int) = 0 := by
  unfold askd
  rw [if_neg (by omega), if_neg (by omega)]
theorem right_of {k : Nat} (h : k = 8 ∨ k = 16) : right (k : Int) = true := by rcases h with rfl | rfl <;> rfl
/-- Undelta of a beginning. -/
theorem und_back {l : List Int} {bits : Int} (h : chk l bits = 0) (K : Nat) : ∃ M, M ≤ l.length ∧ ((deltaOf l bits).length ≤ K → M = l.length) ∧
    undR ((deltaOf l bits).take K) bits (l.length : Int) = .tuple [ints (padL (l.take M) l.length), .int .i64 ((l.length - M : Nat) : Int), .int .i64 0] := by
  obtain ⟨k, rfl, hk, hall, h4⟩ := chk_zero h
  have hd : deltaOf l (k : Int) = deltaB k (diffs k l) := by unfold deltaOf; rw [if_pos h, Int.toNat_natCast]
  have hlen := delta_length hk (diffs k l)
  rw [diffs_len] at hlen
  rw [hd]
  have hk8 : k / 8 * l.length ≤ 2 * l.length := Nat.mul_le_mul_right _ (by omega)
  have htl : ((deltaB k (diffs k l)).take K).length = min K (k / 8 * l.length) := by rw [List.length_take, hlen]
  have hE : undE ((deltaB k (diffs k l)).take K) (k : Int) (l.length : Int) = 0 := by unfold undE; rw [if_pos (right_of hk), askd_ok (by omega) h4]
  have hk0 : 0 < k / 8 := by omega
  have hMM : undM ((deltaB k (diffs k l)).take K) (k : Int) (l.length : Int) = min l.length (min K (k / 8 * l.length) / (k / 8)) := by
    unfold undM; rw [Int.toNat_natCast, Int.toNat_natCast, htl]
  have hle := (Nat.le_div_iff_mul_le hk0 (x := min K (k / 8 * l.length) / (k / 8)) (y := min K (k / 8 * l.length))).1 (Nat.le_refl _)
  refine ⟨min l.length (min K (k / 8 * l.length) / (k / 8)), by omega, fun hK => ?_, ?_⟩
  · rw [hlen] at hK
    rw [Nat.min_eq_right hK, Nat.mul_div_cancel_left _ hk0, Nat.min_self]
  · unfold undR undL undMiss
    rw [hE, if_pos rfl, if_pos rfl, hMM, Int.toNat_natCast, Int.toNat_natCast]
    generalize hMd : min l.length (min K (k / 8 * l.length) / (k / 8)) = M at *
    have hMk : k / 8 * M ≤ K := by
      have : M * (k / 8) ≤ min K (k / 8 * l.length) := Nat.le_trans (Nat.mul_le_mul_right _ (by omega)) hle
      rw [Nat.mul_comm]; omega
    rw [undN_delta hk (all_diffs k l) hMk (by rw [diffs_len]; omega), sums_take, sums_diffs hall]
/-- Unblocks of a beginning. -/
theorem unb_backs {l : List Int} {bits v : Int} (h : blocksE l bits v = 0) (K : Nat) : ∃ M u', M ≤ l.length ∧ ((blocksOf l bits v).length ≤ K → M = l.length ∧ u' = (blocksOf l bits v).length) ∧
    unbPV ((blocksOf l bits v).take K) bits v (l.length : Int) = .tuple [ints (padL (l.take M) l.length), .int .i64 ((u' : Nat) : Int), .int .i64 ((l.length - M : Nat) : Int), .int .i64 0] := by
  obtain ⟨hv, hc⟩ := blocksE_zero h
  obtain ⟨k, rfl, hk, hall, h4⟩ := chk_zero hc
  have hd : blocksOf l (k : Int) v = blocksB (codedL v k l) := by unfold blocksOf; rw [if_pos h, Int.toNat_natCast]
  have hnb : nBlocks (codedL v k l) ≤ 17 := by unfold nBlocks; rw [codedL_len]; omega
  have hlen : (blocksB (codedL v k l)).length ≤ 513 * 17 := Nat.le_trans (blocksN_len _ _) (Nat.mul_le_mul_left _ hnb)
  rw [hd]
  have htl : ((blocksB (codedL v k l)).take K).length ≤ 513 * 17 := by rw [List.length_take]; omega
  have hall' : ∀ x ∈ codedL v k l, inR k x = true := fun x hx => by
    unfold codedL at hx
    split at hx <;> exact diffs_in _ _ x hx
  have hE0 : unbE0 ((blocksB (codedL v k l)).take K) (k : Int) v (l.length : Int) = 0 := by unfold unbE0; rw [right_of hk, hv]; simp only [Bool.and_self, if_true]; exact askd_ok (by omega) h4
  obtain ⟨M, u', e1, e2, e3⟩ := unb_back (b := (blocksB (codedL v k l)).take K) (bits := k) (m := l.length) (by omega) (by omega) (((blocksB (codedL v k l)).take K).length + 300) 0 [] (codedL v k l) K rfl (by omega) (by simp [codedL_len]) hall' (by omega)
  rw [codedL_len] at e2 e3
  have hR : unbR ((blocksB (codedL v k l)).take K) (k : Int) (l.length : Int) = ((codedL v k l).take M, u', false) := by rw [unbR_nat, e1, List.nil_append]
  refine ⟨M, u', e2, fun hK => ?_, ?_⟩
  · have := e3 hK
    rw [this.2, List.take_of_length_le hK]
    exact ⟨this.1, rfl⟩
  · have hE : unbE ((blocksB (codedL v k l)).take K) (k : Int) v (l.length : Int) = 0 := by unfold unbE; rw [if_pos hE0, hR]; rfl
    unfold unbPV
    rw [if_pos hE, hR, Int.toNat_natCast, Int.toNat_natCast, decL_take, decL_codedL hall]
    have : ((codedL v k l).take M).length = M := by rw [List.length_take, codedL_len]; omega
    simp only [this]
theorem err_or {l : List Int} {bits v : Int} (h : ¬ (chk l bits = 0 ∧ blocksE l bits v = 0)) : chk l bits = blocksE l bits v ∨ chk l bits = 0 ∨ (chk l bits = 3 ∧ blocksE l bits v = 1) := by
  unfold blocksE at *
  by_cases hr : (right bits && isVer v) = true
  · rw [if_pos hr]; exact .inl rfl
  · rw [if_neg hr]
    unfold chk
    split
    · split
      · split
        · exact .inr (.inr ⟨rfl, rfl⟩)
        · exact .inr (.inl rfl)
      · exact .inl rfl
    · exact .inl rfl
theorem blocks_256 (l : List Int) (bits v : Int) : ∀ x ∈ blocksOf l bits v, x < 256 := fun x hx => by
  unfold blocksOf at hx
  split at hx
  · unfold blocksB blocksN at hx
    obtain ⟨i, _, h2⟩ := List.mem_flatMap.1 hx
    unfold blockB at h2
    have := (width_range ((List.drop (256 * i) (codedL v bits.toNat l)).take 256)).2
    rcases List.mem_cons.1 h2 with rfl | h2
    · omega
    · exact bytesN_256 _ _ x h2
  · cases hx
theorem deltaOf_256 (l : List Int) (bits : Int) : ∀ x ∈ deltaOf l bits, x < 256 := fun x hx => by
  unfold deltaOf at hx
  split at hx
  · rename_i h
    obtain ⟨k, rfl, hk, _, _⟩ := chk_zero h
    rw [Int.toNat_natCast] at hx
    exact delta_256 hk _ x hx
  · cases hx
end Go.Vm.X
