/- Compact, the walk. -/
import Derived.Test.YtaacaogceplhoaaIkC
set_option linter.unusedSimpArgs false
set_option linter.unusedVariables false
namespace Go.Vm.X
open Go.Am Go.Vm
attribute [local congr] bind_c ifP_c loop_c K1_c ite_c fork_c guard_c unl_c

def lg (p : PHeap) (l : List Int) (md : Md) : PHeap := p ++ [.log (l.map iV) 1 3 md]
theorem lg_at (p : PHeap) (l : List Int) (md : Md) : (lg p l md)[p.length]? = some (.log (l.map iV) 1 3 md) := by unfold lg; simp
theorem lg_set (p : PHeap) (l l' : List Int) (md md' : Md) : (lg p l md).set p.length (.log (l'.map iV) 1 3 md') = lg p l' md' := by unfold lg; simp
theorem lg_len (p : PHeap) (l : List Int) (md : Md) : (lg p l md).length = p.length + 1 := by unfold lg; simp
theorem lg_load {p : PHeap} {l : List Int} {i n : Nat} {v : Int} {md : Md} (hn : n = l.length) (hv : l[i]? = some v) : loadP false 1 (.lptr p.length i 0 n 1) (lg p l md) = some (.int .i64 v) := by
  subst hn
  simp only [loadP, logAt, lg_at, List.length_map, Nat.beq_refl, Bool.and_self, cond_true, Option.bind_some, List.getElem?_map, hv, Option.map_some]
  rfl
theorem lg_store {p : PHeap} {l : List Int} {i n : Nat} {v : Int} (hn : n = l.length) (hi : i < l.length) : storeP 1 (.lptr p.length i 0 n 1) (.int .i64 v) (lg p l .rw) = some (lg p (l.set i v) .rw) := by
  subst hn
  have e : (l.map iV)[i]? = some (iV l[i]) := by rw [List.getElem?_map, List.getElem?_eq_getElem hi]; rfl
  have e2 : (l.map iV).set i (iV v) = (l.set i v).map iV := by rw [List.map_set]
  simp only [storeP, cellsP, List.length_cons, List.length_nil, lg_at, List.length_map, e, Option.bind_some]
  rw [← lg_set p l (l.set i v) .rw .rw, ← e2]
  rfl
theorem rf_idx {b lo n v i : Nat} (hi : i < n) : indexAddrP 1 (.ref b lo n v 1) (.int .i64 (i : Int)) = some (.lptr b (lo + i) 0 v 1) := by
  simp only [indexAddrP]
  rw [if_pos ⟨by omega, by omega, trivial⟩, Int.toNat_natCast]
theorem rf_len {b lo n v : Nat} : lenP false (.ref b lo n v 1) = some (.int .i64 (n : Int)) := by simp only [lenP]
theorem rf_lo {b n v k : Nat} (hk : k < n) : sliceP 1 (.ref b 0 n v 1) (some (.int .i64 (k : Int))) none none = some (.ref b k (n - k) v 1) := by
  simp only [sliceP, boundP, if_true, Option.bind_some]
  rw [if_pos ⟨by omega, by omega⟩, Option.bind_some, Int.toNat_natCast, if_neg (by omega), Nat.zero_add]
theorem rf_hi {b n v k : Nat} (h0 : 0 < k) (hk : k ≤ n) : sliceP 1 (.ref b 0 n v 1) none (some (.int .i64 (k : Int))) none = some (.ref b 0 k v 1) := by
  simp only [sliceP, boundP, if_true, Option.bind_some]
  rw [if_pos ⟨by omega, by omega⟩, Option.bind_some, Int.toNat_natCast, if_neg (by omega), Nat.zero_add, Nat.sub_zero]
theorem lg_clear {p : PHeap} {l : List Int} {k n : Nat} (hn : n = l.length) (hk : k < n) : clearP [.int .i64 0] (.ref p.length k (n - k) n 1) (lg p l .rw) = some (undefP, lg p (l.take k ++ List.replicate (n - k) 0) .rw) := by
  subst hn
  simp only [clearP, lg_at, List.length_map]
  rw [if_pos ⟨trivial, rfl, trivial, by omega, by omega, rfl⟩]
  rw [← lg_set p l (l.take k ++ List.replicate (l.length - k) 0) .rw .rw]
  congr 3
  rw [List.drop_eq_nil_of_le (by simp; omega), List.append_nil, List.map_append, List.map_take, List.map_replicate]
  rfl
theorem pure_ints (l : List Int) : ((l.map iV).flatten).all pure1 = true := by
  rw [List.all_eq_true]
  intro x hx
  rw [List.mem_flatten] at hx
  obtain ⟨r, hr, hx⟩ := hx
  rw [List.mem_map] at hr
  obtain ⟨z, _, rfl⟩ := hr
  have : x = .int .i64 z := by simpa [iV] using hx
  subst this
  rfl
theorem lg_fin {p h0 : PHeap} {l : List Int} {k n : Nat} (hn : n = l.length) (h0l : h0.length = p.length + 1) (hk0 : 0 < k) (hk : k ≤ n) : finP [.flat 1] h0 (lg p l .rw) [.ref p.length 0 k n 1] = some (ints (l.take k), lg p l .ro) := by
  subst hn
  have e : fz (.flat 1) (.ref p.length 0 k l.length 1) (lg p l .rw) = some (ints (l.take k), lg p l .ro) := by
    rw [fz, if_neg (by omega), lg_at]
    simp only [List.length_map, List.drop_zero, lg_set]
    rw [← List.map_take, if_pos ⟨trivial, trivial, by omega, pure_ints _⟩]
    rfl
  rw [fin_def]
  simp only [fzL, e, Option.bind_some, Option.map_some]
  rw [trim_len _ (by rw [lg_len, h0l])]
  rfl
theorem i_pred {i : Nat} (h : i < 9223372036854775807) : IntKind.i64.wrap (((i + 1 : Nat) : Int) - 1) = (i : Int) := by rw [wrap64 (by unfold isI64; omega)]; omega
theorem neqI {l : List Int} {j : Nat} {x y : Int} (hx : l[j + 1]? = some x) (hy : l[j]? = some y) : keepAt l (j + 1) = (x != y) := by
  unfold keepAt
  rw [show j + 1 - 1 = j from rfl, getD_of hx, getD_of hy]
  simp
theorem c28 (p : PHeap) (l : List Int) (hm : l.length < 4294967297) : ∃ blk, Γ0 28 [.ref p.length 0 l.length l.length 1] (lg p l .rw) = some (ints (ddN l l.length), p ++ [blk]) := by
  by_cases h0 : l.length = 0
  · obtain rfl := List.eq_nil_of_length_eq_zero h0
    refine ⟨.log [] 1 3 .rw, gbody (F := A28) (by kernel_rfl) 1 ?_⟩
    rw [s28_eq]; unfold s28
    simp only [words, ↓KLn, Nat.reduceAdd, List.length_nil, rf_len]
    have e : decide (((0 : Nat) : Int) < 2) = true := by decide
    simp only [e, if_true]
    rw [fin_def]
    simp only [fzL, fz, Option.bind_some, Option.map_some, trim_self, if_true]
    rfl
  obtain ⟨N, hN⟩ : ∃ N : Nat, l.length < N := ⟨_, Nat.lt_succ_self _⟩
  by_cases h1 : l.length < 2
  · refine ⟨.log (l.map iV) 1 3 .ro, gbody (F := A28) (by kernel_rfl) 1 ?_⟩
    rw [s28_eq]; unfold s28
    have e : decide ((l.length : Int) < 2) = true := by rw [decide_eq_true_eq]; omega
    have hone : ∀ j, j < l.length → keepAt l j = true := fun j hj => by
      have : j = 0 := by omega
      subst this
      rfl
    simp only [words, ↓KLn, Nat.reduceAdd, rf_len, e, if_true]
    rw [lg_fin rfl (lg_len _ _ _) (by omega) (Nat.le_refl _), ddN_all (Nat.le_refl _) hone]
    rfl
  · have stp : ∀ (j : Nat) (K : List PV → PHeap → Pt) (j5 : List PV → PHeap → Pt), j + 1 < l.length → keepAt l (j + 1) = true → s28_L1 Γ0 N (.ref p.length 0 l.length l.length 1) (lg p l .rw) (lg p l .rw) j5 K [.int .i64 ((j + 1 : Nat) : Int)] (lg p l .rw) = K [.int .i64 ((j + 1 + 1 : Nat) : Int)] (lg p l .rw) := fun j K j5 hj hk => by
      obtain ⟨x, hx⟩ := lt_l hj
      obtain ⟨y, hy⟩ := lt_l (show j < l.length by omega)
      have hne := (neqI hx hy).symm.trans hk
      have hxy : (x == y) = false := by simpa [bne] using hne
      unfold s28_L1
      simp only [words, ↓KLn, Nat.reduceAdd, rf_len, ltT hj, decide_true, if_true, rf_idx hj, i_pred (show j < 9223372036854775807 by omega), rf_idx (show j < l.length by omega), Nat.zero_add, lg_load rfl hx, lg_load rfl hy, hxy, Bool.false_eq_true, if_false, succ63 (show j + 1 < 9223372036854775807 by omega), trim_self]
    by_cases hall : ∀ j, j < l.length → keepAt l j = true
    · refine ⟨.log (l.map iV) 1 3 .ro, gbody (F := A28) (by kernel_rfl) N ?_⟩
      rw [s28_eq]; unfold s28
      have e : decide ((l.length : Int) < 2) = false := by rw [decide_eq_false_iff_not]; omega
      simp only [words, ↓KLn, Nat.reduceAdd, rf_len, e, Bool.false_eq_true, if_false]
      refine loop_pure (fun i => [.int .i64 ((i + 1 : Nat) : Int)]) (l.length - 1) (by omega) rfl (fun i hi K => ?_) fun K => ?_
      · exact stp i K _ (by omega) (hall _ (by omega))
      · unfold s28_L1
        have e2 : decide (((l.length - 1 + 1 : Nat) : Int) < (l.length : Int)) = false := by rw [decide_eq_false_iff_not]; omega
        simp only [words, ↓KLn, Nat.reduceAdd, rf_len, e2, Bool.false_eq_true, if_false]
        rw [lg_fin rfl (lg_len _ _ _) (by omega) (Nat.le_refl _), ddN_all (Nat.le_refl _) hall]
        rfl
    · obtain ⟨k, hk, hbad, hfirst⟩ : ∃ k, k < l.length ∧ keepAt l k = false ∧ ∀ j, j < k → keepAt l j = true := by
        have : ∃ k, k < l.length ∧ keepAt l k = false := Classical.byContradiction fun hn => hall fun j hj => by
          cases hh : keepAt l j with
          | true => rfl
          | false => exact absurd ⟨j, hj, hh⟩ hn
        obtain ⟨k, h1, h2⟩ := this
        induction k using Nat.strongRecOn with
        | ind k ih =>
          by_cases hx : ∃ j, j < k ∧ keepAt l j = false
          · obtain ⟨j, h3, h4⟩ := hx
            exact ih j h3 (by omega) h4
          · exact ⟨k, h1, h2, fun j hj => by
              cases hh : keepAt l j with
              | true => rfl
              | false => exact absurd ⟨j, hj, hh⟩ hx⟩
      obtain ⟨k, rfl⟩ : ∃ q, k = q + 1 := ⟨k - 1, by
        have : k ≠ 0 := by rintro rfl; cases hbad
        omega⟩
      have hdk : ddN l (k + 1) = l.take (k + 1) := ddN_all (by omega) hfirst
      have hdl : (ddN l (k + 1)).length = k + 1 := by rw [hdk, List.length_take]; omega
      have hd2 : ddN l (k + 1 + 1) = ddN l (k + 1) := by rw [ddN_succ, if_neg (by rw [hbad]; decide)]
      have hin : ∀ m, k + 1 < m → (ddN l m).length < m := ddN_lt hbad
      have hout0 : outN l (k + 1 + 1) = l := by unfold outN; rw [hd2, hdl, hdk, List.take_append_drop]
      refine ⟨.log ((((outN l l.length).take (ddN l l.length).length ++ List.replicate (l.length - (ddN l l.length).length) 0)).map iV) 1 3 .ro, gbody (F := A28) (by kernel_rfl) N ?_⟩
      rw [s28_eq]; unfold s28
      have e : decide ((l.length : Int) < 2) = false := by rw [decide_eq_false_iff_not]; omega
      simp only [words, ↓KLn, Nat.reduceAdd, rf_len, e, Bool.false_eq_true, if_false]
      refine loop_until (fun i => Nat.beq i k) (fun i => [.int .i64 ((i + 1 : Nat) : Int)]) (fun _ => lg p l .rw) (k + 1) (by omega) rfl rfl (fun i hi hb K => ?_) (fun i hi hb hj K => ?_) (fun hj K => ?_)
      · have : i ≠ k := by rintro rfl; rw [Nat.beq_refl] at hb; cases hb
        exact stp i K _ (by omega) (hfirst _ (by omega))
      · obtain rfl := Nat.eq_of_beq_eq_true hb
        obtain ⟨x, hx⟩ := lt_l hk
        obtain ⟨y, hy⟩ := lt_l (show i < l.length by omega)
        have hne := (neqI hx hy).symm.trans hbad
        have hxy : (x == y) = true := by simpa [bne] using hne
        unfold s28_L1
        simp only [words, ↓KLn, Nat.reduceAdd, rf_len, ltT hk, decide_true, if_true, rf_idx hk, i_pred (show i < 9223372036854775807 by omega), rf_idx (show i < l.length by omega), Nat.zero_add, lg_load rfl hx, lg_load rfl hy, hxy, rf_lo hk]
        refine loop_run (fun j => [.int .i64 (((ddN l (i + 2 + j)).length : Nat) : Int), .int .i64 ((j + 1 : Nat) : Int)]) (fun j => lg p (outN l (i + 2 + j)) .rw) (l.length - (i + 2)) (by omega) (by simp only [Nat.add_zero, hd2, hdl]; rfl) (by simp only [Nat.add_zero, hout0]) (fun j hj K => ?_) fun K => ?_
        · have hmlt : i + 2 + j < l.length := by omega
          obtain ⟨x, hx⟩ := lt_l hmlt
          obtain ⟨y, hy⟩ := lt_l (show i + 1 + j < l.length by omega)
          have hlt := hin (i + 2 + j) (by omega)
          have hol : l.length = (outN l (i + 2 + j)).length := (outN_len (by omega)).symm
          have gx : (outN l (i + 2 + j))[i + 1 + (j + 1)]? = some x := by
            rw [outN_get (by omega), show i + 1 + (j + 1) = i + 2 + j by omega]; exact hx
          have gy : (outN l (i + 2 + j))[i + 1 + j]? = some y := by rw [outN_get (by omega)]; exact hy
          have hk2 : keepAt l (i + 2 + j) = (x != y) := by
            have := neqI (l := l) (j := i + 1 + j) (x := x) (y := y) (by rw [show i + 1 + j + 1 = i + 2 + j by omega]; exact hx) hy
            rw [show i + 1 + j + 1 = i + 2 + j by omega] at this
            exact this
          unfold s28_L0
          simp only [words, ↓KLn, Nat.reduceAdd, nth_one, rf_len, ltT (show j + 1 < l.length - (i + 1) by omega), decide_true, if_true, rf_idx (show j + 1 < l.length - (i + 1) by omega), i_pred (show j < 9223372036854775807 by omega), rf_idx (show j < l.length - (i + 1) by omega), lg_load hol gx, lg_load hol gy]
          rw [show i + 2 + (j + 1) = i + 2 + j + 1 by omega]
          cases hc : (x != y) with
          | true =>
            have hkp := hk2.trans hc
            have e5 : (ddN l (i + 2 + j + 1)).length = (ddN l (i + 2 + j)).length + 1 := by rw [ddN_succ, if_pos hkp, List.length_append]; rfl
            have e6 : outN l (i + 2 + j + 1) = (outN l (i + 2 + j)).set (ddN l (i + 2 + j)).length x := by rw [← outN_keep hmlt hkp hlt, getD_of hx]
            simp only [words, ↓KLn, Nat.reduceAdd, if_true, lg_load hol gx, rf_idx (show j + 1 < l.length - (i + 1) by omega), rf_idx (show (ddN l (i + 2 + j)).length < l.length by omega), Nat.zero_add, lg_store hol (show (ddN l (i + 2 + j)).length < (outN l (i + 2 + j)).length by omega), bS, nth_zero, nth_one, succ63 (show (ddN l (i + 2 + j)).length < 9223372036854775807 by omega), succ63 (show j + 1 < 9223372036854775807 by omega), e5, e6]
            rw [trim_len _ (by rw [lg_len, lg_len])]
          | false =>
            have hkp := hk2.trans hc
            have e5 : (ddN l (i + 2 + j + 1)).length = (ddN l (i + 2 + j)).length := by rw [ddN_succ, if_neg (by rw [hkp]; decide)]
            simp only [words, ↓KLn, Nat.reduceAdd, Bool.false_eq_true, if_false, bS, nth_zero, nth_one, succ63 (show j + 1 < 9223372036854775807 by omega), e5, outN_drop hkp]
            rw [trim_len _ (by rw [lg_len, lg_len])]
        · have em : i + 2 + (l.length - (i + 2)) = l.length := by omega
          have hlt := hin l.length (by omega)
          have hpos : 0 < (ddN l l.length).length := ddN_pos (by omega)
          have hol : l.length = (outN l l.length).length := (outN_len (Nat.le_refl _)).symm
          have htk : ((outN l l.length).take (ddN l l.length).length) = ddN l l.length := by unfold outN; exact List.take_left
          have e2 : decide (((l.length - (i + 2) + 1 : Nat) : Int) < ((l.length - (i + 1) : Nat) : Int)) = false := by rw [decide_eq_false_iff_not]; omega
          simp only [em]
          unfold s28_L0
          simp only [words, ↓KLn, Nat.reduceAdd, nth_one, rf_len, e2, Bool.false_eq_true, if_false, rf_lo hlt, lg_clear hol hlt, rf_hi hpos (Nat.le_of_lt hlt)]
          rw [lg_fin (by rw [List.length_append, List.length_take, List.length_replicate]; omega) (lg_len _ _ _) hpos (Nat.le_of_lt hlt), List.take_append_of_le_length (by rw [htk]; exact Nat.le_refl _), List.take_take, Nat.min_self, htk]
          rfl
      · exact absurd (hj k (by omega)) (by rw [Nat.beq_refl]; decide)
end Go.Vm.X
