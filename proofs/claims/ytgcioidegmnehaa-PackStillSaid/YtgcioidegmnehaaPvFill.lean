/- Packing: lists filled up with zeros, what is asked of bytes. -/
import Derived.Test.YtgcioidegmnehaaPvLaw3
set_option linter.unusedSimpArgs false
set_option linter.unusedVariables false
namespace Go.Vm.X
open Go.Am Go.Vm

theorem append_emp {t : TypeId} {l : List Int} (h : PHeap) (h0 : l ≠ []) (hm : l.length ≤ mostLen) : appendP t 1 .emp (ints l) h = some (.ref h.length 0 l.length l.length 1, h ++ [.log (l.map iV) 1 t .rw]) := by
  have hn : ¬ (l.map iV).length = 0 := by rw [List.length_map]; intro h; exact h0 (List.eq_nil_of_length_eq_zero h)
  unfold appendP ints
  simp only [rows_frz, Option.bind_some, appendRows]
  rw [if_pos ⟨by rw [List.length_map]; exact hm, by decide, pure_ones (pure_map iV_pure l)⟩, if_neg hn, List.length_map]
theorem append_emp0 {t : TypeId} (h : PHeap) : appendP t 1 .emp (ints []) h = some (.emp, h) := rfl
/-- What Clone of numbers gives. -/
def cloneR (l : List Int) (h : PHeap) : PV × PHeap := if l = [] then (.emp, h) else (.ref h.length 0 l.length l.length 1, h ++ [.log (l.map iV) 1 3 .rw])
theorem clone_nil (h : PHeap) : cloneR [] h = (.emp, h) := if_pos rfl
theorem clone_ne {l : List Int} (hl : l ≠ []) (h : PHeap) : cloneR l h = (.ref h.length 0 l.length l.length 1, h ++ [.log (l.map iV) 1 3 .rw]) := if_neg hl
theorem c49 {l : List Int} (hm : l.length < 4294967296) (h : PHeap) : Γ0 49 [ints l] h = some (cloneR l h) := by
  refine gbody (F := A49) (by kernel_rfl) 1 ?_
  rw [s49_eq]
  unfold s49
  simp only [KL_def]
  by_cases hl : l = []
  · subst hl
    refine isNil_frz (rows := [].map iV) (fun _ => ?_) ?_
    · simp only [if_bool, Bool.not_false, if_true, fin_def, fzL_cons, fzL_nil, fz_rawN, Option.bind_some, Option.map_some, single_one, trim_self, clone_nil]
    · show ifP (.bool false) _ ((appendP 3 1 .emp (ints []) h).bind _) = _
      simp only [if_bool, append_emp0, Bool.false_eq_true, if_false, fin_def, fzL_cons, fzL_nil, fz_rawE, Option.bind_some, Option.map_some, single_one, trim_self, clone_nil]
  · refine isNil_frz (rows := l.map iV) (fun e => absurd (List.map_eq_nil_iff.1 e) hl) ?_
    show ifP (.bool false) _ ((appendP 3 1 .emp (ints l) h).bind _) = _
    simp only [if_bool, append_emp h hl (show l.length ≤ mostLen by unfold mostLen; omega), Bool.false_eq_true, if_false, fin_def, fzL_cons, fzL_nil, fz_rawR, Option.bind_some, Option.map_some, single_one, clone_ne hl]
    rw [trim_ref ⟨_, List.mem_singleton.2 rfl, by simp [ltV]⟩]
/-- Zeros behind what is there: by append(.., make(..)..). -/
theorem app_zeros {l : List Int} {h : PHeap} (k : Nat) (hk : l.length + k ≤ 100000) : ∃ v H, appendNP 3 1 [.int .i64 0] (cloneR l h).1 (.int .i64 (k : Int)) (cloneR l h).2 = some (v, H) ∧ ((l.length + k = 0 ∧ v = .emp ∧ H = h) ∨ (v = .ref h.length 0 (l.length + k) (l.length + k) 1 ∧ H = h ++ [.log ((l ++ List.replicate k 0).map iV) 1 3 .rw])) := by
  have hz : (List.replicate k [PV.int .i64 0]).flatten.all oneP = true := List.all_eq_true.2 fun x hx => by
    obtain ⟨r, h1, h2⟩ := List.mem_flatten.1 hx
    rw [(List.mem_replicate.1 h1).2] at h2
    simp only [List.mem_singleton] at h2
    subst h2; rfl
  by_cases hl : l = []
  · subst hl
    rw [clone_nil]
    simp only [appendNP, List.length_nil, Nat.zero_add]
    rw [if_pos ⟨by omega, by unfold mostLen; omega, rfl⟩]
    simp only [appendRows, Int.toNat_natCast, List.length_replicate]
    rw [if_pos ⟨by unfold mostLen; omega, by decide, hz⟩]
    by_cases hk0 : k = 0
    · rw [if_pos hk0]; exact ⟨_, _, rfl, .inl ⟨hk0, rfl, rfl⟩⟩
    · rw [if_neg hk0]; exact ⟨_, _, rfl, .inr ⟨rfl, by simp [iV]⟩⟩
  · rw [clone_ne hl]
    simp only [appendNP]
    rw [if_pos ⟨by omega, by unfold mostLen; omega, rfl⟩]
    simp only [appendRows, Int.toNat_natCast, List.length_replicate]
    rw [if_pos ⟨by unfold mostLen; omega, by decide, hz⟩, get_new0]
    simp only [List.getElem?_cons_zero, List.length_map]
    rw [if_pos ⟨trivial, trivial, trivial, trivial, trivial, trivial, by unfold mostLen; omega⟩, set_new0]
    exact ⟨_, _, rfl, .inr ⟨rfl, by simp [iV]⟩⟩
/-- .. and what such a result freezes to. -/
theorem fz_zeros {l : List Int} {h : PHeap} {k s : Nat} {v : PV} {H : PHeap} (hv : (l.length + k = 0 ∧ v = .emp ∧ H = h) ∨ (v = .ref h.length 0 (l.length + k) (l.length + k) 1 ∧ H = h ++ [.log ((l ++ List.replicate k 0).map iV) 1 3 .rw])) (hs : s = 1) :
    ∃ L, fz (.flat s) v H = some (ints (l ++ List.replicate k 0), h ++ L) := by
  subst hs
  rcases hv with ⟨h0, rfl, rfl⟩ | ⟨rfl, rfl⟩
  · have : l = [] := List.eq_nil_of_length_eq_zero (by omega)
    subst this
    obtain rfl : k = 0 := by simpa using h0
    exact ⟨[], by rw [fz_emp, List.append_nil]; rfl⟩
  · have e := fz_logI (h := h) (l := [.log ((l ++ List.replicate k 0).map iV) 1 3 .rw]) (k := 0) (s := 1) (l.length + k) (by simp) rfl
    simp only [Nat.add_zero] at e
    exact ⟨_, e⟩
def padL (l : List Int) (n : Nat) : List Int := l.take n ++ List.replicate (n - l.length) 0
theorem padL_len (l : List Int) (n : Nat) : (padL l n).length = n := by unfold padL; simp; omega
theorem fin_I_int {h L : PHeap} {l : List Int} {n : Int} : finP [.keep, .keep] h (h ++ L) [ints l, .int .i64 n] = some (.tuple [ints l, .int .i64 n], h) := by
  simp only [fin_def, fzL_cons, fzL_nil, fz_keep, Option.bind_some, Option.map_some, single_two]
  rw [trim_new _ (fun x hx => by simp only [List.mem_cons, List.not_mem_nil, or_false] at hx; rcases hx with rfl | rfl <;> first | exact lt_ints _ _ | exact lt_int _ _ _)]
theorem c40 {l : List Int} {n : Nat} (hm : l.length < 4294967296) (hn : n ≤ 4096) (h : PHeap) : Γ0 40 [ints l, .int .i64 n] h = some (.tuple [ints (padL l n), .int .i64 ((n - l.length : Nat) : Int)], h) := by
  refine gbody (F := A40) (by kernel_rfl) 1 ?_
  rw [s40_eq]
  unfold s40
  have hmin : min (l.length : Int) (n : Int) = ((min l.length n : Nat) : Int) := by omega
  have ht : l.take (min l.length n) = l.take n := by rw [List.take_eq_take_iff]; omega
  have hlt : (l.take n).length = min n l.length := List.length_take
  have hsub : IntKind.i64.wrap ((n : Int) - ((l.take n).length : Int)) = ((n - l.length : Nat) : Int) := by rw [hlt, wrap64 (by unfold isI64; omega)]; omega
  obtain ⟨v, H, e1, e2⟩ := app_zeros (l := l.take n) (h := h) (n - l.length) (by omega)
  obtain ⟨L, e3⟩ := fz_zeros (s := 1) e2 rfl
  simp only [len_ints, Option.bind_some, fold1_two, min2_i, hmin, ints_hi (Nat.min_le_left _ _), ht, bin_sub, hsub, c49 (l := l.take n) (show (l.take n).length < 4294967296 by omega), e1, fin_def, fzL_cons, fzL_nil, fz_keep, e3, Option.map_some, single_two]
  rw [trim_new _ (fun x hx => by simp only [List.mem_cons, List.not_mem_nil, or_false] at hx; rcases hx with rfl | rfl <;> first | exact lt_ints _ _ | exact lt_int _ _ _)]
  rfl
theorem c44 {l : List Int} {n : Nat} (hl : l.length ≤ n) (hn : n ≤ 4096) (h : PHeap) : Γ0 44 [ints l, .int .i64 n] h = some (ints (padL l n), h) := by
  refine gbody (F := A44) (by kernel_rfl) 1 ?_
  rw [s44_eq]
  unfold s44
  have hsub : IntKind.i64.wrap ((n : Int) - (l.length : Int)) = ((n - l.length : Nat) : Int) := by rw [wrap64 (by unfold isI64; omega)]; omega
  obtain ⟨v, H, e1, e2⟩ := app_zeros (l := l) (h := h) (n - l.length) (by omega)
  obtain ⟨L, e3⟩ := fz_zeros (s := 1) e2 rfl
  have ea : appendP 3 1 .emp (ints l) h = some (cloneR l h) := by
    by_cases h0 : l = []
    · subst h0; rw [clone_nil]; rfl
    · rw [clone_ne h0, append_emp h h0 (by unfold mostLen; omega)]
  simp only [ea, len_ints, Option.bind_some, bin_sub, hsub, e1, fin_def, fzL_cons, fzL_nil, e3, Option.map_some, single_one]
  rw [trim_new _ (fun x hx => by simp only [List.mem_singleton] at hx; subst hx; exact lt_ints _ _)]
  unfold padL
  rw [List.take_of_length_le hl]
/-- What is asked of bytes, of which n frames are wanted. -/
def askd (b : List Nat) (n : Int) : Int := if b.length > 400000 then 3 else if n < 0 ∨ n > 4096 then 5 else 0
theorem c42 {b : List Nat} (n : Int) (h : PHeap) : Γ0 42 [u8s b, .int .i64 n] h = some (.int .i64 (askd b n), h) := by
  refine gbody (F := A42) (by kernel_rfl) 1 ?_
  rw [s42_eq]
  unfold s42 askd
  simp only [KL_def, K1_def, len_u8s, Option.bind_some, bin_gtr, bin_lss, if_bool, sc_or, fin_int0, decide_eq_true_eq, decide_eq_false_iff_not]
  by_cases h1 : b.length > 400000
  · rw [if_pos (by omega), if_pos h1]
  · rw [if_neg (by omega), if_neg h1]
    by_cases h2 : n < 0
    · simp [h2]
    · by_cases h3 : n > 4096
      · simp [h2, h3]
      · simp [h2, h3]
theorem c39 {b : List Nat} (bits n : Int) (h : PHeap) : Γ0 39 [u8s b, .int .i64 bits, .int .i64 n] h = some (.int .i64 (if right bits then askd b n else 1), h) := by
  refine gbody (F := A39) (by kernel_rfl) 1 ?_
  rw [s39_eq]
  unfold s39
  simp only [KL_def, K1_def, len_u8s, Option.bind_some, bin_gtr, bin_lss, bin_neq, if_bool, sc_or, sc_and, fin_int0, decide_eq_true_eq, decide_eq_false_iff_not]
  have key : (if (b.length : Int) > 400000 then some (PV.int .i64 3, h) else if ¬n < 0 then if n > 4096 then some (.int .i64 5, h) else some (.int .i64 0, h) else if True then some (.int .i64 5, h) else some (.int .i64 0, h)) = some (.int .i64 (askd b n), h) := by
    unfold askd
    by_cases h1 : b.length > 400000
    · rw [if_pos (by omega), if_pos h1]
    · rw [if_neg (by omega), if_neg h1]
      by_cases h2 : n < 0
      · simp [h2]
      · by_cases h3 : n > 4096
        · simp [h2, h3]
        · simp [h2, h3]
  rw [key]
  unfold right
  by_cases k1 : bits = 8
  · simp [k1]
  · by_cases k2 : bits = 16
    · simp [k2]
    · simp [k1, k2]
theorem askd_zero {b : List Nat} {n : Int} (h : askd b n = 0) : b.length ≤ 400000 ∧ ∃ m : Nat, n = m ∧ m ≤ 4096 := by
  unfold askd at h
  split at h
  · cases h
  · split at h
    · cases h
    · exact ⟨by omega, n.toNat, by omega, by omega⟩
end Go.Vm.X
