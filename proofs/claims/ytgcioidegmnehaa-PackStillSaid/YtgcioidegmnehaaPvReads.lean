/- Packing: the program's Unblocks, and the law PackReads. -/
import Derived.Test.YtgcioidegmnehaaPvUnblocks
set_option linter.unusedSimpArgs false
set_option linter.unusedVariables false
namespace Go.Vm.X
open Go.Am Go.Vm
attribute [local congr] bind_congr1 ifP_congr1 scP_congr1 ite_congr1 loop_congr1

theorem c18 {b : List Nat} (hb : ∀ x ∈ b, x < 256) (bits v n : Int) (h : PHeap) : Γ0 18 [u8s b, .int .i64 bits, .int .i64 v, .int .i64 n] h = some (unbPV b bits v n, h) := by
  obtain ⟨N, hN⟩ : ∃ N : Nat, b.length + 300 = N := ⟨_, rfl⟩
  refine gbody (F := A18) (by kernel_rfl) N ?_
  rw [s18_eq]
  unfold s18
  obtain ⟨fs, hfs, hfl⟩ : ∃ fs : List PV, fs = (if v = 1 then [fn25, fn41] else if v = 2 then [fn56 (h.length + 1), fn56 (h.length + 2)] else [.nilF, .nilF]) ∧ fs.length = 2 ∧ fs.all oneP = true := ⟨_, rfl, by split <;> first | (split <;> exact ⟨rfl, rfl⟩) | exact ⟨rfl, rfl⟩⟩
  have l1 : (HW h).length = h.length + 3 := by unfold HW; simp
  have H5 : HW h ++ [PBlk.box [.nilF, .nilF] 45 .rw] = h ++ [.map (waysM h) .rw, .box [fn25] 43 .rw, .box [fn41] 43 .rw, .box [.nilF, .nilF] 45 .rw] := by unfold HW; simp
  have st : storeP 2 (.ptr (h.length + 3) 0) (.agg fs) (h ++ [.map (waysM h) .rw, .box [fn25] 43 .rw, .box [fn41] 43 .rw, .box [.nilF, .nilF] 45 .rw]) = some (h ++ [.map (waysM h) .rw, .box [fn25] 43 .rw, .box [fn41] 43 .rw, .box fs 45 .rw]) := by
    rw [store_whole (n := 2) (vs := [.nilF, .nilF]) (t := 45) (by rw [get_new]; rfl) rfl hfl.1 (by decide) hfl.2, set_new]
    rfl
  simp only [c28, Option.bind_some, look1, ← hfs, x20, x21, fork_def, l1, H5, st, un_not, ↓KL_def, if_bool]
  unfold unbPV unbE
  cases hv : isVer v with
  | false =>
    have h0 : unbE0 b bits v n = 1 := by unfold unbE0; rw [hv, Bool.and_false]; rfl
    rw [h0]
    simp only [Bool.not_false, if_true, fin_4e]
    rfl
  | true =>
    have h0 : unbE0 b bits v n = if right bits then askd b n else 1 := by unfold unbE0; rw [hv, Bool.and_true]
    simp only [Bool.not_true, Bool.false_eq_true, if_false, c39, ← h0, Option.bind_some, bin_neq, ↓KL_def, if_bool, ne0]
    by_cases hz : unbE0 b bits v n = 0
    · rw [if_neg (fun q => q hz), if_pos hz]
      have hz' := hz
      rw [h0] at hz'
      cases hr : right bits with
      | false => rw [hr, if_neg Bool.false_ne_true] at hz'; exact absurd hz' (by decide)
      | true =>
        rw [hr, if_pos rfl] at hz'
        obtain ⟨hlen, m, rfl, hm⟩ := askd_zero hz'
        obtain ⟨k, rfl, hk⟩ := right_nat hr
        have hok := unb_ok (b := b) (bits := k) (m := m) (by omega) (b.length + 300) 0 [] (by simp) (by omega) (fun x hx => by cases hx)
        rw [← unbR_nat] at hok
        obtain ⟨H, hH⟩ : ∃ H : PHeap, h ++ [PBlk.map (waysM h) .rw, .box [fn25] 43 .rw, .box [fn41] 43 .rw, .box fs 45 .rw] = H := ⟨_, rfl⟩
        have herr : ∀ l : List Int, finP [.flat 1, .keep, .keep, .keep] h (H ++ [.log (l.map iV) 1 3 .rw]) [.nilS, .int .i64 0, .int .i64 0, .int .i64 9] = some (.tuple [ints [], .int .i64 0, .int .i64 0, .int .i64 9], h) := fun l => by
          rw [← hH, List.append_assoc]; exact fin_4e
        simp only [hH, fork_def, nth_zero, ↓KL_def, Int.toNat_natCast]
        have hloop := fun j => unL2 hb hlen (show k ≤ 16 by omega) hm H h j N (by omega) _ herr N 0 [] (by omega) (by omega) (by simp) undefP undefP undefP undefP undefP undefP undefP undefP undefP undefP undefP
        refine Eq.trans (hloop _) ?_
        rw [show unb b k m N 0 [] = unbR b k m by rw [unbR_nat, hN]]
        generalize unbR b k m = R at hok ⊢
        obtain ⟨l, u, bad⟩ := R
        obtain ⟨o1, o2, o3, o4⟩ := hok
        have o1' : l.length ≤ m := o1
        cases bad with
        | true => rfl
        | false =>
          have e := fz_logI (h := H) (l := [.log (l.map iV) 1 3 .rw]) (k := 0) (s := 1) l.length rfl rfl
          simp only [Nat.add_zero] at e
          obtain ⟨X, hX⟩ : ∃ X : PHeap, (if l.length = 0 then [PBlk.log (l.map iV) 1 3 Md.rw] else [PBlk.log (l.map iV) 1 3 Md.rw].set 0 (.log (l.map iV) 1 3 .ro)) = X := ⟨_, rfl⟩
          rw [hX] at e
          have ia : indexAddrArrP 2 1 (.ptr (h.length + 3) 0) (.int .i64 1) = some (.ptr (h.length + 3) 1) := rfl
          have hHX : ∀ Y : PHeap, H ++ Y = h ++ ([PBlk.map (waysM h) .rw, .box [fn25] 43 .rw, .box [fn41] 43 .rw, .box fs 45 .rw] ++ Y) := fun Y => by rw [← hH, List.append_assoc]
          have ld : loadP false 1 (.ptr (h.length + 3) 1) (H ++ [.log (l.map iV) 1 3 .rw]) = fs[1]? := by
            rw [hHX, load_box, boxAt_some (vs := fs) (t := 45) (md := .rw) (by rw [get_new]; rfl)]; rfl
          have call : ∃ f, fs[1]? = some f ∧ callVP Γ0 f [ints l, .int .i64 k] (H ++ X) = some (ints (decL v k l), H ++ X) := by
            unfold isVer at hv
            simp only [Bool.or_eq_true, beq_iff_eq] at hv
            rcases hv with rfl | rfl
            · rw [hfs]
              refine ⟨fn41, rfl, ?_⟩
              unfold fn41
              rw [callV_func Γ0 41]
              simp only [List.nil_append, List.append_nil]
              rw [c41 (b := k) (by omega) (by omega) o2 (show l.length < 4294967296 by omega)]
              rfl
            · rw [hfs]
              refine ⟨fn56 (h.length + 2), rfl, ?_⟩
              unfold fn56
              rw [callV_func Γ0 56]
              simp only [List.nil_append, List.cons_append]
              rw [c56s (b := k) (by omega) (by omega) o2 (show l.length < 4294967296 by omega) (boxAt_some (t := 43) (md := .rw) (by rw [hHX, get_new]; rfl))]
              rfl
          obtain ⟨f, hf0, hf⟩ := call
          have hpad := c40 (show (decL v k l).length < 4294967296 by rw [decL_len]; omega) hm (H ++ X)
          rw [decL_len] at hpad
          simp only [Bool.false_eq_true, if_false, if_true, nth_zero, nth_one, ia, ld, hf0, Option.bind_some, e, hf, hpad, x20, x21]
          rw [hHX, fin_4]
    · rw [if_pos hz, if_neg hz, if_neg hz, fin_4e]

/-! ### The law -/
theorem c8b (h : PHeap) : Γ0 8 [] h = some (.bool true, h) := c8 h
theorem c5 {b : List Nat} (hb : ∀ x ∈ b, x < 256) (bits v n : Int) (h : PHeap) : Γ0 5 [u8s b, .int .i64 bits, .int .i64 v, .int .i64 n] h = some (.bool true, h) := by
  refine gbody (F := A5) (by kernel_rfl) 1 ?_
  rw [s5_eq]
  unfold s5
  have hundL : (undL b bits n).length < 4294967297 := by
    unfold undL
    split
    · rename_i hz
      unfold undE at hz
      split at hz
      · obtain ⟨hlen, m, rfl, hm⟩ := askd_zero hz
        rw [padL_len, Int.toNat_natCast]; omega
      · exact absurd hz (by decide)
    · simp
  obtain ⟨l, a, c, e, he, hlen⟩ : ∃ (l : List Int) (a c e : Int), unbPV b bits v n = .tuple [ints l, .int .i64 a, .int .i64 c, .int .i64 e] ∧ l.length < 4294967297 := by
    unfold unbPV
    split
    · rename_i hz
      refine ⟨_, _, _, _, rfl, ?_⟩
      rw [padL_len]
      have h0 : unbE0 b bits v n = 0 := by
        unfold unbE at hz
        split at hz
        · assumption
        · rename_i q; exact absurd hz q
      unfold unbE0 at h0
      split at h0
      · obtain ⟨hlen, m, rfl, hm⟩ := askd_zero h0
        rw [Int.toNat_natCast]; omega
      · exact absurd h0 (by decide)
    · exact ⟨_, _, _, _, rfl, by simp⟩
  simp only [c16 hb, c17 hb, undR, Option.bind_some, x30, x31, x32, bin_neq, bne_self_eq_false, ↓K1_def, ↓KL_def, sc_or, sc_and, if_true, c15 _ hundL, un_not, Bool.not_true, if_bool, Bool.false_eq_true, if_false, c18 hb, c19 hb, he, x40, x41, x42, x43, bin_eql, beq_self_eq_true, c15 _ hlen, c8, fin_bool0]
/-- Bytes, as an argument. -/
theorem wf_u8 {a : Int} (h : (Lit.int .u8 a).wf = true) : 0 ≤ a ∧ a < 256 := by
  have h' : (decide (IntKind.u8.min ≤ a) && decide (a ≤ IntKind.u8.max)) = true := h
  simp only [Bool.and_eq_true, decide_eq_true_eq] at h'
  have e1 : IntKind.u8.min = 0 := by decide
  have e2 : IntKind.u8.max = 255 := by decide
  omega
theorem u8s_of {l : List Int} (h : ∀ a ∈ l, (Lit.int .u8 a).wf = true) : (.frz 1 (l.map (kV .u8)) : PV) = u8s (l.map Int.toNat) ∧ ∀ x ∈ l.map Int.toNat, x < 256 := by
  refine ⟨?_, fun x hx => ?_⟩
  · unfold u8s
    rw [List.map_map]
    congr 1
    refine List.map_congr_left fun a ha => ?_
    have := wf_u8 (h a ha)
    show [PV.int .u8 a] = [PV.int .u8 ((a.toNat : Nat) : Int)]
    rw [Int.toNat_of_nonneg this.1]
  · obtain ⟨a, ha, rfl⟩ := List.mem_map.1 hx
    have := wf_u8 (h a ha)
    omega
theorem c5i {l : List Int} (hl : ∀ a ∈ l, (Lit.int .u8 a).wf = true) (bits v n : Int) (h : PHeap) : Γ0 5 [.frz 1 (l.map (kV .u8)), .int .i64 bits, .int .i64 v, .int .i64 n] h = some (.bool true, h) := by
  rw [(u8s_of hl).1]
  exact c5 (u8s_of hl).2 bits v n h
end Go.Vm.X
