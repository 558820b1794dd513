/- The chapter's example. -/
import Derived.Test.YtaacaogceplhoaaIkM
set_option linter.unusedSimpArgs false
set_option linter.unusedVariables false
namespace Go.Vm.X
open Go.Am Go.Vm
section
attribute [local congr] bind_c ifP_c loop_c K1_c ite_c
theorem c33 {f : PV} {p : Int × Int → Bool} {l : List (Int × Int)} {h : PHeap} (hm : l.length < 9223372036854775808) (hf : ∀ c, callVP Γ0 f [.agg (ptC c)] h = some (.bool (p c), h)) : Γ0 33 [ptsPV l, f] h = some (.int .i64 (firstI p l), h) := by
  refine gbody (F := A33) (by kernel_rfl) (l.length + 1) ?_
  rw [s33_eq]
  unfold s33
  simp only [len_pts, bS, ↓KLn]
  obtain ⟨k, h1, h2, h3⟩ := first_at p l
  refine loop_pure (fun i => [.int .i64 (i : Int)]) k (by omega) rfl (fun i hi K => ?_) fun K => ?_
  · obtain ⟨c, hc⟩ := lt_l (show i < l.length by omega)
    have hp := h2 i c hi hc
    unfold s33_L0
    simp only [nth_zero, bin_lss, ltT (show i < l.length by omega), decide_true, bS, ↓KLn, ifbN, if_true, idx_pts _ hc, load_pt, hf, hp, Bool.false_eq_true, if_false, bin_add, succ63 (show i < 9223372036854775807 by omega), trim_self]
  · rcases h3 with ⟨rfl, h4, h5⟩ | ⟨c, h3, h4, h5, h6⟩
    · unfold s33_L0
      simp only [nth_zero, bin_lss, ltF, decide_false, bS, ↓KLn, ifbN, Bool.false_eq_true, if_false, h4, fin_int0]
    · have hk : k < l.length := by
        obtain ⟨hh, _⟩ := List.getElem?_eq_some_iff.1 h3
        exact hh
      unfold s33_L0
      simp only [nth_zero, bin_lss, ltT hk, decide_true, bS, ↓KLn, ifbN, if_true, idx_pts _ h3, load_pt, hf, h4, h5, fin_int0]
end
attribute [local congr] bind_c ifP_c loop_c K1_c ite_c fork_c guard_c unl_c
theorem ptc0 (c : Int × Int) : (ptC c)[0]? = some (.int .i64 c.1) := nr rfl
theorem ptc1 (c : Int × Int) : (ptC c)[1]? = some (.int .i64 c.2) := nr rfl
theorem pts_st (p : Int × Int) (vs : List PV) (t : TypeId) (l : PHeap) : storeP 2 (.ptr 0 0) (.agg (ptC p)) (.box vs t .rw :: l) = (putAt vs 0 (ptC p)).map fun vs' => .box vs' t .rw :: l := storeC0 rfl (by decide)
theorem pts_put (p : Int × Int) (a b : PV) : putAt [a, b] 0 (ptC p) = some (ptC p) := put_whole rfl rfl
theorem c34 (p : Int × Int) {h : PHeap} {b : Nat} {t : Int} (hb : loadP false 1 (.ptr b 0) h = some (.int .i64 t)) (hlt : b < h.length) : Γ0 34 [.agg (ptC p), .ptr b 0] h = some (.bool (decide (p.1 > t)), h) := by
  refine gbody (F := A34) (by kernel_rfl) 1 ?_
  rw [s34_eq]; unfold s34
  have hb2 : loadP false 1 (.ptr b 0) (h ++ [.box (ptC p) 46 .rw]) = some (.int .i64 t) := by
    simp only [loadP, boxAt] at hb ⊢
    rw [List.getElem?_append_left hlt]
    exact hb
  simp only [words, ↓KLn, Nat.reduceAdd, ptc0, hb2, fin_bool]
def E0 : Env := ⟨true, [(0, 64), (10, 0)], false, 0, 0, false, 0, 0⟩
theorem E0_ok : envOK E0 (-64) 64 = true := by decide
theorem e0_whole : partP true 0 8 E0.cs = some (.agg E0.cs) := nr rfl
theorem e0_0 : E0.cs[0]? = some (.bool true) := nr rfl
theorem e0_1 : E0.cs[1]? = some (ptsPV E0.pts) := nr rfl
theorem e0_2 : E0.cs[2]? = some (.bool false) := nr rfl
theorem e0_5 : E0.cs[5]? = some (.bool false) := nr rfl
theorem e0_len : lenP false (ptsPV E0.pts) = some (.int .i64 2) := nr rfl
theorem e0_i0 : indexAddrP 2 (ptsPV E0.pts) (.int .i64 0) = some (.fptr (ptC (0, 64)) 0) := nr rfl
theorem e0_i1 : indexAddrP 2 (ptsPV E0.pts) (.int .i64 1) = some (.fptr (ptC (10, 0)) 0) := nr rfl
theorem c32 (h : PHeap) : Γ0 32 [.agg E0.cs] h = some (.bool true, h) := by
  refine gbody (F := A32) (by kernel_rfl) 1 ?_
  rw [s32_eq]; unfold s32
  have e1 := fun hh => c24 E0 (by decide) (-64) 64 hh
  rw [E0_ok] at e1
  simp only [words, ↓KLn, Nat.reduceAdd, e0_0, e0_whole, e1, fin_bool, ↓K1n, sc_and, if_true]
def W0 : List PV := [.int .i64 0, .int .i64 0, .bool false, .int .i64 10]
theorem c36 (b : Bool) (h : PHeap) : Γ0 36 [.agg E0.cs, .bool b] h = some (.agg W0, h) := by
  refine gbody (F := A36) (by kernel_rfl) 1 ?_
  rw [s36_eq]; unfold s36
  have w1 : IntKind.i64.wrap (2 - 1) = 1 := by decide
  have f1 : fillP [.int .i64 0, .int .i64 0, .bool false, .int .i64 0] [(3, 1, .int .i64 10)] = some W0 := nr rfl
  have s1 : ∀ (vs : List PV) (t : TypeId) (l : PHeap), storeP 4 (.ptr 0 0) (.agg W0) (.box vs t .rw :: l) = (putAt vs 0 W0).map fun vs' => .box vs' t .rw :: l := fun vs t l => storeC0 rfl (by decide)
  have s2 : putAt [.int .i64 0, .int .i64 0, .bool false, .int .i64 0] 0 W0 = some W0 := put_whole rfl rfl
  have s3 : partP true 0 4 W0 = some (.agg W0) := nr rfl
  have fw : ∀ l : PHeap, finP [.keep] h (h ++ l) [.agg W0] = some (.agg W0, h) := fun l => fin_k1 rfl
  cases b with
  | false => simp only [words, ↓KLn, Nat.reduceAdd, e0_1, e0_len, w1, e0_i1, ptc0, f1, s1, s2, s3, e0_2, e0_5, ↓K1n, sc_and, Bool.false_eq_true, if_false, fw]
  | true => simp only [words, ↓KLn, Nat.reduceAdd, e0_1, e0_len, w1, e0_i1, ptc0, f1, s1, s2, s3, e0_2, e0_5, ↓K1n, sc_and, Bool.false_eq_true, if_false, if_true, fw]
theorem w0_2 : W0[2]? = some (.bool false) := nr rfl
theorem w0_3 : W0[3]? = some (.int .i64 10) := nr rfl
theorem c37 (h : PHeap) : Γ0 37 [.agg W0, .int .i64 9] h = some (.int .i64 10, h) := by
  refine gbody (F := A37) (by kernel_rfl) 1 ?_
  rw [s37_eq]; unfold s37
  have w1 : IntKind.i64.wrap (9 + 1) = 10 := by decide
  have d1 : decide ((9 : Int) ≥ 10) = false := by decide
  simp only [words, ↓KLn, Nat.reduceAdd, w0_2, w0_3, Bool.false_eq_true, if_false, d1, w1, fin_int, bin_geq]
theorem c17 (h : PHeap) : Γ0 17 [.agg E0.cs, .int .i64 9, .bool true] h = some (.int .i64 10, h) := by
  refine gbody (F := A17) (by kernel_rfl) 1 ?_
  rw [s17_eq]; unfold s17
  have m1 : fold1P max2P [.int .i64 0, .int .i64 9] = some (.int .i64 9) := nr rfl
  simp only [words, ↓KLn, Nat.reduceAdd, e0_whole, c32, Bool.not_true, Bool.false_eq_true, if_false, c36, m1, c37, fin_int]
theorem c18 (h : PHeap) : Γ0 18 [.agg E0.cs, .int .i64 10, .bool false] h = some (.bool true, h) := by
  refine gbody (F := A18) (by kernel_rfl) 1 ?_
  rw [s18_eq]; unfold s18
  have s1 : ∀ (vs : List PV) (t : TypeId) (l : PHeap), storeP 4 (.ptr 0 0) (.agg W0) (.box vs t .rw :: l) = (putAt vs 0 W0).map fun vs' => .box vs' t .rw :: l := fun vs t l => storeC0 rfl (by decide)
  have s2 : putAt [.int .i64 0, .int .i64 0, .bool false, .int .i64 0] 0 W0 = some W0 := put_whole rfl rfl
  have d1 : decide ((10 : Int) ≥ 10) = true := by decide
  simp only [words, ↓KLn, Nat.reduceAdd, e0_whole, c32, Bool.not_true, Bool.not_false, Bool.false_eq_true, if_false, if_true, c36, s1, s2, w0_2, w0_3, d1, bin_geq, fin_bool, ↓K1n, sc_and]
theorem c35a (h : PHeap) : Γ0 35 [.int .i64 (-192), .int .i64 10] h = some (.int .i64 (-20), h) := by
  refine gbody (F := A35) (by kernel_rfl) 1 ?_
  rw [s35_eq]; unfold s35
  have q1 : binP .quo (.int .i64 (-192)) (.int .i64 10) = some (.int .i64 (-19)) := by rfl
  have q2 : binP .rem (.int .i64 (-192)) (.int .i64 10) = some (.int .i64 (-2)) := by rfl
  have q3 : decide ((-2 : Int) < 0) = true := by decide
  have q4 : IntKind.i64.wrap (-19 - 1) = -20 := by decide
  simp only [words, ↓KLn, Nat.reduceAdd, q1, q2, q3, q4, if_true, fin_int0]
theorem c35b (h : PHeap) : Γ0 35 [.int .i64 (-320), .int .i64 10] h = some (.int .i64 (-32), h) := by
  refine gbody (F := A35) (by kernel_rfl) 1 ?_
  rw [s35_eq]; unfold s35
  have q1 : binP .quo (.int .i64 (-320)) (.int .i64 10) = some (.int .i64 (-32)) := by rfl
  have q2 : binP .rem (.int .i64 (-320)) (.int .i64 10) = some (.int .i64 0) := by rfl
  have q3 : decide ((0 : Int) < 0) = false := by decide
  simp only [words, ↓KLn, Nat.reduceAdd, q1, q2, q3, Bool.false_eq_true, if_false, fin_int0]
end Go.Vm.X
