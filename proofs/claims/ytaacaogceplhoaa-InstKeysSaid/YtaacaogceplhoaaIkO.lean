/- The chapter's example, the rest. -/
import Derived.Test.YtaacaogceplhoaaIkN
set_option linter.unusedSimpArgs false
set_option linter.unusedVariables false
namespace Go.Vm.X
open Go.Am Go.Vm
attribute [local congr] bind_c ifP_c loop_c K1_c ite_c fork_c guard_c unl_c
theorem unl_self {R : Type} (h : PHeap) (k : PHeap → Option R) : unl h (lock h) k = k h := by
  unfold unl
  rw [if_pos (List.prefix_refl _), lock_len0, List.append_nil]
where lock_len0 {h : PHeap} : (lock h).drop h.length = [] := by simp [lock]
theorem c16 {t x q r : Int} (hq : ∀ h, Γ0 35 [.int .i64 x, .int .i64 10] h = some (.int .i64 q, h)) (hf : firstI (fun p : Int × Int => decide (p.1 > t)) E0.pts = 1) (w1 : IntKind.i64.wrap (t - 0) = t) (w2 : IntKind.i64.wrap (-64 * t) = x) (w3 : IntKind.i64.wrap (64 + q) = r) (h : PHeap) :
    Γ0 16 [.agg E0.cs, .int .i64 t] h = some (.int .i64 r, h) := by
  refine gbody (F := A16) (by kernel_rfl) 1 ?_
  rw [s16_eq]; unfold s16
  have h33 : Γ0 33 [ptsPV E0.pts, .func 34 [] [.ptr (h.length + 1) 0]] (h ++ [.box E0.cs 25 .rw, .box [.int .i64 t] 3 .rw]) = some (.int .i64 1, h ++ [.box E0.cs 25 .rw, .box [.int .i64 t] 3 .rw]) := by
    have := c33 (f := .func 34 [] [.ptr (h.length + 1) 0]) (p := fun p => decide (p.1 > t)) (l := E0.pts) (h := h ++ [.box E0.cs 25 .rw, .box [.int .i64 t] 3 .rw]) (by decide) fun c => by
      rw [callV_func Γ0 34]
      exact c34 c (box_load rfl rfl) (by simp)
    rw [hf] at this
    exact this
  have e1 : ((1 : Int) == -1) = false := rfl
  have e2 : ((1 : Int) == 0) = false := rfl
  have v1 : IntKind.i64.wrap (1 - 1) = 0 := by decide
  have v2 : IntKind.i64.wrap (0 - 64) = -64 := by decide
  have v3 : IntKind.i64.wrap (10 - 0) = 10 := by decide
  have pp : ∀ c : Int × Int, partP true 0 2 (ptC c) = some (.agg (ptC c)) := pt_part
  simp only [words, ↓KLn, Nat.reduceAdd, cells_int, List.getElem?_cons_zero, bin_mul, e0_whole, c32, Bool.not_true, Bool.false_eq_true, if_false, e0_1, h33, e1, e2, v1, e0_i0, e0_i1, pp, pts_st, pts_put, ptc0, ptc1, v2, w1, w2, v3, hq, unl_self, w3, fin_int]
theorem c38z (f : PV) (h : PHeap) : Γ0 38 [.nilS, f] h = some (.int .i64 (-1), h) := by
  refine gbody (F := A38) (by kernel_rfl) 1 ?_
  rw [s38_eq]; unfold s38
  have e1 : lenP false .nilS = some (.int .i64 0) := rfl
  have e2 : decide ((0 : Int) < 0) = false := by decide
  simp only [words, ↓KLn, Nat.reduceAdd, e1]
  refine loop_pure (fun _ => [.int .i64 0]) 0 (by decide) rfl (fun i hi K => by omega) fun K => ?_
  unfold s38_L0
  simp only [words, ↓KLn, Nat.reduceAdd, e2, Bool.false_eq_true, if_false, fin_int0]
theorem c22z (f : PV) (h : PHeap) : Γ0 22 [.nilS, f] h = some (.bool false, h) := by
  refine gbody (F := A22) (by kernel_rfl) 1 ?_
  rw [s22_eq]; unfold s22
  have e2 : decide ((-1 : Int) ≥ 0) = false := by decide
  simp only [words, ↓KLn, Nat.reduceAdd, c38z, bin_geq, e2, fin_bool0]
def Z8 : List PV := [.bool false, .nilS, .bool false, .int .i64 0, .int .i64 0, .bool false, .int .i64 0, .int .i64 0]
theorem c24z (lo hi : Int) (h : PHeap) : Γ0 24 [.agg Z8, .int .i64 lo, .int .i64 hi] h = some (.bool true, h) := by
  refine gbody (F := A24) (by kernel_rfl) 1 ?_
  rw [s24_eq]; unfold s24
  have e1 : lenP false .nilS = some (.int .i64 0) := rfl
  have e2 : decide ((0 : Int) > 16) = false := by decide
  have e3 : decide ((0 : Int) < 0) = false := by decide
  have k75 : callVP Γ0 (.func 39 [] [.ptr h.length 0]) [.bool false, .int .i64 0, .int .i64 0] (h ++ [.box Z8 25 .rw]) = some (.bool true, h ++ [.box Z8 25 .rw]) := by
    rw [callV_func Γ0 39]
    exact c39 false 0 0 0 (v := .nilS) (load_new rfl) rfl
  have g0 : Z8[0]? = some (.bool false) := nr rfl
  have g1 : Z8[1]? = some .nilS := nr rfl
  have g2 : Z8[2]? = some (.bool false) := nr rfl
  have g3 : Z8[3]? = some (.int .i64 0) := nr rfl
  have g4 : Z8[4]? = some (.int .i64 0) := nr rfl
  have g5 : Z8[5]? = some (.bool false) := nr rfl
  have g6 : Z8[6]? = some (.int .i64 0) := nr rfl
  have g7 : Z8[7]? = some (.int .i64 0) := nr rfl
  simp only [words, ↓KLn, Nat.reduceAdd, g0, g1, e1, e2, ↓K1n, sc_or, sc_and, Bool.false_eq_true, if_false, if_true, Bool.or_false]
  refine loop_pure (fun _ => [.int .i64 0]) 0 (by decide) rfl (fun i hi K => by omega) fun K => ?_
  unfold s24_L0
  simp only [words, ↓KLn, Nat.reduceAdd, e3, Bool.false_eq_true, if_false, g2, g3, g4, g5, g6, g7, k75, ↓K1n, sc_and, if_true, fin_bool]
theorem c7z' (h : PHeap) : Γ0 7 [.agg Z33] h = some (.bool true, h) := by
  refine gbody (F := A7) (by kernel_rfl) 1 ?_
  rw [s7_eq]; unfold s7
  have e1 : lenP false .nilS = some (.int .i64 0) := rfl
  have g0 : Z33[0]? = some (.str ⟨#[]⟩) := nr rfl
  have g1 : Z33[1]? = some .nilS := nr rfl
  have p2 : partP true 2 8 Z33 = some (.agg Z8) := nr rfl
  have p10 : partP true 10 8 Z33 = some (.agg Z8) := nr rfl
  have p18 : partP true 18 8 Z33 = some (.agg Z8) := nr rfl
  have g26 : Z33[26]? = some (.int .i64 0) := nr rfl
  have g27 : Z33[27]? = some (.int .i64 0) := nr rfl
  have g28 : Z33[28]? = some (.int .i64 0) := nr rfl
  have g29 : Z33[29]? = some (.int .i64 0) := nr rfl
  have g30 : Z33[30]? = some (.int .i64 0) := nr rfl
  have g31 : Z33[31]? = some (.int .i64 0) := nr rfl
  have g32 : Z33[32]? = some (.int .i64 0) := nr rfl
  have n1 : nameOK ⟨#[]⟩ = true := by decide
  have w1 : ∀ hi, (hi = 1024 ∨ hi = 3 ∨ hi = 2 ∨ hi = 64) → inW 0 0 hi = true := fun hi hh => by rcases hh with rfl | rfl | rfl | rfl <;> decide
  have w2 : inW 0 (-1) 127 = true := by decide
  have ne0 : ((0 : Int) != 0) = false := rfl
  simp only [words, ↓KLn, Nat.reduceAdd, g0, g1, e1, c21 (s := ⟨#[]⟩) (by decide), n1, c22z, p2, p10, p18, c24z, c19, g26, g27, g28, g29, g30, g31, g32, w1 1024 (.inl rfl), w1 3 (.inr (.inl rfl)), w1 2 (.inr (.inr (.inl rfl))), w1 64 (.inr (.inr (.inr rfl))), w2, ne0, ↓K1n, sc_or, sc_and, Bool.not_true, Bool.not_false, Bool.false_eq_true, if_false, if_true, Bool.or_false, Bool.false_or, Bool.or_self, Bool.and_false, Bool.false_and, Bool.and_self, fin_bool]
def eR (h : PHeap) : List PV := [.bool true, .ref h.length 0 2 2 2, .bool false, .int .i64 0, .int .i64 0, .bool false, .int .i64 0, .int .i64 0]
theorem fz_eR (h : PHeap) (b : PBlk) (md : Md) (hmd : md = .rw ∨ md = .ro) : fz (.agg [.keep, .flat 2, .keep, .keep, .keep, .keep, .keep, .keep]) (.agg (eR h)) (h ++ [.log (E0.pts.map ptC) 2 46 md, b]) = some (.agg E0.cs, h ++ [.log (E0.pts.map ptC) 2 46 .ro, b]) := by
  have hz : fz (.flat 2) (.ref h.length 0 2 2 2) (h ++ [.log (E0.pts.map ptC) 2 46 md, b]) = some (ptsPV E0.pts, h ++ [.log (E0.pts.map ptC) 2 46 .ro, b]) := by
    rw [fz, if_neg (by decide), get_new0]
    rcases hmd with rfl | rfl
    · simp only [List.getElem?_cons_zero]
      rw [if_pos ⟨by first | rfl | trivial, by first | rfl | trivial, by decide, by first | rfl | trivial⟩]
      have := set_new h [.log (E0.pts.map ptC) 2 46 .rw, b] 0 (.log (E0.pts.map ptC) 2 46 .ro)
      rw [Nat.add_zero] at this
      rw [this]
      rfl
    · simp only [List.getElem?_cons_zero]
      rw [if_pos ⟨by first | rfl | trivial, by first | rfl | trivial, by decide, by first | rfl | trivial⟩]
      rfl
  rw [fz]
  simp only [eR, fzL, fz_keep, hz, Option.bind_some, Option.map_some]
  rfl
theorem c4 (h : PHeap) : Γ0 4 [] h = some (.bool true, h) := by
  refine gbody (F := A4) (by kernel_rfl) 1 ?_
  rw [s4_eq]; unfold s4
  have a1 := c16 (t := 3) (x := -192) (q := -20) (r := 44) c35a (by decide) (by decide) (by decide) (by decide)
  have a2 := c16 (t := 5) (x := -320) (q := -32) (r := 32) c35b (by decide) (by decide) (by decide) (by decide)
  have f1 : fillP [.int .i64 0, .int .i64 0] [(0, 1, .int .i64 0), (1, 1, .int .i64 64)] = some (ptC (0, 64)) := nr rfl
  have f2 : fillP [.int .i64 0, .int .i64 0] [(0, 1, .int .i64 10), (1, 1, .int .i64 0)] = some (ptC (10, 0)) := nr rfl
  have f3 : fillP (repP [.int .i64 0, .int .i64 0] 2) [(0, 2, .agg (ptC (0, 64))), (2, 2, .agg (ptC (10, 0)))] = some [.int .i64 0, .int .i64 64, .int .i64 10, .int .i64 0] := nr rfl
  have f4 : chunk 2 2 [.int .i64 0, .int .i64 64, .int .i64 10, .int .i64 0] = E0.pts.map ptC := nr rfl
  have f5 : ∀ v : PV, fillP [.bool false, .nilS, .bool false, .int .i64 0, .int .i64 0, .bool false, .int .i64 0, .int .i64 0] [(0, 1, .bool true), (1, 1, .ref h.length 0 2 2 2)] = some (eR h) := fun _ => nr rfl
  have s1 : ∀ (vs : List PV) (t : TypeId) (l : PHeap), storeP 8 (.ptr 0 0) (.agg (eR h)) (.box vs t .rw :: l) = (putAt vs 0 (eR h)).map fun vs' => .box vs' t .rw :: l := fun vs t l => storeC0 rfl (by decide)
  have s2 : putAt [.bool false, .nilS, .bool false, .int .i64 0, .int .i64 0, .bool false, .int .i64 0, .int .i64 0] 0 (eR h) = some (eR h) := put_whole rfl rfl
  have s3 : partP true 0 8 (eR h) = some (.agg (eR h)) := nr rfl
  have z1 := fz_eR h (.box (eR h) 25 .rw) .rw (.inl rfl)
  have z2 := fz_eR h (.box (eR h) 25 .rw) .ro (.inr rfl)
  have e44 : ((44 : Int) == 44) = true := rfl
  have e32 : ((32 : Int) == 32) = true := rfl
  have e10 : ((10 : Int) == 10) = true := rfl
  have c7z : ∀ hh, Γ0 7 [.agg Z33] hh = some (.bool true, hh) := fun hh => by
    exact c7z' hh
  simp only [words, ↓KLn, Nat.reduceAdd, f1, f2, f3, f4, f5 .junk, s1, s2, s3, z1, z2, a1, a2, e44, e32, e10, c17, c18, fill_Z33, c7z, ↓K1n, sc_and, if_true, fin_bool]
end Go.Vm.X
