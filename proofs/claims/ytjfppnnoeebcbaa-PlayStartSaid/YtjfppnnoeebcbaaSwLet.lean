/- Songs: letters of effects, and where a letter stands. -/
import Derived.Test.YtjfppnnoeebcbaaSwName
set_option linter.unusedSimpArgs false
set_option linter.unusedVariables false
namespace Go.Vm.X
open Go.Am Go.Vm
attribute [local congr] bind_c ifP_c loop_c K1_c

theorem pcall_base {Γ : PCallee} {T : PTable} {f : FuncId} (hf : Nat.beq f yieldId = false) (hT : T.get f = none) (args : List PV) (h : PHeap) : ∀ n, pcall Γ T n f args h = Γ f args h
  | 0 => by unfold pcall; rw [hf, hT]; rfl
  | n + 1 => by unfold pcall; rw [hf, hT]; rfl
theorem prun_base {Γ : PCallee} {T : PTable} {f : FuncId} (hf : Nat.beq f yieldId = false) (hT : T.get f = none) {args : List PV} {h : PHeap} {r : PV × PHeap} (hr : Γ f args h = some r) : prun Γ T f args h = some r := by
  unfold prun
  have H : ∃ n, (pcall Γ T n f args h).isSome = true := ⟨0, by rw [pcall_base hf hT, hr]; rfl⟩
  rw [dif_pos H, pcall_base hf hT, hr]
theorem c86 (s : ByteArray) (c : Int) (h : PHeap) : Γ0 86 [.str s, .int .u8 c] h = some (.int .i64 (Lib.indexByte (bys s) c.toNat.toUInt8), h) := prun_base rfl (by kernel_rfl) rfl
theorem c70 (s : ByteArray) (c : Int) (h : PHeap) : Γ0 70 [.str s, .int .u8 c] h = some (.int .i64 (Lib.indexByte (bys s) c.toNat.toUInt8), h) := by
  refine gbody (F := A70) (by kernel_rfl) 1 ?_
  rw [s70_eq]
  unfold s70
  simp only [c86, bS, fin_int0]
theorem index_has : ∀ (l : List UInt8) (c : UInt8), decide (Lib.indexByte l c ≥ 0) = l.contains c ∧ (Lib.indexByte l c = -1 ∨ 0 ≤ Lib.indexByte l c)
  | [], c => ⟨rfl, .inl rfl⟩
  | b :: l, c => by
    obtain ⟨h1, h2⟩ := index_has l c
    unfold Lib.indexByte
    by_cases hb : (b == c) = true
    · rw [if_pos hb]
      refine ⟨?_, .inr (by decide)⟩
      have : c = b := by rw [beq_iff_eq] at hb; exact hb.symm
      simp [this]
    · rw [if_neg hb]
      have hcb : (c == b) = false := by
        rw [beq_eq_false_iff_ne]
        intro e
        exact hb (by rw [e]; simp)
      rw [List.contains_cons, hcb, Bool.false_or, ← h1]
      rcases h2 with h2 | h2
      · rw [h2]; exact ⟨rfl, .inl rfl⟩
      · have : ¬ ((Lib.indexByte l c == -1) = true) := by rw [beq_iff_eq]; omega
        rw [if_neg this]
        refine ⟨?_, .inr (by omega)⟩
        rw [decide_eq_decide]; omega
/-- The letter of an effect from 1 to 36. -/
def letterU (e : Int) : Nat := if e ≤ 10 then (47 + e).toNat else (54 + e).toNat
theorem c94 {e : Int} (he : 1 ≤ e ∧ e ≤ 36) (h : PHeap) : Γ0 94 [.int .i64 e] h = some (.int .u8 (letterU e : Int), h) := by
  refine gbody (F := A94) (by kernel_rfl) 1 ?_
  rw [s94_eq]
  unfold s94 letterU
  have w1 : IntKind.i64.wrap (e - 1) = e - 1 := wrap64 (by unfold isI64; omega)
  have w2 : IntKind.i64.wrap (e - 11) = e - 11 := wrap64 (by unfold isI64; omega)
  simp only [bin_leq, bin_sub, bin_add, w1, w2, conv_int, wrap8, bS, ↓KLn, if_bool, decide_eq_true_eq, fin_int0]
  split
  · congr 3
    omega
  · congr 3
    omega
theorem c72 {e : Int} (he : 1 ≤ e ∧ e ≤ 36) (h : PHeap) : Γ0 72 [.int .i64 e] h = some (.int .u8 (letterU e : Int), h) := by
  refine gbody (F := A72) (by kernel_rfl) 1 ?_
  rw [s72_eq]
  unfold s72
  obtain ⟨k, rfl, hk⟩ : ∃ k : Nat, e = ((k + 1 : Nat) : Int) ∧ k < 36 := ⟨(e - 1).toNat, by omega, by omega⟩
  have w1 : IntKind.i64.wrap (((k + 1 : Nat) : Int) - 1) = (k : Int) := by rw [wrap64 (by unfold isI64; omega)]; omega
  have tab : ∀ k : Nat, k < 36 → indexStrP (.str ⟨#[48, 49, 50, 51, 52, 53, 54, 55, 56, 57, 65, 66, 67, 68, 69, 70, 71, 72, 73, 74, 75, 76, 77, 78, 79, 80, 81, 82, 83, 84, 85, 86, 87, 88, 89, 90]⟩) (.int .i64 (k : Int)) = some (.int .u8 (letterU ((k + 1 : Nat) : Int) : Int)) := by
    intro k hk
    have : k = 0 ∨ k = 1 ∨ k = 2 ∨ k = 3 ∨ k = 4 ∨ k = 5 ∨ k = 6 ∨ k = 7 ∨ k = 8 ∨ k = 9 ∨ k = 10 ∨ k = 11 ∨ k = 12 ∨ k = 13 ∨ k = 14 ∨ k = 15 ∨ k = 16 ∨ k = 17 ∨ k = 18 ∨ k = 19 ∨ k = 20 ∨ k = 21 ∨ k = 22 ∨ k = 23 ∨ k = 24 ∨ k = 25 ∨ k = 26 ∨ k = 27 ∨ k = 28 ∨ k = 29 ∨ k = 30 ∨ k = 31 ∨ k = 32 ∨ k = 33 ∨ k = 34 ∨ k = 35 := by omega
    rcases this with rfl | rfl | rfl | rfl | rfl | rfl | rfl | rfl | rfl | rfl | rfl | rfl | rfl | rfl | rfl | rfl | rfl | rfl | rfl | rfl | rfl | rfl | rfl | rfl | rfl | rfl | rfl | rfl | rfl | rfl | rfl | rfl | rfl | rfl | rfl | rfl <;> rfl
  simp only [bin_sub, w1, bS, tab k hk, fin_int0]
theorem c92 {s : ByteArray} (hs : s.size < 9223372036854775808) (c : Nat) (hc : c < 256) (h : PHeap) : Γ0 92 [.str s, .int .u8 (c : Int)] h = some (.bool ((bys s).contains c.toUInt8), h) := by
  have hbl := bys_len s
  refine gbody (F := A92) (by kernel_rfl) (s.size + 1) ?_
  rw [s92_eq]
  unfold s92
  simp only [↓KLn]
  have heq : ∀ b : UInt8, (((b.toNat : Nat) : Int) == (c : Int)) = (b == c.toUInt8) := fun b => by
    rw [Bool.eq_iff_iff, beq_iff_eq, beq_iff_eq]
    constructor
    · intro e
      have e2 : b.toNat = c := by omega
      rw [← e2]
      simp
    · intro e
      rw [e]
      have : c.toUInt8.toNat = c := by simp [Nat.mod_eq_of_lt hc]
      omega
  obtain ⟨k, h1, h2, h3⟩ := first_not (fun b => !(b == c.toUInt8)) (bys s)
  have hcon : (bys s).contains c.toUInt8 = !(bys s).all (fun b => !(b == c.toUInt8)) := by
    rw [List.not_all_eq_any_not]
    simp only [Bool.not_not]
    rw [List.contains_eq_any_beq]
    congr 1
    funext b
    rw [Bool.eq_iff_iff, beq_iff_eq, beq_iff_eq]
    exact ⟨fun e => e.symm, fun e => e.symm⟩
  refine loop_pure (fun i => [.int .i64 (i : Int)]) k (by omega) rfl (fun i hi K => ?_) fun K => ?_
  · obtain ⟨b, hb⟩ := lt_l (show i < (bys s).length by omega)
    have hlt : ((i : Int) < (s.size : Int)) = True := eq_true (by omega)
    have hok : (b == c.toUInt8) = false := by have := h2 i b hi hb; simpa using this
    unfold s92_L0
    simp only [nth_zero, len_str, bin_lss, hlt, decide_true, bS, ↓KLn, if_bool, if_true, idx_by hb, bin_eql, heq, hok, Bool.false_eq_true, if_false, bin_add, succ63 (show i < 9223372036854775807 by omega), trim_self]
  · rcases h3 with ⟨rfl, h4⟩ | ⟨b, h3, h4, h5⟩
    · have hlt : (((bys s).length : Int) < (s.size : Int)) = False := eq_false (by omega)
      unfold s92_L0
      simp only [nth_zero, len_str, bin_lss, hlt, decide_false, bS, ↓KLn, if_bool, Bool.false_eq_true, if_false, hcon, h4, Bool.not_true, fin_bool0]
    · have hk : k < (bys s).length := by
        obtain ⟨hh, _⟩ := List.getElem?_eq_some_iff.1 h3
        exact hh
      have hlt : ((k : Int) < (s.size : Int)) = True := eq_true (by omega)
      have hok : (b == c.toUInt8) = true := by simpa using h4
      unfold s92_L0
      simp only [nth_zero, len_str, bin_lss, hlt, decide_true, bS, ↓KLn, if_bool, if_true, idx_by h3, bin_eql, heq, hok, hcon, h5, Bool.not_false, fin_bool0]
end Go.Vm.X
