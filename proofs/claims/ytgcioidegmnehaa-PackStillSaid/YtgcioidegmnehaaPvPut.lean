/- Packing: bits that are put behind one another. -/
import Derived.Test.YtgcioidegmnehaaPvWidth
set_option linter.unusedSimpArgs false
set_option linter.unusedVariables false
namespace Go.Vm.X
open Go.Am Go.Vm

/-- The four blocks of the writer: bytes, the box that has them, what is held, how many bits. -/
def upd4 (H : PHeap) (bl bo bn bh : Nat) (out : List Nat) (num held : Nat) : PHeap :=
  (((H.set bl (.log (out.map u8V) 1 5 .rw)).set bo (.box [.ref bl 0 out.length out.length 1] 24 .rw)).set bn (.box [.int .i64 num] 3 .rw)).set bh (.box [.int .i64 held] 3 .rw)
structure D4 (H : PHeap) (bl bo bn bh : Nat) : Prop where
  lo : bl ≠ bo
  ln : bl ≠ bn
  lh : bl ≠ bh
  on : bo ≠ bn
  oh : bo ≠ bh
  nh : bn ≠ bh
  l : bl < H.length
  o : bo < H.length
  n : bn < H.length
  h : bh < H.length
variable {H : PHeap} {bl bo bn bh : Nat} {out : List Nat} {num held : Nat}
theorem upd4_len : (upd4 H bl bo bn bh out num held).length = H.length := by simp [upd4]
theorem upd4_h (d : D4 H bl bo bn bh) : (upd4 H bl bo bn bh out num held)[bh]? = some (.box [.int .i64 held] 3 .rw) := by
  unfold upd4; rw [List.getElem?_set_self (by simpa using d.h)]
theorem upd4_n (d : D4 H bl bo bn bh) : (upd4 H bl bo bn bh out num held)[bn]? = some (.box [.int .i64 num] 3 .rw) := by
  unfold upd4; rw [set_oth d.nh, List.getElem?_set_self (by simpa using d.n)]
theorem upd4_o (d : D4 H bl bo bn bh) : (upd4 H bl bo bn bh out num held)[bo]? = some (.box [.ref bl 0 out.length out.length 1] 24 .rw) := by
  unfold upd4; rw [set_oth d.oh, set_oth d.on, List.getElem?_set_self (by simpa using d.o)]
theorem upd4_l (d : D4 H bl bo bn bh) : (upd4 H bl bo bn bh out num held)[bl]? = some (.log (out.map u8V) 1 5 .rw) := by
  unfold upd4; rw [set_oth d.lh, set_oth d.ln, set_oth d.lo, List.getElem?_set_self d.l]
theorem set_set {α : Type} {l : List α} {i : Nat} {a b : α} : (l.set i a).set i b = l.set i b := by simp
theorem set_swap {α : Type} {l : List α} {i j : Nat} {a b : α} (h : i ≠ j) : (l.set i a).set j b = (l.set j b).set i a := List.set_comm _ _ h
theorem upd4_seth (held' : Nat) : (upd4 H bl bo bn bh out num held).set bh (.box [.int .i64 held'] 3 .rw) = upd4 H bl bo bn bh out num held' := by unfold upd4; rw [set_set]
theorem upd4_setn (d : D4 H bl bo bn bh) (num' : Nat) : (upd4 H bl bo bn bh out num held).set bn (.box [.int .i64 num'] 3 .rw) = upd4 H bl bo bn bh out num' held := by
  unfold upd4; rw [set_swap d.nh.symm, set_set]
/-- Bytes go into the list, and the box has the longer slice. -/
theorem upd4_setl (d : D4 H bl bo bn bh) (out' : List Nat) : ((upd4 H bl bo bn bh out num held).set bl (.log (out'.map u8V) 1 5 .rw)).set bo (.box [.ref bl 0 out'.length out'.length 1] 24 .rw) = upd4 H bl bo bn bh out' num held := by
  unfold upd4
  rw [set_swap d.lh.symm, set_swap d.ln.symm, set_swap d.lo.symm, set_set, set_swap d.oh.symm, set_swap d.on.symm, set_set]
theorem append_at {H : PHeap} {b : Nat} {t : TypeId} {xs : List Nat} (a : Nat) (e : H[b]? = some (.log (xs.map u8V) 1 t .rw)) (hm : xs.length < mostLen) :
    appendP t 1 (.ref b 0 xs.length xs.length 1) (.frz 1 [[.int .u8 a]]) H = some (.ref b 0 (xs ++ [a]).length (xs ++ [a]).length 1, H.set b (.log ((xs ++ [a]).map u8V) 1 t .rw)) := by
  have := append_ref (x := .frz 1 [[.int .u8 a]]) e (rows_frz _ _ _) (by decide) rfl (by simp; omega)
  simp only [List.length_map] at this
  rw [this]
  simp [u8V]
theorem u8_cast (X : Nat) : IntKind.u8.wrap (X : Int) = ((X % 256 : Nat) : Int) := by rw [wrap8]; omega
/-- T bits of the number B: whole bytes are out, the rest is held. -/
def put4 (H : PHeap) (bl bo bn bh : Nat) (pre : List Nat) (B T q : Nat) : PHeap := upd4 H bl bo bn bh (pre ++ bytesN q B) (T - 8 * q) (B / 256 ^ q)
theorem c31 (d : D4 H bl bo bn bh) {pre : List Nat} {B T v w : Nat} (hBT : B < 2 ^ T) (hv : v < 2 ^ w) (hw0 : 0 < w) (hw : w ≤ 16) (hlen : pre.length + (T + w) / 8 + 1 ≤ 4294967296) :
    Γ0 31 [.int .i64 v, .int .i64 w, .ptr bh 0, .ptr bn 0, .ptr bo 0] (put4 H bl bo bn bh pre B T (T / 8)) = some (.tuple [], put4 H bl bo bn bh pre (B + 2 ^ T * v) (T + w) ((T + w) / 8)) := by
  refine gbody (F := A31) (by kernel_rfl) ((T + w) / 8 + 1) ?_
  rw [s31_eq]
  unfold s31
  have hT : 8 * (T / 8) ≤ T := Nat.mul_div_le T 8
  have hq : T - 8 * (T / 8) < 8 := by omega
  have hB1 : B / 256 ^ (T / 8) < 2 ^ (T - 8 * (T / 8)) := div_small hBT hT
  have hB2 : B / 256 ^ (T / 8) < 2 ^ 62 := Nat.lt_of_lt_of_le hB1 (Nat.pow_le_pow_right (by decide) (by omega))
  have hv2 : v * 2 ^ (T - 8 * (T / 8)) < 2 ^ 62 := by
    have h1 : v * 2 ^ (T - 8 * (T / 8)) < 2 ^ w * 2 ^ (T - 8 * (T / 8)) := Nat.mul_lt_mul_of_pos_right hv (Nat.two_pow_pos _)
    rw [← Nat.pow_add] at h1
    exact Nat.lt_of_lt_of_le h1 (Nat.pow_le_pow_right (by decide) (by omega))
  have hsh : binP .shl (.int .i64 (v : Int)) (.int .i64 ((T - 8 * (T / 8) : Nat) : Int)) = some (.int .i64 ((v * 2 ^ (T - 8 * (T / 8)) : Nat) : Int)) := by
    rw [shl_pow _ _ _ (by omega), ← Int.natCast_mul, wrap64 (by unfold isI64; have : (2 : Nat) ^ 62 = 4611686018427387904 := rfl
                                                                omega)]
  have hor := or_nat (k := .i64) _ _ hB2 hv2
  have hB' : B / 256 ^ (T / 8) ||| v * 2 ^ (T - 8 * (T / 8)) = (B + 2 ^ T * v) / 256 ^ (T / 8) := by rw [or_add hB1, div_grow hT]
  rw [hB'] at hor
  have hadd : IntKind.i64.wrap (((T - 8 * (T / 8) : Nat) : Int) + (w : Int)) = ((T + w - 8 * (T / 8) : Nat) : Int) := by
    rw [wrap64 (by unfold isI64; omega)]; omega
  have e0 : put4 H bl bo bn bh pre B T (T / 8) = upd4 H bl bo bn bh (pre ++ bytesN (T / 8) (B + 2 ^ T * v)) (T - 8 * (T / 8)) (B / 256 ^ (T / 8)) := by unfold put4; rw [bytesN_grow hT]
  rw [e0]
  generalize hB3 : B + 2 ^ T * v = B3 at *
  have rd : ∀ {o : List Nat} {nm hd : Nat}, loadP false 1 (.ptr bh 0) (upd4 H bl bo bn bh o nm hd) = some (.int .i64 hd) ∧ loadP false 1 (.ptr bn 0) (upd4 H bl bo bn bh o nm hd) = some (.int .i64 nm) ∧ loadP false 1 (.ptr bo 0) (upd4 H bl bo bn bh o nm hd) = some (.ref bl 0 o.length o.length 1) := fun {o nm hd} => by
    refine ⟨?_, ?_, ?_⟩
    · rw [load_box, boxAt_some (upd4_h d)]; rfl
    · rw [load_box, boxAt_some (upd4_n d)]; rfl
    · rw [load_box, boxAt_some (upd4_o d)]; rfl
  have sh : ∀ {o : List Nat} {nm hd : Nat} (x : Nat), storeP 1 (.ptr bh 0) (.int .i64 x) (upd4 H bl bo bn bh o nm hd) = some (upd4 H bl bo bn bh o nm x) := fun {o nm hd} x => by
    rw [store_cell (upd4_h d) (by simp) rfl]; simp only [List.set_cons_zero]; rw [upd4_seth]
  have sn : ∀ {o : List Nat} {nm hd : Nat} (x : Nat), storeP 1 (.ptr bn 0) (.int .i64 x) (upd4 H bl bo bn bh o nm hd) = some (upd4 H bl bo bn bh o x hd) := fun {o nm hd} x => by
    rw [store_cell (upd4_n d) (by simp) rfl]; simp only [List.set_cons_zero]; rw [upd4_setn d]
  simp only [rd, Option.bind_some, hsh, hor, sh, bin_add, hadd, sn, KL_def]
  refine loop_run (fun _ => []) (fun i => put4 H bl bo bn bh pre B3 (T + w) (T / 8 + i)) ((T + w) / 8 - T / 8) (by omega) rfl rfl (fun i hi K => ?_) fun K => ?_
  · show s31_L0 _ _ _ _ _ _ _ K [] (upd4 _ _ _ _ _ _ _ _) = K [] (upd4 _ _ _ _ _ _ _ _)
    rw [show T / 8 + (i + 1) = (T / 8 + i) + 1 by omega]
    generalize hqq : T / 8 + i = q at *
    have hge : ((T + w - 8 * q : Nat) : Int) ≥ 8 := by omega
    have hshr : binP .shr (.int .i64 ((B3 / 256 ^ q : Nat) : Int)) (.int .u64 8) = some (.int .i64 ((B3 / 256 ^ (q + 1) : Nat) : Int)) := by
      have := shr_pow ((B3 / 256 ^ q : Nat) : Int) 8 .u64 (by decide)
      rw [← Int.natCast_ediv, Nat.div_div_eq_div_mul] at this
      rw [Nat.pow_succ]
      exact this
    have hsb : IntKind.i64.wrap (((T + w - 8 * q : Nat) : Int) - 8) = ((T + w - 8 * (q + 1) : Nat) : Int) := by
      rw [wrap64 (by unfold isI64; omega)]; omega
    have ap := append_at (B3 / 256 ^ q % 256) (upd4_l (out := pre ++ bytesN q B3) (num := T + w - 8 * q) (held := B3 / 256 ^ q) d) (by rw [List.length_append, bytesN_len]; unfold mostLen; omega)
    have so : storeP 1 (.ptr bo 0) (.ref bl 0 (pre ++ bytesN q B3 ++ [B3 / 256 ^ q % 256]).length (pre ++ bytesN q B3 ++ [B3 / 256 ^ q % 256]).length 1) ((upd4 H bl bo bn bh (pre ++ bytesN q B3) (T + w - 8 * q) (B3 / 256 ^ q)).set bl (.log ((pre ++ bytesN q B3 ++ [B3 / 256 ^ q % 256]).map u8V) 1 5 .rw)) =
        some (upd4 H bl bo bn bh (pre ++ bytesN (q + 1) B3) (T + w - 8 * q) (B3 / 256 ^ q)) := by
      rw [store_cell (vs := [.ref bl 0 (pre ++ bytesN q B3).length (pre ++ bytesN q B3).length 1]) (t := 24) (by rw [set_oth d.lo.symm]; exact upd4_o d) (by simp) rfl]
      simp only [List.set_cons_zero]
      rw [upd4_setl d, bytesN_succ, List.append_assoc]
    unfold s31_L0
    simp only [rd, Option.bind_some, bin_geq, hge, decide_true, KL_def, if_bool, if_true, conv_int, u8_cast, fill_int, all_one, pure1, guard_true, chunk_one, fork_def, ap, so, hshr, sh, bin_sub, hsb, sn]
    rw [trim_len _ (by simp [upd4_len])]
  · show s31_L0 _ _ _ _ _ _ _ K [] (upd4 _ _ _ _ _ _ _ _) = some (.tuple [], upd4 _ _ _ _ _ _ _ _)
    rw [show T / 8 + ((T + w) / 8 - T / 8) = (T + w) / 8 by have := Nat.div_le_div_right (c := 8) (show T ≤ T + w by omega); omega]
    have hge : ¬ (((T + w - 8 * ((T + w) / 8) : Nat) : Int) ≥ 8) := by omega
    unfold s31_L0
    simp only [rd, Option.bind_some, bin_geq, hge, decide_false, KL_def, if_bool, Bool.false_eq_true, if_false, fin_def, fzL_nil, Option.map_some]
    rw [trim_len _ (by simp [put4, upd4_len])]
    rfl
end Go.Vm.X
