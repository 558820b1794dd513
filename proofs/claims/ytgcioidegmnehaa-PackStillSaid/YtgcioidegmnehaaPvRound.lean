/- Packing: a block of the program: a round of its range. -/
import Derived.Test.YtgcioidegmnehaaPvBlock
set_option linter.unusedSimpArgs false
set_option linter.unusedVariables false
namespace Go.Vm.X
open Go.Am Go.Vm

/-- Where Blocks stands between two blocks. -/
def HB (h : PHeap) (m b1 b2 b3 c1 c2 : PBlk) (st : LSt) (pend : Option AExit) (out : List Nat) : PHeap :=
  h ++ [m, b1, b2, b3, .log (out.map u8V) 1 5 .rw, .box [.ref (h.length + 4) 0 out.length out.length 1] 24 .rw, c1, c2, .loop [.ptr (h.length + 5) 0] [11] [47] L11_0a L11_0b st pend .rw]
variable {h : PHeap} {m b1 b2 b3 c1 c2 : PBlk}
/-- .. and within one. -/
def HR (h : PHeap) (m b1 b2 b3 c1 c2 : PBlk) (out : List Nat) (num held : Nat) : PHeap :=
  h ++ [m, b1, b2, b3, .log (out.map u8V) 1 5 .rw, .box [.ref (h.length + 4) 0 out.length out.length 1] 24 .rw, c1, c2, .loop [.ptr (h.length + 5) 0] [11] [47] L11_0a L11_0b .busy none .rw, .box [.int .i64 held] 3 .rw, .box [.int .i64 num] 3 .rw]
theorem hr_upd (out out' : List Nat) (num num' held held' : Nat) : upd4 (HR h m b1 b2 b3 c1 c2 out num held) (h.length + 4) (h.length + 5) (h.length + 10) (h.length + 9) out' num' held' = HR h m b1 b2 b3 c1 c2 out' num' held' := by
  unfold upd4 HR
  simp only [set_new]
  rfl
theorem hr_d (out : List Nat) (num held : Nat) : D4 (HR h m b1 b2 b3 c1 c2 out num held) (h.length + 4) (h.length + 5) (h.length + 10) (h.length + 9) := by
  have hl : (HR h m b1 b2 b3 c1 c2 out num held).length = h.length + 11 := by unfold HR; rw [List.length_append]; rfl
  constructor <;> omega
theorem c31' (pre : List Nat) {B T v w : Nat} (hBT : B < 2 ^ T) (hv : v < 2 ^ w) (hw0 : 0 < w) (hw : w ≤ 16) (hlen : pre.length + (T + w) / 8 + 1 ≤ 4294967296) :
    Γ0 31 [.int .i64 v, .int .i64 w, .ptr (h.length + 9) 0, .ptr (h.length + 10) 0, .ptr (h.length + 5) 0] (HR h m b1 b2 b3 c1 c2 (pre ++ bytesN (T / 8) B) (T - 8 * (T / 8)) (B / 256 ^ (T / 8))) =
      some (.tuple [], HR h m b1 b2 b3 c1 c2 (pre ++ bytesN ((T + w) / 8) (B + 2 ^ T * v)) (T + w - 8 * ((T + w) / 8)) ((B + 2 ^ T * v) / 256 ^ ((T + w) / 8))) := by
  have := c31 (H := HR h m b1 b2 b3 c1 c2 (pre ++ bytesN (T / 8) B) (T - 8 * (T / 8)) (B / 256 ^ (T / 8))) (hr_d _ _ _) (pre := pre) hBT hv hw0 hw hlen
  unfold put4 at this
  rw [hr_upd, hr_upd] at this
  exact this
theorem low_cast (w : Nat) (x : Int) : x % ((2 ^ w : Nat) : Int) = ((low w x : Nat) : Int) := by
  unfold low
  rw [Int.toNat_of_nonneg (Int.emod_nonneg _ (by have := Nat.two_pow_pos w; omega))]
theorem pow_2half {w : Nat} (h : 1 ≤ w) : (2 * half w) - 1 = ((2 ^ w : Nat) : Int) - 1 := by rw [half_two h]
/-- The bytes of a number of T bits, when it is filled up with zeros. -/
theorem bytes_pad {B T : Nat} (hB : B < 2 ^ T) : (∃ z, 8 ∣ T + z ∧ z < 8 ∧ bytesN ((T + 7) / 8) B = bytesN ((T + z) / 8) B) := by
  refine ⟨(8 - T % 8) % 8, by omega, Nat.mod_lt _ (by decide), ?_⟩
  congr 1
  omega
theorem cRound {c : List Int} (hs : Small c) (hm : c.length ≤ 256) {out : List Nat} (ho : out.length ≤ 100000) :
    Γ0 yieldId [.ptr (h.length + 8) 0, ints c] (HB h m b1 b2 b3 c1 c2 .ready none out) = some (.bool true, HB h m b1 b2 b3 c1 c2 .ready none (out ++ blockB c)) := by
  have hloop : (HB h m b1 b2 b3 c1 c2 .ready none out)[h.length + 8]? = some (.loop [.ptr (h.length + 5) 0] [11] [47] L11_0a L11_0b .ready none .rw) := by unfold HB; rw [get_new]; rfl
  refine gbody_round (c.length + 1) ?_
  rw [r11_0_eq _ _ _ _ _ _ _ _ hloop]
  unfold r11_0
  have hbeg : beginRoundP (h.length + 8) (HB h m b1 b2 b3 c1 c2 .ready none out) = some (HB h m b1 b2 b3 c1 c2 .busy none out) := by
    unfold beginRoundP
    rw [hloop]
    unfold HB
    simp only [set_new]
    rfl
  have hw := width_range c
  generalize hwe : widthF c = w at *
  have hcv : IntKind.u8.wrap (w : Int) = w := wrapu8 w (by omega)
  have hld : loadP false 1 (.ptr (h.length + 5) 0) (HB h m b1 b2 b3 c1 c2 .busy none out) = some (.ref (h.length + 4) 0 out.length out.length 1) := by
    rw [load_box, boxAt_some (vs := [.ref (h.length + 4) 0 out.length out.length 1]) (t := 24) (md := .rw) (by unfold HB; rw [get_new]; rfl)]; rfl
  have hap : appendP 5 1 (.ref (h.length + 4) 0 out.length out.length 1) (.frz 1 [[.int .u8 (w : Int)]]) (HB h m b1 b2 b3 c1 c2 .busy none out) = some (.ref (h.length + 4) 0 (out ++ [w]).length (out ++ [w]).length 1, (HB h m b1 b2 b3 c1 c2 .busy none out).set (h.length + 4) (.log ((out ++ [w]).map u8V) 1 5 .rw)) :=
    append_at w (by unfold HB; rw [get_new]; rfl) (by unfold mostLen; omega)
  have hst : storeP 1 (.ptr (h.length + 5) 0) (.ref (h.length + 4) 0 (out ++ [w]).length (out ++ [w]).length 1) ((HB h m b1 b2 b3 c1 c2 .busy none out).set (h.length + 4) (.log ((out ++ [w]).map u8V) 1 5 .rw)) = some (HB h m b1 b2 b3 c1 c2 .busy none (out ++ [w])) := by
    rw [store_cell (vs := [.ref (h.length + 4) 0 out.length out.length 1]) (t := 24) (by unfold HB; rw [set_new, get_new]; rfl) (by simp) rfl]
    unfold HB
    simp only [set_new]
    rfl
  have hlen : (HB h m b1 b2 b3 c1 c2 .busy none (out ++ [w])).length = h.length + 9 := by unfold HB; rw [List.length_append]; rfl
  have hlen2 : (HB h m b1 b2 b3 c1 c2 .busy none (out ++ [w]) ++ [PBlk.box [.int .i64 0] 3 .rw]).length = h.length + 10 := by rw [List.length_append, hlen]; rfl
  have hHR : HB h m b1 b2 b3 c1 c2 .busy none (out ++ [w]) ++ [PBlk.box [.int .i64 0] 3 .rw] ++ [PBlk.box [.int .i64 0] 3 .rw] = HR h m b1 b2 b3 c1 c2 (out ++ [w]) 0 0 := by unfold HB HR; simp
  have hs0 : storeP 1 (.ptr (h.length + 9) 0) (.int .i64 0) (HR h m b1 b2 b3 c1 c2 (out ++ [w]) 0 0) = some (HR h m b1 b2 b3 c1 c2 (out ++ [w]) 0 0) := by
    rw [store_cell (vs := [.int .i64 (0 : Nat)]) (t := 3) (by unfold HR; rw [get_new]; rfl) (by simp) rfl]
    unfold HR
    simp only [set_new]
    rfl
  have hs1 : storeP 1 (.ptr (h.length + 10) 0) (.int .i64 0) (HR h m b1 b2 b3 c1 c2 (out ++ [w]) 0 0) = some (HR h m b1 b2 b3 c1 c2 (out ++ [w]) 0 0) := by
    rw [store_cell (vs := [.int .i64 (0 : Nat)]) (t := 3) (by unfold HR; rw [get_new]; rfl) (by simp) rfl]
    unfold HR
    simp only [set_new]
    rfl
  simp only [hbeg, Option.bind_some, KL_def, c30 hs (show c.length ≤ 100000 by omega), hwe, hld, conv_int, hcv, fill_int, all_one, pure1, guard_true, chunk_one, fork_def, hap, hst, hlen, hlen2, hHR, hs0, hs1, len_ints]
  let B : Nat → Nat := fun i => packed w (c.take i)
  have hcl : c.length * w ≤ 256 * 16 := Nat.mul_le_mul hm hw.2
  have e0 : HR h m b1 b2 b3 c1 c2 (out ++ [w]) 0 0 = HR h m b1 b2 b3 c1 c2 (out ++ [w] ++ bytesN (0 * w / 8) (B 0)) (0 * w - 8 * (0 * w / 8)) (B 0 / 256 ^ (0 * w / 8)) := by
    simp [B, packed, bytesN]
  refine loop_run (fun i => [.int .i64 i]) (fun i => HR h m b1 b2 b3 c1 c2 (out ++ [w] ++ bytesN (i * w / 8) (B i)) (i * w - 8 * (i * w / 8)) (B i / 256 ^ (i * w / 8))) c.length (by omega) rfl e0.symm (fun i hi K => ?_) fun K => ?_
  · obtain ⟨a, ha⟩ := lt_len hi
    have hB : B i < 2 ^ (i * w) := by
      have := packed_lt w (c.take i)
      rwa [List.length_take, Nat.min_eq_left (by omega)] at this
    have hiw : i * w ≤ c.length * w := Nat.mul_le_mul_right _ (by omega)
    have hput := c31' (h := h) (m := m) (b1 := b1) (b2 := b2) (b3 := b3) (c1 := c1) (c2 := c2) (out ++ [w]) hB (low_lt w a) hw.1 hw.2 (by rw [List.length_append]; simp; omega)
    have hBs : B i + 2 ^ (i * w) * low w a = B (i + 1) := by
      show _ = packed w (c.take (i + 1))
      rw [take_succ_get ha, packed_snoc, List.length_take, Nat.min_eq_left (by omega)]
    rw [hBs, show i * w + w = (i + 1) * w by rw [Nat.add_mul]; omega] at hput
    have hw1 : IntKind.i64.wrap (2 * half w - 1) = ((2 ^ w : Nat) : Int) - 1 := by rw [wrap64 (wrap_half hw.1 hw.2).2.1, half_two hw.1]
    have hmask := and_mask a (show w ≤ 62 by omega)
    rw [low_cast] at hmask
    unfold r11_0_L0
    simp only [nth_zero, bin_lss, ltT hi, decide_true, Option.bind_some, KL_def, if_bool, if_true, idx_ints _ ha, load_iV, shl_full hw.1 hw.2, bin_sub, hw1, hmask, callV_func Γ0 31, List.nil_append, List.cons_append, hput, bin_add, succ64 (show i < 4294967297 by omega)]
    rw [trim_len _ (by unfold HR; simp)]
  · have hBl : B c.length = packed w c := by show packed w (c.take c.length) = _; rw [List.take_length]
    have hlt := packed_lt w c
    unfold r11_0_L0
    simp only [nth_zero, bin_lss, ltF, decide_false, Option.bind_some, KL_def, if_bool, Bool.false_eq_true, if_false]
    rw [hBl]
    have hld2 : ∀ (o : List Nat) (nm hd : Nat), loadP false 1 (.ptr (h.length + 10) 0) (HR h m b1 b2 b3 c1 c2 o nm hd) = some (.int .i64 nm) := fun o nm hd => by
      rw [load_box, boxAt_some (vs := [.int .i64 nm]) (t := 3) (md := .rw) (by unfold HR; rw [get_new]; rfl)]; rfl
    have hfin : ∀ (o : List Nat) (nm hd : Nat), (endRoundP (h.length + 8) .normal (HR h m b1 b2 b3 c1 c2 o nm hd)).map (fun q => (q.1, trim (HB h m b1 b2 b3 c1 c2 .ready none out) [] q.2)) = some (.bool true, HB h m b1 b2 b3 c1 c2 .ready none o) := fun o nm hd => by
      unfold endRoundP
      rw [show (HR h m b1 b2 b3 c1 c2 o nm hd)[h.length + 8]? = some (.loop [.ptr (h.length + 5) 0] [11] [47] L11_0a L11_0b .busy none .rw) by unfold HR; rw [get_new]; rfl]
      simp only [Option.map_some]
      have e1 : (HR h m b1 b2 b3 c1 c2 o nm hd).set (h.length + 8) (.loop [.ptr (h.length + 5) 0] [11] [47] L11_0a L11_0b .ready none .rw) = h ++ ([m, b1, b2, b3, .log (o.map u8V) 1 5 .rw, .box [.ref (h.length + 4) 0 o.length o.length 1] 24 .rw, c1, c2, .loop [.ptr (h.length + 5) 0] [11] [47] L11_0a L11_0b .ready none .rw] ++ [.box [.int .i64 hd] 3 .rw, .box [.int .i64 nm] 3 .rw]) := by
        unfold HR
        rw [set_new]
        rfl
      rw [e1]
      unfold HB
      rw [trim_app2 (by rfl) (fun v hv => by cases hv) fun k x hx => ?_]
      match k, hx with
      | 0, hx => exact .inl hx
      | 1, hx => exact .inl hx
      | 2, hx => exact .inl hx
      | 3, hx => exact .inl hx
      | 4, hx =>
        cases hx
        refine .inr fun x hx => ?_
        obtain ⟨r, h1, h2⟩ := List.mem_flatten.1 hx
        obtain ⟨a, _, rfl⟩ := List.mem_map.1 h1
        simp only [u8V, List.mem_singleton] at h2
        subst h2
        exact lt_int _ _ _
      | 5, hx =>
        cases hx
        refine .inr fun x hx => ?_
        simp only [List.mem_singleton] at hx
        subst hx
        simp [ltV]
      | 6, hx => exact .inl hx
      | 7, hx => exact .inl hx
      | 8, hx => exact .inl hx
      | k + 9, hx => simp at hx
    have hblk : ∀ z, z < 8 → (c.length * w + z) % 8 = 0 → (c.length * w + z) / 8 = (c.length * w + 7) / 8 := fun z h1 h2 => by omega
    unfold blockB
    rw [hwe]
    simp only [hld2, Option.bind_some, bin_gtr, if_bool, decide_eq_true_eq]
    by_cases hn : ((c.length * w - 8 * (c.length * w / 8) : Nat) : Int) > 0
    · have hput := c31' (h := h) (m := m) (b1 := b1) (b2 := b2) (b3 := b3) (c1 := c1) (c2 := c2) (out ++ [w]) (v := 0) (w := 8 - (c.length * w - 8 * (c.length * w / 8))) hlt (Nat.two_pow_pos _) (by omega) (by omega) (by rw [List.length_append]; simp; omega)
      have hsub : IntKind.i64.wrap (8 - ((c.length * w - 8 * (c.length * w / 8) : Nat) : Int)) = ((8 - (c.length * w - 8 * (c.length * w / 8)) : Nat) : Int) := by
        rw [wrap64 (by unfold isI64; omega)]; omega
      rw [if_pos hn]
      simp only [bin_sub, hsub, Option.bind_some, callV_func Γ0 31, List.nil_append, List.cons_append]
      rw [show ((0 : Nat) : Int) = 0 from rfl] at hput
      simp only [hput, Option.bind_some, hfin]
      rw [Nat.mul_zero, Nat.add_zero, hblk _ (by omega) (by omega), List.append_assoc]
      rfl
    · rw [if_neg hn, hfin]
      have := hblk 0 (by omega) (by omega)
      rw [Nat.add_zero] at this
      rw [this, List.append_assoc]
      rfl
end Go.Vm.X
