/- The machine (MvD): parts of one text. -/
import Derived.Test.YtaacaogceplhoaaMvC
set_option linter.unusedSimpArgs false
set_option linter.unusedVariables false
/- Words for laws: what the value machine's functions come to. -/
namespace Go.Vm
open Go.Am

/-! ### Numbers -/
theorem wrap64 {n : Int} (h : isI64 n) : IntKind.i64.wrap n = n := by
  unfold isI64 at h
  simp [IntKind.wrap, IntKind.bits, IntKind.signed]
  split <;> omega
theorem bin_lss (k : IntKind) (a b : Int) : binP .lss (.int k a) (.int k b) = some (.bool (decide (a < b))) := by simp [binP]
theorem bin_leq (k : IntKind) (a b : Int) : binP .leq (.int k a) (.int k b) = some (.bool (decide (a ≤ b))) := by simp [binP]
theorem bin_gtr (k : IntKind) (a b : Int) : binP .gtr (.int k a) (.int k b) = some (.bool (decide (a > b))) := by simp [binP]
theorem bin_geq (k : IntKind) (a b : Int) : binP .geq (.int k a) (.int k b) = some (.bool (decide (a ≥ b))) := by simp [binP]
theorem bin_eql (k : IntKind) (a b : Int) : binP .eql (.int k a) (.int k b) = some (.bool (a == b)) := by simp [binP]
theorem bin_neq (k : IntKind) (a b : Int) : binP .neq (.int k a) (.int k b) = some (.bool (a != b)) := by simp [binP]
theorem bin_add (k : IntKind) (a b : Int) : binP .add (.int k a) (.int k b) = some (.int k (k.wrap (a + b))) := by simp [binP]
theorem bin_sub (k : IntKind) (a b : Int) : binP .sub (.int k a) (.int k b) = some (.int k (k.wrap (a - b))) := by simp [binP]
theorem bin_mul (k : IntKind) (a b : Int) : binP .mul (.int k a) (.int k b) = some (.int k (k.wrap (a * b))) := by simp [binP]
theorem bin_quo (k : IntKind) (a b : Int) (h : b ≠ 0) : binP .quo (.int k a) (.int k b) = some (.int k (k.wrap (a.tdiv b))) := by simp [binP, h]
theorem bin_rem (k : IntKind) (a b : Int) (h : b ≠ 0) : binP .rem (.int k a) (.int k b) = some (.int k (a.tmod b)) := by simp [binP, h]
theorem bin_shl (k k' : IntKind) (a b : Int) (h : 0 ≤ b) : binP .shl (.int k a) (.int k' b) = some (.int k (k.wrap (a * 2 ^ (min b.toNat k.bits)))) := by simp [binP]; omega
theorem bin_shr (k k' : IntKind) (a b : Int) (h : 0 ≤ b) : binP .shr (.int k a) (.int k' b) = some (.int k (a.fdiv (2 ^ (min b.toNat k.bits)))) := by simp [binP]; omega
theorem bin_and (k : IntKind) (a b : Int) : binP .and (.int k a) (.int k b) = some (.int k (k.wrap (BitVec.ofInt k.bits a &&& BitVec.ofInt k.bits b).toNat)) := by simp [binP]
theorem bin_or (k : IntKind) (a b : Int) : binP .or (.int k a) (.int k b) = some (.int k (k.wrap (BitVec.ofInt k.bits a ||| BitVec.ofInt k.bits b).toNat)) := by simp [binP]
theorem bin_xor (k : IntKind) (a b : Int) : binP .xor (.int k a) (.int k b) = some (.int k (k.wrap (BitVec.ofInt k.bits a ^^^ BitVec.ofInt k.bits b).toNat)) := by simp [binP]
theorem bin_seq (a b : ByteArray) : binP .eql (.str a) (.str b) = some (.bool (a.toList == b.toList)) := rfl
theorem bin_sne (a b : ByteArray) : binP .neq (.str a) (.str b) = some (.bool !(a.toList == b.toList)) := rfl
theorem eqBool_bool (neg a b : Bool) : eqBoolP neg (.bool a) (.bool b) = some (.bool (neg != (a == b))) := rfl
theorem un_neg (k : IntKind) (a : Int) : unP .neg (.int k a) = some (.int k (k.wrap (0 - a))) := rfl
theorem un_not (b : Bool) : unP .not (.bool b) = some (.bool !b) := rfl
theorem conv_int (k k' : IntKind) (n : Int) : convP k (.int k' n) = some (.int k (k.wrap n)) := rfl
theorem max2_i (k : IntKind) (a b : Int) : max2P (.int k a) (.int k b) = some (.int k (max a b)) := by
  simp only [max2P, if_true]
  congr 2
  split <;> omega
theorem min2_i (k : IntKind) (a b : Int) : min2P (.int k a) (.int k b) = some (.int k (min a b)) := by
  simp only [min2P, if_true]
  congr 2
  split <;> omega
theorem fold1_two (f : PV → PV → Option PV) (a b : PV) : fold1P f [a, b] = f a b := by simp [fold1P, foldP]
theorem fold1_three (f : PV → PV → Option PV) (a b c : PV) : fold1P f [a, b, c] = (f a b).bind fun z => f z c := by simp [fold1P, foldP]
theorem nth_zero (v : PV) (vs : List PV) : nthP (v :: vs) 0 = v := rfl
theorem nth_succ (v : PV) (vs : List PV) (k : Nat) : nthP (v :: vs) (k + 1) = nthP vs k := rfl
theorem nth_one (v w : PV) (vs : List PV) : nthP (v :: w :: vs) 1 = w := rfl
theorem nth_two (v w x : PV) (vs : List PV) : nthP (v :: w :: x :: vs) 2 = x := rfl
theorem nth_three (v w x y : PV) (vs : List PV) : nthP (v :: w :: x :: y :: vs) 3 = y := rfl
theorem nth_four (v w x y z : PV) (vs : List PV) : nthP (v :: w :: x :: y :: z :: vs) 4 = z := rfl
theorem nth_five (v w x y z u : PV) (vs : List PV) : nthP (v :: w :: x :: y :: z :: u :: vs) 5 = u := rfl
theorem sc_and (t : Bool) {R : Type} (a b : Option R) : scP (.bool t) true a b = if t = true then a else b := rfl
theorem sc_or (t : Bool) {R : Type} (a b : Option R) : scP (.bool t) false a b = if t = false then a else b := rfl
theorem if_bool (t : Bool) {R : Type} (a b : Option R) : ifP (.bool t) a b = if t = true then a else b := rfl
theorem KL_def {R : Type} (k : List PV → PHeap → Option R) (b : (List PV → PHeap → Option R) → Option R) : KL k b = b k := rfl
theorem K1_def {R : Type} (k : PV → PHeap → Option R) (b : (PV → PHeap → Option R) → Option R) : K1 k b = b k := rfl
theorem fork_def {R : Type} (v : PV) (h : PHeap) (k : PV → PHeap → Option R) : forkP v h k = k v h := rfl
theorem guard_true {R : Type} (m : Option R) : guardP true m = m := rfl

theorem both_same {R : Type} (a : Option R) : both a a = a := by unfold both; rw [if_pos rfl]
theorem both_eq {R : Type} {a b r : Option R} (h1 : a = r) (h2 : b = r) : both a b = r := by rw [h1, h2, both_same]
theorem isNil_cons {R : Type} (neg : Bool) (sz : Nat) (r : List PV) (rs : List (List PV)) (k : PV → Option R) : isNilK .slice neg (.frz sz (r :: rs)) k = k (.bool neg) := by cases neg <;> rfl
theorem isNil_empty {R : Type} (neg : Bool) (sz : Nat) (k : PV → Option R) : isNilK .slice neg (.frz sz []) k = both (k (.bool true)) (k (.bool false)) := rfl
theorem isNil_nil {R : Type} (neg : Bool) (k : PV → Option R) : isNilK .slice neg .nilS k = k (.bool !neg) := by cases neg <;> rfl
/-- Nil or not: it comes to the same. -/
theorem isNil_frz {R : Type} {neg : Bool} {sz : Nat} {rows : List (List PV)} {k : PV → Option R} {r : Option R} (h1 : rows = [] → k (.bool !neg) = r) (h2 : k (.bool neg) = r) : isNilK .slice neg (.frz sz rows) k = r := by
  cases rows with
  | cons x l => rw [isNil_cons]; exact h2
  | nil =>
    rw [isNil_empty]
    have h1 := h1 rfl
    cases neg
    · exact both_eq h1 h2
    · exact both_eq h2 h1
theorem isNil_ptr {R : Type} (neg : Bool) (b o : Nat) (k : PV → Option R) : isNilK .pointer neg (.ptr b o) k = k (.bool neg) := by cases neg <;> rfl
theorem isNil_nilP {R : Type} (neg : Bool) (k : PV → Option R) : isNilK .pointer neg .nilP k = k (.bool !neg) := by cases neg <;> rfl
theorem isNil_func {R : Type} (neg : Bool) (f : FuncId) (xs ys : List PV) (k : PV → Option R) : isNilK .func neg (.func f xs ys) k = k (.bool neg) := by cases neg <;> rfl
theorem isNil_nilF {R : Type} (neg : Bool) (k : PV → Option R) : isNilK .func neg .nilF k = k (.bool !neg) := by cases neg <;> rfl

/-! ### Loops -/
/-- The rounds 0, 1, .. of a loop, up to the one that leaves it. -/
theorem loop_from {R : Type} {B : (List PV → PHeap → Option R) → List PV → PHeap → Option R} (vs : Nat → List PV) (hs : Nat → PHeap) (len : Nat) (r : Option R)
    (hstep : ∀ i, i < len → ∀ K, B K (vs i) (hs i) = K (vs (i + 1)) (hs (i + 1))) (hend : ∀ K, B K (vs len) (hs len) = r) : ∀ (n i : Nat), i ≤ len → len < n + i → loopP B n (vs i) (hs i) = r
  | 0, i, h1, h2 => by omega
  | n + 1, i, h1, h2 => by
    show B (loopP B n) (vs i) (hs i) = r
    by_cases h : i < len
    · rw [hstep i h]
      exact loop_from vs hs len r hstep hend n (i + 1) h (by omega)
    · have : i = len := by omega
      subst this
      exact hend _
theorem loop_run {R : Type} {B : (List PV → PHeap → Option R) → List PV → PHeap → Option R} {r : Option R} {n : Nat} {v0 : List PV} {h0 : PHeap} (vs : Nat → List PV) (hs : Nat → PHeap) (len : Nat) (hn : len < n) (e1 : vs 0 = v0) (e2 : hs 0 = h0)
    (hstep : ∀ i, i < len → ∀ K, B K (vs i) (hs i) = K (vs (i + 1)) (hs (i + 1))) (hend : ∀ K, B K (vs len) (hs len) = r) : loopP B n v0 h0 = r := by
  rw [← e1, ← e2]
  exact loop_from vs hs len r hstep hend n 0 (Nat.zero_le _) (by omega)
/-- .. where the heap stays as it is. -/
theorem loop_pure {R : Type} {B : (List PV → PHeap → Option R) → List PV → PHeap → Option R} {r : Option R} {n : Nat} {v0 : List PV} {h0 : PHeap} (vs : Nat → List PV) (len : Nat) (hn : len < n) (e1 : vs 0 = v0)
    (hstep : ∀ i, i < len → ∀ K, B K (vs i) h0 = K (vs (i + 1)) h0) (hend : ∀ K, B K (vs len) h0 = r) : loopP B n v0 h0 = r :=
  loop_run vs (fun _ => h0) len hn e1 rfl hstep hend

/-! ### Heaps: h ++ [..] -/
theorem get_new (h l : PHeap) (k : Nat) : (h ++ l)[h.length + k]? = l[k]? := by
  rw [List.getElem?_append_right (by omega)]; congr 1; omega
theorem get_new0 (h l : PHeap) : (h ++ l)[h.length]? = l[0]? := get_new h l 0
theorem set_new (h l : PHeap) (k : Nat) (b : PBlk) : (h ++ l).set (h.length + k) b = h ++ l.set k b := by
  rw [List.set_append_right _ _ (by omega)]; congr 2; omega
theorem set_new0 (h l : PHeap) (b : PBlk) : (h ++ l).set h.length b = h ++ l.set 0 b := set_new h l 0 b
theorem len_new (h l : PHeap) : (h ++ l).length = h.length + l.length := List.length_append
theorem boxAt_some {h : PHeap} {b : Nat} {vs : List PV} {t : TypeId} {md : Md} (e : h[b]? = some (.box vs t md)) : boxAt h b = some vs := by unfold boxAt; rw [e]
theorem logAt_some {h : PHeap} {b sz : Nat} {rows : List (List PV)} {t : TypeId} {md : Md} (e : h[b]? = some (.log rows sz t md)) : logAt h b rows.length sz = some rows := by unfold logAt; rw [e]; simp
theorem load_box (agg : Bool) (n b o : Nat) (h : PHeap) : loadP agg n (.ptr b o) h = (boxAt h b).bind fun vs => partP agg o n vs := rfl
theorem load_fptr (agg : Bool) (n o : Nat) (row : List PV) (h : PHeap) : loadP agg n (.fptr row o) h = partP agg o n row := rfl
theorem part_cell (o n : Nat) (cs : List PV) : partP false o n cs = cs[o]? := rfl
theorem part_agg {o n : Nat} {cs : List PV} (h : o + n ≤ cs.length) : partP true o n cs = some (.agg ((cs.drop o).take n)) := if_pos h
theorem part_all {n : Nat} {cs : List PV} (h : cs.length = n) : partP true 0 n cs = some (.agg cs) := by rw [part_agg (by omega), List.drop_zero, List.take_of_length_le (by omega)]
theorem field_ptr (b o f : Nat) : fieldAddrP f (.ptr b o) = some (.ptr b (o + f)) := rfl
theorem field_fptr (row : List PV) (o f : Nat) : fieldAddrP f (.fptr row o) = some (.fptr row (o + f)) := rfl
theorem field_lptr (b i o v sz f : Nat) : fieldAddrP f (.lptr b i o v sz) = some (.lptr b i (o + f) v sz) := rfl
theorem store_box {h : PHeap} {b o n : Nat} {v : PV} {vs vs' : List PV} {t : TypeId} (e : h[b]? = some (.box vs t .rw)) (hn : (cellsP v).length = n) (h0 : 0 < n) (hp : putAt vs o (cellsP v) = some vs') : storeP n (.ptr b o) v h = some (h.set b (.box vs' t .rw)) := by
  unfold storeP
  have e1 : (Nat.beq (cellsP v).length n && Nat.blt 0 n) = true := by subst hn; simp [Nat.blt]; exact h0
  rw [e1]
  simp only [cond_true, e, hp, Option.map_some]
theorem put_one {vs : List PV} {o : Nat} {v : PV} (ho : o < vs.length) (hv : oneP v = true) : putAt vs o [v] = some (vs.set o v) := by
  unfold putAt
  rw [if_pos ⟨by simp; omega, by simp [hv]⟩, List.set_eq_take_append_cons_drop, if_pos ho]
  simp
/-- A store of one cell into a box. -/
theorem store_cell {h : PHeap} {b o : Nat} {v : PV} {vs : List PV} {t : TypeId} (e : h[b]? = some (.box vs t .rw)) (ho : o < vs.length) (hv : oneP v = true) (hc : cellsP v = [v] := by rfl) : storeP 1 (.ptr b o) v h = some (h.set b (.box (vs.set o v) t .rw)) :=
  store_box e (by rw [hc]; rfl) (by decide) (by rw [hc]; exact put_one ho hv)
/-- .. of a whole box. -/
theorem store_whole {h : PHeap} {b n : Nat} {cs vs : List PV} {t : TypeId} (e : h[b]? = some (.box vs t .rw)) (h1 : vs.length = n) (h2 : cs.length = n) (h0 : 0 < n) (hv : cs.all oneP = true) : storeP n (.ptr b 0) (.agg cs) h = some (h.set b (.box cs t .rw)) := by
  refine store_box e h2 h0 ?_
  unfold putAt
  rw [if_pos ⟨by simp only [cellsP]; omega, hv⟩]
  simp only [cellsP, List.take_zero, List.nil_append, Nat.zero_add]
  rw [List.drop_of_length_le (by omega), List.append_nil]
theorem idx_frz {sz : Nat} {rows : List (List PV)} {i : Nat} {row : List PV} (k : IntKind) (h : rows[i]? = some row) : indexAddrP sz (.frz sz rows) (.int k i) = some (.fptr row 0) := by
  simp only [indexAddrP]
  rw [if_pos ⟨by omega, trivial⟩, Int.toNat_natCast, h]
  rfl
theorem idx_map {α : Type} {f : α → List PV} {l : List α} {sz : Nat} {i : Nat} {a : α} (k : IntKind) (h : l[i]? = some a) : indexAddrP sz (.frz sz (l.map f)) (.int k i) = some (.fptr (f a) 0) := idx_frz k (by rw [List.getElem?_map, h]; rfl)
theorem idx_int {α : Type} {f : α → List PV} {l : List α} {sz : Nat} {j : Int} {a : α} (k : IntKind) (h0 : 0 ≤ j) (h : l[j.toNat]? = some a) : indexAddrP sz (.frz sz (l.map f)) (.int k j) = some (.fptr (f a) 0) := by
  have := idx_map (f := f) (sz := sz) k h
  rwa [Int.toNat_of_nonneg h0] at this
theorem idx_ref {b lo n v sz : Nat} {i : Nat} (k : IntKind) (h : i < n) : indexAddrP sz (.ref b lo n v sz) (.int k i) = some (.lptr b (lo + i) 0 v sz) := by
  simp only [indexAddrP]
  rw [if_pos ⟨by omega, by omega, trivial⟩, Int.toNat_natCast]
theorem len_frz {sz : Nat} {rows : List (List PV)} : lenP false (.frz sz rows) = some (.int .i64 rows.length) := rfl
theorem len_map {α : Type} {sz : Nat} {f : α → List PV} {l : List α} : lenP false (.frz sz (l.map f)) = some (.int .i64 l.length) := by rw [len_frz, List.length_map]
theorem len_ref (b lo n v sz : Nat) : lenP false (.ref b lo n v sz) = some (.int .i64 n) := rfl
theorem len_nil : lenP false .nilS = some (.int .i64 0) := rfl
theorem len_str (s : ByteArray) : lenP true (.str s) = some (.int .i64 s.size) := rfl

/-! ### Building -/
/-- A literal of one cell. -/
theorem fill_one (z v : PV) (hv : cellsP v = [v] := by rfl) : fillP (repP [z] 1) [(0, 1, v)] = some [v] := by
  simp [fillP, repP, hv]
theorem fill_int (z : PV) (k : IntKind) (n : Int) : fillP (repP [z] 1) [(0, 1, .int k n)] = some [.int k n] := fill_one _ _
theorem fill_bool (z : PV) (b : Bool) : fillP (repP [z] 1) [(0, 1, .bool b)] = some [.bool b] := fill_one _ _
theorem fill_str (z : PV) (s : ByteArray) : fillP (repP [z] 1) [(0, 1, .str s)] = some [.str s] := fill_one _ _
theorem fill_frz (z : PV) (sz : Nat) (r : List (List PV)) : fillP (repP [z] 1) [(0, 1, .frz sz r)] = some [.frz sz r] := fill_one _ _
theorem fill_agg {zs cs : List PV} {n : Nat} (h1 : cs.length = n) (h2 : zs.length = n) (h0 : 0 < n) : fillP (repP zs 1) [(0, n, .agg cs)] = some cs := by
  simp only [fillP, repP, cellsP, List.append_nil]
  rw [if_pos ⟨h1, h0, by omega⟩]
  simp only [List.take_zero, List.nil_append, Nat.zero_add]
  rw [List.drop_of_length_le (by omega), List.append_nil]
theorem chunk_one (v : PV) : chunk 1 1 [v] = [[v]] := rfl
theorem chunk_row1 (sz : Nat) (l : List PV) (h : l.length = sz) : chunk sz 1 l = [l] := by simp [chunk, List.take_of_length_le (Nat.le_of_eq h)]
theorem all_one (v : PV) : [v].all pure1 = pure1 v := by simp
theorem get_upd (h : PHeap) (b : Nat) (x : PBlk) (hb : b < h.length) : (h.set b x)[b]? = some x := List.getElem?_set_self hb
/-- append to a slice of one's own. -/
theorem append_ref {h : PHeap} {b sz : Nat} {t : TypeId} {rows new : List (List PV)} {x : PV} (e : h[b]? = some (.log rows sz t .rw)) (hx : rowsP sz x h = some new) (hs : 0 < sz) (hp : new.flatten.all oneP = true) (hm : rows.length + new.length ≤ mostLen) :
    appendP t sz (.ref b 0 rows.length rows.length sz) x h = some (.ref b 0 (rows.length + new.length) (rows.length + new.length) sz, h.set b (.log (rows ++ new) sz t .rw)) := by
  simp only [appendP, hx, Option.bind_some, appendRows]
  rw [if_pos ⟨by omega, hs, hp⟩, e]
  simp only
  rw [if_pos ⟨trivial, trivial, trivial, trivial, trivial, trivial, hm⟩]
theorem rows_frz (sz : Nat) (rows : List (List PV)) (h : PHeap) : rowsP sz (.frz sz rows) h = some rows := if_pos rfl
/-- .. of one row, where h ++ l has the slice at k. -/
theorem append_new {h l : PHeap} {k sz : Nat} {t : TypeId} {rows : List (List PV)} {row : List PV} (e : l[k]? = some (.log rows sz t .rw)) (hs : 0 < sz) (hp : row.all oneP = true) (hm : rows.length < mostLen) :
    appendP t sz (.ref (h.length + k) 0 rows.length rows.length sz) (.frz sz [row]) (h ++ l) = some (.ref (h.length + k) 0 (rows.length + 1) (rows.length + 1) sz, h ++ l.set k (.log (rows ++ [row]) sz t .rw)) := by
  rw [append_ref (by rw [get_new]; exact e) (rows_frz _ _ _) hs (by simpa using hp) (by simp; omega), set_new]
  rfl

/-! ### Ends -/
theorem trim_self (h : PHeap) (roots : List PV) : trim h roots h = h := by
  unfold trim
  split
  · exact List.take_length
  · rfl
theorem trim_len {h h' : PHeap} (roots : List PV) (e : h'.length = h.length) : trim h roots h' = h' := by
  unfold trim
  split
  · rw [← e]; exact List.take_length
  · rfl
theorem trim_new {h : PHeap} {roots : List PV} (l : PHeap) (hr : ∀ v ∈ roots, ltV h.length v) : trim h roots (h ++ l) = h := by
  unfold trim
  rw [if_pos ⟨hr, fun b hb => .inl (List.getElem?_append_left hb)⟩]
  exact List.take_left
/-- .. of a loop that has left new blocks behind those that it found. -/
theorem trim_app {h l0 l1 l2 : PHeap} {roots : List PV} (hl : l1.length = l0.length) (hr : ∀ v ∈ roots, ltV (h.length + l0.length) v) (hb : ∀ x ∈ l1, ltB (h.length + l0.length) x) : trim (h ++ l0) roots (h ++ (l1 ++ l2)) = h ++ l1 := by
  unfold trim
  rw [if_pos]
  · rw [← List.append_assoc, List.take_append_of_le_length (by simp; omega), List.take_of_length_le (by simp; omega)]
  · rw [List.length_append]
    refine ⟨hr, fun b hb' => ?_⟩
    by_cases hbl : b < h.length
    · exact .inl (by rw [List.getElem?_append_left hbl, List.getElem?_append_left hbl])
    · refine .inr ?_
      rw [List.getElem?_append_right (by omega), List.getElem?_append_left (by omega)]
      have : b - h.length < l1.length := by omega
      exact ⟨l1[b - h.length], List.getElem?_eq_getElem this, hb _ (List.getElem_mem this)⟩
theorem fz_keep (v : PV) (h : PHeap) : fz .keep v h = some (v, h) := by unfold fz; rfl
theorem fz_rawN (h : PHeap) : fz .raw .nilS h = some (.emp, h) := by unfold fz; rfl
theorem fz_rawE (h : PHeap) : fz .raw .emp h = some (.emp, h) := by unfold fz; rfl
theorem fz_rawR (b lo n v sz : Nat) (h : PHeap) : fz .raw (.ref b lo n v sz) h = some (.ref b lo n v sz, h) := by unfold fz; rfl
theorem fz_frz (sz sz' : Nat) (rows : List (List PV)) (h : PHeap) : fz (.flat sz) (.frz sz' rows) h = some (.frz sz' rows, h) := by unfold fz; rfl
theorem fz_frzs (sz sz' : Nat) (cs : List FS) (rows : List (List PV)) (h : PHeap) : fz (.sl sz cs) (.frz sz' rows) h = some (.frz sz' rows, h) := by unfold fz; rfl
theorem fz_nil (sz : Nat) (h : PHeap) : fz (.flat sz) .nilS h = some (.frz sz [], h) := by unfold fz; rfl
theorem fz_nils (sz : Nat) (cs : List FS) (h : PHeap) : fz (.sl sz cs) .nilS h = some (.frz sz [], h) := by unfold fz; rfl
theorem fz_emp (sz : Nat) (h : PHeap) : fz (.flat sz) .emp h = some (.frz sz [], h) := by unfold fz; rfl
theorem fz_emps (sz : Nat) (cs : List FS) (h : PHeap) : fz (.sl sz cs) .emp h = some (.frz sz [], h) := by unfold fz; rfl
theorem fz_aggs (cs : List FS) (vs : List PV) (h : PHeap) : fz (.agg cs) (.agg vs) h = (fzL cs vs h).map fun q => (.agg q.1, q.2) := by unfold fz; rfl
theorem fzL_nil (h : PHeap) : fzL [] [] h = some ([], h) := by unfold fzL; rfl
theorem fzL_cons (s : FS) (ss : List FS) (v : PV) (vs : List PV) (h : PHeap) : fzL (s :: ss) (v :: vs) h = (fz s v h).bind fun q => (fzL ss vs q.2).map fun r => (q.1 :: r.1, r.2) := by rw [fzL]
theorem fz_log {h l : PHeap} {k sz s : Nat} {t : TypeId} {rows : List (List PV)} (e : l[k]? = some (.log rows sz t .rw)) (hp : rows.flatten.all pure1 = true) :
    fz (.flat s) (.ref (h.length + k) 0 rows.length rows.length sz) (h ++ l) = some (.frz sz rows, h ++ if rows.length = 0 then l else l.set k (.log rows sz t .ro)) := by
  unfold fz
  simp only
  by_cases h0 : rows.length = 0
  · rw [if_pos h0, if_pos h0, List.eq_nil_of_length_eq_zero h0]
  · rw [if_neg h0, if_neg h0, get_new, e]
    simp only [List.drop_zero, List.take_length]
    rw [if_pos ⟨trivial, trivial, by omega, hp⟩, set_new]
theorem fin_def (shapes : List FS) (h h' : PHeap) (vs : List PV) : finP shapes h h' vs = (fzL shapes vs h').map fun q => (singleP q.1, trim h q.1 q.2) := rfl
theorem single_one (v : PV) : singleP [v] = v := rfl
theorem single_two (v w : PV) : singleP [v, w] = .tuple [v, w] := rfl
theorem single_three (v w x : PV) : singleP [v, w, x] = .tuple [v, w, x] := rfl
theorem single_four (v w x y : PV) : singleP [v, w, x, y] = .tuple [v, w, x, y] := rfl
/-- A result that names no block. -/
theorem fin_keep {h l : PHeap} {v : PV} (hv : ∀ n, ltV n v) : finP [.keep] h (h ++ l) [v] = some (v, h) := by
  simp only [fin_def, fzL_cons, fzL_nil, fz_keep, Option.bind_some, Option.map_some, single_one]
  rw [trim_new _ (fun x hx => by simp only [List.mem_singleton] at hx; subst hx; exact hv _)]
theorem fin_int {h l : PHeap} {k : IntKind} {n : Int} : finP [.keep] h (h ++ l) [.int k n] = some (.int k n, h) := fin_keep fun _ => by simp [ltV]
theorem fin_bool {h l : PHeap} {b : Bool} : finP [.keep] h (h ++ l) [.bool b] = some (.bool b, h) := fin_keep fun _ => by simp [ltV]
theorem fin_int0 {h : PHeap} {k : IntKind} {n : Int} : finP [.keep] h h [.int k n] = some (.int k n, h) := by have := fin_int (h := h) (l := []) (k := k) (n := n); rwa [List.append_nil] at this
theorem fin_bool0 {h : PHeap} {b : Bool} : finP [.keep] h h [.bool b] = some (.bool b, h) := by have := fin_bool (h := h) (l := []) (b := b); rwa [List.append_nil] at this
theorem pure_map {α : Type} {f : α → List PV} (hf : ∀ a, (f a).all pure1 = true) (l : List α) : (l.map f).flatten.all pure1 = true := by
  refine List.all_eq_true.2 fun x hx => ?_
  obtain ⟨r, hr, hx⟩ := List.mem_flatten.1 hx
  obtain ⟨a, _, rfl⟩ := List.mem_map.1 hr
  exact List.all_eq_true.1 (hf a) x hx
theorem lt_len {α : Type} {l : List α} {i : Nat} (h : i < l.length) : ∃ a, l[i]? = some a := ⟨_, List.getElem?_eq_getElem h⟩
theorem take_succ_get {α : Type} {l : List α} {i : Nat} {a : α} (hi : l[i]? = some a) : l.take (i + 1) = l.take i ++ [a] := by rw [List.take_add_one, hi]; rfl
theorem unl_self {R : Type} (h : PHeap) (k : PHeap → Option R) : unl h (lock h) k = k h := by
  unfold unl
  rw [if_pos (List.prefix_refl _), List.drop_of_length_le (by rw [lock_len]; exact Nat.le_refl _), List.append_nil]
theorem unl_new {R : Type} (h l : PHeap) (k : PHeap → Option R) : unl h (lock h ++ l) k = k (h ++ l) := by
  unfold unl
  rw [if_pos (List.prefix_append _ _), ← lock_len h, List.drop_left]
theorem callV_func (Γ : PCallee) (g : FuncId) (xs ys args : List PV) (h : PHeap) (hg : Nat.blt g yieldId = true := by rfl) : callVP Γ (.func g xs ys) args h = Γ g (xs ++ args ++ ys) h := by
  show (bif Nat.blt g yieldId then _ else _) = _
  rw [hg]; rfl
theorem callF_func (Γ : PCallee) (g : FuncId) (xs ys args : List PV) (h : PHeap) (hg : Nat.blt g yieldId = true := by rfl) : callFP Γ (.func g xs ys) args h = Γ g (xs ++ args ++ ys) h := by
  show (bif Nat.blt g yieldId then _ else _) = _
  rw [hg]; rfl

/-! ### Lists of numbers -/
def iV (n : Int) : List PV := [.int .i64 n]
def kV (k : IntKind) (n : Int) : List PV := [.int k n]
def ints (l : List Int) : PV := .frz 1 (l.map iV)
def u8V (n : Nat) : List PV := [.int .u8 n]
def u8s (l : List Nat) : PV := .frz 1 (l.map u8V)
theorem iV_pure (n : Int) : (iV n).all pure1 = true := rfl
theorem u8V_pure (n : Nat) : (u8V n).all pure1 = true := rfl
theorem len_ints (l : List Int) : lenP false (ints l) = some (.int .i64 l.length) := len_map
theorem idx_ints {l : List Int} {i : Nat} {a : Int} (k : IntKind) (h : l[i]? = some a) : indexAddrP 1 (ints l) (.int k i) = some (.fptr (iV a) 0) := idx_map k h
theorem load_iV (a : Int) (h : PHeap) : loadP false 1 (.fptr (iV a) 0) h = some (.int .i64 a) := rfl
theorem len_u8s (l : List Nat) : lenP false (u8s l) = some (.int .i64 l.length) := len_map
theorem idx_u8s {l : List Nat} {i : Nat} {a : Nat} (k : IntKind) (h : l[i]? = some a) : indexAddrP 1 (u8s l) (.int k i) = some (.fptr (u8V a) 0) := idx_map k h
theorem load_u8V (a : Nat) (h : PHeap) : loadP false 1 (.fptr (u8V a) 0) h = some (.int .u8 a) := rfl
theorem fz_ints (s : Nat) (l : List Int) (h : PHeap) : fz (.flat s) (ints l) h = some (ints l, h) := fz_frz _ _ _ _
theorem fz_u8s (s : Nat) (l : List Nat) (h : PHeap) : fz (.flat s) (u8s l) h = some (u8s l, h) := fz_frz _ _ _ _
theorem ltT {i n : Nat} (h : i < n) : ((i : Int) < (n : Int)) = True := eq_true (by omega)
theorem ltF (n : Nat) : ((n : Int) < (n : Int)) = False := eq_false (by omega)
/-- A slice of numbers that has been built, as a result. -/
theorem fz_logI {h l : PHeap} {k s : Nat} {t : TypeId} {xs : List Int} (n : Nat) (hn : n = xs.length) (e : l[k]? = some (.log (xs.map iV) 1 t .rw)) :
    fz (.flat s) (.ref (h.length + k) 0 n n 1) (h ++ l) = some (ints xs, h ++ if n = 0 then l else l.set k (.log (xs.map iV) 1 t .ro)) := by
  have := fz_log (h := h) (s := s) e (pure_map iV_pure xs)
  rw [List.length_map, ← hn] at this
  exact this
theorem fz_logB {h l : PHeap} {k s : Nat} {t : TypeId} {xs : List Nat} (n : Nat) (hn : n = xs.length) (e : l[k]? = some (.log (xs.map u8V) 1 t .rw)) :
    fz (.flat s) (.ref (h.length + k) 0 n n 1) (h ++ l) = some (u8s xs, h ++ if n = 0 then l else l.set k (.log (xs.map u8V) 1 t .ro)) := by
  have := fz_log (h := h) (s := s) e (pure_map u8V_pure xs)
  rw [List.length_map, ← hn] at this
  exact this
theorem lt_frz (n sz : Nat) (rows : List (List PV)) : ltV n (.frz sz rows) := by simp [ltV]
theorem lt_ints (n : Nat) (l : List Int) : ltV n (ints l) := lt_frz _ _ _
theorem lt_u8s (n : Nat) (l : List Nat) : ltV n (u8s l) := lt_frz _ _ _
theorem lt_int (n : Nat) (k : IntKind) (x : Int) : ltV n (.int k x) := by simp [ltV]
theorem lt_bool (n : Nat) (x : Bool) : ltV n (.bool x) := by simp [ltV]
theorem lt_nilS (n : Nat) : ltV n .nilS := by simp [ltV]
theorem lt_str (n : Nat) (s : ByteArray) : ltV n (.str s) := by simp [ltV]
/-- A literal of one cell, and append. -/
theorem append_one {h l : PHeap} {k : Nat} {t : TypeId} {rows : List (List PV)} {v : PV} (n : Nat) (hn : n = rows.length) (e : l[k]? = some (.log rows 1 t .rw)) (hp : oneP v = true) (hm : n < mostLen) :
    appendP t 1 (.ref (h.length + k) 0 n n 1) (.frz 1 [[v]]) (h ++ l) = some (.ref (h.length + k) 0 (n + 1) (n + 1) 1, h ++ l.set k (.log (rows ++ [[v]]) 1 t .rw)) := by
  subst hn
  exact append_new e (by decide) (by simpa using hp) hm
end Go.Vm

/- Whole numbers of the machine: floors, shifts, masks, wrapping. -/
namespace Go.Vm
open Go.Am


theorem floor_eq {a b : Int} (hb : 0 < b) : (if a.tmod b < 0 then a.tdiv b - 1 else a.tdiv b) = a / b := by
  have h1 := Int.tdiv_eq_ediv (a := a) (b := b)
  have h2 := Int.tmod_eq_emod (a := a) (b := b)
  have h3 := Int.emod_nonneg a (show b ≠ 0 by omega)
  have h4 := Int.emod_lt_of_pos a hb
  by_cases hc : 0 ≤ a ∨ b ∣ a
  · rw [if_pos hc] at h1 h2
    rw [if_neg (by omega)]
    omega
  · rw [if_neg hc] at h1 h2
    have hs : b.sign = 1 := Int.sign_eq_one_of_pos hb
    rw [hs] at h1
    have hn : (b.natAbs : Int) = b := by omega
    rw [hn] at h2
    rw [if_pos (by omega)]
    omega
theorem div_bounds {a b : Int} (hb : 0 < b) : (0 ≤ a → 0 ≤ a / b ∧ a / b ≤ a) ∧ (a < 0 → a ≤ a / b ∧ a / b ≤ 0) := by
  refine ⟨fun h => ⟨Int.ediv_nonneg h (by omega), Int.ediv_le_self _ h⟩, fun h => ⟨?_, ?_⟩⟩
  · rw [Int.le_ediv_iff_mul_le hb]
    have := Int.mul_le_mul_of_nonpos_left (a := a) (show a ≤ 0 by omega) (show (1 : Int) ≤ b by omega)
    rw [Int.mul_one] at this
    exact this
  · have := Int.ediv_neg_of_neg_of_pos h hb
    omega
theorem div64 {a b : Int} (hb : 0 < b) (ha : isI64 a) : isI64 (a / b) := by
  have := div_bounds (a := a) hb
  unfold isI64 at ha ⊢
  by_cases h : 0 ≤ a
  · have := this.1 h; omega
  · have := this.2 (by omega); omega
theorem tdiv64 {a b : Int} (hb : 0 < b) (ha : isI64 a) : isI64 (a.tdiv b) := by
  have h1 := floor_eq (a := a) hb
  have h2 := div_bounds (a := a) hb
  unfold isI64 at ha ⊢
  split at h1
  · by_cases h : 0 ≤ a
    · have := Int.tmod_nonneg b h; omega
    · have := h2.2 (by omega); omega
  · by_cases h : 0 ≤ a
    · have := h2.1 h; omega
    · have := h2.2 (by omega); omega
theorem wrap64_emod (n : Int) : (IntKind.i64.wrap n) % 18446744073709551616 = n % 18446744073709551616 := by
  simp [IntKind.wrap, IntKind.bits, IntKind.signed]
  split <;> omega
theorem wrap64_range (n : Int) : isI64 (IntKind.i64.wrap n) := by
  unfold isI64
  simp [IntKind.wrap, IntKind.bits, IntKind.signed]
  split <;> omega
theorem wrap64_congr {n m : Int} (h : n % 18446744073709551616 = m % 18446744073709551616) : IntKind.i64.wrap n = IntKind.i64.wrap m := by
  simp [IntKind.wrap, IntKind.bits, IntKind.signed, h]
theorem wrap64_sub (a c : Int) : IntKind.i64.wrap (a - IntKind.i64.wrap c) = IntKind.i64.wrap (a - c) := by
  refine wrap64_congr ?_
  have := wrap64_emod c
  omega
theorem wrap8 (n : Int) : IntKind.u8.wrap n = n % 256 := by simp [IntKind.wrap, IntKind.bits, IntKind.signed]
/-- Half of the numbers of so many bits. -/
def half (b : Nat) : Int := ((2 ^ (b - 1) : Nat) : Int)
theorem half_pos (b : Nat) : 0 < half b := by unfold half; have := Nat.two_pow_pos (b - 1); omega
theorem half_two {b : Nat} (h : 1 ≤ b) : 2 * half b = ((2 ^ b : Nat) : Int) := by
  unfold half
  obtain ⟨c, rfl⟩ : ∃ c, b = c + 1 := ⟨b - 1, by omega⟩
  rw [Nat.add_sub_cancel, Nat.pow_succ]
  omega
theorem half_le {b c : Nat} (h : b ≤ c) : half b ≤ half c := by
  unfold half
  have := Nat.pow_le_pow_right (show 0 < 2 by decide) (show b - 1 ≤ c - 1 by omega)
  omega
theorem half_16 {b : Nat} (h : b ≤ 16) : half b ≤ 32768 := half_le h
/-- A number modulo 2^b, in the range of frames. -/
def wrapB (b : Nat) (x : Int) : Int := (x + half b) % (2 * half b) - half b
def inR (b : Nat) (x : Int) : Bool := decide (-half b ≤ x) && decide (x < half b)
theorem wrapB_range (b : Nat) (x : Int) : inR b (wrapB b x) = true := by
  have hp := half_pos b
  have h1 := Int.emod_nonneg (x + half b) (show 2 * half b ≠ 0 by omega)
  have h2 := Int.emod_lt_of_pos (x + half b) (show 0 < 2 * half b by omega)
  unfold wrapB inR
  simp only [Bool.and_eq_true, decide_eq_true_eq]
  omega
theorem wrapB_self {b : Nat} {x : Int} (h : inR b x = true) : wrapB b x = x := by
  have hp := half_pos b
  unfold inR at h
  simp only [Bool.and_eq_true, decide_eq_true_eq] at h
  unfold wrapB
  rw [Int.emod_eq_of_lt (by omega) (by omega)]
  omega
theorem wrapB_fits (b : Nat) (x : Int) : (wrapB b x == x) = inR b x := by
  cases h : inR b x with
  | true => rw [wrapB_self h]; simp
  | false =>
    rw [beq_eq_false_iff_ne]
    intro e
    have := wrapB_range b x
    rw [e, h] at this
    cases this
theorem emod_shift (x h m : Int) : (x % m + h) % m = (x + h) % m := by rw [Int.emod_add_emod]
theorem wrapB_low (b : Nat) (x : Int) : wrapB b x = if x % (2 * half b) ≥ half b then x % (2 * half b) - 2 * half b else x % (2 * half b) := by
  have hp := half_pos b
  have h1 := Int.emod_nonneg x (show 2 * half b ≠ 0 by omega)
  have h2 := Int.emod_lt_of_pos x (show 0 < 2 * half b by omega)
  unfold wrapB
  rw [← emod_shift x]
  generalize x % (2 * half b) = r at *
  split
  · have : r + half b = (r - half b) + 2 * half b * 1 := by omega
    rw [this, Int.add_mul_emod_self_left, Int.emod_eq_of_lt (by omega) (by omega)]
    omega
  · rw [Int.emod_eq_of_lt (by omega) (by omega)]
    omega
theorem pow64 {b : Nat} (h1 : 1 ≤ b) (h : b ≤ 62) : isI64 ((2 ^ b : Nat) : Int) := by
  have := Nat.pow_le_pow_right (show 0 < 2 by decide) h
  have := Nat.two_pow_pos b
  unfold isI64
  have h3 : 2 ^ 62 = 4611686018427387904 := rfl
  omega
theorem shl_pow (c : Int) (b : Nat) (k : IntKind) (hb : b ≤ 62) : binP .shl (.int .i64 c) (.int k b) = some (.int .i64 (IntKind.i64.wrap (c * ((2 ^ b : Nat) : Int)))) := by
  rw [bin_shl _ _ _ _ (by omega), Int.toNat_natCast, show min b IntKind.i64.bits = b by show min b 64 = b; omega]
  congr 3
theorem shr_pow (c : Int) (b : Nat) (k : IntKind) (hb : b ≤ 62) : binP .shr (.int .i64 c) (.int k b) = some (.int .i64 (c / ((2 ^ b : Nat) : Int))) := by
  rw [bin_shr _ _ _ _ (by omega), Int.toNat_natCast, show min b IntKind.i64.bits = b by show min b 64 = b; omega]
  congr 2
  rw [Int.fdiv_eq_ediv_of_nonneg _ (by have := Nat.two_pow_pos b; have h2 : (2 : Int) ^ b = ((2 ^ b : Nat) : Int) := by simp
                                       omega)]
  simp
theorem dvd64 {b : Nat} (h : b ≤ 64) : ((2 ^ b : Nat) : Int) ∣ 18446744073709551616 := by
  have := Nat.pow_dvd_pow 2 h
  have h2 : (18446744073709551616 : Int) = ((2 ^ 64 : Nat) : Int) := rfl
  rw [h2]
  exact Int.natCast_dvd_natCast.2 this
theorem emod64 {b : Nat} (h : b ≤ 64) (x : Int) : (x % 18446744073709551616) % ((2 ^ b : Nat) : Int) = x % ((2 ^ b : Nat) : Int) := Int.emod_emod_of_dvd _ (dvd64 h)
theorem and_mask (x : Int) {b : Nat} (hb : b ≤ 62) : binP .and (.int .i64 x) (.int .i64 (((2 ^ b : Nat) : Int) - 1)) = some (.int .i64 (x % ((2 ^ b : Nat) : Int))) := by
  have hp := Nat.two_pow_pos b
  have hle := Nat.pow_le_pow_right (show 0 < 2 by decide) hb
  have h62 : 2 ^ 62 = 4611686018427387904 := rfl
  have h1 : (BitVec.ofInt 64 (((2 ^ b : Nat) : Int) - 1)).toNat = 2 ^ b - 1 := by
    rw [BitVec.toNat_ofInt, Int.emod_eq_of_lt (by omega) (by omega)]
    omega
  have h2 : ((BitVec.ofInt 64 x &&& BitVec.ofInt 64 (((2 ^ b : Nat) : Int) - 1)).toNat : Int) = x % ((2 ^ b : Nat) : Int) := by
    rw [BitVec.toNat_and, h1, Nat.and_two_pow_sub_one_eq_mod, BitVec.toNat_ofInt, Int.natCast_emod, Int.toNat_of_nonneg (Int.emod_nonneg _ (by decide))]
    exact emod64 (by omega) x
  rw [bin_and]
  show some (PV.int .i64 (IntKind.i64.wrap ((BitVec.ofInt 64 x &&& BitVec.ofInt 64 (((2 ^ b : Nat) : Int) - 1)).toNat))) = _
  rw [h2, wrap64]
  have h3 := Int.emod_nonneg x (show ((2 ^ b : Nat) : Int) ≠ 0 by omega)
  have h4 := Int.emod_lt_of_pos x (show 0 < ((2 ^ b : Nat) : Int) by omega)
  unfold isI64
  omega
theorem or_nat {k : IntKind} (a b : Nat) (ha : a < 2 ^ 62) (hb : b < 2 ^ 62) : binP .or (.int .i64 a) (.int .i64 b) = some (.int .i64 ((a ||| b : Nat) : Int)) := by
  have h62 : 2 ^ 62 = 4611686018427387904 := rfl
  have h1 : ∀ a : Nat, a < 2 ^ 62 → (BitVec.ofInt 64 (a : Int)).toNat = a := fun a ha => by
    rw [BitVec.toNat_ofInt, Int.emod_eq_of_lt (by omega) (by omega)]
    omega
  have hor : a ||| b < 2 ^ 62 := Nat.or_lt_two_pow ha hb
  simp only [binP, if_true]
  show some (PV.int .i64 (IntKind.i64.wrap ((BitVec.ofInt 64 (a : Int) ||| BitVec.ofInt 64 (b : Int)).toNat))) = _
  rw [BitVec.toNat_or, h1 a ha, h1 b hb, wrap64]
  unfold isI64
  omega
theorem or_byte (a b : Nat) (ha : a < 256) (hb : b < 256) : binP .or (.int .u8 a) (.int .u8 b) = some (.int .u8 ((a ||| b : Nat) : Int)) := by
  have h1 : ∀ a : Nat, a < 256 → (BitVec.ofInt 8 (a : Int)).toNat = a := fun a ha => by
    rw [BitVec.toNat_ofInt, Int.emod_eq_of_lt (by omega) (by omega)]
    omega
  have hor : a ||| b < 2 ^ 8 := Nat.or_lt_two_pow ha hb
  simp only [binP, if_true]
  show some (PV.int .u8 (IntKind.u8.wrap ((BitVec.ofInt 8 (a : Int) ||| BitVec.ofInt 8 (b : Int)).toNat))) = _
  rw [BitVec.toNat_or, h1 a ha, h1 b hb, wrap8, Int.emod_eq_of_lt (by omega) (by omega)]
theorem wrapu8 (n : Nat) (h : n < 256) : IntKind.u8.wrap (n : Int) = n := by rw [wrap8]; omega
theorem succ64 {i : Nat} (h : i < 4294967297) : IntKind.i64.wrap ((i : Int) + 1) = ((i + 1 : Nat) : Int) := by rw [wrap64 (by unfold isI64; omega)]; omega
end Go.Vm

/- Words of lists that are filled up place by place. -/
namespace Go.Vm
open Go.Am

theorem load_log {agg : Bool} {n b i o sz ver : Nat} {rows : List (List PV)} {row : List PV} {t : TypeId} {md : Md} {h : PHeap} (e : h[b]? = some (.log rows sz t md)) (hv : ver = rows.length) (hi : rows[i]? = some row) : loadP agg n (.lptr b i o ver sz) h = partP agg o n row := by
  subst hv
  simp only [loadP, logAt_some e, Option.bind_some, hi]
theorem store_log {b i o n sz ver : Nat} {rows : List (List PV)} {row row' : List PV} {v : PV} {t : TypeId} {h : PHeap} (e : h[b]? = some (.log rows sz t .rw)) (hv : ver = rows.length) (hi : rows[i]? = some row) (hn : (cellsP v).length = n) (h0 : 0 < n) (hp : putAt row o (cellsP v) = some row') :
    storeP n (.lptr b i o ver sz) v h = some (h.set b (.log (rows.set i row') sz t .rw)) := by
  subst hv
  unfold storeP
  have e1 : (Nat.beq (cellsP v).length n && Nat.blt 0 n) = true := by subst hn; simp [Nat.blt]; exact h0
  rw [e1]
  simp only [cond_true, e]
  rw [if_pos ⟨trivial, trivial⟩, hi]
  simp only [Option.bind_some, hp, Option.map_some]
/-- A store into a slice of one-cell elements. -/
theorem store_el {b i ver : Nat} {rows : List (List PV)} {w v : PV} {t : TypeId} {h : PHeap} (e : h[b]? = some (.log rows 1 t .rw)) (hv : ver = rows.length) (hi : rows[i]? = some [w]) (ho : oneP v = true) (hc : cellsP v = [v] := by rfl) :
    storeP 1 (.lptr b i 0 ver 1) v h = some (h.set b (.log (rows.set i [v]) 1 t .rw)) :=
  store_log e hv hi (by rw [hc]; rfl) (by decide) (by rw [hc]; exact put_one (by simp) ho)
/-- The first i places are filled by g, the others by z. -/
def filled {α : Type} (g : Nat → α) (z : α) (n i : Nat) : List α := (List.range n).map fun j => if j < i then g j else z
theorem filled_len {α : Type} (g : Nat → α) (z : α) (n i : Nat) : (filled g z n i).length = n := by simp [filled]
theorem filled_get {α : Type} {g : Nat → α} {z : α} {n i j : Nat} (h : j < n) : (filled g z n i)[j]? = some (if j < i then g j else z) := by simp [filled, h]
theorem filled_zero {α : Type} (g : Nat → α) (z : α) (n : Nat) : filled g z n 0 = List.replicate n z := by
  refine List.ext_getElem? fun j => ?_
  by_cases h : j < n
  · rw [filled_get h, List.getElem?_replicate, if_pos h]; rfl
  · rw [List.getElem?_eq_none (by rw [filled_len]; omega), List.getElem?_eq_none (by simp; omega)]
theorem filled_all {α : Type} (g : Nat → α) (z : α) (n : Nat) : filled g z n n = (List.range n).map g := by
  unfold filled
  refine List.map_congr_left fun j hj => ?_
  rw [if_pos (List.mem_range.1 hj)]
theorem filled_set {α : Type} {g : Nat → α} {z : α} {n i : Nat} (h : i < n) : (filled g z n i).set i (g i) = filled g z n (i + 1) := by
  refine List.ext_getElem? fun j => ?_
  by_cases hj : j = i
  · subst hj
    rw [List.getElem?_set_self (by rw [filled_len]; exact h), filled_get h, if_pos (by omega)]
  · rw [List.getElem?_set_ne (by omega)]
    by_cases hn : j < n
    · rw [filled_get hn, filled_get hn]
      by_cases hji : j < i
      · rw [if_pos hji, if_pos (by omega)]
      · rw [if_neg hji, if_neg (by omega)]
    · rw [List.getElem?_eq_none (by rw [filled_len]; omega), List.getElem?_eq_none (by rw [filled_len]; omega)]
theorem map_filled {α β : Type} (f : α → β) (g : Nat → α) (z : α) (n i : Nat) : (filled g z n i).map f = filled (fun j => f (g j)) (f z) n i := by
  unfold filled
  rw [List.map_map]
  refine List.map_congr_left fun j hj => ?_
  simp only [Function.comp]
  split <;> rfl
/-- A store into a slice of numbers that is being filled: h ++ l has it at k. -/
theorem store_fill {h l : PHeap} {k n i : Nat} {g : Nat → Int} {t : TypeId} (e : l[k]? = some (.log ((filled g 0 n i).map iV) 1 t .rw)) (hi : i < n) :
    storeP 1 (.lptr (h.length + k) i 0 n 1) (.int .i64 (g i)) (h ++ l) = some (h ++ l.set k (.log ((filled g 0 n (i + 1)).map iV) 1 t .rw)) := by
  have e2 : ((filled g 0 n i).map iV)[i]? = some [.int .i64 0] := by
    rw [List.getElem?_map, filled_get hi, if_neg (by omega)]; rfl
  rw [store_el (by rw [get_new]; exact e) (by rw [List.length_map, filled_len]) e2 rfl, set_new]
  have : ((filled g 0 n i).map iV).set i [.int .i64 (g i)] = (filled g 0 n (i + 1)).map iV := by
    rw [← filled_set hi, List.map_set]; rfl
  rw [this]
/-- .. of something that leaves the blocks that it found as they were, or names none of its own in them. -/
theorem trim_app2 {h l0 l1 l2 : PHeap} {roots : List PV} (hl : l1.length = l0.length) (hr : ∀ v ∈ roots, ltV (h.length + l0.length) v) (hb : ∀ (k : Nat) x, l1[k]? = some x → l0[k]? = some x ∨ ltB (h.length + l0.length) x) : trim (h ++ l0) roots (h ++ (l1 ++ l2)) = h ++ l1 := by
  unfold trim
  rw [if_pos]
  · rw [← List.append_assoc, List.take_append_of_le_length (by simp; omega), List.take_of_length_le (by simp; omega)]
  · rw [List.length_append]
    refine ⟨hr, fun b hb' => ?_⟩
    by_cases hbl : b < h.length
    · exact .inl (by rw [List.getElem?_append_left hbl, List.getElem?_append_left hbl])
    · have hlt : b - h.length < l1.length := by omega
      have e1 : (h ++ (l1 ++ l2))[b]? = some l1[b - h.length] := by
        rw [List.getElem?_append_right (by omega), List.getElem?_append_left (by omega)]
        exact List.getElem?_eq_getElem hlt
      rcases hb (b - h.length) _ (List.getElem?_eq_getElem hlt) with h1 | h1
      · refine .inl ?_
        rw [e1, List.getElem?_append_right (by omega), h1]
      · exact .inr ⟨_, e1, h1⟩
/-- What names a block of one's own is not given up. -/
theorem trim_ref {h h' : PHeap} {roots : List PV} (hr : ∃ v ∈ roots, ¬ ltV h.length v) : trim h roots h' = h' := by
  obtain ⟨v, h1, h2⟩ := hr
  unfold trim
  rw [if_neg fun k => h2 (k.1 v h1)]
theorem cells_int (k : IntKind) (n : Int) : cellsP (.int k n) = [.int k n] := rfl
theorem cells_bool (b : Bool) : cellsP (.bool b) = [.bool b] := rfl
theorem cells_str (s : ByteArray) : cellsP (.str s) = [.str s] := rfl
theorem cells_frz (sz : Nat) (r : List (List PV)) : cellsP (.frz sz r) = [.frz sz r] := rfl
theorem cells_ints (l : List Int) : cellsP (ints l) = [ints l] := rfl
theorem cells_u8s (l : List Nat) : cellsP (u8s l) = [u8s l] := rfl
theorem cells_func (f : FuncId) (xs ys : List PV) : cellsP (.func f xs ys) = [.func f xs ys] := rfl
theorem cells_agg (cs : List PV) : cellsP (.agg cs) = cs := rfl
theorem cells_ref (b lo n v sz : Nat) : cellsP (.ref b lo n v sz) = [.ref b lo n v sz] := rfl
theorem cells_ptr (b o : Nat) : cellsP (.ptr b o) = [.ptr b o] := rfl
theorem cells_nilS : cellsP .nilS = [.nilS] := rfl
/-! ### Parts of slices -/
theorem slice_hi {α : Type} {f : α → List PV} {l : List α} {sz : Nat} {n : Nat} (h : n ≤ l.length) : sliceP sz (.frz sz (l.map f)) none (some (.int .i64 n)) none = some (.frz sz ((l.take n).map f)) := by
  simp only [sliceP, if_true, boundP, List.length_map]
  rw [if_pos (by omega)]
  simp only [Option.bind_some, Int.toNat_natCast, List.drop_zero, List.map_take]
theorem slice_lo {α : Type} {f : α → List PV} {l : List α} {sz : Nat} {n : Nat} (h : n ≤ l.length) : sliceP sz (.frz sz (l.map f)) (some (.int .i64 n)) none none = some (.frz sz ((l.drop n).map f)) := by
  simp only [sliceP, if_true, boundP, List.length_map, Option.bind_some]
  rw [if_pos (by omega)]
  simp only [Option.bind_some, Int.toNat_natCast, List.map_drop]
  rw [List.take_of_length_le (by simp)]
theorem slice_lohi {α : Type} {f : α → List PV} {l : List α} {sz : Nat} {a b : Nat} (h1 : a ≤ b) (h2 : b ≤ l.length) : sliceP sz (.frz sz (l.map f)) (some (.int .i64 a)) (some (.int .i64 b)) none = some (.frz sz (((l.take b).drop a).map f)) := by
  simp only [sliceP, if_true, boundP, List.length_map]
  rw [if_pos (by omega)]
  simp only [Option.bind_some, Int.toNat_natCast]
  rw [if_pos (by omega)]
  simp only [Option.bind_some, Int.toNat_natCast, List.map_take, List.map_drop]
theorem slice_clip {α : Type} {f : α → List PV} {l : List α} {sz : Nat} {a b : Nat} (h1 : a < b) (h2 : b ≤ l.length) : sliceP sz (.frz sz (l.map f)) (some (.int .i64 a)) (some (.int .i64 b)) (some (.int .i64 b)) = some (.frz sz (((l.take b).drop a).map f)) := by
  simp only [sliceP, if_true, boundP, List.length_map]
  rw [if_pos (by omega)]
  simp only [Option.bind_some, Int.toNat_natCast]
  rw [if_pos (by omega)]
  simp only [Option.bind_some, Int.toNat_natCast]
  rw [if_pos (by omega)]
  simp only [Option.bind_some, Int.toNat_natCast]
  rw [if_neg (by omega)]
  simp only [List.map_take, List.map_drop]
theorem ints_hi {l : List Int} {n : Nat} (h : n ≤ l.length) : sliceP 1 (ints l) none (some (.int .i64 n)) none = some (ints (l.take n)) := slice_hi h
theorem ints_lo {l : List Int} {n : Nat} (h : n ≤ l.length) : sliceP 1 (ints l) (some (.int .i64 n)) none none = some (ints (l.drop n)) := slice_lo h
theorem ints_clip {l : List Int} {a b : Nat} (h1 : a < b) (h2 : b ≤ l.length) : sliceP 1 (ints l) (some (.int .i64 a)) (some (.int .i64 b)) (some (.int .i64 b)) = some (ints ((l.take b).drop a)) := slice_clip h1 h2
/-- append of what is frozen to a slice of bytes. -/
theorem append_u8s {h l : PHeap} {k : Nat} {t : TypeId} {xs ys : List Nat} (e : l[k]? = some (.log (xs.map u8V) 1 t .rw)) (hm : xs.length + ys.length ≤ mostLen) :
    appendP t 1 (.ref (h.length + k) 0 xs.length xs.length 1) (u8s ys) (h ++ l) = some (.ref (h.length + k) 0 (xs ++ ys).length (xs ++ ys).length 1, h ++ l.set k (.log ((xs ++ ys).map u8V) 1 t .rw)) := by
  have := append_ref (x := u8s ys) (h := h ++ l) (b := h.length + k) (by rw [get_new]; exact e) (rows_frz _ _ _) (by decide) (pure_ones (pure_map u8V_pure ys)) (by simpa using hm)
  simp only [List.length_map] at this
  rw [this, set_new]
  simp
end Go.Vm

/- The start: what arguments read as; a run of the value machine is a call. -/
namespace Go.Vm
open Go.Am Go.ChangeShapes Go.WideShapes

mutual
/-- Read data as a value of the machine. -/
def pv1 : Shp → Dat → PV
  | .sl s, d => match d with
    | .sl rows => .frz s.length (rows.map (pvRow s))
    | .v x => ofV1 x
  | .int _, d => match d with
    | .v x => ofV1 x
    | .sl _ => .junk
  | .bool, d => match d with
    | .v x => ofV1 x
    | .sl _ => .junk
  | .str, d => match d with
    | .v x => ofV1 x
    | .sl _ => .junk
def pvRow : List Shp → List Dat → List PV
  | [], _ => []
  | s :: ss, ds => match ds with
    | [] => []
    | d :: ds => pv1 s d :: pvRow ss ds
end
theorem rl_split {S : Nat → Prop} {h : AHeap} {ws : List Value} {d1 d2 : List Dat} (r : RL S h ws (d1 ++ d2)) : ∃ w1 w2, ws = w1 ++ w2 ∧ RL S h w1 d1 ∧ RL S h w2 d2 := by
  refine ⟨ws.take d1.length, ws.drop d1.length, (List.take_append_drop _ _).symm, ?_, ?_⟩
  · have := r.take d1.length; rwa [List.take_left] at this
  · have := r.drop d1.length; rwa [List.drop_left] at this
theorem pvRow_len : ∀ {s : List Shp} {r : List Dat}, HSL s r → (pvRow s r).length = s.length
  | [], _, h => by simp [pvRow]
  | s :: ss, _, h => by
    cases h with
    | cons h1 h2 => simp [pvRow, pvRow_len h2]
theorem pv1_pure {s : Shp} {d : Dat} (h : HS s d) : pure1 (pv1 s d) = true := by
  cases h with
  | int => simp [pv1, ofV1, pure1]
  | bool => simp [pv1, ofV1, pure1]
  | str => simp [pv1, ofV1, pure1]
  | sl => simp [pv1, pure1]
theorem pvRow_pure : ∀ {s : List Shp} {r : List Dat}, HSL s r → (pvRow s r).all pure1 = true
  | [], _, h => by simp [pvRow]
  | s :: ss, _, h => by
    cases h with
    | cons h1 h2 => simp only [pvRow, List.all_cons, pv1_pure h1, pvRow_pure h2, Bool.and_self]
/-- The blocks that are there from the start. -/
def phi0 (h : AHeap) : Frz := fun a => h[a]?
mutual
theorem pr_of {μ : Ren} {S : Nat → Prop} {h : AHeap} : ∀ (s : Shp) {d : Dat} {x : Value}, HS s d → R S h x d → PR μ (phi0 h) (pv1 s d) x
  | .int k, _, _, hs, hr => by
    cases hs with
    | int hw => cases hr with | v hx => simp only [pv1]; exact PR.ofV1 _
  | .bool, _, _, hs, hr => by
    cases hs with
    | bool => cases hr with | v hx => simp only [pv1]; exact PR.ofV1 _
  | .str, _, _, hs, hr => by
    cases hs with
    | str => cases hr with | v hx => simp only [pv1]; exact PR.ofV1 _
  | .sl s, _, _, hs, hr => by
    cases hs with
    | @sl _ rows hl hrows =>
      simp only [pv1]
      cases hr with
      | nil => exact .frzNil _
      | sl0 => exact .frz0 _ _ _
      | @sl b o c n vs _ hn hb hc hrd hs =>
        have hlen := hs.length
        have hf : (rows.map (pvRow s)).flatten.length = rows.length * s.length := by
          rw [flat_len (size := s.length) (fun r hr => by obtain ⟨q, h1, rfl⟩ := List.mem_map.1 hr; exact pvRow_len (hrows q h1)), List.length_map]
        have hpr := prs_of (μ := μ) s rows hrows hs
        have hvl := hpr.length
        rw [hf] at hvl
        unfold readN at hrd
        split at hrd
        · rename_i cs t rw_ hcs
          split at hrd
          · rename_i hle
            have e := Option.some.inj hrd
            have hml : maxLen < capU := maxLen_lt
            refine .frz (vs := cs) (t := t) (rw := rw_) (by rw [List.length_map]; exact hn) ⟨hc, by omega⟩ (fun r hr => by obtain ⟨q, h1, rfl⟩ := List.mem_map.1 hr; exact pvRow_len (hrows q h1)) hcs (by rw [hn]; omega) (List.all_eq_true.2 fun z hz => ?_) ?_
            · obtain ⟨r, h1, h2⟩ := List.mem_flatten.1 hz
              obtain ⟨q, h3, rfl⟩ := List.mem_map.1 h1
              exact List.all_eq_true.1 (pvRow_pure (hrows q h3)) z h2
            · rw [hn, hvl, e]
              exact hpr
          · cases hrd
        · cases hrd
theorem prl_of {μ : Ren} {S : Nat → Prop} {h : AHeap} : ∀ (s : List Shp) {r : List Dat} {ws : List Value}, HSL s r → RL S h ws r → PRL μ (phi0 h) (pvRow s r) ws
  | [], _, _, hs, hr => by cases hs; cases hr; exact .nil
  | s :: ss, _, _, hs, hr => by
    cases hs with
    | cons h1 h2 => cases hr with
      | cons h3 h4 =>
        simp only [pvRow]
        exact .cons (pr_of s h1 h3) (prl_of ss h2 h4)
theorem prs_of {μ : Ren} {S : Nat → Prop} {h : AHeap} (s : List Shp) : ∀ (rows : List (List Dat)) {ws : List Value}, (∀ r ∈ rows, HSL s r) → RL S h ws rows.flatten → PRL μ (phi0 h) (rows.map (pvRow s)).flatten ws
  | [], _, _, hr => by cases hr; exact .nil
  | r :: rows, _, hs, hr => by
    rw [List.flatten_cons] at hr
    obtain ⟨w1, w2, rfl, h1, h2⟩ := rl_split hr
    rw [List.map_cons, List.flatten_cons]
    exact (prl_of s (hs r (by simp)) h1).append (prs_of s rows (fun q hq => hs q (by simp [hq])) h2)
end
def mu00 : Ren := fun _ _ => none
theorem rel0 (h : AHeap) : Rel mu00 (phi0 h) [] h :=
  ⟨fun b k o e => (by cases e), fun b blk e => (by cases e), fun b b' blk blk' l l' e => (by cases e), fun b blk l e => (by cases e), fun a blk e => e, fun b blk k o e => (by cases e)⟩
/-- A run that gives a bool is a call that gives it, and leaves what was there. -/
theorem calls_of_prun {P : Program} {T : PTable} (hmix : P.follows .mixedOrders = true) (hT : TableOk P (PTable.erase T)) {f : FuncId} {args : List PV} {args' : List Value} {W : World} {b : Bool} {h1 : PHeap} (hk : prun noCalleeP T f args [] = some (.bool b, h1))
    (hargs : PRL mu00 (phi0 (heap0 W)) args args') (hv : VRL (mu0 W) args' args') (hf : Nat.blt f yieldId = true := by rfl) :
    Calls P f args'.toArray W fun e W' => e = .returned (.bool b) ∧ RowKit.Below W.heap.size W W' := by
  obtain ⟨r', ha', μ', φ', k1, k2, k3, k4⟩ := prun_sim (Γa0 := noCallee) (T := T) noCalleeP_sim f args [] _ _ hk mu00 (phi0 (heap0 W)) (heap0 W) args' (rel0 _) hargs
  cases k2
  exact calls_of_run (run_ok hmix hT noCallee_ok) k1 hv rfl hf
theorem row_int (k : IntKind) (n : Int) : pvRow [.int k] (kD k n) = kV k n := by simp only [kD, pvRow, pv1, ofV1, kV]
theorem row_i64 (n : Int) : pvRow [.int .i64] (iD n) = iV n := by simp only [iD, pvRow, pv1, ofV1, iV]
theorem pv_map {α : Type} {s : List Shp} {f : α → List Dat} {g : α → List PV} (hfg : ∀ a, pvRow s (f a) = g a) (l : List α) : pv1 (.sl s) (.sl (l.map f)) = .frz s.length (l.map g) := by
  simp only [pv1, List.map_map]
  congr 1
  exact List.map_congr_left fun a _ => hfg a
def bV (b : Bool) : List PV := [.bool b]
def sV (s : ByteArray) : List PV := [.str s]
def lV {α : Type} (sz : Nat) (f : α → List PV) (l : List α) : List PV := [.frz sz (l.map f)]
theorem row_bool (b : Bool) : pvRow [.bool] (bD b) = bV b := by simp only [bD, pvRow, pv1, ofV1, bV]
theorem row_str (b : ByteArray) : pvRow [.str] (sD b) = sV b := by simp only [sD, pvRow, pv1, ofV1, sV]
theorem row_list {α : Type} {s : List Shp} {f : α → List Dat} {g : α → List PV} (hfg : ∀ a, pvRow s (f a) = g a) (l : List α) : pvRow [.sl s] (lD f l) = lV s.length g l := by
  simp only [lD, pvRow, pv_map hfg, lV]
theorem map_rows {α : Type} {s : List Shp} {f : α → List Dat} {g : α → List PV} (hfg : ∀ a, pvRow s (f a) = g a) (l : List α) : (l.map f).map (pvRow s) = l.map g := by
  rw [List.map_map]
  exact List.map_congr_left fun a _ => hfg a
theorem pv_ints (l : List Int) : pv1 (.sl [.int .i64]) (.sl (l.map iD)) = ints l := pv_map row_i64 l
theorem pv_kinds (k : IntKind) (l : List Int) : pv1 (.sl [.int k]) (.sl (l.map (kD k))) = .frz 1 (l.map (kV k)) := pv_map (row_int k) l
end Go.Vm
