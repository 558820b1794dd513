/- One part of the proof. -/
import Derived.Test.YtgcioidegmnehaaP3
import Derived.Lib.Bytealg
import Derived.Sort.Grow
import Derived.Test.YtgcioidegmnehaaChecked
set_option linter.unusedSimpArgs false
set_option linter.unusedVariables false
set_option linter.unusedSimpArgs false
set_option linter.unusedVariables false
/- Words for laws: what the value machine's functions come to. -/
namespace Go.Vm
open Go.Am
theorem wrap64 {n : Int} (h : isI64 n) : IntKind.i64.wrap n = n := by
  unfold isI64 at h
  simp [IntKind.wrap, IntKind.bits, IntKind.signed]
  split <;> omega
theorem bin_lss (k : IntKind) (a b : Int) : binP .lss (.int k a) (.int k b) = some (.bool (decide (a < b))) := by simp [binP]
theorem bin_leq (k : IntKind) (a b : Int) : binP .leq (.int k a) (.int k b) = some (.bool (decide (a ≤ b))) := by simp [binP]
theorem bin_gtr (k : IntKind) (a b : Int) : binP .gtr (.int k a) (.int k b) = some (.bool (decide (a > b))) := by simp [binP]
theorem bin_geq (k : IntKind) (a b : Int) : binP .geq (.int k a) (.int k b) = some (.bool (decide (a ≥ b))) := by simp [binP]
theorem bin_eql (k : IntKind) (a b : Int) : binP .eql (.int k a) (.int k b) = some (.bool (a == b)) := by simp [binP]
theorem bin_neq (k : IntKind) (a b : Int) : binP .neq (.int k a) (.int k b) = some (.bool (a != b)) := by simp [binP]
theorem bin_add (k : IntKind) (a b : Int) : binP .add (.int k a) (.int k b) = some (.int k (k.wrap (a + b))) := by simp [binP]
theorem bin_sub (k : IntKind) (a b : Int) : binP .sub (.int k a) (.int k b) = some (.int k (k.wrap (a - b))) := by simp [binP]
theorem bin_mul (k : IntKind) (a b : Int) : binP .mul (.int k a) (.int k b) = some (.int k (k.wrap (a * b))) := by simp [binP]
theorem bin_quo (k : IntKind) (a b : Int) (h : b ≠ 0) : binP .quo (.int k a) (.int k b) = some (.int k (k.wrap (a.tdiv b))) := by simp [binP, h]
theorem bin_rem (k : IntKind) (a b : Int) (h : b ≠ 0) : binP .rem (.int k a) (.int k b) = some (.int k (a.tmod b)) := by simp [binP, h]
theorem bin_shl (k k' : IntKind) (a b : Int) (h : 0 ≤ b) : binP .shl (.int k a) (.int k' b) = some (.int k (k.wrap (a * 2 ^ (min b.toNat k.bits)))) := by simp [binP]; omega
theorem bin_shr (k k' : IntKind) (a b : Int) (h : 0 ≤ b) : binP .shr (.int k a) (.int k' b) = some (.int k (a.fdiv (2 ^ (min b.toNat k.bits)))) := by simp [binP]; omega
theorem bin_and (k : IntKind) (a b : Int) : binP .and (.int k a) (.int k b) = some (.int k (k.wrap (BitVec.ofInt k.bits a &&& BitVec.ofInt k.bits b).toNat)) := by simp [binP]
theorem bin_seq (a b : ByteArray) : binP .eql (.str a) (.str b) = some (.bool (a.toList == b.toList)) := rfl
theorem bin_sne (a b : ByteArray) : binP .neq (.str a) (.str b) = some (.bool !(a.toList == b.toList)) := rfl
theorem un_neg (k : IntKind) (a : Int) : unP .neg (.int k a) = some (.int k (k.wrap (0 - a))) := rfl
theorem un_not (b : Bool) : unP .not (.bool b) = some (.bool !b) := rfl
theorem conv_int (k k' : IntKind) (n : Int) : convP k (.int k' n) = some (.int k (k.wrap n)) := rfl
theorem max2_i (k : IntKind) (a b : Int) : max2P (.int k a) (.int k b) = some (.int k (max a b)) := by
  simp only [max2P, if_true]
  congr 2
  split <;> omega
theorem min2_i (k : IntKind) (a b : Int) : min2P (.int k a) (.int k b) = some (.int k (min a b)) := by
  simp only [min2P, if_true]
  congr 2
  split <;> omega
theorem fold1_two (f : PV → PV → Option PV) (a b : PV) : fold1P f [a, b] = f a b := by simp [fold1P, foldP]
theorem nth_zero (v : PV) (vs : List PV) : nthP (v :: vs) 0 = v := rfl
theorem nth_succ (v : PV) (vs : List PV) (k : Nat) : nthP (v :: vs) (k + 1) = nthP vs k := rfl
theorem nth_one (v w : PV) (vs : List PV) : nthP (v :: w :: vs) 1 = w := rfl
theorem nth_two (v w x : PV) (vs : List PV) : nthP (v :: w :: x :: vs) 2 = x := rfl
theorem nth_three (v w x y : PV) (vs : List PV) : nthP (v :: w :: x :: y :: vs) 3 = y := rfl
theorem nth_four (v w x y z : PV) (vs : List PV) : nthP (v :: w :: x :: y :: z :: vs) 4 = z := rfl
theorem nth_five (v w x y z u : PV) (vs : List PV) : nthP (v :: w :: x :: y :: z :: u :: vs) 5 = u := rfl
theorem sc_and (t : Bool) {R : Type} (a b : Option R) : scP (.bool t) true a b = if t = true then a else b := rfl
theorem sc_or (t : Bool) {R : Type} (a b : Option R) : scP (.bool t) false a b = if t = false then a else b := rfl
theorem if_bool (t : Bool) {R : Type} (a b : Option R) : ifP (.bool t) a b = if t = true then a else b := rfl
theorem KL_def {R : Type} (k : List PV → PHeap → Option R) (b : (List PV → PHeap → Option R) → Option R) : KL k b = b k := rfl
theorem K1_def {R : Type} (k : PV → PHeap → Option R) (b : (PV → PHeap → Option R) → Option R) : K1 k b = b k := rfl
theorem fork_def {R : Type} (v : PV) (h : PHeap) (k : PV → PHeap → Option R) : forkP v h k = k v h := rfl
theorem guard_true {R : Type} (m : Option R) : guardP true m = m := rfl
theorem both_same {R : Type} (a : Option R) : both a a = a := by unfold both; rw [if_pos rfl]
theorem both_eq {R : Type} {a b r : Option R} (h1 : a = r) (h2 : b = r) : both a b = r := by rw [h1, h2, both_same]
theorem isNil_cons {R : Type} (neg : Bool) (sz : Nat) (r : List PV) (rs : List (List PV)) (k : PV → Option R) : isNilK .slice neg (.frz sz (r :: rs)) k = k (.bool neg) := by cases neg <;> rfl
theorem isNil_empty {R : Type} (neg : Bool) (sz : Nat) (k : PV → Option R) : isNilK .slice neg (.frz sz []) k = both (k (.bool true)) (k (.bool false)) := rfl
theorem isNil_frz {R : Type} {neg : Bool} {sz : Nat} {rows : List (List PV)} {k : PV → Option R} {r : Option R} (h1 : rows = [] → k (.bool !neg) = r) (h2 : k (.bool neg) = r) : isNilK .slice neg (.frz sz rows) k = r := by
  cases rows with
  | cons x l => rw [isNil_cons]; exact h2
  | nil =>
    rw [isNil_empty]
    have h1 := h1 rfl
    cases neg
    · exact both_eq h1 h2
    · exact both_eq h2 h1
theorem loop_from {R : Type} {B : (List PV → PHeap → Option R) → List PV → PHeap → Option R} (vs : Nat → List PV) (hs : Nat → PHeap) (len : Nat) (r : Option R)
    (hstep : ∀ i, i < len → ∀ K, B K (vs i) (hs i) = K (vs (i + 1)) (hs (i + 1))) (hend : ∀ K, B K (vs len) (hs len) = r) : ∀ (n i : Nat), i ≤ len → len < n + i → loopP B n (vs i) (hs i) = r
  | 0, i, h1, h2 => by omega
  | n + 1, i, h1, h2 => by
    show B (loopP B n) (vs i) (hs i) = r
    by_cases h : i < len
    · rw [hstep i h]
      exact loop_from vs hs len r hstep hend n (i + 1) h (by omega)
    · have : i = len := by omega
      subst this
      exact hend _
theorem loop_run {R : Type} {B : (List PV → PHeap → Option R) → List PV → PHeap → Option R} {r : Option R} {n : Nat} {v0 : List PV} {h0 : PHeap} (vs : Nat → List PV) (hs : Nat → PHeap) (len : Nat) (hn : len < n) (e1 : vs 0 = v0) (e2 : hs 0 = h0)
    (hstep : ∀ i, i < len → ∀ K, B K (vs i) (hs i) = K (vs (i + 1)) (hs (i + 1))) (hend : ∀ K, B K (vs len) (hs len) = r) : loopP B n v0 h0 = r := by
  rw [← e1, ← e2]
  exact loop_from vs hs len r hstep hend n 0 (Nat.zero_le _) (by omega)
theorem loop_pure {R : Type} {B : (List PV → PHeap → Option R) → List PV → PHeap → Option R} {r : Option R} {n : Nat} {v0 : List PV} {h0 : PHeap} (vs : Nat → List PV) (len : Nat) (hn : len < n) (e1 : vs 0 = v0)
    (hstep : ∀ i, i < len → ∀ K, B K (vs i) h0 = K (vs (i + 1)) h0) (hend : ∀ K, B K (vs len) h0 = r) : loopP B n v0 h0 = r :=
  loop_run vs (fun _ => h0) len hn e1 rfl hstep hend
theorem get_new (h l : PHeap) (k : Nat) : (h ++ l)[h.length + k]? = l[k]? := by
  rw [List.getElem?_append_right (by omega)]; congr 1; omega
theorem get_new0 (h l : PHeap) : (h ++ l)[h.length]? = l[0]? := get_new h l 0
theorem set_new (h l : PHeap) (k : Nat) (b : PBlk) : (h ++ l).set (h.length + k) b = h ++ l.set k b := by
  rw [List.set_append_right _ _ (by omega)]; congr 2; omega
theorem set_new0 (h l : PHeap) (b : PBlk) : (h ++ l).set h.length b = h ++ l.set 0 b := set_new h l 0 b
theorem boxAt_some {h : PHeap} {b : Nat} {vs : List PV} {t : TypeId} {md : Md} (e : h[b]? = some (.box vs t md)) : boxAt h b = some vs := by unfold boxAt; rw [e]
theorem logAt_some {h : PHeap} {b sz : Nat} {rows : List (List PV)} {t : TypeId} {md : Md} (e : h[b]? = some (.log rows sz t md)) : logAt h b rows.length sz = some rows := by unfold logAt; rw [e]; simp
theorem load_box (agg : Bool) (n b o : Nat) (h : PHeap) : loadP agg n (.ptr b o) h = (boxAt h b).bind fun vs => partP agg o n vs := rfl
theorem load_fptr (agg : Bool) (n o : Nat) (row : List PV) (h : PHeap) : loadP agg n (.fptr row o) h = partP agg o n row := rfl
theorem part_cell (o n : Nat) (cs : List PV) : partP false o n cs = cs[o]? := rfl
theorem field_ptr (b o f : Nat) : fieldAddrP f (.ptr b o) = some (.ptr b (o + f)) := rfl
theorem field_fptr (row : List PV) (o f : Nat) : fieldAddrP f (.fptr row o) = some (.fptr row (o + f)) := rfl
theorem store_box {h : PHeap} {b o n : Nat} {v : PV} {vs vs' : List PV} {t : TypeId} (e : h[b]? = some (.box vs t .rw)) (hn : (cellsP v).length = n) (h0 : 0 < n) (hp : putAt vs o (cellsP v) = some vs') : storeP n (.ptr b o) v h = some (h.set b (.box vs' t .rw)) := by
  unfold storeP
  have e1 : (Nat.beq (cellsP v).length n && Nat.blt 0 n) = true := by subst hn; simp [Nat.blt]; exact h0
  rw [e1]
  simp only [cond_true, e, hp, Option.map_some]
theorem put_one {vs : List PV} {o : Nat} {v : PV} (ho : o < vs.length) (hv : oneP v = true) : putAt vs o [v] = some (vs.set o v) := by
  unfold putAt
  rw [if_pos ⟨by simp; omega, by simp [hv]⟩, List.set_eq_take_append_cons_drop, if_pos ho]
  simp
theorem store_cell {h : PHeap} {b o : Nat} {v : PV} {vs : List PV} {t : TypeId} (e : h[b]? = some (.box vs t .rw)) (ho : o < vs.length) (hv : oneP v = true) (hc : cellsP v = [v] := by rfl) : storeP 1 (.ptr b o) v h = some (h.set b (.box (vs.set o v) t .rw)) :=
  store_box e (by rw [hc]; rfl) (by decide) (by rw [hc]; exact put_one ho hv)
theorem store_whole {h : PHeap} {b n : Nat} {cs vs : List PV} {t : TypeId} (e : h[b]? = some (.box vs t .rw)) (h1 : vs.length = n) (h2 : cs.length = n) (h0 : 0 < n) (hv : cs.all oneP = true) : storeP n (.ptr b 0) (.agg cs) h = some (h.set b (.box cs t .rw)) := by
  refine store_box e h2 h0 ?_
  unfold putAt
  rw [if_pos ⟨by simp only [cellsP]; omega, hv⟩]
  simp only [cellsP, List.take_zero, List.nil_append, Nat.zero_add]
  rw [List.drop_of_length_le (by omega), List.append_nil]
theorem idx_frz {sz : Nat} {rows : List (List PV)} {i : Nat} {row : List PV} (k : IntKind) (h : rows[i]? = some row) : indexAddrP sz (.frz sz rows) (.int k i) = some (.fptr row 0) := by
  simp only [indexAddrP]
  rw [if_pos ⟨by omega, trivial⟩, Int.toNat_natCast, h]
  rfl
theorem idx_map {α : Type} {f : α → List PV} {l : List α} {sz : Nat} {i : Nat} {a : α} (k : IntKind) (h : l[i]? = some a) : indexAddrP sz (.frz sz (l.map f)) (.int k i) = some (.fptr (f a) 0) := idx_frz k (by rw [List.getElem?_map, h]; rfl)
theorem idx_ref {b lo n v sz : Nat} {i : Nat} (k : IntKind) (h : i < n) : indexAddrP sz (.ref b lo n v sz) (.int k i) = some (.lptr b (lo + i) 0 v sz) := by
  simp only [indexAddrP]
  rw [if_pos ⟨by omega, by omega, trivial⟩, Int.toNat_natCast]
theorem len_frz {sz : Nat} {rows : List (List PV)} : lenP false (.frz sz rows) = some (.int .i64 rows.length) := rfl
theorem len_map {α : Type} {sz : Nat} {f : α → List PV} {l : List α} : lenP false (.frz sz (l.map f)) = some (.int .i64 l.length) := by rw [len_frz, List.length_map]
theorem len_ref (b lo n v sz : Nat) : lenP false (.ref b lo n v sz) = some (.int .i64 n) := rfl
theorem fill_one (z v : PV) (hv : cellsP v = [v] := by rfl) : fillP (repP [z] 1) [(0, 1, v)] = some [v] := by
  simp [fillP, repP, hv]
theorem fill_int (z : PV) (k : IntKind) (n : Int) : fillP (repP [z] 1) [(0, 1, .int k n)] = some [.int k n] := fill_one _ _
theorem chunk_one (v : PV) : chunk 1 1 [v] = [[v]] := rfl
theorem all_one (v : PV) : [v].all pure1 = pure1 v := by simp
theorem append_ref {h : PHeap} {b sz : Nat} {t : TypeId} {rows new : List (List PV)} {x : PV} (e : h[b]? = some (.log rows sz t .rw)) (hx : rowsP sz x h = some new) (hs : 0 < sz) (hp : new.flatten.all oneP = true) (hm : rows.length + new.length ≤ mostLen) :
    appendP t sz (.ref b 0 rows.length rows.length sz) x h = some (.ref b 0 (rows.length + new.length) (rows.length + new.length) sz, h.set b (.log (rows ++ new) sz t .rw)) := by
  simp only [appendP, hx, Option.bind_some, appendRows]
  rw [if_pos ⟨by omega, hs, hp⟩, e]
  simp only
  rw [if_pos ⟨trivial, trivial, trivial, trivial, trivial, trivial, hm⟩]
theorem rows_frz (sz : Nat) (rows : List (List PV)) (h : PHeap) : rowsP sz (.frz sz rows) h = some rows := if_pos rfl
theorem append_new {h l : PHeap} {k sz : Nat} {t : TypeId} {rows : List (List PV)} {row : List PV} (e : l[k]? = some (.log rows sz t .rw)) (hs : 0 < sz) (hp : row.all oneP = true) (hm : rows.length < mostLen) :
    appendP t sz (.ref (h.length + k) 0 rows.length rows.length sz) (.frz sz [row]) (h ++ l) = some (.ref (h.length + k) 0 (rows.length + 1) (rows.length + 1) sz, h ++ l.set k (.log (rows ++ [row]) sz t .rw)) := by
  rw [append_ref (by rw [get_new]; exact e) (rows_frz _ _ _) hs (by simpa using hp) (by simp; omega), set_new]
  rfl
theorem trim_self (h : PHeap) (roots : List PV) : trim h roots h = h := by
  unfold trim
  split
  · exact List.take_length
  · rfl
theorem trim_len {h h' : PHeap} (roots : List PV) (e : h'.length = h.length) : trim h roots h' = h' := by
  unfold trim
  split
  · rw [← e]; exact List.take_length
  · rfl
theorem trim_new {h : PHeap} {roots : List PV} (l : PHeap) (hr : ∀ v ∈ roots, ltV h.length v) : trim h roots (h ++ l) = h := by
  unfold trim
  rw [if_pos ⟨hr, fun b hb => .inl (List.getElem?_append_left hb)⟩]
  exact List.take_left
theorem fz_keep (v : PV) (h : PHeap) : fz .keep v h = some (v, h) := by unfold fz; rfl
theorem fz_rawN (h : PHeap) : fz .raw .nilS h = some (.emp, h) := by unfold fz; rfl
theorem fz_rawE (h : PHeap) : fz .raw .emp h = some (.emp, h) := by unfold fz; rfl
theorem fz_rawR (b lo n v sz : Nat) (h : PHeap) : fz .raw (.ref b lo n v sz) h = some (.ref b lo n v sz, h) := by unfold fz; rfl
theorem fz_frz (sz sz' : Nat) (rows : List (List PV)) (h : PHeap) : fz (.flat sz) (.frz sz' rows) h = some (.frz sz' rows, h) := by unfold fz; rfl
theorem fz_nil (sz : Nat) (h : PHeap) : fz (.flat sz) .nilS h = some (.frz sz [], h) := by unfold fz; rfl
theorem fz_emp (sz : Nat) (h : PHeap) : fz (.flat sz) .emp h = some (.frz sz [], h) := by unfold fz; rfl
theorem fzL_nil (h : PHeap) : fzL [] [] h = some ([], h) := by unfold fzL; rfl
theorem fzL_cons (s : FS) (ss : List FS) (v : PV) (vs : List PV) (h : PHeap) : fzL (s :: ss) (v :: vs) h = (fz s v h).bind fun q => (fzL ss vs q.2).map fun r => (q.1 :: r.1, r.2) := by rw [fzL]
theorem fz_log {h l : PHeap} {k sz s : Nat} {t : TypeId} {rows : List (List PV)} (e : l[k]? = some (.log rows sz t .rw)) (hp : rows.flatten.all pure1 = true) :
    fz (.flat s) (.ref (h.length + k) 0 rows.length rows.length sz) (h ++ l) = some (.frz sz rows, h ++ if rows.length = 0 then l else l.set k (.log rows sz t .ro)) := by
  unfold fz
  simp only
  by_cases h0 : rows.length = 0
  · rw [if_pos h0, if_pos h0, List.eq_nil_of_length_eq_zero h0]
  · rw [if_neg h0, if_neg h0, get_new, e]
    simp only [List.drop_zero, List.take_length]
    rw [if_pos ⟨trivial, trivial, by omega, hp⟩, set_new]
theorem fin_def (shapes : List FS) (h h' : PHeap) (vs : List PV) : finP shapes h h' vs = (fzL shapes vs h').map fun q => (singleP q.1, trim h q.1 q.2) := rfl
theorem single_one (v : PV) : singleP [v] = v := rfl
theorem single_two (v w : PV) : singleP [v, w] = .tuple [v, w] := rfl
theorem single_three (v w x : PV) : singleP [v, w, x] = .tuple [v, w, x] := rfl
theorem fin_keep {h l : PHeap} {v : PV} (hv : ∀ n, ltV n v) : finP [.keep] h (h ++ l) [v] = some (v, h) := by
  simp only [fin_def, fzL_cons, fzL_nil, fz_keep, Option.bind_some, Option.map_some, single_one]
  rw [trim_new _ (fun x hx => by simp only [List.mem_singleton] at hx; subst hx; exact hv _)]
theorem fin_int {h l : PHeap} {k : IntKind} {n : Int} : finP [.keep] h (h ++ l) [.int k n] = some (.int k n, h) := fin_keep fun _ => by simp [ltV]
theorem fin_bool {h l : PHeap} {b : Bool} : finP [.keep] h (h ++ l) [.bool b] = some (.bool b, h) := fin_keep fun _ => by simp [ltV]
theorem fin_int0 {h : PHeap} {k : IntKind} {n : Int} : finP [.keep] h h [.int k n] = some (.int k n, h) := by have := fin_int (h := h) (l := []) (k := k) (n := n); rwa [List.append_nil] at this
theorem fin_bool0 {h : PHeap} {b : Bool} : finP [.keep] h h [.bool b] = some (.bool b, h) := by have := fin_bool (h := h) (l := []) (b := b); rwa [List.append_nil] at this
theorem pure_map {α : Type} {f : α → List PV} (hf : ∀ a, (f a).all pure1 = true) (l : List α) : (l.map f).flatten.all pure1 = true := by
  refine List.all_eq_true.2 fun x hx => ?_
  obtain ⟨r, hr, hx⟩ := List.mem_flatten.1 hx
  obtain ⟨a, _, rfl⟩ := List.mem_map.1 hr
  exact List.all_eq_true.1 (hf a) x hx
theorem lt_len {α : Type} {l : List α} {i : Nat} (h : i < l.length) : ∃ a, l[i]? = some a := ⟨_, List.getElem?_eq_getElem h⟩
theorem take_succ_get {α : Type} {l : List α} {i : Nat} {a : α} (hi : l[i]? = some a) : l.take (i + 1) = l.take i ++ [a] := by rw [List.take_add_one, hi]; rfl
theorem unl_self {R : Type} (h : PHeap) (k : PHeap → Option R) : unl h (lock h) k = k h := by
  unfold unl
  rw [if_pos (List.prefix_refl _), List.drop_of_length_le (by rw [lock_len]; exact Nat.le_refl _), List.append_nil]
theorem callV_func (Γ : PCallee) (g : FuncId) (xs ys args : List PV) (h : PHeap) (hg : Nat.blt g yieldId = true := by rfl) : callVP Γ (.func g xs ys) args h = Γ g (xs ++ args ++ ys) h := by
  show (bif Nat.blt g yieldId then _ else _) = _
  rw [hg]; rfl
theorem callF_func (Γ : PCallee) (g : FuncId) (xs ys args : List PV) (h : PHeap) (hg : Nat.blt g yieldId = true := by rfl) : callFP Γ (.func g xs ys) args h = Γ g (xs ++ args ++ ys) h := by
  show (bif Nat.blt g yieldId then _ else _) = _
  rw [hg]; rfl
def iV (n : Int) : List PV := [.int .i64 n]
def kV (k : IntKind) (n : Int) : List PV := [.int k n]
def ints (l : List Int) : PV := .frz 1 (l.map iV)
def u8V (n : Nat) : List PV := [.int .u8 n]
def u8s (l : List Nat) : PV := .frz 1 (l.map u8V)
theorem iV_pure (n : Int) : (iV n).all pure1 = true := rfl
theorem u8V_pure (n : Nat) : (u8V n).all pure1 = true := rfl
theorem len_ints (l : List Int) : lenP false (ints l) = some (.int .i64 l.length) := len_map
theorem idx_ints {l : List Int} {i : Nat} {a : Int} (k : IntKind) (h : l[i]? = some a) : indexAddrP 1 (ints l) (.int k i) = some (.fptr (iV a) 0) := idx_map k h
theorem load_iV (a : Int) (h : PHeap) : loadP false 1 (.fptr (iV a) 0) h = some (.int .i64 a) := rfl
theorem len_u8s (l : List Nat) : lenP false (u8s l) = some (.int .i64 l.length) := len_map
theorem idx_u8s {l : List Nat} {i : Nat} {a : Nat} (k : IntKind) (h : l[i]? = some a) : indexAddrP 1 (u8s l) (.int k i) = some (.fptr (u8V a) 0) := idx_map k h
theorem load_u8V (a : Nat) (h : PHeap) : loadP false 1 (.fptr (u8V a) 0) h = some (.int .u8 a) := rfl
theorem fz_ints (s : Nat) (l : List Int) (h : PHeap) : fz (.flat s) (ints l) h = some (ints l, h) := fz_frz _ _ _ _
theorem ltT {i n : Nat} (h : i < n) : ((i : Int) < (n : Int)) = True := eq_true (by omega)
theorem ltF (n : Nat) : ((n : Int) < (n : Int)) = False := eq_false (by omega)
theorem fz_logI {h l : PHeap} {k s : Nat} {t : TypeId} {xs : List Int} (n : Nat) (hn : n = xs.length) (e : l[k]? = some (.log (xs.map iV) 1 t .rw)) :
    fz (.flat s) (.ref (h.length + k) 0 n n 1) (h ++ l) = some (ints xs, h ++ if n = 0 then l else l.set k (.log (xs.map iV) 1 t .ro)) := by
  have := fz_log (h := h) (s := s) e (pure_map iV_pure xs)
  rw [List.length_map, ← hn] at this
  exact this
theorem fz_logB {h l : PHeap} {k s : Nat} {t : TypeId} {xs : List Nat} (n : Nat) (hn : n = xs.length) (e : l[k]? = some (.log (xs.map u8V) 1 t .rw)) :
    fz (.flat s) (.ref (h.length + k) 0 n n 1) (h ++ l) = some (u8s xs, h ++ if n = 0 then l else l.set k (.log (xs.map u8V) 1 t .ro)) := by
  have := fz_log (h := h) (s := s) e (pure_map u8V_pure xs)
  rw [List.length_map, ← hn] at this
  exact this
theorem lt_frz (n sz : Nat) (rows : List (List PV)) : ltV n (.frz sz rows) := by simp [ltV]
theorem lt_ints (n : Nat) (l : List Int) : ltV n (ints l) := lt_frz _ _ _
theorem lt_u8s (n : Nat) (l : List Nat) : ltV n (u8s l) := lt_frz _ _ _
theorem lt_int (n : Nat) (k : IntKind) (x : Int) : ltV n (.int k x) := by simp [ltV]
theorem append_one {h l : PHeap} {k : Nat} {t : TypeId} {rows : List (List PV)} {v : PV} (n : Nat) (hn : n = rows.length) (e : l[k]? = some (.log rows 1 t .rw)) (hp : oneP v = true) (hm : n < mostLen) :
    appendP t 1 (.ref (h.length + k) 0 n n 1) (.frz 1 [[v]]) (h ++ l) = some (.ref (h.length + k) 0 (n + 1) (n + 1) 1, h ++ l.set k (.log (rows ++ [[v]]) 1 t .rw)) := by
  subst hn
  exact append_new e (by decide) (by simpa using hp) hm
end Go.Vm
/- Whole numbers of the machine: floors, shifts, masks, wrapping. -/
namespace Go.Vm
open Go.Am
theorem floor_eq {a b : Int} (hb : 0 < b) : (if a.tmod b < 0 then a.tdiv b - 1 else a.tdiv b) = a / b := by
  have h1 := Int.tdiv_eq_ediv (a := a) (b := b)
  have h2 := Int.tmod_eq_emod (a := a) (b := b)
  have h3 := Int.emod_nonneg a (show b ≠ 0 by omega)
  have h4 := Int.emod_lt_of_pos a hb
  by_cases hc : 0 ≤ a ∨ b ∣ a
  · rw [if_pos hc] at h1 h2
    rw [if_neg (by omega)]
    omega
  · rw [if_neg hc] at h1 h2
    have hs : b.sign = 1 := Int.sign_eq_one_of_pos hb
    rw [hs] at h1
    have hn : (b.natAbs : Int) = b := by omega
    rw [hn] at h2
    rw [if_pos (by omega)]
    omega
theorem div_bounds {a b : Int} (hb : 0 < b) : (0 ≤ a → 0 ≤ a / b ∧ a / b ≤ a) ∧ (a < 0 → a ≤ a / b ∧ a / b ≤ 0) := by
  refine ⟨fun h => ⟨Int.ediv_nonneg h (by omega), Int.ediv_le_self _ h⟩, fun h => ⟨?_, ?_⟩⟩
  · rw [Int.le_ediv_iff_mul_le hb]
    have := Int.mul_le_mul_of_nonpos_left (a := a) (show a ≤ 0 by omega) (show (1 : Int) ≤ b by omega)
    rw [Int.mul_one] at this
    exact this
  · have := Int.ediv_neg_of_neg_of_pos h hb
    omega
theorem div64 {a b : Int} (hb : 0 < b) (ha : isI64 a) : isI64 (a / b) := by
  have := div_bounds (a := a) hb
  unfold isI64 at ha ⊢
  by_cases h : 0 ≤ a
  · have := this.1 h; omega
  · have := this.2 (by omega); omega
theorem tdiv64 {a b : Int} (hb : 0 < b) (ha : isI64 a) : isI64 (a.tdiv b) := by
  have h1 := floor_eq (a := a) hb
  have h2 := div_bounds (a := a) hb
  unfold isI64 at ha ⊢
  split at h1
  · by_cases h : 0 ≤ a
    · have := Int.tmod_nonneg b h; omega
    · have := h2.2 (by omega); omega
  · by_cases h : 0 ≤ a
    · have := h2.1 h; omega
    · have := h2.2 (by omega); omega
theorem wrap64_emod (n : Int) : (IntKind.i64.wrap n) % 18446744073709551616 = n % 18446744073709551616 := by
  simp [IntKind.wrap, IntKind.bits, IntKind.signed]
  split <;> omega
theorem wrap64_range (n : Int) : isI64 (IntKind.i64.wrap n) := by
  unfold isI64
  simp [IntKind.wrap, IntKind.bits, IntKind.signed]
  split <;> omega
theorem wrap64_congr {n m : Int} (h : n % 18446744073709551616 = m % 18446744073709551616) : IntKind.i64.wrap n = IntKind.i64.wrap m := by
  simp [IntKind.wrap, IntKind.bits, IntKind.signed, h]
theorem wrap64_sub (a c : Int) : IntKind.i64.wrap (a - IntKind.i64.wrap c) = IntKind.i64.wrap (a - c) := by
  refine wrap64_congr ?_
  have := wrap64_emod c
  omega
theorem wrap8 (n : Int) : IntKind.u8.wrap n = n % 256 := by simp [IntKind.wrap, IntKind.bits, IntKind.signed]
def half (b : Nat) : Int := ((2 ^ (b - 1) : Nat) : Int)
theorem half_pos (b : Nat) : 0 < half b := by unfold half; have := Nat.two_pow_pos (b - 1); omega
theorem half_two {b : Nat} (h : 1 ≤ b) : 2 * half b = ((2 ^ b : Nat) : Int) := by
  unfold half
  obtain ⟨c, rfl⟩ : ∃ c, b = c + 1 := ⟨b - 1, by omega⟩
  rw [Nat.add_sub_cancel, Nat.pow_succ]
  omega
theorem half_le {b c : Nat} (h : b ≤ c) : half b ≤ half c := by
  unfold half
  have := Nat.pow_le_pow_right (show 0 < 2 by decide) (show b - 1 ≤ c - 1 by omega)
  omega
theorem half_16 {b : Nat} (h : b ≤ 16) : half b ≤ 32768 := half_le h
def wrapB (b : Nat) (x : Int) : Int := (x + half b) % (2 * half b) - half b
def inR (b : Nat) (x : Int) : Bool := decide (-half b ≤ x) && decide (x < half b)
theorem wrapB_range (b : Nat) (x : Int) : inR b (wrapB b x) = true := by
  have hp := half_pos b
  have h1 := Int.emod_nonneg (x + half b) (show 2 * half b ≠ 0 by omega)
  have h2 := Int.emod_lt_of_pos (x + half b) (show 0 < 2 * half b by omega)
  unfold wrapB inR
  simp only [Bool.and_eq_true, decide_eq_true_eq]
  omega
theorem wrapB_self {b : Nat} {x : Int} (h : inR b x = true) : wrapB b x = x := by
  have hp := half_pos b
  unfold inR at h
  simp only [Bool.and_eq_true, decide_eq_true_eq] at h
  unfold wrapB
  rw [Int.emod_eq_of_lt (by omega) (by omega)]
  omega
theorem wrapB_fits (b : Nat) (x : Int) : (wrapB b x == x) = inR b x := by
  cases h : inR b x with
  | true => rw [wrapB_self h]; simp
  | false =>
    rw [beq_eq_false_iff_ne]
    intro e
    have := wrapB_range b x
    rw [e, h] at this
    cases this
theorem emod_shift (x h m : Int) : (x % m + h) % m = (x + h) % m := by rw [Int.emod_add_emod]
theorem wrapB_low (b : Nat) (x : Int) : wrapB b x = if x % (2 * half b) ≥ half b then x % (2 * half b) - 2 * half b else x % (2 * half b) := by
  have hp := half_pos b
  have h1 := Int.emod_nonneg x (show 2 * half b ≠ 0 by omega)
  have h2 := Int.emod_lt_of_pos x (show 0 < 2 * half b by omega)
  unfold wrapB
  rw [← emod_shift x]
  generalize x % (2 * half b) = r at *
  split
  · have : r + half b = (r - half b) + 2 * half b * 1 := by omega
    rw [this, Int.add_mul_emod_self_left, Int.emod_eq_of_lt (by omega) (by omega)]
    omega
  · rw [Int.emod_eq_of_lt (by omega) (by omega)]
    omega
theorem shl_pow (c : Int) (b : Nat) (k : IntKind) (hb : b ≤ 62) : binP .shl (.int .i64 c) (.int k b) = some (.int .i64 (IntKind.i64.wrap (c * ((2 ^ b : Nat) : Int)))) := by
  rw [bin_shl _ _ _ _ (by omega), Int.toNat_natCast, show min b IntKind.i64.bits = b by show min b 64 = b; omega]
  congr 3
theorem shr_pow (c : Int) (b : Nat) (k : IntKind) (hb : b ≤ 62) : binP .shr (.int .i64 c) (.int k b) = some (.int .i64 (c / ((2 ^ b : Nat) : Int))) := by
  rw [bin_shr _ _ _ _ (by omega), Int.toNat_natCast, show min b IntKind.i64.bits = b by show min b 64 = b; omega]
  congr 2
  rw [Int.fdiv_eq_ediv_of_nonneg _ (by have := Nat.two_pow_pos b; have h2 : (2 : Int) ^ b = ((2 ^ b : Nat) : Int) := by simp
                                       omega)]
  simp
theorem dvd64 {b : Nat} (h : b ≤ 64) : ((2 ^ b : Nat) : Int) ∣ 18446744073709551616 := by
  have := Nat.pow_dvd_pow 2 h
  have h2 : (18446744073709551616 : Int) = ((2 ^ 64 : Nat) : Int) := rfl
  rw [h2]
  exact Int.natCast_dvd_natCast.2 this
theorem emod64 {b : Nat} (h : b ≤ 64) (x : Int) : (x % 18446744073709551616) % ((2 ^ b : Nat) : Int) = x % ((2 ^ b : Nat) : Int) := Int.emod_emod_of_dvd _ (dvd64 h)
theorem and_mask (x : Int) {b : Nat} (hb : b ≤ 62) : binP .and (.int .i64 x) (.int .i64 (((2 ^ b : Nat) : Int) - 1)) = some (.int .i64 (x % ((2 ^ b : Nat) : Int))) := by
  have hp := Nat.two_pow_pos b
  have hle := Nat.pow_le_pow_right (show 0 < 2 by decide) hb
  have h62 : 2 ^ 62 = 4611686018427387904 := rfl
  have h1 : (BitVec.ofInt 64 (((2 ^ b : Nat) : Int) - 1)).toNat = 2 ^ b - 1 := by
    rw [BitVec.toNat_ofInt, Int.emod_eq_of_lt (by omega) (by omega)]
    omega
  have h2 : ((BitVec.ofInt 64 x &&& BitVec.ofInt 64 (((2 ^ b : Nat) : Int) - 1)).toNat : Int) = x % ((2 ^ b : Nat) : Int) := by
    rw [BitVec.toNat_and, h1, Nat.and_two_pow_sub_one_eq_mod, BitVec.toNat_ofInt, Int.natCast_emod, Int.toNat_of_nonneg (Int.emod_nonneg _ (by decide))]
    exact emod64 (by omega) x
  rw [bin_and]
  show some (PV.int .i64 (IntKind.i64.wrap ((BitVec.ofInt 64 x &&& BitVec.ofInt 64 (((2 ^ b : Nat) : Int) - 1)).toNat))) = _
  rw [h2, wrap64]
  have h3 := Int.emod_nonneg x (show ((2 ^ b : Nat) : Int) ≠ 0 by omega)
  have h4 := Int.emod_lt_of_pos x (show 0 < ((2 ^ b : Nat) : Int) by omega)
  unfold isI64
  omega
theorem or_nat {k : IntKind} (a b : Nat) (ha : a < 2 ^ 62) (hb : b < 2 ^ 62) : binP .or (.int .i64 a) (.int .i64 b) = some (.int .i64 ((a ||| b : Nat) : Int)) := by
  have h62 : 2 ^ 62 = 4611686018427387904 := rfl
  have h1 : ∀ a : Nat, a < 2 ^ 62 → (BitVec.ofInt 64 (a : Int)).toNat = a := fun a ha => by
    rw [BitVec.toNat_ofInt, Int.emod_eq_of_lt (by omega) (by omega)]
    omega
  have hor : a ||| b < 2 ^ 62 := Nat.or_lt_two_pow ha hb
  simp only [binP, if_true]
  show some (PV.int .i64 (IntKind.i64.wrap ((BitVec.ofInt 64 (a : Int) ||| BitVec.ofInt 64 (b : Int)).toNat))) = _
  rw [BitVec.toNat_or, h1 a ha, h1 b hb, wrap64]
  unfold isI64
  omega
theorem or_byte (a b : Nat) (ha : a < 256) (hb : b < 256) : binP .or (.int .u8 a) (.int .u8 b) = some (.int .u8 ((a ||| b : Nat) : Int)) := by
  have h1 : ∀ a : Nat, a < 256 → (BitVec.ofInt 8 (a : Int)).toNat = a := fun a ha => by
    rw [BitVec.toNat_ofInt, Int.emod_eq_of_lt (by omega) (by omega)]
    omega
  have hor : a ||| b < 2 ^ 8 := Nat.or_lt_two_pow ha hb
  simp only [binP, if_true]
  show some (PV.int .u8 (IntKind.u8.wrap ((BitVec.ofInt 8 (a : Int) ||| BitVec.ofInt 8 (b : Int)).toNat))) = _
  rw [BitVec.toNat_or, h1 a ha, h1 b hb, wrap8, Int.emod_eq_of_lt (by omega) (by omega)]
theorem wrapu8 (n : Nat) (h : n < 256) : IntKind.u8.wrap (n : Int) = n := by rw [wrap8]; omega
theorem succ64 {i : Nat} (h : i < 4294967297) : IntKind.i64.wrap ((i : Int) + 1) = ((i + 1 : Nat) : Int) := by rw [wrap64 (by unfold isI64; omega)]; omega
end Go.Vm
/- Words of lists that are filled up place by place. -/
namespace Go.Vm
open Go.Am
theorem load_log {agg : Bool} {n b i o sz ver : Nat} {rows : List (List PV)} {row : List PV} {t : TypeId} {md : Md} {h : PHeap} (e : h[b]? = some (.log rows sz t md)) (hv : ver = rows.length) (hi : rows[i]? = some row) : loadP agg n (.lptr b i o ver sz) h = partP agg o n row := by
  subst hv
  simp only [loadP, logAt_some e, Option.bind_some, hi]
theorem store_log {b i o n sz ver : Nat} {rows : List (List PV)} {row row' : List PV} {v : PV} {t : TypeId} {h : PHeap} (e : h[b]? = some (.log rows sz t .rw)) (hv : ver = rows.length) (hi : rows[i]? = some row) (hn : (cellsP v).length = n) (h0 : 0 < n) (hp : putAt row o (cellsP v) = some row') :
    storeP n (.lptr b i o ver sz) v h = some (h.set b (.log (rows.set i row') sz t .rw)) := by
  subst hv
  unfold storeP
  have e1 : (Nat.beq (cellsP v).length n && Nat.blt 0 n) = true := by subst hn; simp [Nat.blt]; exact h0
  rw [e1]
  simp only [cond_true, e]
  rw [if_pos ⟨trivial, trivial⟩, hi]
  simp only [Option.bind_some, hp, Option.map_some]
theorem store_el {b i ver : Nat} {rows : List (List PV)} {w v : PV} {t : TypeId} {h : PHeap} (e : h[b]? = some (.log rows 1 t .rw)) (hv : ver = rows.length) (hi : rows[i]? = some [w]) (ho : oneP v = true) (hc : cellsP v = [v] := by rfl) :
    storeP 1 (.lptr b i 0 ver 1) v h = some (h.set b (.log (rows.set i [v]) 1 t .rw)) :=
  store_log e hv hi (by rw [hc]; rfl) (by decide) (by rw [hc]; exact put_one (by simp) ho)
def filled {α : Type} (g : Nat → α) (z : α) (n i : Nat) : List α := (List.range n).map fun j => if j < i then g j else z
theorem filled_len {α : Type} (g : Nat → α) (z : α) (n i : Nat) : (filled g z n i).length = n := by simp [filled]
theorem filled_get {α : Type} {g : Nat → α} {z : α} {n i j : Nat} (h : j < n) : (filled g z n i)[j]? = some (if j < i then g j else z) := by simp [filled, h]
theorem filled_zero {α : Type} (g : Nat → α) (z : α) (n : Nat) : filled g z n 0 = List.replicate n z := by
  refine List.ext_getElem? fun j => ?_
  by_cases h : j < n
  · rw [filled_get h, List.getElem?_replicate, if_pos h]; rfl
  · rw [List.getElem?_eq_none (by rw [filled_len]; omega), List.getElem?_eq_none (by simp; omega)]
theorem filled_all {α : Type} (g : Nat → α) (z : α) (n : Nat) : filled g z n n = (List.range n).map g := by
  unfold filled
  refine List.map_congr_left fun j hj => ?_
  rw [if_pos (List.mem_range.1 hj)]
theorem filled_set {α : Type} {g : Nat → α} {z : α} {n i : Nat} (h : i < n) : (filled g z n i).set i (g i) = filled g z n (i + 1) := by
  refine List.ext_getElem? fun j => ?_
  by_cases hj : j = i
  · subst hj
    rw [List.getElem?_set_self (by rw [filled_len]; exact h), filled_get h, if_pos (by omega)]
  · rw [List.getElem?_set_ne (by omega)]
    by_cases hn : j < n
    · rw [filled_get hn, filled_get hn]
      by_cases hji : j < i
      · rw [if_pos hji, if_pos (by omega)]
      · rw [if_neg hji, if_neg (by omega)]
    · rw [List.getElem?_eq_none (by rw [filled_len]; omega), List.getElem?_eq_none (by rw [filled_len]; omega)]
theorem store_fill {h l : PHeap} {k n i : Nat} {g : Nat → Int} {t : TypeId} (e : l[k]? = some (.log ((filled g 0 n i).map iV) 1 t .rw)) (hi : i < n) :
    storeP 1 (.lptr (h.length + k) i 0 n 1) (.int .i64 (g i)) (h ++ l) = some (h ++ l.set k (.log ((filled g 0 n (i + 1)).map iV) 1 t .rw)) := by
  have e2 : ((filled g 0 n i).map iV)[i]? = some [.int .i64 0] := by
    rw [List.getElem?_map, filled_get hi, if_neg (by omega)]; rfl
  rw [store_el (by rw [get_new]; exact e) (by rw [List.length_map, filled_len]) e2 rfl, set_new]
  have : ((filled g 0 n i).map iV).set i [.int .i64 (g i)] = (filled g 0 n (i + 1)).map iV := by
    rw [← filled_set hi, List.map_set]; rfl
  rw [this]
theorem trim_app2 {h l0 l1 l2 : PHeap} {roots : List PV} (hl : l1.length = l0.length) (hr : ∀ v ∈ roots, ltV (h.length + l0.length) v) (hb : ∀ (k : Nat) x, l1[k]? = some x → l0[k]? = some x ∨ ltB (h.length + l0.length) x) : trim (h ++ l0) roots (h ++ (l1 ++ l2)) = h ++ l1 := by
  unfold trim
  rw [if_pos]
  · rw [← List.append_assoc, List.take_append_of_le_length (by simp; omega), List.take_of_length_le (by simp; omega)]
  · rw [List.length_append]
    refine ⟨hr, fun b hb' => ?_⟩
    by_cases hbl : b < h.length
    · exact .inl (by rw [List.getElem?_append_left hbl, List.getElem?_append_left hbl])
    · have hlt : b - h.length < l1.length := by omega
      have e1 : (h ++ (l1 ++ l2))[b]? = some l1[b - h.length] := by
        rw [List.getElem?_append_right (by omega), List.getElem?_append_left (by omega)]
        exact List.getElem?_eq_getElem hlt
      rcases hb (b - h.length) _ (List.getElem?_eq_getElem hlt) with h1 | h1
      · refine .inl ?_
        rw [e1, List.getElem?_append_right (by omega), h1]
      · exact .inr ⟨_, e1, h1⟩
theorem trim_ref {h h' : PHeap} {roots : List PV} (hr : ∃ v ∈ roots, ¬ ltV h.length v) : trim h roots h' = h' := by
  obtain ⟨v, h1, h2⟩ := hr
  unfold trim
  rw [if_neg fun k => h2 (k.1 v h1)]
theorem cells_int (k : IntKind) (n : Int) : cellsP (.int k n) = [.int k n] := rfl
theorem cells_ints (l : List Int) : cellsP (ints l) = [ints l] := rfl
theorem cells_agg (cs : List PV) : cellsP (.agg cs) = cs := rfl
theorem slice_hi {α : Type} {f : α → List PV} {l : List α} {sz : Nat} {n : Nat} (h : n ≤ l.length) : sliceP sz (.frz sz (l.map f)) none (some (.int .i64 n)) none = some (.frz sz ((l.take n).map f)) := by
  simp only [sliceP, if_true, boundP, List.length_map]
  rw [if_pos (by omega)]
  simp only [Option.bind_some, Int.toNat_natCast, List.drop_zero, List.map_take]
theorem slice_lo {α : Type} {f : α → List PV} {l : List α} {sz : Nat} {n : Nat} (h : n ≤ l.length) : sliceP sz (.frz sz (l.map f)) (some (.int .i64 n)) none none = some (.frz sz ((l.drop n).map f)) := by
  simp only [sliceP, if_true, boundP, List.length_map, Option.bind_some]
  rw [if_pos (by omega)]
  simp only [Option.bind_some, Int.toNat_natCast, List.map_drop]
  rw [List.take_of_length_le (by simp)]
theorem slice_clip {α : Type} {f : α → List PV} {l : List α} {sz : Nat} {a b : Nat} (h1 : a < b) (h2 : b ≤ l.length) : sliceP sz (.frz sz (l.map f)) (some (.int .i64 a)) (some (.int .i64 b)) (some (.int .i64 b)) = some (.frz sz (((l.take b).drop a).map f)) := by
  simp only [sliceP, if_true, boundP, List.length_map]
  rw [if_pos (by omega)]
  simp only [Option.bind_some, Int.toNat_natCast]
  rw [if_pos (by omega)]
  simp only [Option.bind_some, Int.toNat_natCast]
  rw [if_pos (by omega)]
  simp only [Option.bind_some, Int.toNat_natCast]
  rw [if_neg (by omega)]
  simp only [List.map_take, List.map_drop]
theorem ints_hi {l : List Int} {n : Nat} (h : n ≤ l.length) : sliceP 1 (ints l) none (some (.int .i64 n)) none = some (ints (l.take n)) := slice_hi h
theorem ints_lo {l : List Int} {n : Nat} (h : n ≤ l.length) : sliceP 1 (ints l) (some (.int .i64 n)) none none = some (ints (l.drop n)) := slice_lo h
theorem ints_clip {l : List Int} {a b : Nat} (h1 : a < b) (h2 : b ≤ l.length) : sliceP 1 (ints l) (some (.int .i64 a)) (some (.int .i64 b)) (some (.int .i64 b)) = some (ints ((l.take b).drop a)) := slice_clip h1 h2
end Go.Vm
/- The start: what arguments read as; a run of the value machine is a call. -/
namespace Go.Vm
open Go.Am Go.ChangeShapes Go.WideShapes
mutual
def pv1 : Shp → Dat → PV
  | .sl s, d => match d with
    | .sl rows => .frz s.length (rows.map (pvRow s))
    | .v x => ofV1 x
  | .int _, d => match d with
    | .v x => ofV1 x
    | .sl _ => .junk
  | .bool, d => match d with
    | .v x => ofV1 x
    | .sl _ => .junk
  | .str, d => match d with
    | .v x => ofV1 x
    | .sl _ => .junk
def pvRow : List Shp → List Dat → List PV
  | [], _ => []
  | s :: ss, ds => match ds with
    | [] => []
    | d :: ds => pv1 s d :: pvRow ss ds
end
theorem rl_split {S : Nat → Prop} {h : AHeap} {ws : List Value} {d1 d2 : List Dat} (r : RL S h ws (d1 ++ d2)) : ∃ w1 w2, ws = w1 ++ w2 ∧ RL S h w1 d1 ∧ RL S h w2 d2 := by
  refine ⟨ws.take d1.length, ws.drop d1.length, (List.take_append_drop _ _).symm, ?_, ?_⟩
  · have := r.take d1.length; rwa [List.take_left] at this
  · have := r.drop d1.length; rwa [List.drop_left] at this
theorem pvRow_len : ∀ {s : List Shp} {r : List Dat}, HSL s r → (pvRow s r).length = s.length
  | [], _, h => by simp [pvRow]
  | s :: ss, _, h => by
    cases h with
    | cons h1 h2 => simp [pvRow, pvRow_len h2]
theorem pv1_pure {s : Shp} {d : Dat} (h : HS s d) : pure1 (pv1 s d) = true := by
  cases h with
  | int => simp [pv1, ofV1, pure1]
  | bool => simp [pv1, ofV1, pure1]
  | str => simp [pv1, ofV1, pure1]
  | sl => simp [pv1, pure1]
theorem pvRow_pure : ∀ {s : List Shp} {r : List Dat}, HSL s r → (pvRow s r).all pure1 = true
  | [], _, h => by simp [pvRow]
  | s :: ss, _, h => by
    cases h with
    | cons h1 h2 => simp only [pvRow, List.all_cons, pv1_pure h1, pvRow_pure h2, Bool.and_self]
def phi0 (h : AHeap) : Frz := fun a => h[a]?
mutual
theorem pr_of {μ : Ren} {S : Nat → Prop} {h : AHeap} : ∀ (s : Shp) {d : Dat} {x : Value}, HS s d → R S h x d → PR μ (phi0 h) (pv1 s d) x
  | .int k, _, _, hs, hr => by
    cases hs with
    | int hw => cases hr with | v hx => simp only [pv1]; exact PR.ofV1 _
  | .bool, _, _, hs, hr => by
    cases hs with
    | bool => cases hr with | v hx => simp only [pv1]; exact PR.ofV1 _
  | .str, _, _, hs, hr => by
    cases hs with
    | str => cases hr with | v hx => simp only [pv1]; exact PR.ofV1 _
  | .sl s, _, _, hs, hr => by
    cases hs with
    | @sl _ rows hl hrows =>
      simp only [pv1]
      cases hr with
      | nil => exact .frzNil _
      | sl0 => exact .frz0 _ _ _
      | @sl b o c n vs _ hn hb hc hrd hs =>
        have hlen := hs.length
        have hf : (rows.map (pvRow s)).flatten.length = rows.length * s.length := by
          rw [flat_len (size := s.length) (fun r hr => by obtain ⟨q, h1, rfl⟩ := List.mem_map.1 hr; exact pvRow_len (hrows q h1)), List.length_map]
        have hpr := prs_of (μ := μ) s rows hrows hs
        have hvl := hpr.length
        rw [hf] at hvl
        unfold readN at hrd
        split at hrd
        · rename_i cs t rw_ hcs
          split at hrd
          · rename_i hle
            have e := Option.some.inj hrd
            have hml : maxLen < capU := maxLen_lt
            refine .frz (vs := cs) (t := t) (rw := rw_) (by rw [List.length_map]; exact hn) ⟨hc, by omega⟩ (fun r hr => by obtain ⟨q, h1, rfl⟩ := List.mem_map.1 hr; exact pvRow_len (hrows q h1)) hcs (by rw [hn]; omega) (List.all_eq_true.2 fun z hz => ?_) ?_
            · obtain ⟨r, h1, h2⟩ := List.mem_flatten.1 hz
              obtain ⟨q, h3, rfl⟩ := List.mem_map.1 h1
              exact List.all_eq_true.1 (pvRow_pure (hrows q h3)) z h2
            · rw [hn, hvl, e]
              exact hpr
          · cases hrd
        · cases hrd
theorem prl_of {μ : Ren} {S : Nat → Prop} {h : AHeap} : ∀ (s : List Shp) {r : List Dat} {ws : List Value}, HSL s r → RL S h ws r → PRL μ (phi0 h) (pvRow s r) ws
  | [], _, _, hs, hr => by cases hs; cases hr; exact .nil
  | s :: ss, _, _, hs, hr => by
    cases hs with
    | cons h1 h2 => cases hr with
      | cons h3 h4 =>
        simp only [pvRow]
        exact .cons (pr_of s h1 h3) (prl_of ss h2 h4)
theorem prs_of {μ : Ren} {S : Nat → Prop} {h : AHeap} (s : List Shp) : ∀ (rows : List (List Dat)) {ws : List Value}, (∀ r ∈ rows, HSL s r) → RL S h ws rows.flatten → PRL μ (phi0 h) (rows.map (pvRow s)).flatten ws
  | [], _, _, hr => by cases hr; exact .nil
  | r :: rows, _, hs, hr => by
    rw [List.flatten_cons] at hr
    obtain ⟨w1, w2, rfl, h1, h2⟩ := rl_split hr
    rw [List.map_cons, List.flatten_cons]
    exact (prl_of s (hs r (by simp)) h1).append (prs_of s rows (fun q hq => hs q (by simp [hq])) h2)
end
def mu00 : Ren := fun _ _ => none
theorem rel0 (h : AHeap) : Rel mu00 (phi0 h) [] h :=
  ⟨fun b k o e => (by cases e), fun b blk e => (by cases e), fun b b' blk blk' l l' e => (by cases e), fun b blk l e => (by cases e), fun a blk e => e, fun b blk k o e => (by cases e)⟩
theorem row_int (k : IntKind) (n : Int) : pvRow [.int k] (kD k n) = kV k n := by simp only [kD, pvRow, pv1, ofV1, kV]
theorem row_i64 (n : Int) : pvRow [.int .i64] (iD n) = iV n := by simp only [iD, pvRow, pv1, ofV1, iV]
theorem pv_map {α : Type} {s : List Shp} {f : α → List Dat} {g : α → List PV} (hfg : ∀ a, pvRow s (f a) = g a) (l : List α) : pv1 (.sl s) (.sl (l.map f)) = .frz s.length (l.map g) := by
  simp only [pv1, List.map_map]
  congr 1
  exact List.map_congr_left fun a _ => hfg a
end Go.Vm


set_option linter.unusedSimpArgs false
set_option linter.unusedVariables false
/- A base of the machine: strings' IndexByte, which the program reaches as a function without a body. -/
namespace Go.Vm
open Go.Am
theorem acall_base {Γ : Am.Callee} {T : ATable} {f : FuncId} (hf : Nat.beq f yieldId = false) (hT : T.get f = none) (args : List Value) (h : AHeap) : ∀ n, acall Γ T n f args h = Γ f args h
  | 0 => by unfold acall; rw [hf, hT]; rfl
  | n + 1 => by unfold acall; rw [hf, hT]; rfl
theorem run_base {Γ : Am.Callee} {T : ATable} {f : FuncId} (hf : Nat.beq f yieldId = false) (hT : T.get f = none) {args : List Value} {h : AHeap} {r : Value × AHeap} (hr : Γ f args h = some r) : run Γ T f args h = some r := by
  unfold run
  have H : ∃ n, (acall Γ T n f args h).isSome = true := ⟨0, by rw [acall_base hf hT, hr]; rfl⟩
  rw [dif_pos H, acall_base hf hT, hr]
theorem calls_of_prunB {P : Program} {T : PTable} {Γb : PCallee} {Γa : Am.Callee} (hmix : P.follows .mixedOrders = true) (hT : TableOk P (PTable.erase T)) (hs : CallR Γb (run Γa T.erase)) (hb : CallOk P Γa) {f : FuncId} {args : List PV} {args' : List Value} {W : World} {b : Bool} {h1 : PHeap} (hk : prun Γb T f args [] = some (.bool b, h1))
    (hargs : PRL mu00 (phi0 (heap0 W)) args args') (hv : VRL (mu0 W) args' args') (hf : Nat.blt f yieldId = true := by rfl) :
    Calls P f args'.toArray W fun e W' => e = .returned (.bool b) ∧ RowKit.Below W.heap.size W W' := by
  obtain ⟨r', ha', μ', φ', k1, k2, k3, k4⟩ := prun_sim (Γa0 := Γa) (T := T) hs f args [] _ _ hk mu00 (phi0 (heap0 W)) (heap0 W) args' (rel0 _) hargs
  cases k2
  exact calls_of_run (run_ok hmix hT hb) k1 hv rfl hf
end Go.Vm
/- Words that make simp run the code in the order of the run, and join the two ways of a logical operator. -/
namespace Go.Vm
open Go.Am
theorem bind_c {α β : Type} {a b : Option α} {f : α → Option β} (h : a = b) : a.bind f = b.bind f := by rw [h]
theorem ifP_c {R : Type} {c d : PV} {a b : Option R} (h : c = d) : ifP c a b = ifP d a b := by rw [h]
theorem ite_c {α : Sort _} {c d : Prop} [Decidable c] [Decidable d] {a b : α} (h : c = d) : (if c then a else b) = (if d then a else b) := by
  subst h; congr
theorem loop_c {R : Type} {B : (List PV → PHeap → Option R) → List PV → PHeap → Option R} {n : Nat} {v w : List PV} {h k : PHeap} (e1 : v = w) (e2 : h = k) : loopP B n v h = loopP B n w k := by rw [e1, e2]
theorem K1_c {R : Type} {k : PV → PHeap → Option R} {b b' : (PV → PHeap → Option R) → Option R} (h : ∀ j, b j = b' j) : K1 k b = K1 k b' := by rw [show b = b' from funext h]
theorem bS {α β : Type} (a : α) (f : α → Option β) : (some a).bind f = f a := Eq.trans (Option.bind_some a f) (Eq.refl _)
theorem KLn {R : Type} (k : List PV → PHeap → Option R) (b : (List PV → PHeap → Option R) → Option R) : KL k b = b k := Eq.trans (KL_def k b) (Eq.refl _)
theorem K1n {R : Type} (k : PV → PHeap → Option R) (b : (PV → PHeap → Option R) → Option R) : K1 k b = b k := Eq.trans (K1_def k b) (Eq.refl _)
theorem K1_or {R : Type} (k : PV → PHeap → Option R) (b c : Bool) (h : PHeap) : K1 k (fun j => scP (.bool b) false (j (.bool c) h) (j (.bool true) h)) = k (.bool (b || c)) h := by cases b <;> rfl
theorem K1_and {R : Type} (k : PV → PHeap → Option R) (b c : Bool) (h : PHeap) : K1 k (fun j => scP (.bool b) true (j (.bool c) h) (j (.bool false) h)) = k (.bool (b && c)) h := by cases b <;> rfl
theorem K1_one {R : Type} (k : PV → PHeap → Option R) (v : PV) (h : PHeap) : K1 k (fun j => j v h) = k v h := rfl
theorem succ63 {i : Nat} (h : i < 9223372036854775807) : IntKind.i64.wrap ((i : Int) + 1) = ((i + 1 : Nat) : Int) := by rw [wrap64 (by unfold isI64; omega)]; omega
theorem y20 (a b : PV) : extractP (.tuple [a, b]) 0 = some a := Eq.trans (show _ = some a from rfl) (Eq.refl _)
theorem y21 (a b : PV) : extractP (.tuple [a, b]) 1 = some b := Eq.trans (show _ = some b from rfl) (Eq.refl _)
theorem y30 (a b c : PV) : extractP (.tuple [a, b, c]) 0 = some a := Eq.trans (show _ = some a from rfl) (Eq.refl _)
theorem y31 (a b c : PV) : extractP (.tuple [a, b, c]) 1 = some b := Eq.trans (show _ = some b from rfl) (Eq.refl _)
theorem y32 (a b c : PV) : extractP (.tuple [a, b, c]) 2 = some c := Eq.trans (show _ = some c from rfl) (Eq.refl _)
end Go.Vm
/- Loops that leave where something first is the case. -/
namespace Go.Vm
open Go.Am
end Go.Vm
/- Flat heaps: what a function has made lies behind what it found, as a list; loads and stores find their places by numbers. -/
namespace Go.Vm
open Go.Am
theorem nr {α : Sort _} {a b : α} (h : a = b) : a = b := Eq.trans h (Eq.refl b)
theorem forkW {R : Type} (v : PV) (h : PHeap) (k : PV → PHeap → Option R) : forkP v h k = k v h := Eq.trans (fork_def v h k) (Eq.refl _)
theorem fork_c {R : Type} {v v' : PV} {h h' : PHeap} {k : PV → PHeap → Option R} (e1 : v = v') (e2 : h = h') : forkP v h k = forkP v' h' k := by rw [e1, e2]
theorem guard_c {R : Type} {b b' : Bool} {m : Option R} (e : b = b') : guardP b m = guardP b' m := by rw [e]
theorem unl_c {R : Type} {h h' g g' : PHeap} {k : PHeap → Option R} (e1 : h = g) (e2 : h' = g') : unl h h' k = unl g g' k := by rw [e1, e2]
theorem K1one {R : Type} (k : PV → PHeap → Option R) (v : PV) (h : PHeap) : K1 k (fun j => j v h) = k v h := Eq.trans (K1_one k v h) (Eq.refl _)
theorem ifW (t : Bool) {R : Type} (a b : Option R) : ifP (.bool t) a b = if t = true then a else b := Eq.trans (if_bool t a b) (Eq.refl _)
theorem cellsW (l : List PV) : cellsP (.agg l) = l := Eq.trans (cells_agg l) (Eq.refl _)
theorem notW (b : Bool) : unP .not (.bool b) = some (.bool !b) := Eq.trans (un_not b) (Eq.refl _)
theorem mapS {α β : Type} (a : α) (f : α → β) : (some a).map f = some (f a) := Eq.trans (Option.map_some a f) (Eq.refl _)
theorem fieldW (b o f : Nat) : fieldAddrP f (.ptr b o) = some (.ptr b (o + f)) := Eq.trans (field_ptr b o f) (Eq.refl _)
theorem fieldF (row : List PV) (o f : Nat) : fieldAddrP f (.fptr row o) = some (.fptr row (o + f)) := Eq.trans (field_fptr row o f) (Eq.refl _)
theorem partC (o n : Nat) (cs : List PV) : partP false o n cs = cs[o]? := Eq.trans (part_cell o n cs) (Eq.refl _)
theorem loadF (agg : Bool) (n o : Nat) (row : List PV) (h : PHeap) : loadP agg n (.fptr row o) h = partP agg o n row := Eq.trans (load_fptr agg n o row h) (Eq.refl _)
theorem loadC0 (agg : Bool) (n o : Nat) (vs : List PV) (t : TypeId) (md : Md) (l : PHeap) : loadP agg n (.ptr 0 o) (.box vs t md :: l) = partP agg o n vs := by
  rw [load_box]; rfl
theorem loadCk (agg : Bool) (n o k : Nat) (b : PBlk) (l : PHeap) : loadP agg n (.ptr (k + 1) o) (b :: l) = loadP agg n (.ptr k o) l := by
  rw [load_box, load_box]; rfl
theorem loadN0 (agg : Bool) (n o : Nat) (h : PHeap) (vs : List PV) (t : TypeId) (md : Md) (l : PHeap) : loadP agg n (.ptr h.length o) (h ++ .box vs t md :: l) = partP agg o n vs := by
  rw [load_box, boxAt_some (vs := vs) (t := t) (md := md) (by rw [get_new0]; rfl)]; rfl
theorem loadNk (agg : Bool) (n o k : Nat) (h l : PHeap) : loadP agg n (.ptr (h.length + k) o) (h ++ l) = loadP agg n (.ptr k o) l := by
  rw [load_box, load_box]
  unfold boxAt
  rw [get_new]
theorem storeC0 {n o : Nat} {v : PV} {vs : List PV} {t : TypeId} {l : PHeap} (hn : (cellsP v).length = n) (h0 : 0 < n) : storeP n (.ptr 0 o) v (.box vs t .rw :: l) = (putAt vs o (cellsP v)).map fun vs' => .box vs' t .rw :: l := by
  unfold storeP
  have e1 : (Nat.beq (cellsP v).length n && Nat.blt 0 n) = true := by subst hn; simp [Nat.blt]; exact h0
  rw [e1]; rfl
theorem storeCk (n o k : Nat) (v : PV) (b : PBlk) (l : PHeap) : storeP n (.ptr (k + 1) o) v (b :: l) = (storeP n (.ptr k o) v l).map (b :: ·) := by
  unfold storeP
  cases (Nat.beq (cellsP v).length n && Nat.blt 0 n) with
  | false => rfl
  | true =>
    simp only [cond_true, List.getElem?_cons_succ]
    cases l[k]? with
    | none => rfl
    | some blk =>
      cases blk with
      | box vs t md => cases md with
        | rw =>
          show Option.map (fun vs' => (b :: l).set (k + 1) (PBlk.box vs' t Md.rw)) (putAt vs o (cellsP v)) = Option.map (b :: ·) (Option.map (fun vs' => l.set k (PBlk.box vs' t Md.rw)) (putAt vs o (cellsP v)))
          cases putAt vs o (cellsP v) <;> rfl
        | lk => rfl
        | ro => rfl
      | log a b c d => rfl
      | map a b => rfl
      | loop a b c d e f g i => rfl
      | dead => rfl
theorem storeNk (n o k : Nat) (v : PV) (h l : PHeap) : storeP n (.ptr (h.length + k) o) v (h ++ l) = (storeP n (.ptr k o) v l).map (h ++ ·) := by
  unfold storeP
  cases (Nat.beq (cellsP v).length n && Nat.blt 0 n) with
  | false => rfl
  | true =>
    simp only [cond_true, get_new]
    cases l[k]? with
    | none => rfl
    | some blk =>
      cases blk with
      | box vs t md => cases md with
        | rw =>
          show Option.map (fun vs' => (h ++ l).set (h.length + k) (PBlk.box vs' t Md.rw)) (putAt vs o (cellsP v)) = Option.map (h ++ ·) (Option.map (fun vs' => l.set k (PBlk.box vs' t Md.rw)) (putAt vs o (cellsP v)))
          simp only [set_new]
          cases putAt vs o (cellsP v) <;> rfl
        | lk => rfl
        | ro => rfl
      | log a b c d => rfl
      | map a b => rfl
      | loop a b c d e f g i => rfl
      | dead => rfl
theorem storeN0 (n o : Nat) (v : PV) (h l : PHeap) : storeP n (.ptr h.length o) v (h ++ l) = (storeP n (.ptr 0 o) v l).map (h ++ ·) := storeNk n o 0 v h l
theorem getD_some {α : Type} {l : List α} {i : Nat} {d a : α} (h : l[i]? = some a) : l.getD i d = a := by rw [List.getD_eq_getElem?_getD, h]; rfl
theorem lenadd (h : PHeap) (a b : Nat) : h.length + a + b = h.length + (a + b) := Nat.add_assoc _ _ _
theorem len1 (h : PHeap) (a : PBlk) : (h ++ [a]).length = h.length + 1 := by simp
theorem len2 (h : PHeap) (a b : PBlk) : (h ++ [a, b]).length = h.length + 2 := by simp
theorem len3 (h : PHeap) (a b c : PBlk) : (h ++ [a, b, c]).length = h.length + 3 := by simp
theorem len4 (h : PHeap) (a b c d : PBlk) : (h ++ [a, b, c, d]).length = h.length + 4 := by simp
theorem len5 (h : PHeap) (a b c d e : PBlk) : (h ++ [a, b, c, d, e]).length = h.length + 5 := by simp
end Go.Vm
/- Words of what is built in places of a flat heap: append, stores of cells, freezing at the end. -/
namespace Go.Vm
open Go.Am
theorem st1 {v : PV} (hv : cellsP v = [v]) (o : Nat) (vs : List PV) (t : TypeId) (l : PHeap) : storeP 1 (.ptr 0 o) v (.box vs t .rw :: l) = (putAt vs o [v]).map fun vs' => .box vs' t .rw :: l := by
  rw [storeC0 (by rw [hv]; rfl) (by decide), hv]
theorem fin_new {shapes : List FS} {h h' l : PHeap} {vs ws : List PV} (hz : fzL shapes vs h' = some (ws, h ++ l)) (hp : ∀ v ∈ ws, ltV h.length v) : finP shapes h h' vs = some (singleP ws, h) := by
  rw [fin_def, hz, Option.map_some, trim_new _ hp]
end Go.Vm
/- Short names for printed code. -/
namespace Go.Vm
open Go.Am
theorem words : type_of% (And.intro @cellsW (And.intro @forkW (And.intro @fieldW (And.intro @fieldF (And.intro @Nat.zero_add (And.intro (@List.append_assoc PBlk) (And.intro (@List.cons_append PBlk) (And.intro (@List.nil_append PBlk) (And.intro @lenadd (And.intro @len1 (And.intro @len2 (And.intro @len3 (And.intro @len4 (And.intro @len5 (And.intro @loadN0 (And.intro @loadNk (And.intro @loadCk (And.intro @loadC0 (And.intro @loadF (And.intro @partC (And.intro @storeN0 (And.intro @storeNk (And.intro @storeCk (And.intro @mapS (And.intro @bS (And.intro @K1_or (And.intro @K1_and (And.intro @K1one (And.intro @notW (And.intro @ifW (And.intro @nth_zero (And.intro @bin_lss (And.intro @bin_gtr (And.intro @bin_leq (And.intro @bin_geq (And.intro @bin_eql (And.intro @bin_neq (And.intro @bin_add (And.intro @bin_sub (And.intro @unl_self (And.intro @y20 (@y21)))))))))))))))))))))))))))))))))))))))))) := And.intro @cellsW (And.intro @forkW (And.intro @fieldW (And.intro @fieldF (And.intro @Nat.zero_add (And.intro (@List.append_assoc PBlk) (And.intro (@List.cons_append PBlk) (And.intro (@List.nil_append PBlk) (And.intro @lenadd (And.intro @len1 (And.intro @len2 (And.intro @len3 (And.intro @len4 (And.intro @len5 (And.intro @loadN0 (And.intro @loadNk (And.intro @loadCk (And.intro @loadC0 (And.intro @loadF (And.intro @partC (And.intro @storeN0 (And.intro @storeNk (And.intro @storeCk (And.intro @mapS (And.intro @bS (And.intro @K1_or (And.intro @K1_and (And.intro @K1one (And.intro @notW (And.intro @ifW (And.intro @nth_zero (And.intro @bin_lss (And.intro @bin_gtr (And.intro @bin_leq (And.intro @bin_geq (And.intro @bin_eql (And.intro @bin_neq (And.intro @bin_add (And.intro @bin_sub (And.intro @unl_self (And.intro @y20 (@y21)))))))))))))))))))))))))))))))))))))))))
end Go.Vm
namespace Go.Vm.G
open Go.Am Go.Vm
def t (n : Nat) : Operand := .tmp n
def i (n : Int) : Operand := .const (.int .i64 n)
def z : PSteps := .nil
def o (d : Nat) (x : AOp) (r : PSteps) : PSteps := .op (some d) (.a x) false r
def O (d : Nat) (x : AOp) (r : PSteps) : PSteps := .op (some d) (.a x) true r
def n (x : AOp) (r : PSteps) : PSteps := .op none (.a x) false r
def m (d s : Nat) (r : PSteps) : PSteps := .op (some d) (.a (.move (.tmp s))) false r
def b (d : Nat) (op : BinOp) (x y : Operand) (r : PSteps) : PSteps := .op (some d) (.a (.bin op x y)) false r
def f (d off s : Nat) (r : PSteps) : PSteps := .op (some d) (.a (.fieldAddr off (.tmp s))) false r
def l (d s : Nat) (r : PSteps) : PSteps := .op (some d) (.a (.load false 1 (.tmp s))) false r
def q (d c : Nat) (is : Bool) (tmp : List Nat) (body : PSteps) (y : Operand) (r : PSteps) : PSteps := .sc d c is tmp body y r
def F (s : Nat) (sh : FS) (r : PSteps) : PSteps := .fz s sh r
def R (s : PSteps) : PCode := .region false s
def D (s : PSteps) : PCode := .region true s
def S (a b : PCode) : PCode := .seq a b
def g : Nat → Nat → List Nat
  | _, 0 => []
  | a, n + 1 => a :: g (a + 1) n
end Go.Vm.G
/- A base of the machine: slices.Sort of whole numbers; and two bases in one. -/
namespace Go.Vm
open Go.Am
def srt (zs : List Int) : List Int := zs.mergeSort fun x y => decide (x ≤ y)
theorem srt_len (zs : List Int) : (srt zs).length = zs.length := List.length_mergeSort _
def intsA : List Value → Option (List Int)
  | [] => some []
  | .int .i64 z :: r => (intsA r).map (z :: ·)
  | _ => none
def intsP : List PV → Option (List Int)
  | [] => some []
  | .int .i64 z :: r => (intsP r).map (z :: ·)
  | _ => none
theorem intsA_map (zs : List Int) : intsA (zs.map (Value.int .i64)) = some zs := by
  induction zs with
  | nil => rfl
  | cons z zs ih => simp only [List.map_cons, intsA]; rw [ih]; rfl
theorem intsA_eq : ∀ {l : List Value} {zs : List Int}, intsA l = some zs → l = zs.map (Value.int .i64)
  | [], _, h => by cases h; rfl
  | .int .i64 z :: r, _, h => by
    simp only [intsA, Option.map_eq_some_iff] at h
    obtain ⟨ys, h1, rfl⟩ := h
    rw [intsA_eq h1]
    rfl
theorem intsP_map (zs : List Int) : intsP (zs.map (PV.int .i64)) = some zs := by
  induction zs with
  | nil => rfl
  | cons z zs ih => simp only [List.map_cons, intsP]; rw [ih]; rfl
theorem intsP_eq : ∀ {l : List PV} {zs : List Int}, intsP l = some zs → l = zs.map (PV.int .i64)
  | [], _, h => by cases h; rfl
  | .int .i64 z :: r, _, h => by
    simp only [intsP, Option.map_eq_some_iff] at h
    obtain ⟨ys, h1, rfl⟩ := h
    rw [intsP_eq h1]
    rfl
theorem prl_ints {μ : Vm.Ren} {φ : Frz} : ∀ (zs : List Int), PRL μ φ (zs.map (PV.int .i64)) (zs.map (Value.int .i64))
  | [] => .nil
  | z :: zs => .cons (.int _ _) (prl_ints zs)
theorem prl_ints_eq {μ : Vm.Ren} {φ : Frz} : ∀ {zs : List Int} {l : List Value}, PRL μ φ (zs.map (PV.int .i64)) l → l = zs.map (Value.int .i64)
  | [], _, h => by cases h; rfl
  | z :: zs, _, h => by cases h with | cons h1 h2 => cases h1; rw [prl_ints_eq h2]; rfl
theorem vrl_ints {μ : Am.Ren} : ∀ (zs : List Int), VRL μ (zs.map (Value.int .i64)) (zs.map (Value.int .i64))
  | [] => .nil
  | z :: zs => .cons (.int _ _) (vrl_ints zs)
theorem vrl_ints_eq {μ : Am.Ren} : ∀ {zs : List Int} {l : List Value}, VRL μ (zs.map (Value.int .i64)) l → l = zs.map (Value.int .i64)
  | [], _, h => by cases h; rfl
  | z :: zs, _, h => by cases h with | cons h1 h2 => cases h1; rw [vrl_ints_eq h2]; rfl
def sortA (g : FuncId) : Am.Callee := fun f args h => bif Nat.beq f g then (match args with
  | [.slice a n _] => if n = 0 then some (undef, h) else (match a with
    | some ⟨b, off, none⟩ => (readN h b off n).bind fun l => (intsA l).bind fun zs => if n < 4611686018427387904 then (writeN h b off ((srt zs).map (Value.int .i64))).map fun h' => (undef, h') else none
    | _ => none)
  | _ => none) else none
def sortP (g : FuncId) : PCallee := fun f args h => bif Nat.beq f g then (match args with
  | [.nilS] => some (undefP, h)
  | [.emp] => some (undefP, h)
  | [.ref b lo n ver sz] => if n = 0 then some (undefP, h) else (match h[b]? with
    | some (.log rows sz2 t .rw) => if rows.length = ver ∧ sz = 1 ∧ sz2 = 1 ∧ lo = 0 ∧ n = ver ∧ 0 < n then (intsP rows.flatten).map fun zs => (undefP, h.set b (.log ((srt zs).map fun z => [.int .i64 z]) 1 t .rw)) else none
    | _ => none)
  | _ => none) else none
theorem flat_ones (zs : List Int) : (zs.map fun z => [PV.int .i64 z]).flatten = zs.map (PV.int .i64) := by
  induction zs with
  | nil => rfl
  | cons z zs ih => simp [ih]
theorem flat_one_len {rows : List (List PV)} (h : ∀ r ∈ rows, r.length = 1) : rows.flatten.length = rows.length := by
  rw [flat_len (size := 1) h, Nat.mul_one]
theorem sortP_sim (g : FuncId) : CallR (sortP g) (sortA g) := fun f args hp r hp' h μ φ ha args' s hargs => by
  unfold sortP at h
  cases hb : Nat.beq f g with
  | false => rw [hb] at h; cases h
  | true =>
    rw [hb] at h
    simp only [cond_true] at h
    split at h
    · cases h
      cases hargs with | cons h1 h2 =>
      cases h2; cases h1
      refine ⟨undef, ha, μ, φ, ?_, PR.undef, s, Ext.refl _ _ _ _⟩
      unfold sortA; rw [hb]; rfl
    · cases h
      cases hargs with | cons h1 h2 =>
      cases h2; cases h1 with | emp a =>
      refine ⟨undef, ha, μ, φ, ?_, PR.undef, s, Ext.refl _ _ _ _⟩
      unfold sortA; rw [hb]; rfl
    · rename_i b lo n vr sz
      by_cases hn0 : n = 0
      · rw [if_pos hn0] at h
        cases h
        subst hn0
        cases hargs with | cons h1 h2 =>
        cases h2
        cases h1 <;> exact ⟨undef, ha, μ, φ, by unfold sortA; rw [hb]; rfl, PR.undef, s, Ext.refl _ _ _ _⟩
      rw [if_neg hn0] at h
      split at h
      · rename_i rows sz2 t hblk
        split at h
        · rename_i hc
          obtain ⟨c1, rfl, rfl, rfl, c2, c3⟩ := hc
          rw [Option.map_eq_some_iff] at h
          obtain ⟨zs, hz, h⟩ := h
          cases h
          cases hargs with | cons h1 h2 =>
          cases h2
          cases h1 with
          | ref0 => omega
          | @ref _ _ _ _ _ c l hm hn hc =>
            subst c2
            subst c1
            obtain ⟨vs, rw_, k1, k2, k3, k4, k5, k6, k7⟩ := log_at s hblk hm
            obtain rfl := k6 rfl
            have e0 := flat_one_len k4
            have e1 := intsP_eq hz
            have e2 : zs.length = rows.length := by rw [← e0, e1, List.length_map]
            rw [e1] at k3
            have e3 := prl_ints_eq k3
            rw [Nat.mul_one] at e3 k2
            have hlen : (srt zs).length = rows.length := by rw [srt_len, e2]
            have hb1 := log_same (μ := μ) (φ := φ) (l := l) (sz := 1) (t := t) (lo := 0) (src := (srt zs).map fun z => [PV.int .i64 z]) (src' := (srt zs).map (Value.int .i64)) (by omega) (by rw [e1]; exact k3) k4 k5 k7
              (by rw [flat_ones]; exact prl_ints _) (fun r hr => by rw [List.mem_map] at hr; obtain ⟨z, _, rfl⟩ := hr; rfl) (by rw [List.length_map, hlen]; omega)
            obtain ⟨b1, b2, b3⟩ := hb1
            have e4 : (rows.take 0 ++ ((srt zs).map fun z => [PV.int .i64 z]) ++ rows.drop (0 + ((srt zs).map fun z => [PV.int .i64 z]).length)) = (srt zs).map fun z => [PV.int .i64 z] := by
              rw [List.take_zero, List.nil_append, List.length_map, hlen, Nat.zero_add, List.drop_length, List.append_nil]
            rw [e4] at b1 b2
            have hone : ((srt zs).map (Value.int .i64)).all Am.oneC = true := by
              rw [List.all_eq_true]
              intro x hx
              rw [List.mem_map] at hx
              obtain ⟨z, _, rfl⟩ := hx
              rfl
            have hwr := writeN_ok (ha := ha) (l := (srt zs).map (Value.int .i64)) (o := 0 * 1) k1 b3 hone
            obtain ⟨q1, q2⟩ := s.write0 hblk trivial hm (by simp only [ver]; exact b2) b1
            refine ⟨undef, _, μ, φ, ?_, PR.undef, q1, q2⟩
            have hrd : readN ha l.blk 0 rows.length = some (zs.map (Value.int .i64)) := by
              unfold readN
              rw [k1]
              show (if _ then some _ else none) = _
              rw [if_pos (by omega), List.drop_zero, e3]
            have hm2 : mostLen < 4611686018427387904 := by decide
            unfold sortA
            rw [hb]
            simp only [cond_true]
            rw [if_neg (by omega)]
            simp only [Nat.zero_mul] at hwr ⊢
            rw [hrd, Option.bind_some, intsA_map, Option.bind_some, if_pos (by omega), hwr]
            rfl
        · cases h
      · cases h
    · cases h
theorem wide_of_list {P : Program} {L : List FuncId} {k n : Nat} {g : FuncId} {args : Array Value} {w : World} {R : Ending → World → Prop} {F : Fence} (hF : WideF F)
    (H : ∀ D, CallsIn (Fence.list L (some D)) k P g args w R) (hr : ∀ e w', R e w' → ∃ v, e = .returned v) : CallsIn F n P g args w R := by
  refine ⟨hF.1 g, fun cs _ => ?_⟩
  obtain ⟨e, w', fr, r, s, x⟩ := (H (cs.length + 1 + k)).2 cs (fun d hd => by cases hd; exact Nat.le_refl _)
  obtain ⟨v, rfl⟩ := hr e w' r
  exact ⟨_, w', fr, r, StepsIn.mono (fun m h g hg => let ⟨a, b, c, d⟩ := h g hg; ⟨fun _ => a rfl, .inl (hF.1 _), fun f _ => hF.1 f, fun d' hd' => by rw [hF.2] at hd'; cases hd'⟩) s, x⟩
theorem sim_more {P : Program} {μ : Am.Ren} {h : AHeap} {w1 w2 : World} (s : Sim P μ h w1) (hs : w1.heap.size ≤ w2.heap.size) (hh : ∀ k, k < w1.heap.size → w2.heap[k]? = w1.heap[k]?) : Sim P μ h w2 :=
  ⟨s.dom, fun b l blk e hb hn => by
    obtain ⟨o, ho, hbr⟩ := s.rel b l blk e hb hn
    exact ⟨o, by rw [hh _ (s.lt b l e)]; exact ho, hbr⟩, s.inj, fun b l e => Nat.lt_of_lt_of_le (s.lt b l e) hs⟩
theorem ext_more {P : Program} {μ μ1 : Am.Ren} {h h1 : AHeap} {w w1 w2 : World} (s : Sim P μ h w) (x : Am.Ext μ h w μ1 h1 w1) (hs : w1.heap.size ≤ w2.heap.size) (hh : ∀ k, k < w1.heap.size → w2.heap[k]? = w1.heap[k]?) (ho : Out w1 w2) : Am.Ext μ h w μ1 h1 w2 :=
  ⟨⟨x.le, x.old, Nat.le_trans x.size hs, fun c hc hn => (hh c (Nat.lt_of_lt_of_le hc x.size)).trans (x.frame c hc hn), fun b l e hr => (hh _ (Nat.lt_of_lt_of_le (s.lt b l e) x.size)).trans (x.ro b l e hr), x.roStay, x.new, x.dead, x.out.trans ho⟩, x.tot⟩
theorem putCells_eq (cs : Array Value) (off : Nat) (zs : List Int) (h : off + zs.length ≤ cs.size) : Sort.putCells (Value.int .i64) off zs.toArray cs = (cs.toList.take off ++ zs.map (Value.int .i64) ++ cs.toList.drop (off + (zs.map (Value.int .i64)).length)).toArray := by
  apply Array.ext'
  apply List.ext_getElem?
  intro j
  rw [Array.getElem?_toList]
  simp only [Sort.putCells, Array.getElem?_mapIdx, List.size_toArray, List.length_map]
  by_cases h1 : j < off
  · rw [List.append_assoc, List.getElem?_append_left (by simp; omega), List.getElem?_take_of_lt h1, Array.getElem?_toList]
    rw [Array.getElem?_eq_getElem (by omega)]
    simp [show ¬ off ≤ j by omega]
  · by_cases h2 : j < off + zs.length
    · rw [List.getElem?_append_left (by simp; omega), List.getElem?_append_right (by simp; omega)]
      rw [Array.getElem?_eq_getElem (by omega)]
      have h3 : min off cs.size = off := by omega
      have h4 : j - off < zs.length := by omega
      simp [show off ≤ j by omega, h2, h3, h4]
    · rw [List.getElem?_append_right (by simp; omega)]
      by_cases h5 : j < cs.size
      · rw [Array.getElem?_eq_getElem h5]
        have h3 : min off cs.size = off := by omega
        simp only [List.length_append, List.length_take, List.length_map, Array.length_toList, h3, List.getElem?_drop, Option.map_some, h2, and_false, if_false]
        rw [show off + zs.length + (j - (off + zs.length)) = j by omega, Array.getElem?_toList, Array.getElem?_eq_getElem h5]
      · rw [Array.getElem?_eq_none (by omega), List.getElem?_eq_none (by simp; omega)]
        rfl
theorem sortA_ok {P : Program} {g : FuncId} {L : List FuncId} (he : ∀ (xs : Array Value) (w : World), (callFunc g xs).run P w = .ok (.enter g xs) w)
    (hc : ∀ (D blk off cap : Nat) (zs : List Int) (w : World), Sort.Holds (Value.int .i64) w blk off zs.toArray → blk < w.heap.size → zs.length < 4611686018427387904 →
      CallsIn (Fence.list L (some D)) 66 P g #[.slice (some ⟨blk, off, none⟩) zs.length cap] w fun e w' => e = .returned (.tuple #[]) ∧ ∃ n os, w' = Sort.grow (Sort.putRow (Value.int .i64) (Sort.ahead w n) blk off (zs.mergeSort fun x y => decide (x ≤ y)).toArray) os)
    (h0 : ∀ (D : Nat) (p : Option Addr) (cap : Nat) (w : World), CallsIn (Fence.list L (some D)) 2 P g #[.slice p 0 cap] w fun e w' => e = .returned (.tuple #[]) ∧ w' = w)
    (hy : Nat.beq yieldId g = false) : CallOk P (sortA g) := by
  refine ⟨fun f hf args h r h1 hk => ?_, fun b args h r h1 hk => ?_⟩
  · unfold sortA at hk
    cases hb : Nat.beq f g with
    | false => rw [hb] at hk; cases hk
    | true =>
      have := Nat.eq_of_beq_eq_true hb
      subst this
      rw [hb] at hk
      simp only [cond_true] at hk
      refine ⟨he, fun μ w args' s hargs F n hF => ?_⟩
      split at hk
      · rename_i a m c
        by_cases hm : m = 0
        · subst hm
          rw [if_pos rfl] at hk
          cases hk
          cases hargs with
          | cons g1 g2 =>
            cases g2
            have fin : ∀ (p : Option Addr) (cap : Nat), CallsIn F n P f #[.slice p 0 cap] w fun e w' => ∃ v μ1, e = .returned v ∧ VR μ1 undef v ∧ Sim P μ1 h w' ∧ Am.Ext μ h w μ1 h w' := fun p cap => by
              refine CallsIn.mono (wide_of_list hF (fun D => h0 D p cap w) (fun e w' q => ⟨_, q.1⟩)) fun e w' q => ?_
              obtain ⟨rfl, rfl⟩ := q
              exact ⟨_, μ, rfl, VR.undef, s, Am.Ext.refl μ _ _ s.dom⟩
            cases g1 <;> exact fin _ _
        · rw [if_neg hm] at hk
          split at hk
          · rename_i b off
            rw [Option.bind_eq_some_iff] at hk
            obtain ⟨l, hrd, hk⟩ := hk
            rw [Option.bind_eq_some_iff] at hk
            obtain ⟨zs, hz, hk⟩ := hk
            split at hk
            · rename_i hlt
              rw [Option.map_eq_some_iff] at hk
              obtain ⟨h', hw, hk⟩ := hk
              cases hk
              cases intsA_eq hz
              cases hargs with
              | cons g1 g2 =>
                cases g2
                have key : ∀ (l : Am.Loc) (cap : Nat), μ b = some l → CallsIn F n P f #[.slice (some ⟨l.blk, off, none⟩) m cap] w fun e w' => ∃ v μ1, e = .returned v ∧ VR μ1 undef v ∧ Sim P μ1 h1 w' ∧ Am.Ext μ h w μ1 h1 w' := fun l cap e => by
                  obtain ⟨c, K⟩ := l
                  have hlen : zs.length = m := by have := (readN_sim s e hrd).1; simpa using this
                  obtain ⟨w1, hrun, s1, x1⟩ := writeN_sound (P := P) s e (vrl_ints (srt zs)) hw
                  unfold readN at hrd
                  split at hrd
                  · rename_i vs t rw_ hblk
                    unfold writeN at hw
                    rw [hblk] at hw
                    cases rw_ with
                    | false => cases hw
                    | true =>
                      simp only at hw
                      split at hw
                      · rename_i hfit
                        split at hrd
                        · rename_i hle
                          obtain ⟨o, ho, cs, fr, rfl, hl, hvs, hfr, hK⟩ := s.rel b _ _ e hblk (by simp)
                          replace ho : w.heap[c]? = some (.cells cs t fr) := ho
                          obtain rfl := hfr rfl
                          have hsl : (srt zs).length = m := by rw [srt_len, hlen]
                          have hrun2 := run_storeCells_at (P := P) c off t ((srt zs).map (Value.int .i64)) 0 cs w ho (by rw [List.length_map, hsl]; omega) ((vrl_ints (μ := μ) (srt zs)).oneCell hfit.2)
                          simp only [Nat.add_zero] at hrun2
                          rw [hrun] at hrun2
                          cases hrun2
                          replace hrd := Option.some.inj hrd
                          have hvl : ((vs.drop off).take m) = zs.map (Value.int .i64) := hrd
                          have hcs : ((cs.toList.take vs.length).drop off).take m = zs.map (Value.int .i64) := by
                            have q := (hvs.drop off).take m
                            rw [hvl] at q
                            exact vrl_ints_eq q
                          have hcells : ∀ j, j < zs.length → cs[off + j]? = some (.int .i64 (zs.getD j 0)) := fun j hj => by
                            have q0 : (((cs.toList.take vs.length).drop off).take m)[j]? = some (.int .i64 (zs.getD j 0)) := by
                              rw [hcs]
                              simp [List.getD, hj]
                            rw [List.getElem?_take_of_lt (by omega), List.getElem?_drop, List.getElem?_take_of_lt (by omega), Array.getElem?_toList] at q0
                            exact q0
                          have hH : Sort.Holds (Value.int .i64) w c off zs.toArray := fun j hj => by
                            have hj' : j < zs.length := by simpa using hj
                            refine ⟨?_, by simp [World.frozen?, ho]⟩
                            simp only [World.cell?, ho, Option.isSome_none, Bool.false_eq_true, if_false]
                            rw [hcells j hj']
                            simp [List.getD, hj']
                          show CallsIn F n P f #[.slice (some ⟨c, off, none⟩) m cap] w _
                          rw [← hlen]
                          refine CallsIn.mono (wide_of_list hF (fun D => hc D c off cap zs w hH (s.lt b _ e) (by omega)) (fun e w' q => ⟨_, q.1⟩)) fun e w' q => ?_
                          obtain ⟨rfl, k, os, rfl⟩ := q
                          have hsz : (w.setRow c (cs.toList.take off ++ (srt zs).map (Value.int .i64) ++ cs.toList.drop (off + ((srt zs).map (Value.int .i64)).length)).toArray).heap.size = w.heap.size := setRow_size _ _ _
                          have hmore : ∀ i, i < w.heap.size → (Sort.grow (Sort.putRow (Value.int .i64) (Sort.ahead w k) c off (zs.mergeSort fun x y => decide (x ≤ y)).toArray) os).heap[i]? =
                              (w.setRow c (cs.toList.take off ++ (srt zs).map (Value.int .i64) ++ cs.toList.drop (off + ((srt zs).map (Value.int .i64)).length)).toArray).heap[i]? := fun i hi => by
                            rw [Sort.heap_grow_old _ _ (by simpa [Sort.putRow, Sort.mapBlock, Sort.ahead] using hi)]
                            by_cases hic : c = i
                            · subst hic
                              rw [setRow_heap_self ho, ← putCells_eq cs off (srt zs) (by omega)]
                              simp [Sort.putRow, Sort.mapBlock, Sort.ahead, Array.getElem?_modify, ho, Sort.onCells, srt]
                            · rw [setRow_heap_ne hic]
                              simp [Sort.putRow, Sort.mapBlock, Sort.ahead, Array.getElem?_modify, hic]
                          refine ⟨_, μ, rfl, VR.undef, sim_more s1 ?_ ?_, ext_more s x1 ?_ ?_ ⟨rfl, rfl, rfl⟩⟩
                          · rw [hsz]; simp [Sort.grow, Sort.putRow, Sort.mapBlock, Sort.ahead]
                          · rw [hsz]; exact hmore
                          · rw [hsz]; simp [Sort.grow, Sort.putRow, Sort.mapBlock, Sort.ahead]
                          · rw [hsz]; exact hmore
                        · cases hrd
                      · cases hw
                  · cases hrd
                cases g1 with
                | sl e _ => exact key _ _ e
                | sl0 => exact absurd rfl hm
                | sl00 => exact absurd rfl hm
            · cases hk
          · cases hk
      · cases hk
  · unfold sortA at hk
    rw [hy] at hk
    cases hk
theorem sim_run {Γ : PCallee} {Γa : Am.Callee} {T : ATable} (hT : ∀ f args h r, Γ f args h = some r → Nat.beq f yieldId = false ∧ T.get f = none) (h1 : CallR Γ Γa) : CallR Γ (run Γa T) := fun f args hp r hp' h μ φ ha args' s hargs => by
  obtain ⟨r', ha', μ', φ', k1, k2⟩ := h1 f args hp r hp' h μ φ ha args' s hargs
  obtain ⟨q1, q2⟩ := hT _ _ _ _ h
  exact ⟨r', ha', μ', φ', run_base q1 q2 k1, k2⟩
theorem sortP_at {g : FuncId} {f : FuncId} {args : List PV} {h : PHeap} {r : PV × PHeap} (hr : sortP g f args h = some r) : f = g := by
  unfold sortP at hr
  cases hb : Nat.beq f g with
  | false => rw [hb] at hr; cases hr
  | true => exact Nat.eq_of_beq_eq_true hb
end Go.Vm


set_option linter.unusedVariables false
set_option maxRecDepth 100000
namespace Go.Vm.X
open Go.Proofs Go.Am Go.Vm
abbrev Kt := List PV → PHeap → Pt
def Z256 : List PV := [.int .i64 0, .int .i64 0, .int .i64 0, .int .i64 0, .int .i64 0, .int .i64 0, .int .i64 0, .int .i64 0, .int .i64 0, .int .i64 0, .int .i64 0, .int .i64 0, .int .i64 0, .int .i64 0, .int .i64 0, .int .i64 0, .int .i64 0, .int .i64 0, .int .i64 0, .int .i64 0, .int .i64 0, .int .i64 0, .int .i64 0, .int .i64 0, .int .i64 0, .int .i64 0, .int .i64 0, .int .i64 0, .int .i64 0, .int .i64 0, .int .i64 0, .int .i64 0, .int .i64 0, .int .i64 0, .int .i64 0, .int .i64 0, .int .i64 0, .int .i64 0, .int .i64 0, .int .i64 0, .int .i64 0, .int .i64 0, .int .i64 0, .int .i64 0, .int .i64 0, .int .i64 0, .int .i64 0, .int .i64 0, .int .i64 0, .int .i64 0, .int .i64 0, .int .i64 0, .int .i64 0, .int .i64 0, .int .i64 0, .int .i64 0, .int .i64 0, .int .i64 0, .int .i64 0, .int .i64 0, .int .i64 0, .int .i64 0, .int .i64 0, .int .i64 0, .int .i64 0, .int .i64 0, .int .i64 0, .int .i64 0, .int .i64 0, .int .i64 0, .int .i64 0, .int .i64 0, .int .i64 0, .int .i64 0, .int .i64 0, .int .i64 0, .int .i64 0, .int .i64 0, .int .i64 0, .int .i64 0, .int .i64 0, .int .i64 0, .int .i64 0, .int .i64 0, .int .i64 0, .int .i64 0, .int .i64 0, .int .i64 0, .int .i64 0, .int .i64 0, .int .i64 0, .int .i64 0, .int .i64 0, .int .i64 0, .int .i64 0, .int .i64 0, .int .i64 0, .int .i64 0, .int .i64 0, .int .i64 0, .int .i64 0, .int .i64 0, .int .i64 0, .int .i64 0, .int .i64 0, .int .i64 0, .int .i64 0, .int .i64 0, .int .i64 0, .int .i64 0, .int .i64 0, .int .i64 0, .int .i64 0, .int .i64 0, .int .i64 0, .int .i64 0, .int .i64 0, .int .i64 0, .int .i64 0, .int .i64 0, .int .i64 0, .int .i64 0, .int .i64 0, .int .i64 0, .int .i64 0, .int .i64 0, .int .i64 0, .int .i64 0, .int .i64 0, .int .i64 0, .int .i64 0, .int .i64 0, .int .i64 0, .int .i64 0, .int .i64 0, .int .i64 0, .int .i64 0, .int .i64 0, .int .i64 0, .int .i64 0, .int .i64 0, .int .i64 0, .int .i64 0, .int .i64 0, .int .i64 0, .int .i64 0, .int .i64 0, .int .i64 0, .int .i64 0, .int .i64 0, .int .i64 0, .int .i64 0, .int .i64 0, .int .i64 0, .int .i64 0, .int .i64 0, .int .i64 0, .int .i64 0, .int .i64 0, .int .i64 0, .int .i64 0, .int .i64 0, .int .i64 0, .int .i64 0, .int .i64 0, .int .i64 0, .int .i64 0, .int .i64 0, .int .i64 0, .int .i64 0, .int .i64 0, .int .i64 0, .int .i64 0, .int .i64 0, .int .i64 0, .int .i64 0, .int .i64 0, .int .i64 0, .int .i64 0, .int .i64 0, .int .i64 0, .int .i64 0, .int .i64 0, .int .i64 0, .int .i64 0, .int .i64 0, .int .i64 0, .int .i64 0, .int .i64 0, .int .i64 0, .int .i64 0, .int .i64 0, .int .i64 0, .int .i64 0, .int .i64 0, .int .i64 0, .int .i64 0, .int .i64 0, .int .i64 0, .int .i64 0, .int .i64 0, .int .i64 0, .int .i64 0, .int .i64 0, .int .i64 0, .int .i64 0, .int .i64 0, .int .i64 0, .int .i64 0, .int .i64 0, .int .i64 0, .int .i64 0, .int .i64 0, .int .i64 0, .int .i64 0, .int .i64 0, .int .i64 0, .int .i64 0, .int .i64 0, .int .i64 0, .int .i64 0, .int .i64 0, .int .i64 0, .int .i64 0, .int .i64 0, .int .i64 0, .int .i64 0, .int .i64 0, .int .i64 0, .int .i64 0, .int .i64 0, .int .i64 0, .int .i64 0, .int .i64 0, .int .i64 0, .int .i64 0, .int .i64 0, .int .i64 0, .int .i64 0, .int .i64 0, .int .i64 0, .int .i64 0, .int .i64 0, .int .i64 0, .int .i64 0, .int .i64 0, .int .i64 0, .int .i64 0, .int .i64 0, .int .i64 0, .int .i64 0, .int .i64 0, .int .i64 0, .int .i64 0, .int .i64 0, .int .i64 0]
def Z256b : List PV := [.bool false, .bool false, .bool false, .bool false, .bool false, .bool false, .bool false, .bool false, .bool false, .bool false, .bool false, .bool false, .bool false, .bool false, .bool false, .bool false, .bool false, .bool false, .bool false, .bool false, .bool false, .bool false, .bool false, .bool false, .bool false, .bool false, .bool false, .bool false, .bool false, .bool false, .bool false, .bool false, .bool false, .bool false, .bool false, .bool false, .bool false, .bool false, .bool false, .bool false, .bool false, .bool false, .bool false, .bool false, .bool false, .bool false, .bool false, .bool false, .bool false, .bool false, .bool false, .bool false, .bool false, .bool false, .bool false, .bool false, .bool false, .bool false, .bool false, .bool false, .bool false, .bool false, .bool false, .bool false, .bool false, .bool false, .bool false, .bool false, .bool false, .bool false, .bool false, .bool false, .bool false, .bool false, .bool false, .bool false, .bool false, .bool false, .bool false, .bool false, .bool false, .bool false, .bool false, .bool false, .bool false, .bool false, .bool false, .bool false, .bool false, .bool false, .bool false, .bool false, .bool false, .bool false, .bool false, .bool false, .bool false, .bool false, .bool false, .bool false, .bool false, .bool false, .bool false, .bool false, .bool false, .bool false, .bool false, .bool false, .bool false, .bool false, .bool false, .bool false, .bool false, .bool false, .bool false, .bool false, .bool false, .bool false, .bool false, .bool false, .bool false, .bool false, .bool false, .bool false, .bool false, .bool false, .bool false, .bool false, .bool false, .bool false, .bool false, .bool false, .bool false, .bool false, .bool false, .bool false, .bool false, .bool false, .bool false, .bool false, .bool false, .bool false, .bool false, .bool false, .bool false, .bool false, .bool false, .bool false, .bool false, .bool false, .bool false, .bool false, .bool false, .bool false, .bool false, .bool false, .bool false, .bool false, .bool false, .bool false, .bool false, .bool false, .bool false, .bool false, .bool false, .bool false, .bool false, .bool false, .bool false, .bool false, .bool false, .bool false, .bool false, .bool false, .bool false, .bool false, .bool false, .bool false, .bool false, .bool false, .bool false, .bool false, .bool false, .bool false, .bool false, .bool false, .bool false, .bool false, .bool false, .bool false, .bool false, .bool false, .bool false, .bool false, .bool false, .bool false, .bool false, .bool false, .bool false, .bool false, .bool false, .bool false, .bool false, .bool false, .bool false, .bool false, .bool false, .bool false, .bool false, .bool false, .bool false, .bool false, .bool false, .bool false, .bool false, .bool false, .bool false, .bool false, .bool false, .bool false, .bool false, .bool false, .bool false, .bool false, .bool false, .bool false, .bool false, .bool false, .bool false, .bool false, .bool false, .bool false, .bool false, .bool false, .bool false, .bool false, .bool false, .bool false, .bool false, .bool false, .bool false, .bool false, .bool false, .bool false, .bool false, .bool false, .bool false, .bool false, .bool false, .bool false, .bool false, .bool false, .bool false, .bool false, .bool false, .bool false]
def V256 : List Value := [(.int .i64 0), (.int .i64 0), (.int .i64 0), (.int .i64 0), (.int .i64 0), (.int .i64 0), (.int .i64 0), (.int .i64 0), (.int .i64 0), (.int .i64 0), (.int .i64 0), (.int .i64 0), (.int .i64 0), (.int .i64 0), (.int .i64 0), (.int .i64 0), (.int .i64 0), (.int .i64 0), (.int .i64 0), (.int .i64 0), (.int .i64 0), (.int .i64 0), (.int .i64 0), (.int .i64 0), (.int .i64 0), (.int .i64 0), (.int .i64 0), (.int .i64 0), (.int .i64 0), (.int .i64 0), (.int .i64 0), (.int .i64 0), (.int .i64 0), (.int .i64 0), (.int .i64 0), (.int .i64 0), (.int .i64 0), (.int .i64 0), (.int .i64 0), (.int .i64 0), (.int .i64 0), (.int .i64 0), (.int .i64 0), (.int .i64 0), (.int .i64 0), (.int .i64 0), (.int .i64 0), (.int .i64 0), (.int .i64 0), (.int .i64 0), (.int .i64 0), (.int .i64 0), (.int .i64 0), (.int .i64 0), (.int .i64 0), (.int .i64 0), (.int .i64 0), (.int .i64 0), (.int .i64 0), (.int .i64 0), (.int .i64 0), (.int .i64 0), (.int .i64 0), (.int .i64 0), (.int .i64 0), (.int .i64 0), (.int .i64 0), (.int .i64 0), (.int .i64 0), (.int .i64 0), (.int .i64 0), (.int .i64 0), (.int .i64 0), (.int .i64 0), (.int .i64 0), (.int .i64 0), (.int .i64 0), (.int .i64 0), (.int .i64 0), (.int .i64 0), (.int .i64 0), (.int .i64 0), (.int .i64 0), (.int .i64 0), (.int .i64 0), (.int .i64 0), (.int .i64 0), (.int .i64 0), (.int .i64 0), (.int .i64 0), (.int .i64 0), (.int .i64 0), (.int .i64 0), (.int .i64 0), (.int .i64 0), (.int .i64 0), (.int .i64 0), (.int .i64 0), (.int .i64 0), (.int .i64 0), (.int .i64 0), (.int .i64 0), (.int .i64 0), (.int .i64 0), (.int .i64 0), (.int .i64 0), (.int .i64 0), (.int .i64 0), (.int .i64 0), (.int .i64 0), (.int .i64 0), (.int .i64 0), (.int .i64 0), (.int .i64 0), (.int .i64 0), (.int .i64 0), (.int .i64 0), (.int .i64 0), (.int .i64 0), (.int .i64 0), (.int .i64 0), (.int .i64 0), (.int .i64 0), (.int .i64 0), (.int .i64 0), (.int .i64 0), (.int .i64 0), (.int .i64 0), (.int .i64 0), (.int .i64 0), (.int .i64 0), (.int .i64 0), (.int .i64 0), (.int .i64 0), (.int .i64 0), (.int .i64 0), (.int .i64 0), (.int .i64 0), (.int .i64 0), (.int .i64 0), (.int .i64 0), (.int .i64 0), (.int .i64 0), (.int .i64 0), (.int .i64 0), (.int .i64 0), (.int .i64 0), (.int .i64 0), (.int .i64 0), (.int .i64 0), (.int .i64 0), (.int .i64 0), (.int .i64 0), (.int .i64 0), (.int .i64 0), (.int .i64 0), (.int .i64 0), (.int .i64 0), (.int .i64 0), (.int .i64 0), (.int .i64 0), (.int .i64 0), (.int .i64 0), (.int .i64 0), (.int .i64 0), (.int .i64 0), (.int .i64 0), (.int .i64 0), (.int .i64 0), (.int .i64 0), (.int .i64 0), (.int .i64 0), (.int .i64 0), (.int .i64 0), (.int .i64 0), (.int .i64 0), (.int .i64 0), (.int .i64 0), (.int .i64 0), (.int .i64 0), (.int .i64 0), (.int .i64 0), (.int .i64 0), (.int .i64 0), (.int .i64 0), (.int .i64 0), (.int .i64 0), (.int .i64 0), (.int .i64 0), (.int .i64 0), (.int .i64 0), (.int .i64 0), (.int .i64 0), (.int .i64 0), (.int .i64 0), (.int .i64 0), (.int .i64 0), (.int .i64 0), (.int .i64 0), (.int .i64 0), (.int .i64 0), (.int .i64 0), (.int .i64 0), (.int .i64 0), (.int .i64 0), (.int .i64 0), (.int .i64 0), (.int .i64 0), (.int .i64 0), (.int .i64 0), (.int .i64 0), (.int .i64 0), (.int .i64 0), (.int .i64 0), (.int .i64 0), (.int .i64 0), (.int .i64 0), (.int .i64 0), (.int .i64 0), (.int .i64 0), (.int .i64 0), (.int .i64 0), (.int .i64 0), (.int .i64 0), (.int .i64 0), (.int .i64 0), (.int .i64 0), (.int .i64 0), (.int .i64 0), (.int .i64 0), (.int .i64 0), (.int .i64 0), (.int .i64 0), (.int .i64 0), (.int .i64 0), (.int .i64 0), (.int .i64 0), (.int .i64 0), (.int .i64 0), (.int .i64 0), (.int .i64 0), (.int .i64 0), (.int .i64 0), (.int .i64 0), (.int .i64 0), (.int .i64 0), (.int .i64 0), (.int .i64 0), (.int .i64 0), (.int .i64 0), (.int .i64 0), (.int .i64 0), (.int .i64 0), (.int .i64 0), (.int .i64 0), (.int .i64 0)]
def V256b : List Value := [(.bool false), (.bool false), (.bool false), (.bool false), (.bool false), (.bool false), (.bool false), (.bool false), (.bool false), (.bool false), (.bool false), (.bool false), (.bool false), (.bool false), (.bool false), (.bool false), (.bool false), (.bool false), (.bool false), (.bool false), (.bool false), (.bool false), (.bool false), (.bool false), (.bool false), (.bool false), (.bool false), (.bool false), (.bool false), (.bool false), (.bool false), (.bool false), (.bool false), (.bool false), (.bool false), (.bool false), (.bool false), (.bool false), (.bool false), (.bool false), (.bool false), (.bool false), (.bool false), (.bool false), (.bool false), (.bool false), (.bool false), (.bool false), (.bool false), (.bool false), (.bool false), (.bool false), (.bool false), (.bool false), (.bool false), (.bool false), (.bool false), (.bool false), (.bool false), (.bool false), (.bool false), (.bool false), (.bool false), (.bool false), (.bool false), (.bool false), (.bool false), (.bool false), (.bool false), (.bool false), (.bool false), (.bool false), (.bool false), (.bool false), (.bool false), (.bool false), (.bool false), (.bool false), (.bool false), (.bool false), (.bool false), (.bool false), (.bool false), (.bool false), (.bool false), (.bool false), (.bool false), (.bool false), (.bool false), (.bool false), (.bool false), (.bool false), (.bool false), (.bool false), (.bool false), (.bool false), (.bool false), (.bool false), (.bool false), (.bool false), (.bool false), (.bool false), (.bool false), (.bool false), (.bool false), (.bool false), (.bool false), (.bool false), (.bool false), (.bool false), (.bool false), (.bool false), (.bool false), (.bool false), (.bool false), (.bool false), (.bool false), (.bool false), (.bool false), (.bool false), (.bool false), (.bool false), (.bool false), (.bool false), (.bool false), (.bool false), (.bool false), (.bool false), (.bool false), (.bool false), (.bool false), (.bool false), (.bool false), (.bool false), (.bool false), (.bool false), (.bool false), (.bool false), (.bool false), (.bool false), (.bool false), (.bool false), (.bool false), (.bool false), (.bool false), (.bool false), (.bool false), (.bool false), (.bool false), (.bool false), (.bool false), (.bool false), (.bool false), (.bool false), (.bool false), (.bool false), (.bool false), (.bool false), (.bool false), (.bool false), (.bool false), (.bool false), (.bool false), (.bool false), (.bool false), (.bool false), (.bool false), (.bool false), (.bool false), (.bool false), (.bool false), (.bool false), (.bool false), (.bool false), (.bool false), (.bool false), (.bool false), (.bool false), (.bool false), (.bool false), (.bool false), (.bool false), (.bool false), (.bool false), (.bool false), (.bool false), (.bool false), (.bool false), (.bool false), (.bool false), (.bool false), (.bool false), (.bool false), (.bool false), (.bool false), (.bool false), (.bool false), (.bool false), (.bool false), (.bool false), (.bool false), (.bool false), (.bool false), (.bool false), (.bool false), (.bool false), (.bool false), (.bool false), (.bool false), (.bool false), (.bool false), (.bool false), (.bool false), (.bool false), (.bool false), (.bool false), (.bool false), (.bool false), (.bool false), (.bool false), (.bool false), (.bool false), (.bool false), (.bool false), (.bool false), (.bool false), (.bool false), (.bool false), (.bool false), (.bool false), (.bool false), (.bool false), (.bool false), (.bool false), (.bool false), (.bool false), (.bool false), (.bool false), (.bool false), (.bool false), (.bool false), (.bool false), (.bool false), (.bool false), (.bool false), (.bool false), (.bool false), (.bool false), (.bool false), (.bool false), (.bool false), (.bool false), (.bool false), (.bool false), (.bool false), (.bool false)]
open Go.Vm.G in
def A7 : PFun := ⟨4, 100, (S (R <| o 8 (.move (.const (.bool false))) <| z) <|
  (S (S (R <| m 21 0 <| o 22 (.len false (t 21)) <| b 23 .gtr (t 22) (i 6000) <| z) <|
  (.cond (t 23) [] [8, 24]
  (S (R <| o 24 (.call 8 []) <| m 8 24 <| z) <|
  .ret)
  .skip)) <|
  (S (R <| m 26 0 <| o 27 (.call 20 [(t 26)]) <| m 25 27 <| o 28 (.extract (t 25) 0) <| o 29 (.extract (t 25) 1) <| m 9 28 <| m 10 29 <| z) <|
  (S (R <| m 31 0 <| o 32 (.call 21 [(t 31)]) <| m 30 32 <| o 33 (.extract (t 30) 0) <| o 34 (.extract (t 30) 1) <| m 11 33 <| m 12 34 <| z) <|
  (S (R <| m 36 0 <| m 37 1 <| o 38 (.call 13 [(t 36), (t 37)]) <| m 35 38 <| o 39 (.extract (t 35) 0) <| o 40 (.extract (t 35) 1) <| m 13 39 <| m 14 40 <| z) <|
  (S (R <| m 42 0 <| m 43 1 <| o 44 (.call 22 [(t 42), (t 43)]) <| m 41 44 <| o 45 (.extract (t 41) 0) <| o 46 (.extract (t 41) 1) <| m 15 45 <| m 16 46 <| z) <|
  (S (S (R <| m 47 10 <| m 48 12 <| b 49 .neq (t 47) (t 48) <| m 50 49 <| q 55 50 false (g 51 4) (m 51 9 <| m 52 11 <| o 53 (.call 15 [(t 51), (t 52)]) <| o 54 (.un .not (t 53)) <| z) (t 54) <|
  m 56 55 <| q 60 56 false [57, 58, 59] (m 57 14 <| m 58 16 <| b 59 .neq (t 57) (t 58) <| z) (t 59) <|
  m 61 60 <| q 67 61 false (g 62 5) (m 62 13 <| o 63 (.bytesToStr (t 62)) <| m 64 15 <| o 65 (.bytesToStr (t 64)) <| b 66 .neq (t 63) (t 65) <| z) (t 66) <|
  z) <|
  (.cond (t 67) [] [8]
  (S (R <| o 8 (.move (.const (.bool false))) <| z) <|
  .ret)
  .skip)) <|
  (S (R <| m 69 2 <| m 70 1 <| m 71 3 <| o 72 (.call 14 [(t 69), (t 70), (t 71)]) <| m 68 72 <| o 73 (.extract (t 68) 0) <| o 74 (.extract (t 68) 1) <| o 75 (.extract (t 68) 2) <| m 17 73 <| m 18 74 <| m 10 75 <| z) <|
  (S (R <| m 77 2 <| m 78 1 <| m 79 3 <| o 80 (.call 23 [(t 77), (t 78), (t 79)]) <| m 76 80 <| o 81 (.extract (t 76) 0) <| o 82 (.extract (t 76) 1) <| o 83 (.extract (t 76) 2) <| m 19 81 <| m 20 82 <| m 12 83 <| z) <|
  (S (R <| m 84 10 <| m 85 12 <| b 86 .eql (t 84) (t 85) <| m 87 86 <| q 91 87 true [88, 89, 90] (m 88 18 <| m 89 20 <| b 90 .eql (t 88) (t 89) <| z) (t 90) <|
  m 92 91 <| q 96 92 true [93, 94, 95] (m 93 17 <| m 94 19 <| o 95 (.call 15 [(t 93), (t 94)]) <| z) (t 95) <|
  m 97 96 <| q 99 97 true [98] (o 98 (.call 8 []) <| z) (t 98) <|
  m 8 99 <| z) <|
  .ret)))))))))), [.tmp 8], [.keep]⟩
theorem ok7 : ∃ fn c, FunOk Try.prog 7 fn c A7.erase := ⟨Try.f7, _, ⟨Try.func7, rfl, by kernel_rfl, by kernel_rfl, by kernel_rfl, of_decide_eq_true (by kernel_rfl), by kernel_rfl⟩⟩
noncomputable def s7 (Γ : PCallee) (n : Nat) (x0 : PV) (x1 : PV) (x2 : PV) (x3 : PV) (h : PHeap) : Pt := (lenP false x0).bind fun v0 => (binP .gtr v0 (.int .i64 6000 : PV)).bind fun v1 => KL (fun w3 h4 => (Γ 20 [x0] h4).bind fun p5 => (extractP p5.1 0).bind fun v6 => (extractP p5.1 1).bind fun v7 => (Γ 21 [x0] p5.2).bind fun p8 => (extractP p8.1 0).bind fun v9 => (extractP p8.1 1).bind fun v10 => (Γ 13 [x0, x1] p8.2).bind fun p11 => (extractP p11.1 0).bind fun v12 => (extractP p11.1 1).bind fun v13 => (Γ 22 [x0, x1] p11.2).bind fun p14 => (extractP p14.1 0).bind fun v15 => (extractP p14.1 1).bind fun v16 => (binP .neq v7 v10).bind fun v17 => K1 (fun v19 h20 => K1 (fun v22 h23 => K1 (fun v25 h26 => KL (fun w28 h29 => (Γ 14 [x2, x1, x3] h29).bind fun p30 => (extractP p30.1 0).bind fun v31 => (extractP p30.1 1).bind fun v32 => (extractP p30.1 2).bind fun v33 => (Γ 23 [x2, x1, x3] p30.2).bind fun p34 => (extractP p34.1 0).bind fun v35 => (extractP p34.1 1).bind fun v36 => (extractP p34.1 2).bind fun v37 => (binP .eql v33 v37).bind fun v38 => K1 (fun v40 h41 => K1 (fun v43 h44 => K1 (fun v46 h47 => finP [.keep] h h47 [v46]) fun j45 => scP v43 true ( (Γ 8 [] h44).bind fun p48 => j45 p48.1 p48.2) (j45 (.bool false) h44)) fun j42 => scP v40 true ( (Γ 15 [v31, v35] h41).bind fun p49 => j42 p49.1 p49.2) (j42 (.bool false) h41)) fun j39 => scP v38 true ( (binP .eql v32 v36).bind fun v50 => j39 v50 p34.2) (j39 (.bool false) p34.2)) fun j27 => ifP v25 ( finP [.keep] h h26 [(.bool false : PV)]) ( j27 [] h26)) fun j24 => scP v22 false ( (bytesToStrP v12 h23).bind fun v51 => (bytesToStrP v15 h23).bind fun v52 => (binP .neq v51 v52).bind fun v53 => j24 v53 h23) (j24 (.bool true) h23)) fun j21 => scP v19 false ( (binP .neq v13 v16).bind fun v54 => j21 v54 h20) (j21 (.bool true) h20)) fun j18 => scP v17 false ( (Γ 15 [v6, v9] p14.2).bind fun p55 => (unP .not p55.1).bind fun v56 => j18 v56 p55.2) (j18 (.bool true) p14.2)) fun j2 => ifP v1 ( (Γ 8 [] h).bind fun p57 => finP [.keep] h p57.2 [p57.1]) ( j2 [] h)
theorem s7_eq (Γ : PCallee) (n : Nat) (x0 : PV) (x1 : PV) (x2 : PV) (x3 : PV) (h : PHeap) : pfunK Γ n A7 [x0, x1, x2, x3] h = s7 Γ n x0 x1 x2 x3 h := by kernel_rfl
def A8 : PFun := ⟨0, 15, (.seq (.region false (.op (some 0) (.a (.move (.const (.bool false)))) false
  .nil))
  (.seq (.region false (.op (some 4) (.buildF 3 [(.int .i64 0)] 3 [(0, 1, (.const (.int .i64 1))), (1, 1, (.const (.int .i64 2))), (2, 1, (.const (.int .i64 3)))]) false
  (.op (some 5) (.a (.call 11 [(.tmp 4), (.const (.int .i64 8)), (.const (.int .i64 2))])) false
  (.op (some 3) (.a (.move (.tmp 5))) false
  (.op (some 6) (.a (.extract (.tmp 3) 0)) false
  (.op (some 7) (.a (.extract (.tmp 3) 1)) false
  (.op (some 1) (.a (.move (.tmp 6))) false
  (.op (some 2) (.a (.move (.tmp 7))) false
  .nil))))))))
  (.seq (.region false (.op (some 8) (.a (.move (.tmp 2))) false
  (.op (some 9) (.a (.bin .eql (.tmp 8) (.const (.int .i64 0)))) false
  (.op (some 10) (.a (.move (.tmp 9))) false
  (.sc 14 10 true [11, 12, 13]
  (.op (some 11) (.a (.move (.tmp 1))) false
  (.op (some 12) (.a (.bytesToStr (.tmp 11))) false
  (.op (some 13) (.a (.bin .eql (.tmp 12) (.const (.string ⟨#[2, 1]⟩)))) false
  .nil))) (.tmp 13)
  (.op (some 0) (.a (.move (.tmp 14))) false
  .nil))))))
  .ret))), [.tmp 0], [.keep]⟩
theorem ok8 : ∃ fn c, FunOk Try.prog 8 fn c A8.erase := ⟨Try.f8, _, ⟨Try.func8, rfl, by kernel_rfl, by kernel_rfl, by kernel_rfl, of_decide_eq_true (by kernel_rfl), by kernel_rfl⟩⟩
noncomputable def s8 (Γ : PCallee) (n : Nat) (h : PHeap) : Pt := (fillP (repP [.int .i64 0] 3) [(0, 1, (.int .i64 1 : PV)), (1, 1, (.int .i64 2 : PV)), (2, 1, (.int .i64 3 : PV))]).bind fun l0 => guardP (l0.all pure1) ( forkP (.frz 1 (chunk 1 3 l0)) (h) fun v1 h2 => (Γ 11 [v1, (.int .i64 8 : PV), (.int .i64 2 : PV)] h2).bind fun p3 => (extractP p3.1 0).bind fun v4 => (extractP p3.1 1).bind fun v5 => (binP .eql v5 (.int .i64 0 : PV)).bind fun v6 => K1 (fun v8 h9 => finP [.keep] h h9 [v8]) fun j7 => scP v6 true ( (bytesToStrP v4 p3.2).bind fun v10 => (binP .eql v10 (.str ⟨#[2, 1]⟩ : PV)).bind fun v11 => j7 v11 p3.2) (j7 (.bool false) p3.2))
theorem s8_eq (Γ : PCallee) (n : Nat) (h : PHeap) : pfunK Γ n A8 [] h = s8 Γ n h := by kernel_rfl
def L11_0a : PCode := (.region false (.op (some 12) (.a (.move (.tmp 47))) false
  .nil))
def L11_0b : PCode := (.block 1 [] [13, 14, 15, 16, 18, 48, 49, 50, 51, 52, 53, 54, 55, 56, 57, 58, 59, 60, 61, 62, 63, 64, 65, 66, 67, 68, 69, 70, 71, 72, 73, 74, 75, 76]
  (.seq (.region false (.op (some 48) (.a (.move (.tmp 12))) false
  (.op (some 49) (.a (.call 30 [(.tmp 48)])) false
  (.op (some 13) (.a (.move (.tmp 49))) false
  .nil))))
  (.seq (.region false (.op (some 50) (.a (.load false 1 (.tmp 11))) false
  (.op (some 51) (.a (.move (.tmp 13))) false
  (.op (some 52) (.a (.conv .u8 (.tmp 51))) false
  (.op (some 53) (.buildF 5 [(.int .u8 0)] 1 [(0, 1, (.tmp 52))]) false
  (.op (some 54) (.a (.append 5 1 (.tmp 50) (.tmp 53))) false
  (.op none (.a (.store 1 (.tmp 11) (.tmp 54))) false
  .nil)))))))
  (.seq (.region false (.op (some 14) (.a (.new 3 [(.int .i64 0)])) false
  (.op (some 15) (.a (.new 3 [(.int .i64 0)])) false
  (.op none (.a (.store 1 (.tmp 14) (.const (.int .i64 0)))) false
  (.op none (.a (.store 1 (.tmp 15) (.const (.int .i64 0)))) false
  .nil)))))
  (.seq (.region false (.op (some 55) (.a (.mkFunc 31 [] [(.tmp 14), (.tmp 15), (.tmp 11)])) false
  (.op (some 16) (.a (.move (.tmp 55))) false
  .nil)))
  (.seq (.seq (.region false (.op (some 56) (.a (.move (.tmp 12))) false
  (.op (some 57) (.a (.len false (.tmp 56))) false
  (.op (some 58) (.a (.move (.const (.int .i64 0)))) false
  .nil))))
  (.block 2 [] [18, 58, 59, 60, 61, 62, 63, 64, 65, 66, 67, 68, 69, 70]
  (.loop [58] [18, 59, 60, 61, 62, 63, 64, 65, 66, 67, 68, 69, 70]
  (.seq (.region false (.op (some 59) (.a (.bin .lss (.tmp 58) (.tmp 57))) false
  .nil))
  (.seq (.cond (.tmp 59) [] []
  .skip
  (.exit 2))
  (.seq (.block 3 [] [18, 60, 61, 62, 63, 64, 65, 66, 67, 68, 69]
  (.seq (.region false (.op (some 60) (.a (.indexAddr 1 (.tmp 56) (.tmp 58))) false
  (.op (some 61) (.a (.load false 1 (.tmp 60))) false
  (.op (some 18) (.a (.move (.tmp 61))) false
  .nil))))
  (.region false (.op (some 62) (.a (.move (.tmp 16))) false
  (.op (some 63) (.a (.move (.tmp 18))) false
  (.op (some 64) (.a (.move (.tmp 13))) false
  (.op (some 65) (.a (.bin .shl (.const (.int .i64 1)) (.tmp 64))) false
  (.op (some 66) (.a (.bin .sub (.tmp 65) (.const (.int .i64 1)))) false
  (.op (some 67) (.a (.bin .and (.tmp 63) (.tmp 66))) false
  (.op (some 68) (.a (.move (.tmp 13))) false
  (.op (some 69) (.a (.callV (.tmp 62) [(.tmp 67), (.tmp 68)])) false
  .nil)))))))))))
  (.region false (.op (some 70) (.a (.bin .add (.tmp 58) (.const (.int .i64 1)))) false
  (.op (some 58) (.a (.move (.tmp 70))) false
  .nil)))))))))
  (.seq (.region false (.op (some 71) (.a (.load false 1 (.tmp 15))) false
  (.op (some 72) (.a (.bin .gtr (.tmp 71) (.const (.int .i64 0)))) false
  .nil)))
  (.cond (.tmp 72) [] [73, 74, 75, 76]
  (.region false (.op (some 73) (.a (.move (.tmp 16))) false
  (.op (some 74) (.a (.load false 1 (.tmp 15))) false
  (.op (some 75) (.a (.bin .sub (.const (.int .i64 8)) (.tmp 74))) false
  (.op (some 76) (.a (.callV (.tmp 73) [(.const (.int .i64 0)), (.tmp 75)])) false
  .nil)))))
  .skip))))))))
def A11 : PFun := ⟨3, 78, (.seq (.region false (.op (some 6) (.a (.move (.const (.slice none 0 0)))) false
  (.op (some 7) (.a (.move (.const (.int .i64 0)))) false
  .nil)))
  (.seq (.region false (.op (some 20) (.a (.call 28 [])) false
  (.op (some 21) (.a (.move (.tmp 2))) false
  (.op (some 22) (.a (.lookup .int (.agg #[.nilFunc, .nilFunc]) true (.tmp 20) (.tmp 21))) false
  (.op (some 19) (.a (.move (.tmp 22))) false
  (.op (some 23) (.a (.extract (.tmp 19) 0)) false
  (.op (some 24) (.a (.extract (.tmp 19) 1)) false
  (.op (some 8) (.a (.new 45 [.nilFunc, .nilFunc])) false
  (.op none (.a (.store 2 (.tmp 8) (.tmp 23))) false
  (.op (some 9) (.a (.move (.tmp 24))) false
  .nil))))))))))
  (.seq (.seq (.region false (.op (some 25) (.a (.move (.tmp 1))) false
  (.op (some 26) (.a (.bin .neq (.tmp 25) (.const (.int .i64 8)))) false
  (.op (some 27) (.a (.move (.tmp 26))) false
  (.sc 30 27 true [28, 29]
  (.op (some 28) (.a (.move (.tmp 1))) false
  (.op (some 29) (.a (.bin .neq (.tmp 28) (.const (.int .i64 16)))) false
  .nil)) (.tmp 29)
  (.op (some 31) (.a (.move (.tmp 30))) false
  (.sc 34 31 false [32, 33]
  (.op (some 32) (.a (.move (.tmp 9))) false
  (.op (some 33) (.a (.un .not (.tmp 32))) false
  .nil)) (.tmp 33)
  .nil)))))))
  (.cond (.tmp 34) [6, 7] []
  (.seq (.region false (.op (some 6) (.a (.move (.const (.slice none 0 0)))) false
  (.op (some 7) (.a (.move (.const (.int .i64 1)))) false
  .nil)))
  .ret)
  .skip))
  (.seq (.seq (.region false (.op (some 35) (.a (.move (.tmp 0))) false
  (.op (some 36) (.a (.move (.tmp 1))) false
  (.op (some 37) (.a (.call 24 [(.tmp 35), (.tmp 36)])) false
  (.op (some 10) (.a (.move (.tmp 37))) false
  .nil)))))
  (.seq (.region false (.op (some 38) (.a (.move (.tmp 10))) false
  (.op (some 39) (.a (.bin .neq (.tmp 38) (.const (.int .i64 0)))) false
  .nil)))
  (.cond (.tmp 39) [6, 7] [40]
  (.seq (.region false (.op (some 40) (.a (.move (.tmp 10))) false
  (.op (some 6) (.a (.move (.const (.slice none 0 0)))) false
  (.op (some 7) (.a (.move (.tmp 40))) false
  .nil))))
  .ret)
  .skip)))
  (.seq (.region false (.op (some 11) (.growBox true 24 5 1) false
  .nil))
  (.seq (.seq (.region false (.op (some 41) (.a (.indexAddrArr 2 1 (.tmp 8) (.const (.int .i64 0)))) false
  (.op (some 42) (.a (.load false 1 (.tmp 41))) false
  (.op (some 43) (.a (.move (.tmp 0))) false
  (.op (some 44) (.a (.move (.tmp 1))) false
  (.op (some 45) (.a (.callV (.tmp 42) [(.tmp 43), (.tmp 44)])) false
  (.op (some 46) (.a (.call 29 [(.tmp 45), (.const (.int .i64 256))])) false
  .nil)))))))
  (.block 0 [] []
  (.rangeF (.tmp 46) [11] [47] L11_0a L11_0b)))
  (.seq (.region false (.op (some 77) (.a (.load false 1 (.tmp 11))) false
  (.op (some 6) (.a (.move (.tmp 77))) false
  (.op (some 7) (.a (.move (.const (.int .i64 0)))) false
  .nil))))
  .ret))))))), [.tmp 6, .tmp 7], [(.flat 1), .keep]⟩
theorem ok11 : ∃ fn c, FunOk Try.prog 11 fn c A11.erase := ⟨Try.f11, _, ⟨Try.func11, rfl, by kernel_rfl, by kernel_rfl, by kernel_rfl, of_decide_eq_true (by kernel_rfl), by kernel_rfl⟩⟩
noncomputable def s11 (Γ : PCallee) (n : Nat) (x0 : PV) (x1 : PV) (x2 : PV) (h : PHeap) : Pt := (Γ 28 [] h).bind fun p0 => (lookupP .int (.agg [.nilF, .nilF]) true p0.1 x2 p0.2).bind fun v1 => (extractP v1 0).bind fun v2 => (extractP v1 1).bind fun v3 => forkP (.ptr p0.2.length 0) (p0.2 ++ [.box [.nilF, .nilF] 45 .rw]) fun v4 h5 => (storeP 2 v4 v2 h5).bind fun h6 => (binP .neq x1 (.int .i64 8 : PV)).bind fun v7 => K1 (fun v9 h10 => K1 (fun v12 h13 => KL (fun w15 h16 => (Γ 24 [x0, x1] h16).bind fun p17 => (binP .neq p17.1 (.int .i64 0 : PV)).bind fun v18 => KL (fun w20 h21 => forkP (.ptr (h21.length + 1) 0) (h21 ++ [.log [] 1 5 .rw, .box [.ref h21.length 0 0 0 1] 24 .rw]) fun v22 h23 => (indexAddrArrP 2 1 v4 (.int .i64 0 : PV)).bind fun v24 => (loadP false 1 v24 h23).bind fun v25 => (callVP Γ v25 [x0, x1] h23).bind fun p26 => (Γ 29 [p26.1, (.int .i64 256 : PV)] p26.2).bind fun p27 => KL (fun w29 h30 => (loadP false 1 v22 h30).bind fun v31 => finP [(.flat 1), .keep] h h30 [v31, (.int .i64 0 : PV)]) fun j28 => (callFP Γ p27.1 [.yield p27.2.length] (p27.2 ++ [.loop [v22] [11] [47] L11_0a L11_0b .ready none .rw])).bind fun p32 => (pendOfP p27.2.length p32.2).bind fun o33 => forkP undefP (trim p27.2 [] (p32.2.set p27.2.length .dead)) fun v34 h35 =>
endF o33 ( j28 [] h35) (fun i36 => bif Nat.beq i36 0 then (j28 [] h35) else none) ( finP [(.flat 1), .keep] h h35 [(nthP w20 0), (nthP w20 1)])) fun j19 => ifP v18 ( finP [(.flat 1), .keep] h p17.2 [(.nilS : PV), p17.1]) ( j19 [(nthP w15 0), (nthP w15 1)] p17.2)) fun j14 => ifP v12 ( finP [(.flat 1), .keep] h h13 [(.nilS : PV), (.int .i64 1 : PV)]) ( j14 [(.nilS : PV), (.int .i64 0 : PV)] h13)) fun j11 => scP v9 false ( (unP .not v3).bind fun v37 => j11 v37 h10) (j11 (.bool true) h10)) fun j8 => scP v7 true ( (binP .neq x1 (.int .i64 16 : PV)).bind fun v38 => j8 v38 h6) (j8 (.bool false) h6)
theorem s11_eq (Γ : PCallee) (n : Nat) (x0 : PV) (x1 : PV) (x2 : PV) (h : PHeap) : pfunK Γ n A11 [x0, x1, x2] h = s11 Γ n x0 x1 x2 h := by kernel_rfl
noncomputable def r11_0_L0 (Γ : PCallee) (n : Nat) (w11 : PV) (a47 : PV) (p4 : PV × PHeap) (v12 : PV) (v14 : PV) (h17 : PHeap) (v18 : PV) (j19 : Kt) : (Kt) → Kt := fun c30 w31 h32 => (binP .lss (nthP w31 0) v18).bind fun v33 => KL (fun w35 h36 => KL (fun w38 h39 => (binP .add (nthP w31 0) (.int .i64 1 : PV)).bind fun v40 => c30 [v40] (trim h17 [v40] h39)) fun j37 => (indexAddrP 1 a47 (nthP w31 0)).bind fun v41 => (loadP false 1 v41 h36).bind fun v42 => (binP .shl (.int .i64 1 : PV) p4.1).bind fun v43 => (binP .sub v43 (.int .i64 1 : PV)).bind fun v44 => (binP .and v42 v44).bind fun v45 => (callVP Γ (PV.func 31 [] [v12, v14, w11]) [v45, p4.1] h36).bind fun p46 => j37 [] p46.2) fun j34 => ifP v33 ( j34 [] h32) ( j19 [] h32)
noncomputable def r11_0 (Γ : PCallee) (n : Nat) (w11 : PV) (a47 : PV) (b : Nat) (h : PHeap) : Pt := (beginRoundP b h).bind fun h0 => KL (fun w2 h3 => (endRoundP b .normal h3).map fun q => (q.1, trim h [] q.2)) fun j1 => (Γ 30 [a47] h0).bind fun p4 => (loadP false 1 w11 p4.2).bind fun v5 => (convP .u8 p4.1).bind fun v6 => (fillP (repP [.int .u8 0] 1) [(0, 1, v6)]).bind fun l7 => guardP (l7.all pure1) ( forkP (.frz 1 (chunk 1 1 l7)) (p4.2) fun v8 h9 => (appendP 5 1 v5 v8 h9).bind fun p10 => (storeP 1 w11 p10.1 p10.2).bind fun h11 => forkP (.ptr h11.length 0) (h11 ++ [.box [.int .i64 0] 3 .rw]) fun v12 h13 => forkP (.ptr h13.length 0) (h13 ++ [.box [.int .i64 0] 3 .rw]) fun v14 h15 => (storeP 1 v12 (.int .i64 0 : PV) h15).bind fun h16 => (storeP 1 v14 (.int .i64 0 : PV) h16).bind fun h17 => (lenP false a47).bind fun v18 => KL (fun w20 h21 => (loadP false 1 v14 h21).bind fun v22 => (binP .gtr v22 (.int .i64 0 : PV)).bind fun v23 => KL (fun w25 h26 => j1 [] h26) fun j24 => ifP v23 ( (loadP false 1 v14 h21).bind fun v27 => (binP .sub (.int .i64 8 : PV) v27).bind fun v28 => (callVP Γ (PV.func 31 [] [v12, v14, w11]) [(.int .i64 0 : PV), v28] h21).bind fun p29 => j24 [] p29.2) ( j24 [] h21)) fun j19 => loopP (r11_0_L0 Γ n w11 a47 p4 v12 v14 h17 v18 j19) n [(.int .i64 0 : PV)] h17)
theorem r11_0_eq (Γ : PCallee) (n : Nat) (w11 : PV) (a47 : PV) (b : Nat) (h : PHeap) (pend : Option AExit) (md : Md) (hb : h[b]? = some (.loop [w11] [11] [47] L11_0a L11_0b .ready pend md)) : proundK Γ n (.ptr b 0 :: [a47]) h = r11_0 Γ n w11 a47 b h := (proundK_eq hb rfl).trans (by kernel_rfl)
def A13 : PFun := ⟨2, 85, (.seq (.region false (.op (some 4) (.a (.move (.const (.slice none 0 0)))) false
  (.op (some 5) (.a (.move (.const (.int .i64 0)))) false
  .nil)))
  (.seq (.seq (.region false (.op (some 16) (.a (.move (.tmp 0))) false
  (.op (some 17) (.a (.call 35 [(.tmp 16), (.func 36)])) false
  (.op (some 18) (.a (.move (.tmp 17))) false
  (.sc 22 18 false [19, 20, 21]
  (.op (some 19) (.a (.move (.tmp 1))) false
  (.op (some 20) (.a (.call 37 [(.tmp 19)])) false
  (.op (some 21) (.a (.un .not (.tmp 20))) false
  .nil))) (.tmp 21)
  .nil)))))
  (.cond (.tmp 22) [] [4, 5]
  (.seq (.region false (.op (some 4) (.a (.move (.const (.slice none 0 0)))) false
  (.op (some 5) (.a (.move (.const (.int .i64 1)))) false
  .nil)))
  .ret)
  .skip))
  (.seq (.seq (.region false (.op (some 23) (.a (.move (.tmp 0))) false
  (.op (some 24) (.a (.call 24 [(.tmp 23), (.const (.int .i64 8))])) false
  (.op (some 6) (.a (.move (.tmp 24))) false
  .nil))))
  (.seq (.region false (.op (some 25) (.a (.move (.tmp 6))) false
  (.op (some 26) (.a (.bin .neq (.tmp 25) (.const (.int .i64 0)))) false
  .nil)))
  (.cond (.tmp 26) [] [4, 5, 27]
  (.seq (.region false (.op (some 27) (.a (.move (.tmp 6))) false
  (.op (some 4) (.a (.move (.const (.slice none 0 0)))) false
  (.op (some 5) (.a (.move (.tmp 27))) false
  .nil))))
  .ret)
  .skip)))
  (.seq (.region false (.op (some 28) (.a (.move (.tmp 0))) false
  (.op (some 29) (.a (.len false (.tmp 28))) false
  (.op (some 30) (.a (.bin .add (.tmp 29) (.const (.int .i64 1)))) false
  (.op (some 31) (.a (.bin .quo (.tmp 30) (.const (.int .i64 2)))) false
  (.op (some 32) (.a (.mkSlice 5 [(.int .u8 0)] (.tmp 31) (.tmp 31))) false
  (.op (some 7) (.a (.move (.tmp 32))) false
  .nil)))))))
  (.seq (.region false (.op (some 8) (.a (.move (.const (.int .i64 0)))) false
  .nil))
  (.seq (.seq (.region false (.op (some 33) (.a (.move (.tmp 0))) false
  (.op (some 34) (.a (.len false (.tmp 33))) false
  (.op (some 35) (.a (.move (.const (.int .i64 0)))) false
  .nil))))
  (.block 0 [] [8, 9, 10, 11, 12, 13, 14, 15, 35, 36, 37, 38, 39, 40, 41, 42, 43, 44, 45, 46, 47, 48, 49, 50, 51, 52, 53, 54, 55, 56, 57, 58, 59, 60, 61, 62, 63, 64, 65, 66, 67, 68, 69, 70, 71, 72, 73, 74, 75, 76, 77, 78, 79, 80, 81, 82, 83]
  (.loop [8, 35] [9, 10, 11, 12, 13, 14, 15, 36, 37, 38, 39, 40, 41, 42, 43, 44, 45, 46, 47, 48, 49, 50, 51, 52, 53, 54, 55, 56, 57, 58, 59, 60, 61, 62, 63, 64, 65, 66, 67, 68, 69, 70, 71, 72, 73, 74, 75, 76, 77, 78, 79, 80, 81, 82, 83]
  (.seq (.region false (.op (some 36) (.a (.bin .lss (.tmp 35) (.tmp 34))) false
  .nil))
  (.seq (.cond (.tmp 36) [] []
  .skip
  (.exit 0))
  (.seq (.block 1 [8] [9, 10, 11, 12, 13, 14, 15, 37, 38, 39, 40, 41, 42, 43, 44, 45, 46, 47, 48, 49, 50, 51, 52, 53, 54, 55, 56, 57, 58, 59, 60, 61, 62, 63, 64, 65, 66, 67, 68, 69, 70, 71, 72, 73, 74, 75, 76, 77, 78, 79, 80, 81, 82]
  (.seq (.region false (.op (some 37) (.a (.move (.tmp 35))) false
  (.op (some 38) (.a (.indexAddr 1 (.tmp 33) (.tmp 35))) false
  (.op (some 39) (.a (.load false 1 (.tmp 38))) false
  (.op (some 9) (.a (.move (.tmp 37))) false
  (.op (some 10) (.a (.move (.tmp 39))) false
  .nil))))))
  (.seq (.region false (.op (some 11) (.a (.move (.const (.int .i64 0)))) false
  (.op (some 12) (.a (.move (.const (.int .i64 1073741824)))) false
  .nil)))
  (.seq (.seq (.region false (.op (some 40) (.a (.move (.tmp 1))) false
  (.op (some 41) (.a (.len false (.tmp 40))) false
  (.op (some 42) (.a (.move (.const (.int .i64 0)))) false
  .nil))))
  (.block 2 [11] [12, 13, 14, 15, 42, 43, 44, 45, 46, 47, 48, 49, 50, 51, 52, 53, 54, 55, 56, 57, 58, 59, 60, 61, 62]
  (.loop [11, 12, 42] [13, 14, 15, 43, 44, 45, 46, 47, 48, 49, 50, 51, 52, 53, 54, 55, 56, 57, 58, 59, 60, 61, 62]
  (.seq (.region false (.op (some 43) (.a (.bin .lss (.tmp 42) (.tmp 41))) false
  .nil))
  (.seq (.cond (.tmp 43) [] []
  .skip
  (.exit 2))
  (.seq (.block 3 [11, 12] [13, 14, 15, 44, 45, 46, 47, 48, 49, 50, 51, 52, 53, 54, 55, 56, 57, 58, 59, 60, 61]
  (.seq (.region false (.op (some 44) (.a (.move (.tmp 42))) false
  (.op (some 45) (.a (.indexAddr 1 (.tmp 40) (.tmp 42))) false
  (.op (some 46) (.a (.load false 1 (.tmp 45))) false
  (.op (some 13) (.a (.move (.tmp 44))) false
  (.op (some 14) (.a (.move (.tmp 46))) false
  .nil))))))
  (.seq (.region false (.op (some 47) (.a (.move (.tmp 8))) false
  (.op (some 48) (.a (.move (.tmp 14))) false
  (.op (some 49) (.a (.bin .add (.tmp 47) (.tmp 48))) false
  (.op (some 50) (.a (.call 38 [(.tmp 49), (.const (.int .i64 8))])) false
  (.op (some 51) (.a (.move (.tmp 10))) false
  (.op (some 52) (.a (.bin .sub (.tmp 50) (.tmp 51))) false
  (.op (some 15) (.a (.move (.tmp 52))) false
  .nil))))))))
  (.seq (.region false (.op (some 53) (.a (.move (.tmp 15))) false
  (.op (some 54) (.a (.move (.tmp 15))) false
  (.op (some 55) (.a (.un .neg (.tmp 54))) false
  (.op (some 56) (.a (.max [(.tmp 53), (.tmp 55)])) false
  (.op (some 15) (.a (.move (.tmp 56))) false
  .nil))))))
  (.seq (.region false (.op (some 57) (.a (.move (.tmp 15))) false
  (.op (some 58) (.a (.move (.tmp 12))) false
  (.op (some 59) (.a (.bin .lss (.tmp 57) (.tmp 58))) false
  .nil))))
  (.cond (.tmp 59) [11, 12] [60, 61]
  (.region false (.op (some 60) (.a (.move (.tmp 13))) false
  (.op (some 61) (.a (.move (.tmp 15))) false
  (.op (some 11) (.a (.move (.tmp 60))) false
  (.op (some 12) (.a (.move (.tmp 61))) false
  .nil)))))
  .skip))))))
  (.region false (.op (some 62) (.a (.bin .add (.tmp 42) (.const (.int .i64 1)))) false
  (.op (some 42) (.a (.move (.tmp 62))) false
  .nil)))))))))
  (.seq (.region false (.op (some 63) (.a (.move (.tmp 8))) false
  (.op (some 64) (.a (.move (.tmp 1))) false
  (.op (some 65) (.a (.move (.tmp 11))) false
  (.op (some 66) (.a (.indexAddr 1 (.tmp 64) (.tmp 65))) false
  (.op (some 67) (.a (.load false 1 (.tmp 66))) false
  (.op (some 68) (.a (.bin .add (.tmp 63) (.tmp 67))) false
  (.op (some 69) (.a (.call 38 [(.tmp 68), (.const (.int .i64 8))])) false
  (.op (some 8) (.a (.move (.tmp 69))) false
  .nil)))))))))
  (.region true (.op (some 70) (.a (.move (.tmp 7))) false
  (.op (some 71) (.a (.move (.tmp 9))) false
  (.op (some 72) (.a (.bin .quo (.tmp 71) (.const (.int .i64 2)))) false
  (.op (some 73) (.a (.indexAddr 1 (.tmp 70) (.tmp 72))) false
  (.op (some 74) (.a (.load false 1 (.tmp 73))) false
  (.op (some 75) (.a (.move (.tmp 11))) false
  (.op (some 76) (.a (.move (.tmp 9))) false
  (.op (some 77) (.a (.bin .rem (.tmp 76) (.const (.int .i64 2)))) false
  (.op (some 78) (.a (.bin .mul (.const (.int .i64 4)) (.tmp 77))) false
  (.op (some 79) (.a (.bin .shl (.tmp 75) (.tmp 78))) false
  (.op (some 80) (.a (.conv .u8 (.tmp 79))) false
  (.op (some 81) (.a (.bin .or (.tmp 74) (.tmp 80))) false
  (.op (some 82) (.a (.indexAddr 1 (.tmp 70) (.tmp 72))) false
  (.op none (.a (.store 1 (.tmp 82) (.tmp 81))) false
  .nil))))))))))))))))))))
  (.region false (.op (some 83) (.a (.bin .add (.tmp 35) (.const (.int .i64 1)))) false
  (.op (some 35) (.a (.move (.tmp 83))) false
  .nil)))))))))
  (.seq (.region false (.op (some 84) (.a (.move (.tmp 7))) false
  (.op (some 4) (.a (.move (.tmp 84))) false
  (.op (some 5) (.a (.move (.const (.int .i64 0)))) false
  .nil))))
  .ret))))))), [.tmp 4, .tmp 5], [(.flat 1), .keep]⟩
theorem ok13 : ∃ fn c, FunOk Try.prog 13 fn c A13.erase := ⟨Try.f13, _, ⟨Try.func13, rfl, by kernel_rfl, by kernel_rfl, by kernel_rfl, of_decide_eq_true (by kernel_rfl), by kernel_rfl⟩⟩
noncomputable def s13_L0 (Γ : PCallee) (n : Nat) (x1 : PV) (w21 : List PV) (h26 : PHeap) (v32 : PV) (v33 : PV) (j34 : Kt) : (Kt) → Kt := fun c51 w52 h53 => (binP .lss (nthP w52 2) v33).bind fun v54 => KL (fun w56 h57 => KL (fun w59 h60 => (binP .add (nthP w52 2) (.int .i64 1 : PV)).bind fun v61 => c51 [(nthP w59 0), (nthP w59 1), v61] (trim h26 [(nthP w59 0), (nthP w59 1), v61] h60)) fun j58 => (indexAddrP 1 x1 (nthP w52 2)).bind fun v62 => (loadP false 1 v62 h57).bind fun v63 => (binP .add (nthP w21 0) v63).bind fun v64 => (Γ 38 [v64, (.int .i64 8 : PV)] h57).bind fun p65 => (binP .sub p65.1 v32).bind fun v66 => (unP .neg v66).bind fun v67 => (fold1P max2P [v66, v67]).bind fun v68 => (binP .lss v68 (nthP w52 1)).bind fun v69 => KL (fun w71 h72 => j58 [(nthP w71 0), (nthP w71 1)] h72) fun j70 => ifP v69 ( j70 [(nthP w52 2), v68] p65.2) ( j70 [(nthP w52 0), (nthP w52 1)] p65.2)) fun j55 => ifP v54 ( j55 [] h53) ( j34 [(nthP w52 0)] h53)
noncomputable def s13_L1 (Γ : PCallee) (n : Nat) (x0 : PV) (x1 : PV) (p15 : PV × PHeap) (v16 : PV) (j17 : Kt) : (Kt) → Kt := fun c20 w21 h22 => (binP .lss (nthP w21 1) v16).bind fun v23 => KL (fun w25 h26 => KL (fun w28 h29 => (binP .add (nthP w21 1) (.int .i64 1 : PV)).bind fun v30 => c20 [(nthP w28 0), v30] (trim p15.2 [(nthP w28 0), v30] h29)) fun j27 => (indexAddrP 1 x0 (nthP w21 1)).bind fun v31 => (loadP false 1 v31 h26).bind fun v32 => (lenP false x1).bind fun v33 => KL (fun w35 h36 => (indexAddrP 1 x1 (nthP w35 0)).bind fun v37 => (loadP false 1 v37 h36).bind fun v38 => (binP .add (nthP w21 0) v38).bind fun v39 => (Γ 38 [v39, (.int .i64 8 : PV)] h36).bind fun p40 => (binP .quo (nthP w21 1) (.int .i64 2 : PV)).bind fun v41 => (indexAddrP 1 p15.1 v41).bind fun v42 => (loadP false 1 v42 p40.2).bind fun v43 => (binP .rem (nthP w21 1) (.int .i64 2 : PV)).bind fun v44 => (binP .mul (.int .i64 4 : PV) v44).bind fun v45 => (binP .shl (nthP w35 0) v45).bind fun v46 => (convP .u8 v46).bind fun v47 => (binP .or v43 v47).bind fun v48 => (indexAddrP 1 p15.1 v41).bind fun v49 => (storeP 1 v49 v48 p40.2).bind fun h50 => j27 [p40.1] h50) fun j34 => loopP (s13_L0 Γ n x1 w21 h26 v32 v33 j34) n [(.int .i64 0 : PV), (.int .i64 1073741824 : PV), (.int .i64 0 : PV)] h26) fun j24 => ifP v23 ( j24 [] h22) ( j17 [] h22)
noncomputable def s13 (Γ : PCallee) (n : Nat) (x0 : PV) (x1 : PV) (h : PHeap) : Pt := (Γ 35 [x0, (PV.func 36 [] [])] h).bind fun p0 => K1 (fun v2 h3 => KL (fun w5 h6 => (Γ 24 [x0, (.int .i64 8 : PV)] h6).bind fun p7 => (binP .neq p7.1 (.int .i64 0 : PV)).bind fun v8 => KL (fun w10 h11 => (lenP false x0).bind fun v12 => (binP .add v12 (.int .i64 1 : PV)).bind fun v13 => (binP .quo v13 (.int .i64 2 : PV)).bind fun v14 => (mkSliceP 5 [.int .u8 0] v14 v14 h11).bind fun p15 => (lenP false x0).bind fun v16 => KL (fun w18 h19 => finP [(.flat 1), .keep] h h19 [p15.1, (.int .i64 0 : PV)]) fun j17 => loopP (s13_L1 Γ n x0 x1 p15 v16 j17) n [(.int .i64 0 : PV), (.int .i64 0 : PV)] p15.2) fun j9 => ifP v8 ( finP [(.flat 1), .keep] h p7.2 [(.nilS : PV), p7.1]) ( j9 [] p7.2)) fun j4 => ifP v2 ( finP [(.flat 1), .keep] h h3 [(.nilS : PV), (.int .i64 1 : PV)]) ( j4 [] h3)) fun j1 => scP p0.1 false ( (Γ 37 [x1] p0.2).bind fun p73 => (unP .not p73.1).bind fun v74 => j1 v74 p73.2) (j1 (.bool true) p0.2)
theorem s13_eq (Γ : PCallee) (n : Nat) (x0 : PV) (x1 : PV) (h : PHeap) : pfunK Γ n A13 [x0, x1] h = s13 Γ n x0 x1 h := by kernel_rfl
def A14 : PFun := ⟨3, 55, (.seq (.region false (.op (some 6) (.a (.move (.const (.slice none 0 0)))) false
  (.op (some 7) (.a (.move (.const (.int .i64 0)))) false
  (.op (some 8) (.a (.move (.const (.int .i64 0)))) false
  .nil))))
  (.seq (.seq (.region false (.op (some 12) (.a (.move (.tmp 1))) false
  (.op (some 13) (.a (.call 37 [(.tmp 12)])) false
  (.op (some 14) (.a (.un .not (.tmp 13))) false
  .nil))))
  (.cond (.tmp 14) [] [6, 7, 8]
  (.seq (.region false (.op (some 6) (.a (.move (.const (.slice none 0 0)))) false
  (.op (some 7) (.a (.move (.const (.int .i64 0)))) false
  (.op (some 8) (.a (.move (.const (.int .i64 1)))) false
  .nil))))
  .ret)
  .skip))
  (.seq (.seq (.region false (.op (some 15) (.a (.move (.tmp 0))) false
  (.op (some 16) (.a (.move (.tmp 2))) false
  (.op (some 17) (.a (.call 39 [(.tmp 15), (.const (.int .i64 8)), (.tmp 16)])) false
  (.op (some 9) (.a (.move (.tmp 17))) false
  .nil)))))
  (.seq (.region false (.op (some 18) (.a (.move (.tmp 9))) false
  (.op (some 19) (.a (.bin .neq (.tmp 18) (.const (.int .i64 0)))) false
  .nil)))
  (.cond (.tmp 19) [] [6, 7, 8, 20]
  (.seq (.region false (.op (some 20) (.a (.move (.tmp 9))) false
  (.op (some 6) (.a (.move (.const (.slice none 0 0)))) false
  (.op (some 7) (.a (.move (.const (.int .i64 0)))) false
  (.op (some 8) (.a (.move (.tmp 20))) false
  .nil)))))
  .ret)
  .skip)))
  (.seq (.region false (.op (some 10) (.growNil 3 1) false
  .nil))
  (.seq (.seq (.region false (.op (some 21) (.a (.move (.tmp 2))) false
  (.op (some 22) (.a (.move (.tmp 0))) false
  (.op (some 23) (.a (.len false (.tmp 22))) false
  (.op (some 24) (.a (.bin .mul (.const (.int .i64 2)) (.tmp 23))) false
  (.op (some 25) (.a (.min [(.tmp 21), (.tmp 24)])) false
  (.op (some 26) (.a (.move (.const (.int .i64 0)))) false
  .nil)))))))
  (.block 0 [10] [11, 26, 27, 28, 29, 30, 31, 32, 33, 34, 35, 36, 37, 38, 39, 40, 41, 42, 43, 44, 45]
  (.loop [10, 26] [11, 27, 28, 29, 30, 31, 32, 33, 34, 35, 36, 37, 38, 39, 40, 41, 42, 43, 44, 45]
  (.seq (.region false (.op (some 27) (.a (.bin .lss (.tmp 26) (.tmp 25))) false
  .nil))
  (.seq (.cond (.tmp 27) [] []
  .skip
  (.exit 0))
  (.seq (.block 1 [10] [11, 28, 29, 30, 31, 32, 33, 34, 35, 36, 37, 38, 39, 40, 41, 42, 43, 44]
  (.seq (.region false (.op (some 28) (.a (.move (.tmp 26))) false
  (.op (some 11) (.a (.move (.tmp 28))) false
  .nil)))
  (.region false (.op (some 29) (.a (.move (.tmp 10))) false
  (.op (some 30) (.a (.move (.tmp 1))) false
  (.op (some 31) (.a (.move (.tmp 0))) false
  (.op (some 32) (.a (.move (.tmp 11))) false
  (.op (some 33) (.a (.bin .quo (.tmp 32) (.const (.int .i64 2)))) false
  (.op (some 34) (.a (.indexAddr 1 (.tmp 31) (.tmp 33))) false
  (.op (some 35) (.a (.load false 1 (.tmp 34))) false
  (.op (some 36) (.a (.move (.tmp 11))) false
  (.op (some 37) (.a (.bin .rem (.tmp 36) (.const (.int .i64 2)))) false
  (.op (some 38) (.a (.bin .mul (.const (.int .i64 4)) (.tmp 37))) false
  (.op (some 39) (.a (.bin .shr (.tmp 35) (.tmp 38))) false
  (.op (some 40) (.a (.bin .and (.tmp 39) (.const (.int .u8 15)))) false
  (.op (some 41) (.a (.indexAddr 1 (.tmp 30) (.tmp 40))) false
  (.op (some 42) (.a (.load false 1 (.tmp 41))) false
  (.op (some 43) (.buildF 3 [(.int .i64 0)] 1 [(0, 1, (.tmp 42))]) false
  (.op (some 44) (.a (.append 3 1 (.tmp 29) (.tmp 43))) false
  (.op (some 10) (.a (.move (.tmp 44))) false
  .nil))))))))))))))))))))
  (.region false (.op (some 45) (.a (.bin .add (.tmp 26) (.const (.int .i64 1)))) false
  (.op (some 26) (.a (.move (.tmp 45))) false
  .nil)))))))))
  (.seq (.region false (.op (some 47) (.a (.move (.tmp 10))) false
  (.fz 47 (.flat 1)
  (.op (some 48) (.a (.call 41 [(.tmp 47), (.const (.int .i64 8))])) false
  (.op (some 49) (.a (.move (.tmp 2))) false
  (.op (some 50) (.a (.call 40 [(.tmp 48), (.tmp 49)])) false
  (.op (some 46) (.a (.move (.tmp 50))) false
  (.op (some 51) (.a (.extract (.tmp 46) 0)) false
  (.op (some 52) (.a (.extract (.tmp 46) 1)) false
  (.op (some 6) (.a (.move (.tmp 51))) false
  (.op (some 7) (.a (.move (.tmp 52))) false
  .nil)))))))))))
  (.seq (.region false (.op (some 53) (.a (.move (.tmp 6))) false
  (.op (some 54) (.a (.move (.tmp 7))) false
  (.op (some 6) (.a (.move (.tmp 53))) false
  (.op (some 7) (.a (.move (.tmp 54))) false
  (.op (some 8) (.a (.move (.const (.int .i64 0)))) false
  .nil))))))
  .ret))))))), [.tmp 6, .tmp 7, .tmp 8], [(.flat 1), .keep, .keep]⟩
theorem ok14 : ∃ fn c, FunOk Try.prog 14 fn c A14.erase := ⟨Try.f14, _, ⟨Try.func14, rfl, by kernel_rfl, by kernel_rfl, by kernel_rfl, of_decide_eq_true (by kernel_rfl), by kernel_rfl⟩⟩
noncomputable def s14_L0 (Γ : PCallee) (n : Nat) (x0 : PV) (x1 : PV) (h11 : PHeap) (v14 : PV) (j15 : Kt) : (Kt) → Kt := fun c23 w24 h25 => (binP .lss (nthP w24 1) v14).bind fun v26 => KL (fun w28 h29 => KL (fun w31 h32 => (binP .add (nthP w24 1) (.int .i64 1 : PV)).bind fun v33 => c23 [(nthP w31 0), v33] (trim h11 [(nthP w31 0), v33] h32)) fun j30 => (binP .quo (nthP w24 1) (.int .i64 2 : PV)).bind fun v34 => (indexAddrP 1 x0 v34).bind fun v35 => (loadP false 1 v35 h29).bind fun v36 => (binP .rem (nthP w24 1) (.int .i64 2 : PV)).bind fun v37 => (binP .mul (.int .i64 4 : PV) v37).bind fun v38 => (binP .shr v36 v38).bind fun v39 => (binP .and v39 (.int .u8 15 : PV)).bind fun v40 => (indexAddrP 1 x1 v40).bind fun v41 => (loadP false 1 v41 h29).bind fun v42 => (fillP (repP [.int .i64 0] 1) [(0, 1, v42)]).bind fun l43 => guardP (l43.all pure1) ( forkP (.frz 1 (chunk 1 1 l43)) (h29) fun v44 h45 => (appendP 3 1 (nthP w24 0) v44 h45).bind fun p46 => j30 [p46.1] p46.2)) fun j27 => ifP v26 ( j27 [] h25) ( j15 [(nthP w24 0)] h25)
noncomputable def s14 (Γ : PCallee) (n : Nat) (x0 : PV) (x1 : PV) (x2 : PV) (h : PHeap) : Pt := (Γ 37 [x1] h).bind fun p0 => (unP .not p0.1).bind fun v1 => KL (fun w3 h4 => (Γ 39 [x0, (.int .i64 8 : PV), x2] h4).bind fun p5 => (binP .neq p5.1 (.int .i64 0 : PV)).bind fun v6 => KL (fun w8 h9 => forkP (.ref h9.length 0 0 0 1) (h9 ++ [.log [] 1 3 .rw]) fun v10 h11 => (lenP false x0).bind fun v12 => (binP .mul (.int .i64 2 : PV) v12).bind fun v13 => (fold1P min2P [x2, v13]).bind fun v14 => KL (fun w16 h17 => (fz (.flat 1) (nthP w16 0) h17).bind fun q18 => (Γ 41 [q18.1, (.int .i64 8 : PV)] q18.2).bind fun p19 => (Γ 40 [p19.1, x2] p19.2).bind fun p20 => (extractP p20.1 0).bind fun v21 => (extractP p20.1 1).bind fun v22 => finP [(.flat 1), .keep, .keep] h p20.2 [v21, v22, (.int .i64 0 : PV)]) fun j15 => loopP (s14_L0 Γ n x0 x1 h11 v14 j15) n [v10, (.int .i64 0 : PV)] h11) fun j7 => ifP v6 ( finP [(.flat 1), .keep, .keep] h p5.2 [(.nilS : PV), (.int .i64 0 : PV), p5.1]) ( j7 [] p5.2)) fun j2 => ifP v1 ( finP [(.flat 1), .keep, .keep] h p0.2 [(.nilS : PV), (.int .i64 0 : PV), (.int .i64 1 : PV)]) ( j2 [] p0.2)
theorem s14_eq (Γ : PCallee) (n : Nat) (x0 : PV) (x1 : PV) (x2 : PV) (h : PHeap) : pfunK Γ n A14 [x0, x1, x2] h = s14 Γ n x0 x1 x2 h := by kernel_rfl
def A15 : PFun := ⟨2, 26, (.seq (.region false (.op (some 4) (.a (.move (.const (.bool false)))) false
  .nil))
  (.seq (.seq (.region false (.op (some 6) (.a (.move (.tmp 0))) false
  (.op (some 7) (.a (.len false (.tmp 6))) false
  (.op (some 8) (.a (.move (.tmp 1))) false
  (.op (some 9) (.a (.len false (.tmp 8))) false
  (.op (some 10) (.a (.bin .neq (.tmp 7) (.tmp 9))) false
  .nil))))))
  (.cond (.tmp 10) [] [4]
  (.seq (.region false (.op (some 4) (.a (.move (.const (.bool false)))) false
  .nil))
  .ret)
  .skip))
  (.seq (.seq (.region false (.op (some 11) (.a (.move (.tmp 0))) false
  (.op (some 12) (.a (.len false (.tmp 11))) false
  (.op (some 13) (.a (.move (.const (.int .i64 0)))) false
  .nil))))
  (.block 0 [] [4, 5, 13, 14, 15, 16, 17, 18, 19, 20, 21, 22, 23, 24, 25]
  (.loop [13] [4, 5, 14, 15, 16, 17, 18, 19, 20, 21, 22, 23, 24, 25]
  (.seq (.region false (.op (some 14) (.a (.bin .lss (.tmp 13) (.tmp 12))) false
  .nil))
  (.seq (.cond (.tmp 14) [] []
  .skip
  (.exit 0))
  (.seq (.block 1 [] [4, 5, 15, 16, 17, 18, 19, 20, 21, 22, 23, 24]
  (.seq (.region false (.op (some 15) (.a (.move (.tmp 13))) false
  (.op (some 5) (.a (.move (.tmp 15))) false
  .nil)))
  (.seq (.region true (.op (some 16) (.a (.move (.tmp 0))) false
  (.op (some 17) (.a (.move (.tmp 5))) false
  (.op (some 18) (.a (.indexAddr 1 (.tmp 16) (.tmp 17))) false
  (.op (some 19) (.a (.load false 1 (.tmp 18))) false
  (.op (some 20) (.a (.move (.tmp 1))) false
  (.op (some 21) (.a (.move (.tmp 5))) false
  (.op (some 22) (.a (.indexAddr 1 (.tmp 20) (.tmp 21))) false
  (.op (some 23) (.a (.load false 1 (.tmp 22))) false
  (.op (some 24) (.a (.bin .neq (.tmp 19) (.tmp 23))) false
  .nil))))))))))
  (.cond (.tmp 24) [] [4]
  (.seq (.region false (.op (some 4) (.a (.move (.const (.bool false)))) false
  .nil))
  .ret)
  .skip))))
  (.region false (.op (some 25) (.a (.bin .add (.tmp 13) (.const (.int .i64 1)))) false
  (.op (some 13) (.a (.move (.tmp 25))) false
  .nil)))))))))
  (.seq (.region false (.op (some 4) (.a (.move (.const (.bool true)))) false
  .nil))
  .ret)))), [.tmp 4], [.keep]⟩
theorem ok15 : ∃ fn c, FunOk Try.prog 15 fn c A15.erase := ⟨Try.f15, _, ⟨Try.func15, rfl, by kernel_rfl, by kernel_rfl, by kernel_rfl, of_decide_eq_true (by kernel_rfl), by kernel_rfl⟩⟩
noncomputable def s15_L0 (Γ : PCallee) (n : Nat) (x0 : PV) (x1 : PV) (h : PHeap) (h5 : PHeap) (v6 : PV) (j7 : Kt) : (Kt) → Kt := fun c10 w11 h12 => (binP .lss (nthP w11 0) v6).bind fun v13 => KL (fun w15 h16 => KL (fun w18 h19 => (binP .add (nthP w11 0) (.int .i64 1 : PV)).bind fun v20 => c10 [v20] (trim h5 [v20] h19)) fun j17 => (indexAddrP 1 x0 (nthP w11 0)).bind fun v21 => (loadP false 1 v21 h16).bind fun v22 => (indexAddrP 1 x1 (nthP w11 0)).bind fun v23 => (loadP false 1 v23 h16).bind fun v24 => (binP .neq v22 v24).bind fun v25 => KL (fun w27 h28 => j17 [] h28) fun j26 => ifP v25 ( finP [.keep] h h16 [(.bool false : PV)]) ( j26 [] h16)) fun j14 => ifP v13 ( j14 [] h12) ( j7 [] h12)
noncomputable def s15 (Γ : PCallee) (n : Nat) (x0 : PV) (x1 : PV) (h : PHeap) : Pt := (lenP false x0).bind fun v0 => (lenP false x1).bind fun v1 => (binP .neq v0 v1).bind fun v2 => KL (fun w4 h5 => (lenP false x0).bind fun v6 => KL (fun w8 h9 => finP [.keep] h h9 [(.bool true : PV)]) fun j7 => loopP (s15_L0 Γ n x0 x1 h h5 v6 j7) n [(.int .i64 0 : PV)] h5) fun j3 => ifP v2 ( finP [.keep] h h [(.bool false : PV)]) ( j3 [] h)
theorem s15_eq (Γ : PCallee) (n : Nat) (x0 : PV) (x1 : PV) (h : PHeap) : pfunK Γ n A15 [x0, x1] h = s15 Γ n x0 x1 h := by kernel_rfl
open Go.Vm.G in
def A20 : PFun := ⟨1, 57, (S (R <| o 2 (.move (.const (.slice none 0 0))) <| o 3 (.move (i 0)) <| z) <|
  (S (S (R <| m 10 0 <| o 11 (.call 24 [(t 10), (i 8)]) <| m 4 11 <| z) <|
  (S (R <| m 12 4 <| b 13 .neq (t 12) (i 0) <| z) <|
  (.cond (t 13) [] [2, 3, 14]
  (S (R <| m 14 4 <| o 2 (.move (.const (.slice none 0 0))) <| m 3 14 <| z) <|
  .ret)
  .skip))) <|
  (S (R <| o 5 (.new 65 V256) <| z) <|
  (S (S (R <| m 15 0 <| o 16 (.call 25 [(t 15), (i 8)]) <| o 17 (.len false (t 16)) <| o 18 (.move (i 0)) <| z) <|
  (.block 0 [] ([7] ++ g 18 11)
  (.loop [18] ([7] ++ g 19 10)
  (S (R <| b 19 .lss (t 18) (t 17) <| z) <|
  (S (.cond (t 19) [] []
  .skip
  (.exit 0)) <|
  (S (.block 1 [] ([7] ++ g 20 8)
  (S (R <| o 20 (.indexAddr 1 (t 16) (t 18)) <| l 21 20 <| m 7 21 <| z) <|
  (R <| m 22 7 <| b 23 .add (t 22) (i 128) <| o 24 (.indexAddrArr 256 1 (t 5) (t 23)) <| l 25 24 <| b 26 .add (t 25) (i 1) <| o 27 (.indexAddrArr 256 1 (t 5) (t 23)) <| n (.store 1 (t 27) (t 26)) <| z))) <|
  (R <| b 28 .add (t 18) (i 1) <| m 18 28 <| z))))))) <|
  (S (R <| o 29 (.mkSlice 3 [(.int .i64 0)] (i 0) (i 256)) <| m 8 29 <| z) <|
  (S (S (R <| o 30 (.move (i 0)) <| z) <|
  (.block 2 [8] ([9] ++ g 30 15)
  (.loop [8, 30] ([9] ++ g 31 14)
  (S (R <| b 31 .lss (t 30) (i 128) <| z) <|
  (S (.cond (t 31) [] []
  .skip
  (.exit 2)) <|
  (S (.block 3 [8] ([9] ++ g 32 12)
  (S (R <| m 32 30 <| m 9 32 <| z) <|
  (S (S (R <| m 33 9 <| b 34 .gtr (t 33) (i 0) <| z) <|
  (.cond (t 34) [8] (g 35 4)
  (R <| m 35 8 <| m 36 9 <| (.op (some 37) (.buildF 3 [(.int .i64 0)] 1 [(0, 1, (t 36))]) false <| o 38 (.append 3 1 (t 35) (t 37)) <| m 8 38 <| z))
  .skip)) <|
  (R <| m 39 8 <| m 40 9 <| o 41 (.un .neg (t 40)) <| (.op (some 42) (.buildF 3 [(.int .i64 0)] 1 [(0, 1, (t 41))]) false <| o 43 (.append 3 1 (t 39) (t 42)) <| m 8 43 <| z))))) <|
  (R <| b 44 .add (t 30) (i 1) <| m 30 44 <| z))))))) <|
  (S (R <| m 45 8 <| (.op (some 46) (.buildF 3 [(.int .i64 0)] 1 [(0, 1, (i (-128)))]) false <| o 47 (.append 3 1 (t 45) (t 46)) <| m 8 47 <| z)) <|
  (S (R <| m 48 8 <| o 49 (.mkFunc 48 [] [(t 5)]) <| o 50 (.call 47 [(t 48), (t 49)]) <| z) <|
  (S (R <| m 51 8 <| o 52 (.slice 1 (t 51) none (some (i 16)) none) <| F 52 (.flat 1) <| o 53 (.call 49 [(t 52)]) <| m 8 53 <| z) <|
  (S (R <| m 54 8 <| o 55 (.call 50 [(t 54)]) <| z) <|
  (S (R <| m 56 8 <| m 2 56 <| o 3 (.move (i 0)) <| z) <|
  .ret))))))))))), [.tmp 2, .tmp 3], [(.flat 1), .keep]⟩
theorem ok20 : ∃ fn c, FunOk Try.prog 20 fn c A20.erase := ⟨Try.f20, _, ⟨Try.func20, rfl, by kernel_rfl, by kernel_rfl, by kernel_rfl, of_decide_eq_true (by kernel_rfl), by kernel_rfl⟩⟩
noncomputable def s20_L0 (Γ : PCallee) (n : Nat) (p12 : PV × PHeap) (j13 : Kt) : (Kt) → Kt := fun c25 w26 h27 => (binP .lss (nthP w26 1) (.int .i64 128 : PV)).bind fun v28 => KL (fun w30 h31 => KL (fun w33 h34 => (binP .add (nthP w26 1) (.int .i64 1 : PV)).bind fun v35 => c25 [(nthP w33 0), v35] (trim p12.2 [(nthP w33 0), v35] h34)) fun j32 => (binP .gtr (nthP w26 1) (.int .i64 0 : PV)).bind fun v36 => KL (fun w38 h39 => (unP .neg (nthP w26 1)).bind fun v40 => (fillP (repP [.int .i64 0] 1) [(0, 1, v40)]).bind fun l41 => guardP (l41.all pure1) ( forkP (.frz 1 (chunk 1 1 l41)) (h39) fun v42 h43 => (appendP 3 1 (nthP w38 0) v42 h43).bind fun p44 => j32 [p44.1] p44.2)) fun j37 => ifP v36 ( (fillP (repP [.int .i64 0] 1) [(0, 1, (nthP w26 1))]).bind fun l45 => guardP (l45.all pure1) ( forkP (.frz 1 (chunk 1 1 l45)) (h31) fun v46 h47 => (appendP 3 1 (nthP w26 0) v46 h47).bind fun p48 => j37 [p48.1] p48.2)) ( j37 [(nthP w26 0)] h31)) fun j29 => ifP v28 ( j29 [] h27) ( j13 [(nthP w26 0)] h27)
noncomputable def s20_L1 (Γ : PCallee) (n : Nat) (v5 : PV) (p7 : PV × PHeap) (v8 : PV) (j9 : Kt) : (Kt) → Kt := fun c49 w50 h51 => (binP .lss (nthP w50 0) v8).bind fun v52 => KL (fun w54 h55 => KL (fun w57 h58 => (binP .add (nthP w50 0) (.int .i64 1 : PV)).bind fun v59 => c49 [v59] (trim p7.2 [v59] h58)) fun j56 => (indexAddrP 1 p7.1 (nthP w50 0)).bind fun v60 => (loadP false 1 v60 h55).bind fun v61 => (binP .add v61 (.int .i64 128 : PV)).bind fun v62 => (indexAddrArrP 256 1 v5 v62).bind fun v63 => (loadP false 1 v63 h55).bind fun v64 => (binP .add v64 (.int .i64 1 : PV)).bind fun v65 => (indexAddrArrP 256 1 v5 v62).bind fun v66 => (storeP 1 v66 v65 h55).bind fun h67 => j56 [] h67) fun j53 => ifP v52 ( j53 [] h51) ( j9 [] h51)
noncomputable def s20 (Γ : PCallee) (n : Nat) (x0 : PV) (h : PHeap) : Pt := (Γ 24 [x0, (.int .i64 8 : PV)] h).bind fun p0 => (binP .neq p0.1 (.int .i64 0 : PV)).bind fun v1 => KL (fun w3 h4 => forkP (.ptr h4.length 0) (h4 ++ [.box Z256 65 .rw]) fun v5 h6 => (Γ 25 [x0, (.int .i64 8 : PV)] h6).bind fun p7 => (lenP false p7.1).bind fun v8 => KL (fun w10 h11 => (mkSliceP 3 [.int .i64 0] (.int .i64 0 : PV) (.int .i64 256 : PV) h11).bind fun p12 => KL (fun w14 h15 => (fillP (repP [.int .i64 0] 1) [(0, 1, (.int .i64 (-128) : PV))]).bind fun l16 => guardP (l16.all pure1) ( forkP (.frz 1 (chunk 1 1 l16)) (h15) fun v17 h18 => (appendP 3 1 (nthP w14 0) v17 h18).bind fun p19 => (Γ 47 [p19.1, (PV.func 48 [] [v5])] p19.2).bind fun p20 => (sliceP 1 p19.1 none (some (.int .i64 16 : PV)) none).bind fun v21 => (fz (.flat 1) v21 p20.2).bind fun q22 => (Γ 49 [q22.1] q22.2).bind fun p23 => (Γ 50 [p23.1] p23.2).bind fun p24 => finP [(.flat 1), .keep] h p24.2 [p23.1, (.int .i64 0 : PV)])) fun j13 => loopP (s20_L0 Γ n p12 j13) n [p12.1, (.int .i64 0 : PV)] p12.2) fun j9 => loopP (s20_L1 Γ n v5 p7 v8 j9) n [(.int .i64 0 : PV)] p7.2) fun j2 => ifP v1 ( finP [(.flat 1), .keep] h p0.2 [(.nilS : PV), p0.1]) ( j2 [] p0.2)
theorem s20_eq (Γ : PCallee) (n : Nat) (x0 : PV) (h : PHeap) : pfunK Γ n A20 [x0] h = s20 Γ n x0 h := by kernel_rfl
open Go.Vm.G in
def A21 : PFun := ⟨1, 90, (S (R <| o 2 (.move (.const (.slice none 0 0))) <| o 3 (.move (i 0)) <| z) <|
  (S (S (R <| m 14 0 <| o 15 (.call 26 [(t 14), (i 8)]) <| m 4 15 <| z) <|
  (S (R <| m 16 4 <| b 17 .neq (t 16) (i 0) <| z) <|
  (.cond (t 17) [] [2, 3, 18]
  (S (R <| m 18 4 <| o 2 (.move (.const (.slice none 0 0))) <| m 3 18 <| z) <|
  .ret)
  .skip))) <|
  (S (R <| o 5 (.new 65 V256) <| z) <|
  (S (S (R <| m 19 0 <| o 20 (.call 27 [(t 19), (i 8)]) <| o 21 (.len false (t 20)) <| o 22 (.move (i 0)) <| z) <|
  (.block 0 [] ([7] ++ g 22 11)
  (.loop [22] ([7] ++ g 23 10)
  (S (R <| b 23 .lss (t 22) (t 21) <| z) <|
  (S (.cond (t 23) [] []
  .skip
  (.exit 0)) <|
  (S (.block 1 [] ([7] ++ g 24 8)
  (S (R <| o 24 (.indexAddr 1 (t 20) (t 22)) <| l 25 24 <| m 7 25 <| z) <|
  (R <| m 26 7 <| b 27 .add (t 26) (i 128) <| o 28 (.indexAddrArr 256 1 (t 5) (t 27)) <| l 29 28 <| b 30 .add (t 29) (i 1) <| o 31 (.indexAddrArr 256 1 (t 5) (t 27)) <| n (.store 1 (t 31) (t 30)) <| z))) <|
  (R <| b 32 .add (t 22) (i 1) <| m 22 32 <| z))))))) <|
  (S (R <| o 8 (.new 69 V256b) <| z) <|
  (S (S (R <| o 9 (.move (i 0)) <| z) <|
  (.block 2 [] ([9, 10, 11] ++ g 33 44)
  (.loop [9] ([10, 11] ++ g 33 44)
  (S (S (R <| m 33 9 <| b 34 .lss (t 33) (i 16) <| z) <|
  (.cond (t 34) [] []
  .skip
  (.exit 2))) <|
  (S (.block 3 [] ([10, 11] ++ g 37 40)
  (S (R <| o 10 (.move (i (-1))) <| z) <|
  (S (S (R <| o 11 (.move (i 0)) <| z) <|
  (.block 4 [10] ([11] ++ g 37 38)
  (.loop [10, 11] (g 37 38)
  (S (S (R <| m 37 11 <| b 38 .lss (t 37) (i 256) <| z) <|
  (.cond (t 38) [] []
  .skip
  (.exit 4))) <|
  (S (.block 5 [10] (g 41 34)
  (S (D <| m 41 11 <| o 42 (.indexAddrArr 256 1 (t 8) (t 41)) <| l 43 42 <| o 44 (.un .not (t 43)) <| m 45 44 <| q 73 45 true ([46, 47, 48, 56] ++ g 49 7 ++ [57, 72] ++ g 58 8 ++ [71] ++ g 66 5) (m 46 10 <| b 47 .lss (t 46) (i 0) <| m 48 47 <| q 56 48 false (g 49 7) (m 49 11 <| o 50 (.indexAddrArr 256 1 (t 5) (t 49)) <| l 51 50 <| m 52 10 <| o 53 (.indexAddrArr 256 1 (t 5) (t 52)) <| l 54 53 <| b 55 .gtr (t 51) (t 54) <| z) (t 55) <|
  m 57 56 <| q 72 57 false (g 58 8 ++ [71] ++ g 66 5) (m 58 11 <| o 59 (.indexAddrArr 256 1 (t 5) (t 58)) <| l 60 59 <| m 61 10 <| o 62 (.indexAddrArr 256 1 (t 5) (t 61)) <| l 63 62 <| b 64 .eql (t 60) (t 63) <| m 65 64 <| q 71 65 true (g 66 5) (m 66 11 <| b 67 .sub (t 66) (i 128) <| m 68 10 <| b 69 .sub (t 68) (i 128) <| o 70 (.call 51 [(t 67), (t 69)]) <| z) (t 70) <|
  z) (t 71) <|
  z) (t 72) <|
  z) <|
  (.cond (t 73) [10] [74]
  (R <| m 74 11 <| m 10 74 <| z)
  .skip))) <|
  (R <| m 39 11 <| b 40 .add (t 39) (i 1) <| m 11 40 <| z)))))) <|
  (R <| m 75 10 <| o 76 (.indexAddrArr 256 1 (t 8) (t 75)) <| n (.store 1 (t 76) (.const (.bool true))) <| z)))) <|
  (R <| m 35 9 <| b 36 .add (t 35) (i 1) <| m 9 36 <| z)))))) <|
  (S (R <| (.op (some 12) (.growNil 3 1) false <| z)) <|
  (S (S (R <| o 13 (.move (i 0)) <| z) <|
  (.block 6 [12] ([13] ++ g 77 12)
  (.loop [12, 13] (g 77 12)
  (S (S (R <| m 77 13 <| b 78 .lss (t 77) (i 256) <| z) <|
  (.cond (t 78) [] []
  .skip
  (.exit 6))) <|
  (S (.block 7 [12] (g 81 8)
  (S (R <| m 81 13 <| o 82 (.indexAddrArr 256 1 (t 8) (t 81)) <| l 83 82 <| z) <|
  (.cond (t 83) [12] (g 84 5)
  (R <| m 84 12 <| m 85 13 <| b 86 .sub (t 85) (i 128) <| (.op (some 87) (.buildF 3 [(.int .i64 0)] 1 [(0, 1, (t 86))]) false <| o 88 (.append 3 1 (t 84) (t 87)) <| m 12 88 <| z))
  .skip))) <|
  (R <| m 79 13 <| b 80 .add (t 79) (i 1) <| m 13 80 <| z)))))) <|
  (S (R <| m 89 12 <| m 2 89 <| o 3 (.move (i 0)) <| z) <|
  .ret))))))))), [.tmp 2, .tmp 3], [(.flat 1), .keep]⟩
theorem ok21 : ∃ fn c, FunOk Try.prog 21 fn c A21.erase := ⟨Try.f21, _, ⟨Try.func21, rfl, by kernel_rfl, by kernel_rfl, by kernel_rfl, of_decide_eq_true (by kernel_rfl), by kernel_rfl⟩⟩
noncomputable def s21_L0 (Γ : PCallee) (n : Nat) (v12 : PV) (h18 : PHeap) (j19 : Kt) : (Kt) → Kt := fun c22 w23 h24 => (binP .lss (nthP w23 1) (.int .i64 256 : PV)).bind fun v25 => KL (fun w27 h28 => KL (fun w30 h31 => (binP .add (nthP w23 1) (.int .i64 1 : PV)).bind fun v32 => c22 [(nthP w30 0), v32] (trim h18 [(nthP w30 0), v32] h31)) fun j29 => (indexAddrArrP 256 1 v12 (nthP w23 1)).bind fun v33 => (loadP false 1 v33 h28).bind fun v34 => KL (fun w36 h37 => j29 [(nthP w36 0)] h37) fun j35 => ifP v34 ( (binP .sub (nthP w23 1) (.int .i64 128 : PV)).bind fun v38 => (fillP (repP [.int .i64 0] 1) [(0, 1, v38)]).bind fun l39 => guardP (l39.all pure1) ( forkP (.frz 1 (chunk 1 1 l39)) (h28) fun v40 h41 => (appendP 3 1 (nthP w23 0) v40 h41).bind fun p42 => j35 [p42.1] p42.2)) ( j35 [(nthP w23 0)] h28)) fun j26 => ifP v25 ( j26 [] h24) ( j19 [(nthP w23 0)] h24)
noncomputable def s21_L1 (Γ : PCallee) (n : Nat) (v5 : PV) (v12 : PV) (h49 : PHeap) (j54 : Kt) : (Kt) → Kt := fun c59 w60 h61 => (binP .lss (nthP w60 1) (.int .i64 256 : PV)).bind fun v62 => KL (fun w64 h65 => KL (fun w67 h68 => (binP .add (nthP w60 1) (.int .i64 1 : PV)).bind fun v69 => c59 [(nthP w67 0), v69] (trim h49 [(nthP w67 0), v69] h68)) fun j66 => (indexAddrArrP 256 1 v12 (nthP w60 1)).bind fun v70 => (loadP false 1 v70 h65).bind fun v71 => (unP .not v71).bind fun v72 => K1 (fun v74 h75 => KL (fun w77 h78 => j66 [(nthP w77 0)] h78) fun j76 => ifP v74 ( j76 [(nthP w60 1)] h75) ( j76 [(nthP w60 0)] h75)) fun j73 => scP v72 true ( (binP .lss (nthP w60 0) (.int .i64 0 : PV)).bind fun v79 => K1 (fun v81 h82 => K1 (fun v84 h85 => j73 v84 h85) fun j83 => scP v81 false ( (indexAddrArrP 256 1 v5 (nthP w60 1)).bind fun v86 => (loadP false 1 v86 h82).bind fun v87 => (indexAddrArrP 256 1 v5 (nthP w60 0)).bind fun v88 => (loadP false 1 v88 h82).bind fun v89 => (binP .eql v87 v89).bind fun v90 => K1 (fun v92 h93 => j83 v92 h93) fun j91 => scP v90 true ( (binP .sub (nthP w60 1) (.int .i64 128 : PV)).bind fun v94 => (binP .sub (nthP w60 0) (.int .i64 128 : PV)).bind fun v95 => (Γ 51 [v94, v95] h82).bind fun p96 => j91 p96.1 p96.2) (j91 (.bool false) h82)) (j83 (.bool true) h82)) fun j80 => scP v79 false ( (indexAddrArrP 256 1 v5 (nthP w60 1)).bind fun v97 => (loadP false 1 v97 h65).bind fun v98 => (indexAddrArrP 256 1 v5 (nthP w60 0)).bind fun v99 => (loadP false 1 v99 h65).bind fun v100 => (binP .gtr v98 v100).bind fun v101 => j80 v101 h65) (j80 (.bool true) h65)) (j73 (.bool false) h65)) fun j63 => ifP v62 ( j63 [] h61) ( j54 [(nthP w60 0)] h61)
noncomputable def s21_L2 (Γ : PCallee) (n : Nat) (v5 : PV) (v12 : PV) (h13 : PHeap) (j14 : Kt) : (Kt) → Kt := fun c43 w44 h45 => (binP .lss (nthP w44 0) (.int .i64 16 : PV)).bind fun v46 => KL (fun w48 h49 => KL (fun w51 h52 => (binP .add (nthP w44 0) (.int .i64 1 : PV)).bind fun v53 => c43 [v53] (trim h13 [v53] h52)) fun j50 => KL (fun w55 h56 => (indexAddrArrP 256 1 v12 (nthP w55 0)).bind fun v57 => (storeP 1 v57 (.bool true : PV) h56).bind fun h58 => j50 [] h58) fun j54 => loopP (s21_L1 Γ n v5 v12 h49 j54) n [(.int .i64 (-1) : PV), (.int .i64 0 : PV)] h49) fun j47 => ifP v46 ( j47 [] h45) ( j14 [] h45)
noncomputable def s21_L3 (Γ : PCallee) (n : Nat) (v5 : PV) (p7 : PV × PHeap) (v8 : PV) (j9 : Kt) : (Kt) → Kt := fun c102 w103 h104 => (binP .lss (nthP w103 0) v8).bind fun v105 => KL (fun w107 h108 => KL (fun w110 h111 => (binP .add (nthP w103 0) (.int .i64 1 : PV)).bind fun v112 => c102 [v112] (trim p7.2 [v112] h111)) fun j109 => (indexAddrP 1 p7.1 (nthP w103 0)).bind fun v113 => (loadP false 1 v113 h108).bind fun v114 => (binP .add v114 (.int .i64 128 : PV)).bind fun v115 => (indexAddrArrP 256 1 v5 v115).bind fun v116 => (loadP false 1 v116 h108).bind fun v117 => (binP .add v117 (.int .i64 1 : PV)).bind fun v118 => (indexAddrArrP 256 1 v5 v115).bind fun v119 => (storeP 1 v119 v118 h108).bind fun h120 => j109 [] h120) fun j106 => ifP v105 ( j106 [] h104) ( j9 [] h104)
noncomputable def s21 (Γ : PCallee) (n : Nat) (x0 : PV) (h : PHeap) : Pt := (Γ 26 [x0, (.int .i64 8 : PV)] h).bind fun p0 => (binP .neq p0.1 (.int .i64 0 : PV)).bind fun v1 => KL (fun w3 h4 => forkP (.ptr h4.length 0) (h4 ++ [.box Z256 65 .rw]) fun v5 h6 => (Γ 27 [x0, (.int .i64 8 : PV)] h6).bind fun p7 => (lenP false p7.1).bind fun v8 => KL (fun w10 h11 => forkP (.ptr h11.length 0) (h11 ++ [.box Z256b 69 .rw]) fun v12 h13 => KL (fun w15 h16 => forkP (.ref h16.length 0 0 0 1) (h16 ++ [.log [] 1 3 .rw]) fun v17 h18 => KL (fun w20 h21 => finP [(.flat 1), .keep] h h21 [(nthP w20 0), (.int .i64 0 : PV)]) fun j19 => loopP (s21_L0 Γ n v12 h18 j19) n [v17, (.int .i64 0 : PV)] h18) fun j14 => loopP (s21_L2 Γ n v5 v12 h13 j14) n [(.int .i64 0 : PV)] h13) fun j9 => loopP (s21_L3 Γ n v5 p7 v8 j9) n [(.int .i64 0 : PV)] p7.2) fun j2 => ifP v1 ( finP [(.flat 1), .keep] h p0.2 [(.nilS : PV), p0.1]) ( j2 [] p0.2)
theorem s21_eq (Γ : PCallee) (n : Nat) (x0 : PV) (h : PHeap) : pfunK Γ n A21 [x0] h = s21 Γ n x0 h := by kernel_rfl
open Go.Vm.G in
def A22 : PFun := ⟨2, 83, (S (R <| o 4 (.move (.const (.slice none 0 0))) <| o 5 (.move (i 0)) <| z) <|
  (S (R <| m 14 0 <| o 15 (.call 26 [(t 14), (i 8)]) <| m 6 15 <| z) <|
  (S (S (R <| m 16 6 <| b 17 .eql (t 16) (i 1) <| m 18 17 <| q 22 18 false [19, 20, 21] (m 19 1 <| o 20 (.call 52 [(t 19)]) <| o 21 (.un .not (t 20)) <| z) (t 21) <|
  z) <|
  (.cond (t 22) [] [4, 5]
  (S (R <| o 4 (.move (.const (.slice none 0 0))) <| o 5 (.move (i 1)) <| z) <|
  .ret)
  .skip)) <|
  (S (S (R <| m 23 6 <| b 24 .neq (t 23) (i 0) <| z) <|
  (.cond (t 24) [] [4, 5, 25]
  (S (R <| m 25 6 <| o 4 (.move (.const (.slice none 0 0))) <| m 5 25 <| z) <|
  .ret)
  .skip)) <|
  (S (R <| m 26 0 <| o 27 (.len false (t 26)) <| b 28 .add (t 27) (i 1) <| b 29 .quo (t 28) (i 2) <| o 30 (.mkSlice 5 [(.int .u8 0)] (t 29) (t 29)) <| m 7 30 <| z) <|
  (S (R <| o 8 (.move (i 0)) <| z) <|
  (S (S (R <| o 9 (.move (i 0)) <| z) <|
  (.block 0 [] (g 8 6 ++ g 31 51)
  (.loop [8, 9] (g 10 4 ++ g 31 51)
  (S (S (R <| m 31 9 <| m 32 0 <| o 33 (.len false (t 32)) <| b 34 .lss (t 31) (t 33) <| z) <|
  (.cond (t 34) [] []
  .skip
  (.exit 0))) <|
  (S (.block 1 [8] (g 10 4 ++ g 37 45)
  (S (R <| o 10 (.move (i 0)) <| o 11 (.move (i 1000)) <| z) <|
  (S (S (R <| o 12 (.move (i 0)) <| z) <|
  (.block 2 [10] ([11, 12, 13] ++ g 37 25)
  (.loop [10, 11, 12] ([13] ++ g 37 25)
  (S (S (R <| m 37 12 <| b 38 .lss (t 37) (i 16) <| z) <|
  (.cond (t 38) [] []
  .skip
  (.exit 2))) <|
  (S (.block 3 [10, 11] ([13] ++ g 41 21)
  (S (D <| m 41 8 <| m 42 1 <| m 43 12 <| o 44 (.indexAddr 1 (t 42) (t 43)) <| l 45 44 <| b 46 .add (t 41) (t 45) <| O 47 (.call 43 [(t 46), (i 8)]) <| m 48 0 <| m 49 9 <| o 50 (.indexAddr 1 (t 48) (t 49)) <| l 51 50 <| b 52 .sub (t 47) (t 51) <| m 13 52 <| z) <|
  (S (R <| m 53 13 <| m 54 13 <| o 55 (.un .neg (t 54)) <| o 56 (.max [(t 53), (t 55)]) <| m 13 56 <| z) <|
  (S (R <| m 57 13 <| m 58 11 <| b 59 .lss (t 57) (t 58) <| z) <|
  (.cond (t 59) [10, 11] [60, 61]
  (R <| m 60 12 <| m 61 13 <| m 10 60 <| m 11 61 <| z)
  .skip))))) <|
  (R <| m 39 12 <| b 40 .add (t 39) (i 1) <| m 12 40 <| z)))))) <|
  (S (R <| m 62 8 <| m 63 1 <| m 64 10 <| o 65 (.indexAddr 1 (t 63) (t 64)) <| l 66 65 <| b 67 .add (t 62) (t 66) <| o 68 (.call 43 [(t 67), (i 8)]) <| m 8 68 <| z) <|
  (D <| m 69 7 <| m 70 9 <| b 71 .quo (t 70) (i 2) <| o 72 (.indexAddr 1 (t 69) (t 71)) <| l 73 72 <| m 74 10 <| o 75 (.conv .u8 (t 74)) <| m 76 9 <| b 77 .rem (t 76) (i 2) <| b 78 .mul (i 4) (t 77) <| b 79 .shl (t 75) (t 78) <| b 80 .or (t 73) (t 79) <| o 81 (.indexAddr 1 (t 69) (t 71)) <| n (.store 1 (t 81) (t 80)) <| z))))) <|
  (R <| m 35 9 <| b 36 .add (t 35) (i 1) <| m 9 36 <| z)))))) <|
  (S (R <| m 82 7 <| m 4 82 <| o 5 (.move (i 0)) <| z) <|
  .ret)))))))), [.tmp 4, .tmp 5], [(.flat 1), .keep]⟩
theorem ok22 : ∃ fn c, FunOk Try.prog 22 fn c A22.erase := ⟨Try.f22, _, ⟨Try.func22, rfl, by kernel_rfl, by kernel_rfl, by kernel_rfl, of_decide_eq_true (by kernel_rfl), by kernel_rfl⟩⟩
noncomputable def s22_L0 (Γ : PCallee) (n : Nat) (x0 : PV) (x1 : PV) (w20 : List PV) (h26 : PHeap) (j31 : Kt) : (Kt) → Kt := fun c48 w49 h50 => (binP .lss (nthP w49 2) (.int .i64 16 : PV)).bind fun v51 => KL (fun w53 h54 => KL (fun w56 h57 => (binP .add (nthP w49 2) (.int .i64 1 : PV)).bind fun v58 => c48 [(nthP w56 0), (nthP w56 1), v58] (trim h26 [(nthP w56 0), (nthP w56 1), v58] h57)) fun j55 => (indexAddrP 1 x1 (nthP w49 2)).bind fun v59 => (loadP false 1 v59 h54).bind fun v60 => (binP .add (nthP w20 0) v60).bind fun v61 => (Γ 43 [v61, (.int .i64 8 : PV)] (lock h54)).bind fun p62 => unl h54 p62.2 fun h63 => (indexAddrP 1 x0 (nthP w20 1)).bind fun v64 => (loadP false 1 v64 h63).bind fun v65 => (binP .sub p62.1 v65).bind fun v66 => (unP .neg v66).bind fun v67 => (fold1P max2P [v66, v67]).bind fun v68 => (binP .lss v68 (nthP w49 1)).bind fun v69 => KL (fun w71 h72 => j55 [(nthP w71 0), (nthP w71 1)] h72) fun j70 => ifP v69 ( j70 [(nthP w49 2), v68] h63) ( j70 [(nthP w49 0), (nthP w49 1)] h63)) fun j52 => ifP v51 ( j52 [] h50) ( j31 [(nthP w49 0)] h50)
noncomputable def s22_L1 (Γ : PCallee) (n : Nat) (x0 : PV) (x1 : PV) (p15 : PV × PHeap) (j16 : Kt) : (Kt) → Kt := fun c19 w20 h21 => (lenP false x0).bind fun v22 => (binP .lss (nthP w20 1) v22).bind fun v23 => KL (fun w25 h26 => KL (fun w28 h29 => (binP .add (nthP w20 1) (.int .i64 1 : PV)).bind fun v30 => c19 [(nthP w28 0), v30] (trim p15.2 [(nthP w28 0), v30] h29)) fun j27 => KL (fun w32 h33 => (indexAddrP 1 x1 (nthP w32 0)).bind fun v34 => (loadP false 1 v34 h33).bind fun v35 => (binP .add (nthP w20 0) v35).bind fun v36 => (Γ 43 [v36, (.int .i64 8 : PV)] h33).bind fun p37 => (binP .quo (nthP w20 1) (.int .i64 2 : PV)).bind fun v38 => (indexAddrP 1 p15.1 v38).bind fun v39 => (loadP false 1 v39 p37.2).bind fun v40 => (convP .u8 (nthP w32 0)).bind fun v41 => (binP .rem (nthP w20 1) (.int .i64 2 : PV)).bind fun v42 => (binP .mul (.int .i64 4 : PV) v42).bind fun v43 => (binP .shl v41 v43).bind fun v44 => (binP .or v40 v44).bind fun v45 => (indexAddrP 1 p15.1 v38).bind fun v46 => (storeP 1 v46 v45 p37.2).bind fun h47 => j27 [p37.1] h47) fun j31 => loopP (s22_L0 Γ n x0 x1 w20 h26 j31) n [(.int .i64 0 : PV), (.int .i64 1000 : PV), (.int .i64 0 : PV)] h26) fun j24 => ifP v23 ( j24 [] h21) ( j16 [] h21)
noncomputable def s22 (Γ : PCallee) (n : Nat) (x0 : PV) (x1 : PV) (h : PHeap) : Pt := (Γ 26 [x0, (.int .i64 8 : PV)] h).bind fun p0 => (binP .eql p0.1 (.int .i64 1 : PV)).bind fun v1 => K1 (fun v3 h4 => KL (fun w6 h7 => (binP .neq p0.1 (.int .i64 0 : PV)).bind fun v8 => KL (fun w10 h11 => (lenP false x0).bind fun v12 => (binP .add v12 (.int .i64 1 : PV)).bind fun v13 => (binP .quo v13 (.int .i64 2 : PV)).bind fun v14 => (mkSliceP 5 [.int .u8 0] v14 v14 h11).bind fun p15 => KL (fun w17 h18 => finP [(.flat 1), .keep] h h18 [p15.1, (.int .i64 0 : PV)]) fun j16 => loopP (s22_L1 Γ n x0 x1 p15 j16) n [(.int .i64 0 : PV), (.int .i64 0 : PV)] p15.2) fun j9 => ifP v8 ( finP [(.flat 1), .keep] h h7 [(.nilS : PV), p0.1]) ( j9 [] h7)) fun j5 => ifP v3 ( finP [(.flat 1), .keep] h h4 [(.nilS : PV), (.int .i64 1 : PV)]) ( j5 [] h4)) fun j2 => scP v1 false ( (Γ 52 [x1] p0.2).bind fun p73 => (unP .not p73.1).bind fun v74 => j2 v74 p73.2) (j2 (.bool true) p0.2)
theorem s22_eq (Γ : PCallee) (n : Nat) (x0 : PV) (x1 : PV) (h : PHeap) : pfunK Γ n A22 [x0, x1] h = s22 Γ n x0 x1 h := by kernel_rfl
open Go.Vm.G in
def A23 : PFun := ⟨3, 61, (S (R <| o 6 (.move (.const (.slice none 0 0))) <| o 7 (.move (i 0)) <| o 8 (.move (i 0)) <| z) <|
  (S (S (R <| m 13 1 <| o 14 (.call 52 [(t 13)]) <| o 15 (.un .not (t 14)) <| z) <|
  (.cond (t 15) [] [6, 7, 8]
  (S (R <| o 6 (.move (.const (.slice none 0 0))) <| o 7 (.move (i 0)) <| o 8 (.move (i 1)) <| z) <|
  .ret)
  .skip)) <|
  (S (S (R <| m 16 0 <| m 17 2 <| o 18 (.call 42 [(t 16), (t 17)]) <| m 9 18 <| z) <|
  (S (R <| m 19 9 <| b 20 .neq (t 19) (i 0) <| z) <|
  (.cond (t 20) [] [6, 7, 8, 21]
  (S (R <| m 21 9 <| o 6 (.move (.const (.slice none 0 0))) <| o 7 (.move (i 0)) <| m 8 21 <| z) <|
  .ret)
  .skip))) <|
  (S (R <| (.op (some 10) (.growNil 3 1) false <| z)) <|
  (S (R <| o 11 (.move (i 0)) <| z) <|
  (S (S (R <| o 12 (.move (i 0)) <| z) <|
  (.block 0 [10] ([11, 12] ++ g 22 32)
  (.loop [10, 11, 12] (g 22 32)
  (S (S (R <| m 22 12 <| m 23 2 <| b 24 .lss (t 22) (t 23) <| m 25 24 <| q 31 25 true (g 26 5) (m 26 12 <| b 27 .quo (t 26) (i 2) <| m 28 0 <| o 29 (.len false (t 28)) <| b 30 .lss (t 27) (t 29) <| z) (t 30) <|
  z) <|
  (.cond (t 31) [] []
  .skip
  (.exit 0))) <|
  (S (.block 1 [10, 11] (g 34 20)
  (S (R <| m 34 11 <| m 35 1 <| m 36 0 <| m 37 12 <| b 38 .quo (t 37) (i 2) <| o 39 (.indexAddr 1 (t 36) (t 38)) <| l 40 39 <| m 41 12 <| b 42 .rem (t 41) (i 2) <| b 43 .mul (i 4) (t 42) <| b 44 .shr (t 40) (t 43) <| b 45 .and (t 44) (.const (.int .u8 15)) <| o 46 (.indexAddr 1 (t 35) (t 45)) <| l 47 46 <| b 48 .add (t 34) (t 47) <| o 49 (.call 43 [(t 48), (i 8)]) <| m 11 49 <| z) <|
  (R <| m 50 10 <| m 51 11 <| (.op (some 52) (.buildF 3 [(.int .i64 0)] 1 [(0, 1, (t 51))]) false <| o 53 (.append 3 1 (t 50) (t 52)) <| m 10 53 <| z)))) <|
  (R <| m 32 12 <| b 33 .add (t 32) (i 1) <| m 12 33 <| z)))))) <|
  (S (R <| m 54 10 <| m 55 2 <| F 54 (.flat 1) <| o 56 (.call 44 [(t 54), (t 55)]) <| m 57 2 <| m 58 10 <| o 59 (.len false (t 58)) <| b 60 .sub (t 57) (t 59) <| m 6 56 <| m 7 60 <| o 8 (.move (i 0)) <| z) <|
  .ret))))))), [.tmp 6, .tmp 7, .tmp 8], [(.flat 1), .keep, .keep]⟩
theorem ok23 : ∃ fn c, FunOk Try.prog 23 fn c A23.erase := ⟨Try.f23, _, ⟨Try.func23, rfl, by kernel_rfl, by kernel_rfl, by kernel_rfl, of_decide_eq_true (by kernel_rfl), by kernel_rfl⟩⟩
noncomputable def s23_L0 (Γ : PCallee) (n : Nat) (x0 : PV) (x1 : PV) (x2 : PV) (h11 : PHeap) (j12 : Kt) : (Kt) → Kt := fun c19 w20 h21 => (binP .lss (nthP w20 2) x2).bind fun v22 => K1 (fun v24 h25 => KL (fun w27 h28 => KL (fun w30 h31 => (binP .add (nthP w20 2) (.int .i64 1 : PV)).bind fun v32 => c19 [(nthP w30 0), (nthP w30 1), v32] (trim h11 [(nthP w30 0), (nthP w30 1), v32] h31)) fun j29 => (binP .quo (nthP w20 2) (.int .i64 2 : PV)).bind fun v33 => (indexAddrP 1 x0 v33).bind fun v34 => (loadP false 1 v34 h28).bind fun v35 => (binP .rem (nthP w20 2) (.int .i64 2 : PV)).bind fun v36 => (binP .mul (.int .i64 4 : PV) v36).bind fun v37 => (binP .shr v35 v37).bind fun v38 => (binP .and v38 (.int .u8 15 : PV)).bind fun v39 => (indexAddrP 1 x1 v39).bind fun v40 => (loadP false 1 v40 h28).bind fun v41 => (binP .add (nthP w20 1) v41).bind fun v42 => (Γ 43 [v42, (.int .i64 8 : PV)] h28).bind fun p43 => (fillP (repP [.int .i64 0] 1) [(0, 1, p43.1)]).bind fun l44 => guardP (l44.all pure1) ( forkP (.frz 1 (chunk 1 1 l44)) (p43.2) fun v45 h46 => (appendP 3 1 (nthP w20 0) v45 h46).bind fun p47 => j29 [p47.1, p43.1] p47.2)) fun j26 => ifP v24 ( j26 [] h25) ( j12 [(nthP w20 0)] h25)) fun j23 => scP v22 true ( (binP .quo (nthP w20 2) (.int .i64 2 : PV)).bind fun v48 => (lenP false x0).bind fun v49 => (binP .lss v48 v49).bind fun v50 => j23 v50 h21) (j23 (.bool false) h21)
noncomputable def s23 (Γ : PCallee) (n : Nat) (x0 : PV) (x1 : PV) (x2 : PV) (h : PHeap) : Pt := (Γ 52 [x1] h).bind fun p0 => (unP .not p0.1).bind fun v1 => KL (fun w3 h4 => (Γ 42 [x0, x2] h4).bind fun p5 => (binP .neq p5.1 (.int .i64 0 : PV)).bind fun v6 => KL (fun w8 h9 => forkP (.ref h9.length 0 0 0 1) (h9 ++ [.log [] 1 3 .rw]) fun v10 h11 => KL (fun w13 h14 => (fz (.flat 1) (nthP w13 0) h14).bind fun q15 => (Γ 44 [q15.1, x2] q15.2).bind fun p16 => (lenP false (nthP w13 0)).bind fun v17 => (binP .sub x2 v17).bind fun v18 => finP [(.flat 1), .keep, .keep] h p16.2 [p16.1, v18, (.int .i64 0 : PV)]) fun j12 => loopP (s23_L0 Γ n x0 x1 x2 h11 j12) n [v10, (.int .i64 0 : PV), (.int .i64 0 : PV)] h11) fun j7 => ifP v6 ( finP [(.flat 1), .keep, .keep] h p5.2 [(.nilS : PV), (.int .i64 0 : PV), p5.1]) ( j7 [] p5.2)) fun j2 => ifP v1 ( finP [(.flat 1), .keep, .keep] h p0.2 [(.nilS : PV), (.int .i64 0 : PV), (.int .i64 1 : PV)]) ( j2 [] p0.2)
theorem s23_eq (Γ : PCallee) (n : Nat) (x0 : PV) (x1 : PV) (x2 : PV) (h : PHeap) : pfunK Γ n A23 [x0, x1, x2] h = s23 Γ n x0 x1 x2 h := by kernel_rfl
def A24 : PFun := ⟨2, 17, (.seq (.region false (.op (some 3) (.a (.box 3 (.tmp 1))) false
  (.op (some 4) (.a (.move (.const (.int .i64 0)))) false
  .nil)))
  (.seq (.seq (.region false (.op (some 5) (.a (.load false 1 (.tmp 3))) false
  (.op (some 6) (.a (.bin .neq (.tmp 5) (.const (.int .i64 8)))) false
  (.op (some 7) (.a (.move (.tmp 6))) false
  (.sc 10 7 true [8, 9]
  (.op (some 8) (.a (.load false 1 (.tmp 3))) false
  (.op (some 9) (.a (.bin .neq (.tmp 8) (.const (.int .i64 16)))) false
  .nil)) (.tmp 9)
  .nil)))))
  (.cond (.tmp 10) [] [4]
  (.seq (.region false (.op (some 4) (.a (.move (.const (.int .i64 1)))) false
  .nil))
  .ret)
  .skip))
  (.seq (.seq (.region false (.op (some 11) (.a (.move (.tmp 0))) false
  (.op (some 12) (.a (.mkFunc 53 [] [(.tmp 3)])) false
  (.op (some 13) (.a (.call 35 [(.tmp 11), (.tmp 12)])) false
  .nil))))
  (.cond (.tmp 13) [] [4]
  (.seq (.region false (.op (some 4) (.a (.move (.const (.int .i64 1)))) false
  .nil))
  .ret)
  .skip))
  (.seq (.seq (.region false (.op (some 14) (.a (.move (.tmp 0))) false
  (.op (some 15) (.a (.len false (.tmp 14))) false
  (.op (some 16) (.a (.bin .gtr (.tmp 15) (.const (.int .i64 4096)))) false
  .nil))))
  (.cond (.tmp 16) [] [4]
  (.seq (.region false (.op (some 4) (.a (.move (.const (.int .i64 3)))) false
  .nil))
  .ret)
  .skip))
  (.seq (.region false (.op (some 4) (.a (.move (.const (.int .i64 0)))) false
  .nil))
  .ret))))), [.tmp 4], [.keep]⟩
theorem ok24 : ∃ fn c, FunOk Try.prog 24 fn c A24.erase := ⟨Try.f24, _, ⟨Try.func24, rfl, by kernel_rfl, by kernel_rfl, by kernel_rfl, of_decide_eq_true (by kernel_rfl), by kernel_rfl⟩⟩
noncomputable def s24 (Γ : PCallee) (n : Nat) (x0 : PV) (x1 : PV) (h : PHeap) : Pt := forkP (.ptr h.length 0) (h ++ [.box (cellsP x1) 3 .rw]) fun v0 h1 => (loadP false 1 v0 h1).bind fun v2 => (binP .neq v2 (.int .i64 8 : PV)).bind fun v3 => K1 (fun v5 h6 => KL (fun w8 h9 => (Γ 35 [x0, (PV.func 53 [] [v0])] h9).bind fun p10 => KL (fun w12 h13 => (lenP false x0).bind fun v14 => (binP .gtr v14 (.int .i64 4096 : PV)).bind fun v15 => KL (fun w17 h18 => finP [.keep] h h18 [(.int .i64 0 : PV)]) fun j16 => ifP v15 ( finP [.keep] h h13 [(.int .i64 3 : PV)]) ( j16 [] h13)) fun j11 => ifP p10.1 ( finP [.keep] h p10.2 [(.int .i64 1 : PV)]) ( j11 [] p10.2)) fun j7 => ifP v5 ( finP [.keep] h h6 [(.int .i64 1 : PV)]) ( j7 [] h6)) fun j4 => scP v3 true ( (loadP false 1 v0 h1).bind fun v19 => (binP .neq v19 (.int .i64 16 : PV)).bind fun v20 => j4 v20 h1) (j4 (.bool false) h1)
theorem s24_eq (Γ : PCallee) (n : Nat) (x0 : PV) (x1 : PV) (h : PHeap) : pfunK Γ n A24 [x0, x1] h = s24 Γ n x0 x1 h := by kernel_rfl
def A25 : PFun := ⟨2, 29, (.seq (.region false (.op (some 4) (.a (.move (.const (.slice none 0 0)))) false
  .nil))
  (.seq (.region false (.op (some 9) (.a (.move (.tmp 0))) false
  (.op (some 10) (.a (.len false (.tmp 9))) false
  (.op (some 11) (.a (.mkSlice 3 [(.int .i64 0)] (.const (.int .i64 0)) (.tmp 10))) false
  (.op (some 5) (.a (.move (.tmp 11))) false
  .nil)))))
  (.seq (.region false (.op (some 6) (.a (.move (.const (.int .i64 0)))) false
  .nil))
  (.seq (.seq (.region false (.op (some 12) (.a (.move (.tmp 0))) false
  (.op (some 13) (.a (.len false (.tmp 12))) false
  (.op (some 14) (.a (.move (.const (.int .i64 0)))) false
  .nil))))
  (.block 0 [5] [6, 8, 14, 15, 16, 17, 18, 19, 20, 21, 22, 23, 24, 25, 26, 27]
  (.loop [5, 6, 14] [8, 15, 16, 17, 18, 19, 20, 21, 22, 23, 24, 25, 26, 27]
  (.seq (.region false (.op (some 15) (.a (.bin .lss (.tmp 14) (.tmp 13))) false
  .nil))
  (.seq (.cond (.tmp 15) [] []
  .skip
  (.exit 0))
  (.seq (.block 1 [5, 6] [8, 16, 17, 18, 19, 20, 21, 22, 23, 24, 25, 26]
  (.seq (.region false (.op (some 16) (.a (.indexAddr 1 (.tmp 12) (.tmp 14))) false
  (.op (some 17) (.a (.load false 1 (.tmp 16))) false
  (.op (some 8) (.a (.move (.tmp 17))) false
  .nil))))
  (.seq (.region false (.op (some 18) (.a (.move (.tmp 5))) false
  (.op (some 19) (.a (.move (.tmp 8))) false
  (.op (some 20) (.a (.move (.tmp 6))) false
  (.op (some 21) (.a (.bin .sub (.tmp 19) (.tmp 20))) false
  (.op (some 22) (.a (.move (.tmp 1))) false
  (.op (some 23) (.a (.call 38 [(.tmp 21), (.tmp 22)])) false
  (.op (some 24) (.buildF 3 [(.int .i64 0)] 1 [(0, 1, (.tmp 23))]) false
  (.op (some 25) (.a (.append 3 1 (.tmp 18) (.tmp 24))) false
  (.op (some 5) (.a (.move (.tmp 25))) false
  .nil))))))))))
  (.region false (.op (some 26) (.a (.move (.tmp 8))) false
  (.op (some 6) (.a (.move (.tmp 26))) false
  .nil))))))
  (.region false (.op (some 27) (.a (.bin .add (.tmp 14) (.const (.int .i64 1)))) false
  (.op (some 14) (.a (.move (.tmp 27))) false
  .nil)))))))))
  (.seq (.region false (.op (some 28) (.a (.move (.tmp 5))) false
  (.op (some 4) (.a (.move (.tmp 28))) false
  .nil)))
  .ret))))), [.tmp 4], [(.flat 1)]⟩
theorem ok25 : ∃ fn c, FunOk Try.prog 25 fn c A25.erase := ⟨Try.f25, _, ⟨Try.func25, rfl, by kernel_rfl, by kernel_rfl, by kernel_rfl, of_decide_eq_true (by kernel_rfl), by kernel_rfl⟩⟩
noncomputable def s25_L0 (Γ : PCallee) (n : Nat) (x0 : PV) (x1 : PV) (p1 : PV × PHeap) (v2 : PV) (j3 : Kt) : (Kt) → Kt := fun c6 w7 h8 => (binP .lss (nthP w7 2) v2).bind fun v9 => KL (fun w11 h12 => KL (fun w14 h15 => (binP .add (nthP w7 2) (.int .i64 1 : PV)).bind fun v16 => c6 [(nthP w14 0), (nthP w14 1), v16] (trim p1.2 [(nthP w14 0), (nthP w14 1), v16] h15)) fun j13 => (indexAddrP 1 x0 (nthP w7 2)).bind fun v17 => (loadP false 1 v17 h12).bind fun v18 => (binP .sub v18 (nthP w7 1)).bind fun v19 => (Γ 38 [v19, x1] h12).bind fun p20 => (fillP (repP [.int .i64 0] 1) [(0, 1, p20.1)]).bind fun l21 => guardP (l21.all pure1) ( forkP (.frz 1 (chunk 1 1 l21)) (p20.2) fun v22 h23 => (appendP 3 1 (nthP w7 0) v22 h23).bind fun p24 => j13 [p24.1, v18] p24.2)) fun j10 => ifP v9 ( j10 [] h8) ( j3 [(nthP w7 0)] h8)
noncomputable def s25 (Γ : PCallee) (n : Nat) (x0 : PV) (x1 : PV) (h : PHeap) : Pt := (lenP false x0).bind fun v0 => (mkSliceP 3 [.int .i64 0] (.int .i64 0 : PV) v0 h).bind fun p1 => (lenP false x0).bind fun v2 => KL (fun w4 h5 => finP [(.flat 1)] h h5 [(nthP w4 0)]) fun j3 => loopP (s25_L0 Γ n x0 x1 p1 v2 j3) n [p1.1, (.int .i64 0 : PV), (.int .i64 0 : PV)] p1.2
theorem s25_eq (Γ : PCallee) (n : Nat) (x0 : PV) (x1 : PV) (h : PHeap) : pfunK Γ n A25 [x0, x1] h = s25 Γ n x0 x1 h := by kernel_rfl
def A26 : PFun := ⟨2, 25, (.seq (.region false (.op (some 4) (.a (.move (.const (.int .i64 0)))) false
  .nil))
  (.seq (.seq (.region false (.op (some 6) (.a (.move (.tmp 1))) false
  (.op (some 7) (.a (.call 32 [(.tmp 6)])) false
  (.op (some 8) (.a (.un .not (.tmp 7))) false
  .nil))))
  (.cond (.tmp 8) [] [4]
  (.seq (.region false (.op (some 4) (.a (.move (.const (.int .i64 1)))) false
  .nil))
  .ret)
  .skip))
  (.seq (.seq (.region false (.op (some 5) (.a (.move (.const (.int .i64 0)))) false
  .nil))
  (.block 0 [] [4, 5, 9, 10, 11, 12, 13, 14, 15, 16, 17, 18, 19, 20, 21]
  (.loop [5] [4, 9, 10, 11, 12, 13, 14, 15, 16, 17, 18, 19, 20, 21]
  (.seq (.seq (.region false (.op (some 9) (.a (.move (.tmp 5))) false
  (.op (some 10) (.a (.move (.tmp 0))) false
  (.op (some 11) (.a (.len false (.tmp 10))) false
  (.op (some 12) (.a (.bin .lss (.tmp 9) (.tmp 11))) false
  .nil)))))
  (.cond (.tmp 12) [] []
  .skip
  (.exit 0)))
  (.seq (.block 1 [] [4, 15, 16, 17, 18, 19, 20, 21]
  (.seq (.region false (.op (some 15) (.a (.move (.tmp 0))) false
  (.op (some 16) (.a (.move (.tmp 5))) false
  (.op (some 17) (.a (.indexAddr 1 (.tmp 15) (.tmp 16))) false
  (.op (some 18) (.a (.load false 1 (.tmp 17))) false
  (.op (some 19) (.a (.move (.tmp 1))) false
  (.op (some 20) (.a (.call 54 [(.tmp 18), (.tmp 19)])) false
  (.op (some 21) (.a (.un .not (.tmp 20))) false
  .nil))))))))
  (.cond (.tmp 21) [] [4]
  (.seq (.region false (.op (some 4) (.a (.move (.const (.int .i64 1)))) false
  .nil))
  .ret)
  .skip)))
  (.region false (.op (some 13) (.a (.move (.tmp 5))) false
  (.op (some 14) (.a (.bin .add (.tmp 13) (.const (.int .i64 1)))) false
  (.op (some 5) (.a (.move (.tmp 14))) false
  .nil)))))))))
  (.seq (.seq (.region false (.op (some 22) (.a (.move (.tmp 0))) false
  (.op (some 23) (.a (.len false (.tmp 22))) false
  (.op (some 24) (.a (.bin .gtr (.tmp 23) (.const (.int .i64 4096)))) false
  .nil))))
  (.cond (.tmp 24) [] [4]
  (.seq (.region false (.op (some 4) (.a (.move (.const (.int .i64 3)))) false
  .nil))
  .ret)
  .skip))
  (.seq (.region false (.op (some 4) (.a (.move (.const (.int .i64 0)))) false
  .nil))
  .ret))))), [.tmp 4], [.keep]⟩
theorem ok26 : ∃ fn c, FunOk Try.prog 26 fn c A26.erase := ⟨Try.f26, _, ⟨Try.func26, rfl, by kernel_rfl, by kernel_rfl, by kernel_rfl, of_decide_eq_true (by kernel_rfl), by kernel_rfl⟩⟩
noncomputable def s26_L0 (Γ : PCallee) (n : Nat) (x0 : PV) (x1 : PV) (h : PHeap) (h4 : PHeap) (j5 : Kt) : (Kt) → Kt := fun c13 w14 h15 => (lenP false x0).bind fun v16 => (binP .lss (nthP w14 0) v16).bind fun v17 => KL (fun w19 h20 => KL (fun w22 h23 => (binP .add (nthP w14 0) (.int .i64 1 : PV)).bind fun v24 => c13 [v24] (trim h4 [v24] h23)) fun j21 => (indexAddrP 1 x0 (nthP w14 0)).bind fun v25 => (loadP false 1 v25 h20).bind fun v26 => (Γ 54 [v26, x1] h20).bind fun p27 => (unP .not p27.1).bind fun v28 => KL (fun w30 h31 => j21 [] h31) fun j29 => ifP v28 ( finP [.keep] h p27.2 [(.int .i64 1 : PV)]) ( j29 [] p27.2)) fun j18 => ifP v17 ( j18 [] h15) ( j5 [] h15)
noncomputable def s26 (Γ : PCallee) (n : Nat) (x0 : PV) (x1 : PV) (h : PHeap) : Pt := (Γ 32 [x1] h).bind fun p0 => (unP .not p0.1).bind fun v1 => KL (fun w3 h4 => KL (fun w6 h7 => (lenP false x0).bind fun v8 => (binP .gtr v8 (.int .i64 4096 : PV)).bind fun v9 => KL (fun w11 h12 => finP [.keep] h h12 [(.int .i64 0 : PV)]) fun j10 => ifP v9 ( finP [.keep] h h7 [(.int .i64 3 : PV)]) ( j10 [] h7)) fun j5 => loopP (s26_L0 Γ n x0 x1 h h4 j5) n [(.int .i64 0 : PV)] h4) fun j2 => ifP v1 ( finP [.keep] h p0.2 [(.int .i64 1 : PV)]) ( j2 [] p0.2)
theorem s26_eq (Γ : PCallee) (n : Nat) (x0 : PV) (x1 : PV) (h : PHeap) : pfunK Γ n A26 [x0, x1] h = s26 Γ n x0 x1 h := by kernel_rfl
def A27 : PFun := ⟨2, 33, (.seq (.region false (.op (some 4) (.a (.move (.const (.slice none 0 0)))) false
  .nil))
  (.seq (.region false (.op (some 8) (.a (.move (.tmp 0))) false
  (.op (some 9) (.a (.len false (.tmp 8))) false
  (.op (some 10) (.a (.mkSlice 3 [(.int .i64 0)] (.tmp 9) (.tmp 9))) false
  (.op (some 5) (.a (.move (.tmp 10))) false
  .nil)))))
  (.seq (.region false (.op (some 6) (.a (.move (.const (.int .i64 0)))) false
  .nil))
  (.seq (.seq (.region false (.op (some 7) (.a (.move (.const (.int .i64 0)))) false
  .nil))
  (.block 0 [] [6, 7, 11, 12, 13, 14, 15, 16, 17, 18, 19, 20, 21, 22, 23, 24, 25, 26, 27, 28, 29, 30, 31]
  (.loop [6, 7] [11, 12, 13, 14, 15, 16, 17, 18, 19, 20, 21, 22, 23, 24, 25, 26, 27, 28, 29, 30, 31]
  (.seq (.seq (.region false (.op (some 11) (.a (.move (.tmp 7))) false
  (.op (some 12) (.a (.move (.tmp 0))) false
  (.op (some 13) (.a (.len false (.tmp 12))) false
  (.op (some 14) (.a (.bin .lss (.tmp 11) (.tmp 13))) false
  .nil)))))
  (.cond (.tmp 14) [] []
  .skip
  (.exit 0)))
  (.seq (.block 1 [6] [17, 18, 19, 20, 21, 22, 23, 24, 25, 26, 27, 28, 29, 30, 31]
  (.seq (.region false (.op (some 17) (.a (.move (.tmp 5))) false
  (.op (some 18) (.a (.move (.tmp 7))) false
  (.op (some 19) (.a (.move (.tmp 0))) false
  (.op (some 20) (.a (.move (.tmp 7))) false
  (.op (some 21) (.a (.indexAddr 1 (.tmp 19) (.tmp 20))) false
  (.op (some 22) (.a (.load false 1 (.tmp 21))) false
  (.op (some 23) (.a (.move (.tmp 6))) false
  (.op (some 24) (.a (.bin .sub (.tmp 22) (.tmp 23))) false
  (.op (some 25) (.a (.move (.tmp 1))) false
  (.op (some 26) (.a (.call 43 [(.tmp 24), (.tmp 25)])) false
  (.op (some 27) (.a (.indexAddr 1 (.tmp 17) (.tmp 18))) false
  (.op none (.a (.store 1 (.tmp 27) (.tmp 26))) false
  .nil)))))))))))))
  (.region false (.op (some 28) (.a (.move (.tmp 0))) false
  (.op (some 29) (.a (.move (.tmp 7))) false
  (.op (some 30) (.a (.indexAddr 1 (.tmp 28) (.tmp 29))) false
  (.op (some 31) (.a (.load false 1 (.tmp 30))) false
  (.op (some 6) (.a (.move (.tmp 31))) false
  .nil))))))))
  (.region false (.op (some 15) (.a (.move (.tmp 7))) false
  (.op (some 16) (.a (.bin .add (.tmp 15) (.const (.int .i64 1)))) false
  (.op (some 7) (.a (.move (.tmp 16))) false
  .nil)))))))))
  (.seq (.region false (.op (some 32) (.a (.move (.tmp 5))) false
  (.op (some 4) (.a (.move (.tmp 32))) false
  .nil)))
  .ret))))), [.tmp 4], [(.flat 1)]⟩
theorem ok27 : ∃ fn c, FunOk Try.prog 27 fn c A27.erase := ⟨Try.f27, _, ⟨Try.func27, rfl, by kernel_rfl, by kernel_rfl, by kernel_rfl, of_decide_eq_true (by kernel_rfl), by kernel_rfl⟩⟩
noncomputable def s27_L0 (Γ : PCallee) (n : Nat) (x0 : PV) (x1 : PV) (p1 : PV × PHeap) (j2 : Kt) : (Kt) → Kt := fun c5 w6 h7 => (lenP false x0).bind fun v8 => (binP .lss (nthP w6 1) v8).bind fun v9 => KL (fun w11 h12 => KL (fun w14 h15 => (binP .add (nthP w6 1) (.int .i64 1 : PV)).bind fun v16 => c5 [(nthP w14 0), v16] (trim p1.2 [(nthP w14 0), v16] h15)) fun j13 => (indexAddrP 1 x0 (nthP w6 1)).bind fun v17 => (loadP false 1 v17 h12).bind fun v18 => (binP .sub v18 (nthP w6 0)).bind fun v19 => (Γ 43 [v19, x1] h12).bind fun p20 => (indexAddrP 1 p1.1 (nthP w6 1)).bind fun v21 => (storeP 1 v21 p20.1 p20.2).bind fun h22 => (indexAddrP 1 x0 (nthP w6 1)).bind fun v23 => (loadP false 1 v23 h22).bind fun v24 => j13 [v24] h22) fun j10 => ifP v9 ( j10 [] h7) ( j2 [] h7)
noncomputable def s27 (Γ : PCallee) (n : Nat) (x0 : PV) (x1 : PV) (h : PHeap) : Pt := (lenP false x0).bind fun v0 => (mkSliceP 3 [.int .i64 0] v0 v0 h).bind fun p1 => KL (fun w3 h4 => finP [(.flat 1)] h h4 [p1.1]) fun j2 => loopP (s27_L0 Γ n x0 x1 p1 j2) n [(.int .i64 0 : PV), (.int .i64 0 : PV)] p1.2
theorem s27_eq (Γ : PCallee) (n : Nat) (x0 : PV) (x1 : PV) (h : PHeap) : pfunK Γ n A27 [x0, x1] h = s27 Γ n x0 x1 h := by kernel_rfl
def A28 : PFun := ⟨0, 10, (.seq (.region false (.op (some 0) (.a (.move (.const (.map none)))) false
  .nil))
  (.seq (.region false (.op (some 1) (.a (.move (.func 55))) false
  .nil))
  (.seq (.region false (.op (some 2) (.a .mkMap) false
  (.op (some 3) (.a (.build [.nilFunc, .nilFunc] [(0, 1, (.func 25)), (1, 1, (.func 41))])) false
  (.op none (.a (.mapSet .int (.tmp 2) (.const (.int .i64 1)) (.tmp 3))) false
  (.op (some 4) (.a (.move (.tmp 1))) false
  (.op (some 5) (.a (.callV (.tmp 4) [(.func 25)])) false
  (.op (some 6) (.a (.move (.tmp 1))) false
  (.op (some 7) (.a (.callV (.tmp 6) [(.func 41)])) false
  (.op (some 8) (.a (.build [.nilFunc, .nilFunc] [(0, 1, (.tmp 5)), (1, 1, (.tmp 7))])) false
  (.op none (.a (.mapSet .int (.tmp 2) (.const (.int .i64 2)) (.tmp 8))) false
  (.op (some 9) (.a (.move (.tmp 2))) false
  (.op (some 0) (.a (.move (.tmp 9))) false
  .nil))))))))))))
  .ret))), [.tmp 0], [.keep]⟩
theorem ok28 : ∃ fn c, FunOk Try.prog 28 fn c A28.erase := ⟨Try.f28, _, ⟨Try.func28, rfl, by kernel_rfl, by kernel_rfl, by kernel_rfl, of_decide_eq_true (by kernel_rfl), by kernel_rfl⟩⟩
noncomputable def s28 (Γ : PCallee) (n : Nat) (h : PHeap) : Pt := forkP (.map h.length) (h ++ [.map [] .rw]) fun v0 h1 => (fillP [.nilF, .nilF] [(0, 1, (PV.func 25 [] [])), (1, 1, (PV.func 41 [] []))]).bind fun l2 => (setMapP .int v0 (.int .i64 1 : PV) (PV.agg l2) h1).bind fun h3 => (callVP Γ (PV.func 55 [] []) [(PV.func 25 [] [])] h3).bind fun p4 => (callVP Γ (PV.func 55 [] []) [(PV.func 41 [] [])] p4.2).bind fun p5 => (fillP [.nilF, .nilF] [(0, 1, p4.1), (1, 1, p5.1)]).bind fun l6 => (setMapP .int v0 (.int .i64 2 : PV) (PV.agg l6) p5.2).bind fun h7 => finP [.keep] h h7 [v0]
theorem s28_eq (Γ : PCallee) (n : Nat) (h : PHeap) : pfunK Γ n A28 [] h = s28 Γ n h := by kernel_rfl
def A29 : PFun := ⟨2, 9, (.seq (.region false (.op (some 2) (.a (.box 22 (.tmp 0))) false
  (.op (some 3) (.a (.box 3 (.tmp 1))) false
  (.op (some 4) (.a (.move (.const .nilFunc))) false
  .nil))))
  (.seq (.seq (.region false (.op (some 5) (.a (.load false 1 (.tmp 3))) false
  (.op (some 6) (.a (.bin .lss (.tmp 5) (.const (.int .i64 1)))) false
  .nil)))
  (.cond (.tmp 6) [] [7]
  (.region false (.op (some 7) (.a (.mkIface 9 (.const (.string ⟨#[99, 97, 110, 110, 111, 116, 32, 98, 101, 32, 108, 101, 115, 115, 32, 116, 104, 97, 110, 32, 49]⟩)))) false
  (.op none (.a .fail) false
  .nil)))
  .skip))
  (.seq (.region false (.op (some 8) (.a (.mkFunc 57 [] [(.tmp 2), (.tmp 3)])) false
  (.op (some 4) (.a (.move (.tmp 8))) false
  .nil)))
  .ret))), [.tmp 4], [.keep]⟩
theorem ok29 : ∃ fn c, FunOk Try.prog 29 fn c A29.erase := ⟨Try.f29, _, ⟨Try.func29, rfl, by kernel_rfl, by kernel_rfl, by kernel_rfl, of_decide_eq_true (by kernel_rfl), by kernel_rfl⟩⟩
noncomputable def s29 (Γ : PCallee) (n : Nat) (x0 : PV) (x1 : PV) (h : PHeap) : Pt := forkP (.ptr h.length 0) (h ++ [.box (cellsP x0) 22 .rw]) fun v0 h1 => forkP (.ptr h1.length 0) (h1 ++ [.box (cellsP x1) 3 .rw]) fun v2 h3 => (loadP false 1 v2 h3).bind fun v4 => (binP .lss v4 (.int .i64 1 : PV)).bind fun v5 => KL (fun w7 h8 => finP [.keep] h h8 [(PV.func 57 [] [v0, v2])]) fun j6 => ifP v5 ( none) ( j6 [] h3)
theorem s29_eq (Γ : PCallee) (n : Nat) (x0 : PV) (x1 : PV) (h : PHeap) : pfunK Γ n A29 [x0, x1] h = s29 Γ n x0 x1 h := by kernel_rfl
def A30 : PFun := ⟨1, 28, (.seq (.region false (.op (some 2) (.a (.move (.const (.int .i64 0)))) false
  .nil))
  (.seq (.region false (.op (some 3) (.a (.move (.const (.int .i64 1)))) false
  .nil))
  (.seq (.seq (.region false (.op (some 6) (.a (.move (.tmp 0))) false
  (.op (some 7) (.a (.len false (.tmp 6))) false
  (.op (some 8) (.a (.move (.const (.int .i64 0)))) false
  .nil))))
  (.block 0 [3] [5, 8, 9, 10, 11, 12, 13, 14, 15, 16, 17, 18, 19, 20, 21, 22, 23, 24, 25, 26]
  (.loop [3, 8, 18, 19, 20, 21, 22] [5, 9, 10, 11, 12, 13, 14, 15, 16, 17, 23, 24, 25, 26]
  (.seq (.region false (.op (some 9) (.a (.bin .lss (.tmp 8) (.tmp 7))) false
  .nil))
  (.seq (.cond (.tmp 9) [] []
  .skip
  (.exit 0))
  (.seq (.block 1 [3, 18, 19, 20, 21, 22] [5, 10, 11, 12, 13, 14, 15, 16, 17, 23, 24, 25]
  (.seq (.region false (.op (some 10) (.a (.indexAddr 1 (.tmp 6) (.tmp 8))) false
  (.op (some 11) (.a (.load false 1 (.tmp 10))) false
  (.op (some 5) (.a (.move (.tmp 11))) false
  .nil))))
  (.block 2 [3, 18, 19, 20, 21, 22] [12, 13, 14, 15, 16, 17, 23, 24, 25]
  (.loop [3, 18, 19, 20, 21, 22] [12, 13, 14, 15, 16, 17, 23, 24, 25]
  (.seq (.seq (.region false (.op (some 12) (.a (.move (.tmp 5))) false
  (.op (some 13) (.a (.move (.tmp 3))) false
  (.op (some 14) (.a (.bin .sub (.tmp 13) (.const (.int .i64 1)))) false
  (.op (some 15) (.a (.bin .shl (.const (.int .i64 (-1))) (.tmp 14))) false
  (.op (some 16) (.a (.bin .lss (.tmp 12) (.tmp 15))) false
  (.op (some 17) (.a (.move (.tmp 16))) false
  (.sc 23 17 false [18, 19, 20, 21, 22]
  (.op (some 18) (.a (.move (.tmp 5))) false
  (.op (some 19) (.a (.move (.tmp 3))) false
  (.op (some 20) (.a (.bin .sub (.tmp 19) (.const (.int .i64 1)))) false
  (.op (some 21) (.a (.bin .shl (.const (.int .i64 1)) (.tmp 20))) false
  (.op (some 22) (.a (.bin .geq (.tmp 18) (.tmp 21))) false
  .nil))))) (.tmp 22)
  .nil))))))))
  (.cond (.tmp 23) [] []
  .skip
  (.exit 2)))
  (.block 3 [3] [24, 25]
  (.region false (.op (some 24) (.a (.move (.tmp 3))) false
  (.op (some 25) (.a (.bin .add (.tmp 24) (.const (.int .i64 1)))) false
  (.op (some 3) (.a (.move (.tmp 25))) false
  .nil))))))))))
  (.region false (.op (some 26) (.a (.bin .add (.tmp 8) (.const (.int .i64 1)))) false
  (.op (some 8) (.a (.move (.tmp 26))) false
  .nil)))))))))
  (.seq (.region false (.op (some 27) (.a (.move (.tmp 3))) false
  (.op (some 2) (.a (.move (.tmp 27))) false
  .nil)))
  .ret)))), [.tmp 2], [.keep]⟩
theorem ok30 : ∃ fn c, FunOk Try.prog 30 fn c A30.erase := ⟨Try.f30, _, ⟨Try.func30, rfl, by kernel_rfl, by kernel_rfl, by kernel_rfl, of_decide_eq_true (by kernel_rfl), by kernel_rfl⟩⟩
noncomputable def s30_L0 (Γ : PCallee) (n : Nat) (h10 : PHeap) (v16 : PV) (j17 : Kt) : (Kt) → Kt := fun c20 w21 h22 => (binP .sub (nthP w21 0) (.int .i64 1 : PV)).bind fun v23 => (binP .shl (.int .i64 (-1) : PV) v23).bind fun v24 => (binP .lss v16 v24).bind fun v25 => K1 (fun v27 h28 => KL (fun w30 h31 => KL (fun w33 h34 => c20 [(nthP w33 0), PV.junk, PV.junk, PV.junk, PV.junk, PV.junk] (trim h10 [(nthP w33 0), PV.junk, PV.junk, PV.junk, PV.junk, PV.junk] h34)) fun j32 => (binP .add (nthP w21 0) (.int .i64 1 : PV)).bind fun v35 => j32 [v35] h31) fun j29 => ifP v27 ( j29 [] h28) ( j17 [(nthP w21 0), PV.junk, PV.junk, PV.junk, PV.junk, PV.junk] h28)) fun j26 => scP v25 false ( (binP .sub (nthP w21 0) (.int .i64 1 : PV)).bind fun v36 => (binP .shl (.int .i64 1 : PV) v36).bind fun v37 => (binP .geq v16 v37).bind fun v38 => j26 v38 h22) (j26 (.bool true) h22)
noncomputable def s30_L1 (Γ : PCallee) (n : Nat) (x0 : PV) (h : PHeap) (v0 : PV) (j1 : Kt) : (Kt) → Kt := fun c4 w5 h6 => (binP .lss (nthP w5 1) v0).bind fun v7 => KL (fun w9 h10 => KL (fun w12 h13 => (binP .add (nthP w5 1) (.int .i64 1 : PV)).bind fun v14 => c4 [(nthP w12 0), v14, (nthP w12 1), (nthP w12 2), (nthP w12 3), (nthP w12 4), (nthP w12 5)] (trim h [(nthP w12 0), v14, (nthP w12 1), (nthP w12 2), (nthP w12 3), (nthP w12 4), (nthP w12 5)] h13)) fun j11 => (indexAddrP 1 x0 (nthP w5 1)).bind fun v15 => (loadP false 1 v15 h10).bind fun v16 => KL (fun w18 h19 => j11 [(nthP w18 0), (nthP w18 1), (nthP w18 2), (nthP w18 3), (nthP w18 4), (nthP w18 5)] h19) fun j17 => loopP (s30_L0 Γ n h10 v16 j17) n [(nthP w5 0), (nthP w5 2), (nthP w5 3), (nthP w5 4), (nthP w5 5), (nthP w5 6)] h10) fun j8 => ifP v7 ( j8 [] h6) ( j1 [(nthP w5 0)] h6)
noncomputable def s30 (Γ : PCallee) (n : Nat) (x0 : PV) (h : PHeap) : Pt := (lenP false x0).bind fun v0 => KL (fun w2 h3 => finP [.keep] h h3 [(nthP w2 0)]) fun j1 => loopP (s30_L1 Γ n x0 h v0 j1) n [(.int .i64 1 : PV), (.int .i64 0 : PV), undefP, undefP, undefP, undefP, undefP] h
theorem s30_eq (Γ : PCallee) (n : Nat) (x0 : PV) (h : PHeap) : pfunK Γ n A30 [x0] h = s30 Γ n x0 h := by kernel_rfl
def A31 : PFun := ⟨5, 26, (.seq (.region true (.op (some 7) (.a (.load false 1 (.tmp 2))) false
  (.op (some 8) (.a (.move (.tmp 0))) false
  (.op (some 9) (.a (.load false 1 (.tmp 3))) false
  (.op (some 10) (.a (.bin .shl (.tmp 8) (.tmp 9))) false
  (.op (some 11) (.a (.bin .or (.tmp 7) (.tmp 10))) false
  (.op none (.a (.store 1 (.tmp 2) (.tmp 11))) false
  .nil)))))))
  (.seq (.region false (.op (some 12) (.a (.load false 1 (.tmp 3))) false
  (.op (some 13) (.a (.move (.tmp 1))) false
  (.op (some 14) (.a (.bin .add (.tmp 12) (.tmp 13))) false
  (.op none (.a (.store 1 (.tmp 3) (.tmp 14))) false
  .nil)))))
  (.block 0 [] [15, 16, 17, 18, 19, 20, 21, 22, 23, 24, 25]
  (.loop [] [15, 16, 17, 18, 19, 20, 21, 22, 23, 24, 25]
  (.seq (.seq (.region false (.op (some 15) (.a (.load false 1 (.tmp 3))) false
  (.op (some 16) (.a (.bin .geq (.tmp 15) (.const (.int .i64 8)))) false
  .nil)))
  (.cond (.tmp 16) [] []
  .skip
  (.exit 0)))
  (.seq (.block 1 [] [19, 20, 21, 22, 23, 24, 25]
  (.seq (.region false (.op (some 19) (.a (.load false 1 (.tmp 4))) false
  (.op (some 20) (.a (.load false 1 (.tmp 2))) false
  (.op (some 21) (.a (.conv .u8 (.tmp 20))) false
  (.op (some 22) (.buildF 5 [(.int .u8 0)] 1 [(0, 1, (.tmp 21))]) false
  (.op (some 23) (.a (.append 5 1 (.tmp 19) (.tmp 22))) false
  (.op none (.a (.store 1 (.tmp 4) (.tmp 23))) false
  .nil)))))))
  (.region false (.op (some 24) (.a (.load false 1 (.tmp 2))) false
  (.op (some 25) (.a (.bin .shr (.tmp 24) (.const (.int .u64 8)))) false
  (.op none (.a (.store 1 (.tmp 2) (.tmp 25))) false
  .nil))))))
  (.region false (.op (some 17) (.a (.load false 1 (.tmp 3))) false
  (.op (some 18) (.a (.bin .sub (.tmp 17) (.const (.int .i64 8)))) false
  (.op none (.a (.store 1 (.tmp 3) (.tmp 18))) false
  .nil)))))))))), [], []⟩
theorem ok31 : ∃ fn c, FunOk Try.prog 31 fn c A31.erase := ⟨Try.f31, _, ⟨Try.func31, rfl, by kernel_rfl, by kernel_rfl, by kernel_rfl, of_decide_eq_true (by kernel_rfl), by kernel_rfl⟩⟩
noncomputable def s31_L0 (Γ : PCallee) (n : Nat) (x2 : PV) (x3 : PV) (x4 : PV) (h7 : PHeap) (j8 : Kt) : (Kt) → Kt := fun c11 w12 h13 => (loadP false 1 x3 h13).bind fun v14 => (binP .geq v14 (.int .i64 8 : PV)).bind fun v15 => KL (fun w17 h18 => KL (fun w20 h21 => (loadP false 1 x3 h21).bind fun v22 => (binP .sub v22 (.int .i64 8 : PV)).bind fun v23 => (storeP 1 x3 v23 h21).bind fun h24 => c11 [] (trim h7 [] h24)) fun j19 => (loadP false 1 x4 h18).bind fun v25 => (loadP false 1 x2 h18).bind fun v26 => (convP .u8 v26).bind fun v27 => (fillP (repP [.int .u8 0] 1) [(0, 1, v27)]).bind fun l28 => guardP (l28.all pure1) ( forkP (.frz 1 (chunk 1 1 l28)) (h18) fun v29 h30 => (appendP 5 1 v25 v29 h30).bind fun p31 => (storeP 1 x4 p31.1 p31.2).bind fun h32 => (loadP false 1 x2 h32).bind fun v33 => (binP .shr v33 (.int .u64 8 : PV)).bind fun v34 => (storeP 1 x2 v34 h32).bind fun h35 => j19 [] h35)) fun j16 => ifP v15 ( j16 [] h13) ( j8 [] h13)
noncomputable def s31 (Γ : PCallee) (n : Nat) (x0 : PV) (x1 : PV) (x2 : PV) (x3 : PV) (x4 : PV) (h : PHeap) : Pt := (loadP false 1 x2 h).bind fun v0 => (loadP false 1 x3 h).bind fun v1 => (binP .shl x0 v1).bind fun v2 => (binP .or v0 v2).bind fun v3 => (storeP 1 x2 v3 h).bind fun h4 => (loadP false 1 x3 h4).bind fun v5 => (binP .add v5 x1).bind fun v6 => (storeP 1 x3 v6 h4).bind fun h7 => KL (fun w9 h10 => finP [] h h10 []) fun j8 => loopP (s31_L0 Γ n x2 x3 x4 h7 j8) n [] h7
theorem s31_eq (Γ : PCallee) (n : Nat) (x0 : PV) (x1 : PV) (x2 : PV) (x3 : PV) (x4 : PV) (h : PHeap) : pfunK Γ n A31 [x0, x1, x2, x3, x4] h = s31 Γ n x0 x1 x2 x3 x4 h := by kernel_rfl
def A32 : PFun := ⟨1, 9, (.seq (.region false (.op (some 2) (.a (.move (.const (.bool false)))) false
  .nil))
  (.seq (.region false (.op (some 3) (.a (.move (.tmp 0))) false
  (.op (some 4) (.a (.bin .eql (.tmp 3) (.const (.int .i64 8)))) false
  (.op (some 5) (.a (.move (.tmp 4))) false
  (.sc 8 5 false [6, 7]
  (.op (some 6) (.a (.move (.tmp 0))) false
  (.op (some 7) (.a (.bin .eql (.tmp 6) (.const (.int .i64 16)))) false
  .nil)) (.tmp 7)
  (.op (some 2) (.a (.move (.tmp 8))) false
  .nil))))))
  .ret)), [.tmp 2], [.keep]⟩
theorem ok32 : ∃ fn c, FunOk Try.prog 32 fn c A32.erase := ⟨Try.f32, _, ⟨Try.func32, rfl, by kernel_rfl, by kernel_rfl, by kernel_rfl, of_decide_eq_true (by kernel_rfl), by kernel_rfl⟩⟩
noncomputable def s32 (Γ : PCallee) (n : Nat) (x0 : PV) (h : PHeap) : Pt := (binP .eql x0 (.int .i64 8 : PV)).bind fun v0 => K1 (fun v2 h3 => finP [.keep] h h3 [v2]) fun j1 => scP v0 false ( (binP .eql x0 (.int .i64 16 : PV)).bind fun v4 => j1 v4 h) (j1 (.bool true) h)
theorem s32_eq (Γ : PCallee) (n : Nat) (x0 : PV) (h : PHeap) : pfunK Γ n A32 [x0] h = s32 Γ n x0 h := by kernel_rfl
def A35 : PFun := ⟨2, 9, (.seq (.region false (.op (some 4) (.a (.move (.const (.bool false)))) false
  .nil))
  (.seq (.region false (.op (some 5) (.a (.move (.tmp 0))) false
  (.op (some 6) (.a (.move (.tmp 1))) false
  (.op (some 7) (.a (.call 58 [(.tmp 5), (.tmp 6)])) false
  (.op (some 8) (.a (.bin .geq (.tmp 7) (.const (.int .i64 0)))) false
  (.op (some 4) (.a (.move (.tmp 8))) false
  .nil))))))
  .ret)), [.tmp 4], [.keep]⟩
theorem ok35 : ∃ fn c, FunOk Try.prog 35 fn c A35.erase := ⟨Try.f35, _, ⟨Try.func35, rfl, by kernel_rfl, by kernel_rfl, by kernel_rfl, of_decide_eq_true (by kernel_rfl), by kernel_rfl⟩⟩
noncomputable def s35 (Γ : PCallee) (n : Nat) (x0 : PV) (x1 : PV) (h : PHeap) : Pt := (Γ 58 [x0, x1] h).bind fun p0 => (binP .geq p0.1 (.int .i64 0 : PV)).bind fun v1 => finP [.keep] h p0.2 [v1]
theorem s35_eq (Γ : PCallee) (n : Nat) (x0 : PV) (x1 : PV) (h : PHeap) : pfunK Γ n A35 [x0, x1] h = s35 Γ n x0 x1 h := by kernel_rfl
def A36 : PFun := ⟨1, 9, (.seq (.region false (.op (some 2) (.a (.move (.const (.bool false)))) false
  .nil))
  (.seq (.region false (.op (some 3) (.a (.move (.tmp 0))) false
  (.op (some 4) (.a (.bin .lss (.tmp 3) (.const (.int .i64 (-128))))) false
  (.op (some 5) (.a (.move (.tmp 4))) false
  (.sc 8 5 false [6, 7]
  (.op (some 6) (.a (.move (.tmp 0))) false
  (.op (some 7) (.a (.bin .gtr (.tmp 6) (.const (.int .i64 127)))) false
  .nil)) (.tmp 7)
  (.op (some 2) (.a (.move (.tmp 8))) false
  .nil))))))
  .ret)), [.tmp 2], [.keep]⟩
theorem ok36 : ∃ fn c, FunOk Try.prog 36 fn c A36.erase := ⟨Try.f36, _, ⟨Try.func36, rfl, by kernel_rfl, by kernel_rfl, by kernel_rfl, of_decide_eq_true (by kernel_rfl), by kernel_rfl⟩⟩
noncomputable def s36 (Γ : PCallee) (n : Nat) (x0 : PV) (h : PHeap) : Pt := (binP .lss x0 (.int .i64 (-128) : PV)).bind fun v0 => K1 (fun v2 h3 => finP [.keep] h h3 [v2]) fun j1 => scP v0 false ( (binP .gtr x0 (.int .i64 127 : PV)).bind fun v4 => j1 v4 h) (j1 (.bool true) h)
theorem s36_eq (Γ : PCallee) (n : Nat) (x0 : PV) (h : PHeap) : pfunK Γ n A36 [x0] h = s36 Γ n x0 h := by kernel_rfl
def A37 : PFun := ⟨1, 11, (.seq (.region false (.op (some 2) (.a (.move (.const (.bool false)))) false
  .nil))
  (.seq (.region false (.op (some 3) (.a (.move (.tmp 0))) false
  (.op (some 4) (.a (.len false (.tmp 3))) false
  (.op (some 5) (.a (.bin .eql (.tmp 4) (.const (.int .i64 16)))) false
  (.op (some 6) (.a (.move (.tmp 5))) false
  (.sc 10 6 true [7, 8, 9]
  (.op (some 7) (.a (.move (.tmp 0))) false
  (.op (some 8) (.a (.call 35 [(.tmp 7), (.func 59)])) false
  (.op (some 9) (.a (.un .not (.tmp 8))) false
  .nil))) (.tmp 9)
  (.op (some 2) (.a (.move (.tmp 10))) false
  .nil)))))))
  .ret)), [.tmp 2], [.keep]⟩
theorem ok37 : ∃ fn c, FunOk Try.prog 37 fn c A37.erase := ⟨Try.f37, _, ⟨Try.func37, rfl, by kernel_rfl, by kernel_rfl, by kernel_rfl, of_decide_eq_true (by kernel_rfl), by kernel_rfl⟩⟩
noncomputable def s37 (Γ : PCallee) (n : Nat) (x0 : PV) (h : PHeap) : Pt := (lenP false x0).bind fun v0 => (binP .eql v0 (.int .i64 16 : PV)).bind fun v1 => K1 (fun v3 h4 => finP [.keep] h h4 [v3]) fun j2 => scP v1 true ( (Γ 35 [x0, (PV.func 59 [] [])] h).bind fun p5 => (unP .not p5.1).bind fun v6 => j2 v6 p5.2) (j2 (.bool false) h)
theorem s37_eq (Γ : PCallee) (n : Nat) (x0 : PV) (h : PHeap) : pfunK Γ n A37 [x0] h = s37 Γ n x0 h := by kernel_rfl
def A38 : PFun := ⟨2, 20, (.seq (.region false (.op (some 4) (.a (.move (.const (.int .i64 0)))) false
  .nil))
  (.seq (.region false (.op (some 6) (.a (.move (.tmp 1))) false
  (.op (some 7) (.a (.bin .shl (.const (.int .i64 1)) (.tmp 6))) false
  (.op (some 5) (.a (.move (.tmp 7))) false
  .nil))))
  (.seq (.region false (.op (some 8) (.a (.move (.tmp 0))) false
  (.op (some 9) (.a (.move (.tmp 5))) false
  (.op (some 10) (.a (.bin .sub (.tmp 9) (.const (.int .i64 1)))) false
  (.op (some 11) (.a (.bin .and (.tmp 8) (.tmp 10))) false
  (.op (some 0) (.a (.move (.tmp 11))) false
  .nil))))))
  (.seq (.seq (.region false (.op (some 12) (.a (.move (.tmp 0))) false
  (.op (some 13) (.a (.move (.tmp 5))) false
  (.op (some 14) (.a (.bin .quo (.tmp 13) (.const (.int .i64 2)))) false
  (.op (some 15) (.a (.bin .geq (.tmp 12) (.tmp 14))) false
  .nil)))))
  (.cond (.tmp 15) [0] [16, 17, 18]
  (.region false (.op (some 16) (.a (.move (.tmp 0))) false
  (.op (some 17) (.a (.move (.tmp 5))) false
  (.op (some 18) (.a (.bin .sub (.tmp 16) (.tmp 17))) false
  (.op (some 0) (.a (.move (.tmp 18))) false
  .nil)))))
  .skip))
  (.seq (.region false (.op (some 19) (.a (.move (.tmp 0))) false
  (.op (some 4) (.a (.move (.tmp 19))) false
  .nil)))
  .ret))))), [.tmp 4], [.keep]⟩
theorem ok38 : ∃ fn c, FunOk Try.prog 38 fn c A38.erase := ⟨Try.f38, _, ⟨Try.func38, rfl, by kernel_rfl, by kernel_rfl, by kernel_rfl, of_decide_eq_true (by kernel_rfl), by kernel_rfl⟩⟩
noncomputable def s38 (Γ : PCallee) (n : Nat) (x0 : PV) (x1 : PV) (h : PHeap) : Pt := (binP .shl (.int .i64 1 : PV) x1).bind fun v0 => (binP .sub v0 (.int .i64 1 : PV)).bind fun v1 => (binP .and x0 v1).bind fun v2 => (binP .quo v0 (.int .i64 2 : PV)).bind fun v3 => (binP .geq v2 v3).bind fun v4 => KL (fun w6 h7 => finP [.keep] h h7 [(nthP w6 0)]) fun j5 => ifP v4 ( (binP .sub v2 v0).bind fun v8 => j5 [v8] h) ( j5 [v2] h)
theorem s38_eq (Γ : PCallee) (n : Nat) (x0 : PV) (x1 : PV) (h : PHeap) : pfunK Γ n A38 [x0, x1] h = s38 Γ n x0 x1 h := by kernel_rfl
def A39 : PFun := ⟨3, 25, (.seq (.region false (.op (some 6) (.a (.move (.const (.int .i64 0)))) false
  .nil))
  (.seq (.block 0 [] [6, 7, 8, 9, 10, 11, 12, 13, 14, 15, 16, 17, 18, 19, 20, 21, 22, 23, 24]
  (.seq (.region false (.op (some 8) (.a (.move (.tmp 1))) false
  (.op (some 9) (.a (.bin .neq (.tmp 8) (.const (.int .i64 8)))) false
  (.op (some 10) (.a (.move (.tmp 9))) false
  (.sc 13 10 true [11, 12]
  (.op (some 11) (.a (.move (.tmp 1))) false
  (.op (some 12) (.a (.bin .neq (.tmp 11) (.const (.int .i64 16)))) false
  .nil)) (.tmp 12)
  (.op (some 7) (.a (.move (.tmp 13))) false
  .nil))))))
  (.cond (.tmp 7) [] [6, 14, 15, 16, 17, 18, 19, 20, 21, 22, 23, 24]
  (.seq (.region false (.op (some 6) (.a (.move (.const (.int .i64 1)))) false
  .nil))
  .ret)
  (.seq (.region false (.op (some 15) (.a (.move (.tmp 0))) false
  (.op (some 16) (.a (.len false (.tmp 15))) false
  (.op (some 17) (.a (.bin .gtr (.tmp 16) (.const (.int .i64 400000)))) false
  (.op (some 14) (.a (.move (.tmp 17))) false
  .nil)))))
  (.cond (.tmp 14) [] [6, 18, 19, 20, 21, 22, 23, 24]
  (.seq (.region false (.op (some 6) (.a (.move (.const (.int .i64 3)))) false
  .nil))
  .ret)
  (.seq (.region false (.op (some 19) (.a (.move (.tmp 2))) false
  (.op (some 20) (.a (.bin .lss (.tmp 19) (.const (.int .i64 0)))) false
  (.op (some 21) (.a (.move (.tmp 20))) false
  (.sc 24 21 false [22, 23]
  (.op (some 22) (.a (.move (.tmp 2))) false
  (.op (some 23) (.a (.bin .gtr (.tmp 22) (.const (.int .i64 4096)))) false
  .nil)) (.tmp 23)
  (.op (some 18) (.a (.move (.tmp 24))) false
  .nil))))))
  (.cond (.tmp 18) [] [6]
  (.seq (.region false (.op (some 6) (.a (.move (.const (.int .i64 5)))) false
  .nil))
  .ret)
  .skip)))))))
  (.seq (.region false (.op (some 6) (.a (.move (.const (.int .i64 0)))) false
  .nil))
  .ret))), [.tmp 6], [.keep]⟩
theorem ok39 : ∃ fn c, FunOk Try.prog 39 fn c A39.erase := ⟨Try.f39, _, ⟨Try.func39, rfl, by kernel_rfl, by kernel_rfl, by kernel_rfl, of_decide_eq_true (by kernel_rfl), by kernel_rfl⟩⟩
noncomputable def s39 (Γ : PCallee) (n : Nat) (x0 : PV) (x1 : PV) (x2 : PV) (h : PHeap) : Pt := KL (fun w1 h2 => finP [.keep] h h2 [(.int .i64 0 : PV)]) fun j0 => (binP .neq x1 (.int .i64 8 : PV)).bind fun v3 => K1 (fun v5 h6 => KL (fun w8 h9 => j0 [] h9) fun j7 => ifP v5 ( finP [.keep] h h6 [(.int .i64 1 : PV)]) ( (lenP false x0).bind fun v10 => (binP .gtr v10 (.int .i64 400000 : PV)).bind fun v11 => KL (fun w13 h14 => j7 [] h14) fun j12 => ifP v11 ( finP [.keep] h h6 [(.int .i64 3 : PV)]) ( (binP .lss x2 (.int .i64 0 : PV)).bind fun v15 => K1 (fun v17 h18 => KL (fun w20 h21 => j12 [] h21) fun j19 => ifP v17 ( finP [.keep] h h18 [(.int .i64 5 : PV)]) ( j19 [] h18)) fun j16 => scP v15 false ( (binP .gtr x2 (.int .i64 4096 : PV)).bind fun v22 => j16 v22 h6) (j16 (.bool true) h6)))) fun j4 => scP v3 true ( (binP .neq x1 (.int .i64 16 : PV)).bind fun v23 => j4 v23 h) (j4 (.bool false) h)
theorem s39_eq (Γ : PCallee) (n : Nat) (x0 : PV) (x1 : PV) (x2 : PV) (h : PHeap) : pfunK Γ n A39 [x0, x1, x2] h = s39 Γ n x0 x1 x2 h := by kernel_rfl
def A40 : PFun := ⟨2, 21, (.seq (.region false (.op (some 4) (.a (.move (.const (.slice none 0 0)))) false
  (.op (some 5) (.a (.move (.const (.int .i64 0)))) false
  .nil)))
  (.seq (.region false (.op (some 6) (.a (.move (.tmp 0))) false
  (.op (some 7) (.a (.move (.tmp 0))) false
  (.op (some 8) (.a (.len false (.tmp 7))) false
  (.op (some 9) (.a (.move (.tmp 1))) false
  (.op (some 10) (.a (.min [(.tmp 8), (.tmp 9)])) false
  (.op (some 11) (.a (.slice 1 (.tmp 6) none (some (.tmp 10)) none)) false
  (.op (some 0) (.a (.move (.tmp 11))) false
  .nil))))))))
  (.seq (.region false (.op (some 12) (.a (.move (.tmp 1))) false
  (.op (some 13) (.a (.move (.tmp 0))) false
  (.op (some 14) (.a (.len false (.tmp 13))) false
  (.op (some 15) (.a (.bin .sub (.tmp 12) (.tmp 14))) false
  (.op (some 5) (.a (.move (.tmp 15))) false
  .nil))))))
  (.seq (.region false (.op (some 16) (.a (.move (.tmp 0))) false
  (.op (some 17) (.a (.call 49 [(.tmp 16)])) false
  (.op (some 18) (.a (.move (.tmp 5))) false
  (.op (some 19) (.a (.appendN 3 1 [(.int .i64 0)] (.tmp 17) (.tmp 18))) false
  (.op (some 20) (.a (.move (.tmp 5))) false
  (.op (some 4) (.a (.move (.tmp 19))) false
  (.op (some 5) (.a (.move (.tmp 20))) false
  .nil))))))))
  .ret)))), [.tmp 4, .tmp 5], [(.flat 1), .keep]⟩
theorem ok40 : ∃ fn c, FunOk Try.prog 40 fn c A40.erase := ⟨Try.f40, _, ⟨Try.func40, rfl, by kernel_rfl, by kernel_rfl, by kernel_rfl, of_decide_eq_true (by kernel_rfl), by kernel_rfl⟩⟩
noncomputable def s40 (Γ : PCallee) (n : Nat) (x0 : PV) (x1 : PV) (h : PHeap) : Pt := (lenP false x0).bind fun v0 => (fold1P min2P [v0, x1]).bind fun v1 => (sliceP 1 x0 none (some v1) none).bind fun v2 => (lenP false v2).bind fun v3 => (binP .sub x1 v3).bind fun v4 => (Γ 49 [v2] h).bind fun p5 => (appendNP 3 1 [.int .i64 0] p5.1 v4 p5.2).bind fun p6 => finP [(.flat 1), .keep] h p6.2 [p6.1, v4]
theorem s40_eq (Γ : PCallee) (n : Nat) (x0 : PV) (x1 : PV) (h : PHeap) : pfunK Γ n A40 [x0, x1] h = s40 Γ n x0 x1 h := by kernel_rfl
def A41 : PFun := ⟨2, 29, (.seq (.region false (.op (some 4) (.a (.move (.const (.slice none 0 0)))) false
  .nil))
  (.seq (.region false (.op (some 9) (.a (.move (.tmp 0))) false
  (.op (some 10) (.a (.len false (.tmp 9))) false
  (.op (some 11) (.a (.mkSlice 3 [(.int .i64 0)] (.const (.int .i64 0)) (.tmp 10))) false
  (.op (some 5) (.a (.move (.tmp 11))) false
  .nil)))))
  (.seq (.region false (.op (some 6) (.a (.move (.const (.int .i64 0)))) false
  .nil))
  (.seq (.seq (.region false (.op (some 12) (.a (.move (.tmp 0))) false
  (.op (some 13) (.a (.len false (.tmp 12))) false
  (.op (some 14) (.a (.move (.const (.int .i64 0)))) false
  .nil))))
  (.block 0 [5] [6, 8, 14, 15, 16, 17, 18, 19, 20, 21, 22, 23, 24, 25, 26, 27]
  (.loop [5, 6, 14] [8, 15, 16, 17, 18, 19, 20, 21, 22, 23, 24, 25, 26, 27]
  (.seq (.region false (.op (some 15) (.a (.bin .lss (.tmp 14) (.tmp 13))) false
  .nil))
  (.seq (.cond (.tmp 15) [] []
  .skip
  (.exit 0))
  (.seq (.block 1 [5, 6] [8, 16, 17, 18, 19, 20, 21, 22, 23, 24, 25, 26]
  (.seq (.region false (.op (some 16) (.a (.indexAddr 1 (.tmp 12) (.tmp 14))) false
  (.op (some 17) (.a (.load false 1 (.tmp 16))) false
  (.op (some 8) (.a (.move (.tmp 17))) false
  .nil))))
  (.seq (.region false (.op (some 18) (.a (.move (.tmp 6))) false
  (.op (some 19) (.a (.move (.tmp 8))) false
  (.op (some 20) (.a (.bin .add (.tmp 18) (.tmp 19))) false
  (.op (some 21) (.a (.move (.tmp 1))) false
  (.op (some 22) (.a (.call 38 [(.tmp 20), (.tmp 21)])) false
  (.op (some 6) (.a (.move (.tmp 22))) false
  .nil)))))))
  (.region false (.op (some 23) (.a (.move (.tmp 5))) false
  (.op (some 24) (.a (.move (.tmp 6))) false
  (.op (some 25) (.buildF 3 [(.int .i64 0)] 1 [(0, 1, (.tmp 24))]) false
  (.op (some 26) (.a (.append 3 1 (.tmp 23) (.tmp 25))) false
  (.op (some 5) (.a (.move (.tmp 26))) false
  .nil)))))))))
  (.region false (.op (some 27) (.a (.bin .add (.tmp 14) (.const (.int .i64 1)))) false
  (.op (some 14) (.a (.move (.tmp 27))) false
  .nil)))))))))
  (.seq (.region false (.op (some 28) (.a (.move (.tmp 5))) false
  (.op (some 4) (.a (.move (.tmp 28))) false
  .nil)))
  .ret))))), [.tmp 4], [(.flat 1)]⟩
theorem ok41 : ∃ fn c, FunOk Try.prog 41 fn c A41.erase := ⟨Try.f41, _, ⟨Try.func41, rfl, by kernel_rfl, by kernel_rfl, by kernel_rfl, of_decide_eq_true (by kernel_rfl), by kernel_rfl⟩⟩
noncomputable def s41_L0 (Γ : PCallee) (n : Nat) (x0 : PV) (x1 : PV) (p1 : PV × PHeap) (v2 : PV) (j3 : Kt) : (Kt) → Kt := fun c6 w7 h8 => (binP .lss (nthP w7 2) v2).bind fun v9 => KL (fun w11 h12 => KL (fun w14 h15 => (binP .add (nthP w7 2) (.int .i64 1 : PV)).bind fun v16 => c6 [(nthP w14 0), (nthP w14 1), v16] (trim p1.2 [(nthP w14 0), (nthP w14 1), v16] h15)) fun j13 => (indexAddrP 1 x0 (nthP w7 2)).bind fun v17 => (loadP false 1 v17 h12).bind fun v18 => (binP .add (nthP w7 1) v18).bind fun v19 => (Γ 38 [v19, x1] h12).bind fun p20 => (fillP (repP [.int .i64 0] 1) [(0, 1, p20.1)]).bind fun l21 => guardP (l21.all pure1) ( forkP (.frz 1 (chunk 1 1 l21)) (p20.2) fun v22 h23 => (appendP 3 1 (nthP w7 0) v22 h23).bind fun p24 => j13 [p24.1, p20.1] p24.2)) fun j10 => ifP v9 ( j10 [] h8) ( j3 [(nthP w7 0)] h8)
noncomputable def s41 (Γ : PCallee) (n : Nat) (x0 : PV) (x1 : PV) (h : PHeap) : Pt := (lenP false x0).bind fun v0 => (mkSliceP 3 [.int .i64 0] (.int .i64 0 : PV) v0 h).bind fun p1 => (lenP false x0).bind fun v2 => KL (fun w4 h5 => finP [(.flat 1)] h h5 [(nthP w4 0)]) fun j3 => loopP (s41_L0 Γ n x0 x1 p1 v2 j3) n [p1.1, (.int .i64 0 : PV), (.int .i64 0 : PV)] p1.2
theorem s41_eq (Γ : PCallee) (n : Nat) (x0 : PV) (x1 : PV) (h : PHeap) : pfunK Γ n A41 [x0, x1] h = s41 Γ n x0 x1 h := by kernel_rfl
def A42 : PFun := ⟨2, 16, (.seq (.region false (.op (some 4) (.a (.move (.const (.int .i64 0)))) false
  .nil))
  (.seq (.block 0 [] [4, 5, 6, 7, 8, 9, 10, 11, 12, 13, 14, 15]
  (.seq (.region false (.op (some 6) (.a (.move (.tmp 0))) false
  (.op (some 7) (.a (.len false (.tmp 6))) false
  (.op (some 8) (.a (.bin .gtr (.tmp 7) (.const (.int .i64 400000)))) false
  (.op (some 5) (.a (.move (.tmp 8))) false
  .nil)))))
  (.cond (.tmp 5) [] [4, 9, 10, 11, 12, 13, 14, 15]
  (.seq (.region false (.op (some 4) (.a (.move (.const (.int .i64 3)))) false
  .nil))
  .ret)
  (.seq (.region false (.op (some 10) (.a (.move (.tmp 1))) false
  (.op (some 11) (.a (.bin .lss (.tmp 10) (.const (.int .i64 0)))) false
  (.op (some 12) (.a (.move (.tmp 11))) false
  (.sc 15 12 false [13, 14]
  (.op (some 13) (.a (.move (.tmp 1))) false
  (.op (some 14) (.a (.bin .gtr (.tmp 13) (.const (.int .i64 4096)))) false
  .nil)) (.tmp 14)
  (.op (some 9) (.a (.move (.tmp 15))) false
  .nil))))))
  (.cond (.tmp 9) [] [4]
  (.seq (.region false (.op (some 4) (.a (.move (.const (.int .i64 5)))) false
  .nil))
  .ret)
  .skip)))))
  (.seq (.region false (.op (some 4) (.a (.move (.const (.int .i64 0)))) false
  .nil))
  .ret))), [.tmp 4], [.keep]⟩
theorem ok42 : ∃ fn c, FunOk Try.prog 42 fn c A42.erase := ⟨Try.f42, _, ⟨Try.func42, rfl, by kernel_rfl, by kernel_rfl, by kernel_rfl, of_decide_eq_true (by kernel_rfl), by kernel_rfl⟩⟩
noncomputable def s42 (Γ : PCallee) (n : Nat) (x0 : PV) (x1 : PV) (h : PHeap) : Pt := KL (fun w1 h2 => finP [.keep] h h2 [(.int .i64 0 : PV)]) fun j0 => (lenP false x0).bind fun v3 => (binP .gtr v3 (.int .i64 400000 : PV)).bind fun v4 => KL (fun w6 h7 => j0 [] h7) fun j5 => ifP v4 ( finP [.keep] h h [(.int .i64 3 : PV)]) ( (binP .lss x1 (.int .i64 0 : PV)).bind fun v8 => K1 (fun v10 h11 => KL (fun w13 h14 => j5 [] h14) fun j12 => ifP v10 ( finP [.keep] h h11 [(.int .i64 5 : PV)]) ( j12 [] h11)) fun j9 => scP v8 false ( (binP .gtr x1 (.int .i64 4096 : PV)).bind fun v15 => j9 v15 h) (j9 (.bool true) h))
theorem s42_eq (Γ : PCallee) (n : Nat) (x0 : PV) (x1 : PV) (h : PHeap) : pfunK Γ n A42 [x0, x1] h = s42 Γ n x0 x1 h := by kernel_rfl
def A43 : PFun := ⟨2, 17, (.seq (.region false (.op (some 4) (.a (.move (.const (.int .i64 0)))) false
  .nil))
  (.seq (.region false (.op (some 6) (.a (.move (.tmp 1))) false
  (.op (some 7) (.a (.bin .sub (.tmp 6) (.const (.int .i64 1)))) false
  (.op (some 8) (.a (.bin .shl (.const (.int .i64 1)) (.tmp 7))) false
  (.op (some 5) (.a (.move (.tmp 8))) false
  .nil)))))
  (.seq (.region false (.op (some 9) (.a (.move (.tmp 0))) false
  (.op (some 10) (.a (.move (.tmp 5))) false
  (.op (some 11) (.a (.bin .add (.tmp 9) (.tmp 10))) false
  (.op (some 12) (.a (.move (.tmp 5))) false
  (.op (some 13) (.a (.bin .mul (.const (.int .i64 2)) (.tmp 12))) false
  (.op (some 14) (.a (.call 60 [(.tmp 11), (.tmp 13)])) false
  (.op (some 15) (.a (.move (.tmp 5))) false
  (.op (some 16) (.a (.bin .sub (.tmp 14) (.tmp 15))) false
  (.op (some 4) (.a (.move (.tmp 16))) false
  .nil))))))))))
  .ret))), [.tmp 4], [.keep]⟩
theorem ok43 : ∃ fn c, FunOk Try.prog 43 fn c A43.erase := ⟨Try.f43, _, ⟨Try.func43, rfl, by kernel_rfl, by kernel_rfl, by kernel_rfl, of_decide_eq_true (by kernel_rfl), by kernel_rfl⟩⟩
noncomputable def s43 (Γ : PCallee) (n : Nat) (x0 : PV) (x1 : PV) (h : PHeap) : Pt := (binP .sub x1 (.int .i64 1 : PV)).bind fun v0 => (binP .shl (.int .i64 1 : PV) v0).bind fun v1 => (binP .add x0 v1).bind fun v2 => (binP .mul (.int .i64 2 : PV) v1).bind fun v3 => (Γ 60 [v2, v3] h).bind fun p4 => (binP .sub p4.1 v1).bind fun v5 => finP [.keep] h p4.2 [v5]
theorem s43_eq (Γ : PCallee) (n : Nat) (x0 : PV) (x1 : PV) (h : PHeap) : pfunK Γ n A43 [x0, x1] h = s43 Γ n x0 x1 h := by kernel_rfl
def A44 : PFun := ⟨2, 13, (.seq (.region false (.op (some 4) (.a (.move (.const (.slice none 0 0)))) false
  .nil))
  (.seq (.region false (.op (some 5) (.a (.buildSlice 3 [] 0 [])) false
  (.op (some 6) (.a (.move (.tmp 0))) false
  (.op (some 7) (.a (.append 3 1 (.tmp 5) (.tmp 6))) false
  (.op (some 8) (.a (.move (.tmp 1))) false
  (.op (some 9) (.a (.move (.tmp 0))) false
  (.op (some 10) (.a (.len false (.tmp 9))) false
  (.op (some 11) (.a (.bin .sub (.tmp 8) (.tmp 10))) false
  (.op (some 12) (.a (.appendN 3 1 [(.int .i64 0)] (.tmp 7) (.tmp 11))) false
  (.op (some 4) (.a (.move (.tmp 12))) false
  .nil))))))))))
  .ret)), [.tmp 4], [(.flat 1)]⟩
theorem ok44 : ∃ fn c, FunOk Try.prog 44 fn c A44.erase := ⟨Try.f44, _, ⟨Try.func44, rfl, by kernel_rfl, by kernel_rfl, by kernel_rfl, of_decide_eq_true (by kernel_rfl), by kernel_rfl⟩⟩
noncomputable def s44 (Γ : PCallee) (n : Nat) (x0 : PV) (x1 : PV) (h : PHeap) : Pt := (appendP 3 1 PV.emp x0 h).bind fun p0 => (lenP false x0).bind fun v1 => (binP .sub x1 v1).bind fun v2 => (appendNP 3 1 [.int .i64 0] p0.1 v2 p0.2).bind fun p3 => finP [(.flat 1)] h p3.2 [p3.1]
theorem s44_eq (Γ : PCallee) (n : Nat) (x0 : PV) (x1 : PV) (h : PHeap) : pfunK Γ n A44 [x0, x1] h = s44 Γ n x0 x1 h := by kernel_rfl
open Go.Vm.G in
def A47 : PFun := ⟨2, 9, (R <| m 4 0 <| m 5 0 <| o 6 (.len false (t 5)) <| m 7 1 <| o 8 (.call 61 [(t 4), (t 6), (t 7)]) <| z), [], []⟩
theorem ok47 : ∃ fn c, FunOk Try.prog 47 fn c A47.erase := ⟨Try.f47, _, ⟨Try.func47, rfl, by kernel_rfl, by kernel_rfl, by kernel_rfl, of_decide_eq_true (by kernel_rfl), by kernel_rfl⟩⟩
noncomputable def s47 (Γ : PCallee) (n : Nat) (x0 : PV) (x1 : PV) (h : PHeap) : Pt := (lenP false x0).bind fun v0 => (Γ 61 [x0, v0, x1] h).bind fun p1 => finP [] h p1.2 []
theorem s47_eq (Γ : PCallee) (n : Nat) (x0 : PV) (x1 : PV) (h : PHeap) : pfunK Γ n A47 [x0, x1] h = s47 Γ n x0 x1 h := by kernel_rfl
open Go.Vm.G in
def A48 : PFun := ⟨3, 15, (S (R <| o 5 (.move (i 0)) <| z) <|
  (S (D <| m 6 1 <| b 7 .add (t 6) (i 128) <| o 8 (.indexAddrArr 256 1 (t 2) (t 7)) <| l 9 8 <| m 10 0 <| b 11 .add (t 10) (i 128) <| o 12 (.indexAddrArr 256 1 (t 2) (t 11)) <| l 13 12 <| b 14 .sub (t 9) (t 13) <| m 5 14 <| z) <|
  .ret)), [.tmp 5], [.keep]⟩
theorem ok48 : ∃ fn c, FunOk Try.prog 48 fn c A48.erase := ⟨Try.f48, _, ⟨Try.func48, rfl, by kernel_rfl, by kernel_rfl, by kernel_rfl, of_decide_eq_true (by kernel_rfl), by kernel_rfl⟩⟩
noncomputable def s48 (Γ : PCallee) (n : Nat) (x0 : PV) (x1 : PV) (x2 : PV) (h : PHeap) : Pt := (binP .add x1 (.int .i64 128 : PV)).bind fun v0 => (indexAddrArrP 256 1 x2 v0).bind fun v1 => (loadP false 1 v1 h).bind fun v2 => (binP .add x0 (.int .i64 128 : PV)).bind fun v3 => (indexAddrArrP 256 1 x2 v3).bind fun v4 => (loadP false 1 v4 h).bind fun v5 => (binP .sub v2 v5).bind fun v6 => finP [.keep] h h [v6]
theorem s48_eq (Γ : PCallee) (n : Nat) (x0 : PV) (x1 : PV) (x2 : PV) (h : PHeap) : pfunK Γ n A48 [x0, x1, x2] h = s48 Γ n x0 x1 x2 h := by kernel_rfl
def A49 : PFun := ⟨1, 8, (.seq (.region false (.op (some 2) (.a (.move (.const (.slice none 0 0)))) false
  .nil))
  (.seq (.seq (.region false (.op (some 3) (.a (.move (.tmp 0))) false
  (.op (some 4) (.a (.isNil .slice false (.tmp 3))) false
  .nil)))
  (.cond (.tmp 4) [] [2]
  (.seq (.region false (.op (some 2) (.a (.move (.const (.slice none 0 0)))) false
  .nil))
  .ret)
  .skip))
  (.seq (.region false (.op (some 5) (.a (.buildSlice 3 [] 0 [])) false
  (.op (some 6) (.a (.move (.tmp 0))) false
  (.op (some 7) (.a (.append 3 1 (.tmp 5) (.tmp 6))) false
  (.op (some 2) (.a (.move (.tmp 7))) false
  .nil)))))
  .ret))), [.tmp 2], [.raw]⟩
theorem ok49 : ∃ fn c, FunOk Try.prog 49 fn c A49.erase := ⟨Try.f49, _, ⟨Try.func49, rfl, by kernel_rfl, by kernel_rfl, by kernel_rfl, of_decide_eq_true (by kernel_rfl), by kernel_rfl⟩⟩
noncomputable def s49 (Γ : PCallee) (n : Nat) (x0 : PV) (h : PHeap) : Pt := isNilK .slice false x0 fun v0 => KL (fun w2 h3 => (appendP 3 1 PV.emp x0 h3).bind fun p4 => finP [.raw] h p4.2 [p4.1]) fun j1 => ifP v0 ( finP [.raw] h h [(.nilS : PV)]) ( j1 [] h)
theorem s49_eq (Γ : PCallee) (n : Nat) (x0 : PV) (h : PHeap) : pfunK Γ n A49 [x0] h = s49 Γ n x0 h := by kernel_rfl
open Go.Vm.G in
def A51 : PFun := ⟨2, 28, (S (R <| o 4 (.move (.const (.bool false))) <| z) <|
  (S (R <| m 7 0 <| m 8 0 <| o 9 (.un .neg (t 8)) <| o 10 (.max [(t 7), (t 9)]) <| m 11 1 <| m 12 1 <| o 13 (.un .neg (t 12)) <| o 14 (.max [(t 11), (t 13)]) <| m 5 10 <| m 6 14 <| z) <|
  (S (R <| m 15 5 <| m 16 6 <| b 17 .lss (t 15) (t 16) <| m 18 17 <| q 27 18 false (g 19 4 ++ [26, 23, 24, 25]) (m 19 5 <| m 20 6 <| b 21 .eql (t 19) (t 20) <| m 22 21 <| q 26 22 true [23, 24, 25] (m 23 0 <| m 24 1 <| b 25 .gtr (t 23) (t 24) <| z) (t 25) <|
  z) (t 26) <|
  m 4 27 <| z) <|
  .ret))), [.tmp 4], [.keep]⟩
theorem ok51 : ∃ fn c, FunOk Try.prog 51 fn c A51.erase := ⟨Try.f51, _, ⟨Try.func51, rfl, by kernel_rfl, by kernel_rfl, by kernel_rfl, of_decide_eq_true (by kernel_rfl), by kernel_rfl⟩⟩
noncomputable def s51 (Γ : PCallee) (n : Nat) (x0 : PV) (x1 : PV) (h : PHeap) : Pt := (unP .neg x0).bind fun v0 => (fold1P max2P [x0, v0]).bind fun v1 => (unP .neg x1).bind fun v2 => (fold1P max2P [x1, v2]).bind fun v3 => (binP .lss v1 v3).bind fun v4 => K1 (fun v6 h7 => finP [.keep] h h7 [v6]) fun j5 => scP v4 false ( (binP .eql v1 v3).bind fun v8 => K1 (fun v10 h11 => j5 v10 h11) fun j9 => scP v8 true ( (binP .gtr x0 x1).bind fun v12 => j9 v12 h) (j9 (.bool false) h)) (j5 (.bool true) h)
theorem s51_eq (Γ : PCallee) (n : Nat) (x0 : PV) (x1 : PV) (h : PHeap) : pfunK Γ n A51 [x0, x1] h = s51 Γ n x0 x1 h := by kernel_rfl
def A52 : PFun := ⟨1, 19, (.seq (.region false (.op (some 2) (.a (.move (.const (.bool false)))) false
  .nil))
  (.seq (.seq (.region false (.op (some 3) (.a (.move (.const (.int .i64 0)))) false
  .nil))
  (.block 0 [] [2, 3, 4, 5, 6, 7, 8, 9, 10, 11, 12, 13, 14, 15]
  (.loop [3] [2, 4, 5, 6, 7, 8, 9, 10, 11, 12, 13, 14, 15]
  (.seq (.seq (.region false (.op (some 4) (.a (.move (.tmp 3))) false
  (.op (some 5) (.a (.move (.tmp 0))) false
  (.op (some 6) (.a (.len false (.tmp 5))) false
  (.op (some 7) (.a (.bin .lss (.tmp 4) (.tmp 6))) false
  .nil)))))
  (.cond (.tmp 7) [] []
  .skip
  (.exit 0)))
  (.seq (.block 1 [] [2, 10, 11, 12, 13, 14, 15]
  (.seq (.region false (.op (some 10) (.a (.move (.tmp 0))) false
  (.op (some 11) (.a (.move (.tmp 3))) false
  (.op (some 12) (.a (.indexAddr 1 (.tmp 10) (.tmp 11))) false
  (.op (some 13) (.a (.load false 1 (.tmp 12))) false
  (.op (some 14) (.a (.call 54 [(.tmp 13), (.const (.int .i64 8))])) false
  (.op (some 15) (.a (.un .not (.tmp 14))) false
  .nil)))))))
  (.cond (.tmp 15) [] [2]
  (.seq (.region false (.op (some 2) (.a (.move (.const (.bool false)))) false
  .nil))
  .ret)
  .skip)))
  (.region false (.op (some 8) (.a (.move (.tmp 3))) false
  (.op (some 9) (.a (.bin .add (.tmp 8) (.const (.int .i64 1)))) false
  (.op (some 3) (.a (.move (.tmp 9))) false
  .nil)))))))))
  (.seq (.region false (.op (some 16) (.a (.move (.tmp 0))) false
  (.op (some 17) (.a (.len false (.tmp 16))) false
  (.op (some 18) (.a (.bin .eql (.tmp 17) (.const (.int .i64 16)))) false
  (.op (some 2) (.a (.move (.tmp 18))) false
  .nil)))))
  .ret))), [.tmp 2], [.keep]⟩
theorem ok52 : ∃ fn c, FunOk Try.prog 52 fn c A52.erase := ⟨Try.f52, _, ⟨Try.func52, rfl, by kernel_rfl, by kernel_rfl, by kernel_rfl, of_decide_eq_true (by kernel_rfl), by kernel_rfl⟩⟩
noncomputable def s52_L0 (Γ : PCallee) (n : Nat) (x0 : PV) (h : PHeap) (j0 : Kt) : (Kt) → Kt := fun c5 w6 h7 => (lenP false x0).bind fun v8 => (binP .lss (nthP w6 0) v8).bind fun v9 => KL (fun w11 h12 => KL (fun w14 h15 => (binP .add (nthP w6 0) (.int .i64 1 : PV)).bind fun v16 => c5 [v16] (trim h [v16] h15)) fun j13 => (indexAddrP 1 x0 (nthP w6 0)).bind fun v17 => (loadP false 1 v17 h12).bind fun v18 => (Γ 54 [v18, (.int .i64 8 : PV)] h12).bind fun p19 => (unP .not p19.1).bind fun v20 => KL (fun w22 h23 => j13 [] h23) fun j21 => ifP v20 ( finP [.keep] h p19.2 [(.bool false : PV)]) ( j21 [] p19.2)) fun j10 => ifP v9 ( j10 [] h7) ( j0 [] h7)
noncomputable def s52 (Γ : PCallee) (n : Nat) (x0 : PV) (h : PHeap) : Pt := KL (fun w1 h2 => (lenP false x0).bind fun v3 => (binP .eql v3 (.int .i64 16 : PV)).bind fun v4 => finP [.keep] h h2 [v4]) fun j0 => loopP (s52_L0 Γ n x0 h j0) n [(.int .i64 0 : PV)] h
theorem s52_eq (Γ : PCallee) (n : Nat) (x0 : PV) (h : PHeap) : pfunK Γ n A52 [x0] h = s52 Γ n x0 h := by kernel_rfl
def A53 : PFun := ⟨2, 16, (.seq (.region false (.op (some 3) (.a (.move (.const (.bool false)))) false
  .nil))
  (.seq (.region false (.op (some 4) (.a (.move (.tmp 0))) false
  (.op (some 5) (.a (.load false 1 (.tmp 1))) false
  (.op (some 6) (.a (.bin .sub (.tmp 5) (.const (.int .i64 1)))) false
  (.op (some 7) (.a (.bin .shl (.const (.int .i64 (-1))) (.tmp 6))) false
  (.op (some 8) (.a (.bin .lss (.tmp 4) (.tmp 7))) false
  (.op (some 9) (.a (.move (.tmp 8))) false
  (.sc 15 9 false [10, 11, 12, 13, 14]
  (.op (some 10) (.a (.move (.tmp 0))) false
  (.op (some 11) (.a (.load false 1 (.tmp 1))) false
  (.op (some 12) (.a (.bin .sub (.tmp 11) (.const (.int .i64 1)))) false
  (.op (some 13) (.a (.bin .shl (.const (.int .i64 1)) (.tmp 12))) false
  (.op (some 14) (.a (.bin .geq (.tmp 10) (.tmp 13))) false
  .nil))))) (.tmp 14)
  (.op (some 3) (.a (.move (.tmp 15))) false
  .nil)))))))))
  .ret)), [.tmp 3], [.keep]⟩
theorem ok53 : ∃ fn c, FunOk Try.prog 53 fn c A53.erase := ⟨Try.f53, _, ⟨Try.func53, rfl, by kernel_rfl, by kernel_rfl, by kernel_rfl, of_decide_eq_true (by kernel_rfl), by kernel_rfl⟩⟩
noncomputable def s53 (Γ : PCallee) (n : Nat) (x0 : PV) (x1 : PV) (h : PHeap) : Pt := (loadP false 1 x1 h).bind fun v0 => (binP .sub v0 (.int .i64 1 : PV)).bind fun v1 => (binP .shl (.int .i64 (-1) : PV) v1).bind fun v2 => (binP .lss x0 v2).bind fun v3 => K1 (fun v5 h6 => finP [.keep] h h6 [v5]) fun j4 => scP v3 false ( (loadP false 1 x1 h).bind fun v7 => (binP .sub v7 (.int .i64 1 : PV)).bind fun v8 => (binP .shl (.int .i64 1 : PV) v8).bind fun v9 => (binP .geq x0 v9).bind fun v10 => j4 v10 h) (j4 (.bool true) h)
theorem s53_eq (Γ : PCallee) (n : Nat) (x0 : PV) (x1 : PV) (h : PHeap) : pfunK Γ n A53 [x0, x1] h = s53 Γ n x0 x1 h := by kernel_rfl
def A54 : PFun := ⟨2, 10, (.seq (.region false (.op (some 4) (.a (.move (.const (.bool false)))) false
  .nil))
  (.seq (.region false (.op (some 5) (.a (.move (.tmp 0))) false
  (.op (some 6) (.a (.move (.tmp 1))) false
  (.op (some 7) (.a (.call 43 [(.tmp 5), (.tmp 6)])) false
  (.op (some 8) (.a (.move (.tmp 0))) false
  (.op (some 9) (.a (.bin .eql (.tmp 7) (.tmp 8))) false
  (.op (some 4) (.a (.move (.tmp 9))) false
  .nil)))))))
  .ret)), [.tmp 4], [.keep]⟩
theorem ok54 : ∃ fn c, FunOk Try.prog 54 fn c A54.erase := ⟨Try.f54, _, ⟨Try.func54, rfl, by kernel_rfl, by kernel_rfl, by kernel_rfl, of_decide_eq_true (by kernel_rfl), by kernel_rfl⟩⟩
noncomputable def s54 (Γ : PCallee) (n : Nat) (x0 : PV) (x1 : PV) (h : PHeap) : Pt := (Γ 43 [x0, x1] h).bind fun p0 => (binP .eql p0.1 x0).bind fun v1 => finP [.keep] h p0.2 [v1]
theorem s54_eq (Γ : PCallee) (n : Nat) (x0 : PV) (x1 : PV) (h : PHeap) : pfunK Γ n A54 [x0, x1] h = s54 Γ n x0 x1 h := by kernel_rfl
def A55 : PFun := ⟨1, 4, (.seq (.region false (.op (some 1) (.a (.box 43 (.tmp 0))) false
  (.op (some 2) (.a (.move (.const .nilFunc))) false
  .nil)))
  (.seq (.region false (.op (some 3) (.a (.mkFunc 56 [] [(.tmp 1)])) false
  (.op (some 2) (.a (.move (.tmp 3))) false
  .nil)))
  .ret)), [.tmp 2], [.keep]⟩
theorem ok55 : ∃ fn c, FunOk Try.prog 55 fn c A55.erase := ⟨Try.f55, _, ⟨Try.func55, rfl, by kernel_rfl, by kernel_rfl, by kernel_rfl, of_decide_eq_true (by kernel_rfl), by kernel_rfl⟩⟩
noncomputable def s55 (Γ : PCallee) (n : Nat) (x0 : PV) (h : PHeap) : Pt := forkP (.ptr h.length 0) (h ++ [.box (cellsP x0) 43 .rw]) fun v0 h1 => finP [.keep] h h1 [(PV.func 56 [] [v0])]
theorem s55_eq (Γ : PCallee) (n : Nat) (x0 : PV) (h : PHeap) : pfunK Γ n A55 [x0] h = s55 Γ n x0 h := by kernel_rfl
def A56 : PFun := ⟨3, 13, (.seq (.region false (.op (some 5) (.a (.move (.const (.slice none 0 0)))) false
  .nil))
  (.seq (.region true (.op (some 6) (.a (.load false 1 (.tmp 2))) false
  (.op (some 7) (.a (.load false 1 (.tmp 2))) false
  (.op (some 8) (.a (.move (.tmp 0))) false
  (.op (some 9) (.a (.move (.tmp 1))) false
  (.op (some 10) (.a (.callV (.tmp 7) [(.tmp 8), (.tmp 9)])) true
  (.op (some 11) (.a (.move (.tmp 1))) false
  (.op (some 12) (.a (.callV (.tmp 6) [(.tmp 10), (.tmp 11)])) false
  (.op (some 5) (.a (.move (.tmp 12))) false
  .nil)))))))))
  .ret)), [.tmp 5], [(.flat 1)]⟩
theorem ok56 : ∃ fn c, FunOk Try.prog 56 fn c A56.erase := ⟨Try.f56, _, ⟨Try.func56, rfl, by kernel_rfl, by kernel_rfl, by kernel_rfl, of_decide_eq_true (by kernel_rfl), by kernel_rfl⟩⟩
noncomputable def s56 (Γ : PCallee) (n : Nat) (x0 : PV) (x1 : PV) (x2 : PV) (h : PHeap) : Pt := (loadP false 1 x2 h).bind fun v0 => (loadP false 1 x2 h).bind fun v1 => (callVP Γ v1 [x0, x1] (lock h)).bind fun p2 => unl h p2.2 fun h3 => (callVP Γ v0 [p2.1, x1] h3).bind fun p4 => finP [(.flat 1)] h p4.2 [p4.1]
theorem s56_eq (Γ : PCallee) (n : Nat) (x0 : PV) (x1 : PV) (x2 : PV) (h : PHeap) : pfunK Γ n A56 [x0, x1, x2] h = s56 Γ n x0 x1 x2 h := by kernel_rfl
def A57 : PFun := ⟨3, 31, (.seq (.region false (.op (some 4) (.a (.move (.const (.int .i64 0)))) false
  .nil))
  (.block 0 [] [4, 5, 6, 7, 8, 9, 10, 11, 12, 13, 14, 15, 16, 17, 18, 19, 20, 21, 22, 23, 24, 25, 26, 27, 28, 29, 30]
  (.loop [4] [5, 6, 7, 8, 9, 10, 11, 12, 13, 14, 15, 16, 17, 18, 19, 20, 21, 22, 23, 24, 25, 26, 27, 28, 29, 30]
  (.seq (.seq (.region false (.op (some 6) (.a (.move (.tmp 4))) false
  (.op (some 7) (.a (.load false 1 (.tmp 1))) false
  (.op (some 8) (.a (.len false (.tmp 7))) false
  (.op (some 9) (.a (.bin .lss (.tmp 6) (.tmp 8))) false
  .nil)))))
  (.cond (.tmp 9) [] []
  .skip
  (.exit 0)))
  (.seq (.block 1 [] [5, 13, 14, 15, 16, 17, 18, 19, 20, 21, 22, 23, 24, 25, 26, 27, 28, 29, 30]
  (.seq (.region true (.op (some 13) (.a (.load false 1 (.tmp 2))) false
  (.op (some 14) (.a (.load false 1 (.tmp 1))) false
  (.op (some 15) (.a (.move (.tmp 4))) false
  (.op (some 16) (.a (.slice 1 (.tmp 14) (some (.tmp 15)) none none)) false
  (.op (some 17) (.a (.len false (.tmp 16))) false
  (.op (some 18) (.a (.min [(.tmp 13), (.tmp 17)])) false
  (.op (some 5) (.a (.move (.tmp 18))) false
  .nil))))))))
  (.seq (.region false (.op (some 19) (.a (.move (.tmp 0))) false
  (.op (some 20) (.a (.load false 1 (.tmp 1))) false
  (.op (some 21) (.a (.move (.tmp 4))) false
  (.op (some 22) (.a (.move (.tmp 4))) false
  (.op (some 23) (.a (.move (.tmp 5))) false
  (.op (some 24) (.a (.bin .add (.tmp 22) (.tmp 23))) false
  (.op (some 25) (.a (.move (.tmp 4))) false
  (.op (some 26) (.a (.move (.tmp 5))) false
  (.op (some 27) (.a (.bin .add (.tmp 25) (.tmp 26))) false
  (.op (some 28) (.a (.slice 1 (.tmp 20) (some (.tmp 21)) (some (.tmp 24)) (some (.tmp 27)))) false
  (.fz 28 (.flat 1)
  (.op (some 29) (.a (.callV (.tmp 19) [(.tmp 28)])) false
  (.op (some 30) (.a (.un .not (.tmp 29))) false
  .nil))))))))))))))
  (.cond (.tmp 30) [] []
  .ret
  .skip))))
  (.region false (.op (some 10) (.a (.move (.tmp 4))) false
  (.op (some 11) (.a (.load false 1 (.tmp 2))) false
  (.op (some 12) (.a (.bin .add (.tmp 10) (.tmp 11))) false
  (.op (some 4) (.a (.move (.tmp 12))) false
  .nil)))))))))), [], []⟩
theorem ok57 : ∃ fn c, FunOk Try.prog 57 fn c A57.erase := ⟨Try.f57, _, ⟨Try.func57, rfl, by kernel_rfl, by kernel_rfl, by kernel_rfl, of_decide_eq_true (by kernel_rfl), by kernel_rfl⟩⟩
noncomputable def s57_L0 (Γ : PCallee) (n : Nat) (x0 : PV) (x1 : PV) (x2 : PV) (h : PHeap) (j0 : Kt) : (Kt) → Kt := fun c3 w4 h5 => (loadP false 1 x1 h5).bind fun v6 => (lenP false v6).bind fun v7 => (binP .lss (nthP w4 0) v7).bind fun v8 => KL (fun w10 h11 => KL (fun w13 h14 => (loadP false 1 x2 h14).bind fun v15 => (binP .add (nthP w4 0) v15).bind fun v16 => c3 [v16] (trim h [v16] h14)) fun j12 => (loadP false 1 x2 h11).bind fun v17 => (loadP false 1 x1 h11).bind fun v18 => (sliceP 1 v18 (some (nthP w4 0)) none none).bind fun v19 => (lenP false v19).bind fun v20 => (fold1P min2P [v17, v20]).bind fun v21 => (loadP false 1 x1 h11).bind fun v22 => (binP .add (nthP w4 0) v21).bind fun v23 => (binP .add (nthP w4 0) v21).bind fun v24 => (sliceP 1 v22 (some (nthP w4 0)) (some v23) (some v24)).bind fun v25 => (fz (.flat 1) v25 h11).bind fun q26 => (callVP Γ x0 [q26.1] q26.2).bind fun p27 => (unP .not p27.1).bind fun v28 => KL (fun w30 h31 => j12 [] h31) fun j29 => ifP v28 ( finP [] h p27.2 []) ( j29 [] p27.2)) fun j9 => ifP v8 ( j9 [] h5) ( j0 [] h5)
noncomputable def s57 (Γ : PCallee) (n : Nat) (x0 : PV) (x1 : PV) (x2 : PV) (h : PHeap) : Pt := KL (fun w1 h2 => finP [] h h2 []) fun j0 => loopP (s57_L0 Γ n x0 x1 x2 h j0) n [(.int .i64 0 : PV)] h
theorem s57_eq (Γ : PCallee) (n : Nat) (x0 : PV) (x1 : PV) (x2 : PV) (h : PHeap) : pfunK Γ n A57 [x0, x1, x2] h = s57 Γ n x0 x1 x2 h := by kernel_rfl
def A58 : PFun := ⟨2, 19, (.seq (.region false (.op (some 4) (.a (.move (.const (.int .i64 0)))) false
  .nil))
  (.seq (.seq (.region false (.op (some 6) (.a (.move (.tmp 0))) false
  (.op (some 7) (.a (.len false (.tmp 6))) false
  (.op (some 8) (.a (.move (.const (.int .i64 0)))) false
  .nil))))
  (.block 0 [] [4, 5, 8, 9, 10, 11, 12, 13, 14, 15, 16, 17, 18]
  (.loop [8] [4, 5, 9, 10, 11, 12, 13, 14, 15, 16, 17, 18]
  (.seq (.region false (.op (some 9) (.a (.bin .lss (.tmp 8) (.tmp 7))) false
  .nil))
  (.seq (.cond (.tmp 9) [] []
  .skip
  (.exit 0))
  (.seq (.block 1 [] [4, 5, 10, 11, 12, 13, 14, 15, 16, 17]
  (.seq (.region false (.op (some 10) (.a (.move (.tmp 8))) false
  (.op (some 5) (.a (.move (.tmp 10))) false
  .nil)))
  (.seq (.region false (.op (some 11) (.a (.move (.tmp 1))) false
  (.op (some 12) (.a (.move (.tmp 0))) false
  (.op (some 13) (.a (.move (.tmp 5))) false
  (.op (some 14) (.a (.indexAddr 1 (.tmp 12) (.tmp 13))) false
  (.op (some 15) (.a (.load false 1 (.tmp 14))) false
  (.op (some 16) (.a (.callV (.tmp 11) [(.tmp 15)])) false
  .nil)))))))
  (.cond (.tmp 16) [] [4, 17]
  (.seq (.region false (.op (some 17) (.a (.move (.tmp 5))) false
  (.op (some 4) (.a (.move (.tmp 17))) false
  .nil)))
  .ret)
  .skip))))
  (.region false (.op (some 18) (.a (.bin .add (.tmp 8) (.const (.int .i64 1)))) false
  (.op (some 8) (.a (.move (.tmp 18))) false
  .nil)))))))))
  (.seq (.region false (.op (some 4) (.a (.move (.const (.int .i64 (-1))))) false
  .nil))
  .ret))), [.tmp 4], [.keep]⟩
theorem ok58 : ∃ fn c, FunOk Try.prog 58 fn c A58.erase := ⟨Try.f58, _, ⟨Try.func58, rfl, by kernel_rfl, by kernel_rfl, by kernel_rfl, of_decide_eq_true (by kernel_rfl), by kernel_rfl⟩⟩
noncomputable def s58_L0 (Γ : PCallee) (n : Nat) (x0 : PV) (x1 : PV) (h : PHeap) (v0 : PV) (j1 : Kt) : (Kt) → Kt := fun c4 w5 h6 => (binP .lss (nthP w5 0) v0).bind fun v7 => KL (fun w9 h10 => KL (fun w12 h13 => (binP .add (nthP w5 0) (.int .i64 1 : PV)).bind fun v14 => c4 [v14] (trim h [v14] h13)) fun j11 => (indexAddrP 1 x0 (nthP w5 0)).bind fun v15 => (loadP false 1 v15 h10).bind fun v16 => (callVP Γ x1 [v16] h10).bind fun p17 => KL (fun w19 h20 => j11 [] h20) fun j18 => ifP p17.1 ( finP [.keep] h p17.2 [(nthP w5 0)]) ( j18 [] p17.2)) fun j8 => ifP v7 ( j8 [] h6) ( j1 [] h6)
noncomputable def s58 (Γ : PCallee) (n : Nat) (x0 : PV) (x1 : PV) (h : PHeap) : Pt := (lenP false x0).bind fun v0 => KL (fun w2 h3 => finP [.keep] h h3 [(.int .i64 (-1) : PV)]) fun j1 => loopP (s58_L0 Γ n x0 x1 h v0 j1) n [(.int .i64 0 : PV)] h
theorem s58_eq (Γ : PCallee) (n : Nat) (x0 : PV) (x1 : PV) (h : PHeap) : pfunK Γ n A58 [x0, x1] h = s58 Γ n x0 x1 h := by kernel_rfl
def A59 : PFun := ⟨1, 9, (.seq (.region false (.op (some 2) (.a (.move (.const (.bool false)))) false
  .nil))
  (.seq (.region false (.op (some 3) (.a (.move (.tmp 0))) false
  (.op (some 4) (.a (.bin .lss (.tmp 3) (.const (.int .i64 (-128))))) false
  (.op (some 5) (.a (.move (.tmp 4))) false
  (.sc 8 5 false [6, 7]
  (.op (some 6) (.a (.move (.tmp 0))) false
  (.op (some 7) (.a (.bin .gtr (.tmp 6) (.const (.int .i64 127)))) false
  .nil)) (.tmp 7)
  (.op (some 2) (.a (.move (.tmp 8))) false
  .nil))))))
  .ret)), [.tmp 2], [.keep]⟩
theorem ok59 : ∃ fn c, FunOk Try.prog 59 fn c A59.erase := ⟨Try.f59, _, ⟨Try.func59, rfl, by kernel_rfl, by kernel_rfl, by kernel_rfl, of_decide_eq_true (by kernel_rfl), by kernel_rfl⟩⟩
noncomputable def s59 (Γ : PCallee) (n : Nat) (x0 : PV) (h : PHeap) : Pt := (binP .lss x0 (.int .i64 (-128) : PV)).bind fun v0 => K1 (fun v2 h3 => finP [.keep] h h3 [v2]) fun j1 => scP v0 false ( (binP .gtr x0 (.int .i64 127 : PV)).bind fun v4 => j1 v4 h) (j1 (.bool true) h)
theorem s59_eq (Γ : PCallee) (n : Nat) (x0 : PV) (h : PHeap) : pfunK Γ n A59 [x0] h = s59 Γ n x0 h := by kernel_rfl
def A60 : PFun := ⟨2, 12, (.seq (.region false (.op (some 4) (.a (.move (.const (.int .i64 0)))) false
  .nil))
  (.seq (.region false (.op (some 5) (.a (.move (.tmp 0))) false
  (.op (some 6) (.a (.move (.tmp 1))) false
  (.op (some 7) (.a (.move (.tmp 0))) false
  (.op (some 8) (.a (.move (.tmp 1))) false
  (.op (some 9) (.a (.call 64 [(.tmp 7), (.tmp 8)])) false
  (.op (some 10) (.a (.bin .mul (.tmp 6) (.tmp 9))) false
  (.op (some 11) (.a (.bin .sub (.tmp 5) (.tmp 10))) false
  (.op (some 4) (.a (.move (.tmp 11))) false
  .nil)))))))))
  .ret)), [.tmp 4], [.keep]⟩
theorem ok60 : ∃ fn c, FunOk Try.prog 60 fn c A60.erase := ⟨Try.f60, _, ⟨Try.func60, rfl, by kernel_rfl, by kernel_rfl, by kernel_rfl, of_decide_eq_true (by kernel_rfl), by kernel_rfl⟩⟩
noncomputable def s60 (Γ : PCallee) (n : Nat) (x0 : PV) (x1 : PV) (h : PHeap) : Pt := (Γ 64 [x0, x1] h).bind fun p0 => (binP .mul x1 p0.1).bind fun v1 => (binP .sub x0 v1).bind fun v2 => finP [.keep] h p0.2 [v2]
theorem s60_eq (Γ : PCallee) (n : Nat) (x0 : PV) (x1 : PV) (h : PHeap) : pfunK Γ n A60 [x0, x1] h = s60 Γ n x0 x1 h := by kernel_rfl
open Go.Vm.G in
def A61 : PFun := ⟨3, 63, (S (R <| o 6 (.move (i 20)) <| z) <|
  (S (R <| m 10 6 <| o 7 (.move (i 0)) <| m 8 10 <| z) <|
  (S (.block 0 [7] ([8] ++ g 11 12)
  (.loop [7, 8] (g 11 12)
  (S (S (R <| m 11 8 <| m 12 1 <| b 13 .leq (t 11) (t 12) <| z) <|
  (.cond (t 13) [] []
  .skip
  (.exit 0))) <|
  (.block 1 [7, 8] (g 14 9)
  (S (R <| m 14 0 <| m 15 7 <| m 16 8 <| m 17 2 <| o 18 (.call 65 [(t 14), (t 15), (t 16), (t 17)]) <| z) <|
  (S (R <| m 19 8 <| m 7 19 <| z) <|
  (R <| m 20 8 <| m 21 6 <| b 22 .add (t 20) (t 21) <| m 8 22 <| z))))))) <|
  (S (R <| m 23 0 <| m 24 7 <| m 25 1 <| m 26 2 <| o 27 (.call 65 [(t 23), (t 24), (t 25), (t 26)]) <| z) <|
  (.block 2 [] (g 6 4 ++ g 28 35)
  (.loop [6] ([7, 8, 9] ++ g 28 35)
  (S (S (R <| m 28 6 <| m 29 1 <| b 30 .lss (t 28) (t 29) <| z) <|
  (.cond (t 30) [] []
  .skip
  (.exit 2))) <|
  (.block 3 [6] ([7, 8, 9] ++ g 31 32)
  (S (R <| m 31 6 <| b 32 .mul (i 2) (t 31) <| o 7 (.move (i 0)) <| m 8 32 <| z) <|
  (S (.block 4 [7] ([8] ++ g 33 16)
  (.loop [7, 8] (g 33 16)
  (S (S (R <| m 33 8 <| m 34 1 <| b 35 .leq (t 33) (t 34) <| z) <|
  (.cond (t 35) [] []
  .skip
  (.exit 4))) <|
  (.block 5 [7, 8] (g 36 13)
  (S (R <| m 36 0 <| m 37 7 <| m 38 7 <| m 39 6 <| b 40 .add (t 38) (t 39) <| m 41 8 <| m 42 2 <| o 43 (.call 66 [(t 36), (t 37), (t 40), (t 41), (t 42)]) <| z) <|
  (S (R <| m 44 8 <| m 7 44 <| z) <|
  (R <| m 45 8 <| m 46 6 <| b 47 .mul (i 2) (t 46) <| b 48 .add (t 45) (t 47) <| m 8 48 <| z))))))) <|
  (S (S (R <| m 49 7 <| m 50 6 <| b 51 .add (t 49) (t 50) <| m 9 51 <| z) <|
  (S (R <| m 52 9 <| m 53 1 <| b 54 .lss (t 52) (t 53) <| z) <|
  (.cond (t 54) [] (g 55 6)
  (R <| m 55 0 <| m 56 7 <| m 57 9 <| m 58 1 <| m 59 2 <| o 60 (.call 66 [(t 55), (t 56), (t 57), (t 58), (t 59)]) <| z)
  .skip))) <|
  (R <| m 61 6 <| b 62 .mul (t 61) (i 2) <| m 6 62 <| z)))))))))))), [], []⟩
theorem ok61 : ∃ fn c, FunOk Try.prog 61 fn c A61.erase := ⟨Try.f61, _, ⟨Try.func61, rfl, by kernel_rfl, by kernel_rfl, by kernel_rfl, of_decide_eq_true (by kernel_rfl), by kernel_rfl⟩⟩
noncomputable def s61_L0 (Γ : PCallee) (n : Nat) (x0 : PV) (x1 : PV) (x2 : PV) (w8 : List PV) (h13 : PHeap) (j18 : Kt) : (Kt) → Kt := fun c28 w29 h30 => (binP .leq (nthP w29 1) x1).bind fun v31 => KL (fun w33 h34 => KL (fun w36 h37 => c28 [(nthP w36 0), (nthP w36 1)] (trim h13 [(nthP w36 0), (nthP w36 1)] h37)) fun j35 => (binP .add (nthP w29 0) (nthP w8 0)).bind fun v38 => (Γ 66 [x0, (nthP w29 0), v38, (nthP w29 1), x2] h34).bind fun p39 => (binP .mul (.int .i64 2 : PV) (nthP w8 0)).bind fun v40 => (binP .add (nthP w29 1) v40).bind fun v41 => j35 [(nthP w29 1), v41] p39.2) fun j32 => ifP v31 ( j32 [] h30) ( j18 [(nthP w29 0)] h30)
noncomputable def s61_L1 (Γ : PCallee) (n : Nat) (x0 : PV) (x1 : PV) (x2 : PV) (p3 : PV × PHeap) (j4 : Kt) : (Kt) → Kt := fun c7 w8 h9 => (binP .lss (nthP w8 0) x1).bind fun v10 => KL (fun w12 h13 => KL (fun w15 h16 => c7 [(nthP w15 0)] (trim p3.2 [(nthP w15 0)] h16)) fun j14 => (binP .mul (.int .i64 2 : PV) (nthP w8 0)).bind fun v17 => KL (fun w19 h20 => (binP .add (nthP w19 0) (nthP w8 0)).bind fun v21 => (binP .lss v21 x1).bind fun v22 => KL (fun w24 h25 => (binP .mul (nthP w8 0) (.int .i64 2 : PV)).bind fun v26 => j14 [v26] h25) fun j23 => ifP v22 ( (Γ 66 [x0, (nthP w19 0), v21, x1, x2] h20).bind fun p27 => j23 [] p27.2) ( j23 [] h20)) fun j18 => loopP (s61_L0 Γ n x0 x1 x2 w8 h13 j18) n [(.int .i64 0 : PV), v17] h13) fun j11 => ifP v10 ( j11 [] h9) ( j4 [] h9)
noncomputable def s61_L2 (Γ : PCallee) (n : Nat) (x0 : PV) (x1 : PV) (x2 : PV) (h : PHeap) (j0 : Kt) : (Kt) → Kt := fun c42 w43 h44 => (binP .leq (nthP w43 1) x1).bind fun v45 => KL (fun w47 h48 => KL (fun w50 h51 => c42 [(nthP w50 0), (nthP w50 1)] (trim h [(nthP w50 0), (nthP w50 1)] h51)) fun j49 => (Γ 65 [x0, (nthP w43 0), (nthP w43 1), x2] h48).bind fun p52 => (binP .add (nthP w43 1) (.int .i64 20 : PV)).bind fun v53 => j49 [(nthP w43 1), v53] p52.2) fun j46 => ifP v45 ( j46 [] h44) ( j0 [(nthP w43 0)] h44)
noncomputable def s61 (Γ : PCallee) (n : Nat) (x0 : PV) (x1 : PV) (x2 : PV) (h : PHeap) : Pt := KL (fun w1 h2 => (Γ 65 [x0, (nthP w1 0), x1, x2] h2).bind fun p3 => KL (fun w5 h6 => finP [] h h6 []) fun j4 => loopP (s61_L1 Γ n x0 x1 x2 p3 j4) n [(.int .i64 20 : PV)] p3.2) fun j0 => loopP (s61_L2 Γ n x0 x1 x2 h j0) n [(.int .i64 0 : PV), (.int .i64 20 : PV)] h
theorem s61_eq (Γ : PCallee) (n : Nat) (x0 : PV) (x1 : PV) (x2 : PV) (h : PHeap) : pfunK Γ n A61 [x0, x1, x2] h = s61 Γ n x0 x1 x2 h := by kernel_rfl
def A64 : PFun := ⟨2, 16, (.seq (.region false (.op (some 4) (.a (.move (.const (.int .i64 0)))) false
  .nil))
  (.seq (.region false (.op (some 6) (.a (.move (.tmp 0))) false
  (.op (some 7) (.a (.move (.tmp 1))) false
  (.op (some 8) (.a (.bin .quo (.tmp 6) (.tmp 7))) false
  (.op (some 5) (.a (.move (.tmp 8))) false
  .nil)))))
  (.seq (.seq (.region false (.op (some 9) (.a (.move (.tmp 0))) false
  (.op (some 10) (.a (.move (.tmp 1))) false
  (.op (some 11) (.a (.bin .rem (.tmp 9) (.tmp 10))) false
  (.op (some 12) (.a (.bin .lss (.tmp 11) (.const (.int .i64 0)))) false
  .nil)))))
  (.cond (.tmp 12) [5] [13, 14]
  (.region false (.op (some 13) (.a (.move (.tmp 5))) false
  (.op (some 14) (.a (.bin .sub (.tmp 13) (.const (.int .i64 1)))) false
  (.op (some 5) (.a (.move (.tmp 14))) false
  .nil))))
  .skip))
  (.seq (.region false (.op (some 15) (.a (.move (.tmp 5))) false
  (.op (some 4) (.a (.move (.tmp 15))) false
  .nil)))
  .ret)))), [.tmp 4], [.keep]⟩
theorem ok64 : ∃ fn c, FunOk Try.prog 64 fn c A64.erase := ⟨Try.f64, _, ⟨Try.func64, rfl, by kernel_rfl, by kernel_rfl, by kernel_rfl, of_decide_eq_true (by kernel_rfl), by kernel_rfl⟩⟩
noncomputable def s64 (Γ : PCallee) (n : Nat) (x0 : PV) (x1 : PV) (h : PHeap) : Pt := (binP .quo x0 x1).bind fun v0 => (binP .rem x0 x1).bind fun v1 => (binP .lss v1 (.int .i64 0 : PV)).bind fun v2 => KL (fun w4 h5 => finP [.keep] h h5 [(nthP w4 0)]) fun j3 => ifP v2 ( (binP .sub v0 (.int .i64 1 : PV)).bind fun v6 => j3 [v6] h) ( j3 [v0] h)
theorem s64_eq (Γ : PCallee) (n : Nat) (x0 : PV) (x1 : PV) (h : PHeap) : pfunK Γ n A64 [x0, x1] h = s64 Γ n x0 x1 h := by kernel_rfl
open Go.Vm.G in
def A65 : PFun := ⟨4, 53, (S (R <| m 10 1 <| b 11 .add (t 10) (i 1) <| m 8 11 <| z) <|
  (.block 0 [] ([8, 9] ++ g 12 41)
  (.loop [8] ([9] ++ g 12 41)
  (S (S (R <| m 12 8 <| m 13 2 <| b 14 .lss (t 12) (t 13) <| z) <|
  (.cond (t 14) [] []
  .skip
  (.exit 0))) <|
  (S (.block 1 [] ([9] ++ g 17 36)
  (S (R <| m 17 8 <| m 9 17 <| z) <|
  (.block 2 [] ([9] ++ g 18 35)
  (.loop [9] (g 18 35)
  (S (S (D <| m 18 9 <| m 19 1 <| b 20 .gtr (t 18) (t 19) <| m 21 20 <| q 34 21 true (g 22 12) (m 22 3 <| m 23 0 <| m 24 9 <| o 25 (.indexAddr 1 (t 23) (t 24)) <| l 26 25 <| m 27 0 <| m 28 9 <| b 29 .sub (t 28) (i 1) <| o 30 (.indexAddr 1 (t 27) (t 29)) <| l 31 30 <| o 32 (.callV (t 22) [(t 26), (t 31)]) <| b 33 .lss (t 32) (i 0) <| z) (t 33) <|
  z) <|
  (.cond (t 34) [] []
  .skip
  (.exit 2))) <|
  (S (.block 3 [] (g 37 16)
  (D <| m 37 0 <| m 38 9 <| m 39 0 <| m 40 9 <| b 41 .sub (t 40) (i 1) <| m 42 0 <| m 43 9 <| b 44 .sub (t 43) (i 1) <| o 45 (.indexAddr 1 (t 42) (t 44)) <| l 46 45 <| m 47 0 <| m 48 9 <| o 49 (.indexAddr 1 (t 47) (t 48)) <| l 50 49 <| o 51 (.indexAddr 1 (t 37) (t 38)) <| n (.store 1 (t 51) (t 46)) <| o 52 (.indexAddr 1 (t 39) (t 41)) <| n (.store 1 (t 52) (t 50)) <| z)) <|
  (R <| m 35 9 <| b 36 .sub (t 35) (i 1) <| m 9 36 <| z))))))) <|
  (R <| m 15 8 <| b 16 .add (t 15) (i 1) <| m 8 16 <| z)))))), [], []⟩
theorem ok65 : ∃ fn c, FunOk Try.prog 65 fn c A65.erase := ⟨Try.f65, _, ⟨Try.func65, rfl, by kernel_rfl, by kernel_rfl, by kernel_rfl, of_decide_eq_true (by kernel_rfl), by kernel_rfl⟩⟩
noncomputable def s65_L0 (Γ : PCallee) (n : Nat) (x0 : PV) (x1 : PV) (x3 : PV) (h10 : PHeap) (j15 : Kt) : (Kt) → Kt := fun c18 w19 h20 => (binP .gtr (nthP w19 0) x1).bind fun v21 => K1 (fun v23 h24 => KL (fun w26 h27 => KL (fun w29 h30 => (binP .sub (nthP w19 0) (.int .i64 1 : PV)).bind fun v31 => c18 [v31] (trim h10 [v31] h30)) fun j28 => (binP .sub (nthP w19 0) (.int .i64 1 : PV)).bind fun v32 => (binP .sub (nthP w19 0) (.int .i64 1 : PV)).bind fun v33 => (indexAddrP 1 x0 v33).bind fun v34 => (loadP false 1 v34 h27).bind fun v35 => (indexAddrP 1 x0 (nthP w19 0)).bind fun v36 => (loadP false 1 v36 h27).bind fun v37 => (indexAddrP 1 x0 (nthP w19 0)).bind fun v38 => (storeP 1 v38 v35 h27).bind fun h39 => (indexAddrP 1 x0 v32).bind fun v40 => (storeP 1 v40 v37 h39).bind fun h41 => j28 [] h41) fun j25 => ifP v23 ( j25 [] h24) ( j15 [] h24)) fun j22 => scP v21 true ( (indexAddrP 1 x0 (nthP w19 0)).bind fun v42 => (loadP false 1 v42 h20).bind fun v43 => (binP .sub (nthP w19 0) (.int .i64 1 : PV)).bind fun v44 => (indexAddrP 1 x0 v44).bind fun v45 => (loadP false 1 v45 h20).bind fun v46 => (callVP Γ x3 [v43, v46] h20).bind fun p47 => (binP .lss p47.1 (.int .i64 0 : PV)).bind fun v48 => j22 v48 p47.2) (j22 (.bool false) h20)
noncomputable def s65_L1 (Γ : PCallee) (n : Nat) (x0 : PV) (x1 : PV) (x2 : PV) (x3 : PV) (h : PHeap) (j1 : Kt) : (Kt) → Kt := fun c4 w5 h6 => (binP .lss (nthP w5 0) x2).bind fun v7 => KL (fun w9 h10 => KL (fun w12 h13 => (binP .add (nthP w5 0) (.int .i64 1 : PV)).bind fun v14 => c4 [v14] (trim h [v14] h13)) fun j11 => KL (fun w16 h17 => j11 [] h17) fun j15 => loopP (s65_L0 Γ n x0 x1 x3 h10 j15) n [(nthP w5 0)] h10) fun j8 => ifP v7 ( j8 [] h6) ( j1 [] h6)
noncomputable def s65 (Γ : PCallee) (n : Nat) (x0 : PV) (x1 : PV) (x2 : PV) (x3 : PV) (h : PHeap) : Pt := (binP .add x1 (.int .i64 1 : PV)).bind fun v0 => KL (fun w2 h3 => finP [] h h3 []) fun j1 => loopP (s65_L1 Γ n x0 x1 x2 x3 h j1) n [v0] h
theorem s65_eq (Γ : PCallee) (n : Nat) (x0 : PV) (x1 : PV) (x2 : PV) (x3 : PV) (h : PHeap) : pfunK Γ n A65 [x0, x1, x2, x3] h = s65 Γ n x0 x1 x2 x3 h := by kernel_rfl
open Go.Vm.G in
def A66 : PFun := ⟨5, 220, (S (S (R <| m 25 2 <| m 26 1 <| b 27 .sub (t 25) (t 26) <| b 28 .eql (t 27) (i 1) <| z) <|
  (.cond (t 28) [] (g 10 4 ++ g 29 48)
  (S (R <| m 29 2 <| m 10 29 <| z) <|
  (S (R <| m 30 3 <| m 11 30 <| z) <|
  (S (.block 0 [10] ([11, 12] ++ g 31 23)
  (.loop [10, 11] ([12] ++ g 31 23)
  (S (S (R <| m 31 10 <| m 32 11 <| b 33 .lss (t 31) (t 32) <| z) <|
  (.cond (t 33) [] []
  .skip
  (.exit 0))) <|
  (.block 1 [10, 11] ([12] ++ g 34 20)
  (S (R <| m 34 10 <| m 35 11 <| b 36 .add (t 34) (t 35) <| o 37 (.conv .u64 (t 36)) <| b 38 .shr (t 37) (.const (.int .u64 1)) <| o 39 (.conv .i64 (t 38)) <| m 12 39 <| z) <|
  (S (D <| m 40 4 <| m 41 0 <| m 42 12 <| o 43 (.indexAddr 1 (t 41) (t 42)) <| l 44 43 <| m 45 0 <| m 46 1 <| o 47 (.indexAddr 1 (t 45) (t 46)) <| l 48 47 <| o 49 (.callV (t 40) [(t 44), (t 48)]) <| b 50 .lss (t 49) (i 0) <| z) <|
  (.cond (t 50) [10, 11] [51, 52, 53]
  (R <| m 51 12 <| b 52 .add (t 51) (i 1) <| m 10 52 <| z)
  (R <| m 53 12 <| m 11 53 <| z)))))))) <|
  (S (S (R <| m 54 1 <| m 13 54 <| z) <|
  (.block 2 [] ([13] ++ g 55 22)
  (.loop [13] (g 55 22)
  (S (S (R <| m 55 13 <| m 56 10 <| b 57 .sub (t 56) (i 1) <| b 58 .lss (t 55) (t 57) <| z) <|
  (.cond (t 58) [] []
  .skip
  (.exit 2))) <|
  (S (.block 3 [] (g 61 16)
  (D <| m 61 0 <| m 62 13 <| m 63 0 <| m 64 13 <| b 65 .add (t 64) (i 1) <| m 66 0 <| m 67 13 <| b 68 .add (t 67) (i 1) <| o 69 (.indexAddr 1 (t 66) (t 68)) <| l 70 69 <| m 71 0 <| m 72 13 <| o 73 (.indexAddr 1 (t 71) (t 72)) <| l 74 73 <| o 75 (.indexAddr 1 (t 61) (t 62)) <| n (.store 1 (t 75) (t 70)) <| o 76 (.indexAddr 1 (t 63) (t 65)) <| n (.store 1 (t 76) (t 74)) <| z)) <|
  (R <| m 59 13 <| b 60 .add (t 59) (i 1) <| m 13 60 <| z)))))) <|
  .ret))))
  .skip)) <|
  (S (S (R <| m 77 3 <| m 78 2 <| b 79 .sub (t 77) (t 78) <| b 80 .eql (t 79) (i 1) <| z) <|
  (.cond (t 80) [] (g 14 4 ++ g 81 48)
  (S (R <| m 81 1 <| m 14 81 <| z) <|
  (S (R <| m 82 2 <| m 15 82 <| z) <|
  (S (.block 4 [14] ([15, 16] ++ g 83 24)
  (.loop [14, 15] ([16] ++ g 83 24)
  (S (S (R <| m 83 14 <| m 84 15 <| b 85 .lss (t 83) (t 84) <| z) <|
  (.cond (t 85) [] []
  .skip
  (.exit 4))) <|
  (.block 5 [14, 15] ([16] ++ g 86 21)
  (S (R <| m 86 14 <| m 87 15 <| b 88 .add (t 86) (t 87) <| o 89 (.conv .u64 (t 88)) <| b 90 .shr (t 89) (.const (.int .u64 1)) <| o 91 (.conv .i64 (t 90)) <| m 16 91 <| z) <|
  (S (D <| m 92 4 <| m 93 0 <| m 94 2 <| o 95 (.indexAddr 1 (t 93) (t 94)) <| l 96 95 <| m 97 0 <| m 98 16 <| o 99 (.indexAddr 1 (t 97) (t 98)) <| l 100 99 <| o 101 (.callV (t 92) [(t 96), (t 100)]) <| b 102 .lss (t 101) (i 0) <| o 103 (.un .not (t 102)) <| z) <|
  (.cond (t 103) [14, 15] [104, 105, 106]
  (R <| m 104 16 <| b 105 .add (t 104) (i 1) <| m 14 105 <| z)
  (R <| m 106 16 <| m 15 106 <| z)))))))) <|
  (S (S (R <| m 107 2 <| m 17 107 <| z) <|
  (.block 6 [] ([17] ++ g 108 21)
  (.loop [17] (g 108 21)
  (S (S (R <| m 108 17 <| m 109 14 <| b 110 .gtr (t 108) (t 109) <| z) <|
  (.cond (t 110) [] []
  .skip
  (.exit 6))) <|
  (S (.block 7 [] (g 113 16)
  (D <| m 113 0 <| m 114 17 <| m 115 0 <| m 116 17 <| b 117 .sub (t 116) (i 1) <| m 118 0 <| m 119 17 <| b 120 .sub (t 119) (i 1) <| o 121 (.indexAddr 1 (t 118) (t 120)) <| l 122 121 <| m 123 0 <| m 124 17 <| o 125 (.indexAddr 1 (t 123) (t 124)) <| l 126 125 <| o 127 (.indexAddr 1 (t 113) (t 114)) <| n (.store 1 (t 127) (t 122)) <| o 128 (.indexAddr 1 (t 115) (t 117)) <| n (.store 1 (t 128) (t 126)) <| z)) <|
  (R <| m 111 17 <| b 112 .sub (t 111) (i 1) <| m 17 112 <| z)))))) <|
  .ret))))
  .skip)) <|
  (S (R <| m 129 1 <| m 130 3 <| b 131 .add (t 129) (t 130) <| o 132 (.conv .u64 (t 131)) <| b 133 .shr (t 132) (.const (.int .u64 1)) <| o 134 (.conv .i64 (t 133)) <| m 18 134 <| z) <|
  (S (R <| m 135 18 <| m 136 2 <| b 137 .add (t 135) (t 136) <| m 19 137 <| z) <|
  (S (R <| o 20 (.move (i 0)) <| o 21 (.move (i 0)) <| z) <|
  (S (S (R <| m 138 2 <| m 139 18 <| b 140 .gtr (t 138) (t 139) <| z) <|
  (.cond (t 140) [20, 21] (g 141 6)
  (S (R <| m 141 19 <| m 142 3 <| b 143 .sub (t 141) (t 142) <| m 20 143 <| z) <|
  (R <| m 144 18 <| m 21 144 <| z))
  (S (R <| m 145 1 <| m 20 145 <| z) <|
  (R <| m 146 2 <| m 21 146 <| z)))) <|
  (S (R <| m 147 19 <| b 148 .sub (t 147) (i 1) <| m 22 148 <| z) <|
  (S (.block 8 [20] ([21, 23] ++ g 149 26)
  (.loop [20, 21] ([23] ++ g 149 26)
  (S (S (R <| m 149 20 <| m 150 21 <| b 151 .lss (t 149) (t 150) <| z) <|
  (.cond (t 151) [] []
  .skip
  (.exit 8))) <|
  (.block 9 [20, 21] ([23] ++ g 152 23)
  (S (R <| m 152 20 <| m 153 21 <| b 154 .add (t 152) (t 153) <| o 155 (.conv .u64 (t 154)) <| b 156 .shr (t 155) (.const (.int .u64 1)) <| o 157 (.conv .i64 (t 156)) <| m 23 157 <| z) <|
  (S (D <| m 158 4 <| m 159 0 <| m 160 22 <| m 161 23 <| b 162 .sub (t 160) (t 161) <| o 163 (.indexAddr 1 (t 159) (t 162)) <| l 164 163 <| m 165 0 <| m 166 23 <| o 167 (.indexAddr 1 (t 165) (t 166)) <| l 168 167 <| o 169 (.callV (t 158) [(t 164), (t 168)]) <| b 170 .lss (t 169) (i 0) <| o 171 (.un .not (t 170)) <| z) <|
  (.cond (t 171) [20, 21] [172, 173, 174]
  (R <| m 172 23 <| b 173 .add (t 172) (i 1) <| m 20 173 <| z)
  (R <| m 174 23 <| m 21 174 <| z)))))))) <|
  (S (R <| m 175 19 <| m 176 20 <| b 177 .sub (t 175) (t 176) <| m 24 177 <| z) <|
  (S (S (R <| m 178 20 <| m 179 2 <| b 180 .lss (t 178) (t 179) <| m 181 180 <| q 185 181 true [182, 183, 184] (m 182 2 <| m 183 24 <| b 184 .lss (t 182) (t 183) <| z) (t 184) <|
  z) <|
  (.cond (t 185) [] (g 186 6)
  (R <| m 186 0 <| m 187 20 <| m 188 2 <| m 189 24 <| m 190 4 <| o 191 (.call 78 [(t 186), (t 187), (t 188), (t 189), (t 190)]) <| z)
  .skip)) <|
  (S (S (R <| m 192 1 <| m 193 20 <| b 194 .lss (t 192) (t 193) <| m 195 194 <| q 199 195 true [196, 197, 198] (m 196 20 <| m 197 18 <| b 198 .lss (t 196) (t 197) <| z) (t 198) <|
  z) <|
  (.cond (t 199) [] (g 200 6)
  (R <| m 200 0 <| m 201 1 <| m 202 20 <| m 203 18 <| m 204 4 <| o 205 (.call 66 [(t 200), (t 201), (t 202), (t 203), (t 204)]) <| z)
  .skip)) <|
  (S (R <| m 206 18 <| m 207 24 <| b 208 .lss (t 206) (t 207) <| m 209 208 <| q 213 209 true [210, 211, 212] (m 210 24 <| m 211 3 <| b 212 .lss (t 210) (t 211) <| z) (t 212) <|
  z) <|
  (.cond (t 213) [] (g 214 6)
  (R <| m 214 0 <| m 215 18 <| m 216 24 <| m 217 3 <| m 218 4 <| o 219 (.call 66 [(t 214), (t 215), (t 216), (t 217), (t 218)]) <| z)
  .skip))))))))))))), [], []⟩
theorem ok66 : ∃ fn c, FunOk Try.prog 66 fn c A66.erase := ⟨Try.f66, _, ⟨Try.func66, rfl, by kernel_rfl, by kernel_rfl, by kernel_rfl, of_decide_eq_true (by kernel_rfl), by kernel_rfl⟩⟩
noncomputable def s66_L0 (Γ : PCallee) (n : Nat) (x0 : PV) (x4 : PV) (h18 : PHeap) (v19 : PV) (j20 : Kt) : (Kt) → Kt := fun c51 w52 h53 => (binP .lss (nthP w52 0) (nthP w52 1)).bind fun v54 => KL (fun w56 h57 => KL (fun w59 h60 => c51 [(nthP w59 0), (nthP w59 1)] (trim h18 [(nthP w59 0), (nthP w59 1)] h60)) fun j58 => (binP .add (nthP w52 0) (nthP w52 1)).bind fun v61 => (convP .u64 v61).bind fun v62 => (binP .shr v62 (.int .u64 1 : PV)).bind fun v63 => (convP .i64 v63).bind fun v64 => (binP .sub v19 v64).bind fun v65 => (indexAddrP 1 x0 v65).bind fun v66 => (loadP false 1 v66 h57).bind fun v67 => (indexAddrP 1 x0 v64).bind fun v68 => (loadP false 1 v68 h57).bind fun v69 => (callVP Γ x4 [v67, v69] h57).bind fun p70 => (binP .lss p70.1 (.int .i64 0 : PV)).bind fun v71 => (unP .not v71).bind fun v72 => KL (fun w74 h75 => j58 [(nthP w74 0), (nthP w74 1)] h75) fun j73 => ifP v72 ( (binP .add v64 (.int .i64 1 : PV)).bind fun v76 => j73 [v76, (nthP w52 1)] p70.2) ( j73 [(nthP w52 0), v64] p70.2)) fun j55 => ifP v54 ( j55 [] h53) ( j20 [(nthP w52 0)] h53)
noncomputable def s66_L1 (Γ : PCallee) (n : Nat) (x0 : PV) (w79 : List PV) (h80 : PHeap) (j81 : Kt) : (Kt) → Kt := fun c84 w85 h86 => (binP .gtr (nthP w85 0) (nthP w79 0)).bind fun v87 => KL (fun w89 h90 => KL (fun w92 h93 => (binP .sub (nthP w85 0) (.int .i64 1 : PV)).bind fun v94 => c84 [v94] (trim h80 [v94] h93)) fun j91 => (binP .sub (nthP w85 0) (.int .i64 1 : PV)).bind fun v95 => (binP .sub (nthP w85 0) (.int .i64 1 : PV)).bind fun v96 => (indexAddrP 1 x0 v96).bind fun v97 => (loadP false 1 v97 h90).bind fun v98 => (indexAddrP 1 x0 (nthP w85 0)).bind fun v99 => (loadP false 1 v99 h90).bind fun v100 => (indexAddrP 1 x0 (nthP w85 0)).bind fun v101 => (storeP 1 v101 v98 h90).bind fun h102 => (indexAddrP 1 x0 v95).bind fun v103 => (storeP 1 v103 v100 h102).bind fun h104 => j91 [] h104) fun j88 => ifP v87 ( j88 [] h86) ( j81 [] h86)
noncomputable def s66_L2 (Γ : PCallee) (n : Nat) (x0 : PV) (x2 : PV) (x4 : PV) (h4 : PHeap) (j78 : Kt) : (Kt) → Kt := fun c105 w106 h107 => (binP .lss (nthP w106 0) (nthP w106 1)).bind fun v108 => KL (fun w110 h111 => KL (fun w113 h114 => c105 [(nthP w113 0), (nthP w113 1)] (trim h4 [(nthP w113 0), (nthP w113 1)] h114)) fun j112 => (binP .add (nthP w106 0) (nthP w106 1)).bind fun v115 => (convP .u64 v115).bind fun v116 => (binP .shr v116 (.int .u64 1 : PV)).bind fun v117 => (convP .i64 v117).bind fun v118 => (indexAddrP 1 x0 x2).bind fun v119 => (loadP false 1 v119 h111).bind fun v120 => (indexAddrP 1 x0 v118).bind fun v121 => (loadP false 1 v121 h111).bind fun v122 => (callVP Γ x4 [v120, v122] h111).bind fun p123 => (binP .lss p123.1 (.int .i64 0 : PV)).bind fun v124 => (unP .not v124).bind fun v125 => KL (fun w127 h128 => j112 [(nthP w127 0), (nthP w127 1)] h128) fun j126 => ifP v125 ( (binP .add v118 (.int .i64 1 : PV)).bind fun v129 => j126 [v129, (nthP w106 1)] p123.2) ( j126 [(nthP w106 0), v118] p123.2)) fun j109 => ifP v108 ( j109 [] h107) ( j78 [(nthP w106 0)] h107)
noncomputable def s66_L3 (Γ : PCallee) (n : Nat) (x0 : PV) (w131 : List PV) (h132 : PHeap) (j133 : Kt) : (Kt) → Kt := fun c136 w137 h138 => (binP .sub (nthP w131 0) (.int .i64 1 : PV)).bind fun v139 => (binP .lss (nthP w137 0) v139).bind fun v140 => KL (fun w142 h143 => KL (fun w145 h146 => (binP .add (nthP w137 0) (.int .i64 1 : PV)).bind fun v147 => c136 [v147] (trim h132 [v147] h146)) fun j144 => (binP .add (nthP w137 0) (.int .i64 1 : PV)).bind fun v148 => (binP .add (nthP w137 0) (.int .i64 1 : PV)).bind fun v149 => (indexAddrP 1 x0 v149).bind fun v150 => (loadP false 1 v150 h143).bind fun v151 => (indexAddrP 1 x0 (nthP w137 0)).bind fun v152 => (loadP false 1 v152 h143).bind fun v153 => (indexAddrP 1 x0 (nthP w137 0)).bind fun v154 => (storeP 1 v154 v151 h143).bind fun h155 => (indexAddrP 1 x0 v148).bind fun v156 => (storeP 1 v156 v153 h155).bind fun h157 => j144 [] h157) fun j141 => ifP v140 ( j141 [] h138) ( j133 [] h138)
noncomputable def s66_L4 (Γ : PCallee) (n : Nat) (x0 : PV) (x1 : PV) (x4 : PV) (h : PHeap) (j130 : Kt) : (Kt) → Kt := fun c158 w159 h160 => (binP .lss (nthP w159 0) (nthP w159 1)).bind fun v161 => KL (fun w163 h164 => KL (fun w166 h167 => c158 [(nthP w166 0), (nthP w166 1)] (trim h [(nthP w166 0), (nthP w166 1)] h167)) fun j165 => (binP .add (nthP w159 0) (nthP w159 1)).bind fun v168 => (convP .u64 v168).bind fun v169 => (binP .shr v169 (.int .u64 1 : PV)).bind fun v170 => (convP .i64 v170).bind fun v171 => (indexAddrP 1 x0 v171).bind fun v172 => (loadP false 1 v172 h164).bind fun v173 => (indexAddrP 1 x0 x1).bind fun v174 => (loadP false 1 v174 h164).bind fun v175 => (callVP Γ x4 [v173, v175] h164).bind fun p176 => (binP .lss p176.1 (.int .i64 0 : PV)).bind fun v177 => KL (fun w179 h180 => j165 [(nthP w179 0), (nthP w179 1)] h180) fun j178 => ifP v177 ( (binP .add v171 (.int .i64 1 : PV)).bind fun v181 => j178 [v181, (nthP w159 1)] p176.2) ( j178 [(nthP w159 0), v171] p176.2)) fun j162 => ifP v161 ( j162 [] h160) ( j130 [(nthP w159 0)] h160)
noncomputable def s66 (Γ : PCallee) (n : Nat) (x0 : PV) (x1 : PV) (x2 : PV) (x3 : PV) (x4 : PV) (h : PHeap) : Pt := (binP .sub x2 x1).bind fun v0 => (binP .eql v0 (.int .i64 1 : PV)).bind fun v1 => KL (fun w3 h4 => (binP .sub x3 x2).bind fun v5 => (binP .eql v5 (.int .i64 1 : PV)).bind fun v6 => KL (fun w8 h9 => (binP .add x1 x3).bind fun v10 => (convP .u64 v10).bind fun v11 => (binP .shr v11 (.int .u64 1 : PV)).bind fun v12 => (convP .i64 v12).bind fun v13 => (binP .add v13 x2).bind fun v14 => (binP .gtr x2 v13).bind fun v15 => KL (fun w17 h18 => (binP .sub v14 (.int .i64 1 : PV)).bind fun v19 => KL (fun w21 h22 => (binP .sub v14 (nthP w21 0)).bind fun v23 => (binP .lss (nthP w21 0) x2).bind fun v24 => K1 (fun v26 h27 => KL (fun w29 h30 => (binP .lss x1 (nthP w21 0)).bind fun v31 => K1 (fun v33 h34 => KL (fun w36 h37 => (binP .lss v13 v23).bind fun v38 => K1 (fun v40 h41 => KL (fun w43 h44 => finP [] h h44 []) fun j42 => ifP v40 ( (Γ 66 [x0, v13, v23, x3, x4] h41).bind fun p45 => j42 [] p45.2) ( j42 [] h41)) fun j39 => scP v38 true ( (binP .lss v23 x3).bind fun v46 => j39 v46 h37) (j39 (.bool false) h37)) fun j35 => ifP v33 ( (Γ 66 [x0, x1, (nthP w21 0), v13, x4] h34).bind fun p47 => j35 [] p47.2) ( j35 [] h34)) fun j32 => scP v31 true ( (binP .lss (nthP w21 0) v13).bind fun v48 => j32 v48 h30) (j32 (.bool false) h30)) fun j28 => ifP v26 ( (Γ 78 [x0, (nthP w21 0), x2, v23, x4] h27).bind fun p49 => j28 [] p49.2) ( j28 [] h27)) fun j25 => scP v24 true ( (binP .lss x2 v23).bind fun v50 => j25 v50 h22) (j25 (.bool false) h22)) fun j20 => loopP (s66_L0 Γ n x0 x4 h18 v19 j20) n [(nthP w17 0), (nthP w17 1)] h18) fun j16 => ifP v15 ( (binP .sub v14 x3).bind fun v77 => j16 [v77, v13] h9) ( j16 [x1, x2] h9)) fun j7 => ifP v6 ( KL (fun w79 h80 => KL (fun w82 h83 => finP [] h h83 []) fun j81 => loopP (s66_L1 Γ n x0 w79 h80 j81) n [x2] h80) fun j78 => loopP (s66_L2 Γ n x0 x2 x4 h4 j78) n [x1, x2] h4) ( j7 [] h4)) fun j2 => ifP v1 ( KL (fun w131 h132 => KL (fun w134 h135 => finP [] h h135 []) fun j133 => loopP (s66_L3 Γ n x0 w131 h132 j133) n [x1] h132) fun j130 => loopP (s66_L4 Γ n x0 x1 x4 h j130) n [x2, x3] h) ( j2 [] h)
theorem s66_eq (Γ : PCallee) (n : Nat) (x0 : PV) (x1 : PV) (x2 : PV) (x3 : PV) (x4 : PV) (h : PHeap) : pfunK Γ n A66 [x0, x1, x2, x3, x4] h = s66 Γ n x0 x1 x2 x3 x4 h := by kernel_rfl
open Go.Vm.G in
def A78 : PFun := ⟨5, 58, (S (R <| m 12 2 <| m 13 1 <| b 14 .sub (t 12) (t 13) <| m 10 14 <| z) <|
  (S (R <| m 15 3 <| m 16 2 <| b 17 .sub (t 15) (t 16) <| m 11 17 <| z) <|
  (S (.block 0 [10] ([11] ++ g 18 32)
  (.loop [10, 11] (g 18 32)
  (S (S (R <| m 18 10 <| m 19 11 <| b 20 .neq (t 18) (t 19) <| z) <|
  (.cond (t 20) [] []
  .skip
  (.exit 0))) <|
  (.block 1 [10, 11] (g 21 29)
  (S (R <| m 21 10 <| m 22 11 <| b 23 .gtr (t 21) (t 22) <| z) <|
  (.cond (t 23) [10, 11] (g 24 26)
  (S (R <| m 24 0 <| m 25 2 <| m 26 10 <| b 27 .sub (t 25) (t 26) <| m 28 2 <| m 29 11 <| m 30 4 <| o 31 (.call 85 [(t 24), (t 27), (t 28), (t 29), (t 30)]) <| z) <|
  (R <| m 32 10 <| m 33 11 <| b 34 .sub (t 32) (t 33) <| m 10 34 <| z))
  (S (R <| m 35 0 <| m 36 2 <| m 37 10 <| b 38 .sub (t 36) (t 37) <| m 39 2 <| m 40 11 <| b 41 .add (t 39) (t 40) <| m 42 10 <| b 43 .sub (t 41) (t 42) <| m 44 10 <| m 45 4 <| o 46 (.call 85 [(t 35), (t 38), (t 43), (t 44), (t 45)]) <| z) <|
  (R <| m 47 11 <| m 48 10 <| b 49 .sub (t 47) (t 48) <| m 11 49 <| z)))))))) <|
  (R <| m 50 0 <| m 51 2 <| m 52 10 <| b 53 .sub (t 51) (t 52) <| m 54 2 <| m 55 10 <| m 56 4 <| o 57 (.call 85 [(t 50), (t 53), (t 54), (t 55), (t 56)]) <| z)))), [], []⟩
theorem ok78 : ∃ fn c, FunOk Try.prog 78 fn c A78.erase := ⟨Try.f78, _, ⟨Try.func78, rfl, by kernel_rfl, by kernel_rfl, by kernel_rfl, of_decide_eq_true (by kernel_rfl), by kernel_rfl⟩⟩
noncomputable def s78_L0 (Γ : PCallee) (n : Nat) (x0 : PV) (x2 : PV) (x4 : PV) (h : PHeap) (j2 : Kt) : (Kt) → Kt := fun c7 w8 h9 => (binP .neq (nthP w8 0) (nthP w8 1)).bind fun v10 => KL (fun w12 h13 => KL (fun w15 h16 => c7 [(nthP w15 0), (nthP w15 1)] (trim h [(nthP w15 0), (nthP w15 1)] h16)) fun j14 => (binP .gtr (nthP w8 0) (nthP w8 1)).bind fun v17 => KL (fun w19 h20 => j14 [(nthP w19 0), (nthP w19 1)] h20) fun j18 => ifP v17 ( (binP .sub x2 (nthP w8 0)).bind fun v21 => (Γ 85 [x0, v21, x2, (nthP w8 1), x4] h13).bind fun p22 => (binP .sub (nthP w8 0) (nthP w8 1)).bind fun v23 => j18 [v23, (nthP w8 1)] p22.2) ( (binP .sub x2 (nthP w8 0)).bind fun v24 => (binP .add x2 (nthP w8 1)).bind fun v25 => (binP .sub v25 (nthP w8 0)).bind fun v26 => (Γ 85 [x0, v24, v26, (nthP w8 0), x4] h13).bind fun p27 => (binP .sub (nthP w8 1) (nthP w8 0)).bind fun v28 => j18 [(nthP w8 0), v28] p27.2)) fun j11 => ifP v10 ( j11 [] h9) ( j2 [(nthP w8 0)] h9)
noncomputable def s78 (Γ : PCallee) (n : Nat) (x0 : PV) (x1 : PV) (x2 : PV) (x3 : PV) (x4 : PV) (h : PHeap) : Pt := (binP .sub x2 x1).bind fun v0 => (binP .sub x3 x2).bind fun v1 => KL (fun w3 h4 => (binP .sub x2 (nthP w3 0)).bind fun v5 => (Γ 85 [x0, v5, x2, (nthP w3 0), x4] h4).bind fun p6 => finP [] h p6.2 []) fun j2 => loopP (s78_L0 Γ n x0 x2 x4 h j2) n [v0, v1] h
theorem s78_eq (Γ : PCallee) (n : Nat) (x0 : PV) (x1 : PV) (x2 : PV) (x3 : PV) (x4 : PV) (h : PHeap) : pfunK Γ n A78 [x0, x1, x2, x3, x4] h = s78 Γ n x0 x1 x2 x3 x4 h := by kernel_rfl
open Go.Vm.G in
def A85 : PFun := ⟨5, 38, (S (R <| o 10 (.move (i 0)) <| z) <|
  (.block 0 [] (g 10 28)
  (.loop [10] (g 11 27)
  (S (S (R <| m 11 10 <| m 12 3 <| b 13 .lss (t 11) (t 12) <| z) <|
  (.cond (t 13) [] []
  .skip
  (.exit 0))) <|
  (S (.block 1 [] (g 16 22)
  (D <| m 16 0 <| m 17 1 <| m 18 10 <| b 19 .add (t 17) (t 18) <| m 20 0 <| m 21 2 <| m 22 10 <| b 23 .add (t 21) (t 22) <| m 24 0 <| m 25 2 <| m 26 10 <| b 27 .add (t 25) (t 26) <| o 28 (.indexAddr 1 (t 24) (t 27)) <| l 29 28 <| m 30 0 <| m 31 1 <| m 32 10 <| b 33 .add (t 31) (t 32) <| o 34 (.indexAddr 1 (t 30) (t 33)) <| l 35 34 <| o 36 (.indexAddr 1 (t 16) (t 19)) <| n (.store 1 (t 36) (t 29)) <| o 37 (.indexAddr 1 (t 20) (t 23)) <| n (.store 1 (t 37) (t 35)) <| z)) <|
  (R <| m 14 10 <| b 15 .add (t 14) (i 1) <| m 10 15 <| z)))))), [], []⟩
theorem ok85 : ∃ fn c, FunOk Try.prog 85 fn c A85.erase := ⟨Try.f85, _, ⟨Try.func85, rfl, by kernel_rfl, by kernel_rfl, by kernel_rfl, of_decide_eq_true (by kernel_rfl), by kernel_rfl⟩⟩
noncomputable def s85_L0 (Γ : PCallee) (n : Nat) (x0 : PV) (x1 : PV) (x2 : PV) (x3 : PV) (h : PHeap) (j0 : Kt) : (Kt) → Kt := fun c3 w4 h5 => (binP .lss (nthP w4 0) x3).bind fun v6 => KL (fun w8 h9 => KL (fun w11 h12 => (binP .add (nthP w4 0) (.int .i64 1 : PV)).bind fun v13 => c3 [v13] (trim h [v13] h12)) fun j10 => (binP .add x1 (nthP w4 0)).bind fun v14 => (binP .add x2 (nthP w4 0)).bind fun v15 => (binP .add x2 (nthP w4 0)).bind fun v16 => (indexAddrP 1 x0 v16).bind fun v17 => (loadP false 1 v17 h9).bind fun v18 => (binP .add x1 (nthP w4 0)).bind fun v19 => (indexAddrP 1 x0 v19).bind fun v20 => (loadP false 1 v20 h9).bind fun v21 => (indexAddrP 1 x0 v14).bind fun v22 => (storeP 1 v22 v18 h9).bind fun h23 => (indexAddrP 1 x0 v15).bind fun v24 => (storeP 1 v24 v21 h23).bind fun h25 => j10 [] h25) fun j7 => ifP v6 ( j7 [] h5) ( j0 [] h5)
noncomputable def s85 (Γ : PCallee) (n : Nat) (x0 : PV) (x1 : PV) (x2 : PV) (x3 : PV) (x4 : PV) (h : PHeap) : Pt := KL (fun w1 h2 => finP [] h h2 []) fun j0 => loopP (s85_L0 Γ n x0 x1 x2 x3 h j0) n [(.int .i64 0 : PV)] h
theorem s85_eq (Γ : PCallee) (n : Nat) (x0 : PV) (x1 : PV) (x2 : PV) (x3 : PV) (x4 : PV) (h : PHeap) : pfunK Γ n A85 [x0, x1, x2, x3, x4] h = s85 Γ n x0 x1 x2 x3 x4 h := by kernel_rfl
def T : PTable := [(7, A7), (8, A8), (11, A11), (13, A13), (14, A14), (15, A15), (20, A20), (21, A21), (22, A22), (23, A23), (24, A24), (25, A25), (26, A26), (27, A27), (28, A28), (29, A29), (30, A30), (31, A31), (32, A32), (35, A35), (36, A36), (37, A37), (38, A38), (39, A39), (40, A40), (41, A41), (42, A42), (43, A43), (44, A44), (47, A47), (48, A48), (49, A49), (51, A51), (52, A52), (53, A53), (54, A54), (55, A55), (56, A56), (57, A57), (58, A58), (59, A59), (60, A60), (61, A61), (64, A64), (65, A65), (66, A66), (78, A78), (85, A85)]
noncomputable def Γ0 : PCallee := prun (sortP 50) T
theorem gbody {f : FuncId} {F : PFun} (hT : T.get f = some F) (fuel : Nat) {args : List PV} {h : PHeap} {r : PV × PHeap} (hk : pfunK Γ0 fuel F args h = some r) (hf : Nat.beq f yieldId = false := by rfl) : Γ0 f args h = some r := prun_of_body hT fuel hk hf
theorem gbody_round (fuel : Nat) {args : List PV} {h : PHeap} {r : PV × PHeap} (hk : proundK Γ0 fuel args h = some r) : Γ0 yieldId args h = some r := prun_of_round fuel hk
end Go.Vm.X


set_option linter.unusedSimpArgs false
set_option linter.unusedVariables false
namespace Go.Vm.X
def low (w : Nat) (x : Int) : Nat := (x % ((2 ^ w : Nat) : Int)).toNat
theorem low_lt (w : Nat) (x : Int) : low w x < 2 ^ w := by
  unfold low
  have h1 : (0 : Int) < ((2 ^ w : Nat) : Int) := by have := Nat.two_pow_pos w; omega
  have h2 := Int.emod_lt_of_pos x h1
  have h3 := Int.emod_nonneg x (show ((2 ^ w : Nat) : Int) ≠ 0 by omega)
  omega
def packed (w : Nat) : List Int → Nat
  | [] => 0
  | x :: r => low w x + 2 ^ w * packed w r
theorem packed_lt (w : Nat) (l : List Int) : packed w l < 2 ^ (l.length * w) := by
  induction l with
  | nil => simp [packed]
  | cons x r ih =>
    have h := low_lt w x
    unfold packed
    rw [List.length_cons, show (r.length + 1) * w = w + r.length * w by rw [Nat.succ_mul]; omega, Nat.pow_add]
    have : 2 ^ w * (packed w r + 1) ≤ 2 ^ w * 2 ^ (r.length * w) := Nat.mul_le_mul_left _ ih
    rw [Nat.mul_add] at this
    omega
theorem packed_snoc (w : Nat) (l : List Int) (x : Int) : packed w (l ++ [x]) = packed w l + 2 ^ (l.length * w) * low w x := by
  induction l with
  | nil => simp [packed]
  | cons y r ih =>
    simp only [List.cons_append, packed, ih, List.length_cons]
    rw [show (r.length + 1) * w = w + r.length * w by rw [Nat.succ_mul]; omega, Nat.pow_add, Nat.mul_add]
    rw [Nat.mul_assoc, Nat.add_assoc]
def bytesN (n : Nat) (B : Nat) : List Nat := (List.range n).map fun k => B / 256 ^ k % 256
theorem bytesN_len (n B : Nat) : (bytesN n B).length = n := by simp [bytesN]
theorem bytesN_succ (n B : Nat) : bytesN (n + 1) B = bytesN n B ++ [B / 256 ^ n % 256] := by simp [bytesN, List.range_succ]
theorem pow256 (k : Nat) : 256 ^ k = 2 ^ (8 * k) := by rw [Nat.pow_mul]
theorem bytesN_grow {q B e x : Nat} (h : 8 * q ≤ e) : bytesN q (B + 2 ^ e * x) = bytesN q B := by
  unfold bytesN
  refine List.map_congr_left fun k hk => ?_
  rw [List.mem_range] at hk
  obtain ⟨d, rfl⟩ : ∃ d, e = 8 * k + 8 + d := ⟨e - (8 * k + 8), by omega⟩
  rw [show 2 ^ (8 * k + 8 + d) * x = 256 ^ k * (256 * (2 ^ d * x)) by rw [Nat.pow_add, Nat.pow_add, pow256, Nat.mul_assoc, Nat.mul_assoc]]
  rw [Nat.add_mul_div_left _ _ (Nat.pow_pos (by decide)), Nat.add_mul_mod_self_left]
theorem div_grow {q B e x : Nat} (h : 8 * q ≤ e) : (B + 2 ^ e * x) / 256 ^ q = B / 256 ^ q + 2 ^ (e - 8 * q) * x := by
  obtain ⟨d, rfl⟩ : ∃ d, e = 8 * q + d := ⟨e - 8 * q, by omega⟩
  rw [show 2 ^ (8 * q + d) * x = 256 ^ q * (2 ^ d * x) by rw [Nat.pow_add, pow256, Nat.mul_assoc], Nat.add_mul_div_left _ _ (Nat.pow_pos (by decide)), Nat.add_sub_cancel_left]
theorem div_small {q B e : Nat} (hB : B < 2 ^ e) (h : 8 * q ≤ e) : B / 256 ^ q < 2 ^ (e - 8 * q) := by
  rw [Nat.div_lt_iff_lt_mul (Nat.pow_pos (by decide)), pow256, ← Nat.pow_add, Nat.sub_add_cancel h]
  exact hB
theorem or_add {a x n : Nat} (h : a < 2 ^ n) : a ||| x * 2 ^ n = a + 2 ^ n * x := by
  rw [Nat.mul_comm x, Nat.or_comm, Nat.add_comm]
  exact (Nat.two_pow_add_eq_or_of_lt h x).symm
end Go.Vm.X


set_option linter.unusedSimpArgs false
set_option linter.unusedVariables false
namespace Go.Vm.X
open Go.Am Go.Vm
theorem succ63 {i : Nat} (h : i < 9223372036854775807) : IntKind.i64.wrap ((i : Int) + 1) = ((i + 1 : Nat) : Int) := by rw [wrap64 (by unfold isI64; omega)]; omega
theorem wrap_half {b : Nat} (h1 : 1 ≤ b) (h2 : b ≤ 16) : isI64 (2 * half b) ∧ isI64 (2 * half b - 1) ∧ isI64 (half b) ∧ isI64 (-half b) := by
  have := half_pos b
  have := half_16 h2
  unfold isI64
  omega
theorem sub_one {b : Nat} (h1 : 1 ≤ b) (h2 : b ≤ 62) : IntKind.i64.wrap ((b : Int) - 1) = ((b - 1 : Nat) : Int) := by
  rw [wrap64 (by unfold isI64; omega)]; omega
theorem shl_half {b : Nat} (h1 : 1 ≤ b) (h2 : b ≤ 16) : binP .shl (.int .i64 1) (.int .i64 ((b - 1 : Nat) : Int)) = some (.int .i64 (half b)) := by
  have := wrap_half h1 h2
  rw [shl_pow _ _ _ (by omega), Int.one_mul, wrap64 (by have := this.2.2.1; unfold half at this; exact this)]
  rfl
theorem shl_nhalf {b : Nat} (h1 : 1 ≤ b) (h2 : b ≤ 16) : binP .shl (.int .i64 (-1)) (.int .i64 ((b - 1 : Nat) : Int)) = some (.int .i64 (-half b)) := by
  have := wrap_half h1 h2
  rw [shl_pow _ _ _ (by omega), Int.neg_one_mul, wrap64 (by have := this.2.2.2; unfold half at this; exact this)]
  rfl
theorem shl_full {b : Nat} (h1 : 1 ≤ b) (h2 : b ≤ 16) : binP .shl (.int .i64 1) (.int .i64 (b : Int)) = some (.int .i64 (2 * half b)) := by
  have := wrap_half h1 h2
  rw [shl_pow _ _ _ (by omega), Int.one_mul, ← half_two h1, wrap64 this.1]
theorem c38 {b : Nat} (h1 : 1 ≤ b) (h2 : b ≤ 16) (x : Int) (h : PHeap) : Γ0 38 [.int .i64 x, .int .i64 b] h = some (.int .i64 (wrapB b x), h) := by
  refine gbody (F := A38) (by kernel_rfl) 1 ?_
  rw [s38_eq]
  unfold s38
  have hw := wrap_half h1 h2
  have hp := half_pos b
  have hand := and_mask x (show b ≤ 62 by omega)
  rw [← half_two h1] at hand
  have hq : IntKind.i64.wrap ((2 * half b).tdiv 2) = half b := by
    rw [Int.mul_comm, Int.mul_tdiv_cancel _ (by decide), wrap64 hw.2.2.1]
  simp only [shl_full h1 h2, Option.bind_some, bin_sub, wrap64 hw.2.1, hand, bin_quo _ _ _ (show (2 : Int) ≠ 0 by decide), hq, bin_geq, KL_def, if_bool, decide_eq_true_eq, nth_zero, fin_int0]
  rw [wrapB_low]
  have g1 := Int.emod_nonneg x (show 2 * half b ≠ 0 by omega)
  have g2 := Int.emod_lt_of_pos x (show 0 < 2 * half b by omega)
  have g3 := hw.1
  split
  · rw [wrap64 (by unfold isI64 at *; omega)]
  · rfl
theorem c64 {a b : Int} (hb : 0 < b) (ha : isI64 a) (h : PHeap) : Γ0 64 [.int .i64 a, .int .i64 b] h = some (.int .i64 (a / b), h) := by
  refine gbody (F := A64) (by kernel_rfl) 1 ?_
  rw [s64_eq]
  unfold s64
  simp only [bin_quo _ _ _ (show b ≠ 0 by omega), bin_rem _ _ _ (show b ≠ 0 by omega), Option.bind_some, wrap64 (tdiv64 hb ha), bin_lss, KL_def, if_bool, decide_eq_true_eq, nth_zero, bin_sub, fin_int0]
  have e := floor_eq (a := a) hb
  split
  · rename_i hc
    rw [if_pos hc] at e
    rw [e, wrap64 (div64 hb ha)]
  · rename_i hc
    rw [if_neg hc] at e
    rw [e]
theorem c60 {a b : Int} (hb : 0 < b) (ha : isI64 a) (hb2 : isI64 b) (h : PHeap) : Γ0 60 [.int .i64 a, .int .i64 b] h = some (.int .i64 (a % b), h) := by
  refine gbody (F := A60) (by kernel_rfl) 1 ?_
  rw [s60_eq]
  unfold s60
  have e : a - b * (a / b) = a % b := by have := Int.emod_add_mul_ediv a b; omega
  have h1 := Int.emod_nonneg a (show b ≠ 0 by omega)
  have h2 := Int.emod_lt_of_pos a hb
  simp only [c64 hb ha, Option.bind_some, bin_mul, bin_sub, wrap64_sub, e, fin_int0]
  rw [wrap64 (by unfold isI64 at *; omega)]
theorem c43 {b : Nat} (h1 : 1 ≤ b) (h2 : b ≤ 16) (x : Int) (h : PHeap) : Γ0 43 [.int .i64 x, .int .i64 b] h = some (.int .i64 (wrapB b x), h) := by
  refine gbody (F := A43) (by kernel_rfl) 1 ?_
  rw [s43_eq]
  unfold s43
  have hw := wrap_half h1 h2
  have hp := half_pos b
  have e : (IntKind.i64.wrap (x + half b)) % (2 * half b) = (x + half b) % (2 * half b) := by
    have k1 := emod64 (show b ≤ 64 by omega) (IntKind.i64.wrap (x + half b))
    rw [wrap64_emod, emod64 (show b ≤ 64 by omega), ← half_two h1] at k1
    exact k1.symm
  have hr := wrapB_range b x
  unfold inR at hr
  simp only [Bool.and_eq_true, decide_eq_true_eq] at hr
  have e2 : (x + half b) % (2 * half b) - half b = wrapB b x := rfl
  simp only [bin_sub, sub_one h1 (show b ≤ 62 by omega), Option.bind_some, shl_half h1 h2, bin_add, bin_mul, wrap64 hw.1, c60 (show 0 < 2 * half b by omega) (wrap64_range _) hw.1, e, e2, fin_int0]
  rw [wrap64 (by have := hw.2.2.1; have := hw.2.2.2; unfold isI64 at *; omega)]
theorem c54 {b : Nat} (h1 : 1 ≤ b) (h2 : b ≤ 16) (x : Int) (h : PHeap) : Γ0 54 [.int .i64 x, .int .i64 b] h = some (.bool (inR b x), h) := by
  refine gbody (F := A54) (by kernel_rfl) 1 ?_
  rw [s54_eq]
  unfold s54
  simp only [c43 h1 h2, Option.bind_some, bin_eql, wrapB_fits, fin_bool0]
theorem c53 {b : Nat} (h1 : 1 ≤ b) (h2 : b ≤ 16) (x : Int) {h : PHeap} {b0 : Nat} (hb : boxAt h b0 = some [.int .i64 b]) : Γ0 53 [.int .i64 x, .ptr b0 0] h = some (.bool (!inR b x), h) := by
  refine gbody (F := A53) (by kernel_rfl) 1 ?_
  rw [s53_eq]
  unfold s53
  simp only [load_box, hb, part_cell, List.getElem?_cons_zero, Option.bind_some, bin_sub, sub_one h1 (show b ≤ 62 by omega), shl_half h1 h2, shl_nhalf h1 h2, bin_lss, bin_geq, K1_def, sc_or, fin_bool0]
  unfold inR
  by_cases g1 : x < -half b
  · have g2 : ¬ -half b ≤ x := by omega
    simp [g1, g2]
  · have g2 : -half b ≤ x := by omega
    by_cases g3 : x ≥ half b
    · have g4 : ¬ x < half b := by omega
      simp [g1, g2, g3, g4]
    · have g4 : x < half b := by omega
      simp [g1, g2, g3, g4]
def right (bits : Int) : Bool := bits == 8 || bits == 16
theorem right_nat {bits : Int} (h : right bits = true) : ∃ b : Nat, bits = b ∧ (b = 8 ∨ b = 16) := by
  unfold right at h
  simp only [Bool.or_eq_true, beq_iff_eq] at h
  rcases h with h | h
  · exact ⟨8, by omega, .inl rfl⟩
  · exact ⟨16, by omega, .inr rfl⟩
theorem c32 (bits : Int) (h : PHeap) : Γ0 32 [.int .i64 bits] h = some (.bool (right bits), h) := by
  refine gbody (F := A32) (by kernel_rfl) 1 ?_
  rw [s32_eq]
  unfold s32 right
  simp only [bin_eql, Option.bind_some, K1_def, sc_or, fin_bool0]
  by_cases h1 : bits = 8 <;> simp [h1]
def chk (l : List Int) (bits : Int) : Int := if right bits then (if l.all (inR bits.toNat) then (if l.length > 4096 then 3 else 0) else 1) else 1
theorem first_not {α : Type} (p : α → Bool) (l : List α) : ∃ k, k ≤ l.length ∧ (∀ i a, i < k → l[i]? = some a → p a = true) ∧ (k = l.length ∧ l.all p = true ∨ ∃ a, l[k]? = some a ∧ p a = false ∧ l.all p = false) := by
  induction l with
  | nil => exact ⟨0, Nat.le_refl _, fun i a h => by omega, .inl ⟨rfl, rfl⟩⟩
  | cons x l ih =>
    cases hx : p x with
    | false => exact ⟨0, Nat.zero_le _, fun i a h => by omega, .inr ⟨x, rfl, hx, by simp [hx]⟩⟩
    | true =>
      obtain ⟨k, h1, h2, h3⟩ := ih
      refine ⟨k + 1, by simp; omega, fun i a hi ha => ?_, ?_⟩
      · cases i with
        | zero => cases ha; exact hx
        | succ i => exact h2 i a (by omega) ha
      · rcases h3 with ⟨h3, h4⟩ | ⟨a, h3, h4, h5⟩
        · exact .inl ⟨by simp [h3], by simp [hx, h4]⟩
        · exact .inr ⟨a, h3, h4, by simp [h5]⟩
theorem c58 {f : PV} {p : Int → Bool} {l : List Int} {h : PHeap} (hm : l.length < 9223372036854775808) (hf : ∀ x, callVP Γ0 f [.int .i64 x] h = some (.bool (p x), h)) :
    ∃ k : Int, Γ0 58 [ints l, f] h = some (.int .i64 k, h) ∧ (decide (k ≥ 0) = l.any p) := by
  obtain ⟨k, h1, h2, h3⟩ := first_not (fun x => !p x) l
  have e : l.any p = !l.all (fun x => !p x) := by rw [List.not_all_eq_any_not]; simp
  have step : ∀ i, i < k → ∀ K j, s58_L0 Γ0 (l.length + 1) (ints l) f h (.int .i64 l.length) j K [.int .i64 i] h = K [.int .i64 ((i + 1 : Nat) : Int)] h := by
    intro i hi K j
    obtain ⟨a, ha⟩ := lt_len (show i < l.length by omega)
    have hp := h2 i a hi ha
    have hp' : p a = false := by simpa using hp
    unfold s58_L0
    simp only [nth_zero, bin_lss, ltT (show i < l.length by omega), decide_true, Option.bind_some, KL_def, if_bool, if_true, idx_ints _ ha, load_iV, hf, hp', Bool.false_eq_true, if_false, bin_add, succ63 (show i < 9223372036854775807 by omega), trim_self]
  rcases h3 with ⟨h3, h4⟩ | ⟨a, h3, h4, h5⟩
  · refine ⟨-1, ?_, by rw [e, h4]; rfl⟩
    refine gbody (F := A58) (by kernel_rfl) (l.length + 1) ?_
    rw [s58_eq]
    unfold s58
    simp only [len_ints, Option.bind_some, KL_def]
    refine loop_pure (fun i => [.int .i64 i]) k (by omega) rfl (fun i hi K => step i hi K _) fun K => ?_
    subst h3
    unfold s58_L0
    simp only [nth_zero, bin_lss, ltF, decide_false, Option.bind_some, KL_def, if_bool, Bool.false_eq_true, if_false, fin_int0]
  · refine ⟨k, ?_, by rw [e, h5]; simp⟩
    have hk := some_lt h3
    refine gbody (F := A58) (by kernel_rfl) (l.length + 1) ?_
    rw [s58_eq]
    unfold s58
    simp only [len_ints, Option.bind_some, KL_def]
    refine loop_pure (fun i => [.int .i64 i]) k (by omega) rfl (fun i hi K => step i hi K _) fun K => ?_
    have hp' : p a = true := by simpa using h4
    unfold s58_L0
    simp only [nth_zero, bin_lss, ltT hk, decide_true, Option.bind_some, KL_def, if_bool, if_true, idx_ints _ h3, load_iV, hf, hp', fin_int0]
theorem c35 {f : PV} {p : Int → Bool} {l : List Int} {h : PHeap} (hm : l.length < 9223372036854775808) (hf : ∀ x, callVP Γ0 f [.int .i64 x] h = some (.bool (p x), h)) : Γ0 35 [ints l, f] h = some (.bool (l.any p), h) := by
  obtain ⟨k, h1, h2⟩ := c58 hm hf
  refine gbody (F := A35) (by kernel_rfl) 1 ?_
  rw [s35_eq]
  unfold s35
  simp only [h1, Option.bind_some, bin_geq, h2, fin_bool0]
theorem c24 {l : List Int} (bits : Int) (hm : l.length < 9223372036854775808) (h : PHeap) : Γ0 24 [ints l, .int .i64 bits] h = some (.int .i64 (chk l bits), h) := by
  refine gbody (F := A24) (by kernel_rfl) 1 ?_
  rw [s24_eq]
  unfold s24
  have hb : boxAt (h ++ [.box [.int .i64 bits] 3 .rw]) h.length = some [.int .i64 bits] := boxAt_some (by rw [get_new0]; rfl)
  simp only [fork_def, cellsP, load_box, hb, part_cell, List.getElem?_cons_zero, Option.bind_some, bin_neq, K1_def, KL_def, sc_and, if_bool, fin_int]
  cases hr : right bits with
  | false =>
    have n1 : (bits != 8) = true := by unfold right at hr; simp at hr ⊢; exact hr.1
    have n2 : (bits != 16) = true := by unfold right at hr; simp at hr ⊢; exact hr.2
    simp only [n1, n2, if_true]
    unfold chk
    rw [hr]
    rfl
  | true =>
    obtain ⟨b, rfl, hb8⟩ := right_nat hr
    have k35 := c35 (f := .func 53 [] [.ptr h.length 0]) (p := fun x => !inR b x) (h := h ++ [.box [.int .i64 b] 3 .rw]) hm fun x => by rw [callV_func Γ0 53]; exact c53 (by omega) (by omega) x hb
    rw [show (l.any fun x => !inR b x) = !l.all (inR b) by rw [List.not_all_eq_any_not]] at k35
    have go : ∀ A B : Pt, (if ((b : Int) != 8) = true then (if ((b : Int) != 16) = true then A else B) else if false = true then A else B) = B := fun A B => by
      rcases hb8 with rfl | rfl <;> rfl
    simp only [k35, Option.bind_some, len_ints, bin_gtr, decide_eq_true_eq, go]
    unfold chk
    rw [hr, Int.toNat_natCast]
    cases ha : l.all (inR b) with
    | false => simp only [Bool.not_false, if_bool, if_true, fin_int, Bool.false_eq_true, if_false]
    | true =>
      simp only [Bool.not_true, if_bool, decide_eq_true_eq, if_true, Bool.false_eq_true, if_false, fin_int]
      by_cases h4 : l.length > 4096
      · rw [if_pos (by omega), if_pos h4]
      · rw [if_neg (by omega), if_neg h4]
theorem c26 {l : List Int} (bits : Int) (hm : l.length < 9223372036854775808) (h : PHeap) : Γ0 26 [ints l, .int .i64 bits] h = some (.int .i64 (chk l bits), h) := by
  refine gbody (F := A26) (by kernel_rfl) (l.length + 1) ?_
  rw [s26_eq]
  unfold s26
  simp only [c32, Option.bind_some, un_not, KL_def, if_bool, fin_int0]
  cases hr : right bits with
  | false => unfold chk; rw [hr]; rfl
  | true =>
    obtain ⟨b, rfl, hb⟩ := right_nat hr
    simp only [Bool.not_true, Bool.false_eq_true, if_false]
    obtain ⟨k, h1, h2, h3⟩ := first_not (inR b) l
    have h54 := fun x h => c54 (b := b) (by omega) (by omega) x h
    refine loop_pure (fun i => [.int .i64 i]) k (by omega) rfl (fun i hi K => ?_) fun K => ?_
    · obtain ⟨a, ha⟩ := lt_len (show i < l.length by omega)
      unfold s26_L0
      simp only [len_ints, nth_zero, bin_lss, ltT (show i < l.length by omega), decide_true, Option.bind_some, KL_def, if_bool, if_true, idx_ints _ ha, load_iV, h54, h2 i a hi ha, un_not, Bool.not_true, Bool.false_eq_true, if_false, bin_add, succ63 (show i < 9223372036854775807 by omega), trim_self]
    · unfold chk
      rw [hr, Int.toNat_natCast]
      rcases h3 with ⟨rfl, h4⟩ | ⟨a, h3, h4, h5⟩
      · rw [h4]
        unfold s26_L0
        simp only [len_ints, nth_zero, bin_lss, ltF, decide_false, Option.bind_some, KL_def, if_bool, Bool.false_eq_true, if_false, if_true, bin_gtr, decide_eq_true_eq, fin_int0]
        by_cases h4 : l.length > 4096
        · rw [if_pos (by omega), if_pos h4]
        · rw [if_neg (by omega), if_neg h4]
      · rw [h5]
        unfold s26_L0
        simp only [len_ints, nth_zero, bin_lss, ltT (some_lt h3), decide_true, Option.bind_some, KL_def, if_bool, if_true, idx_ints _ h3, load_iV, h54, h4, un_not, Bool.not_false, fin_int0, Bool.false_eq_true, if_false]
end Go.Vm.X

