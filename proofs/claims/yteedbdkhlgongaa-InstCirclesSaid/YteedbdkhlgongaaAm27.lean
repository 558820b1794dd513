/- Words for the laws: what the machine's functions come to. -/
import Derived.Test.YteedbdkhlgongaaAm26
set_option linter.unusedSimpArgs false
set_option linter.unusedVariables false
namespace Go.Am

theorem gc_self (r : Value) (h : AHeap) : gc r h h = h := by unfold gc; split <;> rfl
theorem fin_self (h : AHeap) (vs : List Value) : fin h h vs = some (single vs, h) := by unfold fin; rw [gc_self]
theorem fin_gc {h0 h : AHeap} {vs : List Value} (hn : noRef (single vs) = true) (hp : h0 <+: h) : fin h0 h vs = some (single vs, h0) := by unfold fin gc; rw [if_pos ⟨hn, hp⟩]
theorem sameQ_pos {R : Type} {h h' : AHeap} (hp : h <+: h') (m : Option R) : sameQ h h' m = m := if_pos hp
theorem sameQ_self {R : Type} (h : AHeap) (m : Option R) : sameQ h h m = m := if_pos (List.prefix_refl _)
theorem wrap64 {n : Int} (h : isI64 n) : IntKind.i64.wrap n = n := by
  unfold isI64 at h
  simp [IntKind.wrap, IntKind.bits, IntKind.signed]
  split <;> omega
theorem lenf_slice (a : Option Addr) (n c : Nat) : lenf false (.slice a n c) = some (.int .i64 n) := rfl
theorem binf_lss (k : IntKind) (a b : Int) : binf .lss (.int k a) (.int k b) = some (.bool (decide (a < b))) := by simp [binf]
theorem binf_leq (k : IntKind) (a b : Int) : binf .leq (.int k a) (.int k b) = some (.bool (decide (a ≤ b))) := by simp [binf]
theorem binf_gtr (k : IntKind) (a b : Int) : binf .gtr (.int k a) (.int k b) = some (.bool (decide (a > b))) := by simp [binf]
theorem binf_geq (k : IntKind) (a b : Int) : binf .geq (.int k a) (.int k b) = some (.bool (decide (a ≥ b))) := by simp [binf]
theorem binf_eql (k : IntKind) (a b : Int) : binf .eql (.int k a) (.int k b) = some (.bool (a == b)) := by simp [binf]
theorem binf_neq (k : IntKind) (a b : Int) : binf .neq (.int k a) (.int k b) = some (.bool (a != b)) := by simp [binf]
theorem binf_add (k : IntKind) (a b : Int) : binf .add (.int k a) (.int k b) = some (.int k (k.wrap (a + b))) := by simp [binf]
theorem binf_sub (k : IntKind) (a b : Int) : binf .sub (.int k a) (.int k b) = some (.int k (k.wrap (a - b))) := by simp [binf]
theorem binf_mul (k : IntKind) (a b : Int) : binf .mul (.int k a) (.int k b) = some (.int k (k.wrap (a * b))) := by simp [binf]
theorem binf_quo (k : IntKind) (a b : Int) (h : b ≠ 0) : binf .quo (.int k a) (.int k b) = some (.int k (k.wrap (a.tdiv b))) := by simp [binf, h]
theorem binf_rem (k : IntKind) (a b : Int) (h : b ≠ 0) : binf .rem (.int k a) (.int k b) = some (.int k (a.tmod b)) := by simp [binf, h]
theorem binf_shl (k k' : IntKind) (a b : Int) (h : 0 ≤ b) : binf .shl (.int k a) (.int k' b) = some (.int k (k.wrap (a * 2 ^ (min b.toNat k.bits)))) := by simp [binf]; omega
theorem binf_shr (k k' : IntKind) (a b : Int) (h : 0 ≤ b) : binf .shr (.int k a) (.int k' b) = some (.int k (a.fdiv (2 ^ (min b.toNat k.bits)))) := by simp [binf]; omega
theorem binf_and (k : IntKind) (a b : Int) : binf .and (.int k a) (.int k b) = some (.int k (k.wrap (BitVec.ofInt k.bits a &&& BitVec.ofInt k.bits b).toNat)) := by simp [binf]
theorem unf_neg (k : IntKind) (a : Int) : unf .neg (.int k a) = some (.int k (k.wrap (0 - a))) := rfl
theorem max2_i (k : IntKind) (a b : Int) : max2f (.int k a) (.int k b) = some (.int k (max a b)) := by
  simp only [max2f, if_true]
  congr 2
  split <;> omega
theorem min2_i (k : IntKind) (a b : Int) : min2f (.int k a) (.int k b) = some (.int k (min a b)) := by
  simp only [min2f, if_true]
  congr 2
  split <;> omega
theorem fold1_two (f : Value → Value → Option Value) (a b : Value) : fold1f f [a, b] = f a b := by simp [fold1f, foldf]
theorem fold1_three (f : Value → Value → Option Value) (a b c : Value) : fold1f f [a, b, c] = (f a b).bind fun z => f z c := by simp [fold1f, foldf]
theorem nth_zero (v : Value) (vs : List Value) : nth (v :: vs) 0 = v := rfl
theorem nth_succ (v : Value) (vs : List Value) (k : Nat) : nth (v :: vs) (k + 1) = nth vs k := rfl
theorem nth_one (v w : Value) (vs : List Value) : nth (v :: w :: vs) 1 = w := rfl
theorem nth_two (v w x : Value) (vs : List Value) : nth (v :: w :: x :: vs) 2 = x := rfl
theorem nth_three (v w x y : Value) (vs : List Value) : nth (v :: w :: x :: y :: vs) 3 = y := rfl
theorem scK_and (t : Bool) {R : Type} (a b : Option R) : scK (.bool t) true a b = if t = true then a else b := rfl
theorem scK_or (t : Bool) {R : Type} (a b : Option R) : scK (.bool t) false a b = if t = false then a else b := rfl
theorem ifK_bool (t : Bool) {R : Type} (a b : Option R) : ifK (.bool t) a b = if t = true then a else b := rfl
theorem fieldAddr_ptr (b o f : Nat) : fieldAddrf f (ptrTo b o) = some (ptrTo b (o + f)) := rfl
theorem indexAddr_slice (size b o n c : Nat) (i : Nat) (h : i < n) : indexAddrf size (.slice (some ⟨b, o, none⟩) n c) (.int .i64 i) = some (ptrTo b (o + i * size)) := by
  simp only [indexAddrf]
  rw [if_pos (by omega)]
  simp
theorem load_agg (n b o : Nat) (h : AHeap) : loadf true n (ptrTo b o) h = (readN h b o n).map fun l => .agg l.toArray := rfl
theorem load_cell (n b o : Nat) (h : AHeap) : loadf false n (ptrTo b o) h = readC h b o := rfl
theorem readC_new (h : AHeap) (vs : List Value) (t : TypeId) (rw_ : Bool) (o : Nat) : readC (h ++ [.cells vs t rw_]) h.length o = vs[o]? := by
  unfold readC
  rw [List.getElem?_concat_length]
theorem readN_new (h : AHeap) (vs : List Value) (t : TypeId) (rw_ : Bool) (o n : Nat) (hn : o + n ≤ vs.length) : readN (h ++ [.cells vs t rw_]) h.length o n = some ((vs.drop o).take n) := by
  unfold readN
  rw [List.getElem?_concat_length]
  simp only [if_pos hn]
theorem readN_prefix {h h' : AHeap} (hp : h <+: h') {b o n : Nat} {l : List Value} (hr : readN h b o n = some l) : readN h' b o n = some l := by
  unfold readN at hr ⊢
  split at hr
  · rename_i vs t r hb
    rw [prefix_get hp (List.getElem?_eq_some_iff.1 hb).1, hb]
    exact hr
  · cases hr
theorem readC_prefix {h h' : AHeap} (hp : h <+: h') {b o : Nat} {v : Value} (hr : readC h b o = some v) : readC h' b o = some v := by
  unfold readC at hr ⊢
  split at hr
  · rename_i vs t r hb
    rw [prefix_get hp (List.getElem?_eq_some_iff.1 hb).1, hb]
    exact hr
  · cases hr
theorem readC_of_readN {h : AHeap} {b o n : Nat} {l : List Value} (hr : readN h b o n = some l) {i : Nat} {v : Value} (hv : l[i]? = some v) : readC h b (o + i) = some v := by
  unfold readN at hr
  unfold readC
  split at hr
  · rename_i vs t r hb
    split at hr
    · cases hr
      try rw [hb]
      rw [List.getElem?_take] at hv
      split at hv
      · rw [List.getElem?_drop] at hv; exact hv
      · cases hv
    · cases hr
  · cases hr
/-- A store over the whole of a block that lies at the end. -/
theorem store_new (h : AHeap) (vs : List Value) (t : TypeId) (v : Value) (n : Nat) (h1 : (cellsL v).length = n) (h2 : vs.length = n) (h3 : (cellsL v).all oneC = true) :
    storef n (ptrTo h.length 0) v (h ++ [.cells vs t true]) = some (h ++ [.cells (cellsL v) t true]) := by
  simp only [storef, ptrTo, if_pos h1, writeN, List.getElem?_concat_length]
  rw [if_pos ⟨by omega, h3⟩]
  simp only [List.take_zero, List.nil_append, Nat.zero_add]
  rw [List.drop_eq_nil_of_le (by omega), List.append_nil]
  congr 1
  rw [List.set_append_right _ _ (Nat.le_refl _)]
  simp
theorem pre_app (h : AHeap) (l : List ABlk) : h <+: h ++ l := List.prefix_append h l
theorem PairsAt.mono {h h' : AHeap} {x : Value} {xs : List (Int × Int)} (hp : h <+: h') (p : PairsAt h x xs) : PairsAt h' x xs := by
  obtain ⟨a, cap, e, hc, hall⟩ := p
  exact ⟨a, cap, e, hc, fun i q hq => by obtain ⟨b, o, ha, hr⟩ := hall i q hq; exact ⟨b, o, ha, readN_prefix hp hr⟩⟩
theorem loopN_succ {R : Type} (B : (List Value → AHeap → Option R) → List Value → AHeap → Option R) (n : Nat) (vs : List Value) (h : AHeap) : loopN B (n + 1) vs h = B (loopN B n) vs h := rfl
theorem callVf_func (Γ : Callee) (g : FuncId) (xs ys : Array Value) (args : List Value) (h : AHeap) (hg : Nat.blt g yieldId = true := by rfl) : callVf Γ (.func (.func g) xs ys) args h = Γ g (xs.toList ++ args ++ ys.toList) h := by
  show (bif Nat.blt g yieldId then _ else _) = _
  rw [hg]; rfl

end Go.Am
