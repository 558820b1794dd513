/- Slices of slices; rows of cells that are written; slices.DeleteFunc. -/
import Derived.Test.YteedbdkhlgongaaAm31
set_option linter.unusedSimpArgs false
set_option linter.unusedVariables false
namespace Go.Am

theorem bound_none (d most : Nat) : boundf d none most = some d := rfl
theorem bound_int {d most i : Nat} (h : i ≤ most) : boundf d (some (.int .i64 i)) most = some i := by
  simp only [boundf]
  rw [if_pos (by omega)]
  simp
theorem slice_hi {size b o n c i : Nat} (hc : c = capU ∨ n ≤ c) (hi : i ≤ n) : slicef size (.slice (some ⟨b, o, none⟩) n c) none (some (.int .i64 i)) none = some (.slice (some ⟨b, o, none⟩) i c) := by
  simp only [slicef]
  by_cases h : c = capU
  · subst h
    simp only [if_true, bound_none, bound_int hi, Option.bind_some, Option.map_some, Nat.sub_zero, Nat.zero_mul, Nat.add_zero]
  · have hi' : i ≤ c := by omega
    simp only [if_neg h, bound_none, bound_int hi', Option.bind_some, Option.map_some, Nat.sub_zero, Nat.zero_mul, Nat.add_zero, ite_self]
theorem slice_lo {size b o n c i : Nat} (hc : c = capU ∨ n ≤ c) (hi : i ≤ n) : ∃ y, slicef size (.slice (some ⟨b, o, none⟩) n c) (some (.int .i64 i)) none none = some y ∧ (i < n → ∃ c', y = .slice (some ⟨b, o + i * size, none⟩) (n - i) c') ∧ (i = n → ∃ o' c', y = .slice (some ⟨b, o', none⟩) 0 c') := by
  simp only [slicef]
  by_cases h : c = capU
  · simp only [if_pos h, bound_none, bound_int hi, Option.bind_some, Option.map_some]
    exact ⟨_, rfl, fun _ => ⟨_, rfl⟩, fun e => ⟨_, _, by rw [e, Nat.sub_self]⟩⟩
  · have hn : n ≤ c := by omega
    simp only [if_neg h, bound_none, bound_int hi, Option.bind_some, Option.map_some]
    refine ⟨_, rfl, fun hlt => ⟨c - i, by rw [if_neg (by omega)]⟩, fun e => ?_⟩
    subst e
    rw [Nat.sub_self]
    split
    · exact ⟨_, _, rfl⟩
    · exact ⟨_, _, rfl⟩

section
variable {α : Type} {vals : α → List Value} {size : Nat}
theorem vals_len (hv : ∀ a, (vals a).length = size) (l : List α) : (l.map vals).flatten.length = l.length * size := by
  rw [flatten_len (size := size) (fun q hq => by obtain ⟨a, _, rfl⟩ := List.mem_map.1 hq; exact hv a), List.length_map]
theorem row_at (hv : ∀ a, (vals a).length = size) {l : List α} {tail : List Value} {i : Nat} {a : α} (hi : l[i]? = some a) : (((l.map vals).flatten ++ tail).drop (i * size)).take size = vals a := by
  have hlt := (List.getElem?_eq_some_iff.1 hi).1
  have h1 : i * size + size ≤ l.length * size := by
    have := Nat.mul_le_mul_right size (show i + 1 ≤ l.length by omega)
    rw [Nat.add_mul] at this; omega
  rw [List.drop_append_of_le_length (by rw [vals_len hv]; omega), List.take_append_of_le_length (by rw [List.length_drop, vals_len hv]; omega)]
  exact flatten_row (fun q hq => by obtain ⟨a, _, rfl⟩ := List.mem_map.1 hq; exact hv a) (get_map hi)
theorem row_set (hv : ∀ a, (vals a).length = size) {l : List α} {tail : List Value} {i : Nat} (hi : i < l.length) (a : α) :
    ((l.map vals).flatten ++ tail).take (i * size) ++ vals a ++ ((l.map vals).flatten ++ tail).drop (i * size + size) = ((l.set i a).map vals).flatten ++ tail := by
  induction l generalizing i with
  | nil => simp at hi
  | cons b l ih =>
    cases i with
    | zero =>
      simp only [Nat.zero_mul, List.take_zero, List.nil_append, Nat.zero_add, List.map_cons, List.flatten_cons, List.set_cons_zero, List.append_assoc]
      rw [← hv b, List.drop_left]
    | succ i =>
      have := ih (i := i) (by simpa using hi)
      simp only [List.map_cons, List.flatten_cons, List.set_cons_succ, List.append_assoc] at this ⊢
      have e1 : (i + 1) * size = (vals b).length + i * size := by rw [hv b, Nat.add_mul]; omega
      rw [e1, List.take_length_add_append, Nat.add_assoc, List.drop_length_add_append, List.append_assoc]
      rw [this]
theorem readN_row (hv : ∀ a, (vals a).length = size) {h : AHeap} {b : Nat} {l : List α} {tail : List Value} {t : TypeId} {rw_ : Bool} (hb : h[b]? = some (.cells ((l.map vals).flatten ++ tail) t rw_)) {i : Nat} {a : α} (hi : l[i]? = some a) : readN h b (i * size) size = some (vals a) := by
  have hlt := (List.getElem?_eq_some_iff.1 hi).1
  have h1 : i * size + size ≤ l.length * size := by
    have := Nat.mul_le_mul_right size (show i + 1 ≤ l.length by omega)
    rw [Nat.add_mul] at this; omega
  unfold readN
  rw [hb]
  simp only
  rw [if_pos (by rw [List.length_append, vals_len hv]; omega), row_at hv hi]
theorem store_row (hv : ∀ a, (vals a).length = size) (hone : ∀ a, (vals a).all oneC = true) {h : AHeap} {b : Nat} {l : List α} {tail : List Value} {t : TypeId} (hb : h[b]? = some (.cells ((l.map vals).flatten ++ tail) t true)) {i : Nat} (hi : i < l.length) (a : α) :
    storef size (ptrTo b (i * size)) (.agg (vals a).toArray) h = some (h.set b (.cells (((l.set i a).map vals).flatten ++ tail) t true)) := by
  have h1 : i * size + size ≤ l.length * size := by
    have := Nat.mul_le_mul_right size (show i + 1 ≤ l.length by omega)
    rw [Nat.add_mul] at this; omega
  have e : cellsL (Value.agg (vals a).toArray) = vals a := rfl
  show (if (cellsL (Value.agg (vals a).toArray)).length = size then writeN h b (i * size) (cellsL (Value.agg (vals a).toArray)) else none) = _
  rw [e, if_pos (hv a)]
  unfold writeN
  rw [hb]
  show (if _ ∧ _ then some _ else none) = _
  rw [if_pos ⟨by rw [List.length_append, vals_len hv, hv]; omega, hone a⟩, hv a, row_set hv hi]
end

/-! ### slices.DeleteFunc of elements that have no slices in them -/
noncomputable def deleteL (Γ : Callee) (t : TypeId) (size : Nat) (zero : List Value) (x0 : Value) (x1 : Value) (j6 : List Value → AHeap → Rt) : (List Value → AHeap → Rt) → List Value → AHeap → Rt := fun c12 w13 h14 =>
 (lenf false x0).bind fun v15 =>
 (binf .lss (nth w13 1) v15).bind fun v16 =>
 JL (fun w18 h19 =>
 JL (fun w21 h22 =>
 (binf .add (nth w13 1) ((.int .i64 1) : Value)).bind fun v23 =>
 c12 [(nth w21 0), v23] h22) fun j20 =>
 (indexAddrf size x0 (nth w13 1)).bind fun v24 =>
 (loadf true size v24 h19).bind fun v25 =>
 fork (ptrTo h19.length 0) (h19 ++ [.cells zero t true]) fun v26 h27 =>
 (storef size v26 v25 h27).bind fun h28 =>
 (loadf true size v26 h28).bind fun v29 =>
 (callVf Γ x1 [v29] h28).bind fun p30 =>
 (unf .not p30.1).bind fun v31 =>
 JL (fun w33 h34 =>
 j20 [(nth w33 0)] h34) fun j32 =>
 ifK v31 (
 (loadf true size v26 p30.2).bind fun v35 =>
 (indexAddrf size x0 (nth w13 0)).bind fun v36 =>
 (storef size v36 v35 p30.2).bind fun h37 =>
 (binf .add (nth w13 0) ((.int .i64 1) : Value)).bind fun v38 =>
 j32 [v38] h37) (
 j32 [(nth w13 0)] p30.2)) fun j17 =>
 ifK v16 (
 j17 [] h14) (
 j6 [(nth w13 0)] h14)
noncomputable def deleteK (Γ : Callee) (g : FuncId) (t : TypeId) (size : Nat) (zero : List Value) (n : Nat) (x0 : Value) (x1 : Value) (h : AHeap) : Rt :=
 (Γ g [x0, x1] h).bind fun p0 =>
 (binf .eql p0.1 ((.int .i64 (-1)) : Value)).bind fun v1 =>
 JL (fun w3 h4 =>
 (binf .add p0.1 ((.int .i64 1) : Value)).bind fun v5 =>
 JL (fun w7 h8 =>
 (slicef size x0 (some (nth w7 0)) none none).bind fun v9 =>
 (clearf zero v9 h8).bind fun p10 =>
 (slicef size x0 none (some (nth w7 0)) none).bind fun v11 =>
 fin h p10.2 [v11]) fun j6 =>
 loopN (deleteL Γ t size zero x0 x1 j6) n [p0.1, v5] h4) fun j2 =>
 ifK v1 (
 fin h p0.2 [x0]) (
 j2 [] p0.2)
theorem rep_len (zero : List Value) (n : Nat) : (rep zero n).length = n * zero.length := by
  induction n with
  | zero => simp [rep]
  | succ n ih => rw [rep, List.length_append, ih, Nat.add_mul]; omega
theorem rep_one {zero : List Value} (h : zero.all oneC = true) (n : Nat) : (rep zero n).all oneC = true := by
  induction n with
  | zero => rfl
  | succ n ih => rw [rep, List.all_append, h, ih]; rfl
theorem filter_take_succ {α : Type} (p : α → Bool) {l : List α} {j : Nat} {a : α} (h : l[j]? = some a) : (l.take (j + 1)).filter p = (l.take j).filter p ++ (if p a then [a] else []) := by
  rw [List.take_add_one, h, List.filter_append]
  cases hp : p a <;> simp [hp]
theorem delete_ok {Γ : Callee} {g : FuncId} {α : Type} {f : α → List Dat} {vals : α → List Value} {p : α → Bool} {N : Nat} {t : TypeId} {size n : Nat} {zero : List Value} {S : Nat → Prop} {K0 : Nat → Prop} {h : AHeap} {x fv : Value} {l : List α}
    (o : Own N t size S h x (l.map f)) (hf : ∀ S h ws a, RL S h ws (f a) → ws = vals a) (hf2 : ∀ S h a, RL S h (vals a) (f a)) (hv : ∀ a, (vals a).length = size) (hz : zero.length = size) (hz1 : zero.all oneC = true) (hs : 0 < size)
    (hg : Γ g [x, fv] h = some (.int .i64 (idxf p l), h)) (ht : Tells Γ fv (fun a => .agg (vals a).toArray) p l K0 h) (hK : ∀ b, K0 b → b < h.length ∧ ¬ ownB x b) (hm : l.length ≤ mostLen) (hn : l.length < n) :
    ∃ y h', deleteK Γ g t size zero n x fv h = some (y, h') ∧ (∀ S' : Nat → Prop, (∀ b, ownB x b → S' b) → R S' h' y (.sl ((l.filter (fun a => !p a)).map f))) ∧ h.length ≤ h'.length ∧ (∀ b, b < h.length → ¬ ownB x b → h'[b]? = h[b]?) ∧ (∀ b, ownB y b → ownB x b) := by
  have hone : ∀ a, (vals a).all oneC = true := fun a => (hf2 (fun _ => False) [] a).oneC
  have hone2 : ∀ l : List α, ((l.map vals).flatten).all oneC = true := by
    intro l
    induction l with
    | nil => rfl
    | cons a l ih => simp only [List.map_cons, List.flatten_cons, List.all_append, hone, ih, Bool.and_true]
  have hrl : ∀ (S : Nat → Prop) h (l : List α), RL S h (l.map vals).flatten (l.map f).flatten := by
    intro S h l
    induction l with
    | nil => exact .nil
    | cons a l ih => simp only [List.map_cons, List.flatten_cons]; exact (hf2 S h a).append ih
  have hrl2 : ∀ (S : Nat → Prop) h (l : List α) ws, RL S h ws (l.map f).flatten → ws = (l.map vals).flatten := by
    intro S h l
    induction l with
    | nil => intro ws r; exact RL.nil_inv r
    | cons a l ih =>
      intro ws r
      simp only [List.map_cons, List.flatten_cons] at r ⊢
      have hl : (f a).length = size := by rw [← (hf2 S h a).length, hv]
      have r1 := r.take size
      have r2 := r.drop size
      rw [List.take_left' hl] at r1
      rw [List.drop_left' hl] at r2
      rw [← hf _ _ _ _ r1, ← ih _ r2, List.take_append_drop]
  unfold deleteK
  simp only [hg, Option.bind_some, binf_eql, JL, ifK_bool, beq_iff_eq]
  obtain ⟨hq, ho⟩ := o
  by_cases hi : idxf p l = -1
  · rw [if_pos hi]
    have hnone : l.filter (fun a => !p a) = l := by
      rw [List.filter_eq_self]
      intro a ha
      have := idxf_any p l
      rw [hi] at this
      have h2 : l.any p = false := by rw [← this]; decide
      have := List.any_eq_false.1 h2 a ha
      simpa using this
    refine ⟨x, h, fin_self _ _, fun S' hS' => ?_, Nat.le_refl _, fun _ _ _ => rfl, fun b hb => hb⟩
    rw [hnone]
    have o' : Own N t size (fun _ => False) h x (l.map f) := by
      refine ⟨hq, ?_⟩
      rcases ho with ho | ⟨b, c, cs, e, hb, _, hh, hl, hr, hc⟩
      · exact .inl ho
      · refine .inr ⟨b, c, cs, e, hb, fun h => h, hh, hl, ?_, hc⟩
        rw [hrl2 _ _ _ _ hr]
        exact hrl _ _ _
    exact o'.read (by simpa using hm) (fun b h => h.elim) hS'
  · rw [if_neg hi]
    rcases ho with ⟨rfl, he⟩ | ⟨b, c, cs, rfl, hb, _, hh, hl, hr, hc⟩
    · have : l = [] := by cases l with | nil => rfl | cons => cases he
      subst this
      exact absurd rfl hi
    · have hr' := hrl2 _ _ _ _ hr
      rw [List.length_map] at hl hr' hc ⊢
      have hcs : cs = (l.map vals).flatten ++ cs.drop (l.length * size) := by rw [← hr', List.take_append_drop]
      generalize cs.drop (l.length * size) = tail at hcs
      subst hcs
      have hcap : c = capU ∨ l.length ≤ c := by rcases hc with ⟨h, _⟩ | ⟨_, h, _⟩ <;> omega
      -- the first place
      cases hfi : l.findIdx? p with
      | none => exact absurd (by unfold idxf; rw [hfi]) hi
      | some i0 =>
        have hidx : idxf p l = (i0 : Int) := by unfold idxf; rw [hfi]
        obtain ⟨hlt, hp0, hpb⟩ := List.findIdx?_eq_some_iff_getElem.1 hfi
        unfold mostLen at hm
        rw [hidx, binf_add, succ64 (by omega)]
        simp only [Option.bind_some]
        have hbl : b < h.length := (List.getElem?_eq_some_iff.1 hh).1
        refine loop_ok (len := l.length) (fun j vs h' => ∃ (i : Nat) (rs : List α), vs = [.int .i64 i, .int .i64 j] ∧ i < j ∧ rs.length = l.length ∧ h'[b]? = some (.cells ((rs.map vals).flatten ++ tail) t true) ∧ rs.take i = (l.take j).filter (fun a => !p a) ∧ rs.drop j = l.drop j ∧
            h.length ≤ h'.length ∧ (∀ b', b' < h.length → b' ≠ b → h'[b']? = h[b']?))
          (fun r : Rt => ∃ y h', r = some (y, h') ∧ (∀ S' : Nat → Prop, (∀ b', ownB (.slice (some ⟨b, 0, none⟩) l.length c) b' → S' b') → R S' h' y (.sl ((l.filter (fun a => !p a)).map f))) ∧ h.length ≤ h'.length ∧ (∀ b', b' < h.length → ¬ ownB (.slice (some ⟨b, 0, none⟩) l.length c) b' → h'[b']? = h[b']?) ∧
            (∀ b', ownB y b' → ownB (.slice (some ⟨b, 0, none⟩) l.length c) b'))
          ?_ ?_ n (i0 + 1) _ _ ⟨i0, l, rfl, by omega, rfl, hh, ?_, rfl, Nat.le_refl _, fun _ _ _ => rfl⟩ (by omega) (by omega)
        · rintro j _ h1 hj ⟨i, rs, rfl, hij, hrs, hblk, htk, hdr, hlen, hfr⟩
          obtain ⟨a, ha⟩ := lt_len hj
          have ha' : rs[j]? = some a := by
            have := congrArg (fun q => q[0]?) hdr
            simpa [List.getElem?_drop, ha] using this
          have hb1 : b < h1.length := (List.getElem?_eq_some_iff.1 hblk).1
          have hrd := readN_row hv hblk ha'
          have htl : callVf Γ fv [.agg (vals a).toArray] (h1 ++ [.cells (vals a) t true]) = some (.bool (p a), h1 ++ [.cells (vals a) t true]) :=
            ht _ (by simp; omega) (fun b' hb' => by
              obtain ⟨k1, k2⟩ := hK b' hb'
              rw [app_get (by omega)]
              exact hfr b' k1 fun e => k2 ⟨_, _, _, by rw [e]⟩) a (List.mem_of_getElem? ha)
          have hblk2 : (h1 ++ [ABlk.cells (vals a) t true])[b]? = some (.cells ((rs.map vals).flatten ++ tail) t true) := by rw [app_get hb1, hblk]
          cases hp : p a with
          | true =>
            refine .inl ⟨[.int .i64 i, .int .i64 ((j + 1 : Nat) : Int)], h1 ++ [.cells (vals a) t true], ⟨i, rs, rfl, by omega, hrs, hblk2, ?_, ?_, by simp; omega, fun b' hb' hne => by rw [app_get (by omega)]; exact hfr b' hb' hne⟩, fun K => ?_⟩
            · rw [filter_take_succ _ ha, htk, hp]; simp
            · rw [← List.drop_drop, hdr, List.drop_drop]
            · unfold deleteL
              simp only [nth_zero, nth_one, lenf_slice, binf_lss, Option.bind_some, JL, ifK_bool, decide_eq_true_eq, binf_add]
              rw [if_pos (by omega)]
              simp only [indexAddr_slice _ _ _ _ _ _ hj, Option.bind_some, load_agg, Nat.zero_add, hrd, Option.map_some, fork]
              rw [store_new _ _ _ _ _ (by simp [cellsL, hv]) hz (by simpa [cellsL] using hone a)]
              simp only [Option.bind_some, load_agg, cellsL]
              rw [readN_new _ _ _ _ _ _ (by rw [Nat.zero_add, hv]; exact Nat.le_refl _)]
              simp only [List.drop_zero, List.take_of_length_le (Nat.le_of_eq (hv a)), Option.map_some, Option.bind_some, htl, hp, unf, Bool.not_true, ifK_bool, Bool.false_eq_true, if_false, nth_zero, succ64 (show j < 4294967297 by omega)]
          | false =>
            have hil : i < rs.length := by omega
            refine .inl ⟨[.int .i64 ((i + 1 : Nat) : Int), .int .i64 ((j + 1 : Nat) : Int)], (h1 ++ [ABlk.cells (vals a) t true]).set b (.cells (((rs.set i a).map vals).flatten ++ tail) t true), ⟨i + 1, rs.set i a, rfl, by omega, by simp [hrs], ?_, ?_, ?_, by simp; omega, fun b' hb' hne => by rw [set_get_ne hne, app_get (by omega)]; exact hfr b' hb' hne⟩, fun K => ?_⟩
            · rw [List.getElem?_set_self (by simp; omega)]
            · rw [filter_take_succ _ ha, hp, ← htk]
              rw [List.take_add_one, List.getElem?_set_self hil, List.take_set_of_le (Nat.le_refl _)]
              rfl
            · rw [List.drop_set_of_lt (by omega), ← List.drop_drop, hdr, List.drop_drop]
            · unfold deleteL
              simp only [nth_zero, nth_one, lenf_slice, binf_lss, Option.bind_some, JL, ifK_bool, decide_eq_true_eq, binf_add]
              rw [if_pos (by omega)]
              simp only [indexAddr_slice _ _ _ _ _ _ hj, Option.bind_some, load_agg, Nat.zero_add, hrd, Option.map_some, fork]
              rw [store_new _ _ _ _ _ (by simp [cellsL, hv]) hz (by simpa [cellsL] using hone a)]
              simp only [Option.bind_some, load_agg, cellsL]
              rw [readN_new _ _ _ _ _ _ (by rw [Nat.zero_add, hv]; exact Nat.le_refl _)]
              simp only [List.drop_zero, List.take_of_length_le (Nat.le_of_eq (hv a)), Option.map_some, Option.bind_some, htl, hp, unf, Bool.not_false, ifK_bool, if_true, nth_zero]
              rw [readN_new _ _ _ _ _ _ (by rw [Nat.zero_add, hv]; exact Nat.le_refl _)]
              simp only [List.drop_zero, List.take_of_length_le (Nat.le_of_eq (hv a)), Option.map_some, Option.bind_some, indexAddr_slice _ _ _ _ _ _ (show i < l.length by omega), Nat.zero_add]
              rw [store_row hv hone hblk2 hil]
              simp only [Option.bind_some, nth_zero, succ64 (show j < 4294967297 by omega), succ64 (show i < 4294967297 by omega)]
        · rintro _ h1 ⟨i, rs, rfl, hij, hrs, hblk, htk, hdr, hlen, hfr⟩
          have hb1 : b < h1.length := (List.getElem?_eq_some_iff.1 hblk).1
          rw [List.take_length] at htk
          obtain ⟨y9, e9, e9a, e9b⟩ := slice_lo (size := size) (b := b) (o := 0) (n := l.length) (c := c) (i := i) hcap (by omega)
          have e11 := slice_hi (size := size) (b := b) (o := 0) (n := l.length) (c := c) (i := i) hcap (by omega)
          -- the cells that are left
          have hclr : ∃ h2 tl, clearf zero y9 h1 = some (undef, h2) ∧ h2.length = h1.length ∧ h2[b]? = some (.cells (((rs.take i).map vals).flatten ++ tl) t true) ∧ ∀ b', b' ≠ b → h2[b']? = h1[b']? := by
            have hsplit : (rs.map vals).flatten = ((rs.take i).map vals).flatten ++ ((rs.drop i).map vals).flatten := by rw [← List.flatten_append, ← List.map_append, List.take_append_drop]
            by_cases hin : i < l.length
            · obtain ⟨c', rfl⟩ := e9a hin
              have hl1 : ((rs.take i).map vals).flatten.length = i * size := by rw [vals_len hv, List.length_take, Nat.min_eq_left (by omega)]
              have hl2 : ((rs.drop i).map vals).flatten.length = (l.length - i) * size := by rw [vals_len hv, List.length_drop, hrs]
              refine ⟨h1.set b (.cells (((rs.map vals).flatten ++ tail).take (0 + i * size) ++ rep zero (l.length - i) ++ ((rs.map vals).flatten ++ tail).drop (0 + i * size + (rep zero (l.length - i)).length)) t true), rep zero (l.length - i) ++ ((rs.map vals).flatten ++ tail).drop (0 + i * size + (rep zero (l.length - i)).length), ?_, by simp, ?_, fun b' hne => set_get_ne hne⟩
              · simp only [clearf]
                rw [if_neg (by omega)]
                simp only [writeN, hblk]
                rw [if_pos ⟨by rw [rep_len, hz, List.length_append, hsplit, List.length_append, hl1, hl2]; omega, rep_one hz1 _⟩]
                rfl
              · rw [List.getElem?_set_self hb1]
                congr 2
                rw [List.append_assoc]
                congr 1
                rw [Nat.zero_add, hsplit, List.append_assoc, ← hl1, List.take_left]
            · have hie : i = l.length := by omega
              obtain ⟨o', c', rfl⟩ := e9b hie
              refine ⟨h1, ((rs.drop i).map vals).flatten ++ tail, rfl, rfl, ?_, fun _ _ => rfl⟩
              rw [hblk, hsplit, List.append_assoc]
          obtain ⟨h2, tl, g1, g2, g3, g4⟩ := hclr
          have hlenf : (l.filter fun a => !p a).length = i := by rw [← htk, List.length_take, Nat.min_eq_left (by omega)]
          refine ⟨some (.slice (some ⟨b, 0, none⟩) i c, h2), ⟨_, _, rfl, fun S' hS' => ?_, by omega, fun b' hb' hnb => ?_, fun b' hb' => by obtain ⟨_, _, _, e⟩ := hb'; cases e; exact ⟨_, _, _, rfl⟩⟩, fun K => ?_⟩
          · refine .sl (vs := ((rs.take i).map vals).flatten) (by rw [List.length_map, hlenf]) (hS' b ⟨_, _, _, rfl⟩) (by rcases hcap with rfl | h <;> (try unfold capU) <;> omega) ?_ (by rw [htk]; exact hrl _ _ _)
            unfold readN
            rw [g3]
            simp only
            rw [if_pos (by rw [List.length_append]; omega), List.drop_zero, List.take_left]
          · have hne : b' ≠ b := fun e => hnb ⟨_, _, _, by rw [e]⟩
            rw [g4 b' hne, hfr b' hb' hne]
          · unfold deleteL
            simp only [nth_zero, nth_one, lenf_slice, binf_lss, Option.bind_some, JL, ifK_bool, decide_eq_true_eq, binf_add]
            rw [if_neg (by omega)]
            simp only [nth_zero, e9, e11, g1, Option.bind_some]
            exact fin_ref rfl
        · rw [filter_take_succ _ (List.getElem?_eq_getElem hlt), hp0]
          have : (l.take i0).filter (fun a => !p a) = l.take i0 := by
            rw [List.filter_eq_self]
            intro a ha
            obtain ⟨j, hj, rfl⟩ := List.mem_take_iff_getElem.1 ha
            have := hpb j (by omega)
            simpa using this
          rw [this]; simp

end Go.Am
