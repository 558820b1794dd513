/- One part of the proof. -/
import Derived.Test.YtffennknofmjoaaGreatP6
import Derived.Shelf.Sort.AssemblyIn
import Derived.Shelf.Slices.In.SortNone
import Derived.Test.YtffennknofmjoaaGreatChecked
set_option linter.unusedSimpArgs false
set_option linter.unusedVariables false
set_option linter.unusedSimpArgs false
set_option linter.unusedVariables false
namespace Go.Vm.X
open Go.Am Go.Vm
structure SngOK (s : Sng) : Prop where
  name : nameOK s.name = true
  dia : inW s.dia 1 6 = true
  ch : inW s.ch 1 (qI s.dia 1) = true
  npats : inW s.pats.length 1 (qI s.dia 2) = true
  pats : ∀ p ∈ s.pats, patCode s p = 0
  nords : inW s.ords.length 1 64 = true
  ords : ∀ o ∈ s.ords, ordBad s o = false
  rest : inW s.rest 0 (IntKind.i64.wrap ((s.ords.length : Int) - 1)) = true
  spd : inW s.spd 1 31 = true
  tem : inW s.tem 32 255 = true
  glb : inW s.glb 0 128 = true
  lin : (!s.lin || qB s.dia 8) = true
  npans : (s.pans.length : Int) = s.ch
  pans : ∀ p ∈ s.pans, inW p 0 256 = true
  nsmps : (s.smps.length : Int) ≤ 31
  smps : ∀ x ∈ s.smps, smpOK x = true
  ninss : (s.inss.length : Int) ≤ 31
  inss : ∀ x ∈ s.inss, insCode s x = 0
theorem un_ok {ok : Bool} {part : ByteArray} {e : Int} (he : e ≠ 0) (h : isF (unF ok part e) = false) : ok = true := by
  cases ok with
  | true => rfl
  | false =>
    have h2 : (e != 0) = false := h
    rw [bne_eq_false_iff_eq] at h2
    exact absurd h2 he
theorem scan_ok {α : Type} {part : ByteArray} {code : α → Int} {l : List α} (h : isF (scanF part code l) = false) : ∀ a ∈ l, code a = 0 := by
  unfold scanF at h
  cases hi : l.findIdx? (fun a => code a != 0) with
  | none =>
    intro a ha
    have := List.findIdx?_eq_none_iff.1 hi a ha
    rwa [bne_eq_false_iff_eq] at this
  | some i =>
    rw [hi] at h
    obtain ⟨a, h1, h2⟩ := idx_some hi
    simp only [h1, Option.map_some, Option.getD_some] at h
    have h3 : (code a != 0) = false := h
    rw [h2] at h3
    cases h3
theorem find_isF {l : List Flt} {f : Flt} (h : l.find? isF = some f) : (f.2.2 == 0) = false := by
  have := List.find?_some h
  unfold isF at this
  rw [beq_eq_false_iff_ne]
  rwa [bne_iff_ne] at this
theorem sng_ok {s : Sng} (h : ((wrongP s).2.2 == 0) = true) : SngOK s := by
  rw [wrong_same] at h
  unfold wrongR at h
  cases h1 : (headL s).find? isF with
  | some f =>
    rw [h1] at h
    simp only [find_isF h1] at h
    cases h
  | none =>
    rw [h1] at h
    simp only at h
    cases h2 : (restL s).find? isF with
    | some f =>
      rw [h2] at h
      simp only [find_isF h2] at h
      cases h
    | none =>
      have g1 := List.find?_eq_none.1 h1
      have g2 := List.find?_eq_none.1 h2
      have m1 : ∀ f ∈ headL s, isF f = false := fun f hf => by simpa using g1 f hf
      have m2 : ∀ f ∈ restL s, isF f = false := fun f hf => by simpa using g2 f hf
      unfold headL at m1
      unfold restL at m2
      simp only [List.forall_mem_cons] at m1 m2
      obtain ⟨a1, a2, a3, _⟩ := m1
      obtain ⟨b1, b2, b3, b4, b5, b6, b7, b8, b9, b10, b11, b12, b13, b14, b15, _⟩ := m2
      have k2 := un_ok (by decide) a2
      have k12 := un_ok (by decide) b12
      have k14 := un_ok (by decide) b14
      simp only [Bool.and_eq_true, decide_eq_true_eq] at k12 k14
      exact {
        name := un_ok (by decide) a1
        dia := by
          have := k2
          unfold kindE at this
          cases hd : inW s.dia 1 6 with
          | true => rfl
          | false => rw [hd] at this; cases this
        ch := un_ok (by decide) a3
        npats := un_ok (by decide) b1
        pats := scan_ok b2
        nords := un_ok (by decide) b3
        ords := fun o ho => by
          have := scan_ok b4 o ho
          cases hb : ordBad s o with
          | false => rfl
          | true => rw [hb] at this; cases this
        rest := un_ok (by decide) b5
        spd := un_ok (by decide) b6
        tem := un_ok (by decide) b7
        glb := un_ok (by decide) b8
        lin := un_ok (by decide) b9
        npans := by
          have := un_ok (by decide) b10
          rwa [beq_iff_eq] at this
        pans := fun o ho => by
          have := scan_ok b11 o ho
          cases hb : inW o 0 256 with
          | true => rfl
          | false => rw [hb] at this; cases this
        nsmps := k12.1
        smps := fun o ho => by
          have := scan_ok b13 o ho
          cases hb : smpOK o with
          | true => rfl
          | false => rw [hb] at this; cases this
        ninss := k14.1
        inss := scan_ok b15 }
end Go.Vm.X



/- Instruments: which note and sample a key plays; lists that are the same. -/
set_option linter.unusedSimpArgs false
set_option linter.unusedVariables false
namespace Go.Vm.X
open Go.Am Go.Vm
attribute [local congr] bind_c ifP_c loop_c K1_c ite_c fork_c guard_c unl_c
theorem ic_whole (i : Ins) : partP true 0 33 i.cs = some (.agg i.cs) := part_all rfl
def keyAt (i : Ins) (n : Nat) (own : Int) : Int × Int := if i.keys.length = 0 then ((n : Int), own) else i.keys.getD n (0, 0)
def keyV (i : Ins) (n own : Int) : Int × Int := if insOK i = true ∧ 0 ≤ n ∧ n ≤ 119 then keyAt i n.toNat own else (0, 0)
def pairV (p : Int × Int) : PV := .tuple [.int .i64 p.1, .int .i64 p.2]
theorem kc0 (c : Int × Int) : (keyC c)[0]? = some (.int .i64 c.1) := nr rfl
theorem kc1 (c : Int × Int) : (keyC c)[1]? = some (.int .i64 c.2) := nr rfl
theorem fin_ii' {h l : PHeap} {a b : Int} : finP [.keep, .keep] h (h ++ l) [.int .i64 a, .int .i64 b] = some (.tuple [.int .i64 a, .int .i64 b], h) := fin_k2 rfl rfl
theorem keys_120 {i : Ins} (h : insOK i = true) : i.keys.length = 0 ∨ i.keys.length = 120 := by
  unfold insOK at h
  simp only [Bool.and_eq_true, Bool.or_eq_true, beq_iff_eq] at h
  omega
theorem keys_ok {i : Ins} (h : insOK i = true) {k : Int × Int} (hk : k ∈ i.keys) : 0 ≤ k.1 ∧ k.1 ≤ 119 ∧ 0 ≤ k.2 ∧ k.2 ≤ 31 := by
  unfold insOK at h
  simp only [Bool.and_eq_true, Bool.not_eq_true', List.any_eq_false] at h
  have := h.1 k hk
  unfold keyBad inW at this
  simp only [Bool.or_eq_true, Bool.not_eq_true', Bool.and_eq_false_iff, decide_eq_false_iff_not] at this
  omega
theorem c113 (i : Ins) (n : Nat) (own : Int) (h : PHeap) (hn : i.keys.length = 0 ∨ n < i.keys.length) : Γ0 113 [.agg i.cs, .int .i64 (n : Int), .int .i64 own] h = some (pairV (keyAt i n own), h) := by
  refine gbody (F := A113) (by kernel_rfl) 1 ?_
  rw [s113_eq]; unfold s113 keyAt pairV
  by_cases h0 : i.keys.length = 0
  · simp only [words, ↓KLn, Nat.reduceAdd, ic1, len_keys, h0, if_true, fin_ii']
    rfl
  · obtain ⟨k, hk⟩ := lt_l (hn.resolve_left h0)
    have e0 : ((i.keys.length : Int) == 0) = false := by rw [beq_eq_false_iff_ne]; omega
    simp only [words, ↓KLn, Nat.reduceAdd, ic1, len_keys, e0, if_neg h0, Bool.false_eq_true, if_false, idx_keys _ hk, kc0, kc1, fin_ii', getD_of hk]
theorem inW_of {n : Int} (h : inW n 0 119 = true) : 0 ≤ n ∧ n ≤ 119 := by
  unfold inW at h
  simpa only [Bool.and_eq_true, decide_eq_true_eq] using h
theorem c111 (i : Ins) (hl : InsLen i) (n own : Int) (h : PHeap) : Γ0 111 [.agg i.cs, .int .i64 n, .int .i64 own] h = some (pairV (keyV i n own), h) := by
  refine gbody (F := A111) (by kernel_rfl) 1 ?_
  rw [s111_eq]; unfold s111 keyV
  cases hv : insOK i with
  | false =>
    simp only [words, ↓KLn, Nat.reduceAdd, ↓K1n, sc_or, ic_whole, c127 i hl, hv, Bool.not_false, if_true, fin_ii', Bool.false_eq_true, false_and, if_false]
    rfl
  | true =>
    cases hn : inW n 0 119 with
    | false =>
      have hne : ¬ (0 ≤ n ∧ n ≤ 119) := fun hh => by
        unfold inW at hn
        simp [hh.1, hh.2] at hn
      simp only [words, ↓KLn, Nat.reduceAdd, ↓K1n, sc_or, ic_whole, c127 i hl, hv, Bool.not_true, c146, hn, Bool.not_false, if_true, fin_ii', Bool.false_eq_true, if_false, true_and, if_neg hne]
      rfl
    | true =>
      obtain ⟨m, rfl⟩ : ∃ m : Nat, n = (m : Int) := ⟨n.toNat, by have := inW_of hn; omega⟩
      have hb := inW_of hn
      by_cases h0 : i.keys.length = 0
      · have e0 : ((i.keys.length : Int) == 0) = true := by rw [beq_iff_eq]; omega
        simp only [words, ↓KLn, Nat.reduceAdd, ↓K1n, sc_or, ic_whole, c127 i hl, hv, Bool.not_true, c146, hn, if_true, fin_ii', Bool.false_eq_true, if_false, true_and, if_pos hb, ic1, len_keys, e0]
        unfold keyAt
        rw [if_pos h0]
        rfl
      · obtain ⟨k, hk⟩ := lt_l (show m < i.keys.length by have := keys_120 hv; omega)
        have e0 : ((i.keys.length : Int) == 0) = false := by rw [beq_eq_false_iff_ne]; omega
        simp only [words, ↓KLn, Nat.reduceAdd, ↓K1n, sc_or, ic_whole, c127 i hl, hv, Bool.not_true, c146, hn, if_true, fin_ii', Bool.false_eq_true, if_false, true_and, if_pos hb, ic1, len_keys, e0, idx_keys _ hk, kc0, kc1]
        unfold keyAt
        rw [if_neg h0, Int.toNat_natCast, getD_of hk]
        rfl
end Go.Vm.X



/- Compact of a list of numbers. -/
set_option linter.unusedSimpArgs false
set_option linter.unusedVariables false
namespace Go.Vm.X
open Go.Am Go.Vm
def keepAt (l : List Int) (j : Nat) : Bool := j == 0 || l.getD j 0 != l.getD (j - 1) 0
def ddN (l : List Int) (m : Nat) : List Int := ((List.range m).filter (keepAt l)).map fun j => l.getD j 0
theorem ddN_succ (l : List Int) (m : Nat) : ddN l (m + 1) = if keepAt l m = true then ddN l m ++ [l.getD m 0] else ddN l m := by
  unfold ddN
  rw [List.range_succ, List.filter_append, List.map_append]
  cases h : keepAt l m with
  | true => simp [h]
  | false => simp [h]
theorem ddN_le (l : List Int) : ∀ m, (ddN l m).length ≤ m
  | 0 => by simp [ddN]
  | m + 1 => by
    have := ddN_le l m
    rw [ddN_succ]
    split
    · rw [List.length_append]; simp; omega
    · omega
theorem ddN_all {l : List Int} {m : Nat} (hm : m ≤ l.length) (h : ∀ j, j < m → keepAt l j = true) : ddN l m = l.take m := by
  induction m with
  | zero => simp [ddN]
  | succ m ih =>
    rw [ddN_succ, if_pos (h m (by omega)), ih (by omega) fun j hj => h j (by omega), List.take_add_one]
    congr 1
    rw [List.getD_eq_getElem?_getD, List.getElem?_eq_getElem (by omega)]
    rfl
theorem ddN_lt {l : List Int} {k : Nat} (h : keepAt l k = false) : ∀ m, k < m → (ddN l m).length < m
  | 0, hm => by omega
  | m + 1, hm => by
    rw [ddN_succ]
    by_cases e : k = m
    · subst e
      rw [if_neg (by rw [h]; decide)]
      have := ddN_le l k
      omega
    · have := ddN_lt h m (by omega)
      split
      · rw [List.length_append]; simp; omega
      · omega
theorem ddN_pos {l : List Int} : ∀ {m : Nat}, 0 < m → 0 < (ddN l m).length
  | 1, _ => by simp [ddN, keepAt]
  | m + 2, _ => by
    have := ddN_pos (l := l) (m := m + 1) (by omega)
    rw [ddN_succ]
    split
    · rw [List.length_append]; omega
    · exact this
def outN (l : List Int) (m : Nat) : List Int := ddN l m ++ l.drop (ddN l m).length
theorem outN_len {l : List Int} {m : Nat} (hm : m ≤ l.length) : (outN l m).length = l.length := by
  have := ddN_le l m
  unfold outN
  rw [List.length_append, List.length_drop]
  omega
theorem outN_get {l : List Int} {m j : Nat} (h : (ddN l m).length ≤ j) : (outN l m)[j]? = l[j]? := by
  unfold outN
  rw [List.getElem?_append_right h, List.getElem?_drop]
  congr 1
  omega
theorem outN_keep {l : List Int} {m : Nat} (hm : m < l.length) (h : keepAt l m = true) (hlt : (ddN l m).length < m) : (outN l m).set (ddN l m).length (l.getD m 0) = outN l (m + 1) := by
  unfold outN
  rw [ddN_succ, if_pos h, List.set_append_right _ _ (Nat.le_refl _), Nat.sub_self, List.append_assoc]
  congr 1
  have : (ddN l m).length < l.length := by omega
  rw [List.length_append, List.drop_eq_getElem_cons this]
  rfl
theorem outN_drop {l : List Int} {m : Nat} (h : keepAt l m = false) : outN l (m + 1) = outN l m := by
  unfold outN
  rw [ddN_succ, if_neg (by rw [h]; decide)]
theorem mem_ddN {l : List Int} {m : Nat} {x : Int} (hm : m ≤ l.length) : x ∈ ddN l m ↔ x ∈ l.take m := by
  induction m with
  | zero => simp [ddN]
  | succ m ih =>
    have e : l.take (m + 1) = l.take m ++ [l.getD m 0] := by
      rw [List.take_add_one]; congr 1
      rw [List.getD_eq_getElem?_getD, List.getElem?_eq_getElem (by omega)]
      rfl
    rw [e, ddN_succ]
    split
    · rw [List.mem_append, List.mem_append, ih (by omega)]
    · rename_i hk
      rw [ih (by omega), List.mem_append]
      constructor
      · exact .inl
      · rintro (h | h)
        · exact h
        · have h1 : x = l.getD m 0 := by simpa using h
          unfold keepAt at hk
          simp only [Bool.or_eq_true, beq_iff_eq, bne_iff_ne, not_or, Decidable.not_not] at hk
          rw [h1, hk.2, List.mem_take_iff_getElem]
          refine ⟨m - 1, by omega, ?_⟩
          rw [List.getD_eq_getElem?_getD, List.getElem?_eq_getElem (by omega)]
          rfl
theorem ddN_sorted {l : List Int} (hs : l.Pairwise (· ≤ ·)) : ∀ {m : Nat}, m ≤ l.length → (ddN l m).Pairwise (· < ·)
  | 0, _ => by simp [ddN]
  | m + 1, hm => by
    rw [ddN_succ]
    split
    · rename_i hk
      rw [List.pairwise_append]
      refine ⟨ddN_sorted hs (by omega), by simp, fun x hx y hy => ?_⟩
      have hy' : y = l.getD m 0 := by simpa using hy
      rw [mem_ddN (by omega), List.mem_take_iff_getElem] at hx
      obtain ⟨j, hj, rfl⟩ := hx
      subst hy'
      unfold keepAt at hk
      simp only [Bool.or_eq_true, beq_iff_eq, bne_iff_ne] at hk
      have hm1 : m < l.length := by omega
      have e1 : l.getD m 0 = l[m] := by rw [List.getD_eq_getElem?_getD, List.getElem?_eq_getElem hm1]; rfl
      have e2 : l.getD (m - 1) 0 = l[m - 1] := by rw [List.getD_eq_getElem?_getD, List.getElem?_eq_getElem (by omega)]; rfl
      rw [e1, e2] at hk
      rw [e1]
      have h1 : l[m - 1] ≤ l[m] := by
        by_cases e : m - 1 < m
        · exact List.pairwise_iff_getElem.1 hs _ _ (by omega) hm1 e
        · omega
      have h2 : l[j] ≤ l[m - 1] := by
        by_cases e : j < m - 1
        · exact List.pairwise_iff_getElem.1 hs _ _ (by omega) (by omega) e
        · have : j = m - 1 := by omega
          subst this
          exact Int.le_refl _
      omega
    · exact ddN_sorted hs (by omega)
theorem sorted_eq : ∀ {a b : List Int}, a.Pairwise (· < ·) → b.Pairwise (· < ·) → (∀ x, x ∈ a ↔ x ∈ b) → a = b
  | [], [], _, _, _ => rfl
  | [], y :: b, _, _, h => absurd ((h y).2 (by simp)) (by simp)
  | x :: a, [], _, _, h => absurd ((h x).1 (by simp)) (by simp)
  | x :: a, y :: b, ha, hb, h => by
    rw [List.pairwise_cons] at ha hb
    have e : x = y := by
      rcases List.mem_cons.1 ((h x).1 (by simp)) with h1 | h1
      · exact h1
      · rcases List.mem_cons.1 ((h y).2 (by simp)) with h2 | h2
        · exact h2.symm
        · have := hb.1 x h1; have := ha.1 y h2; omega
    subst e
    rw [sorted_eq ha.2 hb.2 fun z => ?_]
    constructor
    · intro hz
      rcases List.mem_cons.1 ((h z).1 (by simp [hz])) with h1 | h1
      · subst h1; have := ha.1 z hz; omega
      · exact h1
    · intro hz
      rcases List.mem_cons.1 ((h z).2 (by simp [hz])) with h1 | h1
      · subst h1; have := hb.1 z hz; omega
      · exact h1
theorem srt_sorted (l : List Int) : (srt l).Pairwise (· ≤ ·) := by
  have := List.pairwise_mergeSort (le := fun x y : Int => decide (x ≤ y)) (fun a b c h1 h2 => by simp only [decide_eq_true_eq] at *; omega) (fun a b => by simp only [Bool.or_eq_true, decide_eq_true_eq]; omega) l
  exact this.imp fun h => by simpa using h
theorem mem_srt {l : List Int} {x : Int} : x ∈ srt l ↔ x ∈ l := List.mem_mergeSort
theorem dd_srt {l b : List Int} (hb : b.Pairwise (· < ·)) (h : ∀ x, x ∈ l ↔ x ∈ b) : ddN (srt l) (srt l).length = b :=
  sorted_eq (ddN_sorted (srt_sorted l) (Nat.le_refl _)) hb fun x => by rw [mem_ddN (Nat.le_refl _), List.take_length, mem_srt]; exact h x
end Go.Vm.X


set_option linter.unusedSimpArgs false
set_option linter.unusedVariables false
namespace Go.Vm.X
open Go.Am Go.Vm
attribute [local congr] bind_c ifP_c loop_c K1_c ite_c fork_c guard_c unl_c
structure Sink (b : Nat) (ok : List Int → Prop) (H : List Int → PHeap) : Prop where
  len : ∀ L, (H L).length = (H []).length
  yld : ∀ L x rest, ok (L ++ [x]) → Γ0 yieldId [.ptr b 0, .int .i64 x] (H L ++ rest) = some (.bool true, H (L ++ [x]) ++ rest)
  keep : ∀ L L' k, k < (H []).length → (H L')[k]? = (H L)[k]? ∨ ∃ blk, (H L')[k]? = some blk ∧ ltB (H []).length blk
  pre : ∀ A B, ok (A ++ B) → ok A
theorem Sink.trim {b : Nat} {ok : List Int → Prop} {H : List Int → PHeap} (s : Sink b ok H) (L L' : List Int) {r : List PV} (hr : ∀ v ∈ r, ltV (H []).length v) (rest : PHeap) : Go.Vm.trim (H L) r (H L' ++ rest) = H L' := by
  have e : (H L).length = (H L').length := by rw [s.len L, s.len L']
  have hc : (∀ v ∈ r, ltV (H L).length v) ∧ ∀ b, b < (H L).length → (H L' ++ rest)[b]? = (H L)[b]? ∨ ∃ blk, (H L' ++ rest)[b]? = some blk ∧ ltB (H L).length blk := by
    have e0 := s.len L
    refine ⟨by rw [e0]; exact hr, fun b hb => ?_⟩
    rw [List.getElem?_append_left (by omega), e0]
    exact s.keep L L' b (by omega)
  unfold Go.Vm.trim
  rw [if_pos hc, e, List.take_left]
theorem fin_unit (h h' : PHeap) : finP [] h h' [] = some (undefP, trim h [] h') := by
  rw [fin_def, fzL_nil, Option.map_some]
  rfl
def Src (h : PHeap) (g : PV) (items : List Int) : Prop := ∀ (b : Nat) (ok : List Int → Prop) (H : List Int → PHeap) (L : List Int), Sink b ok H → (∀ M k, k < h.length → (H M)[k]? = h[k]?) → ok (L ++ items) → callFP Γ0 g [.yield b] (H L) = some (undefP, H (L ++ items))
theorem box_eq {g h : PHeap} {k : Nat} (e : g[k]? = h[k]?) : boxAt g k = boxAt h k := by unfold boxAt; rw [e]
theorem box_load1 {g : PHeap} {k o : Nat} {vs : List PV} {v : PV} (e : boxAt g k = some vs) (hv : vs[o]? = some v) : loadP false 1 (.ptr k o) g = some v := by
  rw [load_box, e, Option.bind_some]
  exact hv
theorem box_loadN {g : PHeap} {k n : Nat} {vs : List PV} (e : boxAt g k = some vs) (hv : vs.length = n) : loadP true n (.ptr k 0) g = some (.agg vs) := by
  rw [load_box, e, Option.bind_some]
  exact part_all hv
theorem box_lt {g : PHeap} {k : Nat} {vs : List PV} (e : boxAt g k = some vs) : k < g.length := by
  unfold boxAt at e
  cases h : g[k]? with
  | none => rw [h] at e; cases e
  | some x => exact (List.getElem?_eq_some_iff.1 h).1
theorem box_app {g : PHeap} {k : Nat} {vs : List PV} (e : boxAt g k = some vs) (l : PHeap) : boxAt (g ++ l) k = some vs := by
  rw [← e]
  exact box_eq (List.getElem?_append_left (box_lt e))
theorem snoc_ind {α : Type} {P : List α → Prop} (h0 : P []) (h1 : ∀ l a, P l → P (l ++ [a])) : ∀ l, P l := by
  intro l
  rw [← List.reverse_reverse l]
  induction l.reverse with
  | nil => exact h0
  | cons a t ih => rw [List.reverse_cons]; exact h1 _ _ ih
def nmStep (acc : List Int) (o : Int) : List Int := if (mark o || acc.contains o) = true then acc else acc ++ [o]
def nm (l : List Int) : List Int := l.foldl nmStep []
theorem nm_snoc (l : List Int) (o : Int) : nm (l ++ [o]) = nmStep (nm l) o := by unfold nm; rw [List.foldl_append]; rfl
theorem nm_le : ∀ (l : List Int) (acc : List Int), (l.foldl nmStep acc).length ≤ acc.length + l.length
  | [], acc => by simp
  | o :: l, acc => by
    have := nm_le l (nmStep acc o)
    have h2 : (nmStep acc o).length ≤ acc.length + 1 := by unfold nmStep; split <;> simp
    simp only [List.foldl_cons, List.length_cons]
    omega
theorem nm_pre (l l' : List Int) : ∃ r, nm (l ++ l') = nm l ++ r := by
  refine snoc_ind (P := fun l' => ∃ r, nm (l ++ l') = nm l ++ r) ⟨[], by simp⟩ (fun l' o ih => ?_) l'
  · obtain ⟨r, hr⟩ := ih
    rw [← List.append_assoc, nm_snoc, hr]
    unfold nmStep
    split
    · exact ⟨r, rfl⟩
    · exact ⟨r ++ [o], by rw [List.append_assoc]⟩
theorem nm_mem (l : List Int) : ∀ o, o ∈ nm l ↔ o ∈ l ∧ mark o = false := by
  refine snoc_ind (P := fun l => ∀ o, o ∈ nm l ↔ o ∈ l ∧ mark o = false) (fun o => by simp [nm]) (fun l x ih => ?_) l
  · intro o
    rw [nm_snoc]
    unfold nmStep
    by_cases hx : (mark x || (nm l).contains x) = true
    · rw [if_pos hx, ih, List.mem_append, List.mem_singleton]
      constructor
      · rintro ⟨h1, h2⟩; exact ⟨.inl h1, h2⟩
      · rintro ⟨h1 | rfl, h2⟩
        · exact ⟨h1, h2⟩
        · rw [h2, Bool.false_or, List.contains_iff_mem, ih] at hx
          exact hx
    · rw [if_neg hx, List.mem_append, List.mem_singleton, ih, List.mem_append, List.mem_singleton]
      have hm : mark x = false := by
        cases h : mark x with
        | false => rfl
        | true => rw [h] at hx; simp at hx
      constructor
      · rintro (⟨h1, h2⟩ | rfl)
        · exact ⟨.inl h1, h2⟩
        · exact ⟨.inr rfl, hm⟩
      · rintro ⟨h1 | rfl, h2⟩
        · exact .inl ⟨h1, h2⟩
        · exact .inr rfl
def mapE (l : List Int) : List (PV × PV) := l.map fun o => (.int .i64 o, .bool true)
theorem find_mapE (o : Int) : ∀ l : List Int, findMapP .int (.int .i64 o) (mapE l) = some (if l.contains o = true then some (.bool true) else none)
  | [] => rfl
  | y :: r => by
    have ih := find_mapE o r
    unfold mapE at ih ⊢
    rw [List.map_cons, findMapP]
    simp only [keyEqP, if_true]
    by_cases h : o = y
    · subst h; simp
    · have h2 : (o == y) = false := by simpa using h
      rw [h2]
      simp only [ih, List.contains_cons, h2, Bool.false_or]
theorem ins_mapE (o : Int) : ∀ l : List Int, l.contains o = false → insMapP .int (.int .i64 o) (.bool true) (mapE l) = some (mapE (l ++ [o]))
  | [], _ => rfl
  | y :: r, h => by
    rw [List.contains_cons, Bool.or_eq_false_iff] at h
    have ih := ins_mapE o r h.2
    unfold mapE at ih ⊢
    rw [List.cons_append, List.map_cons, List.map_cons, insMapP]
    simp only [keyEqP, if_true, h.1, ih, Option.map_some]
theorem get_one (g : PHeap) (x : PBlk) (n : Nat) (h : n = g.length) : (g ++ [x])[n]? = some x := by subst h; simp
theorem look_mapE {g : PHeap} {n : Nat} (h : n = g.length) (l : List Int) (o : Int) (md : Md) : lookupP .int (.bool false) false (.map n) (.int .i64 o) (g ++ [.map (mapE l) md]) = some (.bool (l.contains o)) := by
  simp only [lookupP, mapOfP, get_one g _ n h, Option.bind_some, find_mapE, Option.map_some]
  cases l.contains o <;> rfl
theorem set_mapE {g : PHeap} {n : Nat} (h : n = g.length) {l : List Int} {o : Int} (ho : l.contains o = false) : setMapP .int (.map n) (.int .i64 o) (.bool true) (g ++ [.map (mapE l) .rw]) = some (g ++ [.map (mapE (l ++ [o])) .rw]) := by
  subst h
  simp only [setMapP, get_one g _ _ rfl, ins_mapE o l ho, Option.map_some]
  congr 1
  rw [List.set_append_right _ _ (Nat.le_refl _), Nat.sub_self]
  rfl
theorem callV_yield (b : Nat) (args : List PV) (h : PHeap) : callVP Γ0 (.yield b) args h = Γ0 yieldId (.ptr b 0 :: args) h := rfl
theorem src_named {h : PHeap} {k : Nat} {s : Sng} (e : boxAt h k = some s.cs) (hm : s.ords.length < 9223372036854775808) : Src h (.func 94 [] [.ptr k 0]) (nm s.ords) := by
  intro b ok H L S hH hok
  rw [callF_func Γ0 94]
  show Γ0 94 [.yield b, .ptr k 0] (H L) = _
  have hl : ∀ M M', (H M).length = (H M').length := fun M M' => by rw [S.len M, S.len M']
  have hb : ∀ M l, boxAt (H M ++ l) k = some s.cs := fun M l => by
    refine box_app ?_ l
    rw [← e]
    exact box_eq (hH M k (box_lt e))
  refine gbody (F := A94) (by kernel_rfl) (s.ords.length + 1) ?_
  rw [s94_eq]; unfold s94
  simp only [words, ↓KLn, Nat.reduceAdd, box_load1 (hb L _) (sc3 s), len_ints]
  refine loop_run (fun i => [.int .i64 (i : Int)]) (fun i => H (L ++ nm (s.ords.take i)) ++ [.map (mapE (nm (s.ords.take i))) .rw]) s.ords.length (by omega) rfl (by simp [nm, mapE]) (fun i hi K => ?_) fun K => ?_
  · obtain ⟨o, ho⟩ := lt_l hi
    have ht : s.ords.take (i + 1) = s.ords.take i ++ [o] := take_succ_get ho
    have htr : ∀ (M M' : List Int) (x y : PBlk) (r : List PV), Go.Vm.trim (H M ++ [x]) r (H M' ++ [y]) = H M' ++ [y] := fun M M' x y r => trim_len _ (by simp [hl M' M])
    unfold s94_L0
    simp only [words, ↓KLn, Nat.reduceAdd, ltT hi, decide_true, if_true, idx_ints _ ho, iv0, c87]
    rw [ht, nm_snoc]
    unfold nmStep
    cases hmk : mark o with
    | true => simp only [words, ↓KLn, Nat.reduceAdd, ↓K1n, sc_or, Bool.true_or, if_true, Bool.true_eq_false, if_false, succ63 (show i < 9223372036854775807 by omega), htr]
    | false =>
      have hlk := look_mapE (hl L (L ++ nm (s.ords.take i))) (nm (s.ords.take i)) o .rw
      cases hc : (nm (s.ords.take i)).contains o with
      | true => simp only [words, ↓KLn, Nat.reduceAdd, ↓K1n, sc_or, Bool.false_or, if_true, hlk, hc, succ63 (show i < 9223372036854775807 by omega), htr]
      | false =>
        have hst := set_mapE (hl L (L ++ nm (s.ords.take i))) hc
        have hy := S.yld (L ++ nm (s.ords.take i)) o [.map (mapE (nm (s.ords.take i) ++ [o])) .rw] (by
          obtain ⟨r, hr⟩ := nm_pre (s.ords.take (i + 1)) (s.ords.drop (i + 1))
          rw [List.take_append_drop] at hr
          rw [hr, ht, nm_snoc, nmStep, hmk, hc, Bool.or_self, if_neg (by decide), ← List.append_assoc, ← List.append_assoc] at hok
          exact S.pre _ _ hok)
        simp only [words, ↓KLn, Nat.reduceAdd, ↓K1n, sc_or, Bool.false_or, if_true, Bool.false_eq_true, if_false, hlk, hc, hst, callV_yield, hy, Bool.not_true, succ63 (show i < 9223372036854775807 by omega), htr, List.append_assoc]
  · unfold s94_L0
    simp only [words, ↓KLn, Nat.reduceAdd, ltF, decide_false, Bool.false_eq_true, if_false, fin_unit, List.take_length]
    rw [S.trim _ _ (by simp)]
end Go.Vm.X



/- Compact, the walk: its result can still be written. -/
set_option linter.unusedSimpArgs false
set_option linter.unusedVariables false
namespace Go.Vm.X
open Go.Am Go.Vm
attribute [local congr] bind_c ifP_c loop_c K1_c ite_c fork_c guard_c unl_c
def lg (p r : PHeap) (l : List Int) (md : Md) : PHeap := p ++ .log (l.map iV) 1 3 md :: r
theorem lg_at (p r : PHeap) (l : List Int) (md : Md) : (lg p r l md)[p.length]? = some (.log (l.map iV) 1 3 md) := by unfold lg; simp
theorem lg_set (p r : PHeap) (l l' : List Int) (md md' : Md) : (lg p r l md).set p.length (.log (l'.map iV) 1 3 md') = lg p r l' md' := by unfold lg; simp
theorem lg_len (p r : PHeap) (l : List Int) (md : Md) : (lg p r l md).length = p.length + (r.length + 1) := by unfold lg; simp
theorem lg_load {p r : PHeap} {l : List Int} {i n : Nat} {v : Int} {md : Md} (hn : n = l.length) (hv : l[i]? = some v) : loadP false 1 (.lptr p.length i 0 n 1) (lg p r l md) = some (.int .i64 v) := by
  subst hn
  simp only [loadP, logAt, lg_at, List.length_map, Nat.beq_refl, Bool.and_self, cond_true, Option.bind_some, List.getElem?_map, hv, Option.map_some]
  rfl
theorem lg_store {p r : PHeap} {l : List Int} {i n : Nat} {v : Int} (hn : n = l.length) (hi : i < l.length) : storeP 1 (.lptr p.length i 0 n 1) (.int .i64 v) (lg p r l .rw) = some (lg p r (l.set i v) .rw) := by
  subst hn
  have e : (l.map iV)[i]? = some (iV l[i]) := by rw [List.getElem?_map, List.getElem?_eq_getElem hi]; rfl
  have e2 : (l.map iV).set i (iV v) = (l.set i v).map iV := by rw [List.map_set]
  simp only [storeP, cellsP, List.length_cons, List.length_nil, lg_at, List.length_map, e, Option.bind_some]
  rw [← lg_set p r l (l.set i v) .rw .rw, ← e2]
  rfl
theorem rf_idx {b lo n v i : Nat} (hi : i < n) : indexAddrP 1 (.ref b lo n v 1) (.int .i64 (i : Int)) = some (.lptr b (lo + i) 0 v 1) := by
  simp only [indexAddrP]
  rw [if_pos ⟨by omega, by omega, trivial⟩, Int.toNat_natCast]
theorem rf_len {b lo n v : Nat} : lenP false (.ref b lo n v 1) = some (.int .i64 (n : Int)) := by simp only [lenP]
theorem rf_lo {b n v k : Nat} (hk : k < n) : sliceP 1 (.ref b 0 n v 1) (some (.int .i64 (k : Int))) none none = some (.ref b k (n - k) v 1) := by
  simp only [sliceP, boundP, if_true, Option.bind_some]
  rw [if_pos ⟨by omega, by omega⟩, Option.bind_some, Int.toNat_natCast, if_neg (by omega), Nat.zero_add]
theorem rf_hi {b n v k : Nat} (h0 : 0 < k) (hk : k ≤ n) : sliceP 1 (.ref b 0 n v 1) none (some (.int .i64 (k : Int))) none = some (.ref b 0 k v 1) := by
  simp only [sliceP, boundP, if_true, Option.bind_some]
  rw [if_pos ⟨by omega, by omega⟩, Option.bind_some, Int.toNat_natCast, if_neg (by omega), Nat.zero_add, Nat.sub_zero]
theorem lg_clear {p r : PHeap} {l : List Int} {k m n : Nat} (hn : n = l.length) (hk : k < m) (hm : m ≤ n) : clearP [.int .i64 0] (.ref p.length k (m - k) n 1) (lg p r l .rw) = some (undefP, lg p r (l.take k ++ List.replicate (m - k) 0 ++ l.drop m) .rw) := by
  subst hn
  simp only [clearP, lg_at, List.length_map]
  rw [if_pos ⟨trivial, rfl, trivial, by omega, by omega, rfl⟩]
  rw [← lg_set p r l (l.take k ++ List.replicate (m - k) 0 ++ l.drop m) .rw .rw]
  congr 3
  rw [show k + (m - k) = m by omega, List.map_append, List.map_append, List.map_take, List.map_drop, List.map_replicate]
  rfl
theorem pure_ints (l : List Int) : ((l.map iV).flatten).all pure1 = true := by
  rw [List.all_eq_true]
  intro x hx
  rw [List.mem_flatten] at hx
  obtain ⟨r, hr, hx⟩ := hx
  rw [List.mem_map] at hr
  obtain ⟨z, _, rfl⟩ := hr
  have : x = .int .i64 z := by simpa [iV] using hx
  subst this
  rfl
theorem fin_keep1 {h0 h' : PHeap} {b lo n v sz : Nat} (hl : h'.length = h0.length) : finP [.raw] h0 h' [.ref b lo n v sz] = some (.ref b lo n v sz, h') := by
  rw [fin_def]
  simp only [fzL, fz, Option.bind_some, Option.map_some, trim_len _ hl]
  rfl
theorem i_pred {i : Nat} (h : i < 9223372036854775807) : IntKind.i64.wrap (((i + 1 : Nat) : Int) - 1) = (i : Int) := by rw [wrap64 (by unfold isI64; omega)]; omega
theorem neqI {l : List Int} {j : Nat} {x y : Int} (hx : l[j + 1]? = some x) (hy : l[j]? = some y) : keepAt l (j + 1) = (x != y) := by
  unfold keepAt
  rw [show j + 1 - 1 = j from rfl, getD_of hx, getD_of hy]
  simp
theorem c106 (p r : PHeap) (l : List Int) (hm : l.length < 4294967297) : ∃ l', l'.length = l.length ∧ l'.take (ddN l l.length).length = ddN l l.length ∧ Γ0 106 [.ref p.length 0 l.length l.length 1] (lg p r l .rw) = some (.ref p.length 0 (ddN l l.length).length l.length 1, lg p r l' .rw) := by
  by_cases h0 : l.length = 0
  · obtain rfl := List.eq_nil_of_length_eq_zero h0
    refine ⟨[], rfl, rfl, gbody (F := A106) (by kernel_rfl) 1 ?_⟩
    rw [s106_eq]; unfold s106
    simp only [words, ↓KLn, Nat.reduceAdd, List.length_nil, rf_len]
    have e : decide (((0 : Nat) : Int) < 2) = true := by decide
    simp only [e, if_true]
    rw [fin_keep1 rfl]
    rfl
  obtain ⟨N, hN⟩ : ∃ N : Nat, l.length < N := ⟨_, Nat.lt_succ_self _⟩
  by_cases h1 : l.length < 2
  · have hone : ∀ j, j < l.length → keepAt l j = true := fun j hj => by
      have : j = 0 := by omega
      subst this
      rfl
    have hd := ddN_all (Nat.le_refl _) hone
    rw [List.take_length] at hd
    refine ⟨l, rfl, by rw [hd, List.take_length], gbody (F := A106) (by kernel_rfl) 1 ?_⟩
    rw [s106_eq]; unfold s106
    have e : decide ((l.length : Int) < 2) = true := by rw [decide_eq_true_eq]; omega
    simp only [words, ↓KLn, Nat.reduceAdd, rf_len, e, if_true]
    rw [fin_keep1 rfl, hd]
  · have stp : ∀ (j : Nat) (K : List PV → PHeap → Pt) (j5 : List PV → PHeap → Pt), j + 1 < l.length → keepAt l (j + 1) = true → s106_L1 Γ0 N (.ref p.length 0 l.length l.length 1) (lg p r l .rw) (lg p r l .rw) j5 K [.int .i64 ((j + 1 : Nat) : Int)] (lg p r l .rw) = K [.int .i64 ((j + 1 + 1 : Nat) : Int)] (lg p r l .rw) := fun j K j5 hj hk => by
      obtain ⟨x, hx⟩ := lt_l hj
      obtain ⟨y, hy⟩ := lt_l (show j < l.length by omega)
      have hne := (neqI hx hy).symm.trans hk
      have hxy : (x == y) = false := by simpa [bne] using hne
      unfold s106_L1
      simp only [words, ↓KLn, Nat.reduceAdd, rf_len, ltT hj, decide_true, if_true, rf_idx hj, i_pred (show j < 9223372036854775807 by omega), rf_idx (show j < l.length by omega), Nat.zero_add, lg_load rfl hx, lg_load rfl hy, hxy, Bool.false_eq_true, if_false, succ63 (show j + 1 < 9223372036854775807 by omega), trim_self]
    by_cases hall : ∀ j, j < l.length → keepAt l j = true
    · have hd := ddN_all (Nat.le_refl _) hall
      rw [List.take_length] at hd
      refine ⟨l, rfl, by rw [hd, List.take_length], gbody (F := A106) (by kernel_rfl) N ?_⟩
      rw [s106_eq]; unfold s106
      have e : decide ((l.length : Int) < 2) = false := by rw [decide_eq_false_iff_not]; omega
      simp only [words, ↓KLn, Nat.reduceAdd, rf_len, e, Bool.false_eq_true, if_false]
      refine loop_pure (fun i => [.int .i64 ((i + 1 : Nat) : Int)]) (l.length - 1) (by omega) rfl (fun i hi K => ?_) fun K => ?_
      · exact stp i K _ (by omega) (hall _ (by omega))
      · unfold s106_L1
        have e2 : decide (((l.length - 1 + 1 : Nat) : Int) < (l.length : Int)) = false := by rw [decide_eq_false_iff_not]; omega
        simp only [words, ↓KLn, Nat.reduceAdd, rf_len, e2, Bool.false_eq_true, if_false]
        rw [fin_keep1 rfl, hd]
    · obtain ⟨k, hk, hbad, hfirst⟩ : ∃ k, k < l.length ∧ keepAt l k = false ∧ ∀ j, j < k → keepAt l j = true := by
        have : ∃ k, k < l.length ∧ keepAt l k = false := Classical.byContradiction fun hn => hall fun j hj => by
          cases hh : keepAt l j with
          | true => rfl
          | false => exact absurd ⟨j, hj, hh⟩ hn
        obtain ⟨k, h1, h2⟩ := this
        induction k using Nat.strongRecOn with
        | ind k ih =>
          by_cases hx : ∃ j, j < k ∧ keepAt l j = false
          · obtain ⟨j, h3, h4⟩ := hx
            exact ih j h3 (by omega) h4
          · exact ⟨k, h1, h2, fun j hj => by
              cases hh : keepAt l j with
              | true => rfl
              | false => exact absurd ⟨j, hj, hh⟩ hx⟩
      obtain ⟨k, rfl⟩ : ∃ q, k = q + 1 := ⟨k - 1, by
        have : k ≠ 0 := by rintro rfl; cases hbad
        omega⟩
      have hdk : ddN l (k + 1) = l.take (k + 1) := ddN_all (by omega) hfirst
      have hdl : (ddN l (k + 1)).length = k + 1 := by rw [hdk, List.length_take]; omega
      have hd2 : ddN l (k + 1 + 1) = ddN l (k + 1) := by rw [ddN_succ, if_neg (by rw [hbad]; decide)]
      have hin : ∀ m, k + 1 < m → (ddN l m).length < m := ddN_lt hbad
      have hout0 : outN l (k + 1 + 1) = l := by unfold outN; rw [hd2, hdl, hdk, List.take_append_drop]
      have htk0 : ((outN l l.length).take (ddN l l.length).length) = ddN l l.length := by unfold outN; exact List.take_left
      have hol0 : (outN l l.length).length = l.length := outN_len (Nat.le_refl _)
      have hle0 := ddN_le l l.length
      refine ⟨(outN l l.length).take (ddN l l.length).length ++ List.replicate (l.length - (ddN l l.length).length) 0 ++ (outN l l.length).drop l.length, ?_, ?_, gbody (F := A106) (by kernel_rfl) N ?_⟩
      · rw [List.length_append, List.length_append, List.length_take, List.length_replicate, List.length_drop]; omega
      · rw [List.append_assoc, List.take_append_of_le_length (by rw [htk0]; exact Nat.le_refl _), List.take_take, Nat.min_self, htk0]
      rw [s106_eq]; unfold s106
      have e : decide ((l.length : Int) < 2) = false := by rw [decide_eq_false_iff_not]; omega
      simp only [words, ↓KLn, Nat.reduceAdd, rf_len, e, Bool.false_eq_true, if_false]
      refine loop_until (fun i => Nat.beq i k) (fun i => [.int .i64 ((i + 1 : Nat) : Int)]) (fun _ => lg p r l .rw) (k + 1) (by omega) rfl rfl (fun i hi hb K => ?_) (fun i hi hb hj K => ?_) (fun hj K => ?_)
      · have : i ≠ k := by rintro rfl; rw [Nat.beq_refl] at hb; cases hb
        exact stp i K _ (by omega) (hfirst _ (by omega))
      · obtain rfl := Nat.eq_of_beq_eq_true hb
        obtain ⟨x, hx⟩ := lt_l hk
        obtain ⟨y, hy⟩ := lt_l (show i < l.length by omega)
        have hne := (neqI hx hy).symm.trans hbad
        have hxy : (x == y) = true := by simpa [bne] using hne
        unfold s106_L1
        simp only [words, ↓KLn, Nat.reduceAdd, rf_len, ltT hk, decide_true, if_true, rf_idx hk, i_pred (show i < 9223372036854775807 by omega), rf_idx (show i < l.length by omega), Nat.zero_add, lg_load rfl hx, lg_load rfl hy, hxy, rf_lo hk]
        refine loop_run (fun j => [.int .i64 (((ddN l (i + 2 + j)).length : Nat) : Int), .int .i64 ((j + 1 : Nat) : Int)]) (fun j => lg p r (outN l (i + 2 + j)) .rw) (l.length - (i + 2)) (by omega) (by simp only [Nat.add_zero, hd2, hdl]; rfl) (by simp only [Nat.add_zero, hout0]) (fun j hj K => ?_) fun K => ?_
        · have hmlt : i + 2 + j < l.length := by omega
          obtain ⟨x, hx⟩ := lt_l hmlt
          obtain ⟨y, hy⟩ := lt_l (show i + 1 + j < l.length by omega)
          have hlt := hin (i + 2 + j) (by omega)
          have hol : l.length = (outN l (i + 2 + j)).length := (outN_len (by omega)).symm
          have gx : (outN l (i + 2 + j))[i + 1 + (j + 1)]? = some x := by
            rw [outN_get (by omega), show i + 1 + (j + 1) = i + 2 + j by omega]; exact hx
          have gy : (outN l (i + 2 + j))[i + 1 + j]? = some y := by rw [outN_get (by omega)]; exact hy
          have hk2 : keepAt l (i + 2 + j) = (x != y) := by
            have := neqI (l := l) (j := i + 1 + j) (x := x) (y := y) (by rw [show i + 1 + j + 1 = i + 2 + j by omega]; exact hx) hy
            rw [show i + 1 + j + 1 = i + 2 + j by omega] at this
            exact this
          unfold s106_L0
          simp only [words, ↓KLn, Nat.reduceAdd, nth_one, rf_len, ltT (show j + 1 < l.length - (i + 1) by omega), decide_true, if_true, rf_idx (show j + 1 < l.length - (i + 1) by omega), i_pred (show j < 9223372036854775807 by omega), rf_idx (show j < l.length - (i + 1) by omega), lg_load hol gx, lg_load hol gy]
          rw [show i + 2 + (j + 1) = i + 2 + j + 1 by omega]
          cases hc : (x != y) with
          | true =>
            have hkp := hk2.trans hc
            have e5 : (ddN l (i + 2 + j + 1)).length = (ddN l (i + 2 + j)).length + 1 := by rw [ddN_succ, if_pos hkp, List.length_append]; rfl
            have e6 : outN l (i + 2 + j + 1) = (outN l (i + 2 + j)).set (ddN l (i + 2 + j)).length x := by rw [← outN_keep hmlt hkp hlt, getD_of hx]
            simp only [words, ↓KLn, Nat.reduceAdd, if_true, lg_load hol gx, rf_idx (show j + 1 < l.length - (i + 1) by omega), rf_idx (show (ddN l (i + 2 + j)).length < l.length by omega), Nat.zero_add, lg_store hol (show (ddN l (i + 2 + j)).length < (outN l (i + 2 + j)).length by omega), bS, nth_zero, nth_one, succ63 (show (ddN l (i + 2 + j)).length < 9223372036854775807 by omega), succ63 (show j + 1 < 9223372036854775807 by omega), e5, e6]
            rw [trim_len _ (by rw [lg_len, lg_len])]
          | false =>
            have hkp := hk2.trans hc
            have e5 : (ddN l (i + 2 + j + 1)).length = (ddN l (i + 2 + j)).length := by rw [ddN_succ, if_neg (by rw [hkp]; decide)]
            simp only [words, ↓KLn, Nat.reduceAdd, Bool.false_eq_true, if_false, bS, nth_zero, nth_one, succ63 (show j + 1 < 9223372036854775807 by omega), e5, outN_drop hkp]
            rw [trim_len _ (by rw [lg_len, lg_len])]
        · have em : i + 2 + (l.length - (i + 2)) = l.length := by omega
          have hlt := hin l.length (by omega)
          have hpos : 0 < (ddN l l.length).length := ddN_pos (by omega)
          have hol : l.length = (outN l l.length).length := (outN_len (Nat.le_refl _)).symm
          have htk : ((outN l l.length).take (ddN l l.length).length) = ddN l l.length := by unfold outN; exact List.take_left
          have e2 : decide (((l.length - (i + 2) + 1 : Nat) : Int) < ((l.length - (i + 1) : Nat) : Int)) = false := by rw [decide_eq_false_iff_not]; omega
          simp only [em]
          unfold s106_L0
          simp only [words, ↓KLn, Nat.reduceAdd, nth_one, rf_len, e2, Bool.false_eq_true, if_false, rf_lo hlt, lg_clear hol hlt (Nat.le_refl _), rf_hi hpos (Nat.le_of_lt hlt)]
          rw [fin_keep1 (by rw [lg_len, lg_len])]
      · exact absurd (hj k (by omega)) (by rw [Nat.beq_refl]; decide)
end Go.Vm.X


set_option linter.unusedSimpArgs false
set_option linter.unusedVariables false
namespace Go.Vm.X
open Go.Am Go.Vm
attribute [local congr] bind_c ifP_c loop_c K1_c ite_c fork_c guard_c unl_c
theorem c144 (p r : PHeap) (l : List Int) : Γ0 144 [.ref p.length 0 l.length l.length 1] (lg p r l .rw) = some (undefP, lg p r (srt l) .rw) := by
  refine prun_base rfl (by kernel_rfl) ?_
  have e0 : ∀ args h, orP (idxP 171) (sortP 144) 144 args h = sortP 144 144 args h := fun args h => by
    unfold orP idxP
    simp only [show Nat.beq 144 171 = false from rfl, cond_false, Option.none_or]
  rw [e0]
  unfold sortP
  simp only [Nat.beq_refl, cond_true]
  by_cases h0 : l.length = 0
  · obtain rfl := List.eq_nil_of_length_eq_zero h0
    rw [if_pos h0]
    have : srt [] = [] := List.eq_nil_of_length_eq_zero (srt_len [])
    rw [this]
  · rw [if_neg h0, lg_at]
    have e1 : (l.map iV).flatten = l.map (PV.int .i64) := flat_ones l
    simp only [List.length_map]
    rw [if_pos ⟨trivial, trivial, trivial, trivial, trivial, by omega⟩, e1, intsP_map, Option.map_some]
    rw [← lg_set p r l (srt l) .rw .rw]
    rfl
theorem chunk1 (v : PV) : chunk 1 1 [v] = [[v]] := nr rfl
theorem all_int (k : IntKind) (v : Int) : [PV.int k v].all pure1 = true := nr rfl
theorem lt_iVs (n : Nat) (L : List Int) (t : TypeId) (md : Md) : ltB n (.log (L.map iV) 1 t md) := by
  intro x hx
  rw [List.mem_flatten] at hx
  obtain ⟨r, hr, hx⟩ := hx
  rw [List.mem_map] at hr
  obtain ⟨z, _, rfl⟩ := hr
  have : x = .int .i64 z := by simpa [iV] using hx
  subst this
  simp only [ltV]
theorem trim_to {g g' rest : PHeap} {r : List PV} (hl : g'.length = g.length) (hr : ∀ v ∈ r, ltV g.length v) (hk : ∀ k, k < g.length → g'[k]? = g[k]? ∨ ∃ blk, g'[k]? = some blk ∧ ltB g.length blk) : trim g r (g' ++ rest) = g' := by
  unfold trim
  have hc : (∀ v ∈ r, ltV g.length v) ∧ ∀ b, b < g.length → (g' ++ rest)[b]? = g[b]? ∨ ∃ blk, (g' ++ rest)[b]? = some blk ∧ ltB g.length blk := ⟨hr, fun b hb => by
    rw [List.getElem?_append_left (by omega)]
    exact hk b hb⟩
  rw [if_pos hc, ← hl, List.take_left]
theorem keep_app {h a a' : PHeap} (hl : a'.length = a.length) (hb : ∀ blk ∈ a', ltB (h ++ a).length blk) (k : Nat) (hk : k < (h ++ a).length) : (h ++ a')[k]? = (h ++ a)[k]? ∨ ∃ blk, (h ++ a')[k]? = some blk ∧ ltB (h ++ a).length blk := by
  by_cases h1 : k < h.length
  · left
    rw [List.getElem?_append_left h1, List.getElem?_append_left h1]
  · right
    rw [List.length_append] at hk
    rw [List.getElem?_append_right (by omega)]
    obtain ⟨blk, e⟩ : ∃ blk, a'[k - h.length]? = some blk := ⟨_, List.getElem?_eq_getElem (by omega)⟩
    exact ⟨blk, e, hb _ (List.mem_of_getElem? e)⟩
theorem grow_nil (el : TypeId) (h : PHeap) : growP .nilS el 1 h = some (.ref h.length 0 0 0 1, h ++ [.log [] 1 el .rw]) := nr rfl
theorem begin2 {h l : PHeap} {a b : PBlk} {vals : List PV} {lv ps : List Nat} {ab bb : PCode} {pend : Option AExit} : beginRoundP (h.length + 2) (h ++ a :: b :: .loop vals lv ps ab bb .ready pend .rw :: l) = some (h ++ a :: b :: .loop vals lv ps ab bb .busy pend .rw :: l) := by
  unfold beginRoundP
  rw [get_new]
  simp only [List.getElem?_cons_succ, List.getElem?_cons_zero]
  rw [set_new]
  rfl
theorem end2 {h l : PHeap} {a b : PBlk} {vals : List PV} {lv ps : List Nat} {ab bb : PCode} {pend : Option AExit} : endRoundP (h.length + 2) .normal (h ++ a :: b :: .loop vals lv ps ab bb .busy pend .rw :: l) = some (.bool true, h ++ a :: b :: .loop vals lv ps ab bb .ready none .rw :: l) := by
  unfold endRoundP
  rw [get_new]
  simp only [List.getElem?_cons_succ, List.getElem?_cons_zero]
  rw [set_new]
  rfl
theorem pend2 {h l : PHeap} {a b : PBlk} {vals : List PV} {lv ps : List Nat} {ab bb : PCode} {pend : Option AExit} : pendOfP (h.length + 2) (h ++ a :: b :: .loop vals lv ps ab bb .ready pend .rw :: l) = some pend := by
  unfold pendOfP
  rw [get_new]
  rfl
theorem dead2 {h l : PHeap} {a b c : PBlk} : (h ++ a :: b :: c :: l).set (h.length + 2) .dead = h ++ a :: b :: .dead :: l := by
  rw [set_new]
  rfl
theorem end_none {R : Type} (A : Option R) (X : Nat → Option R) (r : Option R) : endF none A X r = A := nr rfl
def hA (h : PHeap) (L : List Int) : PHeap := h ++ [.log (L.map iV) 1 3 .rw, .box [.ref h.length 0 L.length L.length 1] 22 .rw, .loop [.ptr (h.length + 1) 0] [2] [7] L167_0a L167_0b .ready none .rw]
theorem app0 {h l : PHeap} {L : List Int} {x : Int} (hm : L.length < 4294967296) : appendP 3 1 (.ref h.length 0 L.length L.length 1) (.frz 1 [[.int .i64 x]]) (h ++ .log (L.map iV) 1 3 .rw :: l) = some (.ref h.length 0 (L.length + 1) (L.length + 1) 1, h ++ .log ((L ++ [x]).map iV) 1 3 .rw :: l) := by
  have := append_one (h := h) (l := .log (L.map iV) 1 3 .rw :: l) (k := 0) (rows := L.map iV) (v := .int .i64 x) (t := 3) L.length (by simp) rfl rfl (by simpa [mostLen] using hm)
  rw [List.map_append]
  exact this
theorem lt_loop (n m : Nat) (lv ps : List Nat) (a b : PCode) (st : LSt) (pend : Option AExit) (md : Md) (h : m < n) : ltB n (.loop [.ptr m 0] lv ps a b st pend md) := by
  intro x hx
  simp only [List.mem_singleton] at hx
  subst hx
  simp only [ltV]
  exact h
theorem lt_boxr (n m lo k v sz : Nat) (t : TypeId) (md : Md) (h : m < n) : ltB n (.box [.ref m lo k v sz] t md) := by
  intro x hx
  simp only [List.mem_singleton] at hx
  subst hx
  simp only [ltV]
  exact h
theorem sinkA (h : PHeap) : Sink (h.length + 2) (fun L => L.length ≤ 4294967296) (hA h) where
  len := fun L => by simp [hA]
  keep := fun L L' k hk => by
    have e : (hA h []).length = (hA h L).length := by simp [hA]
    rw [e] at hk ⊢
    refine keep_app (by simp) (fun blk hb => ?_) k hk
    simp only [List.mem_cons, List.not_mem_nil, or_false] at hb
    rcases hb with rfl | rfl | rfl
    · exact lt_iVs _ _ _ _
    · exact lt_boxr _ _ _ _ _ _ _ _ (by simp)
    · exact lt_loop _ _ _ _ _ _ _ _ _ (by simp)
  pre := fun A B hab => by
    simp only [List.length_append] at hab ⊢
    omega
  yld := fun L x rest hok => by
    have hm : L.length < 4294967296 := by
      simp only [List.length_append, List.length_cons, List.length_nil] at hok
      omega
    have hg : (hA h L ++ rest)[h.length + 2]? = some (.loop [.ptr (h.length + 1) 0] [2] [7] L167_0a L167_0b .ready none .rw) := by
      unfold hA
      rw [List.append_assoc, get_new]
      rfl
    refine gbody_round 1 ((r167_0_eq Γ0 1 _ _ _ _ none .rw hg).trans ?_)
    unfold r167_0 hA
    simp only [List.append_assoc, List.cons_append, List.nil_append]
    have hl : ∀ l, loadP false 1 (.ptr (h.length + 1) 0) (h ++ .log (L.map iV) 1 3 .rw :: .box [.ref h.length 0 L.length L.length 1] 22 .rw :: l) = some (.ref h.length 0 L.length L.length 1) := fun l => by
      rw [load_box]
      unfold boxAt
      rw [get_new]
      rfl
    have hs : ∀ (q : PBlk) (l : PHeap), storeP 1 (.ptr (h.length + 1) 0) (.ref h.length 0 (L.length + 1) (L.length + 1) 1) (h ++ q :: .box [.ref h.length 0 L.length L.length 1] 22 .rw :: l) = some (h ++ q :: .box [.ref h.length 0 (L.length + 1) (L.length + 1) 1] 22 .rw :: l) := fun q l => by
      unfold storeP
      simp only [get_new, List.getElem?_cons_succ, List.getElem?_cons_zero, set_new]
      rfl
    simp only [begin2, bS, ↓KLn, hl, fill_int, all_int, chunk1, app0 hm, hs, end2, mapS, forkN, guardW]
    rw [trim_len _ (by simp)]
    simp
end Go.Vm.X


set_option linter.unusedSimpArgs false
set_option linter.unusedVariables false
namespace Go.Vm.X
open Go.Am Go.Vm
attribute [local congr] bind_c ifP_c loop_c K1_c ite_c fork_c guard_c unl_c
def bxA (h : PHeap) (n : Nat) : PBlk := .box [.ref h.length 0 n n 1] 22 .rw
theorem src_run {h : PHeap} {g : PV} {items : List Int} (S : Src h g items) (hm : items.length ≤ 4294967296) : callFP Γ0 g [.yield (h.length + 2)] (hA h []) = some (undefP, hA h items) := by
  have := S (h.length + 2) _ (hA h) [] (sinkA h) (fun M k hk => by unfold hA; rw [List.getElem?_append_left hk]) (by simpa using hm)
  simpa using this
theorem fin_rawK {h l : PHeap} {k n v sz : Nat} : finP [.raw] h (h ++ l) [.ref h.length k n v sz] = some (.ref h.length k n v sz, h ++ l) := by
  rw [fin_def]
  simp only [fzL, fz, Option.bind_some, Option.map_some]
  unfold trim
  rw [if_neg]
  · rfl
  · intro hh
    have := hh.1 (.ref h.length k n v sz) (by simp)
    simp only [ltV] at this
    omega
theorem c167 {h : PHeap} {g : PV} {items : List Int} (S : Src h g items) (hm : items.length ≤ 4294967296) : Γ0 167 [.nilS, g] h = some (.ref h.length 0 items.length items.length 1, lg h [bxA h items.length] items .rw) := by
  refine gbody (F := A167) (by kernel_rfl) 1 ?_
  rw [s167_eq]; unfold s167
  have hr := src_run S hm
  unfold hA at hr
  simp only [List.map_nil, List.length_nil] at hr
  have ht : trim (h ++ [.log [] 1 3 .rw, .box [.ref h.length 0 0 0 1] 22 .rw]) [] (h ++ [.log (items.map iV) 1 3 .rw, .box [.ref h.length 0 items.length items.length 1] 22 .rw, .dead]) = h ++ [.log (items.map iV) 1 3 .rw, .box [.ref h.length 0 items.length items.length 1] 22 .rw] := by
    have := trim_to (g := h ++ [.log [] 1 3 .rw, .box [.ref h.length 0 0 0 1] 22 .rw]) (g' := h ++ [.log (items.map iV) 1 3 .rw, .box [.ref h.length 0 items.length items.length 1] 22 .rw]) (r := []) (rest := [.dead]) (by simp) (by simp) (keep_app (by simp) (fun blk hb => by
      simp only [List.mem_cons, List.not_mem_nil, or_false] at hb
      rcases hb with rfl | rfl
      · exact lt_iVs _ _ _ _
      · exact lt_boxr _ _ _ _ _ _ _ _ (by simp)))
    simpa using this
  have hl : loadP false 1 (.ptr (h.length + 1) 0) (h ++ [.log (items.map iV) 1 3 .rw, .box [.ref h.length 0 items.length items.length 1] 22 .rw]) = some (.ref h.length 0 items.length items.length 1) := by
    rw [load_box]
    unfold boxAt
    rw [get_new]
    rfl
  simp only [grow_nil, bS, forkN, cells_ref, List.append_assoc, List.cons_append, List.nil_append, List.length_append, List.length_cons, List.length_nil, Nat.zero_add, Nat.reduceAdd, ↓KLn, hr, pend2, dead2, end_none, ht, hl, fin_rawK]
  rfl
theorem c143 {h : PHeap} {g : PV} {items : List Int} (S : Src h g items) (hm : items.length ≤ 4294967296) : Γ0 143 [g] h = some (.ref h.length 0 items.length items.length 1, lg h [bxA h items.length] items .rw) := by
  refine gbody (F := A143) (by kernel_rfl) 1 ?_
  rw [s143_eq]; unfold s143
  simp only [c167 S hm, bS]
  exact fin_rawK
theorem c105 {h : PHeap} {g : PV} {items : List Int} (S : Src h g items) (hm : items.length ≤ 4294967296) : Γ0 105 [g] h = some (.ref h.length 0 items.length items.length 1, lg h [bxA h items.length] (srt items) .rw) := by
  refine gbody (F := A105) (by kernel_rfl) 1 ?_
  rw [s105_eq]; unfold s105
  simp only [c143 S hm, c144, bS]
  exact fin_rawK
def dd (l : List Int) : List Int := ddN (srt l) (srt l).length
theorem fin_lgK {h r : PHeap} {l : List Int} {k n : Nat} (hn : n = l.length) (hk : k ≤ n) : finP [.flat 1] h (lg h r l .rw) [.ref h.length 0 k n 1] = some (ints (l.take k), h) := by
  subst hn
  by_cases h0 : k = 0
  · subst h0
    unfold lg
    exact fin_new (show fzL [.flat 1] _ _ = some ([ints []], _) from by simp only [fzL, fz, if_true, Option.bind_some, Option.map_some]; rfl) (by simp [ltV, ints])
  · have e : fz (.flat 1) (.ref h.length 0 k l.length 1) (lg h r l .rw) = some (ints (l.take k), lg h r l .ro) := by
      rw [fz, if_neg h0, lg_at]
      simp only [List.length_map, List.drop_zero, lg_set]
      rw [← List.map_take, if_pos ⟨trivial, trivial, by omega, pure_ints _⟩]
      rfl
    exact fin_new (l := .log (l.map iV) 1 3 .ro :: r) (show fzL [.flat 1] _ _ = some ([ints (l.take k)], _) from by simp only [fzL, e, Option.bind_some, Option.map_some]; rfl) (by simp [ltV, ints])
theorem c60 {h : PHeap} {g : PV} {items : List Int} (S : Src h g items) (hm : items.length ≤ 4294967296) : Γ0 60 [g] h = some (ints (dd items), h) := by
  refine gbody (F := A60) (by kernel_rfl) 1 ?_
  rw [s60_eq]; unfold s60
  obtain ⟨l', e1, e2, e3⟩ := c106 h [bxA h items.length] (srt items) (by rw [srt_len]; omega)
  rw [srt_len] at e3 e2
  simp only [c105 S hm, bS, e3]
  rw [fin_lgK (by rw [e1, srt_len]) (by have := ddN_le (srt items) items.length; omega), e2]
  unfold dd
  rw [srt_len]
def cn (l : List Cell) : List Int := (l.map Cell.inst).filter fun x => decide (x > 0)
theorem cn_snoc (l : List Cell) (c : Cell) : cn (l ++ [c]) = if c.inst > 0 then cn l ++ [c.inst] else cn l := by
  unfold cn
  rw [List.map_append, List.filter_append]
  by_cases h : c.inst > 0 <;> simp [h]
def cnAt (s : Sng) (p : Int) : List Int := cn (s.pats.getD p.toNat (0, [])).2
theorem c41 (s : Sng) (h : PHeap) : Γ0 41 [.agg s.cs] h = some (.func 94 [] [.ptr h.length 0], h ++ [.box s.cs 27 .rw]) := by
  refine gbody (F := A41) (by kernel_rfl) 1 ?_
  rw [s41_eq]; unfold s41
  simp only [words, ↓KLn, Nat.reduceAdd]
  rw [fin_def]
  simp only [fzL, fz, Option.bind_some, Option.map_some]
  unfold trim
  rw [if_neg]
  · rfl
  · intro hh
    have := hh.1 _ (List.mem_singleton.2 rfl)
    simp [ltV] at this
theorem c43 (s : Sng) (g : PV) (hg : cellsP g = [g]) (h : PHeap) : Γ0 43 [.agg s.cs, g] h = some (.func 96 [] [.ptr (h.length + 1) 0, .ptr h.length 0], h ++ [.box s.cs 27 .rw, .box [g] 77 .rw]) := by
  refine gbody (F := A43) (by kernel_rfl) 1 ?_
  rw [s43_eq]; unfold s43
  simp only [words, ↓KLn, Nat.reduceAdd, hg]
  rw [fin_def]
  simp only [fzL, fz, Option.bind_some, Option.map_some]
  unfold trim
  rw [if_neg]
  · rfl
  · intro hh
    have := hh.1 _ (List.mem_singleton.2 rfl)
    simp [ltV] at this
end Go.Vm.X


set_option linter.unusedSimpArgs false
set_option linter.unusedVariables false
namespace Go.Vm.X
open Go.Am Go.Vm
attribute [local congr] bind_c ifP_c loop_c K1_c ite_c fork_c guard_c unl_c
theorem ltV_mono {n m : Nat} (h : n ≤ m) : ∀ v : PV, ltV n v → ltV m v
  | .ptr b o, hv => by simp only [ltV] at hv ⊢; omega
  | .ref b lo k v sz, hv => by simp only [ltV] at hv ⊢; omega
  | .lptr b i o v sz, hv => by simp only [ltV] at hv ⊢; omega
  | .map b, hv => by simp only [ltV] at hv ⊢; omega
  | .yield b, hv => by simp only [ltV] at hv ⊢; omega
  | .func f xs ys, hv => by
    simp only [ltV] at hv ⊢
    exact ⟨fun x hx => ltV_mono h x (hv.1 x hx), fun x hx => ltV_mono h x (hv.2 x hx)⟩
  | .iface t v, hv => by
    simp only [ltV] at hv ⊢
    exact ltV_mono h v hv
  | .agg cs, hv => by
    simp only [ltV] at hv ⊢
    exact fun x hx => ltV_mono h x (hv x hx)
  | .tuple cs, hv => by
    simp only [ltV] at hv ⊢
    exact fun x hx => ltV_mono h x (hv x hx)
  | .junk, _ => by simp only [ltV]
  | .int _ _, _ => by simp only [ltV]
  | .bool _, _ => by simp only [ltV]
  | .str _, _ => by simp only [ltV]
  | .nilS, _ => by simp only [ltV]
  | .nilP, _ => by simp only [ltV]
  | .nilM, _ => by simp only [ltV]
  | .nilF, _ => by simp only [ltV]
  | .nilI, _ => by simp only [ltV]
  | .emp, _ => by simp only [ltV]
  | .frz _ _, _ => by simp only [ltV]
  | .fptr _ _, _ => by simp only [ltV]
theorem ltB_mono {n m : Nat} (h : n ≤ m) : ∀ {b : PBlk}, ltB n b → ltB m b
  | .box _ _ _, hb => fun x hx => ltV_mono h x (hb x hx)
  | .log _ _ _ _, hb => fun x hx => ltV_mono h x (hb x hx)
  | .map _ _, hb => fun x hx => ⟨ltV_mono h _ (hb x hx).1, ltV_mono h _ (hb x hx).2⟩
  | .loop _ _ _ _ _ _ _ _, hb => fun x hx => ltV_mono h x (hb x hx)
  | .dead, _ => trivial
theorem Sink.keep2 {b : Nat} {ok : List Int → Prop} {H : List Int → PHeap} (s : Sink b ok H) (L L' : List Int) (t : PHeap) (k : Nat) (hk : k < (H L ++ t).length) : (H L' ++ t)[k]? = (H L ++ t)[k]? ∨ ∃ blk, (H L' ++ t)[k]? = some blk ∧ ltB (H L ++ t).length blk := by
  have e : (H L').length = (H L).length := by rw [s.len L, s.len L']
  by_cases h1 : k < (H L).length
  · rw [List.getElem?_append_left (by omega), List.getElem?_append_left h1]
    rcases s.keep L L' k (by rw [← s.len L]; exact h1) with h | ⟨blk, h2, h3⟩
    · exact .inl h
    · exact .inr ⟨blk, h2, ltB_mono (by rw [List.length_append, s.len L]; omega) h3⟩
  · left
    rw [List.getElem?_append_right (by omega), List.getElem?_append_right (by omega), e]
theorem Sink.trim3 {b : Nat} {ok : List Int → Prop} {H : List Int → PHeap} (s : Sink b ok H) (L L' : List Int) (t rest : PHeap) {r : List PV} (hr : ∀ v ∈ r, ∀ n, ltV n v) : Go.Vm.trim (H L ++ t) r (H L' ++ (t ++ rest)) = H L' ++ t := by
  rw [← List.append_assoc]
  exact trim_to (by simp [s.len L, s.len L']) (fun v hv => hr v hv _) fun k hk => s.keep2 L L' t k hk
theorem begin1 {g l : PHeap} {a : PBlk} {n : Nat} (hn : n = g.length + 1) {vals : List PV} {lv ps : List Nat} {ab bb : PCode} {pend : Option AExit} : beginRoundP n (g ++ a :: .loop vals lv ps ab bb .ready pend .rw :: l) = some (g ++ a :: .loop vals lv ps ab bb .busy pend .rw :: l) := by
  subst hn
  unfold beginRoundP
  rw [get_new]
  simp only [List.getElem?_cons_succ, List.getElem?_cons_zero]
  rw [set_new]
  rfl
theorem end1 {g l : PHeap} {a : PBlk} {n : Nat} (hn : n = g.length + 1) {vals : List PV} {lv ps : List Nat} {ab bb : PCode} {pend : Option AExit} : endRoundP n .normal (g ++ a :: .loop vals lv ps ab bb .busy pend .rw :: l) = some (.bool true, g ++ a :: .loop vals lv ps ab bb .ready none .rw :: l) := by
  subst hn
  unfold endRoundP
  rw [get_new]
  simp only [List.getElem?_cons_succ, List.getElem?_cons_zero]
  rw [set_new]
  rfl
theorem pend1 {g l : PHeap} {a : PBlk} {n : Nat} (hn : n = g.length + 1) {vals : List PV} {lv ps : List Nat} {ab bb : PCode} {pend : Option AExit} : pendOfP n (g ++ a :: .loop vals lv ps ab bb .ready pend .rw :: l) = some pend := by
  subst hn
  unfold pendOfP
  rw [get_new]
  rfl
theorem dead1 {g l : PHeap} {a c : PBlk} {n : Nat} (hn : n = g.length + 1) : (g ++ a :: c :: l).set n .dead = g ++ a :: .dead :: l := by
  subst hn
  rw [set_new]
  rfl
theorem cells_yield (b : Nat) : cellsP (.yield b) = [.yield b] := nr rfl
theorem cell_st (c : Cell) (vs : List PV) (t : TypeId) (l : PHeap) : storeP 6 (.ptr 0 0) (.agg c.cs) (.box vs t .rw :: l) = (putAt vs 0 c.cs).map fun vs' => .box vs' t .rw :: l := storeC0 rfl (by decide)
theorem cell_all (c : Cell) : partP true 0 6 c.cs = some (.agg c.cs) := part_all rfl
theorem cell_put (c : Cell) (a b d e f g : PV) : putAt [a, b, d, e, f, g] 0 c.cs = some c.cs := put_whole rfl rfl
theorem src_cells {h : PHeap} {k1 k2 : Nat} {s : Sng} {g : PV} {ps : List Int} (e1 : boxAt h k1 = some [g]) (e2 : boxAt h k2 = some s.cs) (hl : ∀ p ∈ s.pats, p.2.length < 9223372036854775808) (S : Src h g ps) (hp : ∀ p ∈ ps, 0 ≤ p ∧ p < s.pats.length) : Src h (.func 96 [] [.ptr k1 0, .ptr k2 0]) (ps.flatMap (cnAt s)) := by
  intro b ok H L Sk hH hok
  rw [callF_func Γ0 96]
  show Γ0 96 [.yield b, .ptr k1 0, .ptr k2 0] (H L) = _
  have hlen : ∀ M M', (H M).length = (H M').length := fun M M' => by rw [Sk.len M, Sk.len M']
  have hb : ∀ M l, boxAt (H M ++ l) k2 = some s.cs := fun M l => by
    refine box_app ?_ l
    rw [← e2]
    exact box_eq (hH M k2 (box_lt e2))
  have hb1 : ∀ M l, boxAt (H M ++ l) k1 = some [g] := fun M l => by
    refine box_app ?_ l
    rw [← e1]
    exact box_eq (hH M k1 (box_lt e1))
  obtain ⟨H2, hH2⟩ : ∃ H2 : List Int → PHeap, H2 = fun M => H (L ++ M.flatMap (cnAt s)) ++ [.box [.yield b] 85 .rw, .loop [.ptr k2 0, .ptr (H L).length 0] [2, 3] [8] L96_0a L96_0b .ready none .rw] := ⟨_, rfl⟩
  have S2 : Sink ((H L).length + 1) (fun M => ok (L ++ M.flatMap (cnAt s)) ∧ ∀ p ∈ M, 0 ≤ p ∧ p < s.pats.length) H2 := by
    constructor
    · intro M; simp only [hH2, List.length_append, hlen (L ++ M.flatMap (cnAt s)) (L ++ [].flatMap (cnAt s))]
    · rintro M p rest ⟨ho, hv⟩
      obtain ⟨hv0, hv1⟩ := hv p (by simp)
      obtain ⟨i, rfl⟩ : ∃ i : Nat, p = (i : Int) := ⟨p.toNat, by omega⟩
      obtain ⟨pt, hpt⟩ := lt_l (show i < s.pats.length by omega)
      have hml := hl pt (List.mem_of_getElem? hpt)
      have hcn : cnAt s (i : Int) = cn pt.2 := by unfold cnAt; rw [Int.toNat_natCast, getD_of hpt]
      rw [List.flatMap_append, ← List.append_assoc, List.flatMap_singleton, hcn] at ho
      subst hH2
      have hg : (H (L ++ M.flatMap (cnAt s)) ++ [.box [.yield b] 85 .rw, .loop [.ptr k2 0, .ptr (H L).length 0] [2, 3] [8] L96_0a L96_0b .ready none .rw] ++ rest)[(H L).length + 1]? = some (.loop [.ptr k2 0, .ptr (H L).length 0] [2, 3] [8] L96_0a L96_0b .ready none .rw) := by
        rw [List.append_assoc, hlen L (L ++ M.flatMap (cnAt s)), get_new]
        rfl
      refine gbody_round (pt.2.length + 1) ((r96_0_eq Γ0 _ _ _ _ _ _ none .rw hg).trans ?_)
      unfold r96_0
      simp only [List.append_assoc, List.cons_append, List.nil_append]
      generalize hX : L ++ M.flatMap (cnAt s) = X at *
      have hn : ∀ Y, (H L).length + 1 = (H Y).length + 1 := fun Y => by rw [hlen L Y]
      have hld : ∀ l, loadP false 1 (.ptr k2 10) (H X ++ l) = some (patsPV s.pats) := fun l => box_load1 (hb X l) (sc10 s)
      have hw : ∀ Y l, loadP false 1 (.ptr (H L).length 0) (H Y ++ .box [.yield b] 85 .rw :: l) = some (.yield b) := fun Y l => by
        rw [load_box]
        unfold boxAt
        rw [hlen L Y, show (H Y).length = (H Y).length + 0 from rfl, get_new]
        rfl
      simp only [begin1 (hn X), bS, fieldW, Nat.zero_add, hld, idx_pats _ hpt, load_fptr, partC, pc1, len_cells, ↓KLn]
      refine loop_run (fun j => [.int .i64 (j : Int)]) (fun j => H (X ++ cn (pt.2.take j)) ++ .box [.yield b] 85 .rw :: .loop [.ptr k2 0, .ptr (H L).length 0] [2, 3] [8] L96_0a L96_0b .busy none .rw :: rest) pt.2.length (by omega) rfl (by simp [cn]) (fun j hj K => ?_) fun K => ?_
      · obtain ⟨c, hc⟩ := lt_l hj
        have ht : pt.2.take (j + 1) = pt.2.take j ++ [c] := take_succ_get hc
        unfold r96_0_L0
        obtain ⟨tl, htl⟩ : ∃ tl : PHeap, tl = .box [.yield b] 85 .rw :: .loop [.ptr k2 0, .ptr (H L).length 0] [2, 3] [8] L96_0a L96_0b .busy none .rw :: rest := ⟨_, rfl⟩
        have htr : ∀ Y (cb : PBlk) v, (∀ n, ltV n v) → Go.Vm.trim (H X ++ tl) [v] (H Y ++ (tl ++ [cb])) = H Y ++ tl := fun Y cb v hv => Sk.trim3 X Y tl [cb] (fun w hw => by rw [List.mem_singleton] at hw; subst hw; exact hv)
        have hlt : ∀ (z : Int) n, ltV n (.int .i64 z) := fun z n => by simp only [ltV]
        rw [← htl]
        rw [ht, cn_snoc]
        have hw2 : ∀ l, loadP false 1 (.ptr (H L).length 0) (H (X ++ cn (pt.2.take j)) ++ tl ++ l) = some (.yield b) := fun l => by
          rw [htl, List.append_assoc, List.cons_append]; exact hw _ _
        obtain ⟨g0, hg0⟩ : ∃ g0 : PHeap, g0 = H (X ++ cn (pt.2.take j)) ++ tl := ⟨_, rfl⟩
        have htr0 : ∀ (cb : PBlk) v, (∀ n, ltV n v) → Go.Vm.trim (H X ++ tl) [v] (g0 ++ [cb]) = g0 := fun cb v hv => by
          rw [hg0, List.append_assoc]
          exact htr _ cb v hv
        rw [← hg0] at hw2 ⊢
        by_cases hpos : c.inst > 0
        · have hy : ∀ cb : PBlk, Γ0 yieldId [.ptr b 0, .int .i64 c.inst] (g0 ++ [cb]) = some (.bool true, H (X ++ (cn (pt.2.take j) ++ [c.inst])) ++ (tl ++ [cb])) := fun cb => by
            have := Sk.yld (X ++ cn (pt.2.take j)) c.inst (tl ++ [cb]) (by
              have e : cn pt.2 = cn (pt.2.take j ++ [c] ++ pt.2.drop (j + 1)) := by rw [← ht, List.take_append_drop]
              have e3 : cn (pt.2.take j ++ [c] ++ pt.2.drop (j + 1)) = cn (pt.2.take j ++ [c]) ++ cn (pt.2.drop (j + 1)) := by unfold cn; rw [List.map_append, List.filter_append]
              rw [e, e3, cn_snoc, if_pos hpos] at ho
              have ho2 := ho
              rw [← List.append_assoc, ← List.append_assoc] at ho2
              exact Sk.pre _ _ ho2)
            rw [hg0, List.append_assoc, this, List.append_assoc]
          rw [if_pos hpos]
          simp only [words, ↓KLn, Nat.reduceAdd, List.length_map, ↓K1n, sc_and, ltT hj, decide_true, if_true, idx_cells _ hc, cell_all, cell_st, cell_put, cc1, hpos, hw2, callV_yield, hy, Bool.not_true, Bool.false_eq_true, if_false, succ63 (show j < 9223372036854775807 by omega), htr _ _ _ (hlt _)]
        · rw [if_neg hpos]
          simp only [words, ↓KLn, Nat.reduceAdd, List.length_map, ↓K1n, sc_and, ltT hj, decide_true, if_true, idx_cells _ hc, cell_all, cell_st, cell_put, cc1, hpos, decide_false, Bool.false_eq_true, if_false, succ63 (show j < 9223372036854775807 by omega), htr0 _ _ (hlt _)]
          rw [hg0]
      · unfold r96_0_L0
        simp only [words, ↓KLn, Nat.reduceAdd, List.length_map, ltF, decide_false, Bool.false_eq_true, if_false, List.take_length, end1 (hn _), mapS]
        rw [trim_len _ (by simp [hlen (X ++ cn pt.2) X]), List.flatMap_append, List.flatMap_singleton, hcn, ← List.append_assoc, hX]
    · intro M M' k hk
      subst hH2
      simp only at hk ⊢
      have e0 : (H (L ++ [].flatMap (cnAt s))).length = (H (L ++ M.flatMap (cnAt s))).length := hlen _ _
      rw [List.length_append, e0, ← List.length_append] at hk
      have := Sk.keep2 (L ++ M.flatMap (cnAt s)) (L ++ M'.flatMap (cnAt s)) _ k hk
      rw [List.length_append, ← e0, ← List.length_append] at this
      exact this
    · rintro A B ⟨h1, h2⟩
      refine ⟨?_, fun p hp => h2 p (List.mem_append_left _ hp)⟩
      rw [List.flatMap_append, ← List.append_assoc] at h1
      exact Sk.pre _ _ h1
  have hrun := S _ _ H2 [] S2 (fun M k hk => by
    subst hH2
    have : k < (H (L ++ M.flatMap (cnAt s))).length := (List.getElem?_eq_some_iff.1 ((hH _ k hk).trans (List.getElem?_eq_getElem hk))).1
    rw [List.getElem?_append_left this]
    exact hH _ k hk) (by simpa using ⟨hok, hp⟩)
  subst hH2
  refine gbody (F := A96) (by kernel_rfl) 1 ?_
  rw [s96_eq]; unfold s96
  simp only [List.nil_append, List.flatMap_nil, List.append_nil] at hrun
  have hg1 : ∀ l, loadP false 1 (.ptr k1 0) (H L ++ l) = some g := fun l => box_load1 (hb1 L l) rfl
  have hn : (H L).length + 1 = (H (L ++ ps.flatMap (cnAt s))).length + 1 := by rw [hlen L]
  simp only [bS, forkN, cells_yield, hg1, List.length_append, List.length_cons, List.length_nil, Nat.zero_add, List.append_assoc, List.cons_append, List.nil_append, hrun, pend1 hn, dead1 hn, end_none, ↓KLn]
  have ht := Sk.trim3 L (L ++ ps.flatMap (cnAt s)) [.box [.yield b] 85 .rw] [.dead] (r := []) (by simp)
  simp only [List.cons_append, List.nil_append] at ht
  rw [ht, fin_unit, Sk.trim _ _ (by simp)]
end Go.Vm.X


set_option linter.unusedSimpArgs false
set_option linter.unusedVariables false
namespace Go.Vm.X
open Go.Am Go.Vm
attribute [local congr] bind_c ifP_c loop_c K1_c ite_c fork_c guard_c unl_c
def playL (i : Ins) (own : Int) (m : Nat) : List Int := ((List.range m).map fun (n : Nat) => (keyV i (n : Int) own).2).filter fun s => decide (s > 0)
theorem playL_succ (i : Ins) (own : Int) (m : Nat) : playL i own (m + 1) = if (keyV i (m : Int) own).2 > 0 then playL i own m ++ [(keyV i (m : Int) own).2] else playL i own m := by
  unfold playL
  rw [List.range_succ, List.map_append, List.filter_append]
  split
  · rename_i h; simp [h]
  · rename_i h; simp [h]
theorem playL_le (i : Ins) (own : Int) (m : Nat) : (playL i own m).length ≤ m := by
  unfold playL
  exact Nat.le_trans (List.length_filter_le _ _) (by simp)
theorem lg2 (h : PHeap) (b : PBlk) (l : List Int) : h ++ [b, .log (l.map iV) 1 3 .rw] = lg (h ++ [b]) [] l .rw := by unfold lg; simp
theorem pext0 (p : Int × Int) : extractP (pairV p) 0 = some (.int .i64 p.1) := nr rfl
theorem pext1 (p : Int × Int) : extractP (pairV p) 1 = some (.int .i64 p.2) := nr rfl
theorem app_ints (h : PHeap) (b : PBlk) (l : List Int) (v : Int) (hm : l.length < 4294967296) : appendP 3 1 (.ref (h.length + 1) 0 l.length l.length 1) (.frz 1 [[.int .i64 v]]) (h ++ [b, .log (l.map iV) 1 3 .rw]) = some (.ref (h.length + 1) 0 (l.length + 1) (l.length + 1) 1, h ++ [b, .log ((l ++ [v]).map iV) 1 3 .rw]) := by
  rw [append_one (k := 1) (rows := l.map iV) l.length (by simp) rfl rfl (by simpa [mostLen] using hm)]
  simp [iV]
theorem fin_nilL (h l : PHeap) : finP [.flat 1] h (h ++ l) [.nilS] = some (ints [], h) := fin_new (show fzL [.flat 1] [.nilS] (h ++ l) = some ([ints []], h ++ l) from by simp only [fzL, fz, Option.bind_some, Option.map_some]; rfl) (by simp [ltV, ints])
theorem fin_intsL (h l : PHeap) (xs : List Int) : finP [.flat 1] h (h ++ l) [ints xs] = some (ints xs, h) := fin_new (show fzL [.flat 1] [ints xs] (h ++ l) = some ([ints xs], h ++ l) from by simp only [fzL, fz, ints, Option.bind_some, Option.map_some]) (by simp [ltV, ints])
theorem trim2 (h : PHeap) (a b c d : PBlk) (r : List PV) : trim (h ++ [a, b]) r (h ++ [c, d]) = h ++ [c, d] := trim_len _ (by simp)
theorem fin_rawKj {h l : PHeap} {j k n v sz : Nat} : finP [.raw] h (h ++ l) [.ref (h.length + j) k n v sz] = some (.ref (h.length + j) k n v sz, h ++ l) := by
  rw [fin_def]
  simp only [fzL, fz, Option.bind_some, Option.map_some]
  unfold trim
  rw [if_neg]
  · rfl
  · intro hh
    have := hh.1 (.ref (h.length + j) k n v sz) (by simp)
    simp only [ltV] at this
    omega
def smpV (i : Ins) (own : Int) : List Int := dd (playL i own 120)
theorem c108 (i : Ins) (hl : InsLen i) (hv : insOK i = true) (own : Int) (h : PHeap) : ∃ l', l'.length = (playL i own 120).length ∧ l'.take (smpV i own).length = smpV i own ∧ (smpV i own).length ≤ l'.length ∧ Γ0 108 [.agg i.cs, .int .i64 own] h = some (.ref (h.length + 1) 0 (smpV i own).length l'.length 1, lg (h ++ [.box i.cs 57 .rw]) [] l' .rw) := by
  obtain ⟨N, hN⟩ : ∃ N : Nat, 120 < N := ⟨121, by omega⟩
  have hle := playL_le i own 120
  obtain ⟨l', g1, g2, hb⟩ := c106 (h ++ [.box i.cs 57 .rw]) [] (srt (playL i own 120)) (by rw [srt_len]; omega)
  refine ⟨l', by rw [g1, srt_len], g2, ?_, ?_⟩
  · rw [g1]; exact ddN_le _ _
  refine gbody (F := A108) (by kernel_rfl) N ?_
  rw [s108_eq]; unfold s108
  simp only [words, ↓KLn, Nat.reduceAdd, ic_whole, c127 i hl, hv, Bool.not_true, Bool.false_eq_true, if_false, if_true]
  refine loop_run (fun m => [.ref (h.length + 1) 0 (playL i own m).length (playL i own m).length 1, .int .i64 (m : Int)]) (fun m => h ++ [.box i.cs 57 .rw, .log ((playL i own m).map iV) 1 3 .rw]) 120 hN rfl rfl (fun m hm K => ?_) fun K => ?_
  · unfold s108_L0
    have hle := playL_le i own m
    have e1 : decide ((m : Int) < 120) = true := by rw [decide_eq_true_eq]; omega
    simp only [words, ↓KLn, Nat.reduceAdd, nth_one, e1, if_true, ic_whole, c111 i hl, pext0, pext1]
    rw [playL_succ]
    by_cases hp : (keyV i (m : Int) own).2 > 0
    · simp only [words, ↓KLn, Nat.reduceAdd, nth_one, hp, decide_true, if_true, fill_int, chunk1, all_int, app_ints _ _ _ _ (show (playL i own m).length < 4294967296 by omega), succ63 (show m < 9223372036854775807 by omega), trim2, List.length_append]
      rfl
    · simp only [words, ↓KLn, Nat.reduceAdd, nth_one, hp, decide_false, if_false, Bool.false_eq_true, succ63 (show m < 9223372036854775807 by omega), trim2]
  · unfold s108_L0
    have e1 : decide (((120 : Nat) : Int) < 120) = false := by decide
    have e2 : (h ++ [PBlk.box i.cs 57 .rw]).length = h.length + 1 := by simp
    have e3 := c144 (h ++ [.box i.cs 57 .rw]) [] (playL i own 120)
    rw [e2] at e3 hb
    rw [srt_len] at hb
    rw [g1, srt_len]
    simp only [words, ↓KLn, Nat.reduceAdd, nth_one, e1, Bool.false_eq_true, if_false]
    rw [lg2, e3]
    simp only [bS, hb]
    unfold smpV dd
    rw [srt_len]
    unfold lg
    rw [List.append_assoc]
    exact fin_rawKj
theorem scal_i (k : IntKind) (n : Int) : scal (.int k n) = true := nr rfl
theorem box_lock (g : PHeap) (k : Nat) : boxAt (lock g) k = boxAt g k := by
  unfold boxAt lock
  rw [List.getElem?_map]
  cases g[k]? with
  | none => rfl
  | some b =>
    cases b with
    | box vs t md => cases md <;> rfl
    | log r s e md => cases md <;> rfl
    | map es md => cases md <;> rfl
    | loop a b c d e f g md => cases md <;> rfl
    | dead => rfl
theorem c109 {s : Sng} {g : PHeap} {k : Nat} (e : boxAt g k = some s.cs) (x : Int) : Γ0 109 [.int .i64 x, .ptr k 0] g = some (.bool (decide (x > (s.smps.length : Int))), g) := by
  refine gbody (F := A109) (by kernel_rfl) 1 ?_
  rw [s109_eq]; unfold s109
  simp only [bS, fieldW, Nat.zero_add, box_load1 e (sc11 s), len_smps, bin_gtr, fin_bool0]
theorem fz_lg {p r : PHeap} {l : List Int} {k n : Nat} (hn : n = l.length) (hk : k ≤ n) : ∃ md, fz (.flat 1) (.ref p.length 0 k n 1) (lg p r l .rw) = some (ints (l.take k), lg p r l md) := by
  subst hn
  by_cases h0 : k = 0
  · subst h0
    exact ⟨.rw, by simp only [fz, if_true]; rfl⟩
  · refine ⟨.ro, ?_⟩
    rw [fz, if_neg h0, lg_at]
    simp only [List.length_map, List.drop_zero, lg_set]
    rw [← List.map_take, if_pos ⟨trivial, trivial, by omega, pure_ints _⟩]
    rfl
theorem box_lg {p r : PHeap} {l l' : List Int} {md md' : Md} {k : Nat} {vs : List PV} (e : boxAt (lg p r l md) k = some vs) : boxAt (lg p r l' md') k = some vs := by
  rw [← e]
  unfold boxAt lg
  by_cases h : k = p.length
  · subst h
    exfalso
    unfold boxAt lg at e
    rw [List.getElem?_append_right (Nat.le_refl _), Nat.sub_self] at e
    cases e
  · have : (p ++ PBlk.log (l'.map iV) 1 3 md' :: r)[k]? = (p ++ PBlk.log (l.map iV) 1 3 md :: r)[k]? := by
      by_cases h1 : k < p.length
      · rw [List.getElem?_append_left h1, List.getElem?_append_left h1]
      · rw [List.getElem?_append_right (by omega), List.getElem?_append_right (by omega)]
        obtain ⟨j, hj⟩ : ∃ j, k - p.length = j + 1 := ⟨k - p.length - 1, by omega⟩
        rw [hj]
        rfl
    rw [this]
theorem fin_lgF {p : PHeap} {l : List Int} {k n : Nat} (hn : n = l.length) (hk : k ≤ n) : ∃ blk, finP [.flat 1] (lg p [] l .rw) (lg p [] l .rw) [.ref p.length 0 k n 1] = some (ints (l.take k), p ++ [blk]) := by
  obtain ⟨md, e⟩ := fz_lg (p := p) (r := []) hn hk
  refine ⟨.log (l.map iV) 1 3 md, ?_⟩
  rw [fin_def]
  simp only [fzL, e, Option.bind_some, Option.map_some]
  rw [trim_len _ (by simp [lg_len])]
  rfl
theorem c107 {s : Sng} {p : PHeap} {l : List Int} {k n kk : Nat} (hn : n = l.length) (hk : k ≤ n) (hm : n < 4294967296) (e : boxAt (lg p [] l .rw) kk = some s.cs) (hc : (∀ x ∈ l.take k, ¬ x > (s.smps.length : Int)) ∨ k = 1 ∧ ∃ x, l.take k = [x] ∧ x > (s.smps.length : Int)) :
    ∃ blk, Γ0 107 [.ref p.length 0 k n 1, .func 109 [] [.ptr kk 0]] (lg p [] l .rw) = some (ints ((l.take k).filter fun x => decide (x ≤ (s.smps.length : Int))), p ++ [blk]) := by
  obtain ⟨md, ez⟩ := fz_lg (p := p) (r := []) hn hk
  have hf : ∀ x, callVP Γ0 (.func 109 [] [.ptr kk 0]) [.int .i64 x] (lock (lg p [] l md)) = some (.bool (decide (x > (s.smps.length : Int))), lock (lg p [] l md)) := fun x => by
    rw [callV_func Γ0 109]
    exact c109 (by rw [box_lock]; exact box_lg e) x
  have hi := c121 (l := l.take k) (f := .func 109 [] [.ptr kk 0]) (by rw [List.length_take]; omega) hf
  rcases hc with hg | ⟨rfl, x, hx, hbad⟩
  · obtain ⟨blk, hfin⟩ := fin_lgF (p := p) hn hk
    refine ⟨blk, gbody (F := A107) (by kernel_rfl) 1 ?_⟩
    rw [s107_eq]; unfold s107
    have hnone : firstI (fun x => decide (x > (s.smps.length : Int))) (l.take k) = -1 := by
      obtain ⟨j, h1, h2, h3⟩ := first_at (fun x => decide (x > (s.smps.length : Int))) (l.take k)
      rcases h3 with ⟨_, h4, _⟩ | ⟨c, h3, h4, _⟩
      · exact h4
      · exact absurd (List.mem_of_getElem? h3) (fun hm => by
          have := hg c hm
          simp [this] at h4)
    have hflt : (l.take k).filter (fun x => decide (x ≤ (s.smps.length : Int))) = l.take k := by
      rw [List.filter_eq_self]
      intro a ha
      have := hg a ha
      simp only [decide_eq_true_eq]
      omega
    have e1 : ((-1 : Int) == -1) = true := rfl
    rw [hflt]
    simp only [ez, bS, hi, hnone, scal_i, guardW, bin_eql, e1, ↓KLn, ifW, if_true, hfin]
  · refine ⟨.log ((l.take 0 ++ List.replicate (1 - 0) 0 ++ l.drop 1).map iV) 1 3 .rw, gbody (F := A107) (by kernel_rfl) 2 ?_⟩
    rw [s107_eq]; unfold s107
    have hone : firstI (fun x => decide (x > (s.smps.length : Int))) (l.take 1) = 0 := by
      rw [hx]; simp [firstI, hbad]
    have hflt : (l.take 1).filter (fun x => decide (x ≤ (s.smps.length : Int))) = [] := by
      rw [hx]
      simp
      omega
    have e1 : ((0 : Int) == -1) = false := rfl
    have e2 : ((0 : Int) + 1) = 1 := rfl
    have w1 : IntKind.i64.wrap (0 + 1) = 1 := by decide
    have hcl := lg_clear (p := p) (r := []) (l := l) (k := 0) (m := 1) (n := n) hn (by omega) hk
    have hlo : sliceP 1 (.ref p.length 0 1 n 1) (some (.int .i64 0)) none none = some (.ref p.length 0 (1 - 0) n 1) := nr rfl
    have hhi : sliceP 1 (.ref p.length 0 1 n 1) none (some (.int .i64 0)) none = some (.frz 1 []) := nr rfl
    rw [hflt]
    simp only [ez, bS, hi, hone, scal_i, guardW, bin_eql, e1, ↓KLn, ifW, Bool.false_eq_true, if_false, bin_add, w1]
    unfold loopP s107_L0
    have e3 : decide ((1 : Int) < ((1 : Nat) : Int)) = false := by decide
    simp only [bS, nth_zero, nth_one, rf_len, bin_lss, e3, ↓KLn, ifW, Bool.false_eq_true, if_false, hlo, hcl, hhi]
    rw [fin_def]
    simp only [fzL, fz, Option.bind_some, Option.map_some]
    rw [trim_len _ (by simp [lg_len])]
    rfl
end Go.Vm.X



/- The samples that an instrument plays: the reference. -/
set_option linter.unusedSimpArgs false
set_option linter.unusedVariables false
namespace Go.Vm.X
open Go.Am Go.Vm
attribute [local congr] bind_c ifP_c loop_c K1_c ite_c fork_c guard_c unl_c
def seenK (ks : List (Int × Int)) (s : Int) : Bool := ks.any fun k => k.2 == s
def sn (ks : List (Int × Int)) : List PV := (List.range 32).map fun (s : Nat) => .bool (seenK ks (s : Int))
theorem sn_nil : sn [] = Z32 := by kernel_rfl
theorem sn_len (ks : List (Int × Int)) : (sn ks).length = 32 := by simp [sn]
theorem sn_get (ks : List (Int × Int)) {s : Nat} (h : s < 32) : (sn ks)[s]? = some (.bool (seenK ks (s : Int))) := by simp [sn, h]
theorem sn_put (ks : List (Int × Int)) {k : Int × Int} {s : Nat} (e : k.2 = (s : Int)) (h : s < 32) : putAt (sn ks) s [.bool true] = some (sn (ks ++ [k])) := by
  unfold putAt
  rw [if_pos ⟨by rw [sn_len]; simp; omega, rfl⟩]
  congr 1
  apply List.ext_getElem?
  intro j
  by_cases hj : j < 32
  · rw [sn_get _ hj]
    have e2 : seenK (ks ++ [k]) (j : Int) = (seenK ks (j : Int) || decide (s = j)) := by
      unfold seenK
      rw [List.any_append]
      congr 1
      simp only [List.any_cons, List.any_nil, Bool.or_false, e]
      by_cases q : s = j <;> simp [q]
      omega
    rw [e2]
    by_cases h1 : j < s
    · rw [List.append_assoc, List.getElem?_append_left (by rw [List.length_take, sn_len]; omega), List.getElem?_take_of_lt h1, sn_get _ hj, decide_eq_false (by omega), Bool.or_false]
    · by_cases h2 : j = s
      · subst h2
        rw [List.append_assoc, List.getElem?_append_right (by rw [List.length_take, sn_len]; omega), List.length_take, sn_len, show j - min j 32 = 0 by omega, decide_eq_true rfl, Bool.or_true]
        rfl
      · rw [List.getElem?_append_right (by rw [List.length_append, List.length_take, sn_len]; simp; omega), List.getElem?_drop, List.length_append, List.length_take, sn_len]
        rw [show s + [PV.bool true].length + (j - (min s 32 + [PV.bool true].length)) = j by simp; omega, sn_get _ hj, decide_eq_false (by omega), Bool.or_false]
  · rw [List.getElem?_eq_none (by simp [sn_len]; omega), List.getElem?_eq_none (by rw [sn_len]; omega)]
theorem arr_idx {b : Nat} {s : Nat} (h : s < 32) : indexAddrArrP 32 1 (.ptr b 0) (.int .i64 (s : Int)) = some (.ptr b s) := by
  simp only [indexAddrArrP]
  rw [if_pos ⟨by omega, by omega⟩, Int.toNat_natCast]
  simp only [fieldAddrP, Nat.mul_one, Nat.zero_add]
def outR (i : Ins) (j : Nat) : List Int := ((List.range j).map fun (s : Nat) => ((s + 1 : Nat) : Int)).filter (seenK i.keys)
theorem outR_succ (i : Ins) (j : Nat) : outR i (j + 1) = if seenK i.keys ((j + 1 : Nat) : Int) = true then outR i j ++ [((j + 1 : Nat) : Int)] else outR i j := by
  unfold outR
  rw [List.range_succ, List.map_append, List.filter_append]
  cases h : seenK i.keys ((j + 1 : Nat) : Int) with
  | true => simp only [List.map_cons, List.map_nil, List.filter_cons, h, if_true, List.filter_nil]
  | false => simp only [List.map_cons, List.map_nil, List.filter_cons, h, if_false, List.filter_nil, List.append_nil, Bool.false_eq_true]
theorem outR_le (i : Ins) (m : Nat) : (outR i m).length ≤ m := by
  unfold outR
  exact Nat.le_trans (List.length_filter_le _ _) (by simp)
def refV (i : Ins) (own : Int) : List Int := if insOK i = true then (if i.keys.length = 0 then (if own > 0 then [own] else []) else outR i 31) else []
theorem app_ints3 (h : PHeap) (a b : PBlk) (l : List Int) (v : Int) (hm : l.length < 4294967296) : appendP 3 1 (.ref (h.length + 2) 0 l.length l.length 1) (.frz 1 [[.int .i64 v]]) (h ++ [a, b, .log (l.map iV) 1 3 .rw]) = some (.ref (h.length + 2) 0 (l.length + 1) (l.length + 1) 1, h ++ [a, b, .log ((l ++ [v]).map iV) 1 3 .rw]) := by
  rw [append_one (k := 2) (rows := l.map iV) l.length (by simp) rfl rfl (by simpa [mostLen] using hm)]
  simp [iV]
theorem trim3 (h : PHeap) (a b c a' b' c' : PBlk) (r : List PV) : trim (h ++ [a, b, c]) r (h ++ [a', b', c']) = h ++ [a', b', c'] := trim_len _ (by simp)
theorem fin_log3 {h : PHeap} {a b : PBlk} {l : List Int} : finP [.flat 1] h (h ++ [a, b, .log (l.map iV) 1 3 .rw]) [.ref (h.length + 2) 0 l.length l.length 1] = some (ints l, h) := by
  by_cases h0 : l.length = 0
  · obtain rfl := List.eq_nil_of_length_eq_zero h0
    exact fin_new (show fzL [.flat 1] _ _ = some ([ints []], h ++ [a, b, .log [] 1 3 .rw]) from by simp only [fzL, fz, List.length_nil, if_true, Option.bind_some, Option.map_some]; rfl) (by simp [ltV, ints])
  · have e := fz_logF (h := h) (l := [a, b, .log (l.map iV) 1 3 .rw]) (k := 2) (sz := 1) (s := 1) (t := 3) (rows := l.map iV) rfl (by simpa using h0) (pure_ints l)
    rw [List.length_map] at e
    exact fin_new (show fzL [.flat 1] _ _ = some ([ints l], _) from by simp only [fzL, e, Option.bind_some, Option.map_some]; rfl) (by simp [ltV, ints])
theorem c64 (i : Ins) (hl : InsLen i) (own : Int) (h : PHeap) : Γ0 64 [.agg i.cs, .int .i64 own] h = some (ints (refV i own), h) := by
  obtain ⟨N, hN⟩ : ∃ N : Nat, 120 < N := ⟨121, by omega⟩
  refine gbody (F := A64) (by kernel_rfl) N ?_
  rw [s64_eq]; unfold s64 refV
  cases hv : insOK i with
  | false => simp only [words, ↓KLn, Nat.reduceAdd, ic_whole, c110 i hl, hv, Bool.not_false, if_true, fin_nilL, Bool.false_eq_true, if_false]
  | true =>
    by_cases h0 : i.keys.length = 0
    · have e0 : ((i.keys.length : Int) == 0) = true := by rw [beq_iff_eq]; omega
      by_cases ho : own > 0
      · simp only [words, ↓KLn, Nat.reduceAdd, ic_whole, c110 i hl, hv, Bool.not_true, Bool.false_eq_true, if_false, if_true, ic1, len_keys, e0, h0, ho, decide_true, fill_int, all_int, chunk1]
        exact fin_intsL h _ [own]
      · simp only [words, ↓KLn, Nat.reduceAdd, ic_whole, c110 i hl, hv, Bool.not_true, Bool.false_eq_true, if_false, if_true, ic1, len_keys, e0, if_pos h0, ho, decide_false, fin_nilL]
    · have e0 : ((i.keys.length : Int) == 0) = false := by rw [beq_eq_false_iff_ne]; omega
      have hk120 : i.keys.length = 120 := (keys_120 hv).resolve_left h0
      simp only [words, ↓KLn, Nat.reduceAdd, ic_whole, c110 i hl, hv, Bool.not_true, Bool.false_eq_true, if_false, if_true, ic1, len_keys, e0, h0]
      refine loop_run (fun m => [.int .i64 (m : Int)]) (fun m => h ++ [.box i.cs 57 .rw, .box (sn (i.keys.take m)) 135 .rw]) i.keys.length (by omega) rfl (by rw [List.take_zero, sn_nil]) (fun m hm K => ?_) fun K => ?_
      · obtain ⟨k, hk⟩ := lt_l hm
        have hr := keys_ok hv (List.mem_of_getElem? hk)
        obtain ⟨s, hs⟩ : ∃ s : Nat, k.2 = (s : Int) := ⟨k.2.toNat, by omega⟩
        unfold s64_L1
        simp only [words, ↓KLn, Nat.reduceAdd, ic1, len_keys, ltT hm, decide_true, if_true, idx_keys _ hk, kc1, hs, arr_idx (show s < 32 by omega), st1 (v := .bool true) rfl, sn_put _ hs (show s < 32 by omega), succ63 (show m < 9223372036854775807 by omega), trim2]
        rw [List.take_add_one, hk]
        rfl
      · unfold s64_L1
        simp only [words, ↓KLn, Nat.reduceAdd, ic1, len_keys, ltF, decide_false, Bool.false_eq_true, if_false, List.take_length]
        refine loop_run (fun m => [.ref (h.length + 2) 0 (outR i m).length (outR i m).length 1, .int .i64 ((m + 1 : Nat) : Int)]) (fun m => h ++ [.box i.cs 57 .rw, .box (sn i.keys) 135 .rw, .log ((outR i m).map iV) 1 3 .rw]) 31 (by omega) rfl rfl (fun m hm K => ?_) fun K => ?_
        · have hle := outR_le i m
          have e1 : decide (((m + 1 : Nat) : Int) ≤ 31) = true := by rw [decide_eq_true_eq]; omega
          unfold s64_L0
          simp only [words, ↓KLn, Nat.reduceAdd, nth_one, e1, if_true, arr_idx (show m + 1 < 32 by omega), sn_get _ (show m + 1 < 32 by omega)]
          rw [outR_succ]
          cases seenK i.keys ((m + 1 : Nat) : Int) with
          | true =>
            simp only [words, ↓KLn, Nat.reduceAdd, nth_one, if_true, fill_int, chunk1, all_int, app_ints3 _ _ _ _ _ (show (outR i m).length < 4294967296 by omega), succ63 (show m + 1 < 9223372036854775807 by omega), trim3, List.length_append]
            rfl
          | false => simp only [words, ↓KLn, Nat.reduceAdd, nth_one, if_false, Bool.false_eq_true, succ63 (show m + 1 < 9223372036854775807 by omega), trim3]
        · have e1 : decide (((31 + 1 : Nat) : Int) ≤ 31) = false := by decide
          unfold s64_L0
          simp only [words, ↓KLn, Nat.reduceAdd, nth_one, e1, Bool.false_eq_true, if_false, fin_log3]
theorem outR_sorted (i : Ins) (m : Nat) : (outR i m).Pairwise (· < ·) := by
  unfold outR
  refine List.Pairwise.filter _ ?_
  rw [List.pairwise_map]
  exact List.pairwise_lt_range.imp fun h => by omega
theorem seen_iff {i : Ins} {x : Int} : seenK i.keys x = true ↔ ∃ k, k ∈ i.keys ∧ k.2 = x := by
  unfold seenK
  rw [List.any_eq_true]
  constructor
  · rintro ⟨k, h1, h2⟩; exact ⟨k, h1, by simpa using h2⟩
  · rintro ⟨k, h1, h2⟩; exact ⟨k, h1, by simpa using h2⟩
theorem mem_play {i : Ins} {own x : Int} : x ∈ playL i own 120 ↔ x > 0 ∧ ∃ n : Nat, n < 120 ∧ (keyV i (n : Int) own).2 = x := by
  unfold playL
  rw [List.mem_filter, List.mem_map]
  constructor
  · rintro ⟨⟨n, h1, h2⟩, h3⟩
    exact ⟨by simpa using h3, n, by simpa using h1, h2⟩
  · rintro ⟨h3, n, h1, h2⟩
    exact ⟨⟨n, by simpa using h1, h2⟩, by simpa using h3⟩
theorem smp_same (i : Ins) (own : Int) (hv : insOK i = true) : smpV i own = refV i own := by
  unfold smpV refV dd
  · rw [if_pos hv]
    have hkv : ∀ n : Nat, n < 120 → keyV i (n : Int) own = keyAt i n own := fun n hn => by
      unfold keyV
      rw [if_pos ⟨hv, by omega, by omega⟩, Int.toNat_natCast]
    by_cases h0 : i.keys.length = 0
    · rw [if_pos h0]
      have hk : ∀ n : Nat, n < 120 → (keyV i (n : Int) own).2 = own := fun n hn => by rw [hkv n hn]; unfold keyAt; rw [if_pos h0]
      refine dd_srt (by split <;> simp) fun x => ?_
      rw [mem_play]
      constructor
      · rintro ⟨h1, n, h2, h3⟩
        rw [hk n h2] at h3
        subst h3
        rw [if_pos h1]
        simp
      · intro h
        split at h
        · rename_i ho
          have : x = own := by simpa using h
          subst this
          exact ⟨ho, 0, by omega, hk 0 (by omega)⟩
        · cases h
    · rw [if_neg h0]
      have h120 := (keys_120 hv).resolve_left h0
      refine dd_srt (outR_sorted i 31) fun x => ?_
      rw [mem_play]
      unfold outR
      rw [List.mem_filter, List.mem_map, seen_iff]
      constructor
      · rintro ⟨h1, n, h2, h3⟩
        obtain ⟨k, hk⟩ := lt_l (show n < i.keys.length by omega)
        rw [hkv n h2] at h3
        unfold keyAt at h3
        rw [if_neg h0, getD_of hk] at h3
        have := keys_ok hv (List.mem_of_getElem? hk)
        exact ⟨⟨x.toNat - 1, by rw [List.mem_range]; omega, by omega⟩, k, List.mem_of_getElem? hk, h3⟩
      · rintro ⟨⟨s, h1, h2⟩, k, h3, h4⟩
        obtain ⟨n, hn⟩ := List.getElem?_of_mem h3
        have hlt := (List.getElem?_eq_some_iff.1 hn).1
        refine ⟨by omega, n, by omega, ?_⟩
        rw [hkv n (by omega)]
        unfold keyAt
        rw [if_neg h0, getD_of hn]
        exact h4
end Go.Vm.X


set_option linter.unusedSimpArgs false
set_option linter.unusedVariables false
namespace Go.Vm.X
open Go.Am Go.Vm
attribute [local congr] bind_c ifP_c loop_c K1_c ite_c fork_c guard_c unl_c
theorem s_fz (s : Sng) (h : PHeap) : fz (.agg SA13) (.agg s.cs) h = some (.agg s.cs, h) := fz_aggI _ rfl
theorem fin_q1 {h l : PHeap} {d : Int} : finP [.keep] h (h ++ l) [.agg (qOf d)] = some (.agg (qOf d), h) := by
  refine fin_new (ws := [.agg (qOf d)]) (l := l) (by simp only [fzL_cons, fzL_nil, fz_keep, Option.bind_some, Option.map_some]) ?_
  intro v hv
  simp only [List.mem_singleton] at hv
  subst hv
  exact plainP_lt (qOf_cases (fun r => plainP (.agg r) = true) rfl rfl rfl rfl rfl rfl rfl _)
theorem c45 (s : Sng) (h : PHeap) : Γ0 45 [.agg s.cs] h = some (.agg (qOf s.dia), h) := by
  refine gbody (F := A45) (by kernel_rfl) 1 ?_
  rw [s45_eq]; unfold s45
  have hq := q_put s.dia (vs := Z29) rfl
  have hq2 := q_put s.dia (vs := qOf s.dia) (qOf_len _)
  simp only [words, ↓KLn, Nat.reduceAdd, sc1, c53, q_st, hq, hq2, q_whole]
  exact fin_q1
theorem ins_ok {s : Sng} (ok : SngOK s) {i : Ins} (hi : i ∈ s.inss) : insOK i = true ∧ ∀ k ∈ i.keys, ¬ k.2 > (s.smps.length : Int) := by
  have := ok.inss i hi
  unfold insCode at this
  split at this
  · cases this
  · rename_i h1
    split at this
    · cases this
    · rename_i h2
      refine ⟨by simpa using h1, fun k hk hh => h2 ?_⟩
      rw [List.any_eq_true]
      exact ⟨k, hk, by simpa using hh⟩
def leS (s : Sng) (x : Int) : Bool := decide (x ≤ (s.smps.length : Int))
def smpsOf (s : Sng) (n : Int) : List Int := match s.inss[n.toNat - 1]? with
  | some i => (smpV i n).filter (leS s)
  | none => []
theorem c62 {s : Sng} (hl : SngLen s) (ok : SngOK s) {n : Int} (h1 : 1 ≤ n) (h2 : n ≤ s.inss.length) (h : PHeap) : Γ0 62 [.agg s.cs, .int .i64 n] h = some (ints (smpsOf s n), h) := by
  obtain ⟨m, rfl⟩ : ∃ m : Nat, n = ((m + 1 : Nat) : Int) := ⟨n.toNat - 1, by omega⟩
  obtain ⟨i, hi⟩ := lt_l (show m < s.inss.length by omega)
  have hmem := List.mem_of_getElem? hi
  obtain ⟨hv, hk⟩ := ins_ok ok hmem
  have hil := hl.ins i hmem
  have hlen := playL_le i ((m + 1 : Nat) : Int) 120
  obtain ⟨l', e1, e2, e3, e4⟩ := c108 i hil hv ((m + 1 : Nat) : Int) (h ++ [.box s.cs 27 .rw])
  have hsame := smp_same i ((m + 1 : Nat) : Int) hv
  have hc : (∀ x ∈ l'.take (smpV i ((m + 1 : Nat) : Int)).length, ¬ x > (s.smps.length : Int)) ∨ (smpV i ((m + 1 : Nat) : Int)).length = 1 ∧ ∃ x, l'.take (smpV i ((m + 1 : Nat) : Int)).length = [x] ∧ x > (s.smps.length : Int) := by
    rw [e2, hsame]
    unfold refV
    rw [if_pos hv]
    by_cases h0 : i.keys.length = 0
    · rw [if_pos h0, if_pos (by omega)]
      by_cases hb : ((m + 1 : Nat) : Int) > (s.smps.length : Int)
      · exact .inr ⟨rfl, _, rfl, hb⟩
      · left
        intro x hx
        simp only [List.mem_singleton] at hx
        subst hx
        exact hb
    · rw [if_neg h0]
      left
      intro x hx
      unfold outR at hx
      rw [List.mem_filter, seen_iff] at hx
      obtain ⟨_, k, hk1, rfl⟩ := hx
      exact hk k hk1
  have hbox : boxAt (lg (h ++ [.box s.cs 27 .rw] ++ [.box i.cs 57 .rw]) [] l' .rw) h.length = some s.cs := by
    unfold lg boxAt
    simp
  obtain ⟨blk, e5⟩ := c107 (s := s) (p := h ++ [.box s.cs 27 .rw] ++ [.box i.cs 57 .rw]) (l := l') (k := (smpV i ((m + 1 : Nat) : Int)).length) (n := l'.length) (kk := h.length) rfl e3 (by omega) hbox hc
  have hout : (l'.take (smpV i ((m + 1 : Nat) : Int)).length).filter (fun x => decide (x ≤ (s.smps.length : Int))) = smpsOf s ((m + 1 : Nat) : Int) := by
    rw [e2]
    unfold smpsOf leS
    rw [Int.toNat_natCast, Nat.add_sub_cancel, hi]
  rw [hout] at e5
  have el : (h ++ [PBlk.box s.cs 27 .rw] ++ [PBlk.box i.cs 57 .rw]).length = h.length + 1 + 1 := by simp
  have el1 : (h ++ [PBlk.box s.cs 27 .rw]).length = h.length + 1 := by simp
  rw [el] at e5
  rw [el1] at e4
  refine gbody (F := A62) (by kernel_rfl) 1 ?_
  rw [s62_eq]; unfold s62
  simp only [words, ↓KLn, Nat.reduceAdd, sc12, i_pred (show m < 9223372036854775807 by have := hl.inss; omega), idx_inss _ hi, ins_fptr, fz_ins]
  rw [e4]
  simp only [bS]
  rw [e5]
  simp only [bS]
  rw [List.append_assoc, List.append_assoc, fin_intsL]
theorem yld0 {b : Nat} {ok : List Int → Prop} {H : List Int → PHeap} (S : Sink b ok H) (L : List Int) (x : Int) (h : ok (L ++ [x])) : Γ0 yieldId [.ptr b 0, .int .i64 x] (H L) = some (.bool true, H (L ++ [x])) := by
  have := S.yld L x [] h
  rwa [List.append_nil, List.append_nil] at this
theorem src_used {h : PHeap} {k1 k2 : Nat} {s : Sng} {ns : List Int} (e1 : boxAt h k1 = some [ints ns]) (e2 : boxAt h k2 = some s.cs) (hl : SngLen s) (hok : SngOK s) (hm : ns.length < 9223372036854775807) (hn : ∀ n ∈ ns, 1 ≤ n ∧ n ≤ s.inss.length) (hb : ∀ n, (smpsOf s n).length < 9223372036854775807) : Src h (.func 61 [] [.ptr k1 0, .ptr k2 0]) (ns.flatMap (smpsOf s)) := by
  intro b ok H L Sk hH hok2
  rw [callF_func Γ0 61]
  show Γ0 61 [.yield b, .ptr k1 0, .ptr k2 0] (H L) = _
  have hlen : ∀ M M', (H M).length = (H M').length := fun M M' => by rw [Sk.len M, Sk.len M']
  have hb1 : ∀ M, boxAt (H M) k1 = some [ints ns] := fun M => by
    rw [← e1]
    exact box_eq (hH M k1 (box_lt e1))
  have hb2 : ∀ M, boxAt (H M) k2 = some s.cs := fun M => by
    rw [← e2]
    exact box_eq (hH M k2 (box_lt e2))
  obtain ⟨N, hN1, hN2⟩ : ∃ N : Nat, ns.length < N ∧ ∀ n ∈ ns, (smpsOf s n).length < N := ⟨ns.length + (ns.flatMap (smpsOf s)).length + 1, by omega, fun n hn => by
    have : (smpsOf s n).length ≤ (ns.flatMap (smpsOf s)).length := by
      obtain ⟨a, b, rfl⟩ := List.append_of_mem hn
      simp only [List.flatMap_append, List.flatMap_cons, List.length_append]
      omega
    omega⟩
  refine gbody (F := A61) (by kernel_rfl) N ?_
  rw [s61_eq]; unfold s61
  have ht1 : ∀ M v, Go.Vm.trim (H L) [v] (H M) = H M := fun M v => trim_len _ (hlen M L)
  have q1 : ∀ M, loadP false 1 (.ptr k1 0) (H M) = some (ints ns) := fun M => box_load1 (hb1 M) rfl
  have q2 : ∀ M, loadP true 13 (.ptr k2 0) (H M) = some (.agg s.cs) := fun M => box_loadN (hb2 M) rfl
  simp only [bS, q1, len_ints, ↓KLn]
  refine loop_run (fun i => [.int .i64 (i : Int)]) (fun i => H (L ++ (ns.take i).flatMap (smpsOf s))) ns.length hN1 rfl (by simp) (fun i hi K => ?_) fun K => ?_
  · obtain ⟨n, hni⟩ := lt_l hi
    have hmem := List.mem_of_getElem? hni
    obtain ⟨g1, g2⟩ := hn n hmem
    have ht : ns.take (i + 1) = ns.take i ++ [n] := take_succ_get hni
    have hfm : L ++ (ns.take (i + 1)).flatMap (smpsOf s) = L ++ (ns.take i).flatMap (smpsOf s) ++ smpsOf s n := by rw [ht, List.flatMap_append, List.flatMap_singleton, List.append_assoc]
    unfold s61_L1
    rw [hfm]
    generalize hX : L ++ (ns.take i).flatMap (smpsOf s) = X
    simp only [words, ↓KLn, Nat.reduceAdd, ltT hi, decide_true, if_true, idx_ints _ hni, iv0, q2, s_fz, c62 hl hok g1 g2, len_ints]
    refine loop_run (fun j => [.int .i64 (j : Int)]) (fun j => H (X ++ (smpsOf s n).take j)) (smpsOf s n).length (hN2 n hmem) rfl (by simp) (fun j hj K' => ?_) fun K' => ?_
    · obtain ⟨x, hx⟩ := lt_l hj
      have ht2 : (smpsOf s n).take (j + 1) = (smpsOf s n).take j ++ [x] := take_succ_get hx
      have hy := yld0 Sk (X ++ (smpsOf s n).take j) x (by
        have e : ns.flatMap (smpsOf s) = (ns.take i).flatMap (smpsOf s) ++ ((smpsOf s n).take j ++ [x] ++ (smpsOf s n).drop (j + 1)) ++ (ns.drop (i + 1)).flatMap (smpsOf s) := by
          rw [← ht2, List.take_append_drop]
          have e0 : ns = ns.take i ++ [n] ++ ns.drop (i + 1) := by rw [← ht, List.take_append_drop]
          have e00 := congrArg (List.flatMap (smpsOf s)) e0
          rw [List.flatMap_append, List.flatMap_append, List.flatMap_singleton] at e00
          exact e00
        rw [e, ← List.append_assoc, ← List.append_assoc, ← List.append_assoc, ← List.append_assoc, hX] at hok2
        exact Sk.pre _ _ (Sk.pre _ _ hok2))
      have ht3 : ∀ M v, Go.Vm.trim (H X) [v] (H M) = H M := fun M v => trim_len _ (hlen M X)
      have := hb n
      unfold s61_L0
      simp only [words, ↓KLn, Nat.reduceAdd, ltT hj, decide_true, if_true, idx_ints _ hx, iv0, callV_yield, hy, Bool.not_true, Bool.false_eq_true, if_false, succ63 (show j < 9223372036854775807 by omega), ht3]
      rw [ht2, List.append_assoc]
    · unfold s61_L0
      simp only [words, ↓KLn, Nat.reduceAdd, ltF, decide_false, Bool.false_eq_true, if_false, List.take_length, succ63 (show i < 9223372036854775807 by omega), ht1]
  · unfold s61_L1
    simp only [words, ↓KLn, Nat.reduceAdd, ltF, decide_false, Bool.false_eq_true, if_false, List.take_length, fin_unit]
    rw [trim_len _ (hlen _ _)]
end Go.Vm.X


set_option linter.unusedSimpArgs false
set_option linter.unusedVariables false
namespace Go.Vm.X
open Go.Am Go.Vm
attribute [local congr] bind_c ifP_c loop_c K1_c ite_c fork_c guard_c unl_c
def usedP (s : Sng) : List Int := dd (nm s.ords)
def usedN (s : Sng) : List Int := dd ((nm s.ords).flatMap (cnAt s))
def usedM (s : Sng) : List Int := dd ((usedN s).flatMap (smpsOf s))
def usedV (s : Sng) : PV :=
  if ((wrongP s).2.2 == 0) = true then
    if qB s.dia 6 = true then .tuple [ints (usedP s), ints (usedM s), ints (usedN s), .int .i64 0]
    else .tuple [ints (usedP s), ints (usedN s), ints [], .int .i64 0]
  else .tuple [ints [], ints [], ints [], .int .i64 1]
theorem fin4 {h l : PHeap} {a b c : List Int} {n : Int} : finP [.flat 1, .flat 1, .flat 1, .keep] h (h ++ l) [ints a, ints b, ints c, .int .i64 n] = some (.tuple [ints a, ints b, ints c, .int .i64 n], h) :=
  fin_new (ws := [ints a, ints b, ints c, .int .i64 n]) (l := l) (by simp only [fzL, fz, ints, Option.bind_some, Option.map_some]) (by simp [ltV, ints])
theorem fin4n {h l : PHeap} {a b : List Int} {n : Int} : finP [.flat 1, .flat 1, .flat 1, .keep] h (h ++ l) [ints a, ints b, .nilS, .int .i64 n] = some (.tuple [ints a, ints b, ints [], .int .i64 n], h) :=
  fin_new (ws := [ints a, ints b, ints [], .int .i64 n]) (l := l) (by simp only [fzL, fz, ints, Option.bind_some, Option.map_some]; rfl) (by simp [ltV, ints])
theorem fin4z {h l : PHeap} {n : Int} : finP [.flat 1, .flat 1, .flat 1, .keep] h (h ++ l) [.nilS, .nilS, .nilS, .int .i64 n] = some (.tuple [ints [], ints [], ints [], .int .i64 n], h) :=
  fin_new (ws := [ints [], ints [], ints [], .int .i64 n]) (l := l) (by simp only [fzL, fz, ints, Option.bind_some, Option.map_some]; rfl) (by simp [ltV, ints])
theorem box_k {h l : PHeap} {k : Nat} {vs : List PV} {t : TypeId} {md : Md} (e : l[k]? = some (.box vs t md)) : boxAt (h ++ l) (h.length + k) = some vs := by
  unfold boxAt
  rw [get_new, e]
theorem nm_ok {s : Sng} (ok : SngOK s) {o : Int} (h : o ∈ nm s.ords) : 0 ≤ o ∧ o < s.pats.length := by
  rw [nm_mem] at h
  have h1 := ok.ords o h.1
  unfold ordBad inW at h1
  rw [h.2] at h1
  have h2 := ok.npats
  unfold inW at h2
  simp only [Bool.and_eq_true, decide_eq_true_eq] at h2
  have hq : qI s.dia 2 < 9223372036854775807 := qOf_cases (fun r => rI r 2 < 9223372036854775807) (by decide) (by decide) (by decide) (by decide) (by decide) (by decide) (by decide) _
  have hw : IntKind.i64.wrap ((s.pats.length : Int) - 1) = (s.pats.length : Int) - 1 := by rw [wrap64 (by unfold isI64; omega)]
  rw [hw] at h1
  simp only [Bool.not_false, Bool.true_and, Bool.not_eq_false', Bool.and_eq_true, decide_eq_true_eq] at h1
  omega
theorem pat_ok {s : Sng} (ok : SngOK s) {p : Pat} (hp : p ∈ s.pats) : p.2.length ≤ 1024 ∧ ∀ c ∈ p.2, 0 ≤ c.inst ∧ c.inst ≤ names s := by
  have := ok.pats p hp
  unfold patCode at this
  split at this
  · cases this
  · rename_i h1
    split at this
    · cases this
    · rename_i h2
      have hbad : patBad s p = false := by simpa using h1
      unfold patBad at hbad
      rw [Bool.or_eq_false_iff, Bool.or_eq_false_iff] at hbad
      have hok : patOK p.1 p.2 s.ch = true := by simpa using hbad.1.2
      unfold patOK inW at hok
      simp only [Bool.and_eq_true, decide_eq_true_eq, beq_iff_eq] at hok
      obtain ⟨⟨⟨⟨a1, a2⟩, a3, a4⟩, a5⟩, a6⟩ := hok
      have hb1 : p.1 * s.ch ≤ 64 * 16 := Int.mul_le_mul a4 a2 (by omega) (by omega)
      have hb2 : 1 * 1 ≤ p.1 * s.ch := Int.mul_le_mul a3 a1 (by omega) (by omega)
      rw [wrap64 (by unfold isI64; omega)] at a5
      refine ⟨by omega, fun c hc => ⟨?_, ?_⟩⟩
      · have := List.all_eq_true.1 a6 c hc
        unfold cellOK inW at this
        simp only [Bool.and_eq_true, decide_eq_true_eq] at this
        omega
      · rw [List.any_eq_true] at h2
        have h3 : ¬ c.inst > names s := fun hh => h2 ⟨c, hc, by simpa using hh⟩
        omega
theorem cn_le (l : List Cell) : (cn l).length ≤ l.length := by
  unfold cn
  exact Nat.le_trans (List.length_filter_le _ _) (by simp)
theorem cnAt_ok {s : Sng} (ok : SngOK s) (p : Int) : (cnAt s p).length ≤ 1024 ∧ ∀ x ∈ cnAt s p, 1 ≤ x ∧ x ≤ names s := by
  unfold cnAt
  rw [List.getD_eq_getElem?_getD]
  cases h : s.pats[p.toNat]? with
  | none => simp [cn]
  | some pt =>
    obtain ⟨h1, h2⟩ := pat_ok ok (List.mem_of_getElem? h)
    refine ⟨Nat.le_trans (cn_le _) h1, fun x hx => ?_⟩
    unfold cn at hx
    rw [List.mem_filter, List.mem_map] at hx
    obtain ⟨⟨c, hc, rfl⟩, hx2⟩ := hx
    have := h2 c hc
    simp only [decide_eq_true_eq] at hx2
    omega
theorem flat_le {α β : Type} (f : α → List β) (m : Nat) (hf : ∀ x, (f x).length ≤ m) : ∀ l : List α, (l.flatMap f).length ≤ l.length * m
  | [] => by simp
  | x :: l => by
    have := flat_le f m hf l
    have h2 := hf x
    rw [List.flatMap_cons, List.length_append, List.length_cons, Nat.add_mul]
    omega
theorem mem_dd {l : List Int} {x : Int} : x ∈ dd l ↔ x ∈ l := by
  unfold dd
  rw [mem_ddN (Nat.le_refl _), List.take_length, mem_srt]
theorem dd_le (l : List Int) : (dd l).length ≤ l.length := by
  unfold dd
  have := ddN_le (srt l) (srt l).length
  rw [srt_len] at this ⊢
  exact this
theorem nm_len {s : Sng} (ok : SngOK s) : (nm s.ords).length ≤ 64 := by
  have h1 := nm_le s.ords []
  have h2 := ok.nords
  unfold inW at h2
  simp only [Bool.and_eq_true, decide_eq_true_eq] at h2
  unfold nm
  simp only [List.length_nil] at h1
  omega
theorem cells_len {s : Sng} (ok : SngOK s) : ((nm s.ords).flatMap (cnAt s)).length ≤ 65536 := by
  have h1 := flat_le (cnAt s) 1024 (fun p => (cnAt_ok ok p).1) (nm s.ords)
  have h2 := nm_len ok
  have : (nm s.ords).length * 1024 ≤ 64 * 1024 := Nat.mul_le_mul_right _ h2
  omega
theorem usedN_ok {s : Sng} (ok : SngOK s) {n : Int} (h : n ∈ usedN s) : 1 ≤ n ∧ n ≤ names s := by
  unfold usedN at h
  rw [mem_dd, List.mem_flatMap] at h
  obtain ⟨p, _, hp⟩ := h
  exact (cnAt_ok ok p).2 n hp
theorem smpsOf_le (s : Sng) (n : Int) : (smpsOf s n).length ≤ 120 := by
  unfold smpsOf
  split
  · refine Nat.le_trans (List.length_filter_le _ _) (Nat.le_trans (dd_le _) (playL_le _ _ _))
  · simp
theorem smps_len {s : Sng} (ok : SngOK s) : ((usedN s).flatMap (smpsOf s)).length ≤ 65536 * 120 := by
  have h1 := flat_le (smpsOf s) 120 (smpsOf_le s) (usedN s)
  have h2 : (usedN s).length ≤ 65536 := Nat.le_trans (dd_le _) (cells_len ok)
  have : (usedN s).length * 120 ≤ 65536 * 120 := Nat.mul_le_mul_right _ h2
  omega
theorem q6f (d : Int) : fieldP false 6 1 (.agg (qOf d)) = some (.bool (qB d 6)) := by
  show partP false 6 1 (qOf d) = _
  exact q_6 d
theorem st1i (l : List Int) (o : Nat) (vs : List PV) (t : TypeId) (r : PHeap) : storeP 1 (.ptr 0 o) (ints l) (.box vs t .rw :: r) = (putAt vs o [ints l]).map fun vs' => .box vs' t .rw :: r := st1 rfl o vs t r
theorem put1i (x : PV) (l : List Int) : putAt [x] 0 [ints l] = some [ints l] := put_whole rfl rfl
theorem one0 (x : PV) : [x][0]? = some x := nr rfl
theorem len5h (h : PHeap) (a b c d e : PBlk) : (h ++ [a, b, c, d, e]).length = h.length + 5 := by simp
theorem c19 (s : Sng) (hl : SngLen s) (h : PHeap) : Γ0 19 [.agg s.cs] h = some (usedV s, h) := by
  refine gbody (F := A19) (by kernel_rfl) 1 ?_
  rw [s19_eq]; unfold s19 usedV
  cases hv : ((wrongP s).2.2 == 0) with
  | false => simp only [words, ↓KLn, Nat.reduceAdd, s_whole, s_fz, c16 s hl, hv, Bool.not_false, if_true, fin4z, Bool.false_eq_true, if_false]
  | true =>
    have ok := sng_ok hv
    have k1 : Γ0 60 [.func 94 [] [.ptr (h.length + 1) 0]] (h ++ [.box s.cs 27 .rw, .box s.cs 27 .rw]) = some (ints (usedP s), h ++ [.box s.cs 27 .rw, .box s.cs 27 .rw]) :=
      c60 (src_named (box_k rfl) (by have := hl.ords; omega)) (by have := nm_len ok; omega)
    have k2 : Γ0 60 [.func 96 [] [.ptr (h.length + 4) 0, .ptr (h.length + 3) 0]] (lock (h ++ [.box s.cs 27 .rw, .box s.cs 27 .rw, .box s.cs 27 .rw, .box s.cs 27 .rw, .box [.func 94 [] [.ptr (h.length + 2) 0]] 77 .rw])) = some (ints (usedN s), lock (h ++ [.box s.cs 27 .rw, .box s.cs 27 .rw, .box s.cs 27 .rw, .box s.cs 27 .rw, .box [.func 94 [] [.ptr (h.length + 2) 0]] 77 .rw])) := by
      refine c60 (src_cells (g := .func 94 [] [.ptr (h.length + 2) 0]) (s := s) (ps := nm s.ords) ?_ ?_ ?_ (src_named (s := s) ?_ (by have := hl.ords; omega)) (fun p hp => nm_ok ok hp)) (by have := cells_len ok; omega)
      · rw [box_lock]; exact box_k rfl
      · rw [box_lock]; exact box_k rfl
      · intro p hp; have := (pat_ok ok hp).1; omega
      · rw [box_lock]; exact box_k rfl
    simp only [words, ↓KLn, Nat.reduceAdd, s_whole, s_fz, c16 s hl, hv, Bool.not_true, Bool.false_eq_true, if_false, if_true, c41, k1, lock_len, unl_new, c43 s _ (cells_func _ _ _)]
    rw [k2]
    simp only [bS, unl_self]
    simp only [words, ↓KLn, Nat.reduceAdd, len5h, st1i, put1i, s_whole, s_fz, c45, q6f]
    cases hq : qB s.dia 6 with
    | false =>
      simp only [words, ↓KLn, Nat.reduceAdd, Bool.not_false, if_true, Bool.false_eq_true, if_false, one0, fin4n]
    | true =>
      have hnm : names s = s.inss.length := by unfold names; rw [hq]; rfl
      have k3 : Γ0 60 [.func 61 [] [.ptr (h.length + 6) 0, .ptr h.length 0]] (h ++ [.box s.cs 27 .rw, .box s.cs 27 .rw, .box s.cs 27 .rw, .box s.cs 27 .rw, .box [.func 94 [] [.ptr (h.length + 2) 0]] 77 .rw, .log [] 1 3 .rw, .box [ints (usedN s)] 22 .rw]) = some (ints (usedM s), h ++ [.box s.cs 27 .rw, .box s.cs 27 .rw, .box s.cs 27 .rw, .box s.cs 27 .rw, .box [.func 94 [] [.ptr (h.length + 2) 0]] 77 .rw, .log [] 1 3 .rw, .box [ints (usedN s)] 22 .rw]) := by
        refine c60 (src_used (s := s) (ns := usedN s) (box_k rfl) (box_k (k := 0) rfl) hl ok ?_ (fun n hn => ?_) fun n => ?_) (by have := smps_len ok; omega)
        · have h2 : (usedN s).length ≤ 65536 := Nat.le_trans (dd_le _) (cells_len ok)
          omega
        · have := usedN_ok ok hn; omega
        · have := smpsOf_le s n; omega
      simp only [words, ↓KLn, Nat.reduceAdd, Bool.not_true, Bool.false_eq_true, if_false, if_true]
      rw [k3]
      simp only [words, ↓KLn, Nat.reduceAdd, one0, fin4]
end Go.Vm.X


set_option linter.unusedSimpArgs false
set_option linter.unusedVariables false
namespace Go.Vm.X
open Go.Am Go.Vm
attribute [local congr] bind_c ifP_c loop_c K1_c ite_c fork_c guard_c unl_c
def setP (l : List Int) : List PV := (List.range 256).map fun (i : Nat) => .bool (l.contains (i : Int))
theorem setP_nil : Z256 = setP [] := by kernel_rfl
theorem setP_len (l : List Int) : (setP l).length = 256 := by simp [setP]
theorem setP_get (l : List Int) {i : Nat} (h : i < 256) : (setP l)[i]? = some (.bool (l.contains (i : Int))) := by simp [setP, h]
theorem setP_put (l : List Int) {i : Nat} (h : i < 256) : putAt (setP l) i [.bool true] = some (setP (l ++ [(i : Int)])) := by
  unfold putAt
  rw [if_pos ⟨by rw [setP_len]; simp; omega, rfl⟩]
  congr 1
  apply List.ext_getElem?
  intro j
  by_cases hj : j < 256
  · rw [setP_get _ hj]
    have e2 : (l ++ [(i : Int)]).contains (j : Int) = (l.contains (j : Int) || decide (i = j)) := by
      rw [Bool.eq_iff_iff]
      simp only [List.contains_iff_mem, List.mem_append, List.mem_singleton, Bool.or_eq_true, decide_eq_true_eq]
      exact or_congr Iff.rfl (by omega)
    rw [e2]
    by_cases h1 : j < i
    · rw [List.append_assoc, List.getElem?_append_left (by rw [List.length_take, setP_len]; omega), List.getElem?_take_of_lt h1, setP_get _ hj, decide_eq_false (by omega), Bool.or_false]
    · by_cases h2 : j = i
      · subst h2
        rw [List.append_assoc, List.getElem?_append_right (by rw [List.length_take, setP_len]; omega), List.length_take, setP_len, show j - min j 256 = 0 by omega, decide_eq_true rfl, Bool.or_true]
        rfl
      · rw [List.getElem?_append_right (by rw [List.length_append, List.length_take, setP_len]; simp; omega), List.getElem?_drop, List.length_append, List.length_take, setP_len]
        rw [show i + [PV.bool true].length + (j - (min i 256 + [PV.bool true].length)) = j by simp; omega, setP_get _ hj, decide_eq_false (by omega), Bool.or_false]
  · rw [List.getElem?_eq_none (by simp [setP_len]; omega), List.getElem?_eq_none (by rw [setP_len]; omega)]
theorem setP_lt (n : Nat) (l : List Int) (t : TypeId) (md : Md) : ltB n (.box (setP l) t md) := by
  intro x hx
  unfold setP at hx
  rw [List.mem_map] at hx
  obtain ⟨i, _, rfl⟩ := hx
  simp only [ltV]
theorem arr256 {b : Nat} {i : Nat} (h : i < 256) : indexAddrArrP 256 1 (.ptr b 0) (.int .i64 (i : Int)) = some (.ptr b i) := by
  simp only [indexAddrArrP]
  rw [if_pos ⟨by omega, by omega⟩, Int.toNat_natCast]
  simp only [fieldAddrP, Nat.mul_one, Nat.zero_add]
def asc (l : List Int) (m : Nat) : List Int := ((List.range m).map fun (i : Nat) => (i : Int)).filter fun x => l.contains x
theorem asc_succ (l : List Int) (m : Nat) : asc l (m + 1) = if l.contains (m : Int) = true then asc l m ++ [(m : Int)] else asc l m := by
  unfold asc
  rw [List.range_succ, List.map_append, List.filter_append]
  cases h : l.contains (m : Int) with
  | true => simp only [List.map_cons, List.map_nil, List.filter_cons, h, if_true, List.filter_nil]
  | false => simp only [List.map_cons, List.map_nil, List.filter_cons, h, if_false, List.filter_nil, List.append_nil, Bool.false_eq_true]
theorem asc_le (l : List Int) (m : Nat) : (asc l m).length ≤ m := by
  unfold asc
  exact Nat.le_trans (List.length_filter_le _ _) (by simp)
theorem asc_sorted (l : List Int) (m : Nat) : (asc l m).Pairwise (· < ·) := by
  unfold asc
  refine List.Pairwise.filter _ ?_
  rw [List.pairwise_map]
  exact List.pairwise_lt_range.imp fun h => by omega
theorem mem_asc {l : List Int} {x : Int} (h : x ∈ l → 0 ≤ x ∧ x < 256) : x ∈ asc l 256 ↔ x ∈ l := by
  unfold asc
  rw [List.mem_filter, List.mem_map, List.contains_iff_mem]
  constructor
  · exact fun hh => hh.2
  · intro hh
    have := h hh
    exact ⟨⟨x.toNat, by rw [List.mem_range]; omega, by omega⟩, hh⟩
theorem asc_congr {l l' : List Int} (h : ∀ x, x ∈ l ↔ x ∈ l') (m : Nat) : asc l m = asc l' m := by
  unfold asc
  congr 1
  funext x
  rw [Bool.eq_iff_iff, List.contains_iff_mem, List.contains_iff_mem]
  exact h x
theorem dd_asc {l : List Int} (h : ∀ x ∈ l, 0 ≤ x ∧ x < 256) : dd l = asc l 256 := dd_srt (asc_sorted l 256) fun x => (mem_asc (h x)).symm
theorem set_all (l : List Int) : partP true 0 256 (setP l) = some (.agg (setP l)) := part_all (setP_len l)
theorem asc_load {h : PHeap} {l : List Int} {i : Nat} (hi : i < 256) (r : PHeap) : loadP false 1 (.ptr h.length i) (h ++ .box (setP l) 100 .rw :: r) = some (.bool (l.contains (i : Int))) := by
  rw [load_box]
  unfold boxAt
  rw [show h.length = h.length + 0 from rfl, get_new]
  exact setP_get l hi
theorem c63 (l : List Int) (h : PHeap) : Γ0 63 [.agg (setP l)] h = some (ints (asc l 256), h) := by
  obtain ⟨N, hN⟩ : ∃ N : Nat, 256 < N := ⟨257, by omega⟩
  refine gbody (F := A63) (by kernel_rfl) N ?_
  rw [s63_eq]; unfold s63
  simp only [words, ↓KLn, Nat.reduceAdd]
  refine loop_run (fun m => [.ref (h.length + 1) 0 (asc l m).length (asc l m).length 1, .int .i64 (m : Int)]) (fun m => h ++ [.box (setP l) 100 .rw, .log ((asc l m).map iV) 1 3 .rw]) 256 hN rfl rfl (fun m hm K => ?_) fun K => ?_
  · have hle := asc_le l m
    have e1 : decide ((m : Int) < 256) = true := by rw [decide_eq_true_eq]; omega
    unfold s63_L0
    simp only [words, ↓KLn, Nat.reduceAdd, nth_one, e1, if_true, arr256 hm, asc_load hm, setP_get l hm]
    rw [asc_succ]
    cases l.contains (m : Int) with
    | true =>
      simp only [words, ↓KLn, Nat.reduceAdd, nth_one, if_true, fill_int, chunk1, all_int, app_ints _ _ _ _ (show (asc l m).length < 4294967296 by omega), succ63 (show m < 9223372036854775807 by omega), trim2, List.length_append]
      rfl
    | false => simp only [words, ↓KLn, Nat.reduceAdd, nth_one, if_false, Bool.false_eq_true, succ63 (show m < 9223372036854775807 by omega), trim2]
  · have e1 : decide (((256 : Nat) : Int) < 256) = false := by decide
    have hle := asc_le l 256
    unfold s63_L0
    simp only [words, ↓KLn, Nat.reduceAdd, nth_one, e1, Bool.false_eq_true, if_false]
    have := fin_lgK (h := h ++ [.box (setP l) 100 .rw]) (r := []) (l := asc l 256) (k := (asc l 256).length) (n := (asc l 256).length) rfl (Nat.le_refl _)
    rw [lg2]
    have e2 : (h ++ [PBlk.box (setP l) 100 .rw]).length = h.length + 1 := by simp
    obtain ⟨md, ez⟩ := fz_lg (p := h ++ [.box (setP l) 100 .rw]) (r := []) (l := asc l 256) (k := (asc l 256).length) (n := (asc l 256).length) rfl (Nat.le_refl _)
    rw [e2, List.take_length] at ez
    refine fin_new (ws := [ints (asc l 256)]) (l := [.box (setP l) 100 .rw, .log ((asc l 256).map iV) 1 3 md]) ?_ (by simp [ltV, ints])
    simp only [fzL, ez, Option.bind_some, Option.map_some]
    unfold lg
    rw [List.append_assoc]
    rfl
end Go.Vm.X


set_option linter.unusedSimpArgs false
set_option linter.unusedVariables false
namespace Go.Vm.X
open Go.Am Go.Vm
attribute [local congr] bind_c ifP_c loop_c K1_c ite_c fork_c guard_c unl_c
def hU (s : Sng) (P M N : List Int) (h : PHeap) : PHeap := h ++ [.box s.cs 27 .rw, .box (setP P) 100 .rw, .box (setP M) 100 .rw, .box (setP N) 100 .rw]
theorem trim5 {h : PHeap} {a b c cb : PBlk} (N0 N1 : List Int) {v : PV} (hv : ∀ n, ltV n v) : trim (h ++ [a, b, c, .box (setP N0) 100 .rw]) [v] (h ++ [a, b, c, .box (setP N1) 100 .rw, cb]) = h ++ [a, b, c, .box (setP N1) 100 .rw] := by
  have := trim_to (g := h ++ [a, b, c] ++ [.box (setP N0) 100 .rw]) (g' := h ++ [a, b, c] ++ [.box (setP N1) 100 .rw]) (r := [v]) (rest := [cb]) (by simp) (fun w hw => by rw [List.mem_singleton] at hw; subst hw; exact hv _) (keep_app rfl fun blk hb => by
    rw [List.mem_singleton] at hb
    subst hb
    exact setP_lt _ _ _ _)
  simpa using this
theorem trim4s (h : PHeap) (a b c d a' b' c' d' : PBlk) (r : List PV) : trim (h ++ [a, b, c, d]) r (h ++ [a', b', c', d']) = h ++ [a', b', c', d'] := trim_len _ (by simp)
theorem lt_int (z : Int) (n : Nat) : ltV n (.int .i64 z) := by simp only [ltV]
theorem st1t (o : Nat) (vs : List PV) (t : TypeId) (r : PHeap) : storeP 1 (.ptr 0 o) (.bool true) (.box vs t .rw :: r) = (putAt vs o [.bool true]).map fun vs' => .box vs' t .rw :: r := st1 rfl o vs t r
def nmF (s : Sng) (i : Nat) : List Int := (s.ords.take i).filter fun o => !mark o
theorem q2_le (d : Int) : qI d 2 ≤ 256 := qOf_cases (fun r => rI r 2 ≤ 256) (by decide) (by decide) (by decide) (by decide) (by decide) (by decide) (by decide) d
theorem npats_le {s : Sng} (ok : SngOK s) : s.pats.length ≤ 256 := by
  have h2 := ok.npats
  unfold inW at h2
  simp only [Bool.and_eq_true, decide_eq_true_eq] at h2
  have := q2_le s.dia
  omega
theorem names_le {s : Sng} (ok : SngOK s) : names s ≤ 31 := by
  unfold names
  have h1 := ok.nsmps
  have h2 := ok.ninss
  split <;> assumption
theorem c47 (s : Sng) (hl : SngLen s) (h : PHeap) : Γ0 47 [.agg s.cs] h = some (.bool ((wrongP s).2.2 == 0), h) := by
  refine gbody (F := A47) (by kernel_rfl) 1 ?_
  rw [s47_eq]; unfold s47
  simp only [words, ↓KLn, Nat.reduceAdd, s_whole, c99 s hl, ← wrong_same, wrongV, y30, y31, y32, fin_bool]
theorem c20_orders {s : Sng} (ok : SngOK s) (hl : SngLen s) {N : Nat} (hN : s.ords.length < N) {h : PHeap} {j17 : List PV → PHeap → Pt} {r : PV × PHeap} (hr : j17 [] (hU s (nmF s s.ords.length) [] [] h) = some r) :
    loopP (s20_L4 Γ0 N (.ptr (h.length + 1) 0) (hU s [] [] [] h) (ints s.ords) (.int .i64 s.ords.length) j17) N [.int .i64 0] (hU s [] [] [] h) = some r := by
  refine loop_run (fun i => [.int .i64 (i : Int)]) (fun i => hU s (nmF s i) [] [] h) s.ords.length hN rfl (by simp [nmF]) (fun i hi K => ?_) fun K => ?_
  · obtain ⟨o, ho⟩ := lt_l hi
    have ht : nmF s (i + 1) = nmF s i ++ if mark o = true then [] else [o] := by
      unfold nmF
      rw [take_succ_get ho, List.filter_append]
      cases hmk : mark o <;> simp [hmk]
    have hm := hl.ords
    unfold s20_L4 hU
    simp only [words, ↓KLn, Nat.reduceAdd, ltT hi, decide_true, if_true, idx_ints _ ho, iv0, c49]
    rw [ht]
    cases hmk : mark o with
    | true => simp only [words, ↓KLn, Nat.reduceAdd, Bool.not_true, Bool.false_eq_true, if_false, if_true, List.append_nil, succ63 (show i < 9223372036854775807 by omega), trim4s]
    | false =>
      have hb := nm_ok ok ((nm_mem s.ords o).2 ⟨List.mem_of_getElem? ho, hmk⟩)
      have hp := npats_le ok
      obtain ⟨m, rfl⟩ : ∃ m : Nat, o = (m : Int) := ⟨o.toNat, by omega⟩
      have hm2 : m < 256 := by omega
      simp only [words, ↓KLn, Nat.reduceAdd, Bool.not_false, Bool.false_eq_true, if_false, if_true, arr256 hm2, st1t, setP_put _ hm2, succ63 (show i < 9223372036854775807 by omega), trim4s]
  · unfold s20_L4
    simp only [words, ↓KLn, Nat.reduceAdd, ltF, decide_false, Bool.false_eq_true, if_false, hr]
theorem c20_cells {s : Sng} (ok : SngOK s) {pt : Pat} (hpt : pt ∈ s.pats) {N : Nat} (hN : pt.2.length < N) {h : PHeap} {P X : List Int} {j115 : List PV → PHeap → Pt} {r : Pt} (hr : j115 [] (hU s P [] (X ++ cn pt.2) h) = r) :
    loopP (s20_L2 Γ0 N (.ptr (h.length + 3) 0) (hU s P [] X h) (cellsPV pt.2) (.int .i64 pt.2.length) j115) N [.int .i64 0] (hU s P [] X h) = r := by
  obtain ⟨hlen, hin⟩ := pat_ok ok hpt
  have hnm := names_le ok
  refine loop_run (fun i => [.int .i64 (i : Int)]) (fun i => hU s P [] (X ++ cn (pt.2.take i)) h) pt.2.length hN rfl (by simp [cn]) (fun i hi K => ?_) fun K => ?_
  · obtain ⟨c, hc⟩ := lt_l hi
    obtain ⟨h0, h1⟩ := hin c (List.mem_of_getElem? hc)
    obtain ⟨m, hm⟩ : ∃ m : Nat, c.inst = (m : Int) := ⟨c.inst.toNat, by omega⟩
    have hm2 : m < 256 := by omega
    have ht : pt.2.take (i + 1) = pt.2.take i ++ [c] := take_succ_get hc
    unfold s20_L2 hU
    simp only [words, ↓KLn, Nat.reduceAdd, ltT hi, decide_true, if_true, idx_cells _ hc, cell_all, cell_st, cell_put, cc1]
    rw [ht, cn_snoc]
    by_cases hp : c.inst > 0
    · have e : (c.inst != 0) = true := by rw [bne_iff_ne]; omega
      rw [if_pos hp]
      rw [hm] at e
      simp only [words, ↓KLn, Nat.reduceAdd, if_true, hm, e, arr256 hm2, st1t, setP_put _ hm2, succ63 (show i < 9223372036854775807 by omega), trim5 _ _ (lt_int _), List.append_assoc]
    · have e : (c.inst != 0) = false := by rw [bne_eq_false_iff_eq]; omega
      rw [if_neg hp]
      simp only [words, ↓KLn, Nat.reduceAdd, e, Bool.false_eq_true, if_false, succ63 (show i < 9223372036854775807 by omega), trim5 _ _ (lt_int _)]
  · unfold s20_L2
    simp only [words, ↓KLn, Nat.reduceAdd, ltF, decide_false, Bool.false_eq_true, if_false, List.take_length, hr]
theorem c20_pats {s : Sng} (ok : SngOK s) {ps : List Int} (hps : ∀ p ∈ ps, 0 ≤ p ∧ p < s.pats.length) (hpl : ps.length < 9223372036854775807) {N : Nat} (hN : ps.length < N) (hN2 : 1024 < N) {h : PHeap} {P : List Int} {j23 : List PV → PHeap → Pt} {r : Pt} (hr : j23 [] (hU s P [] (ps.flatMap (cnAt s)) h) = r) :
    loopP (s20_L3 Γ0 N (.ptr h.length 0) (.ptr (h.length + 3) 0) (ints ps, hU s P [] [] h) (.int .i64 ps.length) j23) N [.int .i64 0] (hU s P [] [] h) = r := by
  refine loop_run (fun i => [.int .i64 (i : Int)]) (fun i => hU s P [] ((ps.take i).flatMap (cnAt s)) h) ps.length hN rfl (by simp) (fun i hi K => ?_) fun K => ?_
  · obtain ⟨p, hp⟩ := lt_l hi
    obtain ⟨a, b⟩ := hps p (List.mem_of_getElem? hp)
    obtain ⟨m, rfl⟩ : ∃ m : Nat, p = (m : Int) := ⟨p.toNat, by omega⟩
    obtain ⟨pt, hpt⟩ := lt_l (show m < s.pats.length by omega)
    have hcn : cnAt s (m : Int) = cn pt.2 := by unfold cnAt; rw [Int.toNat_natCast, getD_of hpt]
    have ht : ps.take (i + 1) = ps.take i ++ [(m : Int)] := take_succ_get hp
    unfold s20_L3
    have hlen := (pat_ok ok (List.mem_of_getElem? hpt)).1
    have hk := c20_cells ok (List.mem_of_getElem? hpt) (N := N) (by omega) (h := h) (P := P) (X := (ps.take i).flatMap (cnAt s)) (j115 := fun w h' => K [.int .i64 ((i + 1 : Nat) : Int)] (trim (hU s P [] [] h) [.int .i64 ((i + 1 : Nat) : Int)] h')) rfl
    unfold hU at hk ⊢
    simp only [trim4s] at hk
    simp only [words, ↓KLn, Nat.reduceAdd, ltT hi, decide_true, if_true, idx_ints _ hp, iv0, sc10, idx_pats _ hpt, pc1, len_cells, succ63 (show i < 9223372036854775807 by omega)]
    rw [ht, List.flatMap_append, List.flatMap_singleton, hcn, ← hk]
  · unfold s20_L3
    simp only [words, ↓KLn, Nat.reduceAdd, ltF, decide_false, Bool.false_eq_true, if_false, List.take_length, hr]
theorem refV_ok {s : Sng} (ok : SngOK s) {i : Ins} (hi : i ∈ s.inss) {n : Int} (h1 : n ≤ 31) : (∀ x ∈ refV i n, 0 ≤ x ∧ x < 256) ∧ (refV i n).length ≤ 31 := by
  have hv := (ins_ok ok hi).1
  unfold refV
  rw [if_pos hv]
  split
  · split
    · constructor
      · intro x hx
        simp only [List.mem_singleton] at hx
        omega
      · simp
    · simp
  · constructor
    · intro x hx
      unfold outR at hx
      rw [List.mem_filter, List.mem_map] at hx
      obtain ⟨⟨k, hk, rfl⟩, _⟩ := hx
      rw [List.mem_range] at hk
      omega
    · exact outR_le i 31
theorem c20_smps {s : Sng} {ks : List Int} (hks : ∀ x ∈ ks, 0 ≤ x ∧ x < 256) (hm : s.smps.length < 9223372036854775807) (hm2 : ks.length < 9223372036854775807) {N : Nat} (hN : ks.length < N) {h : PHeap} {P X Q : List Int} {j66 : List PV → PHeap → Pt} {r : Pt} (hr : j66 [] (hU s P (X ++ ks.filter (leS s)) Q h) = r) :
    loopP (s20_L0 Γ0 N (.ptr h.length 0) (.ptr (h.length + 2) 0) (ints ks, hU s P X Q h) (.int .i64 ks.length) j66) N [.int .i64 0] (hU s P X Q h) = r := by
  refine loop_run (fun i => [.int .i64 (i : Int)]) (fun i => hU s P (X ++ (ks.take i).filter (leS s)) Q h) ks.length hN rfl (by simp) (fun i hi K => ?_) fun K => ?_
  · obtain ⟨x, hx⟩ := lt_l hi
    obtain ⟨a, b⟩ := hks x (List.mem_of_getElem? hx)
    obtain ⟨m, rfl⟩ : ∃ m : Nat, x = (m : Int) := ⟨x.toNat, by omega⟩
    have hm2 : m < 256 := by omega
    have ht : (ks.take (i + 1)).filter (leS s) = (ks.take i).filter (leS s) ++ if leS s (m : Int) = true then [(m : Int)] else [] := by
      rw [take_succ_get hx, List.filter_append]
      cases hmk : leS s (m : Int) <;> simp [hmk]
    have e : leS s (m : Int) = decide ((m : Int) ≤ (s.smps.length : Int)) := rfl
    unfold s20_L0 hU
    simp only [words, ↓KLn, Nat.reduceAdd, ltT hi, decide_true, if_true, idx_ints _ hx, iv0, sc11, len_smps, ← e]
    rw [ht]
    cases hc : leS s (m : Int) with
    | true => simp only [words, ↓KLn, Nat.reduceAdd, if_true, arr256 hm2, st1t, setP_put _ hm2, succ63 (show i < 9223372036854775807 by omega), trim4s, List.append_assoc]
    | false => simp only [words, ↓KLn, Nat.reduceAdd, Bool.false_eq_true, if_false, List.append_nil, succ63 (show i < 9223372036854775807 by omega), trim4s]
  · unfold s20_L0
    simp only [words, ↓KLn, Nat.reduceAdd, ltF, decide_false, Bool.false_eq_true, if_false, List.take_length, hr]
theorem c20_inss {s : Sng} (ok : SngOK s) (hl : SngLen s) {ns : List Int} (hns : ∀ n ∈ ns, 1 ≤ n ∧ n ≤ s.inss.length) (hnl : ns.length < 9223372036854775807) {N : Nat} (hN : ns.length < N) (hN2 : 1024 < N) {h : PHeap} {P Q : List Int} {j35 : List PV → PHeap → Pt} {r : Pt} (hr : j35 [] (hU s P (ns.flatMap (smpsOf s)) Q h) = r) :
    loopP (s20_L1 Γ0 N (.ptr h.length 0) (.ptr (h.length + 2) 0) (ints ns, hU s P [] Q h) (.int .i64 ns.length) j35) N [.int .i64 0] (hU s P [] Q h) = r := by
  refine loop_run (fun i => [.int .i64 (i : Int)]) (fun i => hU s P ((ns.take i).flatMap (smpsOf s)) Q h) ns.length hN rfl (by simp) (fun i hi K => ?_) fun K => ?_
  · obtain ⟨n, hn⟩ := lt_l hi
    obtain ⟨a, b⟩ := hns n (List.mem_of_getElem? hn)
    obtain ⟨m, rfl⟩ : ∃ m : Nat, n = ((m + 1 : Nat) : Int) := ⟨n.toNat - 1, by omega⟩
    obtain ⟨x, hx⟩ := lt_l (show m < s.inss.length by omega)
    have hxm := List.mem_of_getElem? hx
    have h31 := ok.ninss
    obtain ⟨hv1, hv2⟩ := refV_ok ok hxm (n := ((m + 1 : Nat) : Int)) (by omega)
    have hsm : smpsOf s ((m + 1 : Nat) : Int) = (refV x ((m + 1 : Nat) : Int)).filter (leS s) := by
      unfold smpsOf
      rw [Int.toNat_natCast, Nat.add_sub_cancel, hx]
      simp only [smp_same x _ (ins_ok ok hxm).1]
    have ht : ns.take (i + 1) = ns.take i ++ [((m + 1 : Nat) : Int)] := take_succ_get hn
    unfold s20_L1
    have hk := c20_smps (s := s) hv1 (by have := ok.nsmps; omega) (by omega) (N := N) (by omega) (h := h) (P := P) (Q := Q) (X := (ns.take i).flatMap (smpsOf s)) (j66 := fun w h' => K [.int .i64 ((i + 1 : Nat) : Int)] (trim (hU s P [] Q h) [.int .i64 ((i + 1 : Nat) : Int)] h')) rfl
    unfold hU at hk ⊢
    simp only [trim4s] at hk
    simp only [words, ↓KLn, Nat.reduceAdd, ltT hi, decide_true, if_true, idx_ints _ hn, iv0, sc12, i_pred (show m < 9223372036854775807 by omega), idx_inss _ hx, ins_fptr, c64 x (hl.ins x hxm), len_ints, succ63 (show i < 9223372036854775807 by omega)]
    rw [ht, List.flatMap_append, List.flatMap_singleton, hsm, ← hk]
  · unfold s20_L1
    simp only [words, ↓KLn, Nat.reduceAdd, ltF, decide_false, Bool.false_eq_true, if_false, List.take_length, hr]
theorem c20 (s : Sng) (hl : SngLen s) (h : PHeap) : Γ0 20 [.agg s.cs] h = some (usedV s, h) := by
  obtain ⟨N, hN1, hN2⟩ : ∃ N : Nat, s.ords.length < N ∧ 1024 < N := ⟨s.ords.length + 1025, by omega, by omega⟩
  refine gbody (F := A20) (by kernel_rfl) N ?_
  rw [s20_eq]; unfold s20 usedV
  cases hv : ((wrongP s).2.2 == 0) with
  | false => simp only [words, ↓KLn, Nat.reduceAdd, s_whole, c47 s hl, hv, Bool.not_false, if_true, fin4z, Bool.false_eq_true, if_false]
  | true =>
    have ok := sng_ok hv
    have memP : ∀ x, x ∈ nmF s s.ords.length ↔ x ∈ nm s.ords := fun x => by
      unfold nmF
      rw [List.take_length, List.mem_filter, nm_mem]
      simp
    have hp256 := npats_le ok
    have hP : usedP s = asc (nmF s s.ords.length) 256 := by
      unfold usedP
      rw [dd_asc (fun x hx => by have := nm_ok ok hx; omega)]
      exact asc_congr (fun x => (memP x).symm) 256
    have memP2 : ∀ x, x ∈ asc (nmF s s.ords.length) 256 ↔ x ∈ nm s.ords := fun x => by
      rw [mem_asc (fun hx => by have := nm_ok ok ((memP x).1 hx); omega)]
      exact memP x
    have hnl := names_le ok
    have hNn : usedN s = asc ((asc (nmF s s.ords.length) 256).flatMap (cnAt s)) 256 := by
      unfold usedN
      rw [dd_asc (fun x hx => by
        rw [List.mem_flatMap] at hx
        obtain ⟨p, _, hp⟩ := hx
        have := (cnAt_ok ok p).2 x hp
        omega)]
      refine asc_congr (fun x => ?_) 256
      rw [List.mem_flatMap, List.mem_flatMap]
      exact ⟨fun ⟨p, h1, h2⟩ => ⟨p, (memP2 p).2 h1, h2⟩, fun ⟨p, h1, h2⟩ => ⟨p, (memP2 p).1 h1, h2⟩⟩
    have hl1 := asc_le (nmF s s.ords.length) 256
    simp only [words, ↓KLn, Nat.reduceAdd, setP_nil, s_whole, c47 s hl, hv, Bool.not_true, Bool.false_eq_true, if_false, if_true, sc3, len_ints]
    refine Eq.trans (c20_orders ok hl hN1 (h := h) (r := _) ?_) rfl
    unfold hU
    simp only [words, ↓KLn, Nat.reduceAdd, set_all, c63, len_ints]
    refine Eq.trans (c20_pats ok (fun p hp => nm_ok ok ((memP2 p).1 hp)) (by omega) (by omega) hN2 (h := h) (P := nmF s s.ords.length) rfl) ?_
    unfold hU
    simp only [words, ↓KLn, Nat.reduceAdd, s_whole, c52]
    have memM : ∀ x ∈ (usedN s).flatMap (smpsOf s), 0 ≤ x ∧ x < 256 := fun x hx => by
      rw [List.mem_flatMap] at hx
      obtain ⟨n, h1, h2⟩ := hx
      unfold smpsOf at h2
      have hns := usedN_ok ok h1
      split at h2
      · rename_i i hi
        rw [List.mem_filter] at h2
        have hm := List.mem_of_getElem? hi
        rw [smp_same i n (ins_ok ok hm).1] at h2
        exact (refV_ok ok hm (by omega)).1 x h2.1
      · cases h2
    have hM : usedM s = asc ((usedN s).flatMap (smpsOf s)) 256 := dd_asc memM
    cases hq : qB s.dia 6 with
    | false =>
      simp only [words, ↓KLn, Nat.reduceAdd, Bool.not_false, if_true, Bool.false_eq_true, if_false, set_all, c63, unl_self, fin4n, hP, hNn]
    | true =>
      have hnm : names s = s.inss.length := by unfold names; rw [hq]; rfl
      simp only [words, ↓KLn, Nat.reduceAdd, Bool.not_true, if_true, Bool.false_eq_true, if_false, set_all, c63, len_ints]
      have hns : ∀ n ∈ asc ((asc (nmF s s.ords.length) 256).flatMap (cnAt s)) 256, 1 ≤ n ∧ n ≤ s.inss.length := by
        rw [← hNn]
        intro n hn
        have := usedN_ok ok hn
        omega
      have hle := asc_le ((asc (nmF s s.ords.length) 256).flatMap (cnAt s)) 256
      rw [hP, hM, hNn]
      refine c20_inss ok hl hns (by omega) (by omega) hN2 (h := h) (P := nmF s s.ords.length) (Q := (asc (nmF s s.ords.length) 256).flatMap (cnAt s)) ?_
      · unfold hU
        simp only [words, ↓KLn, Nat.reduceAdd, set_all, c63, unl_self, fin4]
end Go.Vm.X


set_option linter.unusedSimpArgs false
set_option linter.unusedVariables false
namespace Go.Vm.X
open Go.Am Go.Vm
attribute [local congr] bind_c ifP_c loop_c K1_c ite_c fork_c guard_c unl_c
def capS (s : Sng) (p : Int × Int) : Int × Int := if p.2 > (s.smps.length : Int) then (p.1, 0) else p
def playV (s : Sng) (number note : Int) : Int × Int :=
  if inW number 1 (names s) = true then
    if qB s.dia 6 = true then match s.inss[number.toNat - 1]? with
      | some i => capS s (keyV i note number)
      | none => (0, 0)
    else (note, number)
  else if s.dia = 6 then (note, 0) else (0, 0)
def sampV (s : Sng) (number note : Int) : PV := if ((wrongP s).2.2 == 0) = true ∧ inW note 0 119 = true then pairV (playV s number note) else pairV (0, 0)
theorem chip_insts {d : Int} (h : qB d 6 = false) : d ≠ 6 := by
  rintro rfl
  exact absurd h (by decide)
theorem fin_pair {h l : PHeap} {a b : Int} : finP [.keep, .keep] h (h ++ l) [.int .i64 a, .int .i64 b] = some (pairV (a, b), h) := fin_ii'
theorem inW_iff {n a b : Int} : inW n a b = true ↔ a ≤ n ∧ n ≤ b := by
  unfold inW
  simp only [Bool.and_eq_true, decide_eq_true_eq]
theorem c65 (s : Sng) (hl : SngLen s) (number note : Int) (h : PHeap) : Γ0 65 [.agg s.cs, .int .i64 number, .int .i64 note] h = some (pairV (playV s number note), h) := by
  refine gbody (F := A65) (by kernel_rfl) 1 ?_
  rw [s65_eq]; unfold s65 playV
  have hq := q_put s.dia (vs := Z29) rfl
  cases hb : qB s.dia 6 with
  | true =>
    have hn : names s = s.inss.length := by unfold names; rw [hb]; rfl
    rw [hn]
    cases hw : inW number 1 (s.inss.length : Int) with
    | true =>
      obtain ⟨g1, g2⟩ := inW_iff.1 hw
      obtain ⟨m, rfl⟩ : ∃ m : Nat, number = ((m + 1 : Nat) : Int) := ⟨number.toNat - 1, by omega⟩
      obtain ⟨x, hx⟩ := lt_l (show m < s.inss.length by omega)
      have hil := hl.inss
      rw [Int.toNat_natCast, Nat.add_sub_cancel, hx]
      simp only [words, ↓KLn, Nat.reduceAdd, ↓K1n, sc_and, s_whole, c45, q_st, hq, q_6, hb, if_true, sc12, len_inss, c54, hw, Bool.not_true, Bool.false_eq_true, if_false, i_pred (show m < 9223372036854775807 by omega), idx_inss _ hx, ins_fptr, c111 x (hl.ins x (List.mem_of_getElem? hx)), pext0, pext1, sc11, len_smps]
      unfold capS
      by_cases hc : (keyV x note ((m + 1 : Nat) : Int)).2 > (s.smps.length : Int)
      · simp only [words, ↓KLn, Nat.reduceAdd, nth_one, hc, decide_true, if_true, fin_pair]
      · simp only [words, ↓KLn, Nat.reduceAdd, nth_one, hc, decide_false, Bool.false_eq_true, if_false, fin_pair]
    | false =>
      simp only [words, ↓KLn, Nat.reduceAdd, ↓K1n, sc_and, s_whole, c45, q_st, hq, q_6, hb, if_true, sc12, len_inss, c54, hw, Bool.not_false, Bool.false_eq_true, if_false, sc1]
      by_cases hd : s.dia = 6
      · have e : (s.dia == 6) = true := by rw [beq_iff_eq]; exact hd
        simp only [words, ↓KLn, Nat.reduceAdd, if_true, fin_pair, hd, beq_self_eq_true]
      · have e : (s.dia == 6) = false := by rw [beq_eq_false_iff_ne]; exact hd
        simp only [words, ↓KLn, Nat.reduceAdd, e, Bool.false_eq_true, if_false, fin_pair, hd]
  | false =>
    have hn : names s = s.smps.length := by unfold names; rw [hb]; rfl
    have hd := chip_insts hb
    rw [hn]
    cases hw : inW number 1 (s.smps.length : Int) with
    | true =>
      have hc : ¬ number > (s.smps.length : Int) := by have := inW_iff.1 hw; omega
      simp only [words, ↓KLn, Nat.reduceAdd, ↓K1n, sc_and, s_whole, c45, q_st, hq, q_6, hb, if_true, Bool.false_eq_true, if_false, sc11, len_smps, c54, hw, Bool.not_true, nth_one, hc, decide_false, fin_pair]
    | false =>
      simp only [words, ↓KLn, Nat.reduceAdd, ↓K1n, sc_and, s_whole, c45, q_st, hq, q_6, hb, if_true, Bool.false_eq_true, if_false, sc11, len_smps, c54, hw, Bool.not_false, fin_pair, hd]
theorem c21 (s : Sng) (hl : SngLen s) (number note : Int) (h : PHeap) : Γ0 21 [.agg s.cs, .int .i64 number, .int .i64 note] h = some (sampV s number note, h) := by
  refine gbody (F := A21) (by kernel_rfl) 1 ?_
  rw [s21_eq]; unfold s21 sampV
  cases hv : ((wrongP s).2.2 == 0) with
  | false => simp only [words, ↓KLn, Nat.reduceAdd, ↓K1n, sc_or, s_whole, c16 s hl, hv, Bool.not_false, Bool.true_eq_false, Bool.false_eq_true, if_true, if_false, false_and, fin_pair]
  | true =>
    cases hn : inW note 0 119 with
    | false => simp only [words, ↓KLn, Nat.reduceAdd, ↓K1n, sc_or, s_whole, c16 s hl, hv, c54, hn, Bool.not_true, Bool.not_false, Bool.true_eq_false, Bool.false_eq_true, if_true, if_false, and_false, fin_pair]
    | true => simp only [words, ↓KLn, Nat.reduceAdd, ↓K1n, sc_or, s_whole, c16 s hl, hv, c54, hn, Bool.not_true, Bool.not_false, Bool.true_eq_false, Bool.false_eq_true, if_true, if_false, and_true, c65 s hl, pext0, pext1, fin_pair]
theorem c66 (s : Sng) (hl : SngLen s) (ok : SngOK s) (number note : Int) (h : PHeap) : Γ0 66 [.agg s.cs, .int .i64 number, .int .i64 note] h = some (if inW note 0 119 = true then pairV (playV s number note) else pairV (0, 0), h) := by
  refine gbody (F := A66) (by kernel_rfl) 1 ?_
  rw [s66_eq]; unfold s66 playV
  cases hno : inW note 0 119 with
  | false => simp only [words, ↓KLn, Nat.reduceAdd, c57, hno, Bool.not_false, if_true, Bool.false_eq_true, if_false, fin_pair]
  | true =>
    cases hw : inW number 1 (names s) with
    | false =>
      simp only [words, ↓KLn, Nat.reduceAdd, c57, hno, Bool.not_true, Bool.not_false, if_true, Bool.false_eq_true, if_false, s_whole, c112, hw, sc1]
      by_cases hd : s.dia = 6
      · have e : (s.dia == 6) = true := by rw [beq_iff_eq]; exact hd
        simp only [words, ↓KLn, Nat.reduceAdd, if_true, fin_pair, hd, beq_self_eq_true]
      · have e : (s.dia == 6) = false := by rw [beq_eq_false_iff_ne]; exact hd
        simp only [words, ↓KLn, Nat.reduceAdd, e, Bool.false_eq_true, if_false, fin_pair, hd]
    | true =>
      cases hb : qB s.dia 6 with
      | false => simp only [words, ↓KLn, Nat.reduceAdd, c57, hno, Bool.not_true, Bool.not_false, if_true, Bool.false_eq_true, if_false, s_whole, c112, hw, c52, hb, fin_pair]
      | true =>
        have hn : names s = s.inss.length := by unfold names; rw [hb]; rfl
        have hw2 := hw
        rw [hn] at hw2
        obtain ⟨g1, g2⟩ := inW_iff.1 hw2
        obtain ⟨m, rfl⟩ : ∃ m : Nat, number = ((m + 1 : Nat) : Int) := ⟨number.toNat - 1, by omega⟩
        obtain ⟨x, hx⟩ := lt_l (show m < s.inss.length by omega)
        have hil := hl.inss
        obtain ⟨n1, n2⟩ := inW_iff.1 hno
        obtain ⟨k, rfl⟩ : ∃ k : Nat, note = (k : Int) := ⟨note.toNat, by omega⟩
        have hv := (ins_ok ok (List.mem_of_getElem? hx)).1
        have hkv : keyV x (k : Int) ((m + 1 : Nat) : Int) = keyAt x k ((m + 1 : Nat) : Int) := by
          unfold keyV
          rw [if_pos ⟨hv, n1, n2⟩, Int.toNat_natCast]
        have hkl : x.keys.length = 0 ∨ k < x.keys.length := by
          rcases keys_120 hv with h0 | h0
          · exact .inl h0
          · right; omega
        rw [Int.toNat_natCast, Nat.add_sub_cancel, hx]
        simp only [words, ↓KLn, Nat.reduceAdd, c57, hno, Bool.not_true, if_true, Bool.false_eq_true, if_false, s_whole, c112, hw, c52, hb, sc12, i_pred (show m < 9223372036854775807 by omega), idx_inss _ hx, ins_fptr, c113 x k _ _ hkl, pext0, pext1, sc11, len_smps, hkv]
        unfold capS
        by_cases hc : (keyAt x k ((m + 1 : Nat) : Int)).2 > (s.smps.length : Int)
        · simp only [words, ↓KLn, Nat.reduceAdd, hc, decide_true, if_true, fin_pair]
        · simp only [words, ↓KLn, Nat.reduceAdd, hc, decide_false, Bool.false_eq_true, if_false, fin_pair]
theorem c22 (s : Sng) (hl : SngLen s) (number note : Int) (h : PHeap) : Γ0 22 [.agg s.cs, .int .i64 number, .int .i64 note] h = some (sampV s number note, h) := by
  refine gbody (F := A22) (by kernel_rfl) 1 ?_
  rw [s22_eq]; unfold s22 sampV
  cases hv : ((wrongP s).2.2 == 0) with
  | false => simp only [words, ↓KLn, Nat.reduceAdd, s_whole, c47 s hl, hv, Bool.not_false, Bool.false_eq_true, if_true, if_false, false_and, fin_pair]
  | true =>
    simp only [words, ↓KLn, Nat.reduceAdd, s_whole, c47 s hl, hv, Bool.not_true, Bool.false_eq_true, if_false, c66 s hl (sng_ok hv)]
    cases hn : inW note 0 119 with
    | false => simp only [words, ↓KLn, Nat.reduceAdd, Bool.false_eq_true, if_false, and_false, pext0, pext1, fin_pair]
    | true => simp only [words, ↓KLn, Nat.reduceAdd, if_true, and_true, pext0, pext1, fin_pair]
theorem c67 (l : List Int) (hm : l.length < 9223372036854775807) (h : PHeap) : Γ0 67 [ints l, ints l] h = some (.bool true, h) := by
  refine gbody (F := A67) (by kernel_rfl) (l.length + 1) ?_
  rw [s67_eq]; unfold s67
  simp only [words, ↓KLn, Nat.reduceAdd, len_ints, bne_self_eq_false, Bool.false_eq_true, if_false]
  refine loop_pure (fun i => [.int .i64 (i : Int)]) l.length (by omega) rfl (fun i hi K => ?_) fun K => ?_
  · obtain ⟨x, hx⟩ := lt_l hi
    unfold s67_L0
    simp only [words, ↓KLn, Nat.reduceAdd, ltT hi, decide_true, if_true, idx_ints _ hx, iv0, bne_self_eq_false, Bool.false_eq_true, if_false, succ63 (show i < 9223372036854775807 by omega), trim_self]
  · unfold s67_L0
    simp only [words, ↓KLn, Nat.reduceAdd, ltF, decide_false, Bool.false_eq_true, if_false, fin_bool0]
theorem c23 (l : List Int) (hm : l.length < 9223372036854775807) (h : PHeap) : Γ0 23 [ints l, ints l] h = some (.bool true, h) := by
  refine gbody (F := A23) (by kernel_rfl) 1 ?_
  rw [s23_eq]; unfold s23
  simp only [words, ↓KLn, Nat.reduceAdd, c67 l hm, fin_bool0]
theorem usedV_cases (s : Sng) : ∃ a b c : List Int, ∃ e : Int, usedV s = .tuple [ints a, ints b, ints c, .int .i64 e] ∧ a.length < 9223372036854775807 ∧ b.length < 9223372036854775807 ∧ c.length < 9223372036854775807 := by
  unfold usedV
  split
  · rename_i hv
    have ok := sng_ok hv
    have h1 := nm_len ok
    have h2 := cells_len ok
    have h3 := smps_len ok
    have g1 := dd_le (nm s.ords)
    have g2 := dd_le ((nm s.ords).flatMap (cnAt s))
    have g3 := dd_le ((usedN s).flatMap (smpsOf s))
    split
    · exact ⟨_, _, _, _, rfl, by unfold usedP; omega, by unfold usedM; omega, by unfold usedN; omega⟩
    · exact ⟨_, _, _, _, rfl, by unfold usedP; omega, by unfold usedN; omega, by simp⟩
  · exact ⟨_, _, _, _, rfl, by simp, by simp, by simp⟩
theorem y40 (a b c d : PV) : extractP (.tuple [a, b, c, d]) 0 = some a := nr rfl
theorem y41 (a b c d : PV) : extractP (.tuple [a, b, c, d]) 1 = some b := nr rfl
theorem y42 (a b c d : PV) : extractP (.tuple [a, b, c, d]) 2 = some c := nr rfl
theorem y43 (a b c d : PV) : extractP (.tuple [a, b, c, d]) 3 = some d := nr rfl
theorem sampV_pair (s : Sng) (a b : Int) : ∃ p, sampV s a b = pairV p := by
  unfold sampV
  split
  · exact ⟨_, rfl⟩
  · exact ⟨_, rfl⟩
theorem c6 (s : Sng) (hl : SngLen s) (a b : Int) (h : PHeap) : Γ0 6 [.agg s.cs, .int .i64 a, .int .i64 b] h = some (.bool true, h) := by
  refine gbody (F := A6) (by kernel_rfl) 1 ?_
  rw [s6_eq]; unfold s6
  obtain ⟨u1, u2, u3, u4, hu, l1, l2, l3⟩ := usedV_cases s
  obtain ⟨p, hp⟩ := sampV_pair s a b
  cases hv : decide (lightN s ≤ 60000) with
  | false => simp only [words, ↓KLn, Nat.reduceAdd, s_whole, c7 s hl, hv, Bool.not_false, if_true, c8, fin_bool]
  | true => simp only [words, ↓KLn, Nat.reduceAdd, ↓K1n, sc_and, s_whole, c7 s hl, hv, Bool.not_true, Bool.false_eq_true, if_false, if_true, c19 s hl, c20 s hl, c21 s hl, c22 s hl, hu, hp, y40, y41, y42, y43, pext0, pext1, beq_self_eq_true, c23 u1 l1, c23 u2 l2, c23 u3 l3, c8, fin_bool]
end Go.Vm.X


namespace Go.Proofs
open Go.Shelf
def Tryz.lays189_ren : Go.Shelf.Ren := ⟨fun | 189 => 144 | 125 => 169 | 257 => 168 | 128 => 186 | 129 => 187 | 294 => 177 | 295 => 178 | 296 => 179 | 297 => 180 | 298 => 181 | 299 => 182 | 216 => 183 | 300 => 184 | 301 => 185 | 328 => 196 | 329 => 197 | 330 => 198 | 331 => 199 | 332 => 200 | 215 => 201 | 343 => 202 | n => n, fun | 28 => 22 | 3 => 3 | 46 => 150 | 0 => 0 | 51 => 172 | 53 => 175 | 4 => 4 | 183 => 190 | 182 => 189 | 131 => 194 | 5 => 5 | 9 => 9 | 218 => 199 | 222 => 203 | 228 => 205 | 229 => 48 | n => n, fun | n => n⟩
theorem Tryz.lays189 : Go.Proofs.Lays.n189 Tryz.prog Tryz.lays189_ren := {
  mixed := by kernel_rfl
  f125 := Tryz.func169.trans (congrArg some (by kernel_rfl))
  f128 := Tryz.func186.trans (congrArg some (by kernel_rfl))
  f129 := Tryz.func187.trans (congrArg some (by kernel_rfl))
  f189 := Tryz.func144.trans (congrArg some (by kernel_rfl))
  f215 := Tryz.func201.trans (congrArg some (by kernel_rfl))
  f216 := Tryz.func183.trans (congrArg some (by kernel_rfl))
  f257 := Tryz.func168.trans (congrArg some (by kernel_rfl))
  f294 := Tryz.func177.trans (congrArg some (by kernel_rfl))
  f295 := Tryz.func178.trans (congrArg some (by kernel_rfl))
  f296 := Tryz.func179.trans (congrArg some (by kernel_rfl))
  f297 := Tryz.func180.trans (congrArg some (by kernel_rfl))
  f298 := Tryz.func181.trans (congrArg some (by kernel_rfl))
  f299 := Tryz.func182.trans (congrArg some (by kernel_rfl))
  f300 := Tryz.func184.trans (congrArg some (by kernel_rfl))
  f301 := Tryz.func185.trans (congrArg some (by kernel_rfl))
  f328 := Tryz.func196.trans (congrArg some (by kernel_rfl))
  f329 := Tryz.func197.trans (congrArg some (by kernel_rfl))
  f330 := Tryz.func198.trans (congrArg some (by kernel_rfl))
  f331 := Tryz.func199.trans (congrArg some (by kernel_rfl))
  f332 := Tryz.func200.trans (congrArg some (by kernel_rfl))
  f343 := Tryz.func202.trans (congrArg some (by kernel_rfl))
  t0 := Tryz.underlying0
  a0 := Tryz.isAgg0
  z0 := Tryz.sizeOf0
  v0 := Tryz.zeroValue0
  t3 := Tryz.underlying3
  a3 := Tryz.isAgg3
  z3 := Tryz.sizeOf3
  v3 := Tryz.zeroValue3
  t4 := Tryz.underlying4
  a4 := Tryz.isAgg4
  z4 := Tryz.sizeOf4
  v4 := Tryz.zeroValue4
  t5 := Tryz.underlying5
  a5 := Tryz.isAgg5
  z5 := Tryz.sizeOf5
  v5 := Tryz.zeroValue5
  t9 := Tryz.underlying9
  a9 := Tryz.isAgg9
  z9 := Tryz.sizeOf9
  v9 := Tryz.zeroValue9
  t28 := Tryz.underlying22
  a28 := Tryz.isAgg22
  z28 := Tryz.sizeOf22
  v28 := Tryz.zeroValue22
  t46 := Tryz.underlying150
  a46 := Tryz.isAgg150
  z46 := Tryz.sizeOf150
  v46 := Tryz.zeroValue150
  t51 := Tryz.underlying172
  a51 := Tryz.isAgg172
  z51 := Tryz.sizeOf172
  v51 := Tryz.zeroValue172
  t53 := Tryz.underlying175
  a53 := Tryz.isAgg175
  z53 := Tryz.sizeOf175
  v53 := Tryz.zeroValue175
  t131 := Tryz.underlying194
  a131 := Tryz.isAgg194
  z131 := Tryz.sizeOf194
  v131 := Tryz.zeroValue194
  t182 := Tryz.underlying189
  a182 := Tryz.isAgg189
  z182 := Tryz.sizeOf189
  v182 := Tryz.zeroValue189
  t183 := Tryz.underlying190
  a183 := Tryz.isAgg190
  z183 := Tryz.sizeOf190
  v183 := Tryz.zeroValue190
  t218 := Tryz.underlying199
  a218 := Tryz.isAgg199
  z218 := Tryz.sizeOf199
  v218 := Tryz.zeroValue199
  t222 := Tryz.underlying203
  a222 := Tryz.isAgg203
  z222 := Tryz.sizeOf203
  v222 := Tryz.zeroValue203
  t228 := Tryz.underlying205
  a228 := Tryz.isAgg205
  z228 := Tryz.sizeOf205
  v228 := Tryz.zeroValue205
  t229 := Tryz.underlying48
  a229 := Tryz.isAgg48
  z229 := Tryz.sizeOf48
  v229 := Tryz.zeroValue48 }
end Go.Proofs
namespace Go.Vm.X
open Go.Am Go.Vm Go.Proofs
theorem sort_enters : ∀ (xs : Array Value) (w : World), (callFunc 144 xs).run Tryz.prog w = .ok (.enter 144 xs) w := fun xs w => enter_run Tryz.func144 rfl (by kernel_rfl)
theorem sort_ok : CallOk Tryz.prog (sortA 144) := sortA_ok (L := [144, Tryz.lays189_ren.f 191, 168, 169, 177, 178, 179, 180, 181, 182, 183, 184, 185, 187, 196, 197, 198, 199, 200, 201, 202]) sort_enters (fun D blk off cap zs w hH hb hl => AnyS.slices_Sort_int_in Tryz.lays189 D blk off cap zs w hH hb hl) (fun D p cap w => AnyS.slices_Sort_int_none_in Tryz.lays189 D p cap w) rfl
theorem both_ok : CallOk Tryz.prog (orA (idxA 171) (sortA 144)) := orA_ok idx_ok sort_ok
end Go.Vm.X


set_option linter.unusedVariables false
set_option linter.unusedSimpArgs false
namespace Go.Vm.X
open Go.Am Go.Vm
structure DCell where
  Note : Int
  Inst : Int
  VolCmd : Int
  VolArg : Int
  Effect : Int
  Param : Int
def DCell.dat (t : DCell) : List Dat := [.v (.int .i64 t.Note), .v (.int .i64 t.Inst), .v (.int .i64 t.VolCmd), .v (.int .i64 t.VolArg), .v (.int .i64 t.Effect), .v (.int .i64 t.Param)]
def DCell.ok (t : DCell) : Prop := isI64 t.Note ∧ isI64 t.Inst ∧ isI64 t.VolCmd ∧ isI64 t.VolArg ∧ isI64 t.Effect ∧ isI64 t.Param
def DCell.shp : List Shp := [.int .i64, .int .i64, .int .i64, .int .i64, .int .i64, .int .i64]
theorem DCell.len (t : DCell) : t.dat.length = 6 := rfl
theorem DCell.of {r : List Dat} (h : HSL DCell.shp r) : ∃ t, r = DCell.dat t ∧ t.ok := by
  unfold DCell.shp at h
  obtain ⟨d0, r0, rfl, h0, g0⟩ := HSL.cons_inv h
  obtain ⟨x0, rfl, w0⟩ := HS.i64_inv h0
  obtain ⟨d1, r1, rfl, h1, g1⟩ := HSL.cons_inv g0
  obtain ⟨x1, rfl, w1⟩ := HS.i64_inv h1
  obtain ⟨d2, r2, rfl, h2, g2⟩ := HSL.cons_inv g1
  obtain ⟨x2, rfl, w2⟩ := HS.i64_inv h2
  obtain ⟨d3, r3, rfl, h3, g3⟩ := HSL.cons_inv g2
  obtain ⟨x3, rfl, w3⟩ := HS.i64_inv h3
  obtain ⟨d4, r4, rfl, h4, g4⟩ := HSL.cons_inv g3
  obtain ⟨x4, rfl, w4⟩ := HS.i64_inv h4
  obtain ⟨d5, r5, rfl, h5, g5⟩ := HSL.cons_inv g4
  obtain ⟨x5, rfl, w5⟩ := HS.i64_inv h5
  obtain rfl := HSL.nil_inv g5
  exact ⟨⟨x0, x1, x2, x3, x4, x5⟩, rfl, ⟨w0, w1, w2, w3, w4, w5⟩⟩
def DCell.pv (t : DCell) : List PV := [.int .i64 t.Note, .int .i64 t.Inst, .int .i64 t.VolCmd, .int .i64 t.VolArg, .int .i64 t.Effect, .int .i64 t.Param]
theorem DCell.pv_eq (t : DCell) : pvRow DCell.shp t.dat = t.pv := by
  unfold DCell.shp DCell.dat DCell.pv
  simp only [pvRow_nil, pvRow_cons, pv1_i, pv1_b, pv1_s]
structure DPattern where
  Rows : Int
  Cells : List DCell
def DPattern.dat (t : DPattern) : List Dat := [.v (.int .i64 t.Rows), .sl (t.Cells.map DCell.dat)]
def DPattern.ok (t : DPattern) : Prop := isI64 t.Rows ∧ (dokL DCell.ok) t.Cells
def DPattern.shp : List Shp := [.int .i64, .sl DCell.shp]
theorem DPattern.len (t : DPattern) : t.dat.length = 2 := rfl
theorem DPattern.of {r : List Dat} (h : HSL DPattern.shp r) : ∃ t, r = DPattern.dat t ∧ t.ok := by
  unfold DPattern.shp at h
  obtain ⟨d0, r0, rfl, h0, g0⟩ := HSL.cons_inv h
  obtain ⟨x0, rfl, w0⟩ := HS.i64_inv h0
  obtain ⟨d1, r1, rfl, h1, g1⟩ := HSL.cons_inv g0
  obtain ⟨x1, rfl, w1⟩ := sl_typed h1 (fun _ h => DCell.of h)
  obtain rfl := HSL.nil_inv g1
  exact ⟨⟨x0, x1⟩, rfl, ⟨w0, w1⟩⟩
def DPattern.pv (t : DPattern) : List PV := [.int .i64 t.Rows, .frz 6 (t.Cells.map DCell.pv)]
theorem DPattern.pv_eq (t : DPattern) : pvRow DPattern.shp t.dat = t.pv := by
  unfold DPattern.shp DPattern.dat DPattern.pv
  simp only [pvRow_nil, pvRow_cons, pv1_i, pv1_b, pv1_s, (show pv1 (.sl DCell.shp) (.sl (t.Cells.map DCell.dat)) = .frz 6 (t.Cells.map DCell.pv) from pv_map DCell.pv_eq _)]
structure DSample where
  Name : ByteArray
  Data : List Int
  Bits : Int
  Rate : Int
  Volume : Int
  Pan : Int
  Fine : Int
  Loop : Int
  Start : Int
  End : Int
  Sus : Int
  SusStart : Int
  SusEnd : Int
def DSample.dat (t : DSample) : List Dat := [.v (.string t.Name), .sl (t.Data.map iD), .v (.int .i64 t.Bits), .v (.int .i64 t.Rate), .v (.int .i64 t.Volume), .v (.int .i64 t.Pan), .v (.int .i64 t.Fine), .v (.int .i64 t.Loop), .v (.int .i64 t.Start), .v (.int .i64 t.End), .v (.int .i64 t.Sus), .v (.int .i64 t.SusStart), .v (.int .i64 t.SusEnd)]
def DSample.ok (t : DSample) : Prop := (fun s => s.size ≤ maxLen) t.Name ∧ (dokL isI64) t.Data ∧ isI64 t.Bits ∧ isI64 t.Rate ∧ isI64 t.Volume ∧ isI64 t.Pan ∧ isI64 t.Fine ∧ isI64 t.Loop ∧ isI64 t.Start ∧ isI64 t.End ∧ isI64 t.Sus ∧ isI64 t.SusStart ∧ isI64 t.SusEnd
def DSample.shp : List Shp := [.str, .sl [.int .i64], .int .i64, .int .i64, .int .i64, .int .i64, .int .i64, .int .i64, .int .i64, .int .i64, .int .i64, .int .i64, .int .i64]
theorem DSample.len (t : DSample) : t.dat.length = 13 := rfl
theorem DSample.of {r : List Dat} (h : HSL DSample.shp r) : ∃ t, r = DSample.dat t ∧ t.ok := by
  unfold DSample.shp at h
  obtain ⟨d0, r0, rfl, h0, g0⟩ := HSL.cons_inv h
  obtain ⟨x0, rfl, w0⟩ := HS.str_inv h0
  obtain ⟨d1, r1, rfl, h1, g1⟩ := HSL.cons_inv g0
  obtain ⟨x1, rfl, w1⟩ := sl_typed h1 (fun _ h => of_int h)
  obtain ⟨d2, r2, rfl, h2, g2⟩ := HSL.cons_inv g1
  obtain ⟨x2, rfl, w2⟩ := HS.i64_inv h2
  obtain ⟨d3, r3, rfl, h3, g3⟩ := HSL.cons_inv g2
  obtain ⟨x3, rfl, w3⟩ := HS.i64_inv h3
  obtain ⟨d4, r4, rfl, h4, g4⟩ := HSL.cons_inv g3
  obtain ⟨x4, rfl, w4⟩ := HS.i64_inv h4
  obtain ⟨d5, r5, rfl, h5, g5⟩ := HSL.cons_inv g4
  obtain ⟨x5, rfl, w5⟩ := HS.i64_inv h5
  obtain ⟨d6, r6, rfl, h6, g6⟩ := HSL.cons_inv g5
  obtain ⟨x6, rfl, w6⟩ := HS.i64_inv h6
  obtain ⟨d7, r7, rfl, h7, g7⟩ := HSL.cons_inv g6
  obtain ⟨x7, rfl, w7⟩ := HS.i64_inv h7
  obtain ⟨d8, r8, rfl, h8, g8⟩ := HSL.cons_inv g7
  obtain ⟨x8, rfl, w8⟩ := HS.i64_inv h8
  obtain ⟨d9, r9, rfl, h9, g9⟩ := HSL.cons_inv g8
  obtain ⟨x9, rfl, w9⟩ := HS.i64_inv h9
  obtain ⟨d10, r10, rfl, h10, g10⟩ := HSL.cons_inv g9
  obtain ⟨x10, rfl, w10⟩ := HS.i64_inv h10
  obtain ⟨d11, r11, rfl, h11, g11⟩ := HSL.cons_inv g10
  obtain ⟨x11, rfl, w11⟩ := HS.i64_inv h11
  obtain ⟨d12, r12, rfl, h12, g12⟩ := HSL.cons_inv g11
  obtain ⟨x12, rfl, w12⟩ := HS.i64_inv h12
  obtain rfl := HSL.nil_inv g12
  exact ⟨⟨x0, x1, x2, x3, x4, x5, x6, x7, x8, x9, x10, x11, x12⟩, rfl, ⟨w0, w1, w2, w3, w4, w5, w6, w7, w8, w9, w10, w11, w12⟩⟩
def DSample.pv (t : DSample) : List PV := [.str t.Name, .frz 1 (t.Data.map iV), .int .i64 t.Bits, .int .i64 t.Rate, .int .i64 t.Volume, .int .i64 t.Pan, .int .i64 t.Fine, .int .i64 t.Loop, .int .i64 t.Start, .int .i64 t.End, .int .i64 t.Sus, .int .i64 t.SusStart, .int .i64 t.SusEnd]
theorem DSample.pv_eq (t : DSample) : pvRow DSample.shp t.dat = t.pv := by
  unfold DSample.shp DSample.dat DSample.pv
  simp only [pvRow_nil, pvRow_cons, pv1_i, pv1_b, pv1_s, (show pv1 (.sl [.int .i64]) (.sl (t.Data.map iD)) = .frz 1 (t.Data.map iV) from pv_map row_i64 _)]
structure DKey where
  Note : Int
  Sample : Int
def DKey.dat (t : DKey) : List Dat := [.v (.int .i64 t.Note), .v (.int .i64 t.Sample)]
def DKey.ok (t : DKey) : Prop := isI64 t.Note ∧ isI64 t.Sample
def DKey.shp : List Shp := [.int .i64, .int .i64]
theorem DKey.len (t : DKey) : t.dat.length = 2 := rfl
theorem DKey.of {r : List Dat} (h : HSL DKey.shp r) : ∃ t, r = DKey.dat t ∧ t.ok := by
  unfold DKey.shp at h
  obtain ⟨d0, r0, rfl, h0, g0⟩ := HSL.cons_inv h
  obtain ⟨x0, rfl, w0⟩ := HS.i64_inv h0
  obtain ⟨d1, r1, rfl, h1, g1⟩ := HSL.cons_inv g0
  obtain ⟨x1, rfl, w1⟩ := HS.i64_inv h1
  obtain rfl := HSL.nil_inv g1
  exact ⟨⟨x0, x1⟩, rfl, ⟨w0, w1⟩⟩
def DKey.pv (t : DKey) : List PV := [.int .i64 t.Note, .int .i64 t.Sample]
theorem DKey.pv_eq (t : DKey) : pvRow DKey.shp t.dat = t.pv := by
  unfold DKey.shp DKey.dat DKey.pv
  simp only [pvRow_nil, pvRow_cons, pv1_i, pv1_b, pv1_s]
structure DPoint where
  Tick : Int
  Value_ : Int
def DPoint.dat (t : DPoint) : List Dat := [.v (.int .i64 t.Tick), .v (.int .i64 t.Value_)]
def DPoint.ok (t : DPoint) : Prop := isI64 t.Tick ∧ isI64 t.Value_
def DPoint.shp : List Shp := [.int .i64, .int .i64]
theorem DPoint.len (t : DPoint) : t.dat.length = 2 := rfl
theorem DPoint.of {r : List Dat} (h : HSL DPoint.shp r) : ∃ t, r = DPoint.dat t ∧ t.ok := by
  unfold DPoint.shp at h
  obtain ⟨d0, r0, rfl, h0, g0⟩ := HSL.cons_inv h
  obtain ⟨x0, rfl, w0⟩ := HS.i64_inv h0
  obtain ⟨d1, r1, rfl, h1, g1⟩ := HSL.cons_inv g0
  obtain ⟨x1, rfl, w1⟩ := HS.i64_inv h1
  obtain rfl := HSL.nil_inv g1
  exact ⟨⟨x0, x1⟩, rfl, ⟨w0, w1⟩⟩
def DPoint.pv (t : DPoint) : List PV := [.int .i64 t.Tick, .int .i64 t.Value_]
theorem DPoint.pv_eq (t : DPoint) : pvRow DPoint.shp t.dat = t.pv := by
  unfold DPoint.shp DPoint.dat DPoint.pv
  simp only [pvRow_nil, pvRow_cons, pv1_i, pv1_b, pv1_s]
structure DEnvelope where
  On : Bool
  Points : List DPoint
  Sus : Bool
  SusStart : Int
  SusEnd : Int
  Loop : Bool
  LoopStart : Int
  LoopEnd : Int
def DEnvelope.dat (t : DEnvelope) : List Dat := [.v (.bool t.On), .sl (t.Points.map DPoint.dat), .v (.bool t.Sus), .v (.int .i64 t.SusStart), .v (.int .i64 t.SusEnd), .v (.bool t.Loop), .v (.int .i64 t.LoopStart), .v (.int .i64 t.LoopEnd)]
def DEnvelope.ok (t : DEnvelope) : Prop := (fun _ => True) t.On ∧ (dokL DPoint.ok) t.Points ∧ (fun _ => True) t.Sus ∧ isI64 t.SusStart ∧ isI64 t.SusEnd ∧ (fun _ => True) t.Loop ∧ isI64 t.LoopStart ∧ isI64 t.LoopEnd
def DEnvelope.shp : List Shp := [.bool, .sl DPoint.shp, .bool, .int .i64, .int .i64, .bool, .int .i64, .int .i64]
theorem DEnvelope.len (t : DEnvelope) : t.dat.length = 8 := rfl
theorem DEnvelope.of {r : List Dat} (h : HSL DEnvelope.shp r) : ∃ t, r = DEnvelope.dat t ∧ t.ok := by
  unfold DEnvelope.shp at h
  obtain ⟨d0, r0, rfl, h0, g0⟩ := HSL.cons_inv h
  obtain ⟨x0, rfl⟩ := HS.bool_inv h0
  have w0 : True := trivial
  obtain ⟨d1, r1, rfl, h1, g1⟩ := HSL.cons_inv g0
  obtain ⟨x1, rfl, w1⟩ := sl_typed h1 (fun _ h => DPoint.of h)
  obtain ⟨d2, r2, rfl, h2, g2⟩ := HSL.cons_inv g1
  obtain ⟨x2, rfl⟩ := HS.bool_inv h2
  have w2 : True := trivial
  obtain ⟨d3, r3, rfl, h3, g3⟩ := HSL.cons_inv g2
  obtain ⟨x3, rfl, w3⟩ := HS.i64_inv h3
  obtain ⟨d4, r4, rfl, h4, g4⟩ := HSL.cons_inv g3
  obtain ⟨x4, rfl, w4⟩ := HS.i64_inv h4
  obtain ⟨d5, r5, rfl, h5, g5⟩ := HSL.cons_inv g4
  obtain ⟨x5, rfl⟩ := HS.bool_inv h5
  have w5 : True := trivial
  obtain ⟨d6, r6, rfl, h6, g6⟩ := HSL.cons_inv g5
  obtain ⟨x6, rfl, w6⟩ := HS.i64_inv h6
  obtain ⟨d7, r7, rfl, h7, g7⟩ := HSL.cons_inv g6
  obtain ⟨x7, rfl, w7⟩ := HS.i64_inv h7
  obtain rfl := HSL.nil_inv g7
  exact ⟨⟨x0, x1, x2, x3, x4, x5, x6, x7⟩, rfl, ⟨w0, w1, w2, w3, w4, w5, w6, w7⟩⟩
def DEnvelope.pv (t : DEnvelope) : List PV := [.bool t.On, .frz 2 (t.Points.map DPoint.pv), .bool t.Sus, .int .i64 t.SusStart, .int .i64 t.SusEnd, .bool t.Loop, .int .i64 t.LoopStart, .int .i64 t.LoopEnd]
theorem DEnvelope.pv_eq (t : DEnvelope) : pvRow DEnvelope.shp t.dat = t.pv := by
  unfold DEnvelope.shp DEnvelope.dat DEnvelope.pv
  simp only [pvRow_nil, pvRow_cons, pv1_i, pv1_b, pv1_s, (show pv1 (.sl DPoint.shp) (.sl (t.Points.map DPoint.dat)) = .frz 2 (t.Points.map DPoint.pv) from pv_map DPoint.pv_eq _)]
structure DInst where
  Name : ByteArray
  Keys : List DKey
  Volume : DEnvelope
  Panning : DEnvelope
  Pitch : DEnvelope
  Fade : Int
  NewNote : Int
  Dup : Int
  DupDo : Int
  Global : Int
  Cutoff : Int
  Resonance : Int
def DInst.dat (t : DInst) : List Dat := [.v (.string t.Name), .sl (t.Keys.map DKey.dat), .v (.bool t.Volume.On), .sl (t.Volume.Points.map DPoint.dat), .v (.bool t.Volume.Sus), .v (.int .i64 t.Volume.SusStart), .v (.int .i64 t.Volume.SusEnd), .v (.bool t.Volume.Loop), .v (.int .i64 t.Volume.LoopStart), .v (.int .i64 t.Volume.LoopEnd), .v (.bool t.Panning.On), .sl (t.Panning.Points.map DPoint.dat), .v (.bool t.Panning.Sus), .v (.int .i64 t.Panning.SusStart), .v (.int .i64 t.Panning.SusEnd), .v (.bool t.Panning.Loop), .v (.int .i64 t.Panning.LoopStart), .v (.int .i64 t.Panning.LoopEnd), .v (.bool t.Pitch.On), .sl (t.Pitch.Points.map DPoint.dat), .v (.bool t.Pitch.Sus), .v (.int .i64 t.Pitch.SusStart), .v (.int .i64 t.Pitch.SusEnd), .v (.bool t.Pitch.Loop), .v (.int .i64 t.Pitch.LoopStart), .v (.int .i64 t.Pitch.LoopEnd), .v (.int .i64 t.Fade), .v (.int .i64 t.NewNote), .v (.int .i64 t.Dup), .v (.int .i64 t.DupDo), .v (.int .i64 t.Global), .v (.int .i64 t.Cutoff), .v (.int .i64 t.Resonance)]
def DInst.ok (t : DInst) : Prop := (fun s => s.size ≤ maxLen) t.Name ∧ (dokL DKey.ok) t.Keys ∧ DEnvelope.ok t.Volume ∧ DEnvelope.ok t.Panning ∧ DEnvelope.ok t.Pitch ∧ isI64 t.Fade ∧ isI64 t.NewNote ∧ isI64 t.Dup ∧ isI64 t.DupDo ∧ isI64 t.Global ∧ isI64 t.Cutoff ∧ isI64 t.Resonance
def DInst.shp : List Shp := [.str, .sl DKey.shp, .bool, .sl DPoint.shp, .bool, .int .i64, .int .i64, .bool, .int .i64, .int .i64, .bool, .sl DPoint.shp, .bool, .int .i64, .int .i64, .bool, .int .i64, .int .i64, .bool, .sl DPoint.shp, .bool, .int .i64, .int .i64, .bool, .int .i64, .int .i64, .int .i64, .int .i64, .int .i64, .int .i64, .int .i64, .int .i64, .int .i64]
theorem DInst.len (t : DInst) : t.dat.length = 33 := rfl
theorem DInst.of {r : List Dat} (h : HSL DInst.shp r) : ∃ t, r = DInst.dat t ∧ t.ok := by
  unfold DInst.shp at h
  obtain ⟨d0, r0, rfl, h0, g0⟩ := HSL.cons_inv h
  obtain ⟨x0, rfl, w0⟩ := HS.str_inv h0
  obtain ⟨d1, r1, rfl, h1, g1⟩ := HSL.cons_inv g0
  obtain ⟨x1, rfl, w1⟩ := sl_typed h1 (fun _ h => DKey.of h)
  obtain ⟨d2, r2, rfl, h2, g2⟩ := HSL.cons_inv g1
  obtain ⟨x2, rfl⟩ := HS.bool_inv h2
  have w2 : True := trivial
  obtain ⟨d3, r3, rfl, h3, g3⟩ := HSL.cons_inv g2
  obtain ⟨x3, rfl, w3⟩ := sl_typed h3 (fun _ h => DPoint.of h)
  obtain ⟨d4, r4, rfl, h4, g4⟩ := HSL.cons_inv g3
  obtain ⟨x4, rfl⟩ := HS.bool_inv h4
  have w4 : True := trivial
  obtain ⟨d5, r5, rfl, h5, g5⟩ := HSL.cons_inv g4
  obtain ⟨x5, rfl, w5⟩ := HS.i64_inv h5
  obtain ⟨d6, r6, rfl, h6, g6⟩ := HSL.cons_inv g5
  obtain ⟨x6, rfl, w6⟩ := HS.i64_inv h6
  obtain ⟨d7, r7, rfl, h7, g7⟩ := HSL.cons_inv g6
  obtain ⟨x7, rfl⟩ := HS.bool_inv h7
  have w7 : True := trivial
  obtain ⟨d8, r8, rfl, h8, g8⟩ := HSL.cons_inv g7
  obtain ⟨x8, rfl, w8⟩ := HS.i64_inv h8
  obtain ⟨d9, r9, rfl, h9, g9⟩ := HSL.cons_inv g8
  obtain ⟨x9, rfl, w9⟩ := HS.i64_inv h9
  obtain ⟨d10, r10, rfl, h10, g10⟩ := HSL.cons_inv g9
  obtain ⟨x10, rfl⟩ := HS.bool_inv h10
  have w10 : True := trivial
  obtain ⟨d11, r11, rfl, h11, g11⟩ := HSL.cons_inv g10
  obtain ⟨x11, rfl, w11⟩ := sl_typed h11 (fun _ h => DPoint.of h)
  obtain ⟨d12, r12, rfl, h12, g12⟩ := HSL.cons_inv g11
  obtain ⟨x12, rfl⟩ := HS.bool_inv h12
  have w12 : True := trivial
  obtain ⟨d13, r13, rfl, h13, g13⟩ := HSL.cons_inv g12
  obtain ⟨x13, rfl, w13⟩ := HS.i64_inv h13
  obtain ⟨d14, r14, rfl, h14, g14⟩ := HSL.cons_inv g13
  obtain ⟨x14, rfl, w14⟩ := HS.i64_inv h14
  obtain ⟨d15, r15, rfl, h15, g15⟩ := HSL.cons_inv g14
  obtain ⟨x15, rfl⟩ := HS.bool_inv h15
  have w15 : True := trivial
  obtain ⟨d16, r16, rfl, h16, g16⟩ := HSL.cons_inv g15
  obtain ⟨x16, rfl, w16⟩ := HS.i64_inv h16
  obtain ⟨d17, r17, rfl, h17, g17⟩ := HSL.cons_inv g16
  obtain ⟨x17, rfl, w17⟩ := HS.i64_inv h17
  obtain ⟨d18, r18, rfl, h18, g18⟩ := HSL.cons_inv g17
  obtain ⟨x18, rfl⟩ := HS.bool_inv h18
  have w18 : True := trivial
  obtain ⟨d19, r19, rfl, h19, g19⟩ := HSL.cons_inv g18
  obtain ⟨x19, rfl, w19⟩ := sl_typed h19 (fun _ h => DPoint.of h)
  obtain ⟨d20, r20, rfl, h20, g20⟩ := HSL.cons_inv g19
  obtain ⟨x20, rfl⟩ := HS.bool_inv h20
  have w20 : True := trivial
  obtain ⟨d21, r21, rfl, h21, g21⟩ := HSL.cons_inv g20
  obtain ⟨x21, rfl, w21⟩ := HS.i64_inv h21
  obtain ⟨d22, r22, rfl, h22, g22⟩ := HSL.cons_inv g21
  obtain ⟨x22, rfl, w22⟩ := HS.i64_inv h22
  obtain ⟨d23, r23, rfl, h23, g23⟩ := HSL.cons_inv g22
  obtain ⟨x23, rfl⟩ := HS.bool_inv h23
  have w23 : True := trivial
  obtain ⟨d24, r24, rfl, h24, g24⟩ := HSL.cons_inv g23
  obtain ⟨x24, rfl, w24⟩ := HS.i64_inv h24
  obtain ⟨d25, r25, rfl, h25, g25⟩ := HSL.cons_inv g24
  obtain ⟨x25, rfl, w25⟩ := HS.i64_inv h25
  obtain ⟨d26, r26, rfl, h26, g26⟩ := HSL.cons_inv g25
  obtain ⟨x26, rfl, w26⟩ := HS.i64_inv h26
  obtain ⟨d27, r27, rfl, h27, g27⟩ := HSL.cons_inv g26
  obtain ⟨x27, rfl, w27⟩ := HS.i64_inv h27
  obtain ⟨d28, r28, rfl, h28, g28⟩ := HSL.cons_inv g27
  obtain ⟨x28, rfl, w28⟩ := HS.i64_inv h28
  obtain ⟨d29, r29, rfl, h29, g29⟩ := HSL.cons_inv g28
  obtain ⟨x29, rfl, w29⟩ := HS.i64_inv h29
  obtain ⟨d30, r30, rfl, h30, g30⟩ := HSL.cons_inv g29
  obtain ⟨x30, rfl, w30⟩ := HS.i64_inv h30
  obtain ⟨d31, r31, rfl, h31, g31⟩ := HSL.cons_inv g30
  obtain ⟨x31, rfl, w31⟩ := HS.i64_inv h31
  obtain ⟨d32, r32, rfl, h32, g32⟩ := HSL.cons_inv g31
  obtain ⟨x32, rfl, w32⟩ := HS.i64_inv h32
  obtain rfl := HSL.nil_inv g32
  exact ⟨⟨x0, x1, ⟨x2, x3, x4, x5, x6, x7, x8, x9⟩, ⟨x10, x11, x12, x13, x14, x15, x16, x17⟩, ⟨x18, x19, x20, x21, x22, x23, x24, x25⟩, x26, x27, x28, x29, x30, x31, x32⟩, rfl, ⟨w0, w1, ⟨w2, w3, w4, w5, w6, w7, w8, w9⟩, ⟨w10, w11, w12, w13, w14, w15, w16, w17⟩, ⟨w18, w19, w20, w21, w22, w23, w24, w25⟩, w26, w27, w28, w29, w30, w31, w32⟩⟩
def DInst.pv (t : DInst) : List PV := [.str t.Name, .frz 2 (t.Keys.map DKey.pv), .bool t.Volume.On, .frz 2 (t.Volume.Points.map DPoint.pv), .bool t.Volume.Sus, .int .i64 t.Volume.SusStart, .int .i64 t.Volume.SusEnd, .bool t.Volume.Loop, .int .i64 t.Volume.LoopStart, .int .i64 t.Volume.LoopEnd, .bool t.Panning.On, .frz 2 (t.Panning.Points.map DPoint.pv), .bool t.Panning.Sus, .int .i64 t.Panning.SusStart, .int .i64 t.Panning.SusEnd, .bool t.Panning.Loop, .int .i64 t.Panning.LoopStart, .int .i64 t.Panning.LoopEnd, .bool t.Pitch.On, .frz 2 (t.Pitch.Points.map DPoint.pv), .bool t.Pitch.Sus, .int .i64 t.Pitch.SusStart, .int .i64 t.Pitch.SusEnd, .bool t.Pitch.Loop, .int .i64 t.Pitch.LoopStart, .int .i64 t.Pitch.LoopEnd, .int .i64 t.Fade, .int .i64 t.NewNote, .int .i64 t.Dup, .int .i64 t.DupDo, .int .i64 t.Global, .int .i64 t.Cutoff, .int .i64 t.Resonance]
theorem DInst.pv_eq (t : DInst) : pvRow DInst.shp t.dat = t.pv := by
  unfold DInst.shp DInst.dat DInst.pv
  simp only [pvRow_nil, pvRow_cons, pv1_i, pv1_b, pv1_s, (show pv1 (.sl DKey.shp) (.sl (t.Keys.map DKey.dat)) = .frz 2 (t.Keys.map DKey.pv) from pv_map DKey.pv_eq _), (show pv1 (.sl DPoint.shp) (.sl (t.Volume.Points.map DPoint.dat)) = .frz 2 (t.Volume.Points.map DPoint.pv) from pv_map DPoint.pv_eq _), (show pv1 (.sl DPoint.shp) (.sl (t.Panning.Points.map DPoint.dat)) = .frz 2 (t.Panning.Points.map DPoint.pv) from pv_map DPoint.pv_eq _), (show pv1 (.sl DPoint.shp) (.sl (t.Pitch.Points.map DPoint.dat)) = .frz 2 (t.Pitch.Points.map DPoint.pv) from pv_map DPoint.pv_eq _)]
structure DSong where
  Name : ByteArray
  Dialect : Int
  Channels : Int
  Orders : List Int
  Restart : Int
  Speed : Int
  Tempo : Int
  Global : Int
  Linear : Bool
  Pans : List Int
  Patterns : List DPattern
  Samples : List DSample
  Insts : List DInst
def DSong.dat (t : DSong) : List Dat := [.v (.string t.Name), .v (.int .i64 t.Dialect), .v (.int .i64 t.Channels), .sl (t.Orders.map iD), .v (.int .i64 t.Restart), .v (.int .i64 t.Speed), .v (.int .i64 t.Tempo), .v (.int .i64 t.Global), .v (.bool t.Linear), .sl (t.Pans.map iD), .sl (t.Patterns.map DPattern.dat), .sl (t.Samples.map DSample.dat), .sl (t.Insts.map DInst.dat)]
def DSong.ok (t : DSong) : Prop := (fun s => s.size ≤ maxLen) t.Name ∧ isI64 t.Dialect ∧ isI64 t.Channels ∧ (dokL isI64) t.Orders ∧ isI64 t.Restart ∧ isI64 t.Speed ∧ isI64 t.Tempo ∧ isI64 t.Global ∧ (fun _ => True) t.Linear ∧ (dokL isI64) t.Pans ∧ (dokL DPattern.ok) t.Patterns ∧ (dokL DSample.ok) t.Samples ∧ (dokL DInst.ok) t.Insts
def DSong.shp : List Shp := [.str, .int .i64, .int .i64, .sl [.int .i64], .int .i64, .int .i64, .int .i64, .int .i64, .bool, .sl [.int .i64], .sl DPattern.shp, .sl DSample.shp, .sl DInst.shp]
theorem DSong.len (t : DSong) : t.dat.length = 13 := rfl
theorem DSong.of {r : List Dat} (h : HSL DSong.shp r) : ∃ t, r = DSong.dat t ∧ t.ok := by
  unfold DSong.shp at h
  obtain ⟨d0, r0, rfl, h0, g0⟩ := HSL.cons_inv h
  obtain ⟨x0, rfl, w0⟩ := HS.str_inv h0
  obtain ⟨d1, r1, rfl, h1, g1⟩ := HSL.cons_inv g0
  obtain ⟨x1, rfl, w1⟩ := HS.i64_inv h1
  obtain ⟨d2, r2, rfl, h2, g2⟩ := HSL.cons_inv g1
  obtain ⟨x2, rfl, w2⟩ := HS.i64_inv h2
  obtain ⟨d3, r3, rfl, h3, g3⟩ := HSL.cons_inv g2
  obtain ⟨x3, rfl, w3⟩ := sl_typed h3 (fun _ h => of_int h)
  obtain ⟨d4, r4, rfl, h4, g4⟩ := HSL.cons_inv g3
  obtain ⟨x4, rfl, w4⟩ := HS.i64_inv h4
  obtain ⟨d5, r5, rfl, h5, g5⟩ := HSL.cons_inv g4
  obtain ⟨x5, rfl, w5⟩ := HS.i64_inv h5
  obtain ⟨d6, r6, rfl, h6, g6⟩ := HSL.cons_inv g5
  obtain ⟨x6, rfl, w6⟩ := HS.i64_inv h6
  obtain ⟨d7, r7, rfl, h7, g7⟩ := HSL.cons_inv g6
  obtain ⟨x7, rfl, w7⟩ := HS.i64_inv h7
  obtain ⟨d8, r8, rfl, h8, g8⟩ := HSL.cons_inv g7
  obtain ⟨x8, rfl⟩ := HS.bool_inv h8
  have w8 : True := trivial
  obtain ⟨d9, r9, rfl, h9, g9⟩ := HSL.cons_inv g8
  obtain ⟨x9, rfl, w9⟩ := sl_typed h9 (fun _ h => of_int h)
  obtain ⟨d10, r10, rfl, h10, g10⟩ := HSL.cons_inv g9
  obtain ⟨x10, rfl, w10⟩ := sl_typed h10 (fun _ h => DPattern.of h)
  obtain ⟨d11, r11, rfl, h11, g11⟩ := HSL.cons_inv g10
  obtain ⟨x11, rfl, w11⟩ := sl_typed h11 (fun _ h => DSample.of h)
  obtain ⟨d12, r12, rfl, h12, g12⟩ := HSL.cons_inv g11
  obtain ⟨x12, rfl, w12⟩ := sl_typed h12 (fun _ h => DInst.of h)
  obtain rfl := HSL.nil_inv g12
  exact ⟨⟨x0, x1, x2, x3, x4, x5, x6, x7, x8, x9, x10, x11, x12⟩, rfl, ⟨w0, w1, w2, w3, w4, w5, w6, w7, w8, w9, w10, w11, w12⟩⟩
def DSong.pv (t : DSong) : List PV := [.str t.Name, .int .i64 t.Dialect, .int .i64 t.Channels, .frz 1 (t.Orders.map iV), .int .i64 t.Restart, .int .i64 t.Speed, .int .i64 t.Tempo, .int .i64 t.Global, .bool t.Linear, .frz 1 (t.Pans.map iV), .frz 2 (t.Patterns.map DPattern.pv), .frz 13 (t.Samples.map DSample.pv), .frz 33 (t.Insts.map DInst.pv)]
theorem DSong.pv_eq (t : DSong) : pvRow DSong.shp t.dat = t.pv := by
  unfold DSong.shp DSong.dat DSong.pv
  simp only [pvRow_nil, pvRow_cons, pv1_i, pv1_b, pv1_s, (show pv1 (.sl [.int .i64]) (.sl (t.Orders.map iD)) = .frz 1 (t.Orders.map iV) from pv_map row_i64 _), (show pv1 (.sl [.int .i64]) (.sl (t.Pans.map iD)) = .frz 1 (t.Pans.map iV) from pv_map row_i64 _), (show pv1 (.sl DPattern.shp) (.sl (t.Patterns.map DPattern.dat)) = .frz 2 (t.Patterns.map DPattern.pv) from pv_map DPattern.pv_eq _), (show pv1 (.sl DSample.shp) (.sl (t.Samples.map DSample.dat)) = .frz 13 (t.Samples.map DSample.pv) from pv_map DSample.pv_eq _), (show pv1 (.sl DInst.shp) (.sl (t.Insts.map DInst.dat)) = .frz 33 (t.Insts.map DInst.pv) from pv_map DInst.pv_eq _)]
end Go.Vm.X


set_option linter.unusedSimpArgs false
set_option linter.unusedVariables false
namespace Go.Vm.X
open Go.Am Go.Vm
def DCell.to (t : DCell) : Cell := ⟨t.Note, t.Inst, t.VolCmd, t.VolArg, t.Effect, t.Param⟩
def DPattern.to (t : DPattern) : Pat := (t.Rows, t.Cells.map DCell.to)
def DSample.to (t : DSample) : Smp := ⟨t.Name, t.Data, t.Bits, t.Rate, t.Volume, t.Pan, t.Fine, t.Loop, t.Start, t.End, t.Sus, t.SusStart, t.SusEnd⟩
def DKey.to (t : DKey) : Int × Int := (t.Note, t.Sample)
def DPoint.to (t : DPoint) : Int × Int := (t.Tick, t.Value_)
def DEnvelope.to (t : DEnvelope) : Env := ⟨t.On, t.Points.map DPoint.to, t.Sus, t.SusStart, t.SusEnd, t.Loop, t.LoopStart, t.LoopEnd⟩
def DInst.to (t : DInst) : Ins := ⟨t.Name, t.Keys.map DKey.to, t.Volume.to, t.Panning.to, t.Pitch.to, t.Fade, t.NewNote, t.Dup, t.DupDo, t.Global, t.Cutoff, t.Resonance⟩
def DSong.to (t : DSong) : Sng := ⟨t.Name, t.Dialect, t.Channels, t.Orders, t.Restart, t.Speed, t.Tempo, t.Global, t.Linear, t.Pans, t.Patterns.map DPattern.to, t.Samples.map DSample.to, t.Insts.map DInst.to⟩
theorem map_to {α β : Type} {f : α → β} {g : β → List PV} {k : α → List PV} (h : ∀ a, g (f a) = k a) (l : List α) : (l.map f).map g = l.map k := by
  rw [List.map_map]
  exact List.map_congr_left fun a _ => h a
theorem DPattern.to_cs (t : DPattern) : patC t.to = t.pv := by
  unfold patC cellsPV DPattern.to DPattern.pv
  rw [map_to (f := DCell.to) (g := Cell.cs) (k := DCell.pv) (fun a => rfl)]
theorem DEnvelope.to_pts (t : DEnvelope) : ptsPV t.to.pts = .frz 2 (t.Points.map DPoint.pv) := by
  unfold ptsPV DEnvelope.to
  rw [map_to (f := DPoint.to) (g := ptC) (k := DPoint.pv) (fun a => rfl)]
theorem DInst.to_cs (t : DInst) : t.to.cs = t.pv := by
  unfold Ins.cs Env.cs
  rw [show ptsPV t.to.vol.pts = .frz 2 (t.Volume.Points.map DPoint.pv) from t.Volume.to_pts, show ptsPV t.to.pan.pts = .frz 2 (t.Panning.Points.map DPoint.pv) from t.Panning.to_pts, show ptsPV t.to.pit.pts = .frz 2 (t.Pitch.Points.map DPoint.pv) from t.Pitch.to_pts]
  rw [show keysPV t.to.keys = .frz 2 (t.Keys.map DKey.pv) from congrArg (PV.frz 2) (map_to (f := DKey.to) (g := keyC) (k := DKey.pv) (fun a => rfl) _)]
  rfl
theorem DSong.to_cs (t : DSong) : t.to.cs = t.pv := by
  unfold Sng.cs
  rw [show patsPV t.to.pats = .frz 2 (t.Patterns.map DPattern.pv) from congrArg (PV.frz 2) (map_to (f := DPattern.to) (g := patC) (k := DPattern.pv) DPattern.to_cs _)]
  rw [show smpsPV t.to.smps = .frz 13 (t.Samples.map DSample.pv) from congrArg (PV.frz 13) (map_to (f := DSample.to) (g := Smp.cs) (k := DSample.pv) (fun a => rfl) _)]
  rw [show inssPV t.to.inss = .frz 33 (t.Insts.map DInst.pv) from congrArg (PV.frz 33) (map_to (f := DInst.to) (g := Ins.cs) (k := DInst.pv) DInst.to_cs _)]
  rfl
theorem len_ok {α : Type} {p : α → Prop} {l : List α} (h : dokL p l) : l.length < 9223372036854775808 := by
  have h1 := h.1
  have : maxLen = 9223372036854775807 := rfl
  omega
theorem len_okM {α β : Type} {p : α → Prop} {l : List α} {f : α → β} (h : dokL p l) : (l.map f).length < 9223372036854775808 := by rw [List.length_map]; exact len_ok h
theorem siz_ok {s : ByteArray} (h : s.size ≤ maxLen) : s.size < 9223372036854775808 := by
  have : maxLen = 9223372036854775807 := rfl
  omega
theorem DInst.to_len {t : DInst} (h : t.ok) : InsLen t.to := by
  obtain ⟨h1, h2, h3, h4, h5, _⟩ := h
  exact ⟨siz_ok h1, len_okM h2, len_okM h3.2.1, len_okM h4.2.1, len_okM h5.2.1⟩
theorem DSong.to_len {t : DSong} (h : t.ok) : SngLen t.to := by
  obtain ⟨h1, _, _, h2, _, _, _, _, _, h3, h4, h5, h6⟩ := h
  exact {
    name := siz_ok h1
    ords := len_ok h2
    pans := len_ok h3
    pats := len_okM h4
    cells := fun p hp => by
      obtain ⟨q, hq, rfl⟩ := List.mem_map.1 hp
      exact len_okM (h4.2 q hq).2
    smps := len_okM h5
    smp := fun p hp => by
      obtain ⟨q, hq, rfl⟩ := List.mem_map.1 hp
      exact ⟨siz_ok (h5.2 q hq).1, len_ok (h5.2 q hq).2.1⟩
    inss := len_okM h6
    ins := fun p hp => by
      obtain ⟨q, hq, rfl⟩ := List.mem_map.1 hp
      exact DInst.to_len (h6.2 q hq) }
end Go.Vm.X


namespace Go.Vm.X
open Go.Am Go.Vm
theorem c6d {t : DSong} (h : t.ok) (a b : Int) (hp : PHeap) : Γ0 6 [.agg t.pv, .int .i64 a, .int .i64 b] hp = some (.bool true, hp) := by
  rw [← t.to_cs]
  exact c6 t.to (DSong.to_len h) a b hp
end Go.Vm.X

