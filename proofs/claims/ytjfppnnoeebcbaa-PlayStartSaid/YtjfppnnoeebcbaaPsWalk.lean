/- Where a song starts: the two walks over the orders, in the machine. -/
import Derived.Test.YtjfppnnoeebcbaaPsTame
set_option linter.unusedSimpArgs false
set_option linter.unusedVariables false
namespace Go.Vm.X
open Go.Am Go.Vm
attribute [local congr] bind_c ifP_c loop_c K1_c ite_c fork_c guard_c unl_c

/-- The rows of the pattern at a place. -/
def rowsO (s : Sng) (o : Nat) : Int := match s.ords[o]? with | some x => (match s.pats[x.toNat]? with | some p => p.1 | none => 0) | none => 0
def rowF (s : Sng) (r : Int) (o i : Nat) : Int := if ((decide ((i : Int) > 0) || decide (r < 0)) || decide (r ≥ rowsO s o)) = true then 0 else r
def findV (s : Sng) (r : Int) (w : Option (Nat × Nat)) : PV := match w with
  | some (o, i) => .tuple [.int .i64 o, .int .i64 (rowF s r o i), .bool true]
  | none => .tuple [.int .i64 0, .int .i64 0, .bool false]
theorem findV_some (s : Sng) (r : Int) (o i : Nat) : findV s r (some (o, i)) = .tuple [.int .i64 o, .int .i64 (rowF s r o i), .bool true] := rfl
theorem fin_ffb (h : PHeap) (k k' : IntKind) (m n : Int) (b : Bool) : finP [.keep, .keep, .keep] h h [.int k m, .int k' n, .bool b] = some (.tuple [.int k m, .int k' n, .bool b], h) := fin_k3' rfl rfl rfl
theorem fin_ffb2 (h l : PHeap) (k k' : IntKind) (m n : Int) (b : Bool) : finP [.keep, .keep, .keep] h (h ++ l) [.int k m, .int k' n, .bool b] = some (.tuple [.int k m, .int k' n, .bool b], h) := fin_k3 rfl rfl rfl
theorem nilc (b o : Nat) : nilCheckP (.ptr b o) = some (.ptr b o) := nr rfl
theorem n0 (a : PV) (l : List PV) : nthP (a :: l) 0 = a := nr rfl
theorem n1 (a b : PV) (l : List PV) : nthP (a :: b :: l) 1 = b := nr rfl
theorem n2 (a b c : PV) (l : List PV) : nthP (a :: b :: c :: l) 2 = c := nr rfl
theorem n3 (a b c d : PV) (l : List PV) : nthP (a :: b :: c :: d :: l) 3 = d := nr rfl
theorem ord_good {s : Sng} (ok : SngOK s) {o : Nat} {x : Int} (hx : s.ords[o]? = some x) (hm : mark x = false) : ∃ q p, x = ((q : Nat) : Int) ∧ s.pats[q]? = some p ∧ rowsO s o = p.1 := by
  have := ok.ords x (List.mem_of_getElem? hx)
  have hp := ok.npats
  unfold ordBad at this
  rw [hm] at this
  unfold inW at this hp
  simp only [Bool.not_false, Bool.true_and, Bool.not_eq_false', Bool.and_eq_true, decide_eq_true_eq] at this hp
  have hpat : (s.pats.length : Int) ≤ 32 := by
    have : qI s.dia 2 ≤ 32 := by
      refine qOf_cases (fun r => rI r 2 ≤ 32) ?_ ?_ ?_ ?_ ?_ ?_ ?_ s.dia <;> decide
    omega
  rw [wrap64 (by unfold isI64; omega)] at this
  obtain ⟨q, hq⟩ : ∃ q : Nat, x = (q : Int) := ⟨x.toNat, by omega⟩
  subst hq
  have hlt : q < s.pats.length := by omega
  refine ⟨q, s.pats[q], rfl, List.getElem?_eq_getElem hlt, ?_⟩
  unfold rowsO
  rw [hx]
  simp only [Int.toNat_natCast, List.getElem?_eq_getElem hlt]
theorem loop_succ {R : Type} (B : (List PV → PHeap → Option R) → List PV → PHeap → Option R) (n : Nat) (vs : List PV) (h : PHeap) : loopP B (n + 1) vs h = B (loopP B n) vs h := rfl
theorem mark_254 (x : Int) (h : mark x = true) (h2 : ¬ x = 254) : x = 255 := by
  unfold mark at h
  simp only [Bool.or_eq_true, beq_iff_eq] at h
  omega
theorem rest_nat {s : Sng} (ok : SngOK s) : s.rest = ((s.rest.toNat : Nat) : Int) ∧ s.rest.toNat < s.ords.length ∧ (s.ords.length : Int) ≤ 64 := by
  have h1 := ok.rest
  have h2 := ok.nords
  unfold inW at h1 h2
  simp only [Bool.and_eq_true, decide_eq_true_eq] at h1 h2
  rw [wrap64 (by unfold isI64; omega)] at h1
  omega
theorem find_prog {s : Sng} (ok : SngOK s) {b N : Nat} {h : PHeap} (hl : ∀ k v, s.cs[k]? = some v → loadP false 1 (.ptr b k) h = some v) (r : Int) : ∀ (k i o n : Nat), i + k = 2 * s.ords.length + 1 → k < n →
    loopP (s17_L0 Γ0 N (.ptr b 0) h fun w1 h2 => finP [.keep, .keep, .keep] h h2 [.int .i64 0, .int .i64 0, .bool false]) n [.int .i64 r, .int .i64 o, .int .i64 i] h = some (findV s r (walkO s.ords s.rest.toNat k o i), h) := by
  obtain ⟨hr1, hr2, hr3⟩ := rest_nat ok
  have hw : IntKind.i64.wrap (2 * (s.ords.length : Int)) = ((2 * s.ords.length : Nat) : Int) := by rw [wrap64 (by unfold isI64; omega)]; omega
  intro k
  induction k with
  | zero =>
    intro i o n hik hn
    obtain ⟨m, rfl⟩ : ∃ m, n = m + 1 := ⟨n - 1, by omega⟩
    rw [loop_succ]
    have hc : decide ((i : Int) ≤ ((2 * s.ords.length : Nat) : Int)) = false := decide_eq_false (by omega)
    unfold s17_L0
    simp only [words, ↓KLn, Nat.reduceAdd, nilc, n2, hl 3 _ (sc3 s), len_ints, bin_mul, hw, hc, Bool.false_eq_true, if_false, fin_ffb]
    rfl
  | succ k ih =>
    intro i o n hik hn
    obtain ⟨m, rfl⟩ : ∃ m, n = m + 1 := ⟨n - 1, by omega⟩
    rw [loop_succ]
    have hc : decide ((i : Int) ≤ ((2 * s.ords.length : Nat) : Int)) = true := decide_eq_true (by omega)
    have hi := fun o' => ih (i + 1) o' m (by omega) (by omega)
    have hs1 : IntKind.i64.wrap ((i : Int) + 1) = ((i + 1 : Nat) : Int) := succ63 (by omega)
    cases hx : s.ords[o]? with
    | none =>
      have hge : o ≥ s.ords.length := by
        rcases Nat.lt_or_ge o s.ords.length with h1 | h1
        · rw [List.getElem?_eq_getElem h1] at hx; cases hx
        · exact h1
      have hg : decide ((o : Int) ≥ (s.ords.length : Int)) = true := decide_eq_true (by omega)
      have hst : walkO s.ords s.rest.toNat (k + 1) o i = walkO s.ords s.rest.toNat k s.rest.toNat (i + 1) := by
        show (if stopO s.ords o = true then _ else walkO s.ords s.rest.toNat k (nextO s.ords s.rest.toNat o) (i + 1)) = _
        have e1 : stopO s.ords o = false := by unfold stopO; rw [hx]
        have e2 : nextO s.ords s.rest.toNat o = s.rest.toNat := by unfold nextO; rw [hx]
        rw [e1, e2, if_neg (by decide)]
      rw [hst, ← hi]
      unfold s17_L0
      simp only [words, ↓KLn, Nat.reduceAdd, nilc, n0, n1, n2, hl 3 _ (sc3 s), hl 4 _ (sc4 s), len_ints, bin_mul, hw, hc, if_true, hg, scTF, hs1, trim_self, ← hr1]
    | some x =>
      have hlt : o < s.ords.length := (List.getElem?_eq_some_iff.1 hx).1
      have hg : decide ((o : Int) ≥ (s.ords.length : Int)) = false := decide_eq_false (by omega)
      have hso : IntKind.i64.wrap ((o : Int) + 1) = ((o + 1 : Nat) : Int) := succ63 (by omega)
      cases hm : mark x with
      | true =>
        have e1 : stopO s.ords o = false := by unfold stopO; rw [hx]; simp only [hm, Bool.not_true]
        have hst : walkO s.ords s.rest.toNat (k + 1) o i = walkO s.ords s.rest.toNat k (nextO s.ords s.rest.toNat o) (i + 1) := by
          show (if stopO s.ords o = true then _ else walkO s.ords s.rest.toNat k (nextO s.ords s.rest.toNat o) (i + 1)) = _
          rw [e1, if_neg (by decide)]
        rw [hst]
        by_cases h4 : x = 254
        · subst h4
          have e2 : nextO s.ords s.rest.toNat o = o + 1 := skip_next hx
          have e3 : ((254 : Int) == 255) = false := rfl
          have e4 : ((254 : Int) == 254) = true := rfl
          rw [e2, ← hi]
          unfold s17_L0
          simp only [words, ↓KLn, Nat.reduceAdd, nilc, n0, n1, n2, hl 3 _ (sc3 s), hl 4 _ (sc4 s), len_ints, bin_mul, hw, hc, if_true, hg, scFF, idx_ints _ hx, iv0, e3, e4, Bool.false_eq_true, if_false, hso, hs1, trim_self]
        · have h5 := mark_254 x hm h4
          subst h5
          have e2 : nextO s.ords s.rest.toNat o = s.rest.toNat := by unfold nextO; rw [hx]; rfl
          have e3 : ((255 : Int) == 255) = true := rfl
          rw [e2, ← hi]
          unfold s17_L0
          simp only [words, ↓KLn, Nat.reduceAdd, nilc, n0, n1, n2, hl 3 _ (sc3 s), hl 4 _ (sc4 s), len_ints, bin_mul, hw, hc, if_true, hg, scFF, idx_ints _ hx, iv0, e3, hs1, trim_self, ← hr1]
      | false =>
        obtain ⟨q, p, rfl, hp, hrow⟩ := ord_good ok hx hm
        have e1 : stopO s.ords o = true := by unfold stopO; rw [hx]; simp only [hm, Bool.not_false]
        have hst : walkO s.ords s.rest.toNat (k + 1) o i = some (o, i) := by
          show (if stopO s.ords o = true then _ else _) = _
          rw [e1, if_pos rfl]
        have hm2 := hm
        unfold mark at hm2
        rw [Bool.or_eq_false_iff] at hm2
        rw [hst, show findV s r (some (o, i)) = .tuple [.int .i64 o, .int .i64 (if ((decide ((i : Int) > 0) || decide (r < 0)) || decide (r ≥ p.1)) = true then 0 else r), .bool true] from by rw [findV_some, rowF, hrow]]
        unfold s17_L0
        simp only [words, ↓KLn, Nat.reduceAdd, nilc, n0, n1, n2, hl 3 _ (sc3 s), hl 4 _ (sc4 s), hl 10 _ (sc10 s), len_ints, bin_mul, hw, hc, if_true, hg, scFF, idx_ints _ hx, iv0, hm2.1, hm2.2, Bool.false_eq_true, if_false, idx_pats _ hp, pc0, fin_ffb]
        cases ((decide ((i : Int) > 0) || decide (r < 0)) || decide (r ≥ p.1)) <;> rfl
theorem c17 {s : Sng} (ok : SngOK s) {b : Nat} {h : PHeap} (hl : ∀ k v, s.cs[k]? = some v → loadP false 1 (.ptr b k) h = some v) (r : Int) (o : Nat) : Γ0 17 [.ptr b 0, .int .i64 o, .int .i64 r] h = some (findV s r (walkO s.ords s.rest.toNat (2 * s.ords.length + 1) o 0), h) := by
  obtain ⟨N, hN⟩ : ∃ N : Nat, 2 * s.ords.length + 1 < N := ⟨_, Nat.lt_succ_self _⟩
  refine gbody (F := A17) (by kernel_rfl) N ?_
  rw [s17_eq]; unfold s17
  simp only [↓KLn]
  exact find_prog ok hl r (2 * s.ords.length + 1) 0 o N (by omega) hN
theorem find_ref {s : Sng} (ok : SngOK s) {N : Nat} {h : PHeap} (r : Int) : ∀ (k i o n : Nat), i + k = 2 * s.ords.length + 2 → k < n →
    loopP (s20_L0 Γ0 N h (.ptr h.length 0) (h ++ [.box s.cs 27 .rw]) fun w1 h2 => finP [.keep, .keep, .keep] h h2 [.int .i64 0, .int .i64 0, .bool false]) n [.int .i64 o, .int .i64 r, .bool (decide ((i : Int) > 0)), .int .i64 k] (h ++ [.box s.cs 27 .rw]) = some (findV s r (walkO s.ords s.rest.toNat k o i), h) := by
  obtain ⟨hr1, hr2, hr3⟩ := rest_nat ok
  have htr : ∀ (a b c : Int) (d : Bool), trim (h ++ [.box s.cs 27 .rw]) [.int .i64 a, .int .i64 b, .bool d, .int .i64 c] (h ++ [.box s.cs 27 .rw]) = h ++ [.box s.cs 27 .rw] := fun a b c d => trim_self _ _
  intro k
  induction k with
  | zero =>
    intro i o n hik hn
    obtain ⟨m, rfl⟩ : ∃ m, n = m + 1 := ⟨n - 1, by omega⟩
    rw [loop_succ]
    have hc : decide (((0 : Nat) : Int) > 0) = false := rfl
    unfold s20_L0
    simp only [words, ↓KLn, Nat.reduceAdd, n3, hc, Bool.false_eq_true, if_false, fin_ffb2]
    rfl
  | succ k ih =>
    intro i o n hik hn
    obtain ⟨m, rfl⟩ : ∃ m, n = m + 1 := ⟨n - 1, by omega⟩
    rw [loop_succ]
    have hc : decide (((k + 1 : Nat) : Int) > 0) = true := decide_eq_true (by omega)
    have hi := fun o' => ih (i + 1) o' m (by omega) (by omega)
    have hi1 : decide (((i + 1 : Nat) : Int) > 0) = true := decide_eq_true (by omega)
    rw [hi1] at hi
    have hs1 : IntKind.i64.wrap (((k + 1 : Nat) : Int) - 1) = (k : Int) := pred63 (by omega)
    have ho0 : decide ((o : Int) < 0) = false := decide_eq_false (by omega)
    cases hx : s.ords[o]? with
    | none =>
      have hge : o ≥ s.ords.length := by
        rcases Nat.lt_or_ge o s.ords.length with h1 | h1
        · rw [List.getElem?_eq_getElem h1] at hx; cases hx
        · exact h1
      have hg : decide ((o : Int) ≥ (s.ords.length : Int)) = true := decide_eq_true (by omega)
      have hst : walkO s.ords s.rest.toNat (k + 1) o i = walkO s.ords s.rest.toNat k s.rest.toNat (i + 1) := by
        show (if stopO s.ords o = true then _ else walkO s.ords s.rest.toNat k (nextO s.ords s.rest.toNat o) (i + 1)) = _
        have e1 : stopO s.ords o = false := by unfold stopO; rw [hx]
        have e2 : nextO s.ords s.rest.toNat o = s.rest.toNat := by unfold nextO; rw [hx]
        rw [e1, e2, if_neg (by decide)]
      rw [hst, ← hi]
      unfold s20_L0
      simp only [words, ↓KLn, Nat.reduceAdd, n0, n1, n2, n3, hc, if_true, ho0, sc3, sc4, len_ints, scFF, hg, scTF, hs1, htr, ← hr1]
    | some x =>
      have hlt : o < s.ords.length := (List.getElem?_eq_some_iff.1 hx).1
      have hg : decide ((o : Int) ≥ (s.ords.length : Int)) = false := decide_eq_false (by omega)
      have hso : IntKind.i64.wrap ((o : Int) + 1) = ((o + 1 : Nat) : Int) := succ63 (by omega)
      cases hm : mark x with
      | true =>
        have e1 : stopO s.ords o = false := by unfold stopO; rw [hx]; simp only [hm, Bool.not_true]
        have hst : walkO s.ords s.rest.toNat (k + 1) o i = walkO s.ords s.rest.toNat k (nextO s.ords s.rest.toNat o) (i + 1) := by
          show (if stopO s.ords o = true then _ else walkO s.ords s.rest.toNat k (nextO s.ords s.rest.toNat o) (i + 1)) = _
          rw [e1, if_neg (by decide)]
        rw [hst]
        by_cases h4 : x = 254
        · subst h4
          have e2 : nextO s.ords s.rest.toNat o = o + 1 := skip_next hx
          have e3 : ((254 : Int) == 255) = false := rfl
          have e4 : ((254 : Int) == 254) = true := rfl
          rw [e2, ← hi]
          unfold s20_L0
          simp only [words, ↓KLn, Nat.reduceAdd, n0, n1, n2, n3, hc, if_true, ho0, sc3, sc4, len_ints, scFF, hg, idx_ints _ hx, iv0, e3, e4, Bool.false_eq_true, if_false, hso, hs1, htr]
        · have h5 := mark_254 x hm h4
          subst h5
          have e2 : nextO s.ords s.rest.toNat o = s.rest.toNat := by unfold nextO; rw [hx]; rfl
          have e3 : ((255 : Int) == 255) = true := rfl
          rw [e2, ← hi]
          unfold s20_L0
          simp only [words, ↓KLn, Nat.reduceAdd, n0, n1, n2, n3, hc, if_true, ho0, sc3, sc4, len_ints, scFF, hg, idx_ints _ hx, iv0, e3, hs1, htr, ← hr1]
      | false =>
        obtain ⟨q, p, rfl, hp, hrow⟩ := ord_good ok hx hm
        have e1 : stopO s.ords o = true := by unfold stopO; rw [hx]; simp only [hm, Bool.not_false]
        have hst : walkO s.ords s.rest.toNat (k + 1) o i = some (o, i) := by
          show (if stopO s.ords o = true then _ else _) = _
          rw [e1, if_pos rfl]
        have hm2 := hm
        unfold mark at hm2
        rw [Bool.or_eq_false_iff] at hm2
        rw [hst, show findV s r (some (o, i)) = .tuple [.int .i64 o, .int .i64 (if ((decide ((i : Int) > 0) || decide (r < 0)) || decide (r ≥ p.1)) = true then 0 else r), .bool true] from by rw [findV_some, rowF, hrow]]
        unfold s20_L0
        simp only [words, ↓KLn, Nat.reduceAdd, n0, n1, n2, n3, hc, if_true, ho0, sc3, sc4, sc10, len_ints, scFF, hg, idx_ints _ hx, iv0, hm2.1, hm2.2, Bool.false_eq_true, if_false, idx_pats _ hp, pc0, fin_ffb2]
        cases ((decide ((i : Int) > 0) || decide (r < 0)) || decide (r ≥ p.1)) <;> rfl
theorem c20 {s : Sng} (ok : SngOK s) (h : PHeap) (r : Int) (o : Nat) (ho : o ≤ s.ords.length) : Γ0 20 [.agg s.cs, .int .i64 o, .int .i64 r] h = some (findV s r (walkO s.ords s.rest.toNat (2 * s.ords.length + 1) o 0), h) := by
  obtain ⟨N, hN⟩ : ∃ N : Nat, 2 * s.ords.length + 2 < N := ⟨_, Nat.lt_succ_self _⟩
  obtain ⟨hr1, hr2, hr3⟩ := rest_nat ok
  have hw : IntKind.i64.wrap (2 * (s.ords.length : Int)) = ((2 * s.ords.length : Nat) : Int) := by rw [wrap64 (by unfold isI64; omega)]; omega
  have hw2 : IntKind.i64.wrap (((2 * s.ords.length : Nat) : Int) + 2) = ((2 * s.ords.length + 2 : Nat) : Int) := by rw [wrap64 (by unfold isI64; omega)]; omega
  refine gbody (F := A20) (by kernel_rfl) N ?_
  rw [s20_eq]; unfold s20
  simp only [words, ↓KLn, Nat.reduceAdd, sc3, len_ints, bin_mul, hw, hw2]
  have := find_ref ok (h := h) (N := N) r (2 * s.ords.length + 2) 0 o N (by omega) hN
  rw [walk_enough ho (Nat.le_of_lt hr2) (by omega)] at this
  exact this
end Go.Vm.X
