/- Arguments: slices of pairs of numbers. -/
import Derived.Test.YteedbdkhlgongaaAm25
import Derived.Deep.SlicePairs
import Derived.ChangeShapes
set_option linter.unusedSimpArgs false
set_option linter.unusedVariables false
namespace Go.Am
open Go.ChangeShapes Go.WideShapes
variable {P : Program} {H : Type} {enc : TypeId × Value → H}

/-- x is a slice that holds these pairs. -/
def PairsAt (h : AHeap) (x : Value) (xs : List (Int × Int)) : Prop :=
  ∃ a cap, x = .slice a xs.length cap ∧ cap < capU ∧ ∀ i p, xs[i]? = some p → ∃ b o, a = some ⟨b, o, none⟩ ∧ readN h b (o + i * 2) 2 = some [.int .i64 p.1, .int .i64 p.2]
def isI64 (n : Int) : Prop := -9223372036854775808 ≤ n ∧ n ≤ 9223372036854775807
theorem wf_i64 {n : Int} (h : (Lit.int .i64 n).wf = true) : isI64 n := by
  simp [Lit.wf, IntKind.min, IntKind.max, IntKind.bits, IntKind.signed] at h
  unfold isI64
  omega
theorem open_pairs {W : World} {t e : TypeId} {f0 f1 : Field} {v : Value} {d : DataW H} {ps : List MemPlace} (ht : P.underlying t = some (.slice e)) (he : P.underlying e = some (.struct #[f0, f1]))
    (ce : P.cellsOf e = 2) (o0 : f0.offset = 0) (o1 : f1.offset = 1) (c0 : P.cellsOf f0.type = 1) (c1 : P.cellsOf f1.type = 1) (k0 : P.underlying f0.type = some (.int .i64)) (k1 : P.underlying f1.type = some (.int .i64))
    {r : Reach} {b0 : Nat} (hval : Value.okWide P W r b0 t v) (h : DataW.Trod enc P W 0 (fun _ => true) true t v d ps) :
    ∃ xs : List (Int × Int), PairsAt (heap0 W) v xs ∧ VR (mu0 W) v v ∧ ∀ p ∈ xs, isI64 p.1 ∧ isI64 p.2 := by
  obtain ⟨a, len, cap, rfl⟩ := okWide_slice ht hval
  obtain ⟨fuel, hf⟩ := h
  have hcs : (Value.slice a len cap).cells.toList = [.slice a len cap] := rfl
  rw [hcs] at hf
  rcases Deep.open_slice_pairs ht he ce o0 o1 c0 c1 hf with ⟨h0, _⟩ | ⟨a', len', cap', m, n, V0, V1, D0, D1, P0, P1, h0, _, hl, hcap, hm, _, hall⟩
  · cases h0
    exact ⟨[], ⟨none, 0, rfl, by decide, fun i p hp => by cases hp⟩, .slNil, fun p hp => by cases hp⟩
  · cases h0
    simp only [if_true] at hm
    subst hm
    have hi0 : ∀ i, ∃ z : Int, i < m → V0 i = .int .i64 z ∧ isI64 z := by
      intro i
      by_cases hi : i < m
      · obtain ⟨z, hz, _, hw⟩ := DataW.trod_int k0 (hall i hi).2.2.1
        exact ⟨z, fun _ => ⟨by simpa using hz, wf_i64 hw⟩⟩
      · exact ⟨0, fun h => absurd h hi⟩
    have hi1 : ∀ i, ∃ z : Int, i < m → V1 i = .int .i64 z ∧ isI64 z := by
      intro i
      by_cases hi : i < m
      · obtain ⟨z, hz, _, hw⟩ := DataW.trod_int k1 (hall i hi).2.2.2
        exact ⟨z, fun _ => ⟨by simpa using hz, wf_i64 hw⟩⟩
      · exact ⟨0, fun h => absurd h hi⟩
    obtain ⟨L, hL⟩ := Classical.axiomOfChoice hi0
    obtain ⟨R, hR⟩ := Classical.axiomOfChoice hi1
    have hlt := maxLen_lt
    have hat : 0 < m → ∃ b o, a' = ⟨b, o, none⟩ ∧ b < W.heap.size := by
      intro h0
      obtain ⟨g1, _⟩ := hall 0 h0
      obtain ⟨b, o, sp⟩ := a'
      have e0 : (⟨b, o, sp⟩ : Addr).add (0 * 2) = ⟨b, o, sp⟩ := by simp [Addr.add]
      rw [e0] at g1
      obtain ⟨hb, hsp⟩ := cell_block g1
      simp only at hsp hb
      exact ⟨b, o, by rw [hsp], hb⟩
    refine ⟨(List.range len).map fun i => (L i, R i), ⟨some a', m, by simp, by omega, fun i p hp => ?_⟩, ?_, fun p hp => ?_⟩
    · rw [List.getElem?_map, Option.map_eq_some_iff] at hp
      obtain ⟨j, hj, rfl⟩ := hp
      obtain ⟨hj1, hj2⟩ := List.getElem?_eq_some_iff.1 hj
      have hji : j = i := by rw [← hj2]; simp
      subst hji
      have hlen : j < len := by simpa using hj1
      obtain ⟨g1, g2, _⟩ := hall j (by omega)
      obtain ⟨b, o, rfl, _⟩ := hat (by omega)
      rw [addr_add] at g1 g2
      refine ⟨b, o, rfl, ?_⟩
      rw [(hL j (by omega)).1] at g1
      rw [(hR j (by omega)).1] at g2
      refine readN_of (vs := [_, _]) (fun i v hv => ?_) (by simp)
      match i, hv with
      | 0, hv => cases hv; exact readC0 g1 (.int _ _)
      | 1, hv => cases hv; exact readC0 (by rw [← Nat.add_assoc] at g2; exact g2) (.int _ _)
    · by_cases hm0 : m = 0
      · subst hm0
        have : len = 0 := by omega
        subst this
        exact .sl00 _ _
      · obtain ⟨b, o, rfl, hb⟩ := hat (by omega)
        exact .sl (mu0_of hb) (.inl ⟨by omega, rfl⟩)
    · rw [List.mem_map] at hp
      obtain ⟨i, hi, rfl⟩ := hp
      have hi' : i < len := by simpa using hi
      exact ⟨(hL i (by omega)).2, (hR i (by omega)).2⟩

end Go.Am
