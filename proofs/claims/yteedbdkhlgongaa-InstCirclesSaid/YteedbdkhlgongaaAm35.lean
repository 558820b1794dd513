/- A slice of one's own that grows by one element a round. -/
import Derived.Test.YteedbdkhlgongaaAm34
set_option linter.unusedSimpArgs false
set_option linter.unusedVariables false
namespace Go.Am

theorem own_push {N : Nat} {t : TypeId} {size : Nat} {K : Nat → Prop} {h : AHeap} {x : Value} {rows : List (List Dat)} {ws : List Value} {q : List Dat} (o : Own N t size (fun _ => False) h x rows) (hK : ∀ b, ownB x b → ¬ K b)
    (hKl : ∀ b, K b → b < h.length) (hN : N ≤ h.length) (hr : RL (fun _ => False) h ws q) (hq : q.length = size) (hm : rows.length + 1 ≤ mostLen) :
    ∃ x' h', appendf t size x (.slice (some ⟨h.length, 0, none⟩) 1 1) (h ++ [.cells ws t true]) = some (x', h') ∧ Own N t size (fun _ => False) h' x' (rows ++ [q]) ∧ (∀ b, ownB x' b → ¬ K b) ∧ h.length ≤ h'.length ∧
      (∀ b, b < N ∨ K b → h'[b]? = h[b]?) := by
  have hw : ws.length = size := by rw [hr.length, hq]
  have o1 : Own N t size (fun _ => False) (h ++ [.cells ws t true]) x rows := o.pre (pre1 _ _) (fun b hb => hb.elim) (fun b _ => id)
  have hf : firstf size 1 (.slice (some ⟨h.length, 0, none⟩) 1 1) (h ++ [ABlk.cells ws t true]) = some ws := by
    have := readN_all h ws t true size hw
    simpa [firstf] using this
  obtain ⟨x', h', e, o', hl, hk, hn⟩ := own_append (v := .slice (some ⟨h.length, 0, none⟩) 1 1) (rows2 := [q]) (ws := ws) o1 (fun b hb => hb.elim) (by simp; omega) rfl hf
    (by simpa using hr.mono (h' := h ++ [.cells ws t true]) (S' := fun _ => False) (fun b hb => hb.elim)) (by simpa using hq) (by simpa using hm)
  refine ⟨x', h', e, o', fun b hb hkb => ?_, by simp at hl; omega, fun b hb => ?_⟩
  · rcases hn b hb with h1 | h1
    · exact hK b h1 hkb
    · have := hKl b hkb; simp at h1; omega
  · have hlt : b < h.length := by
      rcases hb with hb | hb
      · omega
      · exact hKl b hb
    rw [hk b (by simp; omega) (fun h1 => by
      rcases hb with hb | hb
      · have := (o.lt h1).1; omega
      · exact hK b h1 hb), app_get hlt]
theorem own_ne {N : Nat} {t : TypeId} {size : Nat} {S : Nat → Prop} {h : AHeap} {x : Value} {rows : List (List Dat)} (o : Own N t size S h x rows) (hr : rows ≠ []) : noRef x = false := by
  rcases o.2 with ⟨_, rfl⟩ | ⟨b, c, cs, rfl, _⟩
  · exact absurd rfl hr
  · rfl
theorem get_set (h : AHeap) (b : Nat) (k : ABlk) (hb : b < h.length) : (h.set b k)[b]? = some k := by rw [List.getElem?_set_self hb]
theorem readC_get {h : AHeap} {b o : Nat} {cs : List Value} {t : TypeId} {rw_ : Bool} (hb : h[b]? = some (.cells cs t rw_)) : readC h b o = cs[o]? := by unfold readC; rw [hb]
theorem readN_get {h : AHeap} {b n : Nat} {cs : List Value} {t : TypeId} {rw_ : Bool} (hb : h[b]? = some (.cells cs t rw_)) (hn : cs.length = n) : readN h b 0 n = some cs := by
  unfold readN
  rw [hb]
  show (if _ then _ else _) = _
  rw [if_pos (by omega), List.drop_zero, List.take_of_length_le (by omega)]
theorem store1 {h : AHeap} {b : Nat} {x v : Value} {t : TypeId} (hb : h[b]? = some (.cells [x] t true)) (hv : oneC v = true) : storef 1 (ptrTo b 0) v h = some (h.set b (.cells [v] t true)) := by
  simp only [storef, ptrTo, cellsL_one hv]
  rw [if_pos (show [v].length = 1 from rfl)]
  unfold writeN
  rw [hb]
  show (if _ ∧ _ then some _ else none) = _
  rw [if_pos ⟨by simp, by simp [hv]⟩]
  rfl
theorem own_one {N : Nat} {t : TypeId} {size : Nat} {S : Nat → Prop} {h : AHeap} {x : Value} {rows : List (List Dat)} (o : Own N t size S h x rows) : oneC x = true := by
  rcases o.2 with ⟨rfl, _⟩ | ⟨b, c, cs, rfl, _⟩ <;> rfl
theorem JL_def {R : Type} (k : List Value → AHeap → Option R) (b : (List Value → AHeap → Option R) → Option R) : JL k b = b k := rfl
theorem J1_def {R : Type} (k : Value → AHeap → Option R) (b : (Value → AHeap → Option R) → Option R) : J1 k b = b k := rfl
/-- A join is left with these values: its tail is walked once. -/
theorem JL_case {R : Type} {k : List Value → AHeap → Option R} {b : (List Value → AHeap → Option R) → Option R} {r : Option R} (ws : List Value) (h : AHeap) (hk : k ws h = r) (hb : ∀ k' : List Value → AHeap → Option R, k' ws h = r → b k' = r) : JL k b = r := hb k hk
theorem J1_case {R : Type} {k : Value → AHeap → Option R} {b : (Value → AHeap → Option R) → Option R} {r : Option R} (w : Value) (h : AHeap) (hk : k w h = r) (hb : ∀ k' : Value → AHeap → Option R, k' w h = r → b k' = r) : J1 k b = r := hb k hk
end Go.Am
