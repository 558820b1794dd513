/- Words for straight walks: what lies where when blocks have been added. -/
import Derived.Test.YteedbdkhlgongaaAm33
set_option linter.unusedSimpArgs false
set_option linter.unusedVariables false
namespace Go.Am

theorem readC_lt {h l : AHeap} {b o : Nat} (hb : b < h.length) : readC (h ++ l) b o = readC h b o := by unfold readC; rw [app_get hb]
theorem readN_lt {h l : AHeap} {b o n : Nat} (hb : b < h.length) : readN (h ++ l) b o n = readN h b o n := by unfold readN; rw [app_get hb]
theorem lt_new (h : AHeap) (x : ABlk) : h.length < (h ++ [x]).length := by simp
theorem lt_old {b : Nat} {h l : AHeap} (hb : b < h.length) : b < (h ++ l).length := by simp; omega
theorem cells_agg (l : List Value) : cellsL (.agg l.toArray) = l := rfl
theorem readN_all (h : AHeap) (vs : List Value) (t : TypeId) (rw_ : Bool) (n : Nat) (hn : vs.length = n) : readN (h ++ [.cells vs t rw_]) h.length 0 n = some vs := by
  rw [readN_new _ _ _ _ _ _ (by omega), List.drop_zero, List.take_of_length_le (by omega)]
theorem fin_bool {h0 h : AHeap} {b : Bool} (hp : h0 <+: h) : fin h0 h [.bool b] = some (.bool b, h0) := fin_gc rfl hp
theorem fin_int {h0 h : AHeap} {k : IntKind} {n : Int} (hp : h0 <+: h) : fin h0 h [.int k n] = some (.int k n, h0) := fin_gc rfl hp
theorem pre1 (h : AHeap) (a : ABlk) : h <+: h ++ [a] := pre_app _ _
theorem pre2 (h : AHeap) (a b : ABlk) : h <+: h ++ [a] ++ [b] := pre_trans (pre_app _ _) (pre_app _ _)
theorem pre3 (h : AHeap) (a b c : ABlk) : h <+: h ++ [a] ++ [b] ++ [c] := pre_trans (pre2 h a b) (pre_app _ _)
theorem pre4 (h : AHeap) (a b c d : ABlk) : h <+: h ++ [a] ++ [b] ++ [c] ++ [d] := pre_trans (pre3 h a b c) (pre_app _ _)
/-- A slice whose elements have no slices in them, as the walk reads it. -/
structure Flat {α : Type} (vals : α → List Value) (size : Nat) (h : AHeap) (x : Value) (l : List α) : Prop where
  len : lenf false x = some (.int .i64 l.length)
  at_ : ∀ (i : Nat) (a : α), l[i]? = some a → ∃ b o, indexAddrf size x (.int .i64 i) = some (ptrTo b o) ∧ readN h b o size = some (vals a) ∧ b < h.length
theorem R.flat {α : Type} {f : α → List Dat} {vals : α → List Value} {size : Nat} {S : Nat → Prop} {h : AHeap} {x : Value} {l : List α} (r : R S h x (.sl (l.map f))) (hS : ∀ b, S b → b < h.length) (hl : ∀ a, (f a).length = size) (h1 : 0 < size)
    (hf : ∀ S h ws a, RL S h ws (f a) → ws = vals a) : Flat vals size h x l :=
  ⟨r.lenm, fun i a hi => by obtain ⟨b, o, g1, g2, g3⟩ := r.flat_at hl h1 (hf S h) hi; exact ⟨b, o, g1, g2, hS b g3⟩⟩
theorem Flat.pre {α : Type} {vals : α → List Value} {size : Nat} {h h' : AHeap} {x : Value} {l : List α} (f : Flat vals size h x l) (hp : h <+: h') : Flat vals size h' x l :=
  ⟨f.len, fun i a hi => by obtain ⟨b, o, g1, g2, g3⟩ := f.at_ i a hi; exact ⟨b, o, g1, readN_prefix hp g2, Nat.lt_of_lt_of_le g3 (pre_len hp)⟩⟩

end Go.Am
