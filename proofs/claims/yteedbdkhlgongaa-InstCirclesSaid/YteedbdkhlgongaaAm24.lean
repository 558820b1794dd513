/- Words for the printed forms. -/
import Derived.Test.YteedbdkhlgongaaAm23
set_option linter.unusedVariables false
namespace Go.Am
abbrev Rt := Option (Value × AHeap)
/-- A value and a heap, and what follows. -/
def fork {R : Type} (v : Value) (h : AHeap) (k : Value → AHeap → Option R) : Option R := k v h
/-- How a function ends. -/
noncomputable def fin (h0 h : AHeap) (vs : List Value) : Rt := some (single vs, gc (single vs) h0 h)
/-- Behind a range over a function. -/
def endF {R : Type} (o : Option AExit) (a : Option R) (x : Nat → Option R) (r : Option R) : Option R :=
  match o with
  | none => a
  | some .normal => a
  | some (.exit i) => x i
  | some .ret => r
theorem roundK_eq {Γ : Callee} {n b : Nat} {vals vs : List Value} {lv ps : List Nat} {ab bb : ACode} {pend : Option AExit} {h : AHeap} (hb : h[b]? = some (.loop vals lv ps ab bb .ready pend)) (hl : Nat.beq vs.length ps.length = true) :
    roundK Γ n (ptrTo b 0 :: vs) h = codeK Γ n ab (fun o e h1 => match o with
      | .normal => (beginRound b h1).bind fun h2 => codeK Γ n bb (fun o _ h3 => endRound b o h3) e h2
      | _ => none) (setMany (setMany (fun _ => junk) lv vals) ps vs) h := by
  unfold roundK ptrTo
  simp only [hb, hl, cond_true]
  congr 1


end Go.Am
