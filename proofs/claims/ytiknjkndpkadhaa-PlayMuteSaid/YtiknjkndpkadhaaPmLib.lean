/- PlayMute: what the library's functions answer. -/
import Derived.Test.YtiknjkndpkadhaaGen
import Derived.Test.YtiknjkndpkadhaaTypes
set_option linter.unusedSimpArgs false
set_option linter.unusedVariables false
namespace Go.Am.X

def DVoiceTick.vals (t : DVoiceTick) : List Value := [.int .i64 t.Slot, .int .i64 t.Channel, .int .i64 t.Sample, .bool t.Begin, .bool t.Back, .bool t.Held, .bool t.Surround, .int .i64 t.Offset, .int .i64 t.Freq, .int .i64 t.Volume, .int .i64 t.Pan, .int .i64 t.Cutoff, .int .i64 t.Resonance]
theorem DVoiceTick.flat {S : Nat → Prop} {h : AHeap} (ws : List Value) (t : DVoiceTick) (r : RL S h ws t.dat) : ws = t.vals := DVoiceTick.cells r

theorem c8 {S : Nat → Prop} {h : AHeap} {x : Value} {l : List DTick} (r : R S h x (.sl (l.map DTick.dat))) (hS : ∀ b, S b → b < h.length) (hm : l.length ≤ mostLen) :
    ∃ y h', Γ0 8 [x] h = some (y, h') ∧ h <+: h' ∧ Own h.length 26 6 S h' y (l.map DTick.dat) := by
  obtain ⟨y, h', e, p, o⟩ := clone_ok (t := 26) (DTick.lens l) r hS (by simpa using hm)
  refine ⟨y, h', gbody (F := A8) (by kernel_rfl) 1 ?_, p, o⟩
  rw [s8_eq]
  exact e
theorem c9 {S : Nat → Prop} {h : AHeap} {x : Value} {l : List Int} (r : R S h x (.sl (l.map iD))) (hS : ∀ b, S b → b < h.length) (hm : l.length ≤ mostLen) :
    ∃ y h', Γ0 9 [x] h = some (y, h') ∧ h <+: h' ∧ Own h.length 3 1 S h' y (l.map iD) := by
  obtain ⟨y, h', e, p, o⟩ := clone_ok (t := 3) (iD_lens l) r hS (by simpa using hm)
  refine ⟨y, h', gbody (F := A9) (by kernel_rfl) 1 ?_, p, o⟩
  rw [s9_eq]
  exact e
theorem c11 {S : Nat → Prop} {h : AHeap} {x : Value} {l : List DVoiceTick} (r : R S h x (.sl (l.map DVoiceTick.dat))) (hS : ∀ b, S b → b < h.length) (hm : l.length ≤ mostLen) :
    ∃ y h', Γ0 11 [x] h = some (y, h') ∧ h <+: h' ∧ Own h.length 35 13 S h' y (l.map DVoiceTick.dat) := by
  obtain ⟨y, h', e, p, o⟩ := clone_ok (t := 35) (DVoiceTick.lens l) r hS (by simpa using hm)
  refine ⟨y, h', gbody (F := A11) (by kernel_rfl) 1 ?_, p, o⟩
  rw [s11_eq]
  exact e
theorem c17 {S : Nat → Prop} {h : AHeap} {x : Value} {l : List Int} {v : Int} (r : R S h x (.sl (l.map iD))) (hm : l.length ≤ mostLen) : Γ0 17 [x, .int .i64 v] h = some (.int .i64 (idxf (v == ·) l), h) := by
  refine gbody (F := A17) (by kernel_rfl) (l.length + 1) ?_
  rw [s17_eq]
  exact index_ok r hm (Nat.lt_succ_self _)
theorem c13 {S : Nat → Prop} {h : AHeap} {x : Value} {l : List Int} {v : Int} (r : R S h x (.sl (l.map iD))) (hm : l.length ≤ mostLen) : Γ0 13 [x, .int .i64 v] h = some (.bool (l.any (v == ·)), h) := by
  refine gbody (F := A13) (by kernel_rfl) 1 ?_
  rw [s13_eq]
  unfold s13
  simp only [c17 r hm, Option.bind_some, binf_geq, fin_self, single, idxf_any]
theorem c15 {S S' : Nat → Prop} {h : AHeap} {x y : Value} {l : List Int} (rx : R S h x (.sl (l.map iD))) (ry : R S' h y (.sl (l.map iD))) (hm : l.length ≤ mostLen) : Γ0 15 [x, y] h = some (.bool true, h) := by
  refine gbody (F := A15) (by kernel_rfl) (l.length + 1) ?_
  rw [s15_eq]
  refine (equal_ok (f := iD) (el := fun n => .int .i64 n) (cmp := binf .neq) (agg := false) rx ry rx.int_el ry.int_el neq_int hm (Nat.lt_succ_self _)).trans ?_
  rw [cdec_true rfl]
def bks : List BK := [.int, .int, .int, .bool, .bool, .bool, .bool, .int, .int, .int, .int, .int, .int]
theorem neq_voice (a b : DVoiceTick) : eqAggf bks true (.agg a.vals.toArray) (.agg b.vals.toArray) = some (.bool !(cdec (a = b))) := by
  cases a; cases b
  simp only [eqAggf, DVoiceTick.vals, eqCells, bks, if_true, Option.map_some, Bool.true_bne]
  congr 2
  congr 1
  refine cdec_eq ?_
  simp
theorem c14 {S S' : Nat → Prop} {h : AHeap} {x y : Value} {l : List DVoiceTick} (rx : R S h x (.sl (l.map DVoiceTick.dat))) (ry : R S' h y (.sl (l.map DVoiceTick.dat))) (hm : l.length ≤ mostLen) : Γ0 14 [x, y] h = some (.bool true, h) := by
  refine gbody (F := A14) (by kernel_rfl) (l.length + 1) ?_
  rw [s14_eq]
  refine (equal_ok (f := DVoiceTick.dat) (el := fun t => .agg t.vals.toArray) (cmp := eqAggf bks true) (agg := true) rx ry (rx.flat_el (size := 13) (fun _ => rfl) (by decide) DVoiceTick.flat) (ry.flat_el (fun _ => rfl) (by decide) DVoiceTick.flat) neq_voice hm (Nat.lt_succ_self _)).trans ?_
  rw [cdec_true rfl]
theorem c16 {S : Nat → Prop} {h : AHeap} {x fv : Value} {l : List DVoiceTick} {p : DVoiceTick → Bool} {K : Nat → Prop} (rx : R S h x (.sl (l.map DVoiceTick.dat))) (ht : Tells Γ0 fv (fun t => .agg (DVoiceTick.vals t).toArray) p l K h) (hm : l.length ≤ mostLen) :
    Γ0 16 [x, fv] h = some (.int .i64 (idxf p l), h) := by
  refine gbody (F := A16) (by kernel_rfl) (l.length + 1) ?_
  rw [s16_eq]
  exact indexFunc_ok (agg := true) (size := 13) rx (rx.flat_el (fun _ => rfl) (by decide) DVoiceTick.flat) ht hm (Nat.lt_succ_self _)

/-- Is a voice of these channels? -/
def ofCh (ch : List Int) (v : DVoiceTick) : Bool := ch.any (v.Channel == ·)
theorem c12 {S : Nat → Prop} {h : AHeap} {x : Value} {ch : List Int} {bc : Nat} {v : DVoiceTick} (hb : readC h bc 0 = some x) (r : R S h x (.sl (ch.map iD))) (hS : ∀ b, S b → b < h.length) (hm : ch.length ≤ mostLen) :
    Γ0 12 [.agg v.vals.toArray, ptrTo bc 0] h = some (.bool (ofCh ch v), h) := by
  refine gbody (F := A12) (by kernel_rfl) 1 ?_
  rw [s12_eq]
  unfold s12
  simp only [fork, load_cell, readC_app hb, Option.bind_some, fieldAddr_ptr, Nat.zero_add, readC_new, cellsL, DVoiceTick.vals, List.getElem?_cons_succ, List.getElem?_cons_zero]
  rw [c13 (r.pre (by exact pre_app h _) hS) hm]
  simp only [Option.bind_some]
  rw [fin_gc rfl (pre_app h _)]
  rfl
end Go.Am.X
