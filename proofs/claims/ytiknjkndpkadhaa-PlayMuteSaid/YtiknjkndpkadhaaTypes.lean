/- The program's types, as Lean's: printed by types.py. -/
import Derived.Test.YtiknjkndpkadhaaAm29
set_option linter.unusedVariables false
set_option linter.unusedSimpArgs false
namespace Go.Am.X

structure DVoiceTick where
  Slot : Int
  Channel : Int
  Sample : Int
  Begin : Bool
  Back : Bool
  Held : Bool
  Surround : Bool
  Offset : Int
  Freq : Int
  Volume : Int
  Pan : Int
  Cutoff : Int
  Resonance : Int
def DVoiceTick.dat (t : DVoiceTick) : List Dat := [.v (.int .i64 t.Slot), .v (.int .i64 t.Channel), .v (.int .i64 t.Sample), .v (.bool t.Begin), .v (.bool t.Back), .v (.bool t.Held), .v (.bool t.Surround), .v (.int .i64 t.Offset), .v (.int .i64 t.Freq), .v (.int .i64 t.Volume), .v (.int .i64 t.Pan), .v (.int .i64 t.Cutoff), .v (.int .i64 t.Resonance)]
def DVoiceTick.ok (t : DVoiceTick) : Prop := isI64 t.Slot ∧ isI64 t.Channel ∧ isI64 t.Sample ∧ (fun _ => True) t.Begin ∧ (fun _ => True) t.Back ∧ (fun _ => True) t.Held ∧ (fun _ => True) t.Surround ∧ isI64 t.Offset ∧ isI64 t.Freq ∧ isI64 t.Volume ∧ isI64 t.Pan ∧ isI64 t.Cutoff ∧ isI64 t.Resonance
def DVoiceTick.shp : List Shp := [.int .i64, .int .i64, .int .i64, .bool, .bool, .bool, .bool, .int .i64, .int .i64, .int .i64, .int .i64, .int .i64, .int .i64]
theorem DVoiceTick.len (t : DVoiceTick) : t.dat.length = 13 := rfl
theorem DVoiceTick.lens (l : List DVoiceTick) : ∀ q ∈ l.map DVoiceTick.dat, q.length = 13 := fun q hq => by obtain ⟨t, _, rfl⟩ := List.mem_map.1 hq; rfl
theorem DVoiceTick.of {r : List Dat} (h : HSL DVoiceTick.shp r) : ∃ t, r = DVoiceTick.dat t ∧ t.ok := by
  unfold DVoiceTick.shp at h
  obtain ⟨d0, r0, rfl, h0, g0⟩ := HSL.cons_inv h
  obtain ⟨x0, rfl, w0⟩ := HS.i64_inv h0
  obtain ⟨d1, r1, rfl, h1, g1⟩ := HSL.cons_inv g0
  obtain ⟨x1, rfl, w1⟩ := HS.i64_inv h1
  obtain ⟨d2, r2, rfl, h2, g2⟩ := HSL.cons_inv g1
  obtain ⟨x2, rfl, w2⟩ := HS.i64_inv h2
  obtain ⟨d3, r3, rfl, h3, g3⟩ := HSL.cons_inv g2
  obtain ⟨x3, rfl⟩ := HS.bool_inv h3
  have w3 : True := trivial
  obtain ⟨d4, r4, rfl, h4, g4⟩ := HSL.cons_inv g3
  obtain ⟨x4, rfl⟩ := HS.bool_inv h4
  have w4 : True := trivial
  obtain ⟨d5, r5, rfl, h5, g5⟩ := HSL.cons_inv g4
  obtain ⟨x5, rfl⟩ := HS.bool_inv h5
  have w5 : True := trivial
  obtain ⟨d6, r6, rfl, h6, g6⟩ := HSL.cons_inv g5
  obtain ⟨x6, rfl⟩ := HS.bool_inv h6
  have w6 : True := trivial
  obtain ⟨d7, r7, rfl, h7, g7⟩ := HSL.cons_inv g6
  obtain ⟨x7, rfl, w7⟩ := HS.i64_inv h7
  obtain ⟨d8, r8, rfl, h8, g8⟩ := HSL.cons_inv g7
  obtain ⟨x8, rfl, w8⟩ := HS.i64_inv h8
  obtain ⟨d9, r9, rfl, h9, g9⟩ := HSL.cons_inv g8
  obtain ⟨x9, rfl, w9⟩ := HS.i64_inv h9
  obtain ⟨d10, r10, rfl, h10, g10⟩ := HSL.cons_inv g9
  obtain ⟨x10, rfl, w10⟩ := HS.i64_inv h10
  obtain ⟨d11, r11, rfl, h11, g11⟩ := HSL.cons_inv g10
  obtain ⟨x11, rfl, w11⟩ := HS.i64_inv h11
  obtain ⟨d12, r12, rfl, h12, g12⟩ := HSL.cons_inv g11
  obtain ⟨x12, rfl, w12⟩ := HS.i64_inv h12
  obtain rfl := HSL.nil_inv g12
  exact ⟨⟨x0, x1, x2, x3, x4, x5, x6, x7, x8, x9, x10, x11, x12⟩, rfl, ⟨w0, w1, w2, w3, w4, w5, w6, w7, w8, w9, w10, w11, w12⟩⟩
theorem DVoiceTick.cells {S : Nat → Prop} {h : AHeap} {ws : List Value} {t : DVoiceTick} (r : RL S h ws t.dat) : ws = [.int .i64 t.Slot, .int .i64 t.Channel, .int .i64 t.Sample, .bool t.Begin, .bool t.Back, .bool t.Held, .bool t.Surround, .int .i64 t.Offset, .int .i64 t.Freq, .int .i64 t.Volume, .int .i64 t.Pan, .int .i64 t.Cutoff, .int .i64 t.Resonance] := by
  unfold DVoiceTick.dat at r
  obtain ⟨x0, w0, rfl, h0, r0⟩ := RL.cons_inv r; obtain rfl := R.inv_v h0
  obtain ⟨x1, w1, rfl, h1, r1⟩ := RL.cons_inv r0; obtain rfl := R.inv_v h1
  obtain ⟨x2, w2, rfl, h2, r2⟩ := RL.cons_inv r1; obtain rfl := R.inv_v h2
  obtain ⟨x3, w3, rfl, h3, r3⟩ := RL.cons_inv r2; obtain rfl := R.inv_v h3
  obtain ⟨x4, w4, rfl, h4, r4⟩ := RL.cons_inv r3; obtain rfl := R.inv_v h4
  obtain ⟨x5, w5, rfl, h5, r5⟩ := RL.cons_inv r4; obtain rfl := R.inv_v h5
  obtain ⟨x6, w6, rfl, h6, r6⟩ := RL.cons_inv r5; obtain rfl := R.inv_v h6
  obtain ⟨x7, w7, rfl, h7, r7⟩ := RL.cons_inv r6; obtain rfl := R.inv_v h7
  obtain ⟨x8, w8, rfl, h8, r8⟩ := RL.cons_inv r7; obtain rfl := R.inv_v h8
  obtain ⟨x9, w9, rfl, h9, r9⟩ := RL.cons_inv r8; obtain rfl := R.inv_v h9
  obtain ⟨x10, w10, rfl, h10, r10⟩ := RL.cons_inv r9; obtain rfl := R.inv_v h10
  obtain ⟨x11, w11, rfl, h11, r11⟩ := RL.cons_inv r10; obtain rfl := R.inv_v h11
  obtain ⟨x12, w12, rfl, h12, r12⟩ := RL.cons_inv r11; obtain rfl := R.inv_v h12
  obtain rfl := RL.nil_inv r12
  exact rfl
theorem DVoiceTick.mk_cells {S : Nat → Prop} {h : AHeap} {t : DVoiceTick} : RL S h [.int .i64 t.Slot, .int .i64 t.Channel, .int .i64 t.Sample, .bool t.Begin, .bool t.Back, .bool t.Held, .bool t.Surround, .int .i64 t.Offset, .int .i64 t.Freq, .int .i64 t.Volume, .int .i64 t.Pan, .int .i64 t.Cutoff, .int .i64 t.Resonance] t.dat :=
  .cons (.v rfl) (.cons (.v rfl) (.cons (.v rfl) (.cons (.v rfl) (.cons (.v rfl) (.cons (.v rfl) (.cons (.v rfl) (.cons (.v rfl) (.cons (.v rfl) (.cons (.v rfl) (.cons (.v rfl) (.cons (.v rfl) (.cons (.v rfl) (.nil)))))))))))))

structure DTick where
  Order : Int
  Row : Int
  Tick : Int
  Tempo : Int
  Voices : List DVoiceTick
  Regs : List Int
def DTick.dat (t : DTick) : List Dat := [.v (.int .i64 t.Order), .v (.int .i64 t.Row), .v (.int .i64 t.Tick), .v (.int .i64 t.Tempo), .sl (t.Voices.map DVoiceTick.dat), .sl (t.Regs.map iD)]
def DTick.ok (t : DTick) : Prop := isI64 t.Order ∧ isI64 t.Row ∧ isI64 t.Tick ∧ isI64 t.Tempo ∧ (dokL DVoiceTick.ok) t.Voices ∧ (dokL isI64) t.Regs
def DTick.shp : List Shp := [.int .i64, .int .i64, .int .i64, .int .i64, .sl DVoiceTick.shp, .sl [.int .i64]]
theorem DTick.len (t : DTick) : t.dat.length = 6 := rfl
theorem DTick.lens (l : List DTick) : ∀ q ∈ l.map DTick.dat, q.length = 6 := fun q hq => by obtain ⟨t, _, rfl⟩ := List.mem_map.1 hq; rfl
theorem DTick.of {r : List Dat} (h : HSL DTick.shp r) : ∃ t, r = DTick.dat t ∧ t.ok := by
  unfold DTick.shp at h
  obtain ⟨d0, r0, rfl, h0, g0⟩ := HSL.cons_inv h
  obtain ⟨x0, rfl, w0⟩ := HS.i64_inv h0
  obtain ⟨d1, r1, rfl, h1, g1⟩ := HSL.cons_inv g0
  obtain ⟨x1, rfl, w1⟩ := HS.i64_inv h1
  obtain ⟨d2, r2, rfl, h2, g2⟩ := HSL.cons_inv g1
  obtain ⟨x2, rfl, w2⟩ := HS.i64_inv h2
  obtain ⟨d3, r3, rfl, h3, g3⟩ := HSL.cons_inv g2
  obtain ⟨x3, rfl, w3⟩ := HS.i64_inv h3
  obtain ⟨d4, r4, rfl, h4, g4⟩ := HSL.cons_inv g3
  obtain ⟨x4, rfl, w4⟩ := sl_typed h4 (fun _ h => DVoiceTick.of h)
  obtain ⟨d5, r5, rfl, h5, g5⟩ := HSL.cons_inv g4
  obtain ⟨x5, rfl, w5⟩ := sl_typed h5 (fun _ h => of_int h)
  obtain rfl := HSL.nil_inv g5
  exact ⟨⟨x0, x1, x2, x3, x4, x5⟩, rfl, ⟨w0, w1, w2, w3, w4, w5⟩⟩
theorem DTick.cells {S : Nat → Prop} {h : AHeap} {ws : List Value} {t : DTick} (r : RL S h ws t.dat) : ∃ x4 x5, ws = [.int .i64 t.Order, .int .i64 t.Row, .int .i64 t.Tick, .int .i64 t.Tempo, x4, x5] ∧ R S h x4 (.sl (t.Voices.map DVoiceTick.dat)) ∧ R S h x5 (.sl (t.Regs.map iD)) := by
  unfold DTick.dat at r
  obtain ⟨x0, w0, rfl, h0, r0⟩ := RL.cons_inv r; obtain rfl := R.inv_v h0
  obtain ⟨x1, w1, rfl, h1, r1⟩ := RL.cons_inv r0; obtain rfl := R.inv_v h1
  obtain ⟨x2, w2, rfl, h2, r2⟩ := RL.cons_inv r1; obtain rfl := R.inv_v h2
  obtain ⟨x3, w3, rfl, h3, r3⟩ := RL.cons_inv r2; obtain rfl := R.inv_v h3
  obtain ⟨x4, w4, rfl, h4, r4⟩ := RL.cons_inv r3
  obtain ⟨x5, w5, rfl, h5, r5⟩ := RL.cons_inv r4
  obtain rfl := RL.nil_inv r5
  exact ⟨x4, x5, rfl, h4, h5⟩
theorem DTick.mk_cells {S : Nat → Prop} {h : AHeap} {t : DTick} {x4 x5 : Value} (h4 : R S h x4 (.sl (t.Voices.map DVoiceTick.dat))) (h5 : R S h x5 (.sl (t.Regs.map iD))) : RL S h [.int .i64 t.Order, .int .i64 t.Row, .int .i64 t.Tick, .int .i64 t.Tempo, x4, x5] t.dat :=
  .cons (.v rfl) (.cons (.v rfl) (.cons (.v rfl) (.cons (.v rfl) (.cons h4 (.cons h5 (.nil))))))

end Go.Am.X
