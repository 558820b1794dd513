/- The program's types, as Lean's: printed by types.py. -/
import Derived.Test.YtaacaogceplhoaaMvE
set_option linter.unusedVariables false
set_option linter.unusedSimpArgs false
namespace Go.Vm.X
open Go.Am Go.Vm

structure DKey where
  Note : Int
  Sample : Int
def DKey.dat (t : DKey) : List Dat := [.v (.int .i64 t.Note), .v (.int .i64 t.Sample)]
def DKey.ok (t : DKey) : Prop := isI64 t.Note ∧ isI64 t.Sample
def DKey.shp : List Shp := [.int .i64, .int .i64]
theorem DKey.len (t : DKey) : t.dat.length = 2 := rfl
theorem DKey.lens (l : List DKey) : ∀ q ∈ l.map DKey.dat, q.length = 2 := fun q hq => by obtain ⟨t, _, rfl⟩ := List.mem_map.1 hq; rfl
theorem DKey.of {r : List Dat} (h : HSL DKey.shp r) : ∃ t, r = DKey.dat t ∧ t.ok := by
  unfold DKey.shp at h
  obtain ⟨d0, r0, rfl, h0, g0⟩ := HSL.cons_inv h
  obtain ⟨x0, rfl, w0⟩ := HS.i64_inv h0
  obtain ⟨d1, r1, rfl, h1, g1⟩ := HSL.cons_inv g0
  obtain ⟨x1, rfl, w1⟩ := HS.i64_inv h1
  obtain rfl := HSL.nil_inv g1
  exact ⟨⟨x0, x1⟩, rfl, ⟨w0, w1⟩⟩
def DKey.pv (t : DKey) : List PV := [.int .i64 t.Note, .int .i64 t.Sample]
theorem DKey.pv_eq (t : DKey) : pvRow DKey.shp t.dat = t.pv := by
  unfold DKey.shp DKey.dat DKey.pv
  simp only [pvRow_nil, pvRow_cons, pv1_i, pv1_b, pv1_s]
theorem DKey.pv_len (t : DKey) : t.pv.length = 2 := rfl
theorem DKey.pv_pure (t : DKey) : t.pv.all pure1 = true := rfl

structure DPoint where
  Tick : Int
  Value_ : Int
def DPoint.dat (t : DPoint) : List Dat := [.v (.int .i64 t.Tick), .v (.int .i64 t.Value_)]
def DPoint.ok (t : DPoint) : Prop := isI64 t.Tick ∧ isI64 t.Value_
def DPoint.shp : List Shp := [.int .i64, .int .i64]
theorem DPoint.len (t : DPoint) : t.dat.length = 2 := rfl
theorem DPoint.lens (l : List DPoint) : ∀ q ∈ l.map DPoint.dat, q.length = 2 := fun q hq => by obtain ⟨t, _, rfl⟩ := List.mem_map.1 hq; rfl
theorem DPoint.of {r : List Dat} (h : HSL DPoint.shp r) : ∃ t, r = DPoint.dat t ∧ t.ok := by
  unfold DPoint.shp at h
  obtain ⟨d0, r0, rfl, h0, g0⟩ := HSL.cons_inv h
  obtain ⟨x0, rfl, w0⟩ := HS.i64_inv h0
  obtain ⟨d1, r1, rfl, h1, g1⟩ := HSL.cons_inv g0
  obtain ⟨x1, rfl, w1⟩ := HS.i64_inv h1
  obtain rfl := HSL.nil_inv g1
  exact ⟨⟨x0, x1⟩, rfl, ⟨w0, w1⟩⟩
def DPoint.pv (t : DPoint) : List PV := [.int .i64 t.Tick, .int .i64 t.Value_]
theorem DPoint.pv_eq (t : DPoint) : pvRow DPoint.shp t.dat = t.pv := by
  unfold DPoint.shp DPoint.dat DPoint.pv
  simp only [pvRow_nil, pvRow_cons, pv1_i, pv1_b, pv1_s]
theorem DPoint.pv_len (t : DPoint) : t.pv.length = 2 := rfl
theorem DPoint.pv_pure (t : DPoint) : t.pv.all pure1 = true := rfl

structure DEnvelope where
  On : Bool
  Points : List DPoint
  Sus : Bool
  SusStart : Int
  SusEnd : Int
  Loop : Bool
  LoopStart : Int
  LoopEnd : Int
def DEnvelope.dat (t : DEnvelope) : List Dat := [.v (.bool t.On), .sl (t.Points.map DPoint.dat), .v (.bool t.Sus), .v (.int .i64 t.SusStart), .v (.int .i64 t.SusEnd), .v (.bool t.Loop), .v (.int .i64 t.LoopStart), .v (.int .i64 t.LoopEnd)]
def DEnvelope.ok (t : DEnvelope) : Prop := (fun _ => True) t.On ∧ (dokL DPoint.ok) t.Points ∧ (fun _ => True) t.Sus ∧ isI64 t.SusStart ∧ isI64 t.SusEnd ∧ (fun _ => True) t.Loop ∧ isI64 t.LoopStart ∧ isI64 t.LoopEnd
def DEnvelope.shp : List Shp := [.bool, .sl DPoint.shp, .bool, .int .i64, .int .i64, .bool, .int .i64, .int .i64]
theorem DEnvelope.len (t : DEnvelope) : t.dat.length = 8 := rfl
theorem DEnvelope.lens (l : List DEnvelope) : ∀ q ∈ l.map DEnvelope.dat, q.length = 8 := fun q hq => by obtain ⟨t, _, rfl⟩ := List.mem_map.1 hq; rfl
theorem DEnvelope.of {r : List Dat} (h : HSL DEnvelope.shp r) : ∃ t, r = DEnvelope.dat t ∧ t.ok := by
  unfold DEnvelope.shp at h
  obtain ⟨d0, r0, rfl, h0, g0⟩ := HSL.cons_inv h
  obtain ⟨x0, rfl⟩ := HS.bool_inv h0
  have w0 : True := trivial
  obtain ⟨d1, r1, rfl, h1, g1⟩ := HSL.cons_inv g0
  obtain ⟨x1, rfl, w1⟩ := sl_typed h1 (fun _ h => DPoint.of h)
  obtain ⟨d2, r2, rfl, h2, g2⟩ := HSL.cons_inv g1
  obtain ⟨x2, rfl⟩ := HS.bool_inv h2
  have w2 : True := trivial
  obtain ⟨d3, r3, rfl, h3, g3⟩ := HSL.cons_inv g2
  obtain ⟨x3, rfl, w3⟩ := HS.i64_inv h3
  obtain ⟨d4, r4, rfl, h4, g4⟩ := HSL.cons_inv g3
  obtain ⟨x4, rfl, w4⟩ := HS.i64_inv h4
  obtain ⟨d5, r5, rfl, h5, g5⟩ := HSL.cons_inv g4
  obtain ⟨x5, rfl⟩ := HS.bool_inv h5
  have w5 : True := trivial
  obtain ⟨d6, r6, rfl, h6, g6⟩ := HSL.cons_inv g5
  obtain ⟨x6, rfl, w6⟩ := HS.i64_inv h6
  obtain ⟨d7, r7, rfl, h7, g7⟩ := HSL.cons_inv g6
  obtain ⟨x7, rfl, w7⟩ := HS.i64_inv h7
  obtain rfl := HSL.nil_inv g7
  exact ⟨⟨x0, x1, x2, x3, x4, x5, x6, x7⟩, rfl, ⟨w0, w1, w2, w3, w4, w5, w6, w7⟩⟩
def DEnvelope.pv (t : DEnvelope) : List PV := [.bool t.On, .frz 2 (t.Points.map DPoint.pv), .bool t.Sus, .int .i64 t.SusStart, .int .i64 t.SusEnd, .bool t.Loop, .int .i64 t.LoopStart, .int .i64 t.LoopEnd]
theorem DEnvelope.pv_eq (t : DEnvelope) : pvRow DEnvelope.shp t.dat = t.pv := by
  unfold DEnvelope.shp DEnvelope.dat DEnvelope.pv
  simp only [pvRow_nil, pvRow_cons, pv1_i, pv1_b, pv1_s, (show pv1 (.sl DPoint.shp) (.sl (t.Points.map DPoint.dat)) = .frz 2 (t.Points.map DPoint.pv) from pv_map DPoint.pv_eq _)]
theorem DEnvelope.pv_len (t : DEnvelope) : t.pv.length = 8 := rfl
theorem DEnvelope.pv_pure (t : DEnvelope) : t.pv.all pure1 = true := rfl

structure DInst where
  Name : ByteArray
  Keys : List DKey
  Volume : DEnvelope
  Panning : DEnvelope
  Pitch : DEnvelope
  Fade : Int
  NewNote : Int
  Dup : Int
  DupDo : Int
  Global : Int
  Cutoff : Int
  Resonance : Int
def DInst.dat (t : DInst) : List Dat := [.v (.string t.Name), .sl (t.Keys.map DKey.dat), .v (.bool t.Volume.On), .sl (t.Volume.Points.map DPoint.dat), .v (.bool t.Volume.Sus), .v (.int .i64 t.Volume.SusStart), .v (.int .i64 t.Volume.SusEnd), .v (.bool t.Volume.Loop), .v (.int .i64 t.Volume.LoopStart), .v (.int .i64 t.Volume.LoopEnd), .v (.bool t.Panning.On), .sl (t.Panning.Points.map DPoint.dat), .v (.bool t.Panning.Sus), .v (.int .i64 t.Panning.SusStart), .v (.int .i64 t.Panning.SusEnd), .v (.bool t.Panning.Loop), .v (.int .i64 t.Panning.LoopStart), .v (.int .i64 t.Panning.LoopEnd), .v (.bool t.Pitch.On), .sl (t.Pitch.Points.map DPoint.dat), .v (.bool t.Pitch.Sus), .v (.int .i64 t.Pitch.SusStart), .v (.int .i64 t.Pitch.SusEnd), .v (.bool t.Pitch.Loop), .v (.int .i64 t.Pitch.LoopStart), .v (.int .i64 t.Pitch.LoopEnd), .v (.int .i64 t.Fade), .v (.int .i64 t.NewNote), .v (.int .i64 t.Dup), .v (.int .i64 t.DupDo), .v (.int .i64 t.Global), .v (.int .i64 t.Cutoff), .v (.int .i64 t.Resonance)]
def DInst.ok (t : DInst) : Prop := (fun s => s.size ≤ maxLen) t.Name ∧ (dokL DKey.ok) t.Keys ∧ DEnvelope.ok t.Volume ∧ DEnvelope.ok t.Panning ∧ DEnvelope.ok t.Pitch ∧ isI64 t.Fade ∧ isI64 t.NewNote ∧ isI64 t.Dup ∧ isI64 t.DupDo ∧ isI64 t.Global ∧ isI64 t.Cutoff ∧ isI64 t.Resonance
def DInst.shp : List Shp := [.str, .sl DKey.shp, .bool, .sl DPoint.shp, .bool, .int .i64, .int .i64, .bool, .int .i64, .int .i64, .bool, .sl DPoint.shp, .bool, .int .i64, .int .i64, .bool, .int .i64, .int .i64, .bool, .sl DPoint.shp, .bool, .int .i64, .int .i64, .bool, .int .i64, .int .i64, .int .i64, .int .i64, .int .i64, .int .i64, .int .i64, .int .i64, .int .i64]
theorem DInst.len (t : DInst) : t.dat.length = 33 := rfl
theorem DInst.lens (l : List DInst) : ∀ q ∈ l.map DInst.dat, q.length = 33 := fun q hq => by obtain ⟨t, _, rfl⟩ := List.mem_map.1 hq; rfl
theorem DInst.of {r : List Dat} (h : HSL DInst.shp r) : ∃ t, r = DInst.dat t ∧ t.ok := by
  unfold DInst.shp at h
  obtain ⟨d0, r0, rfl, h0, g0⟩ := HSL.cons_inv h
  obtain ⟨x0, rfl, w0⟩ := HS.str_inv h0
  obtain ⟨d1, r1, rfl, h1, g1⟩ := HSL.cons_inv g0
  obtain ⟨x1, rfl, w1⟩ := sl_typed h1 (fun _ h => DKey.of h)
  obtain ⟨d2, r2, rfl, h2, g2⟩ := HSL.cons_inv g1
  obtain ⟨x2, rfl⟩ := HS.bool_inv h2
  have w2 : True := trivial
  obtain ⟨d3, r3, rfl, h3, g3⟩ := HSL.cons_inv g2
  obtain ⟨x3, rfl, w3⟩ := sl_typed h3 (fun _ h => DPoint.of h)
  obtain ⟨d4, r4, rfl, h4, g4⟩ := HSL.cons_inv g3
  obtain ⟨x4, rfl⟩ := HS.bool_inv h4
  have w4 : True := trivial
  obtain ⟨d5, r5, rfl, h5, g5⟩ := HSL.cons_inv g4
  obtain ⟨x5, rfl, w5⟩ := HS.i64_inv h5
  obtain ⟨d6, r6, rfl, h6, g6⟩ := HSL.cons_inv g5
  obtain ⟨x6, rfl, w6⟩ := HS.i64_inv h6
  obtain ⟨d7, r7, rfl, h7, g7⟩ := HSL.cons_inv g6
  obtain ⟨x7, rfl⟩ := HS.bool_inv h7
  have w7 : True := trivial
  obtain ⟨d8, r8, rfl, h8, g8⟩ := HSL.cons_inv g7
  obtain ⟨x8, rfl, w8⟩ := HS.i64_inv h8
  obtain ⟨d9, r9, rfl, h9, g9⟩ := HSL.cons_inv g8
  obtain ⟨x9, rfl, w9⟩ := HS.i64_inv h9
  obtain ⟨d10, r10, rfl, h10, g10⟩ := HSL.cons_inv g9
  obtain ⟨x10, rfl⟩ := HS.bool_inv h10
  have w10 : True := trivial
  obtain ⟨d11, r11, rfl, h11, g11⟩ := HSL.cons_inv g10
  obtain ⟨x11, rfl, w11⟩ := sl_typed h11 (fun _ h => DPoint.of h)
  obtain ⟨d12, r12, rfl, h12, g12⟩ := HSL.cons_inv g11
  obtain ⟨x12, rfl⟩ := HS.bool_inv h12
  have w12 : True := trivial
  obtain ⟨d13, r13, rfl, h13, g13⟩ := HSL.cons_inv g12
  obtain ⟨x13, rfl, w13⟩ := HS.i64_inv h13
  obtain ⟨d14, r14, rfl, h14, g14⟩ := HSL.cons_inv g13
  obtain ⟨x14, rfl, w14⟩ := HS.i64_inv h14
  obtain ⟨d15, r15, rfl, h15, g15⟩ := HSL.cons_inv g14
  obtain ⟨x15, rfl⟩ := HS.bool_inv h15
  have w15 : True := trivial
  obtain ⟨d16, r16, rfl, h16, g16⟩ := HSL.cons_inv g15
  obtain ⟨x16, rfl, w16⟩ := HS.i64_inv h16
  obtain ⟨d17, r17, rfl, h17, g17⟩ := HSL.cons_inv g16
  obtain ⟨x17, rfl, w17⟩ := HS.i64_inv h17
  obtain ⟨d18, r18, rfl, h18, g18⟩ := HSL.cons_inv g17
  obtain ⟨x18, rfl⟩ := HS.bool_inv h18
  have w18 : True := trivial
  obtain ⟨d19, r19, rfl, h19, g19⟩ := HSL.cons_inv g18
  obtain ⟨x19, rfl, w19⟩ := sl_typed h19 (fun _ h => DPoint.of h)
  obtain ⟨d20, r20, rfl, h20, g20⟩ := HSL.cons_inv g19
  obtain ⟨x20, rfl⟩ := HS.bool_inv h20
  have w20 : True := trivial
  obtain ⟨d21, r21, rfl, h21, g21⟩ := HSL.cons_inv g20
  obtain ⟨x21, rfl, w21⟩ := HS.i64_inv h21
  obtain ⟨d22, r22, rfl, h22, g22⟩ := HSL.cons_inv g21
  obtain ⟨x22, rfl, w22⟩ := HS.i64_inv h22
  obtain ⟨d23, r23, rfl, h23, g23⟩ := HSL.cons_inv g22
  obtain ⟨x23, rfl⟩ := HS.bool_inv h23
  have w23 : True := trivial
  obtain ⟨d24, r24, rfl, h24, g24⟩ := HSL.cons_inv g23
  obtain ⟨x24, rfl, w24⟩ := HS.i64_inv h24
  obtain ⟨d25, r25, rfl, h25, g25⟩ := HSL.cons_inv g24
  obtain ⟨x25, rfl, w25⟩ := HS.i64_inv h25
  obtain ⟨d26, r26, rfl, h26, g26⟩ := HSL.cons_inv g25
  obtain ⟨x26, rfl, w26⟩ := HS.i64_inv h26
  obtain ⟨d27, r27, rfl, h27, g27⟩ := HSL.cons_inv g26
  obtain ⟨x27, rfl, w27⟩ := HS.i64_inv h27
  obtain ⟨d28, r28, rfl, h28, g28⟩ := HSL.cons_inv g27
  obtain ⟨x28, rfl, w28⟩ := HS.i64_inv h28
  obtain ⟨d29, r29, rfl, h29, g29⟩ := HSL.cons_inv g28
  obtain ⟨x29, rfl, w29⟩ := HS.i64_inv h29
  obtain ⟨d30, r30, rfl, h30, g30⟩ := HSL.cons_inv g29
  obtain ⟨x30, rfl, w30⟩ := HS.i64_inv h30
  obtain ⟨d31, r31, rfl, h31, g31⟩ := HSL.cons_inv g30
  obtain ⟨x31, rfl, w31⟩ := HS.i64_inv h31
  obtain ⟨d32, r32, rfl, h32, g32⟩ := HSL.cons_inv g31
  obtain ⟨x32, rfl, w32⟩ := HS.i64_inv h32
  obtain rfl := HSL.nil_inv g32
  exact ⟨⟨x0, x1, ⟨x2, x3, x4, x5, x6, x7, x8, x9⟩, ⟨x10, x11, x12, x13, x14, x15, x16, x17⟩, ⟨x18, x19, x20, x21, x22, x23, x24, x25⟩, x26, x27, x28, x29, x30, x31, x32⟩, rfl, ⟨w0, w1, ⟨w2, w3, w4, w5, w6, w7, w8, w9⟩, ⟨w10, w11, w12, w13, w14, w15, w16, w17⟩, ⟨w18, w19, w20, w21, w22, w23, w24, w25⟩, w26, w27, w28, w29, w30, w31, w32⟩⟩
def DInst.pv (t : DInst) : List PV := [.str t.Name, .frz 2 (t.Keys.map DKey.pv), .bool t.Volume.On, .frz 2 (t.Volume.Points.map DPoint.pv), .bool t.Volume.Sus, .int .i64 t.Volume.SusStart, .int .i64 t.Volume.SusEnd, .bool t.Volume.Loop, .int .i64 t.Volume.LoopStart, .int .i64 t.Volume.LoopEnd, .bool t.Panning.On, .frz 2 (t.Panning.Points.map DPoint.pv), .bool t.Panning.Sus, .int .i64 t.Panning.SusStart, .int .i64 t.Panning.SusEnd, .bool t.Panning.Loop, .int .i64 t.Panning.LoopStart, .int .i64 t.Panning.LoopEnd, .bool t.Pitch.On, .frz 2 (t.Pitch.Points.map DPoint.pv), .bool t.Pitch.Sus, .int .i64 t.Pitch.SusStart, .int .i64 t.Pitch.SusEnd, .bool t.Pitch.Loop, .int .i64 t.Pitch.LoopStart, .int .i64 t.Pitch.LoopEnd, .int .i64 t.Fade, .int .i64 t.NewNote, .int .i64 t.Dup, .int .i64 t.DupDo, .int .i64 t.Global, .int .i64 t.Cutoff, .int .i64 t.Resonance]
theorem DInst.pv_eq (t : DInst) : pvRow DInst.shp t.dat = t.pv := by
  unfold DInst.shp DInst.dat DInst.pv
  simp only [pvRow_nil, pvRow_cons, pv1_i, pv1_b, pv1_s, (show pv1 (.sl DKey.shp) (.sl (t.Keys.map DKey.dat)) = .frz 2 (t.Keys.map DKey.pv) from pv_map DKey.pv_eq _), (show pv1 (.sl DPoint.shp) (.sl (t.Volume.Points.map DPoint.dat)) = .frz 2 (t.Volume.Points.map DPoint.pv) from pv_map DPoint.pv_eq _), (show pv1 (.sl DPoint.shp) (.sl (t.Panning.Points.map DPoint.dat)) = .frz 2 (t.Panning.Points.map DPoint.pv) from pv_map DPoint.pv_eq _), (show pv1 (.sl DPoint.shp) (.sl (t.Pitch.Points.map DPoint.dat)) = .frz 2 (t.Pitch.Points.map DPoint.pv) from pv_map DPoint.pv_eq _)]
theorem DInst.pv_len (t : DInst) : t.pv.length = 33 := rfl
theorem DInst.pv_pure (t : DInst) : t.pv.all pure1 = true := rfl

structure DKeyed where
  Inst : DInst
  Note : Int
  Own : Int
  From : Int
  To : Int
  Shift : Int
  Num : Int
def DKeyed.dat (t : DKeyed) : List Dat := [.v (.string t.Inst.Name), .sl (t.Inst.Keys.map DKey.dat), .v (.bool t.Inst.Volume.On), .sl (t.Inst.Volume.Points.map DPoint.dat), .v (.bool t.Inst.Volume.Sus), .v (.int .i64 t.Inst.Volume.SusStart), .v (.int .i64 t.Inst.Volume.SusEnd), .v (.bool t.Inst.Volume.Loop), .v (.int .i64 t.Inst.Volume.LoopStart), .v (.int .i64 t.Inst.Volume.LoopEnd), .v (.bool t.Inst.Panning.On), .sl (t.Inst.Panning.Points.map DPoint.dat), .v (.bool t.Inst.Panning.Sus), .v (.int .i64 t.Inst.Panning.SusStart), .v (.int .i64 t.Inst.Panning.SusEnd), .v (.bool t.Inst.Panning.Loop), .v (.int .i64 t.Inst.Panning.LoopStart), .v (.int .i64 t.Inst.Panning.LoopEnd), .v (.bool t.Inst.Pitch.On), .sl (t.Inst.Pitch.Points.map DPoint.dat), .v (.bool t.Inst.Pitch.Sus), .v (.int .i64 t.Inst.Pitch.SusStart), .v (.int .i64 t.Inst.Pitch.SusEnd), .v (.bool t.Inst.Pitch.Loop), .v (.int .i64 t.Inst.Pitch.LoopStart), .v (.int .i64 t.Inst.Pitch.LoopEnd), .v (.int .i64 t.Inst.Fade), .v (.int .i64 t.Inst.NewNote), .v (.int .i64 t.Inst.Dup), .v (.int .i64 t.Inst.DupDo), .v (.int .i64 t.Inst.Global), .v (.int .i64 t.Inst.Cutoff), .v (.int .i64 t.Inst.Resonance), .v (.int .i64 t.Note), .v (.int .i64 t.Own), .v (.int .i64 t.From), .v (.int .i64 t.To), .v (.int .i64 t.Shift), .v (.int .i64 t.Num)]
def DKeyed.ok (t : DKeyed) : Prop := DInst.ok t.Inst ∧ isI64 t.Note ∧ isI64 t.Own ∧ isI64 t.From ∧ isI64 t.To ∧ isI64 t.Shift ∧ isI64 t.Num
def DKeyed.shp : List Shp := [.str, .sl DKey.shp, .bool, .sl DPoint.shp, .bool, .int .i64, .int .i64, .bool, .int .i64, .int .i64, .bool, .sl DPoint.shp, .bool, .int .i64, .int .i64, .bool, .int .i64, .int .i64, .bool, .sl DPoint.shp, .bool, .int .i64, .int .i64, .bool, .int .i64, .int .i64, .int .i64, .int .i64, .int .i64, .int .i64, .int .i64, .int .i64, .int .i64, .int .i64, .int .i64, .int .i64, .int .i64, .int .i64, .int .i64]
theorem DKeyed.len (t : DKeyed) : t.dat.length = 39 := rfl
theorem DKeyed.lens (l : List DKeyed) : ∀ q ∈ l.map DKeyed.dat, q.length = 39 := fun q hq => by obtain ⟨t, _, rfl⟩ := List.mem_map.1 hq; rfl
theorem DKeyed.of {r : List Dat} (h : HSL DKeyed.shp r) : ∃ t, r = DKeyed.dat t ∧ t.ok := by
  unfold DKeyed.shp at h
  obtain ⟨d0, r0, rfl, h0, g0⟩ := HSL.cons_inv h
  obtain ⟨x0, rfl, w0⟩ := HS.str_inv h0
  obtain ⟨d1, r1, rfl, h1, g1⟩ := HSL.cons_inv g0
  obtain ⟨x1, rfl, w1⟩ := sl_typed h1 (fun _ h => DKey.of h)
  obtain ⟨d2, r2, rfl, h2, g2⟩ := HSL.cons_inv g1
  obtain ⟨x2, rfl⟩ := HS.bool_inv h2
  have w2 : True := trivial
  obtain ⟨d3, r3, rfl, h3, g3⟩ := HSL.cons_inv g2
  obtain ⟨x3, rfl, w3⟩ := sl_typed h3 (fun _ h => DPoint.of h)
  obtain ⟨d4, r4, rfl, h4, g4⟩ := HSL.cons_inv g3
  obtain ⟨x4, rfl⟩ := HS.bool_inv h4
  have w4 : True := trivial
  obtain ⟨d5, r5, rfl, h5, g5⟩ := HSL.cons_inv g4
  obtain ⟨x5, rfl, w5⟩ := HS.i64_inv h5
  obtain ⟨d6, r6, rfl, h6, g6⟩ := HSL.cons_inv g5
  obtain ⟨x6, rfl, w6⟩ := HS.i64_inv h6
  obtain ⟨d7, r7, rfl, h7, g7⟩ := HSL.cons_inv g6
  obtain ⟨x7, rfl⟩ := HS.bool_inv h7
  have w7 : True := trivial
  obtain ⟨d8, r8, rfl, h8, g8⟩ := HSL.cons_inv g7
  obtain ⟨x8, rfl, w8⟩ := HS.i64_inv h8
  obtain ⟨d9, r9, rfl, h9, g9⟩ := HSL.cons_inv g8
  obtain ⟨x9, rfl, w9⟩ := HS.i64_inv h9
  obtain ⟨d10, r10, rfl, h10, g10⟩ := HSL.cons_inv g9
  obtain ⟨x10, rfl⟩ := HS.bool_inv h10
  have w10 : True := trivial
  obtain ⟨d11, r11, rfl, h11, g11⟩ := HSL.cons_inv g10
  obtain ⟨x11, rfl, w11⟩ := sl_typed h11 (fun _ h => DPoint.of h)
  obtain ⟨d12, r12, rfl, h12, g12⟩ := HSL.cons_inv g11
  obtain ⟨x12, rfl⟩ := HS.bool_inv h12
  have w12 : True := trivial
  obtain ⟨d13, r13, rfl, h13, g13⟩ := HSL.cons_inv g12
  obtain ⟨x13, rfl, w13⟩ := HS.i64_inv h13
  obtain ⟨d14, r14, rfl, h14, g14⟩ := HSL.cons_inv g13
  obtain ⟨x14, rfl, w14⟩ := HS.i64_inv h14
  obtain ⟨d15, r15, rfl, h15, g15⟩ := HSL.cons_inv g14
  obtain ⟨x15, rfl⟩ := HS.bool_inv h15
  have w15 : True := trivial
  obtain ⟨d16, r16, rfl, h16, g16⟩ := HSL.cons_inv g15
  obtain ⟨x16, rfl, w16⟩ := HS.i64_inv h16
  obtain ⟨d17, r17, rfl, h17, g17⟩ := HSL.cons_inv g16
  obtain ⟨x17, rfl, w17⟩ := HS.i64_inv h17
  obtain ⟨d18, r18, rfl, h18, g18⟩ := HSL.cons_inv g17
  obtain ⟨x18, rfl⟩ := HS.bool_inv h18
  have w18 : True := trivial
  obtain ⟨d19, r19, rfl, h19, g19⟩ := HSL.cons_inv g18
  obtain ⟨x19, rfl, w19⟩ := sl_typed h19 (fun _ h => DPoint.of h)
  obtain ⟨d20, r20, rfl, h20, g20⟩ := HSL.cons_inv g19
  obtain ⟨x20, rfl⟩ := HS.bool_inv h20
  have w20 : True := trivial
  obtain ⟨d21, r21, rfl, h21, g21⟩ := HSL.cons_inv g20
  obtain ⟨x21, rfl, w21⟩ := HS.i64_inv h21
  obtain ⟨d22, r22, rfl, h22, g22⟩ := HSL.cons_inv g21
  obtain ⟨x22, rfl, w22⟩ := HS.i64_inv h22
  obtain ⟨d23, r23, rfl, h23, g23⟩ := HSL.cons_inv g22
  obtain ⟨x23, rfl⟩ := HS.bool_inv h23
  have w23 : True := trivial
  obtain ⟨d24, r24, rfl, h24, g24⟩ := HSL.cons_inv g23
  obtain ⟨x24, rfl, w24⟩ := HS.i64_inv h24
  obtain ⟨d25, r25, rfl, h25, g25⟩ := HSL.cons_inv g24
  obtain ⟨x25, rfl, w25⟩ := HS.i64_inv h25
  obtain ⟨d26, r26, rfl, h26, g26⟩ := HSL.cons_inv g25
  obtain ⟨x26, rfl, w26⟩ := HS.i64_inv h26
  obtain ⟨d27, r27, rfl, h27, g27⟩ := HSL.cons_inv g26
  obtain ⟨x27, rfl, w27⟩ := HS.i64_inv h27
  obtain ⟨d28, r28, rfl, h28, g28⟩ := HSL.cons_inv g27
  obtain ⟨x28, rfl, w28⟩ := HS.i64_inv h28
  obtain ⟨d29, r29, rfl, h29, g29⟩ := HSL.cons_inv g28
  obtain ⟨x29, rfl, w29⟩ := HS.i64_inv h29
  obtain ⟨d30, r30, rfl, h30, g30⟩ := HSL.cons_inv g29
  obtain ⟨x30, rfl, w30⟩ := HS.i64_inv h30
  obtain ⟨d31, r31, rfl, h31, g31⟩ := HSL.cons_inv g30
  obtain ⟨x31, rfl, w31⟩ := HS.i64_inv h31
  obtain ⟨d32, r32, rfl, h32, g32⟩ := HSL.cons_inv g31
  obtain ⟨x32, rfl, w32⟩ := HS.i64_inv h32
  obtain ⟨d33, r33, rfl, h33, g33⟩ := HSL.cons_inv g32
  obtain ⟨x33, rfl, w33⟩ := HS.i64_inv h33
  obtain ⟨d34, r34, rfl, h34, g34⟩ := HSL.cons_inv g33
  obtain ⟨x34, rfl, w34⟩ := HS.i64_inv h34
  obtain ⟨d35, r35, rfl, h35, g35⟩ := HSL.cons_inv g34
  obtain ⟨x35, rfl, w35⟩ := HS.i64_inv h35
  obtain ⟨d36, r36, rfl, h36, g36⟩ := HSL.cons_inv g35
  obtain ⟨x36, rfl, w36⟩ := HS.i64_inv h36
  obtain ⟨d37, r37, rfl, h37, g37⟩ := HSL.cons_inv g36
  obtain ⟨x37, rfl, w37⟩ := HS.i64_inv h37
  obtain ⟨d38, r38, rfl, h38, g38⟩ := HSL.cons_inv g37
  obtain ⟨x38, rfl, w38⟩ := HS.i64_inv h38
  obtain rfl := HSL.nil_inv g38
  exact ⟨⟨⟨x0, x1, ⟨x2, x3, x4, x5, x6, x7, x8, x9⟩, ⟨x10, x11, x12, x13, x14, x15, x16, x17⟩, ⟨x18, x19, x20, x21, x22, x23, x24, x25⟩, x26, x27, x28, x29, x30, x31, x32⟩, x33, x34, x35, x36, x37, x38⟩, rfl, ⟨⟨w0, w1, ⟨w2, w3, w4, w5, w6, w7, w8, w9⟩, ⟨w10, w11, w12, w13, w14, w15, w16, w17⟩, ⟨w18, w19, w20, w21, w22, w23, w24, w25⟩, w26, w27, w28, w29, w30, w31, w32⟩, w33, w34, w35, w36, w37, w38⟩⟩
def DKeyed.pv (t : DKeyed) : List PV := [.str t.Inst.Name, .frz 2 (t.Inst.Keys.map DKey.pv), .bool t.Inst.Volume.On, .frz 2 (t.Inst.Volume.Points.map DPoint.pv), .bool t.Inst.Volume.Sus, .int .i64 t.Inst.Volume.SusStart, .int .i64 t.Inst.Volume.SusEnd, .bool t.Inst.Volume.Loop, .int .i64 t.Inst.Volume.LoopStart, .int .i64 t.Inst.Volume.LoopEnd, .bool t.Inst.Panning.On, .frz 2 (t.Inst.Panning.Points.map DPoint.pv), .bool t.Inst.Panning.Sus, .int .i64 t.Inst.Panning.SusStart, .int .i64 t.Inst.Panning.SusEnd, .bool t.Inst.Panning.Loop, .int .i64 t.Inst.Panning.LoopStart, .int .i64 t.Inst.Panning.LoopEnd, .bool t.Inst.Pitch.On, .frz 2 (t.Inst.Pitch.Points.map DPoint.pv), .bool t.Inst.Pitch.Sus, .int .i64 t.Inst.Pitch.SusStart, .int .i64 t.Inst.Pitch.SusEnd, .bool t.Inst.Pitch.Loop, .int .i64 t.Inst.Pitch.LoopStart, .int .i64 t.Inst.Pitch.LoopEnd, .int .i64 t.Inst.Fade, .int .i64 t.Inst.NewNote, .int .i64 t.Inst.Dup, .int .i64 t.Inst.DupDo, .int .i64 t.Inst.Global, .int .i64 t.Inst.Cutoff, .int .i64 t.Inst.Resonance, .int .i64 t.Note, .int .i64 t.Own, .int .i64 t.From, .int .i64 t.To, .int .i64 t.Shift, .int .i64 t.Num]
theorem DKeyed.pv_eq (t : DKeyed) : pvRow DKeyed.shp t.dat = t.pv := by
  unfold DKeyed.shp DKeyed.dat DKeyed.pv
  simp only [pvRow_nil, pvRow_cons, pv1_i, pv1_b, pv1_s, (show pv1 (.sl DKey.shp) (.sl (t.Inst.Keys.map DKey.dat)) = .frz 2 (t.Inst.Keys.map DKey.pv) from pv_map DKey.pv_eq _), (show pv1 (.sl DPoint.shp) (.sl (t.Inst.Volume.Points.map DPoint.dat)) = .frz 2 (t.Inst.Volume.Points.map DPoint.pv) from pv_map DPoint.pv_eq _), (show pv1 (.sl DPoint.shp) (.sl (t.Inst.Panning.Points.map DPoint.dat)) = .frz 2 (t.Inst.Panning.Points.map DPoint.pv) from pv_map DPoint.pv_eq _), (show pv1 (.sl DPoint.shp) (.sl (t.Inst.Pitch.Points.map DPoint.dat)) = .frz 2 (t.Inst.Pitch.Points.map DPoint.pv) from pv_map DPoint.pv_eq _)]
theorem DKeyed.pv_len (t : DKeyed) : t.pv.length = 39 := rfl
theorem DKeyed.pv_pure (t : DKeyed) : t.pv.all pure1 = true := rfl

end Go.Vm.X
