/- The program's types, as Lean's: printed by types.py. -/
import Derived.Test.YtjfppnnoeebcbaaMvE
set_option linter.unusedVariables false
set_option linter.unusedSimpArgs false
namespace Go.Vm.X
open Go.Am Go.Vm

structure DCell where
  Note : Int
  Inst : Int
  VolCmd : Int
  VolArg : Int
  Effect : Int
  Param : Int
def DCell.dat (t : DCell) : List Dat := [.v (.int .i64 t.Note), .v (.int .i64 t.Inst), .v (.int .i64 t.VolCmd), .v (.int .i64 t.VolArg), .v (.int .i64 t.Effect), .v (.int .i64 t.Param)]
def DCell.ok (t : DCell) : Prop := isI64 t.Note ∧ isI64 t.Inst ∧ isI64 t.VolCmd ∧ isI64 t.VolArg ∧ isI64 t.Effect ∧ isI64 t.Param
def DCell.shp : List Shp := [.int .i64, .int .i64, .int .i64, .int .i64, .int .i64, .int .i64]
theorem DCell.len (t : DCell) : t.dat.length = 6 := rfl
theorem DCell.lens (l : List DCell) : ∀ q ∈ l.map DCell.dat, q.length = 6 := fun q hq => by obtain ⟨t, _, rfl⟩ := List.mem_map.1 hq; rfl
theorem DCell.of {r : List Dat} (h : HSL DCell.shp r) : ∃ t, r = DCell.dat t ∧ t.ok := by
  unfold DCell.shp at h
  obtain ⟨d0, r0, rfl, h0, g0⟩ := HSL.cons_inv h
  obtain ⟨x0, rfl, w0⟩ := HS.i64_inv h0
  obtain ⟨d1, r1, rfl, h1, g1⟩ := HSL.cons_inv g0
  obtain ⟨x1, rfl, w1⟩ := HS.i64_inv h1
  obtain ⟨d2, r2, rfl, h2, g2⟩ := HSL.cons_inv g1
  obtain ⟨x2, rfl, w2⟩ := HS.i64_inv h2
  obtain ⟨d3, r3, rfl, h3, g3⟩ := HSL.cons_inv g2
  obtain ⟨x3, rfl, w3⟩ := HS.i64_inv h3
  obtain ⟨d4, r4, rfl, h4, g4⟩ := HSL.cons_inv g3
  obtain ⟨x4, rfl, w4⟩ := HS.i64_inv h4
  obtain ⟨d5, r5, rfl, h5, g5⟩ := HSL.cons_inv g4
  obtain ⟨x5, rfl, w5⟩ := HS.i64_inv h5
  obtain rfl := HSL.nil_inv g5
  exact ⟨⟨x0, x1, x2, x3, x4, x5⟩, rfl, ⟨w0, w1, w2, w3, w4, w5⟩⟩
def DCell.pv (t : DCell) : List PV := [.int .i64 t.Note, .int .i64 t.Inst, .int .i64 t.VolCmd, .int .i64 t.VolArg, .int .i64 t.Effect, .int .i64 t.Param]
theorem DCell.pv_eq (t : DCell) : pvRow DCell.shp t.dat = t.pv := by
  unfold DCell.shp DCell.dat DCell.pv
  simp only [pvRow_nil, pvRow_cons, pv1_i, pv1_b, pv1_s]
theorem DCell.pv_len (t : DCell) : t.pv.length = 6 := rfl
theorem DCell.pv_pure (t : DCell) : t.pv.all pure1 = true := rfl

structure DPattern where
  Rows : Int
  Cells : List DCell
def DPattern.dat (t : DPattern) : List Dat := [.v (.int .i64 t.Rows), .sl (t.Cells.map DCell.dat)]
def DPattern.ok (t : DPattern) : Prop := isI64 t.Rows ∧ (dokL DCell.ok) t.Cells
def DPattern.shp : List Shp := [.int .i64, .sl DCell.shp]
theorem DPattern.len (t : DPattern) : t.dat.length = 2 := rfl
theorem DPattern.lens (l : List DPattern) : ∀ q ∈ l.map DPattern.dat, q.length = 2 := fun q hq => by obtain ⟨t, _, rfl⟩ := List.mem_map.1 hq; rfl
theorem DPattern.of {r : List Dat} (h : HSL DPattern.shp r) : ∃ t, r = DPattern.dat t ∧ t.ok := by
  unfold DPattern.shp at h
  obtain ⟨d0, r0, rfl, h0, g0⟩ := HSL.cons_inv h
  obtain ⟨x0, rfl, w0⟩ := HS.i64_inv h0
  obtain ⟨d1, r1, rfl, h1, g1⟩ := HSL.cons_inv g0
  obtain ⟨x1, rfl, w1⟩ := sl_typed h1 (fun _ h => DCell.of h)
  obtain rfl := HSL.nil_inv g1
  exact ⟨⟨x0, x1⟩, rfl, ⟨w0, w1⟩⟩
def DPattern.pv (t : DPattern) : List PV := [.int .i64 t.Rows, .frz 6 (t.Cells.map DCell.pv)]
theorem DPattern.pv_eq (t : DPattern) : pvRow DPattern.shp t.dat = t.pv := by
  unfold DPattern.shp DPattern.dat DPattern.pv
  simp only [pvRow_nil, pvRow_cons, pv1_i, pv1_b, pv1_s, (show pv1 (.sl DCell.shp) (.sl (t.Cells.map DCell.dat)) = .frz 6 (t.Cells.map DCell.pv) from pv_map DCell.pv_eq _)]
theorem DPattern.pv_len (t : DPattern) : t.pv.length = 2 := rfl
theorem DPattern.pv_pure (t : DPattern) : t.pv.all pure1 = true := rfl

structure DSample where
  Name : ByteArray
  Data : List Int
  Bits : Int
  Rate : Int
  Volume : Int
  Pan : Int
  Fine : Int
  Loop : Int
  Start : Int
  End : Int
  Sus : Int
  SusStart : Int
  SusEnd : Int
def DSample.dat (t : DSample) : List Dat := [.v (.string t.Name), .sl (t.Data.map iD), .v (.int .i64 t.Bits), .v (.int .i64 t.Rate), .v (.int .i64 t.Volume), .v (.int .i64 t.Pan), .v (.int .i64 t.Fine), .v (.int .i64 t.Loop), .v (.int .i64 t.Start), .v (.int .i64 t.End), .v (.int .i64 t.Sus), .v (.int .i64 t.SusStart), .v (.int .i64 t.SusEnd)]
def DSample.ok (t : DSample) : Prop := (fun s => s.size ≤ maxLen) t.Name ∧ (dokL isI64) t.Data ∧ isI64 t.Bits ∧ isI64 t.Rate ∧ isI64 t.Volume ∧ isI64 t.Pan ∧ isI64 t.Fine ∧ isI64 t.Loop ∧ isI64 t.Start ∧ isI64 t.End ∧ isI64 t.Sus ∧ isI64 t.SusStart ∧ isI64 t.SusEnd
def DSample.shp : List Shp := [.str, .sl [.int .i64], .int .i64, .int .i64, .int .i64, .int .i64, .int .i64, .int .i64, .int .i64, .int .i64, .int .i64, .int .i64, .int .i64]
theorem DSample.len (t : DSample) : t.dat.length = 13 := rfl
theorem DSample.lens (l : List DSample) : ∀ q ∈ l.map DSample.dat, q.length = 13 := fun q hq => by obtain ⟨t, _, rfl⟩ := List.mem_map.1 hq; rfl
theorem DSample.of {r : List Dat} (h : HSL DSample.shp r) : ∃ t, r = DSample.dat t ∧ t.ok := by
  unfold DSample.shp at h
  obtain ⟨d0, r0, rfl, h0, g0⟩ := HSL.cons_inv h
  obtain ⟨x0, rfl, w0⟩ := HS.str_inv h0
  obtain ⟨d1, r1, rfl, h1, g1⟩ := HSL.cons_inv g0
  obtain ⟨x1, rfl, w1⟩ := sl_typed h1 (fun _ h => of_int h)
  obtain ⟨d2, r2, rfl, h2, g2⟩ := HSL.cons_inv g1
  obtain ⟨x2, rfl, w2⟩ := HS.i64_inv h2
  obtain ⟨d3, r3, rfl, h3, g3⟩ := HSL.cons_inv g2
  obtain ⟨x3, rfl, w3⟩ := HS.i64_inv h3
  obtain ⟨d4, r4, rfl, h4, g4⟩ := HSL.cons_inv g3
  obtain ⟨x4, rfl, w4⟩ := HS.i64_inv h4
  obtain ⟨d5, r5, rfl, h5, g5⟩ := HSL.cons_inv g4
  obtain ⟨x5, rfl, w5⟩ := HS.i64_inv h5
  obtain ⟨d6, r6, rfl, h6, g6⟩ := HSL.cons_inv g5
  obtain ⟨x6, rfl, w6⟩ := HS.i64_inv h6
  obtain ⟨d7, r7, rfl, h7, g7⟩ := HSL.cons_inv g6
  obtain ⟨x7, rfl, w7⟩ := HS.i64_inv h7
  obtain ⟨d8, r8, rfl, h8, g8⟩ := HSL.cons_inv g7
  obtain ⟨x8, rfl, w8⟩ := HS.i64_inv h8
  obtain ⟨d9, r9, rfl, h9, g9⟩ := HSL.cons_inv g8
  obtain ⟨x9, rfl, w9⟩ := HS.i64_inv h9
  obtain ⟨d10, r10, rfl, h10, g10⟩ := HSL.cons_inv g9
  obtain ⟨x10, rfl, w10⟩ := HS.i64_inv h10
  obtain ⟨d11, r11, rfl, h11, g11⟩ := HSL.cons_inv g10
  obtain ⟨x11, rfl, w11⟩ := HS.i64_inv h11
  obtain ⟨d12, r12, rfl, h12, g12⟩ := HSL.cons_inv g11
  obtain ⟨x12, rfl, w12⟩ := HS.i64_inv h12
  obtain rfl := HSL.nil_inv g12
  exact ⟨⟨x0, x1, x2, x3, x4, x5, x6, x7, x8, x9, x10, x11, x12⟩, rfl, ⟨w0, w1, w2, w3, w4, w5, w6, w7, w8, w9, w10, w11, w12⟩⟩
def DSample.pv (t : DSample) : List PV := [.str t.Name, .frz 1 (t.Data.map iV), .int .i64 t.Bits, .int .i64 t.Rate, .int .i64 t.Volume, .int .i64 t.Pan, .int .i64 t.Fine, .int .i64 t.Loop, .int .i64 t.Start, .int .i64 t.End, .int .i64 t.Sus, .int .i64 t.SusStart, .int .i64 t.SusEnd]
theorem DSample.pv_eq (t : DSample) : pvRow DSample.shp t.dat = t.pv := by
  unfold DSample.shp DSample.dat DSample.pv
  simp only [pvRow_nil, pvRow_cons, pv1_i, pv1_b, pv1_s, (show pv1 (.sl [.int .i64]) (.sl (t.Data.map iD)) = .frz 1 (t.Data.map iV) from pv_map row_i64 _)]
theorem DSample.pv_len (t : DSample) : t.pv.length = 13 := rfl
theorem DSample.pv_pure (t : DSample) : t.pv.all pure1 = true := rfl

structure DKey where
  Note : Int
  Sample : Int
def DKey.dat (t : DKey) : List Dat := [.v (.int .i64 t.Note), .v (.int .i64 t.Sample)]
def DKey.ok (t : DKey) : Prop := isI64 t.Note ∧ isI64 t.Sample
def DKey.shp : List Shp := [.int .i64, .int .i64]
theorem DKey.len (t : DKey) : t.dat.length = 2 := rfl
theorem DKey.lens (l : List DKey) : ∀ q ∈ l.map DKey.dat, q.length = 2 := fun q hq => by obtain ⟨t, _, rfl⟩ := List.mem_map.1 hq; rfl
theorem DKey.of {r : List Dat} (h : HSL DKey.shp r) : ∃ t, r = DKey.dat t ∧ t.ok := by
  unfold DKey.shp at h
  obtain ⟨d0, r0, rfl, h0, g0⟩ := HSL.cons_inv h
  obtain ⟨x0, rfl, w0⟩ := HS.i64_inv h0
  obtain ⟨d1, r1, rfl, h1, g1⟩ := HSL.cons_inv g0
  obtain ⟨x1, rfl, w1⟩ := HS.i64_inv h1
  obtain rfl := HSL.nil_inv g1
  exact ⟨⟨x0, x1⟩, rfl, ⟨w0, w1⟩⟩
def DKey.pv (t : DKey) : List PV := [.int .i64 t.Note, .int .i64 t.Sample]
theorem DKey.pv_eq (t : DKey) : pvRow DKey.shp t.dat = t.pv := by
  unfold DKey.shp DKey.dat DKey.pv
  simp only [pvRow_nil, pvRow_cons, pv1_i, pv1_b, pv1_s]
theorem DKey.pv_len (t : DKey) : t.pv.length = 2 := rfl
theorem DKey.pv_pure (t : DKey) : t.pv.all pure1 = true := rfl

structure DPoint where
  Tick : Int
  Value_ : Int
def DPoint.dat (t : DPoint) : List Dat := [.v (.int .i64 t.Tick), .v (.int .i64 t.Value_)]
def DPoint.ok (t : DPoint) : Prop := isI64 t.Tick ∧ isI64 t.Value_
def DPoint.shp : List Shp := [.int .i64, .int .i64]
theorem DPoint.len (t : DPoint) : t.dat.length = 2 := rfl
theorem DPoint.lens (l : List DPoint) : ∀ q ∈ l.map DPoint.dat, q.length = 2 := fun q hq => by obtain ⟨t, _, rfl⟩ := List.mem_map.1 hq; rfl
theorem DPoint.of {r : List Dat} (h : HSL DPoint.shp r) : ∃ t, r = DPoint.dat t ∧ t.ok := by
  unfold DPoint.shp at h
  obtain ⟨d0, r0, rfl, h0, g0⟩ := HSL.cons_inv h
  obtain ⟨x0, rfl, w0⟩ := HS.i64_inv h0
  obtain ⟨d1, r1, rfl, h1, g1⟩ := HSL.cons_inv g0
  obtain ⟨x1, rfl, w1⟩ := HS.i64_inv h1
  obtain rfl := HSL.nil_inv g1
  exact ⟨⟨x0, x1⟩, rfl, ⟨w0, w1⟩⟩
def DPoint.pv (t : DPoint) : List PV := [.int .i64 t.Tick, .int .i64 t.Value_]
theorem DPoint.pv_eq (t : DPoint) : pvRow DPoint.shp t.dat = t.pv := by
  unfold DPoint.shp DPoint.dat DPoint.pv
  simp only [pvRow_nil, pvRow_cons, pv1_i, pv1_b, pv1_s]
theorem DPoint.pv_len (t : DPoint) : t.pv.length = 2 := rfl
theorem DPoint.pv_pure (t : DPoint) : t.pv.all pure1 = true := rfl

structure DEnvelope where
  On : Bool
  Points : List DPoint
  Sus : Bool
  SusStart : Int
  SusEnd : Int
  Loop : Bool
  LoopStart : Int
  LoopEnd : Int
def DEnvelope.dat (t : DEnvelope) : List Dat := [.v (.bool t.On), .sl (t.Points.map DPoint.dat), .v (.bool t.Sus), .v (.int .i64 t.SusStart), .v (.int .i64 t.SusEnd), .v (.bool t.Loop), .v (.int .i64 t.LoopStart), .v (.int .i64 t.LoopEnd)]
def DEnvelope.ok (t : DEnvelope) : Prop := (fun _ => True) t.On ∧ (dokL DPoint.ok) t.Points ∧ (fun _ => True) t.Sus ∧ isI64 t.SusStart ∧ isI64 t.SusEnd ∧ (fun _ => True) t.Loop ∧ isI64 t.LoopStart ∧ isI64 t.LoopEnd
def DEnvelope.shp : List Shp := [.bool, .sl DPoint.shp, .bool, .int .i64, .int .i64, .bool, .int .i64, .int .i64]
theorem DEnvelope.len (t : DEnvelope) : t.dat.length = 8 := rfl
theorem DEnvelope.lens (l : List DEnvelope) : ∀ q ∈ l.map DEnvelope.dat, q.length = 8 := fun q hq => by obtain ⟨t, _, rfl⟩ := List.mem_map.1 hq; rfl
theorem DEnvelope.of {r : List Dat} (h : HSL DEnvelope.shp r) : ∃ t, r = DEnvelope.dat t ∧ t.ok := by
  unfold DEnvelope.shp at h
  obtain ⟨d0, r0, rfl, h0, g0⟩ := HSL.cons_inv h
  obtain ⟨x0, rfl⟩ := HS.bool_inv h0
  have w0 : True := trivial
  obtain ⟨d1, r1, rfl, h1, g1⟩ := HSL.cons_inv g0
  obtain ⟨x1, rfl, w1⟩ := sl_typed h1 (fun _ h => DPoint.of h)
  obtain ⟨d2, r2, rfl, h2, g2⟩ := HSL.cons_inv g1
  obtain ⟨x2, rfl⟩ := HS.bool_inv h2
  have w2 : True := trivial
  obtain ⟨d3, r3, rfl, h3, g3⟩ := HSL.cons_inv g2
  obtain ⟨x3, rfl, w3⟩ := HS.i64_inv h3
  obtain ⟨d4, r4, rfl, h4, g4⟩ := HSL.cons_inv g3
  obtain ⟨x4, rfl, w4⟩ := HS.i64_inv h4
  obtain ⟨d5, r5, rfl, h5, g5⟩ := HSL.cons_inv g4
  obtain ⟨x5, rfl⟩ := HS.bool_inv h5
  have w5 : True := trivial
  obtain ⟨d6, r6, rfl, h6, g6⟩ := HSL.cons_inv g5
  obtain ⟨x6, rfl, w6⟩ := HS.i64_inv h6
  obtain ⟨d7, r7, rfl, h7, g7⟩ := HSL.cons_inv g6
  obtain ⟨x7, rfl, w7⟩ := HS.i64_inv h7
  obtain rfl := HSL.nil_inv g7
  exact ⟨⟨x0, x1, x2, x3, x4, x5, x6, x7⟩, rfl, ⟨w0, w1, w2, w3, w4, w5, w6, w7⟩⟩
def DEnvelope.pv (t : DEnvelope) : List PV := [.bool t.On, .frz 2 (t.Points.map DPoint.pv), .bool t.Sus, .int .i64 t.SusStart, .int .i64 t.SusEnd, .bool t.Loop, .int .i64 t.LoopStart, .int .i64 t.LoopEnd]
theorem DEnvelope.pv_eq (t : DEnvelope) : pvRow DEnvelope.shp t.dat = t.pv := by
  unfold DEnvelope.shp DEnvelope.dat DEnvelope.pv
  simp only [pvRow_nil, pvRow_cons, pv1_i, pv1_b, pv1_s, (show pv1 (.sl DPoint.shp) (.sl (t.Points.map DPoint.dat)) = .frz 2 (t.Points.map DPoint.pv) from pv_map DPoint.pv_eq _)]
theorem DEnvelope.pv_len (t : DEnvelope) : t.pv.length = 8 := rfl
theorem DEnvelope.pv_pure (t : DEnvelope) : t.pv.all pure1 = true := rfl

structure DInst where
  Name : ByteArray
  Keys : List DKey
  Volume : DEnvelope
  Panning : DEnvelope
  Pitch : DEnvelope
  Fade : Int
  NewNote : Int
  Dup : Int
  DupDo : Int
  Global : Int
  Cutoff : Int
  Resonance : Int
def DInst.dat (t : DInst) : List Dat := [.v (.string t.Name), .sl (t.Keys.map DKey.dat), .v (.bool t.Volume.On), .sl (t.Volume.Points.map DPoint.dat), .v (.bool t.Volume.Sus), .v (.int .i64 t.Volume.SusStart), .v (.int .i64 t.Volume.SusEnd), .v (.bool t.Volume.Loop), .v (.int .i64 t.Volume.LoopStart), .v (.int .i64 t.Volume.LoopEnd), .v (.bool t.Panning.On), .sl (t.Panning.Points.map DPoint.dat), .v (.bool t.Panning.Sus), .v (.int .i64 t.Panning.SusStart), .v (.int .i64 t.Panning.SusEnd), .v (.bool t.Panning.Loop), .v (.int .i64 t.Panning.LoopStart), .v (.int .i64 t.Panning.LoopEnd), .v (.bool t.Pitch.On), .sl (t.Pitch.Points.map DPoint.dat), .v (.bool t.Pitch.Sus), .v (.int .i64 t.Pitch.SusStart), .v (.int .i64 t.Pitch.SusEnd), .v (.bool t.Pitch.Loop), .v (.int .i64 t.Pitch.LoopStart), .v (.int .i64 t.Pitch.LoopEnd), .v (.int .i64 t.Fade), .v (.int .i64 t.NewNote), .v (.int .i64 t.Dup), .v (.int .i64 t.DupDo), .v (.int .i64 t.Global), .v (.int .i64 t.Cutoff), .v (.int .i64 t.Resonance)]
def DInst.ok (t : DInst) : Prop := (fun s => s.size ≤ maxLen) t.Name ∧ (dokL DKey.ok) t.Keys ∧ DEnvelope.ok t.Volume ∧ DEnvelope.ok t.Panning ∧ DEnvelope.ok t.Pitch ∧ isI64 t.Fade ∧ isI64 t.NewNote ∧ isI64 t.Dup ∧ isI64 t.DupDo ∧ isI64 t.Global ∧ isI64 t.Cutoff ∧ isI64 t.Resonance
def DInst.shp : List Shp := [.str, .sl DKey.shp, .bool, .sl DPoint.shp, .bool, .int .i64, .int .i64, .bool, .int .i64, .int .i64, .bool, .sl DPoint.shp, .bool, .int .i64, .int .i64, .bool, .int .i64, .int .i64, .bool, .sl DPoint.shp, .bool, .int .i64, .int .i64, .bool, .int .i64, .int .i64, .int .i64, .int .i64, .int .i64, .int .i64, .int .i64, .int .i64, .int .i64]
theorem DInst.len (t : DInst) : t.dat.length = 33 := rfl
theorem DInst.lens (l : List DInst) : ∀ q ∈ l.map DInst.dat, q.length = 33 := fun q hq => by obtain ⟨t, _, rfl⟩ := List.mem_map.1 hq; rfl
theorem DInst.of {r : List Dat} (h : HSL DInst.shp r) : ∃ t, r = DInst.dat t ∧ t.ok := by
  unfold DInst.shp at h
  obtain ⟨d0, r0, rfl, h0, g0⟩ := HSL.cons_inv h
  obtain ⟨x0, rfl, w0⟩ := HS.str_inv h0
  obtain ⟨d1, r1, rfl, h1, g1⟩ := HSL.cons_inv g0
  obtain ⟨x1, rfl, w1⟩ := sl_typed h1 (fun _ h => DKey.of h)
  obtain ⟨d2, r2, rfl, h2, g2⟩ := HSL.cons_inv g1
  obtain ⟨x2, rfl⟩ := HS.bool_inv h2
  have w2 : True := trivial
  obtain ⟨d3, r3, rfl, h3, g3⟩ := HSL.cons_inv g2
  obtain ⟨x3, rfl, w3⟩ := sl_typed h3 (fun _ h => DPoint.of h)
  obtain ⟨d4, r4, rfl, h4, g4⟩ := HSL.cons_inv g3
  obtain ⟨x4, rfl⟩ := HS.bool_inv h4
  have w4 : True := trivial
  obtain ⟨d5, r5, rfl, h5, g5⟩ := HSL.cons_inv g4
  obtain ⟨x5, rfl, w5⟩ := HS.i64_inv h5
  obtain ⟨d6, r6, rfl, h6, g6⟩ := HSL.cons_inv g5
  obtain ⟨x6, rfl, w6⟩ := HS.i64_inv h6
  obtain ⟨d7, r7, rfl, h7, g7⟩ := HSL.cons_inv g6
  obtain ⟨x7, rfl⟩ := HS.bool_inv h7
  have w7 : True := trivial
  obtain ⟨d8, r8, rfl, h8, g8⟩ := HSL.cons_inv g7
  obtain ⟨x8, rfl, w8⟩ := HS.i64_inv h8
  obtain ⟨d9, r9, rfl, h9, g9⟩ := HSL.cons_inv g8
  obtain ⟨x9, rfl, w9⟩ := HS.i64_inv h9
  obtain ⟨d10, r10, rfl, h10, g10⟩ := HSL.cons_inv g9
  obtain ⟨x10, rfl⟩ := HS.bool_inv h10
  have w10 : True := trivial
  obtain ⟨d11, r11, rfl, h11, g11⟩ := HSL.cons_inv g10
  obtain ⟨x11, rfl, w11⟩ := sl_typed h11 (fun _ h => DPoint.of h)
  obtain ⟨d12, r12, rfl, h12, g12⟩ := HSL.cons_inv g11
  obtain ⟨x12, rfl⟩ := HS.bool_inv h12
  have w12 : True := trivial
  obtain ⟨d13, r13, rfl, h13, g13⟩ := HSL.cons_inv g12
  obtain ⟨x13, rfl, w13⟩ := HS.i64_inv h13
  obtain ⟨d14, r14, rfl, h14, g14⟩ := HSL.cons_inv g13
  obtain ⟨x14, rfl, w14⟩ := HS.i64_inv h14
  obtain ⟨d15, r15, rfl, h15, g15⟩ := HSL.cons_inv g14
  obtain ⟨x15, rfl⟩ := HS.bool_inv h15
  have w15 : True := trivial
  obtain ⟨d16, r16, rfl, h16, g16⟩ := HSL.cons_inv g15
  obtain ⟨x16, rfl, w16⟩ := HS.i64_inv h16
  obtain ⟨d17, r17, rfl, h17, g17⟩ := HSL.cons_inv g16
  obtain ⟨x17, rfl, w17⟩ := HS.i64_inv h17
  obtain ⟨d18, r18, rfl, h18, g18⟩ := HSL.cons_inv g17
  obtain ⟨x18, rfl⟩ := HS.bool_inv h18
  have w18 : True := trivial
  obtain ⟨d19, r19, rfl, h19, g19⟩ := HSL.cons_inv g18
  obtain ⟨x19, rfl, w19⟩ := sl_typed h19 (fun _ h => DPoint.of h)
  obtain ⟨d20, r20, rfl, h20, g20⟩ := HSL.cons_inv g19
  obtain ⟨x20, rfl⟩ := HS.bool_inv h20
  have w20 : True := trivial
  obtain ⟨d21, r21, rfl, h21, g21⟩ := HSL.cons_inv g20
  obtain ⟨x21, rfl, w21⟩ := HS.i64_inv h21
  obtain ⟨d22, r22, rfl, h22, g22⟩ := HSL.cons_inv g21
  obtain ⟨x22, rfl, w22⟩ := HS.i64_inv h22
  obtain ⟨d23, r23, rfl, h23, g23⟩ := HSL.cons_inv g22
  obtain ⟨x23, rfl⟩ := HS.bool_inv h23
  have w23 : True := trivial
  obtain ⟨d24, r24, rfl, h24, g24⟩ := HSL.cons_inv g23
  obtain ⟨x24, rfl, w24⟩ := HS.i64_inv h24
  obtain ⟨d25, r25, rfl, h25, g25⟩ := HSL.cons_inv g24
  obtain ⟨x25, rfl, w25⟩ := HS.i64_inv h25
  obtain ⟨d26, r26, rfl, h26, g26⟩ := HSL.cons_inv g25
  obtain ⟨x26, rfl, w26⟩ := HS.i64_inv h26
  obtain ⟨d27, r27, rfl, h27, g27⟩ := HSL.cons_inv g26
  obtain ⟨x27, rfl, w27⟩ := HS.i64_inv h27
  obtain ⟨d28, r28, rfl, h28, g28⟩ := HSL.cons_inv g27
  obtain ⟨x28, rfl, w28⟩ := HS.i64_inv h28
  obtain ⟨d29, r29, rfl, h29, g29⟩ := HSL.cons_inv g28
  obtain ⟨x29, rfl, w29⟩ := HS.i64_inv h29
  obtain ⟨d30, r30, rfl, h30, g30⟩ := HSL.cons_inv g29
  obtain ⟨x30, rfl, w30⟩ := HS.i64_inv h30
  obtain ⟨d31, r31, rfl, h31, g31⟩ := HSL.cons_inv g30
  obtain ⟨x31, rfl, w31⟩ := HS.i64_inv h31
  obtain ⟨d32, r32, rfl, h32, g32⟩ := HSL.cons_inv g31
  obtain ⟨x32, rfl, w32⟩ := HS.i64_inv h32
  obtain rfl := HSL.nil_inv g32
  exact ⟨⟨x0, x1, ⟨x2, x3, x4, x5, x6, x7, x8, x9⟩, ⟨x10, x11, x12, x13, x14, x15, x16, x17⟩, ⟨x18, x19, x20, x21, x22, x23, x24, x25⟩, x26, x27, x28, x29, x30, x31, x32⟩, rfl, ⟨w0, w1, ⟨w2, w3, w4, w5, w6, w7, w8, w9⟩, ⟨w10, w11, w12, w13, w14, w15, w16, w17⟩, ⟨w18, w19, w20, w21, w22, w23, w24, w25⟩, w26, w27, w28, w29, w30, w31, w32⟩⟩
def DInst.pv (t : DInst) : List PV := [.str t.Name, .frz 2 (t.Keys.map DKey.pv), .bool t.Volume.On, .frz 2 (t.Volume.Points.map DPoint.pv), .bool t.Volume.Sus, .int .i64 t.Volume.SusStart, .int .i64 t.Volume.SusEnd, .bool t.Volume.Loop, .int .i64 t.Volume.LoopStart, .int .i64 t.Volume.LoopEnd, .bool t.Panning.On, .frz 2 (t.Panning.Points.map DPoint.pv), .bool t.Panning.Sus, .int .i64 t.Panning.SusStart, .int .i64 t.Panning.SusEnd, .bool t.Panning.Loop, .int .i64 t.Panning.LoopStart, .int .i64 t.Panning.LoopEnd, .bool t.Pitch.On, .frz 2 (t.Pitch.Points.map DPoint.pv), .bool t.Pitch.Sus, .int .i64 t.Pitch.SusStart, .int .i64 t.Pitch.SusEnd, .bool t.Pitch.Loop, .int .i64 t.Pitch.LoopStart, .int .i64 t.Pitch.LoopEnd, .int .i64 t.Fade, .int .i64 t.NewNote, .int .i64 t.Dup, .int .i64 t.DupDo, .int .i64 t.Global, .int .i64 t.Cutoff, .int .i64 t.Resonance]
theorem DInst.pv_eq (t : DInst) : pvRow DInst.shp t.dat = t.pv := by
  unfold DInst.shp DInst.dat DInst.pv
  simp only [pvRow_nil, pvRow_cons, pv1_i, pv1_b, pv1_s, (show pv1 (.sl DKey.shp) (.sl (t.Keys.map DKey.dat)) = .frz 2 (t.Keys.map DKey.pv) from pv_map DKey.pv_eq _), (show pv1 (.sl DPoint.shp) (.sl (t.Volume.Points.map DPoint.dat)) = .frz 2 (t.Volume.Points.map DPoint.pv) from pv_map DPoint.pv_eq _), (show pv1 (.sl DPoint.shp) (.sl (t.Panning.Points.map DPoint.dat)) = .frz 2 (t.Panning.Points.map DPoint.pv) from pv_map DPoint.pv_eq _), (show pv1 (.sl DPoint.shp) (.sl (t.Pitch.Points.map DPoint.dat)) = .frz 2 (t.Pitch.Points.map DPoint.pv) from pv_map DPoint.pv_eq _)]
theorem DInst.pv_len (t : DInst) : t.pv.length = 33 := rfl
theorem DInst.pv_pure (t : DInst) : t.pv.all pure1 = true := rfl

structure DSong where
  Name : ByteArray
  Dialect : Int
  Channels : Int
  Orders : List Int
  Restart : Int
  Speed : Int
  Tempo : Int
  Global : Int
  Linear : Bool
  Pans : List Int
  Patterns : List DPattern
  Samples : List DSample
  Insts : List DInst
def DSong.dat (t : DSong) : List Dat := [.v (.string t.Name), .v (.int .i64 t.Dialect), .v (.int .i64 t.Channels), .sl (t.Orders.map iD), .v (.int .i64 t.Restart), .v (.int .i64 t.Speed), .v (.int .i64 t.Tempo), .v (.int .i64 t.Global), .v (.bool t.Linear), .sl (t.Pans.map iD), .sl (t.Patterns.map DPattern.dat), .sl (t.Samples.map DSample.dat), .sl (t.Insts.map DInst.dat)]
def DSong.ok (t : DSong) : Prop := (fun s => s.size ≤ maxLen) t.Name ∧ isI64 t.Dialect ∧ isI64 t.Channels ∧ (dokL isI64) t.Orders ∧ isI64 t.Restart ∧ isI64 t.Speed ∧ isI64 t.Tempo ∧ isI64 t.Global ∧ (fun _ => True) t.Linear ∧ (dokL isI64) t.Pans ∧ (dokL DPattern.ok) t.Patterns ∧ (dokL DSample.ok) t.Samples ∧ (dokL DInst.ok) t.Insts
def DSong.shp : List Shp := [.str, .int .i64, .int .i64, .sl [.int .i64], .int .i64, .int .i64, .int .i64, .int .i64, .bool, .sl [.int .i64], .sl DPattern.shp, .sl DSample.shp, .sl DInst.shp]
theorem DSong.len (t : DSong) : t.dat.length = 13 := rfl
theorem DSong.lens (l : List DSong) : ∀ q ∈ l.map DSong.dat, q.length = 13 := fun q hq => by obtain ⟨t, _, rfl⟩ := List.mem_map.1 hq; rfl
theorem DSong.of {r : List Dat} (h : HSL DSong.shp r) : ∃ t, r = DSong.dat t ∧ t.ok := by
  unfold DSong.shp at h
  obtain ⟨d0, r0, rfl, h0, g0⟩ := HSL.cons_inv h
  obtain ⟨x0, rfl, w0⟩ := HS.str_inv h0
  obtain ⟨d1, r1, rfl, h1, g1⟩ := HSL.cons_inv g0
  obtain ⟨x1, rfl, w1⟩ := HS.i64_inv h1
  obtain ⟨d2, r2, rfl, h2, g2⟩ := HSL.cons_inv g1
  obtain ⟨x2, rfl, w2⟩ := HS.i64_inv h2
  obtain ⟨d3, r3, rfl, h3, g3⟩ := HSL.cons_inv g2
  obtain ⟨x3, rfl, w3⟩ := sl_typed h3 (fun _ h => of_int h)
  obtain ⟨d4, r4, rfl, h4, g4⟩ := HSL.cons_inv g3
  obtain ⟨x4, rfl, w4⟩ := HS.i64_inv h4
  obtain ⟨d5, r5, rfl, h5, g5⟩ := HSL.cons_inv g4
  obtain ⟨x5, rfl, w5⟩ := HS.i64_inv h5
  obtain ⟨d6, r6, rfl, h6, g6⟩ := HSL.cons_inv g5
  obtain ⟨x6, rfl, w6⟩ := HS.i64_inv h6
  obtain ⟨d7, r7, rfl, h7, g7⟩ := HSL.cons_inv g6
  obtain ⟨x7, rfl, w7⟩ := HS.i64_inv h7
  obtain ⟨d8, r8, rfl, h8, g8⟩ := HSL.cons_inv g7
  obtain ⟨x8, rfl⟩ := HS.bool_inv h8
  have w8 : True := trivial
  obtain ⟨d9, r9, rfl, h9, g9⟩ := HSL.cons_inv g8
  obtain ⟨x9, rfl, w9⟩ := sl_typed h9 (fun _ h => of_int h)
  obtain ⟨d10, r10, rfl, h10, g10⟩ := HSL.cons_inv g9
  obtain ⟨x10, rfl, w10⟩ := sl_typed h10 (fun _ h => DPattern.of h)
  obtain ⟨d11, r11, rfl, h11, g11⟩ := HSL.cons_inv g10
  obtain ⟨x11, rfl, w11⟩ := sl_typed h11 (fun _ h => DSample.of h)
  obtain ⟨d12, r12, rfl, h12, g12⟩ := HSL.cons_inv g11
  obtain ⟨x12, rfl, w12⟩ := sl_typed h12 (fun _ h => DInst.of h)
  obtain rfl := HSL.nil_inv g12
  exact ⟨⟨x0, x1, x2, x3, x4, x5, x6, x7, x8, x9, x10, x11, x12⟩, rfl, ⟨w0, w1, w2, w3, w4, w5, w6, w7, w8, w9, w10, w11, w12⟩⟩
def DSong.pv (t : DSong) : List PV := [.str t.Name, .int .i64 t.Dialect, .int .i64 t.Channels, .frz 1 (t.Orders.map iV), .int .i64 t.Restart, .int .i64 t.Speed, .int .i64 t.Tempo, .int .i64 t.Global, .bool t.Linear, .frz 1 (t.Pans.map iV), .frz 2 (t.Patterns.map DPattern.pv), .frz 13 (t.Samples.map DSample.pv), .frz 33 (t.Insts.map DInst.pv)]
theorem DSong.pv_eq (t : DSong) : pvRow DSong.shp t.dat = t.pv := by
  unfold DSong.shp DSong.dat DSong.pv
  simp only [pvRow_nil, pvRow_cons, pv1_i, pv1_b, pv1_s, (show pv1 (.sl [.int .i64]) (.sl (t.Orders.map iD)) = .frz 1 (t.Orders.map iV) from pv_map row_i64 _), (show pv1 (.sl [.int .i64]) (.sl (t.Pans.map iD)) = .frz 1 (t.Pans.map iV) from pv_map row_i64 _), (show pv1 (.sl DPattern.shp) (.sl (t.Patterns.map DPattern.dat)) = .frz 2 (t.Patterns.map DPattern.pv) from pv_map DPattern.pv_eq _), (show pv1 (.sl DSample.shp) (.sl (t.Samples.map DSample.dat)) = .frz 13 (t.Samples.map DSample.pv) from pv_map DSample.pv_eq _), (show pv1 (.sl DInst.shp) (.sl (t.Insts.map DInst.dat)) = .frz 33 (t.Insts.map DInst.pv) from pv_map DInst.pv_eq _)]
theorem DSong.pv_len (t : DSong) : t.pv.length = 13 := rfl
theorem DSong.pv_pure (t : DSong) : t.pv.all pure1 = true := rfl

end Go.Vm.X
