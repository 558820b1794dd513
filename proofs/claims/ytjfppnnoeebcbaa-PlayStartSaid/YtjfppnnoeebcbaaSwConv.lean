/- Songs: what is read at the start is a song. -/
import Derived.Test.YtjfppnnoeebcbaaSwTypes
import Derived.Test.YtjfppnnoeebcbaaSwFault
set_option linter.unusedSimpArgs false
set_option linter.unusedVariables false
namespace Go.Vm.X
open Go.Am Go.Vm

def DCell.to (t : DCell) : Cell := ⟨t.Note, t.Inst, t.VolCmd, t.VolArg, t.Effect, t.Param⟩
def DPattern.to (t : DPattern) : Pat := (t.Rows, t.Cells.map DCell.to)
def DSample.to (t : DSample) : Smp := ⟨t.Name, t.Data, t.Bits, t.Rate, t.Volume, t.Pan, t.Fine, t.Loop, t.Start, t.End, t.Sus, t.SusStart, t.SusEnd⟩
def DKey.to (t : DKey) : Int × Int := (t.Note, t.Sample)
def DPoint.to (t : DPoint) : Int × Int := (t.Tick, t.Value_)
def DEnvelope.to (t : DEnvelope) : Env := ⟨t.On, t.Points.map DPoint.to, t.Sus, t.SusStart, t.SusEnd, t.Loop, t.LoopStart, t.LoopEnd⟩
def DInst.to (t : DInst) : Ins := ⟨t.Name, t.Keys.map DKey.to, t.Volume.to, t.Panning.to, t.Pitch.to, t.Fade, t.NewNote, t.Dup, t.DupDo, t.Global, t.Cutoff, t.Resonance⟩
def DSong.to (t : DSong) : Sng := ⟨t.Name, t.Dialect, t.Channels, t.Orders, t.Restart, t.Speed, t.Tempo, t.Global, t.Linear, t.Pans, t.Patterns.map DPattern.to, t.Samples.map DSample.to, t.Insts.map DInst.to⟩
theorem map_to {α β : Type} {f : α → β} {g : β → List PV} {k : α → List PV} (h : ∀ a, g (f a) = k a) (l : List α) : (l.map f).map g = l.map k := by
  rw [List.map_map]
  exact List.map_congr_left fun a _ => h a
theorem DPattern.to_cs (t : DPattern) : patC t.to = t.pv := by
  unfold patC cellsPV DPattern.to DPattern.pv
  rw [map_to (f := DCell.to) (g := Cell.cs) (k := DCell.pv) (fun a => rfl)]
theorem DEnvelope.to_pts (t : DEnvelope) : ptsPV t.to.pts = .frz 2 (t.Points.map DPoint.pv) := by
  unfold ptsPV DEnvelope.to
  rw [map_to (f := DPoint.to) (g := ptC) (k := DPoint.pv) (fun a => rfl)]
theorem DInst.to_cs (t : DInst) : t.to.cs = t.pv := by
  unfold Ins.cs Env.cs
  rw [show ptsPV t.to.vol.pts = .frz 2 (t.Volume.Points.map DPoint.pv) from t.Volume.to_pts, show ptsPV t.to.pan.pts = .frz 2 (t.Panning.Points.map DPoint.pv) from t.Panning.to_pts, show ptsPV t.to.pit.pts = .frz 2 (t.Pitch.Points.map DPoint.pv) from t.Pitch.to_pts]
  rw [show keysPV t.to.keys = .frz 2 (t.Keys.map DKey.pv) from congrArg (PV.frz 2) (map_to (f := DKey.to) (g := keyC) (k := DKey.pv) (fun a => rfl) _)]
  rfl
theorem DSong.to_cs (t : DSong) : t.to.cs = t.pv := by
  unfold Sng.cs
  rw [show patsPV t.to.pats = .frz 2 (t.Patterns.map DPattern.pv) from congrArg (PV.frz 2) (map_to (f := DPattern.to) (g := patC) (k := DPattern.pv) DPattern.to_cs _)]
  rw [show smpsPV t.to.smps = .frz 13 (t.Samples.map DSample.pv) from congrArg (PV.frz 13) (map_to (f := DSample.to) (g := Smp.cs) (k := DSample.pv) (fun a => rfl) _)]
  rw [show inssPV t.to.inss = .frz 33 (t.Insts.map DInst.pv) from congrArg (PV.frz 33) (map_to (f := DInst.to) (g := Ins.cs) (k := DInst.pv) DInst.to_cs _)]
  rfl
theorem len_ok {α : Type} {p : α → Prop} {l : List α} (h : dokL p l) : l.length < 9223372036854775808 := by
  have h1 := h.1
  have : maxLen = 9223372036854775807 := rfl
  omega
theorem len_okM {α β : Type} {p : α → Prop} {l : List α} {f : α → β} (h : dokL p l) : (l.map f).length < 9223372036854775808 := by rw [List.length_map]; exact len_ok h
theorem siz_ok {s : ByteArray} (h : s.size ≤ maxLen) : s.size < 9223372036854775808 := by
  have : maxLen = 9223372036854775807 := rfl
  omega
theorem DInst.to_len {t : DInst} (h : t.ok) : InsLen t.to := by
  obtain ⟨h1, h2, h3, h4, h5, _⟩ := h
  exact ⟨siz_ok h1, len_okM h2, len_okM h3.2.1, len_okM h4.2.1, len_okM h5.2.1⟩
theorem DSong.to_len {t : DSong} (h : t.ok) : SngLen t.to := by
  obtain ⟨h1, _, _, h2, _, _, _, _, _, h3, h4, h5, h6⟩ := h
  exact {
    name := siz_ok h1
    ords := len_ok h2
    pans := len_ok h3
    pats := len_okM h4
    cells := fun p hp => by
      obtain ⟨q, hq, rfl⟩ := List.mem_map.1 hp
      exact len_okM (h4.2 q hq).2
    smps := len_okM h5
    smp := fun p hp => by
      obtain ⟨q, hq, rfl⟩ := List.mem_map.1 hp
      exact ⟨siz_ok (h5.2 q hq).1, len_ok (h5.2 q hq).2.1⟩
    inss := len_okM h6
    ins := fun p hp => by
      obtain ⟨q, hq, rfl⟩ := List.mem_map.1 hp
      exact DInst.to_len (h6.2 q hq) }
end Go.Vm.X
