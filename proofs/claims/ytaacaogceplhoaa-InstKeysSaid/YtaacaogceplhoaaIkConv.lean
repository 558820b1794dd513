/- InstKeys: what is read at the start is an instrument with what is asked; the law. -/
import Derived.Test.YtaacaogceplhoaaIkTypes
import Derived.Test.YtaacaogceplhoaaIkR
import Derived.Test.YtaacaogceplhoaaIkBase
set_option linter.unusedSimpArgs false
set_option linter.unusedVariables false
namespace Go.Vm.X
open Go.Am Go.Vm

def DKey.to (t : DKey) : Int × Int := (t.Note, t.Sample)
def DPoint.to (t : DPoint) : Int × Int := (t.Tick, t.Value_)
def DEnvelope.to (t : DEnvelope) : Env := ⟨t.On, t.Points.map DPoint.to, t.Sus, t.SusStart, t.SusEnd, t.Loop, t.LoopStart, t.LoopEnd⟩
def DInst.to (t : DInst) : Ins := ⟨t.Name, t.Keys.map DKey.to, t.Volume.to, t.Panning.to, t.Pitch.to, t.Fade, t.NewNote, t.Dup, t.DupDo, t.Global, t.Cutoff, t.Resonance⟩
theorem map_to {α β : Type} {f : α → β} {g : β → List PV} {k : α → List PV} (h : ∀ a, g (f a) = k a) (l : List α) : (l.map f).map g = l.map k := by
  rw [List.map_map]
  exact List.map_congr_left fun a _ => h a
theorem DEnvelope.to_pts (t : DEnvelope) : ptsPV t.to.pts = .frz 2 (t.Points.map DPoint.pv) := by
  unfold ptsPV DEnvelope.to
  rw [map_to (f := DPoint.to) (g := ptC) (k := DPoint.pv) (fun a => rfl)]
theorem DInst.to_cs (t : DInst) : t.to.cs = t.pv := by
  unfold Ins.cs Env.cs
  rw [show ptsPV t.to.vol.pts = .frz 2 (t.Volume.Points.map DPoint.pv) from t.Volume.to_pts, show ptsPV t.to.pan.pts = .frz 2 (t.Panning.Points.map DPoint.pv) from t.Panning.to_pts, show ptsPV t.to.pit.pts = .frz 2 (t.Pitch.Points.map DPoint.pv) from t.Pitch.to_pts]
  rw [show keysPV t.to.keys = .frz 2 (t.Keys.map DKey.pv) from congrArg (PV.frz 2) (map_to (f := DKey.to) (g := keyC) (k := DKey.pv) (fun a => rfl) _)]
  rfl
theorem len_ok {α : Type} {p : α → Prop} {l : List α} (h : dokL p l) : l.length < 9223372036854775808 := by
  have h1 := h.1
  have : maxLen = 9223372036854775807 := rfl
  omega
theorem len_okM {α β : Type} {p : α → Prop} {l : List α} {f : α → β} (h : dokL p l) : (l.map f).length < 9223372036854775808 := by rw [List.length_map]; exact len_ok h
theorem siz_ok {s : ByteArray} (h : s.size ≤ maxLen) : s.size < 9223372036854775808 := by
  have : maxLen = 9223372036854775807 := rfl
  omega
theorem DInst.to_len {t : DInst} (h : t.ok) : InsLen t.to := by
  obtain ⟨h1, h2, h3, h4, h5, _⟩ := h
  exact ⟨siz_ok h1, len_okM h2, len_okM h3.2.1, len_okM h4.2.1, len_okM h5.2.1⟩
theorem DKeyed.to_kd (t : DKeyed) : kd t.Inst.to t.Note t.Own t.From t.To t.Shift t.Num = t.pv := by
  unfold kd
  rw [DInst.to_cs]
  rfl
theorem c3d {t : DKeyed} (h : t.ok) (hp : PHeap) : Γ0 3 [.agg t.pv] hp = some (.bool true, hp) := by
  rw [← t.to_kd]
  exact c3 t.Inst.to (DInst.to_len h.1) _ _ _ _ _ _ hp
end Go.Vm.X
