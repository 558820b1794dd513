/- Songs: what a valid song is like. -/
import Derived.Test.YtjfppnnoeebcbaaSwSame
set_option linter.unusedSimpArgs false
set_option linter.unusedVariables false
namespace Go.Vm.X
open Go.Am Go.Vm

structure SngOK (s : Sng) : Prop where
  name : nameOK s.name = true
  dia : inW s.dia 1 6 = true
  ch : inW s.ch 1 (qI s.dia 1) = true
  npats : inW s.pats.length 1 (qI s.dia 2) = true
  pats : ∀ p ∈ s.pats, patCode s p = 0
  nords : inW s.ords.length 1 64 = true
  ords : ∀ o ∈ s.ords, ordBad s o = false
  rest : inW s.rest 0 (IntKind.i64.wrap ((s.ords.length : Int) - 1)) = true
  spd : inW s.spd 1 31 = true
  tem : inW s.tem 32 255 = true
  glb : inW s.glb 0 128 = true
  lin : (!s.lin || qB s.dia 8) = true
  npans : (s.pans.length : Int) = s.ch
  pans : ∀ p ∈ s.pans, inW p 0 256 = true
  nsmps : (s.smps.length : Int) ≤ 31
  smps : ∀ x ∈ s.smps, smpOK x = true
  ninss : (s.inss.length : Int) ≤ 31
  inss : ∀ x ∈ s.inss, insCode s x = 0
theorem un_ok {ok : Bool} {part : ByteArray} {e : Int} (he : e ≠ 0) (h : isF (unF ok part e) = false) : ok = true := by
  cases ok with
  | true => rfl
  | false =>
    have h2 : (e != 0) = false := h
    rw [bne_eq_false_iff_eq] at h2
    exact absurd h2 he
theorem scan_ok {α : Type} {part : ByteArray} {code : α → Int} {l : List α} (h : isF (scanF part code l) = false) : ∀ a ∈ l, code a = 0 := by
  unfold scanF at h
  cases hi : l.findIdx? (fun a => code a != 0) with
  | none =>
    intro a ha
    have := List.findIdx?_eq_none_iff.1 hi a ha
    rwa [bne_eq_false_iff_eq] at this
  | some i =>
    rw [hi] at h
    obtain ⟨a, h1, h2⟩ := idx_some hi
    simp only [h1, Option.map_some, Option.getD_some] at h
    have h3 : (code a != 0) = false := h
    rw [h2] at h3
    cases h3
theorem find_isF {l : List Flt} {f : Flt} (h : l.find? isF = some f) : (f.2.2 == 0) = false := by
  have := List.find?_some h
  unfold isF at this
  rw [beq_eq_false_iff_ne]
  rwa [bne_iff_ne] at this
theorem sng_ok {s : Sng} (h : ((wrongP s).2.2 == 0) = true) : SngOK s := by
  rw [wrong_same] at h
  unfold wrongR at h
  cases h1 : (headL s).find? isF with
  | some f =>
    rw [h1] at h
    simp only [find_isF h1] at h
    cases h
  | none =>
    rw [h1] at h
    simp only at h
    cases h2 : (restL s).find? isF with
    | some f =>
      rw [h2] at h
      simp only [find_isF h2] at h
      cases h
    | none =>
      have g1 := List.find?_eq_none.1 h1
      have g2 := List.find?_eq_none.1 h2
      have m1 : ∀ f ∈ headL s, isF f = false := fun f hf => by simpa using g1 f hf
      have m2 : ∀ f ∈ restL s, isF f = false := fun f hf => by simpa using g2 f hf
      unfold headL at m1
      unfold restL at m2
      simp only [List.forall_mem_cons] at m1 m2
      obtain ⟨a1, a2, a3, _⟩ := m1
      obtain ⟨b1, b2, b3, b4, b5, b6, b7, b8, b9, b10, b11, b12, b13, b14, b15, _⟩ := m2
      have k2 := un_ok (by decide) a2
      have k12 := un_ok (by decide) b12
      have k14 := un_ok (by decide) b14
      simp only [Bool.and_eq_true, decide_eq_true_eq] at k12 k14
      exact {
        name := un_ok (by decide) a1
        dia := by
          have := k2
          unfold kindE at this
          cases hd : inW s.dia 1 6 with
          | true => rfl
          | false => rw [hd] at this; cases this
        ch := un_ok (by decide) a3
        npats := un_ok (by decide) b1
        pats := scan_ok b2
        nords := un_ok (by decide) b3
        ords := fun o ho => by
          have := scan_ok b4 o ho
          cases hb : ordBad s o with
          | false => rfl
          | true => rw [hb] at this; cases this
        rest := un_ok (by decide) b5
        spd := un_ok (by decide) b6
        tem := un_ok (by decide) b7
        glb := un_ok (by decide) b8
        lin := un_ok (by decide) b9
        npans := by
          have := un_ok (by decide) b10
          rwa [beq_iff_eq] at this
        pans := fun o ho => by
          have := scan_ok b11 o ho
          cases hb : inW o 0 256 with
          | true => rfl
          | false => rw [hb] at this; cases this
        nsmps := k12.1
        smps := fun o ho => by
          have := scan_ok b13 o ho
          cases hb : smpOK o with
          | true => rfl
          | false => rw [hb] at this; cases this
        ninss := k14.1
        inss := scan_ok b15 }
end Go.Vm.X
