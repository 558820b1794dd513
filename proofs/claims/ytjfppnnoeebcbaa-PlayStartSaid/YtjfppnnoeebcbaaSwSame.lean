/- Songs: the program and the reference find the same fault. -/
import Derived.Test.YtjfppnnoeebcbaaSwWrongR
set_option linter.unusedSimpArgs false
set_option linter.unusedVariables false
namespace Go.Vm.X
open Go.Am Go.Vm

theorem find_un {ok : Bool} {part : ByteArray} {e : Int} (he : e ≠ 0) (l : List Flt) : (unF ok part e :: l).find? isF = if (!ok) = true then some (part, 0, e) else l.find? isF := by
  rw [List.find?_cons]
  cases ok with
  | true => rfl
  | false =>
    have : isF (unF false part e) = true := by
      show (e != 0) = true
      rw [bne_iff_ne]; exact he
    rw [this]; rfl
theorem idx_some {α : Type} {p : α → Bool} {l : List α} {i : Nat} (h : l.findIdx? p = some i) : ∃ a, l[i]? = some a ∧ p a = true := by
  obtain ⟨h1, h2, h3⟩ := List.findIdx?_eq_some_iff_getElem.1 h
  exact ⟨_, List.getElem?_eq_getElem h1, h2⟩
theorem find_scan {α : Type} (part : ByteArray) (code : α → Int) (xs : List α) (l : List Flt) : (scanF part code xs :: l).find? isF = match xs.findIdx? (fun a => code a != 0) with | some i => some (part, (i : Int), (xs[i]?.map code).getD 0) | none => l.find? isF := by
  rw [List.find?_cons]
  unfold scanF
  cases h : xs.findIdx? (fun a => code a != 0) with
  | none => rfl
  | some i =>
    obtain ⟨a, h1, h2⟩ := idx_some h
    simp only [h1, Option.map_some, Option.getD_some]
    have : isF (part, (i : Int), code a) = true := h2
    rw [this]
def ofA (a : Flt × Bool) : Option Flt := if a.2 = true then some a.1 else none
theorem kind_q (d : Int) : (!(kindE d == 0)) = (qI d 1 == 0) := by
  rw [q_known]; unfold kindE
  cases inW d 1 6 <;> rfl
theorem head_law (s : Sng) : (headL s).find? isF = ofA (headA s) := by
  unfold headL headA ofA
  rw [find_un (by decide), find_un (by decide), find_un (by decide), kind_q]
  cases nameOK s.name with
  | false => rfl
  | true => cases (qI s.dia 1 == 0) with
    | true => rfl
    | false => cases inW s.ch 1 (qI s.dia 1) <;> rfl
theorem or_none {α : Type} (x : Option α) : x.or none = x := by cases x <;> rfl
theorem pat_law (s : Sng) (l : List Flt) : (unF (inW s.pats.length 1 (qI s.dia 2)) ⟨#[112, 97, 116, 116, 101, 114, 110, 115]⟩ 4 :: scanF ⟨#[112, 97, 116, 116, 101, 114, 110, 115]⟩ (patCode s) s.pats :: l).find? isF = (ofA (patA s)).or (l.find? isF) := by
  unfold patA ofA
  rw [find_un (by decide), find_scan]
  cases inW (s.pats.length : Int) 1 (qI s.dia 2) with
  | false => rfl
  | true =>
    simp only [Bool.not_true, Bool.false_eq_true, if_false]
    cases s.pats.findIdx? (fun p => patCode s p != 0) with
    | none => rfl
    | some i => rfl
theorem ten_idx {α : Type} {p : α → Bool} {c : Int} (hc : c ≠ 0) (l : List α) : l.findIdx? (fun o => (if p o = true then c else 0) != 0) = l.findIdx? p := by
  congr 1
  funext o
  cases p o with
  | true => simp only [if_true, bne_iff_ne, ne_eq]; exact hc
  | false => rfl
theorem ten_get {α : Type} {p : α → Bool} {c : Int} {l : List α} {i : Nat} (h : l.findIdx? p = some i) : (l[i]?.map fun o => if p o = true then c else 0).getD 0 = c := by
  obtain ⟨a, h1, h2⟩ := idx_some h
  rw [h1]
  simp only [Option.map_some, Option.getD_some, h2, if_true]
theorem ord_law (s : Sng) (l : List Flt) : (unF (inW s.ords.length 1 64) ⟨#[111, 114, 100, 101, 114, 115]⟩ 4 :: scanF ⟨#[111, 114, 100, 101, 114, 115]⟩ (fun o => if ordBad s o = true then 10 else 0) s.ords :: unF (inW s.rest 0 (IntKind.i64.wrap ((s.ords.length : Int) - 1))) ⟨#[114, 101, 115, 116, 97, 114, 116]⟩ 5 :: l).find? isF = (ofA (ordA s)).or (l.find? isF) := by
  unfold ordA ofA
  rw [find_un (by decide), find_scan, ten_idx (by decide)]
  cases inW (s.ords.length : Int) 1 64 with
  | false => rfl
  | true =>
    simp only [Bool.not_true, Bool.false_eq_true, if_false]
    cases h : s.ords.findIdx? (ordBad s) with
    | some i => simp only [ten_get h]; rfl
    | none =>
      simp only
      rw [find_un (by decide)]
      cases inW s.rest 0 (IntKind.i64.wrap ((s.ords.length : Int) - 1)) <;> rfl
theorem num_law (s : Sng) (l : List Flt) : (unF (inW s.spd 1 31) ⟨#[115, 112, 101, 101, 100]⟩ 5 :: unF (inW s.tem 32 255) ⟨#[116, 101, 109, 112, 111]⟩ 5 :: unF (inW s.glb 0 128) ⟨#[103, 108, 111, 98, 97, 108]⟩ 5 :: unF (!s.lin || qB s.dia 8) ⟨#[108, 105, 110, 101, 97, 114]⟩ 6 :: unF ((s.pans.length : Int) == s.ch) ⟨#[112, 97, 110, 115]⟩ 4 :: scanF ⟨#[112, 97, 110, 115]⟩ (fun o => if (!inW o 0 256) = true then 5 else 0) s.pans :: l).find? isF = (ofA (numA s)).or (l.find? isF) := by
  unfold numA ofA
  have e1 : (!(!s.lin || qB s.dia 8)) = (s.lin && !qB s.dia 8) := by cases s.lin <;> cases qB s.dia 8 <;> rfl
  have e2 : (!((s.pans.length : Int) == s.ch)) = ((s.pans.length : Int) != s.ch) := rfl
  rw [find_un (by decide), find_un (by decide), find_un (by decide), find_un (by decide), find_un (by decide), find_scan, ten_idx (p := fun o => !inW o 0 256) (by decide), e1, e2]
  cases inW s.spd 1 31 with
  | false => rfl
  | true => cases inW s.tem 32 255 with
    | false => rfl
    | true => cases inW s.glb 0 128 with
      | false => rfl
      | true => cases (s.lin && !qB s.dia 8) with
        | true => rfl
        | false => cases ((s.pans.length : Int) != s.ch) with
          | true => rfl
          | false =>
            simp only [Bool.not_true, Bool.false_eq_true, if_false]
            cases h : s.pans.findIdx? (fun o => !inW o 0 256) with
            | none => rfl
            | some i => simp only [ten_get h]; rfl
theorem snd_law (s : Sng) (l : List Flt) : (unF (decide ((s.smps.length : Int) ≤ 31) && (s.dia != 6 || (s.smps.length : Int) == 0)) ⟨#[115, 97, 109, 112, 108, 101, 115]⟩ 4 :: scanF ⟨#[115, 97, 109, 112, 108, 101, 115]⟩ (fun x => if (!smpOK x) = true then 1 else 0) s.smps :: unF (decide ((s.inss.length : Int) ≤ 31) && (qB s.dia 6 || (s.inss.length : Int) == 0)) ⟨#[105, 110, 115, 116, 115]⟩ 4 :: scanF ⟨#[105, 110, 115, 116, 115]⟩ (insCode s) s.inss :: l).find? isF = (ofA (sndA s)).or (l.find? isF) := by
  unfold sndA ofA
  have e1 : (!(decide ((s.smps.length : Int) ≤ 31) && (s.dia != 6 || (s.smps.length : Int) == 0))) = (decide ((s.smps.length : Int) > 31) || (s.dia == 6 && decide ((s.smps.length : Int) > 0))) := by
    rw [Bool.eq_iff_iff]
    simp only [Bool.not_eq_true', Bool.and_eq_false_iff, Bool.or_eq_false_iff, decide_eq_false_iff_not, bne_eq_false_iff_eq, beq_eq_false_iff_ne, Bool.or_eq_true, Bool.and_eq_true, decide_eq_true_eq, beq_iff_eq, ne_eq]
    omega
  have e2 : (!(decide ((s.inss.length : Int) ≤ 31) && (qB s.dia 6 || (s.inss.length : Int) == 0))) = (decide ((s.inss.length : Int) > 31) || (!qB s.dia 6 && decide ((s.inss.length : Int) > 0))) := by
    rw [Bool.eq_iff_iff]
    simp only [Bool.not_eq_true', Bool.and_eq_false_iff, Bool.or_eq_false_iff, decide_eq_false_iff_not, beq_eq_false_iff_ne, Bool.or_eq_true, Bool.and_eq_true, decide_eq_true_eq, ne_eq]
    cases qB s.dia 6 with
    | true => simp only [Bool.true_eq_false, false_and, or_false, Bool.not_true, Bool.false_eq_true]; omega
    | false => simp only [true_and, Bool.not_false]; omega
  rw [find_un (by decide), find_scan, ten_idx (p := fun x => !smpOK x) (by decide), find_un (by decide), find_scan, e1, e2]
  cases (decide ((s.smps.length : Int) > 31) || (s.dia == 6 && decide ((s.smps.length : Int) > 0))) with
  | true => rfl
  | false =>
    simp only [Bool.false_eq_true, if_false]
    cases h : s.smps.findIdx? (fun x => !smpOK x) with
    | some i => simp only [ten_get h]; rfl
    | none =>
      simp only
      cases (decide ((s.inss.length : Int) > 31) || (!qB s.dia 6 && decide ((s.inss.length : Int) > 0))) with
      | true => rfl
      | false =>
        simp only [Bool.false_eq_true, if_false]
        cases s.inss.findIdx? (fun p => insCode s p != 0) <;> rfl
theorem wrong_same (s : Sng) : wrongP s = wrongR s := by
  unfold wrongP wrongR
  rw [head_law]
  unfold restL
  rw [pat_law, ord_law, num_law, snd_law]
  unfold asks ofA
  cases h1 : (headA s).2 with
  | true => simp only [List.find?_cons, h1]; rfl
  | false => cases h2 : (patA s).2 with
    | true => simp only [List.find?_cons, h1, h2]; rfl
    | false => cases h3 : (ordA s).2 with
      | true => simp only [List.find?_cons, h1, h2, h3]; rfl
      | false => cases h4 : (numA s).2 with
        | true => simp only [List.find?_cons, h1, h2, h3, h4]; rfl
        | false => cases h5 : (sndA s).2 with
          | true => simp only [List.find?_cons, h1, h2, h3, h4, h5]; rfl
          | false => simp only [List.find?_cons, h1, h2, h3, h4, h5]; rfl
end Go.Vm.X
