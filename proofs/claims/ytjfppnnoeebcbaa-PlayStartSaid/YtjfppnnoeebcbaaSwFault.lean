/- Songs: faults; what is asked of a song (the program). -/
import Derived.Test.YtjfppnnoeebcbaaSwSong
set_option linter.unusedSimpArgs false
set_option linter.unusedVariables false
namespace Go.Vm.X
open Go.Am Go.Vm
attribute [local congr] bind_c ifP_c loop_c K1_c ite_c fork_c guard_c

abbrev Flt := ByteArray × Int × Int
def fltC (f : Flt) : List PV := [.str f.1, .int .i64 f.2.1, .int .i64 f.2.2]
def noF : Flt := (⟨#[]⟩, 0, 0)
def isF (f : Flt) : Bool := f.2.2 != 0
theorem fill3 (x y z : PV) (a : ByteArray) (k k' : IntKind) (m n : Int) : fillP [x, y, z] [(0, 1, .str a), (1, 1, .int k m), (2, 1, .int k' n)] = some [.str a, .int k m, .int k' n] := nr rfl
theorem st3 (o : Nat) (a b c : PV) (vs : List PV) (t : TypeId) (l : PHeap) : storeP 3 (.ptr 0 o) (.agg [a, b, c]) (.box vs t .rw :: l) = (putAt vs o [a, b, c]).map fun vs' => .box vs' t .rw :: l := storeC0 rfl (by decide)
theorem put3 (x y z : PV) (a : ByteArray) (k k' : IntKind) (m n : Int) : putAt [x, y, z] 0 [.str a, .int k m, .int k' n] = some [.str a, .int k m, .int k' n] := nr rfl
theorem part3 (a b c : PV) : partP true 0 3 [a, b, c] = some (.agg [a, b, c]) := nr rfl
theorem fin_fb (h l : PHeap) (a : ByteArray) (k k' : IntKind) (m n : Int) (b : Bool) : finP [.keep, .keep] h (h ++ l) [.agg [.str a, .int k m, .int k' n], .bool b] = some (.tuple [.agg [.str a, .int k m, .int k' n], .bool b], h) := fin_k2 rfl rfl
theorem fin_f (h l : PHeap) (a : ByteArray) (k k' : IntKind) (m n : Int) : finP [.keep] h (h ++ l) [.agg [.str a, .int k m, .int k' n]] = some (.agg [.str a, .int k m, .int k' n], h) := fin_k1 rfl
/-- Lengths that memory has. -/
structure SngLen (s : Sng) : Prop where
  name : s.name.size < 9223372036854775808
  ords : s.ords.length < 9223372036854775808
  pans : s.pans.length < 9223372036854775808
  pats : s.pats.length < 9223372036854775808
  cells : ∀ p ∈ s.pats, p.2.length < 9223372036854775808
  smps : s.smps.length < 9223372036854775808
  smp : ∀ p ∈ s.smps, p.name.size < 9223372036854775808 ∧ p.data.length < 9223372036854775808
  inss : s.inss.length < 9223372036854775808
  ins : ∀ p ∈ s.inss, InsLen p
theorem firstI_idx {α : Type} (p : α → Bool) (l : List α) : firstI p l = match l.findIdx? p with | some i => (i : Int) | none => -1 := by
  induction l with
  | nil => rfl
  | cons x l ih =>
    rw [List.findIdx?_cons]
    unfold firstI
    cases p x with
    | true => rfl
    | false =>
      simp only [Bool.false_eq_true, if_false]
      rw [ih]
      cases l.findIdx? p with
      | none => rfl
      | some i =>
        simp only [Option.map_some]
        rw [if_neg (by omega)]
        show ((i : Int) + 1) = ((i + 1 : Nat) : Int)
        omega
def headA (s : Sng) : Flt × Bool :=
  if (!nameOK s.name) = true then ((⟨#[110, 97, 109, 101]⟩, 0, 1), true)
  else if (qI s.dia 1 == 0) = true then ((⟨#[100, 105, 97, 108, 101, 99, 116]⟩, 0, 6), true)
  else if (!inW s.ch 1 (qI s.dia 1)) = true then ((⟨#[99, 104, 97, 110, 110, 101, 108, 115]⟩, 0, 5), true)
  else (noF, false)
def resA (a : Flt × Bool) : PV := .tuple [.agg (fltC a.1), .bool a.2]
theorem c41' {s : Sng} (hl : SngLen s) (h : PHeap) : Γ0 41 [.str s.name] h = some (.bool (nameOK s.name), h) := c41 (by have := hl.name; omega) h
theorem c24 (s : Sng) (hl : SngLen s) (h : PHeap) : Γ0 24 [.agg s.ck] h = some (resA (headA s), h) := by
  refine gbody (F := A24) (by kernel_rfl) 1 ?_
  rw [s24_eq]; unfold s24 headA
  simp only [words, ↓KLn, Nat.reduceAdd, sk0, sk1, sk2, sk14, c41' hl, c42, fill3, fill_none, st3, put3, part3, fin_fb]
  cases (!nameOK s.name) with
  | true => rfl
  | false =>
    cases (qI s.dia 1 == 0) with
    | true => rfl
    | false => cases (!inW s.ch 1 (qI s.dia 1)) <;> rfl
def ordBad (s : Sng) (o : Int) : Bool := !mark o && !inW o 0 (IntKind.i64.wrap ((s.pats.length : Int) - 1))
def ordA (s : Sng) : Flt × Bool :=
  if (!inW s.ords.length 1 64) = true then ((⟨#[111, 114, 100, 101, 114, 115]⟩, 0, 4), true)
  else match s.ords.findIdx? (ordBad s) with
    | some i => ((⟨#[111, 114, 100, 101, 114, 115]⟩, i, 10), true)
    | none => ((⟨#[114, 101, 115, 116, 97, 114, 116]⟩, 0, 5), !inW s.rest 0 (IntKind.i64.wrap ((s.ords.length : Int) - 1)))
theorem dec_none : decide ((-1 : Int) ≥ 0) = false := nr rfl
theorem dec_some (i : Nat) : decide ((i : Int) ≥ 0) = true := decide_eq_true (by omega)
theorem c26 (s : Sng) (hl : SngLen s) (h : PHeap) : Γ0 26 [.agg s.ck] h = some (resA (ordA s), h) := by
  refine gbody (F := A26) (by kernel_rfl) 1 ?_
  rw [s26_eq]; unfold s26 ordA
  have k37 : ∀ l, Γ0 49 [ints s.ords, .func 50 [] [.ptr h.length 0]] (h ++ .box s.ck 86 .rw :: l) = some (.int .i64 (firstI (ordBad s) s.ords), h ++ .box s.ck 86 .rw :: l) := fun l => c49 (by have := hl.ords; omega) fun x => by
    rw [callV_func Γ0 50]
    exact c50 x (by rw [loadN0, partC]; rfl)
  simp only [words, ↓KLn, Nat.reduceAdd, sk3, sk4, len_ints, c42, fz_ints, k37, firstI_idx, fill3, st3, put3, part3, fin_fb]
  cases (!inW (s.ords.length : Int) 1 64) with
  | true => rfl
  | false =>
    simp only [Bool.false_eq_true, if_false]
    cases s.ords.findIdx? (ordBad s) with
    | some i => simp only [dec_some, if_true]; rfl
    | none => simp only [dec_none, Bool.false_eq_true, if_false]; rfl
def numA (s : Sng) : Flt × Bool :=
  if (!inW s.spd 1 31) = true then ((⟨#[115, 112, 101, 101, 100]⟩, 0, 5), true)
  else if (!inW s.tem 32 255) = true then ((⟨#[116, 101, 109, 112, 111]⟩, 0, 5), true)
  else if (!inW s.glb 0 128) = true then ((⟨#[103, 108, 111, 98, 97, 108]⟩, 0, 5), true)
  else if (s.lin && !qB s.dia 8) = true then ((⟨#[108, 105, 110, 101, 97, 114]⟩, 0, 6), true)
  else if ((s.pans.length : Int) != s.ch) = true then ((⟨#[112, 97, 110, 115]⟩, 0, 4), true)
  else match s.pans.findIdx? (fun p => !inW p 0 256) with
    | some i => ((⟨#[112, 97, 110, 115]⟩, i, 5), true)
    | none => ((⟨#[112, 97, 110, 115]⟩, -1, 5), false)
theorem c27 (s : Sng) (hl : SngLen s) (h : PHeap) : Γ0 27 [.agg s.ck] h = some (resA (numA s), h) := by
  refine gbody (F := A27) (by kernel_rfl) 1 ?_
  rw [s27_eq]; unfold s27 numA
  have k37 : ∀ h, Γ0 49 [ints s.pans, .func 52 [] []] h = some (.int .i64 (firstI (fun p => !inW p 0 256) s.pans), h) := fun h => c49 (by have := hl.pans; omega) fun x => by
    rw [callV_func Γ0 52]
    exact c52 x h
  simp only [words, ↓KLn, Nat.reduceAdd, sk2, sk5, sk6, sk7, sk8, sk9, sk21, len_ints, c42, k37, firstI_idx, fill3, st3, put3, part3, fin_fb]
  cases (!inW s.spd 1 31) with
  | true => rfl
  | false => cases (!inW s.tem 32 255) with
    | true => rfl
    | false => cases (!inW s.glb 0 128) with
      | true => rfl
      | false => cases (s.lin && !qB s.dia 8) with
        | true => rfl
        | false => cases ((s.pans.length : Int) != s.ch) with
          | true => rfl
          | false =>
            cases s.pans.findIdx? (fun p => !inW p 0 256) with
            | some i => simp only [dec_some]; rfl
            | none => simp only [dec_none]; rfl
end Go.Vm.X
