/- Songs: patterns, samples and instruments of a song (the program). -/
import Derived.Test.YtjfppnnoeebcbaaSwFault
set_option linter.unusedSimpArgs false
set_option linter.unusedVariables false
namespace Go.Vm.X
open Go.Am Go.Vm
attribute [local congr] bind_c ifP_c loop_c K1_c ite_c fork_c guard_c

def patBad (s : Sng) (p : Pat) : Bool := ((qI s.dia 3 != 0 && p.1 != qI s.dia 3) || !patOK p.1 p.2 s.ch) || p.2.any fun c => !cellIn s.dia c
def patCode (s : Sng) (p : Pat) : Int := if patBad s p = true then 1 else if (p.2.any fun c => decide (c.inst > names s)) = true then 10 else 0
theorem st2 (o : Nat) (a b : PV) (vs : List PV) (t : TypeId) (l : PHeap) : storeP 2 (.ptr 0 o) (.agg [a, b]) (.box vs t .rw :: l) = (putAt vs o [a, b]).map fun vs' => .box vs' t .rw :: l := storeC0 rfl (by decide)
theorem pat_fptr (p : Pat) : partP true 0 2 (patC p) = some (.agg (patC p)) := part_all rfl
theorem pat_st (p : Pat) (vs : List PV) (t : TypeId) (l : PHeap) : storeP 2 (.ptr 0 0) (.agg (patC p)) (.box vs t .rw :: l) = (putAt vs 0 (patC p)).map fun vs' => .box vs' t .rw :: l := storeC0 rfl (by decide)
theorem pat_put (p : Pat) (a b : PV) : putAt [a, b] 0 (patC p) = some (patC p) := put_whole rfl rfl
theorem pc0 (p : Pat) : (patC p)[0]? = some (.int .i64 p.1) := nr rfl
theorem pc1 (p : Pat) : (patC p)[1]? = some (cellsPV p.2) := nr rfl
theorem fz_cells (n : Nat) (l : List Cell) (h : PHeap) : fz (.flat n) (cellsPV l) h = some (cellsPV l, h) := fz_frz _ _ _ _
theorem fz_pat (p : Pat) (h : PHeap) : fz (.agg [.keep, .flat 6]) (.agg (patC p)) h = some (.agg (patC p), h) := fz_aggI _ rfl
theorem c43p (p : Pat) (hm : p.2.length < 9223372036854775808) (ch : Int) (h : PHeap) : Γ0 43 [.agg (patC p), .int .i64 ch] h = some (.bool (patOK p.1 p.2 ch), h) := c43 p.1 (by omega) ch h
theorem c80p (p : Pat) (hm : p.2.length < 9223372036854775808) (ch : Int) (h : PHeap) : Γ0 80 [.agg (patC p), .int .i64 ch] h = some (.bool (patOK p.1 p.2 ch), h) := c80 p.1 (by omega) ch h
theorem fin_fi (h l : PHeap) (a : ByteArray) (i : Nat) (n : Int) (b : Bool) : finP [.keep, .keep] h (h ++ l) [.agg [.str a, .int .i64 (i : Int), .int .i64 n], .bool b] = some (.tuple [.agg [.str a, .int .i64 (i : Int), .int .i64 n], .bool b], h) := fin_k2 rfl rfl
theorem s25_round {s : Sng} {h : PHeap} {n : Nat} {j20 : List PV → PHeap → Pt} (hl : SngLen s) {i : Nat} {p : Pat} (hi : i < s.pats.length) (hp : s.pats[i]? = some p) (K : List PV → PHeap → Pt) :
    s25_L0 Γ0 n h (.ptr h.length 0) (.ptr (h.length + 1) 0) (h ++ [.box s.ck 86 .rw, .box [.str ⟨#[]⟩, .int .i64 0, .int .i64 0] 90 .rw]) (patsPV s.pats) (.int .i64 s.pats.length) j20 K [.int .i64 i] (h ++ [.box s.ck 86 .rw, .box [.str ⟨#[]⟩, .int .i64 0, .int .i64 0] 90 .rw]) =
      if (patCode s p != 0) = true then some (resA ((⟨#[112, 97, 116, 116, 101, 114, 110, 115]⟩, i, patCode s p), true), h) else K [.int .i64 ((i + 1 : Nat) : Int)] (h ++ [.box s.ck 86 .rw, .box [.str ⟨#[]⟩, .int .i64 0, .int .i64 0] 90 .rw]) := by
  have hpm := hl.cells p (List.mem_of_getElem? hp)
  have hlm := hl.pats
  have k33 : ∀ l, Γ0 44 [cellsPV p.2, .func 45 [] [.ptr h.length 0]] (h ++ .box s.ck 86 .rw :: l) = some (.bool (p.2.any fun c => !cellIn s.dia c), h ++ .box s.ck 86 .rw :: l) := fun l => c44 (by omega) fun c => by
    rw [callV_func Γ0 45]
    exact c45 c (by rw [loadN0, partC]; rfl)
  have k35 : ∀ l, Γ0 44 [cellsPV p.2, .func 47 [] [.ptr h.length 0]] (h ++ .box s.ck 86 .rw :: l) = some (.bool (p.2.any fun c => decide (c.inst > names s)), h ++ .box s.ck 86 .rw :: l) := fun l => c44 (by omega) fun c => by
    rw [callV_func Γ0 47]
    exact c47 c (by rw [loadN0, ck_whole])
  unfold s25_L0 patCode patBad
  simp only [words, ↓KLn, Nat.reduceAdd, ltT hi, decide_true, if_true, idx_pats _ hp, pat_fptr, pat_st, pat_put, pc0, pc1, sk16, sk2, fz_cells, fz_pat, c43p p hpm, k33, k35, fill3, st3, put3, part3, fin_fb, trim_i2', succ63 (show i < 9223372036854775807 by omega)]
  cases ((qI s.dia 3 != 0 && p.1 != qI s.dia 3) || !patOK p.1 p.2 s.ch || p.2.any fun c => !cellIn s.dia c) with
  | true => rfl
  | false => cases (p.2.any fun c => decide (c.inst > names s)) <;> rfl
def patA (s : Sng) : Flt × Bool :=
  if (!inW s.pats.length 1 (qI s.dia 2)) = true then ((⟨#[112, 97, 116, 116, 101, 114, 110, 115]⟩, 0, 4), true)
  else match s.pats.findIdx? (fun p => patCode s p != 0) with
    | some i => ((⟨#[112, 97, 116, 116, 101, 114, 110, 115]⟩, i, (s.pats[i]?.map (patCode s)).getD 0), true)
    | none => (noF, false)
theorem c25 (s : Sng) (hl : SngLen s) (h : PHeap) : Γ0 25 [.agg s.ck] h = some (resA (patA s), h) := by
  obtain ⟨N, hN⟩ : ∃ N : Nat, s.pats.length < N := ⟨_, Nat.lt_succ_self _⟩
  refine gbody (F := A25) (by kernel_rfl) N ?_
  rw [s25_eq]; unfold s25 patA
  simp only [words, ↓KLn, Nat.reduceAdd, sk10, sk15, len_pats, c42, fill3, fill_none, st3, put3, part3, fin_fb]
  cases (!inW (s.pats.length : Int) 1 (qI s.dia 2)) with
  | true => rfl
  | false =>
    simp only [Bool.false_eq_true, if_false]
    refine loop_find s.pats (fun p => patCode s p != 0) (fun i => [.int .i64 (i : Int)]) hN rfl (fun i p hi hp hb K => ?_) (fun i p hi hp hb h1 h2 K => ?_) (fun h1 h2 K => ?_)
    · rw [s25_round hl hi hp K, if_neg (by rw [hb]; decide)]
    · rw [s25_round hl hi hp K, if_pos hb, h1]
      simp only [hp, Option.map_some, Option.getD_some]
    · rw [h1]
      unfold s25_L0
      simp only [words, ↓KLn, Nat.reduceAdd, ltF, decide_false, Bool.false_eq_true, if_false, fill_none, st3, put3, part3, fin_fb]
      rfl
def insCode (s : Sng) (x : Ins) : Int := if (!insOK x) = true then 1 else if (x.keys.any fun k => decide (k.2 > (s.smps.length : Int))) = true then 10 else 0
theorem ins_fptr (p : Ins) : partP true 0 33 p.cs = some (.agg p.cs) := part_all rfl
theorem ins_st (p : Ins) (vs : List PV) (t : TypeId) (l : PHeap) : storeP 33 (.ptr 0 0) (.agg p.cs) (.box vs t .rw :: l) = (putAt vs 0 p.cs).map fun vs' => .box vs' t .rw :: l := storeC0 rfl (by decide)
theorem ins_put {vs : List PV} (p : Ins) (h : vs.length = 33) : putAt vs 0 p.cs = some p.cs := put_whole (by rw [h]; rfl) rfl
theorem ic1 (p : Ins) : p.cs[1]? = some (keysPV p.keys) := nr rfl
theorem fz_keys (n : Nat) (l : List (Int × Int)) (h : PHeap) : fz (.flat n) (keysPV l) h = some (keysPV l, h) := fz_frz _ _ _ _
theorem fz_ins (p : Ins) (h : PHeap) : fz (.agg SA33) (.agg p.cs) h = some (.agg p.cs, h) := fz_aggI _ rfl
theorem fz_smps (n : Nat) (cs : List FS) (l : List Smp) (h : PHeap) : fz (.sl n cs) (smpsPV l) h = some (smpsPV l, h) := fz_frzs _ _ _ _ _
def ins0 : List PV := [.str ⟨#[]⟩, .nilS, .bool false, .nilS, .bool false, .int .i64 0, .int .i64 0, .bool false, .int .i64 0, .int .i64 0, .bool false, .nilS, .bool false, .int .i64 0, .int .i64 0, .bool false, .int .i64 0, .int .i64 0, .bool false, .nilS, .bool false, .int .i64 0, .int .i64 0, .bool false, .int .i64 0, .int .i64 0, .int .i64 0, .int .i64 0, .int .i64 0, .int .i64 0, .int .i64 0, .int .i64 0, .int .i64 0]
theorem s28_round {s : Sng} {h : PHeap} {n : Nat} {j39 : List PV → PHeap → Pt} (hl : SngLen s) {i : Nat} {p : Ins} (hi : i < s.inss.length) (hp : s.inss[i]? = some p) (K : List PV → PHeap → Pt) :
    s28_L0 Γ0 n h (.ptr h.length 0) (.ptr (h.length + 1) 0) (h ++ [.box s.ck 86 .rw, .box [.str ⟨#[]⟩, .int .i64 0, .int .i64 0] 90 .rw]) (inssPV s.inss) (.int .i64 s.inss.length) j39 K [.int .i64 i] (h ++ [.box s.ck 86 .rw, .box [.str ⟨#[]⟩, .int .i64 0, .int .i64 0] 90 .rw]) =
      if (insCode s p != 0) = true then some (resA ((⟨#[105, 110, 115, 116, 115]⟩, i, insCode s p), true), h) else K [.int .i64 ((i + 1 : Nat) : Int)] (h ++ [.box s.ck 86 .rw, .box [.str ⟨#[]⟩, .int .i64 0, .int .i64 0] 90 .rw]) := by
  have hpm := hl.ins p (List.mem_of_getElem? hp)
  have hlm := hl.inss
  have hkm := hpm.keys
  have k46 : ∀ l, Γ0 57 [keysPV p.keys, .func 58 [] [.ptr h.length 0]] (h ++ .box s.ck 86 .rw :: l) = some (.bool (p.keys.any fun k => decide (k.2 > (s.smps.length : Int))), h ++ .box s.ck 86 .rw :: l) := fun l => c57 (by omega) fun c => by
    rw [callV_func Γ0 58]
    exact c58 c (by rw [loadN0, partC]; rfl)
  have hz := ins_put (vs := Z33) p rfl
  unfold s28_L0 insCode
  simp only [words, ↓KLn, Nat.reduceAdd, ltT hi, decide_true, if_true, idx_inss _ hp, ins_fptr, ins_st, hz, ic1, fz_ins, fz_keys, c56 p hpm, k46, fill3, st3, put3, part3, fin_fb, trim_i2', succ63 (show i < 9223372036854775807 by omega)]
  cases insOK p with
  | false => rfl
  | true => cases (p.keys.any fun k => decide (k.2 > (s.smps.length : Int))) <;> rfl
def sndA (s : Sng) : Flt × Bool :=
  if (decide ((s.smps.length : Int) > 31) || (s.dia == 6 && decide ((s.smps.length : Int) > 0))) = true then ((⟨#[115, 97, 109, 112, 108, 101, 115]⟩, 0, 4), true)
  else match s.smps.findIdx? (fun x => !smpOK x) with
    | some i => ((⟨#[115, 97, 109, 112, 108, 101, 115]⟩, i, 1), true)
    | none =>
      if (decide ((s.inss.length : Int) > 31) || (!qB s.dia 6 && decide ((s.inss.length : Int) > 0))) = true then ((⟨#[105, 110, 115, 116, 115]⟩, 0, 4), true)
      else match s.inss.findIdx? (fun p => insCode s p != 0) with
        | some i => ((⟨#[105, 110, 115, 116, 115]⟩, i, (s.inss[i]?.map (insCode s)).getD 0), true)
        | none => (noF, false)
theorem c28 (s : Sng) (hl : SngLen s) (h : PHeap) : Γ0 28 [.agg s.ck] h = some (resA (sndA s), h) := by
  obtain ⟨N, hN⟩ : ∃ N : Nat, s.inss.length < N := ⟨_, Nat.lt_succ_self _⟩
  refine gbody (F := A28) (by kernel_rfl) N ?_
  rw [s28_eq]; unfold s28 sndA
  have k41 : ∀ h, Γ0 53 [smpsPV s.smps, .func 54 [] []] h = some (.int .i64 (firstI (fun x => !smpOK x) s.smps), h) := fun h => c53 (by have := hl.smps; omega) fun x hx => by
    rw [callV_func Γ0 54]
    have hx := hl.smp x hx
    exact c54 x (by omega) (by omega) h
  simp only [words, ↓KLn, Nat.reduceAdd, sk11, sk1, sk12, sk19, len_smps, len_inss, fz_smps, k41, firstI_idx, fill3, fill_none, st3, put3, part3, fin_fb]
  cases (decide ((s.smps.length : Int) > 31) || (s.dia == 6 && decide ((s.smps.length : Int) > 0))) with
  | true => rfl
  | false =>
    simp only [Bool.false_eq_true, if_false]
    cases s.smps.findIdx? (fun x => !smpOK x) with
    | some i => simp only [dec_some, if_true]; rfl
    | none =>
      simp only [dec_none, Bool.false_eq_true, if_false]
      cases (decide ((s.inss.length : Int) > 31) || (!qB s.dia 6 && decide ((s.inss.length : Int) > 0))) with
      | true => rfl
      | false =>
        simp only [Bool.false_eq_true, if_false]
        refine loop_find s.inss (fun p => insCode s p != 0) (fun i => [.int .i64 (i : Int)]) hN rfl (fun i p hi hp hb K => ?_) (fun i p hi hp hb h1 h2 K => ?_) (fun h1 h2 K => ?_)
        · rw [s28_round hl hi hp K, if_neg (by rw [hb]; decide)]
        · rw [s28_round hl hi hp K, if_pos hb, h1]
          simp only [hp, Option.map_some, Option.getD_some]
        · rw [h1]
          unfold s28_L0
          simp only [words, ↓KLn, Nat.reduceAdd, ltF, decide_false, Bool.false_eq_true, if_false, fill_none, st3, put3, part3, fin_fb]
          rfl
end Go.Vm.X
