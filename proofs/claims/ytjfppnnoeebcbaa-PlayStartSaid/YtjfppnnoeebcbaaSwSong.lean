/- Songs: what a song is to the machine; small functions of a song. -/
import Derived.Test.YtjfppnnoeebcbaaSwInst
set_option linter.unusedSimpArgs false
set_option linter.unusedVariables false
namespace Go.Vm.X
open Go.Am Go.Vm
attribute [local congr] bind_c ifP_c loop_c K1_c ite_c fork_c guard_c

abbrev Pat := Int × List Cell
def patC (p : Pat) : List PV := [.int .i64 p.1, cellsPV p.2]
def patsPV (l : List Pat) : PV := .frz 2 (l.map patC)
def inssPV (l : List Ins) : PV := .frz 33 (l.map Ins.cs)
structure Sng where
  name : ByteArray
  (dia ch : Int)
  ords : List Int
  (rest spd tem glb : Int)
  lin : Bool
  pans : List Int
  pats : List Pat
  smps : List Smp
  inss : List Ins
def Sng.cs (s : Sng) : List PV := [.str s.name, .int .i64 s.dia, .int .i64 s.ch, ints s.ords, .int .i64 s.rest, .int .i64 s.spd, .int .i64 s.tem, .int .i64 s.glb, .bool s.lin, ints s.pans, patsPV s.pats, smpsPV s.smps, inssPV s.inss]
/-- .. with its dialect's quirks. -/
def Sng.ck (s : Sng) : List PV := s.cs ++ qOf s.dia
theorem qOf_cases (P : List PV → Prop) (h0 : P qrow0) (h1 : P qrow1) (h2 : P qrow2) (h3 : P qrow3) (h4 : P qrow4) (h5 : P qrow5) (h6 : P qrow6) (d : Int) : P (qOf d) := by
  unfold qOf
  repeat' split
  all_goals assumption
def rI (r : List PV) (k : Nat) : Int := match r[k]? with | some (.int _ n) => n | _ => 0
def rB (r : List PV) (k : Nat) : Bool := match r[k]? with | some (.bool b) => b | _ => false
def qI (d : Int) (k : Nat) : Int := rI (qOf d) k
def qB (d : Int) (k : Nat) : Bool := rB (qOf d) k
theorem q_1 (d : Int) : (qOf d)[1]? = some (.int .i64 (qI d 1)) := qOf_cases (fun r => r[1]? = some (.int .i64 (rI r 1))) rfl rfl rfl rfl rfl rfl rfl d
theorem q_2 (d : Int) : (qOf d)[2]? = some (.int .i64 (qI d 2)) := qOf_cases (fun r => r[2]? = some (.int .i64 (rI r 2))) rfl rfl rfl rfl rfl rfl rfl d
theorem q_3 (d : Int) : (qOf d)[3]? = some (.int .i64 (qI d 3)) := qOf_cases (fun r => r[3]? = some (.int .i64 (rI r 3))) rfl rfl rfl rfl rfl rfl rfl d
theorem q_6 (d : Int) : (qOf d)[6]? = some (.bool (qB d 6)) := qOf_cases (fun r => r[6]? = some (.bool (rB r 6))) rfl rfl rfl rfl rfl rfl rfl d
theorem q_8 (d : Int) : (qOf d)[8]? = some (.bool (qB d 8)) := qOf_cases (fun r => r[8]? = some (.bool (rB r 8))) rfl rfl rfl rfl rfl rfl rfl d
theorem q_known (d : Int) : (qI d 1 == 0) = !inW d 1 6 := by
  unfold qI qOf inW
  by_cases h1 : d = 1
  · subst h1; decide
  · by_cases h2 : d = 2
    · subst h2; decide
    · by_cases h3 : d = 3
      · subst h3; decide
      · by_cases h4 : d = 4
        · subst h4; decide
        · by_cases h5 : d = 5
          · subst h5; decide
          · by_cases h6 : d = 6
            · subst h6; decide
            · rw [if_neg h1, if_neg h2, if_neg h3, if_neg h4, if_neg h5, if_neg h6]
              have : (decide (1 ≤ d) && decide (d ≤ 6)) = false := by
                rw [Bool.and_eq_false_iff, decide_eq_false_iff_not, decide_eq_false_iff_not]; omega
              rw [this]; rfl
section
variable (s : Sng)
theorem sc0 : s.cs[0]? = some (.str s.name) := nr rfl
theorem sc1 : s.cs[1]? = some (.int .i64 s.dia) := nr rfl
theorem sc2 : s.cs[2]? = some (.int .i64 s.ch) := nr rfl
theorem sc3 : s.cs[3]? = some (ints s.ords) := nr rfl
theorem sc4 : s.cs[4]? = some (.int .i64 s.rest) := nr rfl
theorem sc5 : s.cs[5]? = some (.int .i64 s.spd) := nr rfl
theorem sc6 : s.cs[6]? = some (.int .i64 s.tem) := nr rfl
theorem sc7 : s.cs[7]? = some (.int .i64 s.glb) := nr rfl
theorem sc8 : s.cs[8]? = some (.bool s.lin) := nr rfl
theorem sc9 : s.cs[9]? = some (ints s.pans) := nr rfl
theorem sc10 : s.cs[10]? = some (patsPV s.pats) := nr rfl
theorem sc11 : s.cs[11]? = some (smpsPV s.smps) := nr rfl
theorem sc12 : s.cs[12]? = some (inssPV s.inss) := nr rfl
theorem sk0 : s.ck[0]? = some (.str s.name) := nr rfl
theorem sk1 : s.ck[1]? = some (.int .i64 s.dia) := nr rfl
theorem sk2 : s.ck[2]? = some (.int .i64 s.ch) := nr rfl
theorem sk3 : s.ck[3]? = some (ints s.ords) := nr rfl
theorem sk4 : s.ck[4]? = some (.int .i64 s.rest) := nr rfl
theorem sk5 : s.ck[5]? = some (.int .i64 s.spd) := nr rfl
theorem sk6 : s.ck[6]? = some (.int .i64 s.tem) := nr rfl
theorem sk7 : s.ck[7]? = some (.int .i64 s.glb) := nr rfl
theorem sk8 : s.ck[8]? = some (.bool s.lin) := nr rfl
theorem sk9 : s.ck[9]? = some (ints s.pans) := nr rfl
theorem sk10 : s.ck[10]? = some (patsPV s.pats) := nr rfl
theorem sk11 : s.ck[11]? = some (smpsPV s.smps) := nr rfl
theorem sk12 : s.ck[12]? = some (inssPV s.inss) := nr rfl
theorem sk14 : s.ck[14]? = some (.int .i64 (qI s.dia 1)) := q_1 s.dia
theorem sk15 : s.ck[15]? = some (.int .i64 (qI s.dia 2)) := q_2 s.dia
theorem sk16 : s.ck[16]? = some (.int .i64 (qI s.dia 3)) := q_3 s.dia
theorem sk19 : s.ck[19]? = some (.bool (qB s.dia 6)) := q_6 s.dia
theorem sk21 : s.ck[21]? = some (.bool (qB s.dia 8)) := q_8 s.dia
theorem s_all : partP true 13 0 s.cs = partP true 13 0 s.cs := nr rfl
theorem s_whole : partP true 0 13 s.cs = some (.agg s.cs) := part_all rfl
theorem ck_len : s.ck.length = 42 := by unfold Sng.ck; rw [List.length_append, qOf_len]; rfl
theorem ck_whole : partP true 0 42 s.ck = some (.agg s.ck) := part_all (ck_len s)
end
theorem q_fz {ss : List FS} (d : Int) (h : ss = List.replicate 29 .keep) : fzOKL ss (qOf d) = true := by
  subst h
  unfold qOf
  repeat' split
  all_goals rfl
theorem fzOKL_app : ∀ {s1 s2 : List FS} {v1 v2 : List PV}, fzOKL s1 v1 = true → fzOKL s2 v2 = true → fzOKL (s1 ++ s2) (v1 ++ v2) = true
  | [], _, [], _, _, h2 => h2
  | s :: s1, s2, v :: v1, v2, h1, h2 => by
    unfold fzOKL at h1
    rw [Bool.and_eq_true] at h1
    show (fzOK s v && fzOKL (s1 ++ s2) (v1 ++ v2)) = true
    rw [h1.1, fzOKL_app h1.2 h2]; rfl
theorem ck_fz (s : Sng) : fzOKL SA42 s.ck = true :=
  fzOKL_app (s1 := [.keep, .keep, .keep, .flat 1, .keep, .keep, .keep, .keep, .keep, .flat 1, (.sl 2 [.keep, (.flat 6)]), (.sl 13 [.keep, (.flat 1), .keep, .keep, .keep, .keep, .keep, .keep, .keep, .keep, .keep, .keep, .keep]), (.sl 33 [.keep, (.flat 2), .keep, (.flat 2), .keep, .keep, .keep, .keep, .keep, .keep, .keep, (.flat 2), .keep, .keep, .keep, .keep, .keep, .keep, .keep, (.flat 2), .keep, .keep, .keep, .keep, .keep, .keep, .keep, .keep, .keep, .keep, .keep, .keep, .keep])]) (v1 := s.cs) rfl (q_fz s.dia rfl)
def mark (o : Int) : Bool := o == 254 || o == 255
theorem c51 (o : Int) (h : PHeap) : Γ0 51 [.int .i64 o] h = some (.bool (mark o), h) := by
  refine gbody (F := A51) (by kernel_rfl) 1 ?_
  rw [s51_eq]; unfold s51 mark
  simp only [bin_eql, bS, K1_or, fin_bool0]
theorem c60 (o : Int) (h : PHeap) : Γ0 60 [.int .i64 o] h = some (.bool (mark o), h) := by
  refine gbody (F := A60) (by kernel_rfl) 1 ?_
  rw [s60_eq]; unfold s60 mark
  simp only [bin_eql, bS, K1_or, fin_bool0]
theorem c52 (o : Int) (h : PHeap) : Γ0 52 [.int .i64 o] h = some (.bool (!inW o 0 256), h) := by
  refine gbody (F := A52) (by kernel_rfl) 1 ?_
  rw [s52_eq]; unfold s52
  simp only [c42, notW, bS, fin_bool0]
theorem c54 (s : Smp) (hn : s.name.size < 9223372036854775808) (hm : s.data.length < 9223372036854775808) (h : PHeap) : Γ0 54 [.agg s.cs] h = some (.bool (!smpOK s), h) := by
  refine gbody (F := A54) (by kernel_rfl) 1 ?_
  rw [s54_eq]; unfold s54
  have hw : partP true 0 13 s.cs = some (.agg s.cs) := part_all rfl
  simp only [cellsW, forkW, loadN0, hw, c55 s hn hm, notW, bS, fin_bool]
def names (s : Sng) : Int := if qB s.dia 6 then s.inss.length else s.smps.length
theorem len_pats (l : List Pat) : lenP false (patsPV l) = some (.int .i64 l.length) := len_map
theorem idx_pats {l : List Pat} {i : Nat} {c : Pat} (k : IntKind) (h : l[i]? = some c) : indexAddrP 2 (patsPV l) (.int k i) = some (.fptr (patC c) 0) := idx_map k h
theorem len_inss (l : List Ins) : lenP false (inssPV l) = some (.int .i64 l.length) := len_map
theorem idx_inss {l : List Ins} {i : Nat} {c : Ins} (k : IntKind) (h : l[i]? = some c) : indexAddrP 33 (inssPV l) (.int k i) = some (.fptr c.cs 0) := idx_map k h
theorem c48 (s : Sng) (h : PHeap) : Γ0 48 [.agg s.ck] h = some (.int .i64 (names s), h) := by
  refine gbody (F := A48) (by kernel_rfl) 1 ?_
  rw [s48_eq]; unfold s48 names
  simp only [cellsW, forkW, fieldW, Nat.reduceAdd, Nat.zero_add, loadN0, partC, sk19, sk12, sk11, len_smps, len_inss, bS, ↓KLn, ifW, fin_int]
  cases qB s.dia 6 <;> rfl
theorem c95 (s : Sng) (h : PHeap) : Γ0 95 [.agg s.cs] h = some (.bool (qB s.dia 6), h) := by
  refine gbody (F := A95) (by kernel_rfl) 1 ?_
  rw [s95_eq]; unfold s95
  have hz : putAt Z29 0 (qOf s.dia) = some (qOf s.dia) := put_whole (by rw [qOf_len]; rfl) (qOf_one _)
  simp only [cellsW, forkW, fieldW, Nat.zero_add, loadN0, partC, sc1, c29, y20, y21, bS, List.append_assoc, List.cons_append, List.nil_append, len1, storeNk, storeCk, storeC0 (v := .agg (qOf s.dia)) (n := 29) (qOf_len _) (by decide), hz, mapS, loadNk, loadCk, loadC0, q_6, fin_bool]
theorem c82 (s : Sng) (h : PHeap) : Γ0 82 [.agg s.cs] h = some (.int .i64 (names s), h) := by
  refine gbody (F := A82) (by kernel_rfl) 1 ?_
  rw [s82_eq]; unfold s82 names
  simp only [cellsW, forkW, fieldW, Nat.zero_add, loadN0, partC, s_whole, c95, sc12, sc11, len_smps, len_inss, bS, ↓KLn, ifW, fin_int]
  cases qB s.dia 6 <;> rfl
/-- A cell, by a song that lies in memory. -/
theorem load_app {agg : Bool} {n b o : Nat} {h : PHeap} {v : PV} (hl : loadP agg n (.ptr b o) h = some v) (l : PHeap) : loadP agg n (.ptr b o) (h ++ l) = some v := by
  rw [load_box] at hl ⊢
  unfold boxAt at hl ⊢
  cases hb : h[b]? with
  | none => rw [hb] at hl; cases hl
  | some blk =>
    have hlt : b < h.length := by
      rcases Nat.lt_or_ge b h.length with h1 | h1
      · exact h1
      · rw [List.getElem?_eq_none h1] at hb; cases hb
    rw [List.getElem?_append_left hlt, hb]
    rw [hb] at hl
    exact hl
theorem cell_whole (c : Cell) : partP true 0 6 c.cs = some (.agg c.cs) := part_all rfl
theorem cc1 (c : Cell) : c.cs[1]? = some (.int .i64 c.inst) := nr rfl
theorem c45 (c : Cell) {d : Int} {b : Nat} {h : PHeap} (hl : loadP false 1 (.ptr b 1) h = some (.int .i64 d)) : Γ0 45 [.agg c.cs, .ptr b 0] h = some (.bool (!cellIn d c), h) := by
  refine gbody (F := A45) (by kernel_rfl) 1 ?_
  rw [s45_eq]; unfold s45
  simp only [cellsW, forkW, fieldW, Nat.zero_add, load_app hl, loadN0, cell_whole, c46, notW, bS, fin_bool]
theorem c47 (c : Cell) {s : Sng} {b : Nat} {h : PHeap} (hl : loadP true 42 (.ptr b 0) h = some (.agg s.ck)) : Γ0 47 [.agg c.cs, .ptr b 0] h = some (.bool (decide (c.inst > names s)), h) := by
  refine gbody (F := A47) (by kernel_rfl) 1 ?_
  rw [s47_eq]; unfold s47
  simp only [cellsW, forkW, fieldW, Nat.zero_add, load_app hl, loadN0, partC, cc1, fz_aggI _ (ck_fz s), c48, unl_self, bin_gtr, bS, fin_bool]
theorem c50 (o : Int) {l : List Pat} {b : Nat} {h : PHeap} (hl : loadP false 1 (.ptr b 10) h = some (patsPV l)) : Γ0 50 [.int .i64 o, .ptr b 0] h = some (.bool (!mark o && !inW o 0 (IntKind.i64.wrap ((l.length : Int) - 1))), h) := by
  refine gbody (F := A50) (by kernel_rfl) 1 ?_
  rw [s50_eq]; unfold s50
  simp only [c51, notW, bS, fieldW, Nat.zero_add, hl, len_pats, bin_sub, c42, K1_and, fin_bool0]
theorem c58 (k : Int × Int) {l : List Smp} {b : Nat} {h : PHeap} (hl : loadP false 1 (.ptr b 11) h = some (smpsPV l)) : Γ0 58 [.agg (keyC k), .ptr b 0] h = some (.bool (decide (k.2 > (l.length : Int))), h) := by
  refine gbody (F := A58) (by kernel_rfl) 1 ?_
  rw [s58_eq]; unfold s58
  have k1 : (keyC k)[1]? = some (.int .i64 k.2) := rfl
  simp only [cellsW, forkW, fieldW, Nat.zero_add, load_app hl, loadN0, partC, k1, len_smps, bin_gtr, bS, fin_bool]
end Go.Vm.X
