/- Instruments with other keys: an instrument copied. -/
import Derived.Test.YtaacaogceplhoaaIkI
set_option linter.unusedSimpArgs false
set_option linter.unusedVariables false
namespace Go.Vm.X
open Go.Am Go.Vm
attribute [local congr] bind_c ifP_c loop_c K1_c ite_c fork_c guard_c unl_c

theorem copy_loop {H : PHeap} {B b N : Nat} (hN : 3 < N) {j17 : List PV → PHeap → Pt} (hx : ∀ j, j < 3 → ∃ p l, loadP false 1 (.lptr B j 0 3 1) H = some (.ptr b p) ∧ loadP false 1 (.ptr b (p + 1)) H = some (ptsPV l) ∧ l.length ≤ mostLen ∧ storeP 1 (.ptr b (p + 1)) (ptsPV l) H = some H) :
    loopP (s29_L0 Γ0 N (.ref B 0 3 3 1) H (.int .i64 ((3 : Nat) : Int)) j17) N [.int .i64 0] H = j17 [] H := by
  refine loop_pure (fun j => [.int .i64 (j : Int)]) 3 hN rfl (fun j hj K => ?_) fun K => ?_
  · obtain ⟨p, l, h1, h2, h3, h4⟩ := hx j hj
    have e1 : decide ((j : Int) < ((3 : Nat) : Int)) = true := by rw [decide_eq_true_eq]; omega
    have e2 : nilCheckP (.ptr b p) = some (.ptr b p) := rfl
    have e3 : fieldAddrP 1 (.ptr b p) = some (.ptr b (p + 1)) := rfl
    have e4 : fz (.flat 2) (ptsPV l) H = some (ptsPV l, H) := fz_frz _ _ _ _
    unfold s29_L0
    simp only [words, ↓KLn, Nat.reduceAdd, e1, if_true, rf_idx hj, Nat.zero_add, h1, e2, e3, h2, e4, c44 h3, h4, succ63 (show j < 9223372036854775807 by omega), trim_self]
  · have e1 : decide (((3 : Nat) : Int) < ((3 : Nat) : Int)) = false := by decide
    unfold s29_L0
    simp only [words, ↓KLn, Nat.reduceAdd, e1, Bool.false_eq_true, if_false]
def ptrs (b : Nat) : List (List PV) := [[.ptr b 2], [.ptr b 10], [.ptr b 18]]
theorem fill_ptrs (b : Nat) : fillP (repP [.nilP] 3) [(0, 1, .ptr b 2), (1, 1, .ptr b 10), (2, 1, .ptr b 18)] = some [.ptr b 2, .ptr b 10, .ptr b 18] := nr rfl
theorem chunk_ptrs (b : Nat) : chunk 1 3 [.ptr b 2, .ptr b 10, .ptr b 18] = ptrs b := nr rfl
theorem ptr_load {h l : PHeap} {k b j : Nat} {p : Nat} (e : l[k]? = some (.log (ptrs b) 1 80 .rw)) (hp : (ptrs b)[j]? = some [.ptr b p]) : loadP false 1 (.lptr (h.length + k) j 0 3 1) (h ++ l) = some (.ptr b p) := by
  rw [load_log (ver := 3) (rows := ptrs b) (row := [.ptr b p]) (by rw [get_new]; exact e) rfl hp]
  rfl
theorem st_same {h : PHeap} {l : PHeap} {vs : List PV} {t : TypeId} {o : Nat} {v : PV} (hv : vs[o]? = some v) (hc : cellsP v = [v]) (ho : oneP v = true) : storeP 1 (.ptr h.length o) v (h ++ .box vs t .rw :: l) = some (h ++ .box vs t .rw :: l) := by
  have hlt := (List.getElem?_eq_some_iff.1 hv).1
  have hp : putAt vs o [v] = some vs := by
    unfold putAt
    rw [if_pos ⟨by simp; omega, by simp [ho]⟩]
    congr 1
    have : vs.drop o = v :: vs.drop (o + 1) := by
      rw [List.drop_eq_getElem_cons hlt]
      congr 1
      rw [List.getElem?_eq_getElem hlt] at hv
      exact Option.some.inj hv
    rw [List.append_assoc, List.length_singleton, List.singleton_append, ← this, List.take_append_drop]
  simp only [words, ↓KLn, Nat.reduceAdd, st1 hc, hp]
theorem ld_at {h : PHeap} {l : PHeap} {vs : List PV} {t : TypeId} {o : Nat} {v : PV} (hv : vs[o]? = some v) : loadP false 1 (.ptr h.length o) (h ++ .box vs t .rw :: l) = some v := by
  simp only [words, ↓KLn, Nat.reduceAdd, hv]
theorem ck3 (i : Ins) (v : PV) : (i.ck v)[3]? = some (ptsPV i.vol.pts) := nr rfl
theorem ck11 (i : Ins) (v : PV) : (i.ck v)[11]? = some (ptsPV i.pan.pts) := nr rfl
theorem ck19 (i : Ins) (v : PV) : (i.ck v)[19]? = some (ptsPV i.pit.pts) := nr rfl
structure PtsMost (i : Ins) : Prop where
  vol : i.vol.pts.length ≤ mostLen
  pan : i.pan.pts.length ≤ mostLen
  pit : i.pit.pts.length ≤ mostLen
theorem copy_facts {h l : PHeap} {i : Ins} {v : PV} {k : Nat} (hm : PtsMost i) (e : (.box (i.ck v) 27 .rw :: l : PHeap)[k]? = some (.log (ptrs h.length) 1 80 .rw)) :
    ∀ j, j < 3 → ∃ p q, loadP false 1 (.lptr (h.length + k) j 0 3 1) (h ++ .box (i.ck v) 27 .rw :: l) = some (.ptr h.length p) ∧ loadP false 1 (.ptr h.length (p + 1)) (h ++ .box (i.ck v) 27 .rw :: l) = some (ptsPV q) ∧ q.length ≤ mostLen ∧ storeP 1 (.ptr h.length (p + 1)) (ptsPV q) (h ++ .box (i.ck v) 27 .rw :: l) = some (h ++ .box (i.ck v) 27 .rw :: l) := fun j hj => by
  match j, hj with
  | 0, _ => exact ⟨2, _, ptr_load e rfl, ld_at (ck3 i v), hm.vol, st_same (ck3 i v) rfl rfl⟩
  | 1, _ => exact ⟨10, _, ptr_load e rfl, ld_at (ck11 i v), hm.pan, st_same (ck11 i v) rfl rfl⟩
  | 2, _ => exact ⟨18, _, ptr_load e rfl, ld_at (ck19 i v), hm.pit, st_same (ck19 i v) rfl rfl⟩
theorem c29n (i : Ins) (h0 : i.keys = []) (hm : PtsMost i) (h : PHeap) : Γ0 29 [.agg i.cs] h = some (.agg (i.ck .emp), h) := by
  obtain ⟨N, hN⟩ : ∃ N : Nat, 3 < N := ⟨4, by omega⟩
  refine gbody (F := A29) (by kernel_rfl) N ?_
  rw [s29_eq]; unfold s29
  have e5 : fz (.flat 2) (keysPV []) (h ++ [.box i.cs 27 .rw, .box Z33 27 .rw]) = some (keysPV [], h ++ [.box i.cs 27 .rw, .box Z33 27 .rw]) := fz_frz _ _ _ _
  have ei : i.cs[1]? = some (keysPV []) := by rw [ic1, h0]
  have hp : putAt i.cs 1 [.emp] = some (i.ck .emp) := ck_put i (keysPV i.keys) _ rfl
  simp only [words, ↓KLn, Nat.reduceAdd, ei, e5, c43n, st1 (v := .emp) rfl, hp, fill_ptrs, chunk_ptrs, rf_len]
  rw [copy_loop hN (b := h.length) (copy_facts (k := 2) hm rfl)]
  simp only [words, ↓KLn, Nat.reduceAdd, ck_whole, st33 _ (i.ck _) _ (ck_len i _), ck_over i .emp Z33 lenZ33 rfl]
  exact fin_k1 rfl
theorem c29 (i : Ins) (h0 : i.keys ≠ []) (hk : i.keys.length ≤ mostLen) (hm : PtsMost i) (h : PHeap) : Γ0 29 [.agg i.cs] h = some (.agg (i.ck (.ref (h.length + 2) 0 i.keys.length i.keys.length 2)), h ++ [.box (i.ck (.ref (h.length + 2) 0 i.keys.length i.keys.length 2)) 27 .rw, .box (i.ck (.ref (h.length + 2) 0 i.keys.length i.keys.length 2)) 27 .rw, .log (i.keys.map keyC) 2 42 .rw, .log (ptrs h.length) 1 80 .rw]) := by
  obtain ⟨N, hN⟩ : ∃ N : Nat, 3 < N := ⟨4, by omega⟩
  refine gbody (F := A29) (by kernel_rfl) N ?_
  rw [s29_eq]; unfold s29
  have e5 : fz (.flat 2) (keysPV i.keys) (h ++ [.box i.cs 27 .rw, .box Z33 27 .rw]) = some (keysPV i.keys, h ++ [.box i.cs 27 .rw, .box Z33 27 .rw]) := fz_frz _ _ _ _
  have hp : putAt i.cs 1 [.ref (h.length + 2) 0 i.keys.length i.keys.length 2] = some (i.ck (.ref (h.length + 2) 0 i.keys.length i.keys.length 2)) := ck_put i (keysPV i.keys) _ rfl
  simp only [words, ↓KLn, Nat.reduceAdd, ic1, e5, c43 h0 hk, st1 (cells_ref _ _ _ _ _), hp, fill_ptrs, chunk_ptrs, rf_len]
  rw [copy_loop hN (b := h.length) (copy_facts (k := 3) hm rfl)]
  simp only [words, ↓KLn, Nat.reduceAdd, ck_whole, st33 _ (i.ck _) _ (ck_len i _), ck_over i (.ref (h.length + 2) 0 i.keys.length i.keys.length 2) Z33 lenZ33 rfl]
  rw [fin_def]
  simp only [fzL_cons, fzL_nil, fz_keep, Option.bind_some, Option.map_some]
  rw [trim_ref ⟨_, List.mem_singleton.2 rfl, fun hh => by
    unfold ltV at hh
    have := hh (.ref (h.length + 2) 0 i.keys.length i.keys.length 2) (by simp [Ins.ck])
    simp only [ltV] at this
    omega⟩]
  rfl
end Go.Vm.X
