/- InstKeys: the law's walk, with keys. -/
import Derived.Test.YtaacaogceplhoaaIkQ
set_option linter.unusedSimpArgs false
set_option linter.unusedVariables false
namespace Go.Vm.X
open Go.Am Go.Vm
attribute [local congr] bind_c ifP_c loop_c K1_c ite_c fork_c guard_c unl_c
theorem c3k (i : Ins) (hl : InsLen i) (n own a b s m : Int) (hk : i.keys ≠ []) (h : PHeap) : Γ0 3 [.agg (kd i n own a b s m)] h = some (.bool true, h) := by
  obtain ⟨N, hN⟩ : ∃ N : Nat, 121 < N := ⟨122, by omega⟩
  refine gbody (F := A3) (by kernel_rfl) N ?_
  rw [s3_eq]; unfold s3
  have i0 : putAt Z33 0 i.cs = some i.cs := cs_over i Z33 lenZ33
  simp only [words, ↓KLn, Nat.reduceAdd, kd_i, st33 _ i.cs _ (ic_len i), i0, ic1, ic3, ic11, ic19, len_keys, len_pts]
  cases hG : (decide ((i.keys.length : Int) > 500) || decide (IntKind.i64.wrap (IntKind.i64.wrap ((i.vol.pts.length : Int) + (i.pan.pts.length : Int)) + (i.pit.pts.length : Int)) > 300)) with
  | true => simp only [if_true, c4, bS, fin_bool]
  | false =>
    have hk500 : i.keys.length ≤ 500 := by
      rw [Bool.or_eq_false_iff, decide_eq_false_iff_not] at hG
      omega
    have ea : appendP 42 2 .emp (keysPV i.keys) (h ++ [.box (kd i n own a b s m) 29 .rw, .box i.cs 27 .rw]) = some (.ref (h.length + 2) 0 i.keys.length i.keys.length 2, h ++ [.box (kd i n own a b s m) 29 .rw, .box i.cs 27 .rw, .log (i.keys.map keyC) 2 42 .rw]) := by
      have := emp_keys (t := 42) (h ++ [.box (kd i n own a b s m) 29 .rw, .box i.cs 27 .rw]) hk (show i.keys.length ≤ mostLen by unfold mostLen; omega)
      rw [len2, List.append_assoc] at this
      exact this
    have fe : ∀ l : PHeap, l[2]? = some (.log (i.keys.map keyC) 2 42 .rw) → fz (.flat 2) (.ref (h.length + 2) 0 i.keys.length i.keys.length 2) (h ++ l) = some (keysPV i.keys, h ++ l.set 2 (.log (i.keys.map keyC) 2 42 .ro)) := fun l hl' => by
      have := fz_logF (h := h) (k := 2) (sz := 2) (s := 2) (t := 42) (rows := i.keys.map keyC) hl' (by simpa using hk) (pure_keys _)
      rw [List.length_map] at this
      exact this
    have fe3 := fun (x y : PBlk) (l : PHeap) => fe (x :: y :: .log (i.keys.map keyC) 2 42 .rw :: l) rfl
    have e0 : lenP false .nilS = some (.int .i64 0) := rfl
    have d0 : decide ((0 : Int) < 0) = false := by decide
    simp only [words, ↓KLn, Nat.reduceAdd, Bool.false_eq_true, if_false, ea, ic_whole, kd_i, kd33, kd34, kd35, kd36, kd37, kd38, c5 i hl, c6 i hl, ext0, ext1, c7 i hl, c8 i hl, unl_self, eqB, bin_neq, bne_self_eq_false, ↓K1n, sc_or, if_true, c10 i hl, c11 i hl, smp_same, c9 _ (smp_len i own), Bool.not_true]
    rcases c12 i hl a b s m (h ++ [.box (kd i n own a b s m) 29 .rw, .box i.cs 27 .rw, .log (i.keys.map keyC) 2 42 .rw]) with ⟨hz, ⟨c, L, hc, h12⟩, hs⟩ | ⟨hz, hi, h12⟩
    · obtain ⟨g, hg⟩ : ∃ g, g = (h ++ [.box (kd i n own a b s m) 29 .rw, .box i.cs 27 .rw, .log (i.keys.map keyC) 2 42 .rw]) ++ L := ⟨_, rfl⟩
      have hlen2 : (h ++ [PBlk.box (kd i n own a b s m) 29 .rw, PBlk.box i.cs 27 .rw, PBlk.log (i.keys.map keyC) 2 42 .rw]).length = h.length + 3 := by simp
      rw [← hg, hlen2, Nat.add_assoc] at h12
      have hgl : ∀ l, g ++ l = h ++ ([.box (kd i n own a b s m) 29 .rw, .box i.cs 27 .rw, .log (i.keys.map keyC) 2 42 .rw] ++ L ++ l) := fun l => by rw [hg]; simp
      have hglen : g.length = h.length + (3 + L.length) := by rw [hg]; simp; omega
      have g0 : ∀ l, loadP true 33 (.ptr (h.length + 1) 0) (g ++ l) = some (.agg i.cs) := fun l => by rw [hgl]; simp only [words, ↓KLn, Nat.reduceAdd, ic_whole]
      have gk : ∀ (l : PHeap) (k : Nat) (v : PV), (kd i n own a b s m)[k]? = some v → loadP false 1 (.ptr h.length k) (g ++ l) = some v := fun l k v hv => by rw [hgl]; simp only [words, ↓KLn, Nat.reduceAdd, hv]
      have hJ : ∀ vs : List PV, vs.length = 33 → putAt vs 0 (i.ck (.ref (h.length + (3 + c)) 0 120 120 2)) = some (i.ck (.ref (h.length + (3 + c)) 0 120 120 2)) := fun vs hv => ck_over i _ vs hv rfl
      have hok := new_ok (i := i) (a := a) (b := b) (s := s) (m := m)
      have hl2 : InsLen { i with keys := newKeys i a b s m } := ⟨hl.name, by simp [newKeys], hl.vol, hl.pan, hl.pit⟩
      have zk : putAt Z33 0 ({ i with keys := newKeys i a b s m } : Ins).cs = some ({ i with keys := newKeys i a b s m } : Ins).cs := cs_over _ Z33 lenZ33
      have hvalid : insOK { i with keys := newKeys i a b s m } = true := by
        unfold setV at hs hz
        cases hv : insOK i with
        | false => rw [hv] at hz; simp at hz
        | true =>
          by_cases hask : askOK a b s m
          · exact hok hv hask
          · rw [hv, if_pos rfl, if_neg hask] at hz; cases hz
      have hfz : ∀ kb, ∃ H', fz (.agg SA33) (.agg (i.ck (.ref (h.length + (3 + c)) 0 120 120 2))) (g ++ [.box (i.ck (.ref (h.length + (3 + c)) 0 120 120 2)) 27 .rw, kb]) = some (.agg ({ i with keys := newKeys i a b s m } : Ins).cs, H') := fun kb => by
        rw [hgl]
        have hlt := (List.getElem?_eq_some_iff.1 hc).1
        have e1 : ([.box (kd i n own a b s m) 29 .rw, .box i.cs 27 .rw, .log (i.keys.map keyC) 2 42 .rw] ++ L ++ [.box (i.ck (.ref (h.length + (3 + c)) 0 120 120 2)) 27 .rw, kb])[3 + c]? = some (.log ((newKeys i a b s m).map keyC) 2 42 .rw) := by
          rw [List.append_assoc, List.getElem?_append_right (by simp), List.getElem?_append_left (by simp; omega)]
          simpa using hc
        have hz2 := fz_logF (h := h) (k := 3 + c) (sz := 2) (s := 2) (t := 42) (rows := (newKeys i a b s m).map keyC) e1 (by simp [newKeys]) (pure_keys _)
        have hlen : ((newKeys i a b s m).map keyC).length = 120 := by simp [newKeys]
        rw [hlen] at hz2
        exact ⟨_, fz_ck hz2⟩
      obtain ⟨H', hF⟩ := hfz (.box ({ i with keys := newKeys i a b s m } : Ins).cs 27 .rw)
      have e00 : ((0 : Int) == 0) = true := rfl
      have elen : ∀ x, lenP false (.ref x 0 120 120 2) = some (.int .i64 ((120 : Nat) : Int)) := fun _ => rfl
      simp only [words, ↓KLn, Nat.reduceAdd, h12, tup0, tup1, st33 _ (i.ck _) _ (ck_len i _), hJ Z33 lenZ33, g0, gk _ 33 _ (kd33 i n own a b s m), gk _ 34 _ (kd34 i n own a b s m), gk _ 35 _ (kd35 i n own a b s m), gk _ 36 _ (kd36 i n own a b s m), gk _ 37 _ (kd37 i n own a b s m), gk _ 38 _ (kd38 i n own a b s m), c13 i hl, hs, setR0, setR1, st33 _ ({ i with keys := newKeys i a b s m } : Ins).cs _ (ic_len _), zk, ic_whole, ck_whole, ck1, bin_neq, bne_self_eq_false, ↓K1n, sc_or, sc_and, Bool.false_eq_true, if_false, if_true, hF, c14 _ hl2, c7 _ hl2, hvalid, scal_b, gT, Bool.not_true, e00, elen]
      have hlt := (List.getElem?_eq_some_iff.1 hc).1
      rw [hgl, hglen]
      rw [zero_loop (ks := newKeys i a b s m) (i := i) (k := 3 + c) (q := 3 + L.length) hN (by simp [newKeys]) (by omega) (by rw [List.append_assoc, List.getElem?_append_right (by simp), List.getElem?_append_left (by simp; omega)]; simpa using hc) (by rw [List.getElem?_append_right (by simp; omega)]; simp; rw [show 3 + L.length - (L.length + 1 + 1 + 1) = 0 by omega]; rfl)]
      have hib : ∀ x, (([.box (kd i n own a b s m) 29 .rw, .box i.cs 27 .rw, .log (i.keys.map keyC) 2 42 .rw] ++ L ++ [.box (i.ck (.ref (h.length + (3 + c)) 0 120 120 2)) 27 .rw, .box ({ i with keys := newKeys i a b s m } : Ins).cs 27 .rw] : PHeap).set (3 + c) x)[1]? = some (.box i.cs 27 .rw) := fun x => by rw [List.getElem?_set_ne (by omega)]; rfl
      have hil : ∀ x, (([.box (kd i n own a b s m) 29 .rw, .box i.cs 27 .rw, .log (i.keys.map keyC) 2 42 .rw] ++ L ++ [.box (i.ck (.ref (h.length + (3 + c)) 0 120 120 2)) 27 .rw, .box ({ i with keys := newKeys i a b s m } : Ins).cs 27 .rw] : PHeap).set (3 + c) x)[2]? = some (.log (i.keys.map keyC) 2 42 .rw) := fun x => by rw [List.getElem?_set_ne (by omega)]; rfl
      simp only [box_load (hib _) (ic1 i), fe _ (hil _), bS, c15r i.keys hl.keys, scal_b, gT, sc_and, if_true, c4, fin_bool]
    · have hne : ((setV i a b s m).2 == 0) = false := by rw [beq_eq_false_iff_ne]; exact hz
      have zk : putAt Z33 0 insZ.cs = some insZ.cs := cs_over insZ Z33 lenZ33
      have z1 : Z33[1]? = some .nilS := nr rfl
      simp only [words, ↓KLn, Nat.reduceAdd, h12, tup0, tup1, st33 _ Z33 _ lenZ33, Z33_over, Z33_whole, c13 i hl, setR0, setR1, hi, st33 _ insZ.cs _ (ic_len insZ), zk, ic_whole insZ, ic_whole, kd_i, kd33, kd34, kd35, kd36, kd37, kd38, bin_neq, bne_self_eq_false, ↓K1n, sc_or, sc_and, Bool.false_eq_true, if_false, if_true, fz_Z33, c14 insZ insZ_len, scal_b, Bool.not_true, hne, z1, e0]
      simp only [gT]
      refine loop_pure (fun _ => [.int .i64 0]) 0 (by omega) rfl (fun i hi K => by omega) fun K => ?_
      unfold s3_L0
      simp only [words, ↓KLn, Nat.reduceAdd, d0, Bool.false_eq_true, if_false, ic1, fe3, c15r i.keys hl.keys, scal_b, gT, sc_and, if_true, c4, bS, fin_bool]
theorem c3 (i : Ins) (hl : InsLen i) (n own a b s m : Int) (h : PHeap) : Γ0 3 [.agg (kd i n own a b s m)] h = some (.bool true, h) := by
  by_cases hk : i.keys = []
  · exact c3e i hl n own a b s m hk h
  · exact c3k i hl n own a b s m hk h
end Go.Vm.X
