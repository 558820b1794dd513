/- Where a song starts: channels, and the state (the program). -/
import Derived.Test.YtjfppnnoeebcbaaPsClock
set_option linter.unusedSimpArgs false
set_option linter.unusedVariables false
set_option maxRecDepth 20000
namespace Go.Vm.X
open Go.Am Go.Vm
attribute [local congr] bind_c ifP_c loop_c K1_c ite_c fork_c guard_c unl_c

theorem lock_get (h : PHeap) (b : Nat) : (lock h)[b]? = (h[b]?).map lockB := by unfold lock; rw [List.getElem?_map]
theorem load_lock {agg : Bool} {n b o : Nat} {h : PHeap} {v : PV} (hl : loadP agg n (.ptr b o) h = some v) : loadP agg n (.ptr b o) (lock h) = some v := by
  rw [load_box] at hl ⊢
  have : boxAt (lock h) b = boxAt h b := by
    unfold boxAt
    rw [lock_get]
    cases h[b]? with
    | none => rfl
    | some blk => cases blk with
      | box vs t md => cases md <;> rfl
      | log a b c md => cases md <;> rfl
      | map a md => cases md <;> rfl
      | loop a b c d e f g md => cases md <;> rfl
      | dead => rfl
  rw [this]; exact hl
theorem fzL_pre : ∀ {s1 s2 : List FS} {v1 v2 : List PV} (h : PHeap), fzOKL s1 v1 = true → fzL (s1 ++ s2) (v1 ++ v2) h = (fzL s2 v2 h).map fun q => (v1 ++ q.1, q.2)
  | [], s2, [], v2, h, _ => by
    rw [List.nil_append, List.nil_append]
    cases fzL s2 v2 h <;> rfl
  | s :: s1, s2, v :: v1, v2, h, h1 => by
    unfold fzOKL at h1
    rw [Bool.and_eq_true] at h1
    rw [List.cons_append, List.cons_append, fzL_cons, fz_id h h1.1, Option.bind_some, fzL_pre h h1.2]
    cases fzL s2 v2 h <;> rfl
/-! A channel -/
def chC (p : Int) : List PV := Z51.take 32 ++ ([.int .i64 64, .int .i64 p] ++ ((Z51.drop 34).take 11 ++ ([.int .i64 (-1), .int .i64 (-1), .int .i64 (-1)] ++ Z51.drop 48)))
theorem fill_ch (p : Int) : fillP Z51 [(32, 1, .int .i64 64), (33, 1, .int .i64 p), (45, 1, .int .i64 (-1)), (46, 1, .int .i64 (-1)), (47, 1, .int .i64 (-1))] = some (chC p) := nr (by kernel_rfl)
theorem ch_st (p : Int) (vs : List PV) (t : TypeId) (l : PHeap) : storeP 51 (.ptr 0 0) (.agg (chC p)) (.box vs t .rw :: l) = (putAt vs 0 (chC p)).map fun vs' => .box vs' t .rw :: l := storeC0 rfl (by decide)
theorem ch_put (p : Int) : putAt Z51 0 (chC p) = some (chC p) := put_whole rfl rfl
theorem ch_whole (p : Int) : partP true 0 51 (chC p) = some (.agg (chC p)) := part_all rfl
theorem fin_ch (h l : PHeap) (p : Int) : finP [.keep] h (h ++ l) [.agg (chC p)] = some (.agg (chC p), h) := fin_k1 rfl
theorem fin_che (h l : PHeap) (p e : Int) : finP [.keep, .keep] h (h ++ l) [.agg (chC p), .int .i64 e] = some (.tuple [.agg (chC p), .int .i64 e], h) := fin_k2 rfl rfl
theorem ch_lit (p : Int) : fillP (repP Z51 1) [(0, 51, .agg (chC p))] = some (chC p) := fill_agg rfl rfl (by decide)
theorem ch_pure (p : Int) : (chC p).all pure1 = true := nr rfl
theorem ch_chunk (p : Int) : chunk 51 1 (chC p) = [chC p] := chunk_row1 51 _ rfl
theorem c18 {pans : List Int} {b i : Nat} {p : Int} {h : PHeap} (hl : loadP false 1 (.ptr b 9) h = some (ints pans)) (hi : pans[i]? = some p) : Γ0 18 [.ptr b 0, .int .i64 i] h = some (.agg (chC p), h) := by
  refine gbody (F := A18) (by kernel_rfl) 1 ?_
  rw [s18_eq]; unfold s18
  simp only [words, ↓KLn, Nat.reduceAdd, nilc, load_app hl, idx_ints _ hi, iv0, fill_ch, ch_st, ch_put, ch_whole, fin_ch]
theorem c12 (s : Sng) (hl : SngLen s) (ok : okS s = true) {i : Nat} {p : Int} (hi : s.pans[i]? = some p) (hc : (i : Int) < s.ch) (h : PHeap) : Γ0 12 [.agg s.cs, .int .i64 i] h = some (.tuple [.agg (chC p), .int .i64 0], h) := by
  refine gbody (F := A12) (by kernel_rfl) 1 ?_
  rw [s12_eq]; unfold s12
  have e1 : decide ((i : Int) < 0) = false := decide_eq_false (by omega)
  have e2 : decide ((i : Int) ≥ s.ch) = false := decide_eq_false (by omega)
  simp only [words, ↓KLn, Nat.reduceAdd, s_whole, c19 s hl, ok, Bool.not_true, Bool.false_eq_true, if_false, e1, sc2, e2, Bool.or_false, sc9, idx_ints _ hi, iv0, fill_ch, ch_st, ch_put, ch_whole, fin_che]
/-! A state -/
def stB (a b c d : Int) (ops ch vo : PV) (g : Int) : List PV := clkC a b c d ++ (Z37 ++ ([.int .i64 0, .int .i64 0, .int .i64 0, .int .i64 0, .int .i64 0, .int .i64 0] ++ [ops, ch, vo, .int .i64 g]))
def stF (a b c d : Int) (chs vs : List (List PV)) (g : Int) : List PV := stB a b c d (.frz 1 []) (.frz 51 chs) (.frz 21 vs) g
def vo32 : List (List PV) := List.replicate 32 Z21
theorem fill_stR (a b c d : Int) (q1 q2 q3 q4 q5 : Nat) (g : Int) : fillP Z84 [(0, 37, .agg (clkC a b c d)), (82, 1, .ref q1 q2 q3 q4 q5), (83, 1, .int .i64 g)] = some (stB a b c d .nilS .nilS (.ref q1 q2 q3 q4 q5) g) := nr (by kernel_rfl)
theorem fill_stZ (a b c d : Int) (n : Nat) (r : List (List PV)) (g : Int) : fillP Z84 [(0, 37, .agg (clkC a b c d)), (82, 1, .frz n r), (83, 1, .int .i64 g)] = some (stB a b c d .nilS .nilS (.frz n r) g) := nr (by kernel_rfl)
theorem st_st (a b c d : Int) (ops ch vo : PV) (g : Int) (vs : List PV) (t : TypeId) (l : PHeap) : storeP 84 (.ptr 0 0) (.agg (stB a b c d ops ch vo g)) (.box vs t .rw :: l) = (putAt vs 0 (stB a b c d ops ch vo g)).map fun vs' => .box vs' t .rw :: l := storeC0 rfl (by decide)
theorem stF_st (a b c d : Int) (ch vo : List (List PV)) (g : Int) (vs : List PV) (t : TypeId) (l : PHeap) : storeP 84 (.ptr 0 0) (.agg (stF a b c d ch vo g)) (.box vs t .rw :: l) = (putAt vs 0 (stF a b c d ch vo g)).map fun vs' => .box vs' t .rw :: l := storeC0 rfl (by decide)
theorem st_put1 (a b c d : Int) (q1 q2 q3 q4 q5 : Nat) (g : Int) : putAt Z84 0 (stB a b c d .nilS .nilS (.ref q1 q2 q3 q4 q5) g) = some (stB a b c d .nilS .nilS (.ref q1 q2 q3 q4 q5) g) := put_whole rfl rfl
theorem st_put2 (a b c d : Int) (r1 r2 r3 r4 r5 q1 q2 q3 q4 q5 : Nat) (g : Int) : putAt Z84 0 (stB a b c d .nilS (.ref r1 r2 r3 r4 r5) (.ref q1 q2 q3 q4 q5) g) = some (stB a b c d .nilS (.ref r1 r2 r3 r4 r5) (.ref q1 q2 q3 q4 q5) g) := put_whole rfl rfl
theorem st_put3 (a b c d : Int) (n : Nat) (r : List (List PV)) (g : Int) : putAt Z84 0 (stB a b c d .nilS .nilS (.frz n r) g) = some (stB a b c d .nilS .nilS (.frz n r) g) := put_whole rfl rfl
theorem st_put4 (a b c d : Int) (r1 r2 r3 r4 r5 : Nat) (n : Nat) (r : List (List PV)) (g : Int) : putAt Z84 0 (stB a b c d .nilS (.ref r1 r2 r3 r4 r5) (.frz n r) g) = some (stB a b c d .nilS (.ref r1 r2 r3 r4 r5) (.frz n r) g) := put_whole rfl rfl
theorem stF_put (a b c d : Int) (ch vo : List (List PV)) (g : Int) : putAt Z84 0 (stF a b c d ch vo g) = some (stF a b c d ch vo g) := put_whole rfl rfl
theorem st_whole (a b c d : Int) (ops ch vo : PV) (g : Int) : partP true 0 84 (stB a b c d ops ch vo g) = some (.agg (stB a b c d ops ch vo g)) := part_all rfl
theorem stF_whole (a b c d : Int) (ch vo : List (List PV)) (g : Int) : partP true 0 84 (stF a b c d ch vo g) = some (.agg (stF a b c d ch vo g)) := part_all rfl
theorem st81 (a b c d : Int) (ops ch vo : PV) (g : Int) : (stB a b c d ops ch vo g)[81]? = some ch := nr rfl
theorem put81 (a b c d : Int) (ops ch vo : PV) (g : Int) (r1 r2 r3 r4 r5 : Nat) : putAt (stB a b c d ops ch vo g) 81 [.ref r1 r2 r3 r4 r5] = some (stB a b c d ops (.ref r1 r2 r3 r4 r5) vo g) := nr (by kernel_rfl)
theorem st1r (u v w x y o : Nat) (vs : List PV) (t : TypeId) (l : PHeap) : storeP 1 (.ptr 0 o) (.ref u v w x y) (.box vs t .rw :: l) = (putAt vs o [.ref u v w x y]).map fun vs' => .box vs' t .rw :: l := st1 rfl o vs t l
theorem mk32 (t : TypeId) (zero : List PV) (h : PHeap) : mkSliceP t zero (.int .i64 32) (.int .i64 32) h = some (.ref h.length 0 32 32 zero.length, h ++ [.log (List.replicate 32 zero) zero.length t .rw]) := mkSlice_new (n := 32) (by decide)
theorem z21len : Z21.length = 21 := nr rfl
theorem vo_pure : vo32.flatten.all pure1 = true := by kernel_rfl
theorem ch_pures (l : List Int) : (l.map chC).flatten.all pure1 = true := pure_map ch_pure l
theorem app4 {h l : PHeap} {a b c d : PBlk} {sz n : Nat} {t : TypeId} {rows : List (List PV)} {row : List PV} (hn : n = rows.length) (hs : 0 < sz) (hp : row.all oneP = true) (hm : n < mostLen) :
    appendP t sz (.ref (h.length + 4) 0 n n sz) (.frz sz [row]) (h ++ a :: b :: c :: d :: .log rows sz t .rw :: l) = some (.ref (h.length + 4) 0 (n + 1) (n + 1) sz, h ++ a :: b :: c :: d :: .log (rows ++ [row]) sz t .rw :: l) := by
  subst hn
  exact append_new (k := 4) (l := a :: b :: c :: d :: .log rows sz t .rw :: l) rfl hs hp hm
/-- A state is frozen at the end. -/
theorem fz_st {h L L1 L2 : PHeap} {a b c d g : Int} {ch vo : PV} {chs vs : List (List PV)} (h1 : fz (.flat 51) ch (h ++ L) = some (.frz 51 chs, h ++ L1)) (h2 : fz (.flat 21) vo (h ++ L1) = some (.frz 21 vs, h ++ L2)) :
    fz (.agg SA84) (.agg (stB a b c d .nilS ch vo g)) (h ++ L) = some (.agg (stF a b c d chs vs g), h ++ L2) := by
  rw [fz_aggs]
  have e1 : SA84 = List.replicate 80 .keep ++ [.sl 1 [.flat 3], .flat 51, .flat 21, .keep] := rfl
  have e2 : ∀ o c1 v1, stB a b c d o c1 v1 g = (clkC a b c d ++ (Z37 ++ [.int .i64 0, .int .i64 0, .int .i64 0, .int .i64 0, .int .i64 0, .int .i64 0])) ++ [o, c1, v1, .int .i64 g] := fun _ _ _ => rfl
  unfold stF
  rw [e1, e2, e2, fzL_pre _ rfl, fzL_cons, fz_nils, Option.bind_some, fzL_cons, h1, Option.bind_some, fzL_cons, h2, Option.bind_some, fzL_cons, fz_keep, Option.bind_some, fzL_nil]
  rfl
theorem fz_stF (h : PHeap) (a b c d g : Int) (chs vs : List (List PV)) : fz (.agg SA84) (.agg (stF a b c d chs vs g)) h = some (.agg (stF a b c d chs vs g), h) := fz_aggI h rfl
theorem st_plain (a b c d g : Int) (chs vs : List (List PV)) : plainP (.agg (stF a b c d chs vs g)) = true := rfl
/-! The program's state -/
def hsS (h : PHeap) (a b c d g : Int) (pans : List Int) : Nat → PHeap
  | 0 => h ++ [.box (clkC a b c d) 31 .rw, .box Z84 38 .rw, .log vo32 21 74 .rw, .box (stB a b c d .nilS .nilS (.ref (h.length + 2) 0 32 32 21) g) 38 .rw]
  | i + 1 => h ++ [.box (clkC a b c d) 31 .rw, .box Z84 38 .rw, .log vo32 21 74 .rw, .box (stB a b c d .nilS (.ref (h.length + 4) 0 (i + 1) (i + 1) 51) (.ref (h.length + 2) 0 32 32 21) g) 38 .rw, .log ((pans.take (i + 1)).map chC) 51 64 .rw]
theorem s9_round {N bb : Nat} {h : PHeap} {a b c d g : Int} {pans : List Int} {v15 : Int} {j16 : List PV → PHeap → Pt} (hl : loadP false 1 (.ptr bb 9) h = some (ints pans)) {i : Nat} (hi : i < pans.length) (hv : (i : Int) < v15) (hm : pans.length < 4294967296) (K : List PV → PHeap → Pt) :
    s9_L0 Γ0 N (.ptr bb 0) (.ptr (h.length + 3) 0) (hsS h a b c d g pans 0) (.int .i64 v15) j16 K [.int .i64 i] (hsS h a b c d g pans i) = K [.int .i64 ((i + 1 : Nat) : Int)] (hsS h a b c d g pans (i + 1)) := by
  obtain ⟨p, hp⟩ : ∃ p, pans[i]? = some p := ⟨_, List.getElem?_eq_getElem hi⟩
  have hlt : decide ((i : Int) < v15) = true := decide_eq_true hv
  have hrow : (chC p).all oneP = true := rfl
  have k18 : ∀ l, Γ0 18 [.ptr bb 0, .int .i64 i] (lock (h ++ l)) = some (.agg (chC p), lock (h ++ l)) := fun l => c18 (load_lock (load_app hl l)) hp
  have hk : ∀ h', h'[h.length + 3]? = some (.box (stB a b c d .nilS (.ref (h.length + 4) 0 (i + 1) (i + 1) 51) (.ref (h.length + 2) 0 32 32 21) g) 38 .rw) → trim (hsS h a b c d g pans 0) [.int .i64 ((i + 1 : Nat) : Int)] h' = h' := fun h' e => by
    refine trim_keep (b := h.length + 3) (by show _ < (h ++ _).length; simp) e ?_ (not_ltB (b := h.length + 4) (lo := 0) (m := i + 1) (v := i + 1) (sz := 51) (by unfold stB; simp) (by show (h ++ _).length ≤ _; simp))
    show (h ++ _)[_]? ≠ _
    rw [get_new]
    intro k
    have k2 := congrArg (fun x : Option PBlk => match x with | some (.box vs _ _) => vs[81]? | _ => none) k
    simp only [st81, List.getElem?_cons_succ, List.getElem?_cons_zero] at k2
    cases k2
  unfold s9_L0
  cases i with
  | zero =>
    simp only [hsS, words, ↓KLn, Nat.reduceAdd, hlt, if_true, st81, k18, ch_lit, ch_pure, guardW, ch_chunk, append_nilS (sz := 51) (by decide) hrow, st1r, put81, succ63 (show 0 < 9223372036854775807 by omega)]
    refine congrArg (K _) (Eq.trans (hk _ ?_) ?_)
    · rw [get_new]; rfl
    · rw [take_succ_get hp, List.map_append]; rfl
  | succ i =>
    have hml : i + 1 < mostLen := by unfold mostLen; omega
    have hrl : i + 1 = ((pans.take (i + 1)).map chC).length := by
      rw [List.length_map, List.length_take]; omega
    simp only [hsS, words, ↓KLn, Nat.reduceAdd, hlt, if_true, st81, k18, ch_lit, ch_pure, guardW, ch_chunk, app4 (sz := 51) hrl (by decide) hrow hml, st1r, put81, succ63 (show i + 1 < 9223372036854775807 by omega)]
    refine congrArg (K _) (Eq.trans (hk _ ?_) ?_)
    · rw [get_new]; rfl
    · rw [take_succ_get hp, List.map_append]; rfl
theorem c9 {s : Sng} (ok : SngOK s) {bb : Nat} {h : PHeap} (hl : ∀ k v, s.cs[k]? = some v → loadP false 1 (.ptr bb k) h = some v) (a b c d : Int) : Γ0 9 [.ptr bb 0, .agg (clkC a b c d)] h = some (.agg (stF a b c d (s.pans.map chC) vo32 s.glb), h) := by
  obtain ⟨N, hN⟩ : ∃ N : Nat, s.pans.length < N := ⟨_, Nat.lt_succ_self _⟩
  have hnp := ok.npans
  have hch := ok.ch
  unfold inW at hch
  simp only [Bool.and_eq_true, decide_eq_true_eq] at hch
  have hq : qI s.dia 1 ≤ 16 := by
    refine qOf_cases (fun r => rI r 1 ≤ 16) ?_ ?_ ?_ ?_ ?_ ?_ ?_ s.dia <;> decide
  refine gbody (F := A9) (by kernel_rfl) N ?_
  rw [s9_eq]; unfold s9
  simp only [words, ↓KLn, Nat.reduceAdd, clk_whole, mk32, z21len, nilc, load_app (hl 7 _ (sc7 s)), load_app (hl 2 _ (sc2 s)), fill_stR, st_st, st_put1]
  refine loop_run (fun i => [.int .i64 (i : Int)]) (hsS h a b c d s.glb s.pans) s.pans.length hN rfl rfl (fun i hi K => s9_round (hl 9 _ (sc9 s)) hi (by omega) (by omega) K) fun K => ?_
  obtain ⟨n, hn⟩ : ∃ n, s.pans.length = n + 1 := ⟨s.pans.length - 1, by omega⟩
  have hlt : decide ((s.pans.length : Int) < s.ch) = false := decide_eq_false (by omega)
  have htk : s.pans.take (n + 1) = s.pans := by rw [← hn]; exact List.take_length
  rw [hn] at hlt ⊢
  unfold s9_L0
  simp only [hsS, htk, words, ↓KLn, Nat.reduceAdd, hlt, Bool.false_eq_true, if_false, st_whole, st_st, st_put2]
  generalize hL1 : PBlk.box (stB a b c d .nilS (.ref (h.length + 4) 0 (n + 1) (n + 1) 51) (.ref (h.length + 2) 0 32 32 21) s.glb) 38 .rw = B
  have hlen : (s.pans.map chC).length = n + 1 := by rw [List.length_map, hn]
  have z1 := fz_logF (h := h) (l := [.box (clkC a b c d) 31 .rw, B, .log vo32 21 74 .rw, B, .log (s.pans.map chC) 51 64 .rw]) (k := 4) (s := 51) rfl (by rw [hlen]; omega) (ch_pures s.pans)
  rw [hlen] at z1
  have z2 : fz (.flat 21) (.ref (h.length + 2) 0 32 32 21) (h ++ [.box (clkC a b c d) 31 .rw, B, .log vo32 21 74 .rw, B, .log (s.pans.map chC) 51 64 .ro]) = some (.frz 21 vo32, h ++ [.box (clkC a b c d) 31 .rw, B, .log vo32 21 74 .ro, B, .log (s.pans.map chC) 51 64 .ro]) := fz_logF (k := 2) (rows := vo32) rfl (by decide) vo_pure
  have z := fz_st (a := a) (b := b) (c := c) (d := d) (g := s.glb) z1 z2
  refine fin_new (ws := [.agg (stF a b c d (s.pans.map chC) vo32 s.glb)]) (l := [.box (clkC a b c d) 31 .rw, B, .log vo32 21 74 .ro, B, .log (s.pans.map chC) 51 64 .ro]) ?_ (fun v hv => ?_)
  · rw [fzL_cons, z, Option.bind_some, fzL_nil]; rfl
  · simp only [List.mem_singleton] at hv
    subst hv
    exact plainP_lt (st_plain _ _ _ _ _ _ _)
end Go.Vm.X
