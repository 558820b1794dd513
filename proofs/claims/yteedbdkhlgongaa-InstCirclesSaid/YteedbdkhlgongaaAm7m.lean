/- Maps whose keys are numbers, bools or strings. -/
import Derived.Test.YteedbdkhlgongaaAm7
import Derived.RangeFuncLeaves
import Derived.RangeFuncRecord
set_option linter.unusedSimpArgs false
set_option linter.unusedVariables false
namespace Go.Am
variable {P : Program} {μ : Ren} {w : World}

/-- A block of one's own is written anew. -/
theorem Sim.setBlk {h : AHeap} (s : Sim P μ h w) {b c K : Nat} {blk blk' : ABlk} {o' : Obj} (e : μ b = some ⟨c, K⟩) (hb : h[b]? = some blk) (hd : blk ≠ .dead) (hro : ¬ isRo h b) (hd' : blk' ≠ .dead) (hro' : ∀ vs t, blk' ≠ .cells vs t false) (hbr : BR P μ K blk' o') :
    Sim P μ (h.set b blk') (w.putObj c o') ∧ Ext μ h w μ (h.set b blk') (w.putObj c o') := by
  have hlive : live h b := ⟨_, hb, hd⟩
  have hc : c < w.heap.size := s.lt b _ e
  have hself : (w.putObj c o').heap[c]? = some o' := by simp [World.putObj, hc]
  have hother : ∀ k, k ≠ c → (w.putObj c o').heap[k]? = w.heap[k]? := fun k hk => by
    simp only [World.putObj]
    rw [Array.getElem?_setIfInBounds_ne (by omega)]
  have hsz : (w.putObj c o').heap.size = w.heap.size := by simp [World.putObj]
  have hnew : ∀ b', live (h.set b blk') b' ↔ live h b' := fun b' => live_set hlive hd'
  refine ⟨⟨fun b' c' e' => by rw [List.length_set]; exact s.dom b' c' e', fun b' c' k e' hb' hn => ?_, fun b1 b2 l1' l2' e1 e2 e3 l1 l2 => s.inj b1 b2 l1' l2' e1 e2 e3 ((hnew b1).1 l1) ((hnew b2).1 l2), fun b' c' e' => by rw [hsz]; exact s.lt b' c' e'⟩,
    ⟨⟨by rw [List.length_set]; exact Nat.le_refl _, fun _ _ => rfl, by rw [hsz]; exact Nat.le_refl _, fun c' _ hn => hother c' (fun hcc => hn b _ hlive e hcc.symm), fun b' c' e' hr => hother _ (fun hcc => ?_), fun b' hr => ?_, fun b' c' hb' e' => absurd (s.dom b' c' e') (by omega), fun b' _ hn hl' => hn ((hnew b').1 hl'), ⟨rfl, rfl, rfl⟩⟩, fun b' hb' hl' => absurd ((hnew b').1 hl').lt (by omega)⟩⟩
  · by_cases hbb : b = b'
    · subst hbb
      rw [e] at e'
      cases e'
      rw [List.getElem?_set_self hlive.lt] at hb'
      cases hb'
      exact ⟨o', hself, hbr⟩
    · rw [List.getElem?_set_ne hbb] at hb'
      have hne : c ≠ c'.blk := fun hcc => hbb (s.inj b b' _ _ e e' hcc hlive ⟨_, hb', hn⟩)
      obtain ⟨o2, ho2, hbr2⟩ := s.rel b' c' k e' hb' hn
      exact ⟨o2, by rw [hother _ (fun h => hne h.symm)]; exact ho2, hbr2⟩
  · have := s.inj b b' _ _ e e' hcc.symm hlive hr.live
    subst this
    exact hro hr
  · by_cases hbb : b = b'
    · subst hbb; exact absurd hr hro
    · exact List.getElem?_set_ne hbb

theorem keyEq_sound {k : BK} {x x' y y' : Value} {t : Bool} (hx : VR μ x x') (hy : VR μ y y') {d : TypeDesc} (hd : bkOf (some d) = some k) (h : keyEq k x y = some t) : Instr.sameNow d x' y' = some t ∧ x' = x ∧ y' = y := by
  unfold keyEq at h
  split at h
  · split at h
    · rename_i a b _ _ hk
      cases h
      subst hk
      cases hx; cases hy
      cases d <;> simp [bkOf] at hd
      exact ⟨by simp [Instr.sameNow], rfl, rfl⟩
    · cases h
  · cases h
    cases hx; cases hy
    cases d <;> simp [bkOf] at hd
    exact ⟨rfl, rfl, rfl⟩
  · cases h
    cases hx; cases hy
    cases d <;> simp [bkOf] at hd
    exact ⟨rfl, rfl, rfl⟩
  · cases h
/-- A block of one's own is given up, and what it stood for is written anew. -/
theorem Sim.killBlk {h : AHeap} (s : Sim P μ h w) {b c K : Nat} {blk : ABlk} {o' : Obj} (e : μ b = some ⟨c, K⟩) (hb : h[b]? = some blk) (hd : blk ≠ .dead) (hro : ¬ isRo h b) :
    Sim P μ (h.set b .dead) (w.putObj c o') ∧ Ext μ h w μ (h.set b .dead) (w.putObj c o') := by
  have hlive : live h b := ⟨_, hb, hd⟩
  have hc : c < w.heap.size := s.lt b _ e
  have hother : ∀ k, k ≠ c → (w.putObj c o').heap[k]? = w.heap[k]? := fun k hk => by
    simp only [World.putObj]
    rw [Array.getElem?_setIfInBounds_ne (by omega)]
  have hsz : (w.putObj c o').heap.size = w.heap.size := by simp [World.putObj]
  obtain ⟨s1, x1⟩ := s.giveUp hro (b := b)
  have hnot : ¬ live (h.set b .dead) b := by
    rintro ⟨blk, h1, h2⟩
    rw [List.getElem?_set_self hlive.lt] at h1
    cases h1; exact h2 rfl
  have hlv : ∀ b', live (h.set b .dead) b' → live h b' := fun b' hl => by
    obtain ⟨blk, h1, h2⟩ := hl
    by_cases hbb : b = b'
    · subst hbb; exact absurd ⟨blk, h1, h2⟩ hnot
    · rw [List.getElem?_set_ne hbb] at h1; exact ⟨blk, h1, h2⟩
  refine ⟨⟨s1.dom, fun b' l k e' hb' hn => ?_, s1.inj, fun b' l e' => by rw [hsz]; exact s1.lt b' l e'⟩, ⟨⟨x1.le, x1.old, by rw [hsz]; exact Nat.le_refl _, fun k hk hn => hother k (fun hcc => hn b _ hlive e hcc.symm), fun b' l e' hr => hother _ (fun hcc => ?_), x1.roStay, fun b' l hb' e' => absurd (s.dom b' l e') (by omega), x1.dead, ⟨rfl, rfl, rfl⟩⟩, x1.tot⟩⟩
  · obtain ⟨o2, ho2, hbr2⟩ := s1.rel b' l k e' hb' hn
    have hl' := hlv b' ⟨_, hb', hn⟩
    have hne : l.blk ≠ c := fun hcc => by
      have := s.inj b' b _ _ e' e hcc hl' hlive
      subst this
      exact hnot ⟨_, hb', hn⟩
    exact ⟨o2, by rw [hother _ hne]; exact ho2, hbr2⟩
  · have := s.inj b' b _ _ e' e hcc hr.live hlive
    subst this
    exact hro hr
/-- A block that nobody names is made. -/
theorem Sim.spare {h : AHeap} (s : Sim P μ h w) (o : Obj) : Sim P μ h (w.alloc o) ∧ Ext μ h w μ h (w.alloc o) :=
  ⟨⟨s.dom, fun b l blk e hb hn => by obtain ⟨o', ho, hbr⟩ := s.rel b l blk e hb hn; exact ⟨o', by rw [getElem?_alloc_old w o (s.lt b l e)]; exact ho, hbr⟩, s.inj, fun b l e => by rw [size_alloc']; have := s.lt b l e; omega⟩,
    ⟨⟨Nat.le_refl _, fun _ _ => rfl, by rw [size_alloc']; omega, fun c hc _ => getElem?_alloc_old w o hc, fun b l e _ => getElem?_alloc_old w o (s.lt b l e), fun _ _ => rfl, fun b l hb e => absurd (s.dom b l e) (by omega), fun _ _ h => h, ⟨rfl, rfl, rfl⟩⟩, fun b hb hl => absurd hl.lt (by omega)⟩⟩
theorem bytes_beq' (a b : ByteArray) : (a == b) = true ↔ a = b := by
  constructor
  · intro h
    have h' : (a.data == b.data) = true := h
    have := eq_of_beq h'
    cases a; cases b
    simp_all
  · rintro rfl
    show (a.data == a.data) = true
    exact beq_self_eq_true _
theorem keyEq_true {k : BK} {x y : Value} (h : keyEq k x y = some true) : x = y ∧ noRef1 x = true ∧ ∀ n, Instr.sameBits n x x = true := by
  cases k <;> cases x <;> simp only [keyEq] at h <;> try (cases h; done)
  all_goals (cases y <;> simp only [keyEq] at h <;> try (cases h; done))
  · split at h
    · rename_i e
      subst e
      simp at h
      subst h
      exact ⟨rfl, rfl, fun n => by cases n <;> simp [Instr.sameBits]⟩
    · cases h
  · simp at h
    subst h
    exact ⟨rfl, rfl, fun n => by cases n <;> simp [Instr.sameBits]⟩
  · have e := (bytes_beq' _ _).1 (Option.some.inj h)
    subst e
    exact ⟨rfl, rfl, fun n => by cases n <;> simp [Instr.sameBits, bytes_beq']⟩
/-- Where a key is. -/
theorem findMap_sound {k : BK} {x x' : Value} {d : TypeDesc} (hd : bkOf (some d) = some k) (hx : VR μ x x') : ∀ {es : List (Value × Value)} {l : List MapEntry} {r : Option Value} (i : Nat), VRL μ (es.map (·.1)) (l.map (·.key)) → VRL μ (es.map (·.2)) (l.map (·.val)) → findMap k x es = some r →
    (r = none ∧ Instr.findNow d x' l i = some none) ∨ ∃ v v' j, r = some v ∧ VR μ v v' ∧ Instr.findNow d x' l i = some (some (j, v'))
  | [], l, r, i, h1, h2, hf => by
    cases l with
    | nil => cases hf; exact .inl ⟨rfl, rfl⟩
    | cons a l => cases h1
  | (y, v) :: es, l, r, i, h1, h2, hf => by
    cases l with
    | nil => cases h1
    | cons a l =>
      simp only [List.map_cons] at h1 h2
      cases h1 with
      | cons k1 k2 =>
        cases h2 with
        | cons m1 m2 =>
          unfold findMap at hf
          split at hf
          · rename_i hk
            cases hf
            obtain ⟨q1, q2, q3⟩ := keyEq_sound hx k1 hd hk
            exact .inr ⟨v, a.val, i, rfl, m1, by unfold Instr.findNow; rw [q1]⟩
          · rename_i hk
            obtain ⟨q1, q2, q3⟩ := keyEq_sound hx k1 hd hk
            rcases findMap_sound hd hx (i + 1) k2 m2 hf with ⟨e1, e2⟩ | ⟨v1, v2, j, e1, e2, e3⟩
            · exact .inl ⟨e1, by unfold Instr.findNow; rw [q1]; exact e2⟩
            · exact .inr ⟨v1, v2, j, e1, e2, by unfold Instr.findNow; rw [q1]; exact e3⟩
          · cases hf
theorem setMap_sound {k : BK} {x x' v v' : Value} {d : TypeDesc} (hd : bkOf (some d) = some k) (hx : VR μ x x') (hv : VR μ v v') : ∀ {es es2 : List (Value × Value)} {l : List MapEntry} (i : Nat), VRL μ (es.map (·.1)) (l.map (·.key)) → VRL μ (es.map (·.2)) (l.map (·.val)) → setMap k x v es = some es2 →
    (Instr.findNow d x' l i = some none ∧ es2 = es ++ [(x, v)]) ∨ ∃ (j : Nat) (u : Value) (e : MapEntry), Instr.findNow d x' l i = some (some (i + j, u)) ∧ l[j]? = some e ∧ e.key = x' ∧ noRef1 x' = true ∧ (∀ n, Instr.sameBits n x' x' = true) ∧
      VRL μ (es2.map (·.1)) ((l.modify j fun e => { e with key := x', val := v' }).map (·.key)) ∧ VRL μ (es2.map (·.2)) ((l.modify j fun e => { e with key := x', val := v' }).map (·.val))
  | [], es2, l, i, h1, h2, hf => by
    cases l with
    | nil => cases hf; exact .inl ⟨rfl, rfl⟩
    | cons a l => cases h1
  | (y, u) :: es, es2, l, i, h1, h2, hf => by
    cases l with
    | nil => cases h1
    | cons a l =>
      simp only [List.map_cons] at h1 h2
      cases h1 with
      | cons k1 k2 =>
        cases h2 with
        | cons m1 m2 =>
          unfold setMap at hf
          split at hf
          · rename_i hk
            cases hf
            obtain ⟨q1, q2, q3⟩ := keyEq_sound hx k1 hd hk
            obtain ⟨z1, z2, z3⟩ := keyEq_true hk
            have hkx : noRef1 x' = true ∧ (∀ n, Instr.sameBits n x' x' = true) ∧ a.key = x' := by
              rw [q2]
              exact ⟨z2, z3, by rw [q3, z1]⟩
            refine .inr ⟨0, a.val, a, by unfold Instr.findNow; rw [q1]; rfl, rfl, hkx.2.2, hkx.1, hkx.2.1, ?_, ?_⟩
            · simp only [List.map_cons, List.modify_zero_cons]
              exact .cons hx k2
            · simp only [List.map_cons, List.modify_zero_cons]
              exact .cons hv m2
          · rename_i hk
            rw [Option.map_eq_some_iff] at hf
            obtain ⟨q, hq, rfl⟩ := hf
            obtain ⟨q1, q2, q3⟩ := keyEq_sound hx k1 hd hk
            rcases setMap_sound hd hx hv (i + 1) k2 m2 hq with ⟨e1, rfl⟩ | ⟨j, u2, e, e1, e2, e3, e4, e5, e6, e7⟩
            · exact .inl ⟨by unfold Instr.findNow; rw [q1]; exact e1, rfl⟩
            · refine .inr ⟨j + 1, u2, e, by unfold Instr.findNow; rw [q1]; rw [show i + (j + 1) = i + 1 + j by omega]; exact e1, by simpa using e2, e3, e4, e5, ?_, ?_⟩
              · simp only [List.map_cons, List.modify_succ_cons]
                exact .cons k1 e6
              · simp only [List.map_cons, List.modify_succ_cons]
                exact .cons m1 e7
          · cases hf
theorem checkKey_simple {empty : Bool} {n : Nat} {t : TypeId} {d : TypeDesc} {k : BK} {v : Value} (ht : P.underlying t = some d) (hd : bkOf (some d) = some k) : (Instr.checkKey empty (n + 1) t v).run P w = .ok () w := by
  unfold Instr.checkKey
  simp only [Sem.run_bind, run_underlying' ht, Result.andThen_ok]
  cases d <;> simp [bkOf] at hd <;> simp [Sem.run_pure]
theorem mapOf_sound {x x' : Value} {h : AHeap} {es : List (Value × Value)} (s : Sim P μ h w) (hx : VR μ x x') (hm : mapOf x h = some es) :
    (x = .map none ∧ x' = .map none ∧ es = []) ∨ ∃ b c K l clock, x = .map (some b) ∧ x' = .map (some c) ∧ μ b = some ⟨c, K⟩ ∧ h[b]? = some (.map es) ∧ w.heap[c]? = some (.map l clock) ∧ VRL μ (es.map (·.1)) (l.toList.map (·.key)) ∧ VRL μ (es.map (·.2)) (l.toList.map (·.val)) := by
  unfold mapOf at hm
  split at hm
  · cases hm; cases hx; exact .inl ⟨rfl, rfl, rfl⟩
  · rename_i b
    split at hm
    · rename_i es' hb
      cases hm
      cases hx with
      | @map _ c K e =>
        obtain ⟨o, ho, l, clock, rfl, h2, h3⟩ := s.rel b _ _ e hb (by simp)
        exact .inr ⟨b, c, K, l, clock, rfl, rfl, e, hb, ho, h2, h3⟩
    · cases hm
  · cases hm
theorem lookupf_sound {k : BK} {zero : Value} {ok : Bool} {x x' i i' v : Value} {h : AHeap} (s : Sim P μ h w) (hx : VR μ x x') (hi : VR μ i i') (hl : lookupf k zero ok x i h = some v)
    {t key elem : TypeId} {d : TypeDesc} (ht : P.underlying t = some (.map key elem)) (hk : P.underlying key = some d) (hd : bkOf (some d) = some k) {ie : TypeInfo} (hie : P.info? elem = some ie) (hz : ie.zero = some zero) (hz0 : VR μ zero zero) :
    ∃ v', (Instr.lookup t x' i' ok).run P w = .ok v' w ∧ VR μ v v' := by
  unfold lookupf at hl
  simp only [Option.bind_eq_some_iff, Option.map_eq_some_iff] at hl
  obtain ⟨es, hm, r, hf, rfl⟩ := hl
  have hzv : (zeroValue elem).run P w = .ok zero w := by simp [zeroValue, typeInfo, hie, hz]
  have hck : ∀ b, (Instr.checkKey b 10000 key i').run P w = .ok () w := fun b => checkKey_simple (n := 9999) hk hd
  rcases mapOf_sound s hx hm with ⟨rfl, rfl, rfl⟩ | ⟨b, c, K, l, clock, rfl, rfl, e, hb, ho, h2, h3⟩
  · cases hf
    refine ⟨if ok then .tuple #[zero, .bool false] else zero, ?_, ?_⟩
    · simp only [Instr.lookup, Sem.run_bind, run_underlying' ht, Result.andThen_ok, Sem.run_pure, hck, Instr.findKey, run_underlying' hk, Instr.findNow, hzv]
    · cases ok
      · exact hz0
      · exact .tuple (.cons hz0 (.cons (.bool _) .nil))
  · have hg : (getObj c).run P w = .ok (.map l clock) w := by simp [getObj, Sem.run, ho]
    rcases findMap_sound hd hi 0 h2 h3 hf with ⟨rfl, e2⟩ | ⟨v1, v2, j, rfl, e2, e3⟩
    · refine ⟨if ok then .tuple #[zero, .bool false] else zero, ?_, ?_⟩
      · simp only [Instr.lookup, Sem.run_bind, run_underlying' ht, Result.andThen_ok, Sem.run_pure, hg, hck, Instr.findKey, run_underlying' hk, e2, hzv]
      · cases ok
        · exact hz0
        · exact .tuple (.cons hz0 (.cons (.bool _) .nil))
    · refine ⟨if ok then .tuple #[v2, .bool true] else v2, ?_, ?_⟩
      · simp only [Instr.lookup, Sem.run_bind, run_underlying' ht, Result.andThen_ok, Sem.run_pure, hg, hck, Instr.findKey, run_underlying' hk, e3]
      · cases ok
        · exact e2
        · exact .tuple (.cons e2 (.cons (.bool _) .nil))
theorem setMapf_sound {k : BK} {x x' i i' v v' : Value} {h h1 : AHeap} (s : Sim P μ h w) (hx : VR μ x x') (hi : VR μ i i') (hv : VR μ v v') (hl : setMapf k x i v h = some h1)
    {t key elem : TypeId} {d : TypeDesc} (ht : P.underlying t = some (.map key elem)) (hk : P.underlying key = some d) (hd : bkOf (some d) = some k) :
    ∃ w1, (Instr.mapUpdate t x' i' v').run P w = .ok () w1 ∧ Sim P μ h1 w1 ∧ Ext μ h w μ h1 w1 := by
  unfold setMapf at hl
  split at hl
  · rename_i b
    split at hl
    · rename_i es hb
      rw [Option.map_eq_some_iff] at hl
      obtain ⟨es2, hs, rfl⟩ := hl
      have hck : ∀ b, (Instr.checkKey b 10000 key i').run P w = .ok () w := fun b => checkKey_simple (n := 9999) hk hd
      cases hx with
      | @map _ c K e =>
        obtain ⟨o, ho, l, clock, rfl, h2, h3⟩ := s.rel b _ _ e hb (by simp)
        have hg : (getObj c).run P w = .ok (.map l clock) w := by simp [getObj, Sem.run, ho]
        have hset : ∀ o2, (setObj c o2).run P w = .ok () (w.putObj c o2) := fun o2 => by simp [setObj, Sem.run, ho, World.putObj]
        have hro : ¬ isRo h b := by rintro ⟨vs, t', e2⟩; rw [hb] at e2; cases e2
        rcases setMap_sound hd hi hv 0 h2 h3 hs with ⟨e1, rfl⟩ | ⟨j, u, en, e1, e2, e3, e4, e5, e6, e7⟩
        · obtain ⟨q1, q2⟩ := s.setBlk (blk' := .map (es ++ [(i, v)])) (o' := .map (l.push { key := i', val := v', born := clock }) (clock + 1)) e hb (by simp) hro (by simp) (by simp)
            ⟨_, _, rfl, by simpa using h2.append (.cons hi .nil), by simpa using h3.append (.cons hv .nil)⟩
          refine ⟨_, ?_, q1, q2⟩
          simp only [Instr.mapUpdate, Sem.run_bind, run_underlying' ht, Result.andThen_ok, hg, hck, Instr.findKey, run_underlying' hk, e1, Sem.run_pure, hset]
        · obtain ⟨q1, q2⟩ := s.setBlk (blk' := .map es2) (o' := .map (l.modify j fun e => { e with key := i', val := v' }) clock) e hb (by simp) hro (by simp) (by simp)
            ⟨_, _, rfl, by simpa using e6, by simpa using e7⟩
          refine ⟨_, ?_, q1, q2⟩
          have hj : (((l[j]?).map (·.key)).getD i') = i' := by
            have e2' : l[j]? = some en := by simpa using e2
            rw [e2']
            simpa using e3
          rw [Nat.zero_add] at e1
          simp only [Instr.mapUpdate, Sem.run_bind, run_underlying' ht, Result.andThen_ok, hg, hck, Instr.findKey, run_underlying' hk, e1, Sem.run_pure, hj, Instr.keyThatStays, e5, if_true, Nat.zero_add, hset]
    · cases hl
  · cases hl
theorem mkMap_sound {h : AHeap} (s : Sim P μ h w) {t : TypeId} : ∃ w1 μ1 v', (Instr.makeMap t none).run P w = .ok v' w1 ∧ VR μ1 (.map (some h.length)) v' ∧ Sim P μ1 (h ++ [.map []]) w1 ∧ Ext μ h w μ1 (h ++ [.map []]) w1 := by
  obtain ⟨q1, q2⟩ := s.alloc (w0 := w) rfl Out.rfl (K := 0) (blk := .map []) (o := .map #[] 0) ⟨_, _, rfl, .nil, .nil⟩
  refine ⟨_, _, .map (some w.heap.size), ?_, .map (grow_new h.length w.heap.size 0), q1, q2⟩
  simp only [Instr.makeMap, Sem.run_bind, run_newObj, Result.andThen_ok, Sem.run_pure]
  rfl
theorem lenMapf_sound {x x' v : Value} {h : AHeap} (s : Sim P μ h w) (hx : VR μ x x') (hl : lenMapf x h = some v) {ty t k e : TypeId} (ht : P.underlying t = some (.map k e)) :
    (Builtin.len_ #[t] ty #[x']).run P w = .ok v w ∧ VR μ v v := by
  unfold lenMapf at hl
  rw [Option.map_eq_some_iff] at hl
  obtain ⟨es, hm, rfl⟩ := hl
  refine ⟨?_, .int _ _⟩
  rcases mapOf_sound s hx hm with ⟨rfl, rfl, rfl⟩ | ⟨b, c, K, l, clock, rfl, rfl, e, hb, ho, h2, h3⟩
  · simp [Builtin.len_, run_underlying' ht, goInt]
  · have hll := h2.length
    simp only [List.length_map, Array.length_toList] at hll
    have hg : (getObj c).run P w = .ok (.map l clock) w := by simp [getObj, Sem.run, ho]
    simp [Builtin.len_, run_underlying' ht, hg, hll, goInt]
end Go.Am
