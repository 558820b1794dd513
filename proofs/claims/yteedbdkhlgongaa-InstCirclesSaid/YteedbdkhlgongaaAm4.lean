/- Memory: loads, stores, new blocks, append, copy. -/
import Derived.Test.YteedbdkhlgongaaAm3
namespace Go.Am
variable {P : Program} {μ : Ren}

theorem addr_add (c o n : Nat) : (⟨c, o, none⟩ : Addr).add n = ⟨c, o + n, none⟩ := by
  unfold Addr.add
  split
  · rename_i h; subst h; rfl
  · rfl
theorem VR.oneCell {x y : Value} (h : VR μ x y) (hx : oneC x = true) : y.oneCell' = true := by
  cases h <;> first | rfl | (simp [oneC, Am.junk] at hx)
theorem VRL.oneCell {xs ys : List Value} (h : VRL μ xs ys) (hx : xs.all oneC = true) : ∀ v ∈ ys, v.oneCell' = true := by
  intro v hv
  obtain ⟨i, hi⟩ := List.getElem?_of_mem hv
  have hl := h.length
  have hlt : i < xs.length := by have := (List.getElem?_eq_some_iff.1 hi).1; omega
  obtain ⟨y, hy, hr⟩ := h.get (List.getElem?_eq_getElem hlt)
  rw [hi] at hy
  cases hy
  exact hr.oneCell (List.all_eq_true.1 hx _ (List.getElem_mem hlt))
theorem live_set {h : AHeap} {b b' : Nat} {blk : ABlk} (hb : live h b) (hn : blk ≠ .dead) : live (h.set b blk) b' ↔ live h b' := by
  have hlt := hb.lt
  unfold live
  by_cases e : b = b'
  · subst e
    rw [List.getElem?_set_self hlt]
    exact ⟨fun _ => hb, fun _ => ⟨blk, rfl, hn⟩⟩
  · rw [List.getElem?_set_ne e]
theorem setRow_heap_self {w : World} {c : Nat} {cs cs' : Array Value} {t : TypeId} {fr : Nat × Nat} (h : w.heap[c]? = some (.cells cs t fr)) :
    (w.setRow c cs').heap[c]? = some (.cells cs' t fr) := by
  have hlt := (Array.getElem?_eq_some_iff.1 h).1
  simp only [World.setRow]
  rw [Array.getElem?_modify, if_pos rfl, h]
  rfl
theorem setRow_heap_ne {w : World} {c d : Nat} {cs' : Array Value} (h : c ≠ d) : (w.setRow c cs').heap[d]? = w.heap[d]? := by
  simp only [World.setRow]
  rw [Array.getElem?_modify, if_neg h]
theorem setRow_size (w : World) (c : Nat) (cs' : Array Value) : (w.setRow c cs').heap.size = w.heap.size := by
  simp [World.setRow]

theorem writeN_sound {h h' : AHeap} {w : World} (s : Sim P μ h w) {b c K off : Nat} {l ys : List Value} (e : μ b = some ⟨c, K⟩) (hv : VRL μ l ys) (hw : writeN h b off l = some h') :
    ∃ w', (storeCells ⟨c, off, none⟩ ys).run P w = .ok () w' ∧ Sim P μ h' w' ∧ Ext μ h w μ h' w' := by
  unfold writeN at hw
  split at hw
  · rename_i vs t hb
    split at hw
    · rename_i hc
      cases hw
      obtain ⟨o, ho, cs, fr, rfl, hl, hvs, hfr, hK⟩ := s.rel b _ _ e hb (by simp)
      replace ho : w.heap[c]? = some (.cells cs t fr) := ho
      have hfr' := hfr rfl
      subst hfr'
      have hlen := hv.length
      have hlive : live h b := ⟨_, hb, by simp⟩
      have hrun := run_storeCells_at (P := P) c off t ys 0 cs w ho (by omega) (hv.oneCell hc.2)
      simp only [Nat.add_zero] at hrun
      have hnew : ∀ b', live (h.set b (.cells (vs.take off ++ l ++ vs.drop (off + l.length)) t true)) b' ↔ live h b' := fun b' => live_set hlive (by simp)
      refine ⟨_, hrun, ⟨fun b' c' e' => by rw [List.length_set]; exact s.dom b' c' e', fun b' c' blk e' hb' hn => ?_, fun b1 b2 l1' l2' e1 e2 e3 l1 l2 => s.inj b1 b2 l1' l2' e1 e2 e3 ((hnew b1).1 l1) ((hnew b2).1 l2), fun b' c' e' => by rw [setRow_size]; exact s.lt b' c' e'⟩, ?_⟩
      · by_cases hbb : b = b'
        · subst hbb
          rw [e] at e'
          cases e'
          rw [List.getElem?_set_self hlive.lt] at hb'
          cases hb'
          have hsz : (cs.toList.take off ++ ys ++ cs.toList.drop (off + ys.length)).toArray.size = cs.size := by simp; omega
          refine ⟨_, setRow_heap_self ho, _, _, rfl, ?_, ?_, fun _ => rfl, by rw [hsz]; exact hK⟩
          · rw [hsz]
            simp
            omega
          · have h1 : (vs.take off ++ l ++ vs.drop (off + l.length)).length = vs.length := by simp; omega
            rw [h1]
            have h2 := hvs.splice hv off
            have h3 : ((cs.toList.take off ++ ys ++ cs.toList.drop (off + ys.length)).toArray.toList.take vs.length) = ((cs.toList.take vs.length).take off ++ ys ++ (cs.toList.take vs.length).drop (off + ys.length)) := by
              have hcs : vs.length ≤ cs.toList.length := by simpa using hl
              apply List.ext_getElem?
              intro i
              by_cases hi : i < vs.length
              · rw [List.getElem?_take_of_lt hi]
                by_cases h4 : i < off
                · rw [List.append_assoc, List.getElem?_append_left (by simp; omega), List.getElem?_take_of_lt h4, List.append_assoc, List.getElem?_append_left (by simp; omega), List.getElem?_take_of_lt h4, List.getElem?_take_of_lt hi]
                · by_cases h5 : i < off + ys.length
                  · rw [List.getElem?_append_left (by simp; omega), List.getElem?_append_right (by simp; omega), List.getElem?_append_left (by simp; omega), List.getElem?_append_right (by simp; omega)]
                    simp only [List.length_take]
                    congr 1
                    omega
                  · rw [List.getElem?_append_right (by simp; omega), List.getElem?_append_right (by simp; omega), List.getElem?_drop, List.getElem?_drop]
                    simp only [List.length_append, List.length_take]
                    rw [List.getElem?_take_of_lt (by omega)]
                    congr 1
                    omega
              · rw [List.getElem?_eq_none (by simp; omega), List.getElem?_eq_none (by simp; omega)]
            rw [h3]
            exact h2
        · rw [List.getElem?_set_ne hbb] at hb'
          have hne : c ≠ c'.blk := fun hcc => hbb (s.inj b b' _ _ e e' hcc hlive ⟨_, hb', hn⟩)
          obtain ⟨o', ho', hbr⟩ := s.rel b' c' blk e' hb' hn
          exact ⟨o', by rw [setRow_heap_ne hne]; exact ho', hbr⟩
      · refine ⟨⟨by rw [List.length_set]; exact Nat.le_refl _, fun _ _ => rfl, by rw [setRow_size]; exact Nat.le_refl _, fun c' _ hn => setRow_heap_ne (fun hcc => hn b _ hlive e hcc), fun b' c' e' hr => setRow_heap_ne (fun hcc => ?_), fun b' hr => ?_, fun b' c' hb' e' => absurd (s.dom b' c' e') (by omega), fun b' _ hn hl' => hn ((hnew b').1 hl'), ⟨rfl, rfl, rfl⟩⟩, fun b' hb' hl' => absurd ((hnew b').1 hl').lt (by omega)⟩
        · have := s.inj b b' _ _ e e' hcc hlive hr.live
          subst this
          obtain ⟨vs', t', e2⟩ := hr
          rw [hb] at e2
          cases e2
        · by_cases hbb : b = b'
          · subst hbb
            obtain ⟨vs', t', e2⟩ := hr
            rw [hb] at e2
            cases e2
          · exact List.getElem?_set_ne hbb
    · cases hw
  · cases hw

/-! ### A new block -/
def grow (μ : Ren) (b c K : Nat) : Ren := fun x => if x = b then some ⟨c, K⟩ else μ x
theorem grow_le {h : AHeap} {w : World} (s : Sim P μ h w) (c K : Nat) : RenLe μ (grow μ h.length c K) := fun b l e => by
  unfold grow
  rw [if_neg (by have := s.dom b l e; omega)]
  exact e
theorem getElem?_alloc_new (w : World) (o : Obj) : (w.alloc o).heap[w.heap.size]? = some o := by
  show (w.heap.push o)[w.heap.size]? = some o
  simp
theorem getElem?_alloc_old (w : World) (o : Obj) {c : Nat} (h : c < w.heap.size) : (w.alloc o).heap[c]? = w.heap[c]? := by
  show (w.heap.push o)[c]? = w.heap[c]?
  rw [Array.getElem?_push_lt h, ← Array.getElem?_eq_getElem h]
theorem size_alloc' (w : World) (o : Obj) : (w.alloc o).heap.size = w.heap.size + 1 := by
  show (w.heap.push o).size = w.heap.size + 1
  simp
theorem live_append {h : AHeap} {blk : ABlk} {b : Nat} (hb : b < h.length) : live (h ++ [blk]) b ↔ live h b := by
  unfold live
  rw [List.getElem?_append_left hb]
theorem Sim.alloc {h : AHeap} {w w0 : World} (s : Sim P μ h w) (hw : w0.heap = w.heap) (ho : Out w w0) {K : Nat} {blk : ABlk} {o : Obj} (hb : BR P (grow μ h.length w.heap.size K) K blk o) :
    Sim P (grow μ h.length w.heap.size K) (h ++ [blk]) (w0.alloc o) ∧ Ext μ h w (grow μ h.length w.heap.size K) (h ++ [blk]) (w0.alloc o) := by
  have hs : w0.heap.size = w.heap.size := by rw [hw]
  have hcase : ∀ b l, grow μ h.length w.heap.size K b = some l → (b = h.length ∧ l = ⟨w.heap.size, K⟩) ∨ (b < h.length ∧ l.blk < w.heap.size ∧ μ b = some l) := by
    intro b l e
    unfold grow at e
    split at e
    · rename_i hb'; cases e; exact .inl ⟨hb', rfl⟩
    · exact .inr ⟨s.dom b l e, s.lt b l e, e⟩
  constructor
  · refine ⟨fun b l e => ?_, fun b l blk' e hb' hn => ?_, fun b b' l l' e e' el hl hl' => ?_, fun b l e => ?_⟩
    · rcases hcase b l e with ⟨h0, _⟩ | ⟨h1, _, _⟩ <;> simp <;> omega
    · rcases hcase b l e with ⟨rfl, rfl⟩ | ⟨h1, h2, h3⟩
      · rw [List.getElem?_concat_length] at hb'
        cases hb'
        exact ⟨o, by rw [← hs]; exact getElem?_alloc_new w0 o, hb⟩
      · rw [List.getElem?_append_left h1] at hb'
        obtain ⟨o', ho', hbr⟩ := s.rel b l blk' h3 hb' hn
        exact ⟨o', by rw [getElem?_alloc_old w0 o (by omega), hw]; exact ho', hbr.mono (grow_le s _ _)⟩
    · rcases hcase b l e with ⟨rfl, rfl⟩ | ⟨h1, h2, h3⟩ <;> rcases hcase b' l' e' with ⟨rfl, rfl⟩ | ⟨h1', h2', h3'⟩
      · rfl
      · simp only at el; omega
      · simp only at el; omega
      · exact s.inj b b' l l' h3 h3' el ((live_append h1).1 hl) ((live_append h1').1 hl')
    · rw [size_alloc', hs]
      rcases hcase b l e with ⟨_, rfl⟩ | ⟨_, h2, _⟩
      · exact Nat.lt_succ_self _
      · omega
  · refine ⟨⟨by simp, fun b hb' => ?_, by rw [size_alloc', hs]; omega, fun c hc _ => by rw [getElem?_alloc_old w0 o (by omega), hw], fun b l e _ => by rw [getElem?_alloc_old w0 o (by have := s.lt b l e; omega), hw], fun b hr => List.getElem?_append_left hr.live.lt, fun b l hb' e => ?_, fun b hb' hn hl => hn ((live_append hb').1 hl), ho⟩, fun b hb' hl => ⟨⟨w.heap.size, K⟩, by have := hl.lt; simp only [List.length_append, List.length_singleton] at this; unfold grow; rw [if_pos (by omega)]⟩⟩
    · unfold grow; rw [if_neg (by omega)]
    · rcases hcase b l e with ⟨_, rfl⟩ | ⟨h1, _, _⟩
      · exact .inl (Nat.le_refl _)
      · omega
theorem grow_new (b c K : Nat) : grow μ b c K b = some ⟨c, K⟩ := by simp [grow]

theorem loadf_sound {agg : Bool} {n : Nat} {x x' v : Value} {h : AHeap} {w : World} (s : Sim P μ h w) (hx : VR μ x x') (hv : loadf agg n x h = some v)
    {t : TypeId} {d : TypeDesc} {i : TypeInfo} (ht : P.underlying t = some d) (hi : P.info? t = some i) (ha : isAggD d = agg) (hn : i.size = n) :
    ∃ v', (Instr.loadAt t x').run P w = .ok v' w ∧ VR μ v v' := by
  unfold loadf at hv
  split at hv
  · cases hx with
    | @ptr b c K o e =>
      simp only [Instr.loadAt, Instr.sureAddr, Sem.run_bind, Sem.run_pure, Result.andThen_ok, loadVar, run_isAgg' ht, ha]
      cases agg with
      | true =>
        simp only [Option.map_eq_some_iff] at hv
        obtain ⟨l, hl, rfl⟩ := hv
        obtain ⟨hlen, ys, hys, hc⟩ := readN_sim s e hl
        have hyl : ys.length = n := by rw [← hys.length, hlen]
        have := run_loadCells_list (P := P) w ⟨c, o, none⟩ ys (fun j v hj => by rw [addr_add]; exact hc j v hj)
        rw [hyl] at this
        exact ⟨.agg ys.toArray, by simp [run_sizeOf' hi, hn, this], .agg hys⟩
      | false =>
        obtain ⟨y, hy, hr⟩ := readC_sim s e hv
        exact ⟨y, by simp [hy], hr⟩
  · cases hv

theorem storef_sound {n : Nat} {x x' v v' : Value} {h h' : AHeap} {w : World} (s : Sim P μ h w) (hx : VR μ x x') (hv : VR μ v v') (hs : storef n x v h = some h')
    {t : TypeId} {i : TypeInfo} (hi : P.info? t = some i) (hn : i.size = n) (h0 : 0 < n) :
    ∃ w', (Instr.storeAt t x' v').run P w = .ok () w' ∧ Sim P μ h' w' ∧ Ext μ h w μ h' w' := by
  unfold storef at hs
  split at hs
  · rename_i a
    cases hx with
    | ptr e =>
      split at hs
      · rename_i hlen
        have hcs := hv.cells_of (by omega)
        obtain ⟨w', hrun, h1, h2⟩ := writeN_sound (P := P) s e hcs hs
        refine ⟨w', ?_, h1, h2⟩
        have hsz : v'.cells.size = i.size := by
          have := hcs.length
          rw [hlen] at this
          rw [hn, this]
          simp
        simp only [Instr.storeAt, Instr.sureAddr, Sem.run_bind, Sem.run_pure, Result.andThen_ok, storeVar, run_sizeOf' hi, hsz, ne_eq, not_true_eq_false, if_false]
        simpa using hrun
      · cases hs
  · cases hs

end Go.Am
