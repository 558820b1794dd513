/- The machine (MaB): parts of one text. -/
import Derived.Test.YtaacaogceplhoaaMaA
import Derived.Laws.BitsLemmas
import Derived.Laws.BytesString
import Derived.RangeFuncLeaves
import Derived.RangeFuncRecord
import Derived.Great.BuildSlice
set_option linter.unusedSimpArgs false
set_option linter.unusedVariables false
/- Literals, make, append, copy, bytes to a string. -/
namespace Go.Am
variable {P : Program} {μ : Ren} {w : World}

theorem fold_set : ∀ (l : List Value) (k off : Nat) (cs : Array Value), off + k + l.length ≤ cs.size →
    (l.zipIdx k).foldl (fun cs (p : Value × Nat) => cs.setIfInBounds (off + p.2) p.1) cs = (cs.toList.take (off + k) ++ l ++ cs.toList.drop (off + k + l.length)).toArray
  | [], k, off, cs, _ => by simp
  | x :: l, k, off, cs, h => by
    simp only [List.length_cons] at h
    simp only [List.zipIdx_cons, List.foldl_cons]
    rw [fold_set l (k + 1) off _ (by simp; omega)]
    apply Array.ext'
    simp only [Array.toList_setIfInBounds, List.length_cons]
    have hlt : off + k < cs.toList.length := by simp; omega
    apply List.ext_getElem?
    intro i
    by_cases h1 : i < off + k
    · rw [List.append_assoc, List.getElem?_append_left (by simp; omega), List.getElem?_take_of_lt (by omega), List.getElem?_set_ne (by omega), List.append_assoc, List.getElem?_append_left (by simp; omega), List.getElem?_take_of_lt h1]
    · by_cases h2 : i = off + k
      · subst h2
        rw [List.append_assoc, List.getElem?_append_left (by simp; omega), List.getElem?_take_of_lt (by omega), List.getElem?_set_self hlt, List.append_assoc, List.getElem?_append_right (by simp; omega)]
        simp only [List.length_take]
        rw [show off + k - min (off + k) cs.toList.length = 0 from by omega]
        rfl
      · by_cases h3 : i < off + k + 1 + l.length
        · rw [List.getElem?_append_left (by simp; omega), List.getElem?_append_right (by simp; omega), List.getElem?_append_left (by simp; omega), List.getElem?_append_right (by simp; omega)]
          simp only [List.length_take, List.length_set]
          rw [show i - min (off + k) cs.toList.length = (i - min (off + (k + 1)) cs.toList.length) + 1 from by omega, List.getElem?_cons_succ]
        · rw [List.getElem?_append_right (by simp; omega), List.getElem?_append_right (by simp; omega), List.getElem?_drop, List.getElem?_drop, List.getElem?_set_ne (by simp; omega)]
          congr 1
          simp only [List.length_append, List.length_take, List.length_set, List.length_cons]
          omega
/-- Parts by their places. -/
def PartsR (μ : Ren) (place : Nat → Option (Nat × Nat)) : List (Nat × Nat × Value) → List (Nat × Value) → Prop
  | [], [] => True
  | (off, size, v) :: ps, (i, v') :: qs => place i = some (off, size) ∧ 0 < size ∧ VR μ v v' ∧ PartsR μ place ps qs
  | _, _ => False
theorem fillf_sound {place : Nat → Option (Nat × Nat)} : ∀ {ps : List (Nat × Nat × Value)} {qs : List (Nat × Value)} {cells l : List Value} {cs : Array Value},
    PartsR μ place ps qs → VRL μ cells cs.toList → fillf cells ps = some l → ∃ cs', Instr.fill place cs qs = some cs' ∧ VRL μ l cs'.toList
  | [], [], cells, l, cs, _, hc, h => by cases h; exact ⟨cs, rfl, hc⟩
  | [], _ :: _, _, _, _, hp, _, _ => hp.elim
  | _ :: _, [], _, _, _, hp, _, _ => hp.elim
  | (off, size, v) :: ps, (i, v') :: qs, cells, l, cs, hp, hc, h => by
    obtain ⟨h1, h2, h3, h4⟩ := hp
    simp only [fillf] at h
    split at h
    · rename_i hh
      have hcs := h3.cells_of (by omega)
      have hl := hcs.length
      have hcl : cells.length = cs.size := by have := hc.length; simpa using this
      have hsz : v'.cells.size = size := by rw [← hh.1, hl]; simp
      have hfold : v'.cells.zipIdx.foldl (fun cs (p : Value × Nat) => cs.setIfInBounds (off + p.2) p.1) cs = (cs.toList.take off ++ v'.cells.toList ++ cs.toList.drop (off + size)).toArray := by
        rw [← Array.foldl_toList, Array.toList_zipIdx, fold_set _ 0 off cs (by simp; omega)]
        simp [hsz]
      have hnew : VRL μ (cells.take off ++ cellsL v ++ cells.drop (off + size)) (cs.toList.take off ++ v'.cells.toList ++ cs.toList.drop (off + size)) :=
        ((hc.take off).append hcs).append (hc.drop _)
      obtain ⟨cs', hf, hr⟩ := fillf_sound (cs := (cs.toList.take off ++ v'.cells.toList ++ cs.toList.drop (off + size)).toArray) h4 hnew h
      refine ⟨cs', ?_, hr⟩
      simp only [Instr.fill, h1]
      rw [if_neg (by simp [hsz]; omega)]
      exact (congrArg (fun z => Instr.fill place z qs) hfold).trans hf
    · cases h

theorem rep_length (zero : List Value) (n : Nat) : (rep zero n).length = n * zero.length := by
  induction n with
  | zero => simp [rep]
  | succ n ih => simp [rep, ih, Nat.succ_mul, Nat.add_comm]
theorem rep_eq (zero : Array Value) (n : Nat) : ((Array.range (n * zero.size)).map (zero[· % zero.size]!)).toList = rep zero.toList n := by
  simp only [Array.toList_map, Array.toList_range]
  induction n with
  | zero => simp [rep]
  | succ n ih =>
    have hr : List.range ((n + 1) * zero.size) = List.range zero.size ++ (List.range (n * zero.size)).map (zero.size + ·) := by
      rw [show (n + 1) * zero.size = zero.size + n * zero.size from by rw [Nat.succ_mul, Nat.add_comm], List.range_add]
    rw [hr, List.map_append, List.map_map, rep]
    congr 1
    · apply List.ext_getElem
      · simp
      · intro i h1 h2
        have h3 : i < zero.size := by simpa using h1
        simp [Nat.mod_eq_of_lt h3, h3]
    · rw [← ih]
      apply List.map_congr_left
      intro i _
      simp only [Function.comp]
      rw [Nat.add_mod_left]

theorem VRL.of_noRef1 {l : List Value} (h : l.all noRef1 = true) : VRL μ l l := VRL.of_all (fun _ => VR.of_noRef1) h
theorem VRL.rep {zero : List Value} (h : VRL μ zero zero) (n : Nat) : VRL μ (rep zero n) (rep zero n) := by
  induction n with
  | zero => exact .nil
  | succ n ih => exact h.append ih

theorem mkSlicef_sound {elem : TypeId} {zero : List Value} {n n' c c' : Value} {h : AHeap} {v : Value} {h1 : AHeap} (s : Sim P μ h w) (hn : VR μ n n') (hc : VR μ c c')
    (hm : mkSlicef elem zero n c h = some (v, h1)) {t : TypeId} {i : TypeInfo} {z : Value} (ht : P.underlying t = some (.slice elem)) (hi : P.info? elem = some i) (hz : i.zero = some z)
    (hzc : z.cells.toList = zero) (hzs : z.cells.size = i.size) (hb : i.bytes ≤ 16384) (href : zero.all noRef1 = true) :
    ∃ v' w1 μ1, (Instr.makeSlice t n' c').run P w = .ok v' w1 ∧ VR μ1 v v' ∧ Sim P μ1 h1 w1 ∧ Ext μ h w μ1 h1 w1 := by
  unfold mkSlicef at hm
  split at hm
  · rename_i a b
    cases hn
    cases hc
    split at hm
    · rename_i hab
      cases hm
      simp only [mostLen] at hab
      have hcell : P.cellsOf elem = i.size := by simp [Program.cellsOf, hi]
      have hrep : ((Array.range (b.toNat * i.size)).map (z.cells[· % z.cells.size]!)).toList = rep zero b.toNat := by
        rw [← hzs, ← hzc]
        exact rep_eq _ _
      have hlen : ((Array.range (b.toNat * i.size)).map (z.cells[· % z.cells.size]!)).size = b.toNat * i.size := by simp
      have hbr : BR P (grow μ h.length w.heap.size 0) 0 (.cells (rep zero b.toNat) elem true) (.cells ((Array.range (b.toNat * i.size)).map (z.cells[· % z.cells.size]!)) elem (0, 0)) := by
        refine ⟨_, _, rfl, ?_, ?_, fun _ => rfl, by omega⟩
        · rw [hlen, rep_length, ← hzc]
          simp [hzs]
        · rw [hrep, List.take_length]
          exact (VRL.of_noRef1 href).rep _
      obtain ⟨h2, h3⟩ := s.alloc (w0 := w) rfl Out.rfl hbr
      have hwa : IntKind.i64.wrap a = a := by rw [IntKind.wrap_i64]; omega
      have hwb : IntKind.i64.wrap b = b := by rw [IntKind.wrap_i64]; omega
      refine ⟨.slice (some ⟨w.heap.size, 0, none⟩) a.toNat b.toNat, _, _, ?_, .sl (grow_new _ _ _) (.inl ⟨by unfold capU; omega, rfl⟩), h2, h3⟩
      have hbig : ¬ ((i.bytes : Int) * b > 2 ^ 48) := by
        have : (i.bytes : Int) * b ≤ 16384 * 4294967296 := by
          apply Int.mul_le_mul <;> omega
        omega
      simp only [Instr.makeSlice, Sem.run_bind, run_underlying' ht, asInt, asIntOf, Sem.run_pure, Result.andThen_ok, run_typeInfo' hi, hwa, hwb]
      have hcond : ((decide (b < 0) || decide ((i.bytes : Int) * b > 2 ^ 48)) || decide (a < 0) || decide (a > b)) = false := by
        simp only [Bool.or_eq_false_iff, decide_eq_false_iff_not]
        exact ⟨⟨⟨by omega, hbig⟩, by omega⟩, by omega⟩
      rw [hcond]
      simp only [Bool.false_eq_true, if_false, Sem.run_bind, run_askRoom, Result.andThen_ok, run_sizeOf' hi]
      by_cases h0 : b.toNat * i.size = 0
      · rw [if_pos h0]
        simp only [Sem.run_bind, Sem.run_pure, Result.andThen_ok, newRow, run_newObj]
        have hsame : (Array.range (b.toNat * i.size)).map (fun x => (#[] : Array Value)[x % (#[] : Array Value).size]!) = (Array.range (b.toNat * i.size)).map (z.cells[· % z.cells.size]!) := by
          rw [h0]; apply Array.ext'; simp
        rw [hsame]
        rfl
      · rw [if_neg h0]
        simp only [Sem.run_bind, run_zeroValue' hi hz, Sem.run_pure, Result.andThen_ok, newRow, run_newObj]
        rfl
    · cases hm
  · cases hm

/-! ### The first elements of a slice or a string -/
theorem cell_of_heap {w0 w : World} (e : w0.heap = w.heap) (a : Addr) : w0.cell? a = w.cell? a := by simp only [World.cell?, e]
theorem firstf_sound {size n : Nat} {x x' : Value} {h : AHeap} {l : List Value} (s : Sim P μ h w) (hx : VR μ x x') (hf : firstf size n x h = some l) :
    ∃ ys : Array Value, (∀ w0 : World, w0.heap = w.heap → (Builtin.firstCells size n x').run P w0 = .ok ys w0) ∧ VRL μ l ys.toList ∧ l.length = n * size := by
  unfold firstf at hf
  split at hf
  · rename_i a m c
    split at hf
    · rename_i hn0
      cases hf
      subst hn0
      cases hx with
      | sl => exact ⟨#[], fun w0 _ => by simp [Builtin.firstCells, loadCells, loadCellsFrom], .nil, by simp⟩
      | sl0 => exact ⟨#[], fun w0 _ => by simp [Builtin.firstCells, loadCells, loadCellsFrom], .nil, by simp⟩
      | sl00 => exact ⟨#[], fun w0 _ => by simp [Builtin.firstCells, loadCells, loadCellsFrom], .nil, by simp⟩
    rename_i hn00
    split at hf
    · rename_i hnm
      have hlen : l.length = n * size := by
        unfold readN at hf
        split at hf
        · split at hf
          · cases hf; simp; omega
          · cases hf
        · cases hf
      cases hx with
      | @sl b c0 K o _ _ m' e _ =>
        obtain ⟨_, ys, hys, hc⟩ := readN_sim s e hf
        have hyl : ys.length = n * size := by rw [← hys.length, hlen]
        refine ⟨ys.toArray, fun w0 e0 => ?_, hys, hlen⟩
        have := run_loadCells_list (P := P) w0 ⟨c0, o, none⟩ ys (fun j v hj => by rw [addr_add, cell_of_heap e0]; exact hc j v hj)
        rw [hyl] at this
        simp [Builtin.firstCells, this]
      | sl0 a a' m' =>
        have hn0 : n = 0 := by omega
        subst hn0
        have hl : l = [] := by rw [Nat.zero_mul] at hlen; exact List.eq_nil_of_length_eq_zero hlen
        subst hl
        exact ⟨#[], fun w0 _ => by simp [Builtin.firstCells, loadCells, loadCellsFrom], .nil, hlen⟩
      | sl00 a a' =>
        have hn0 : n = 0 := by omega
        subst hn0
        have hl : l = [] := by rw [Nat.zero_mul] at hlen; exact List.eq_nil_of_length_eq_zero hlen
        subst hl
        exact ⟨#[], fun w0 _ => by simp [Builtin.firstCells, loadCells, loadCellsFrom], .nil, hlen⟩
    · cases hf
  · cases hx with
    | slNil =>
      split at hf
      · rename_i hn0
        cases hf
        subst hn0
        exact ⟨#[], fun w0 _ => rfl, .nil, by simp⟩
      · cases hf
  · rename_i st
    cases hx
    split at hf
    · rename_i hc
      cases hf
      refine ⟨(st.extract 0 n).data.map fun b => .int .u8 b.toNat, fun w0 _ => rfl, ?_, ?_⟩
      · rw [Array.toList_map]
        refine VRL.of_noRef1 (List.all_eq_true.2 fun v hv => ?_)
        obtain ⟨b, _, rfl⟩ := List.mem_map.1 hv
        rfl
      · rw [List.length_map, hc.1, Nat.mul_one]
        have : (st.extract 0 n).size = n := by rw [ByteArray.size_extract]; omega
        exact this
    · cases hf
  · cases hf
theorem lenOf_sound {x x' : Value} {m : Nat} (hx : VR μ x x') (h : lenOf x = some m) : (Builtin.lenOf x').run P w = .ok m w := by
  unfold lenOf at h
  split at h <;> first
    | (cases h; cases hx <;> rfl)
    | cases h

theorem nextslicecap_le {need cap : Nat} (h : cap < need) : Builtin.nextslicecap need cap ≤ 2 * need + 1024 := by
  have hg : ∀ r c, c ≤ 2 * need + 1024 → Builtin.growBy need r c ≤ 2 * need + 1024 := by
    intro r
    induction r with
    | zero => intro c hc; exact hc
    | succ r ih =>
      intro c hc
      simp only [Builtin.growBy]
      split
      · exact hc
      · exact ih _ (by omega)
  unfold Builtin.nextslicecap
  split
  · omega
  · split
    · omega
    · exact hg 4 cap (by omega)

/-- A block takes another one's place: the elder is given up. -/
theorem Sim.kill {h : AHeap} {w w1 : World} {b c K : Nat} {blk : ABlk} {o : Obj} (s : Sim P μ h w) (e : μ b = some ⟨c, K⟩) (hl : live h b) (hro : ¬ isRo h b)
    (hw : w1.heap[c]? = some o) (hoth : ∀ d, d ≠ c → w1.heap[d]? = w.heap[d]?) (hsz : w1.heap.size = w.heap.size) (ho : Out w w1) (hb : BR P (grow μ h.length c K) K blk o) :
    Sim P (grow μ h.length c K) (h.set b .dead ++ [blk]) w1 ∧ Ext μ h w (grow μ h.length c K) (h.set b .dead ++ [blk]) w1 := by
  have hlen : (h.set b .dead).length = h.length := List.length_set
  have hcase : ∀ b' l, grow μ h.length c K b' = some l → (b' = h.length ∧ l = ⟨c, K⟩) ∨ (b' < h.length ∧ μ b' = some l) := by
    intro b' l e'
    unfold grow at e'
    split at e'
    · rename_i hb'; cases e'; exact .inl ⟨hb', rfl⟩
    · exact .inr ⟨s.dom b' l e', e'⟩
  have hold : ∀ b', b' < h.length → (h.set b .dead ++ [blk])[b']? = if b = b' then some .dead else h[b']? := by
    intro b' hb'
    rw [List.getElem?_append_left (by rw [hlen]; exact hb')]
    split
    · rename_i hbb; subst hbb; rw [List.getElem?_set_self hb']
    · rename_i hbb; rw [List.getElem?_set_ne hbb]
  have hlive : ∀ b', b' < h.length → live (h.set b .dead ++ [blk]) b' → live h b' ∧ b ≠ b' := by
    rintro b' hb' ⟨x, hx, hn⟩
    rw [hold b' hb'] at hx
    split at hx
    · cases hx; exact absurd rfl hn
    · rename_i hbb; exact ⟨⟨x, hx, hn⟩, hbb⟩
  constructor
  · refine ⟨fun b' l e' => ?_, fun b' l blk' e' hb' hn => ?_, fun b1 b2 l1 l2 e1 e2 el h1 h2 => ?_, fun b' l e' => ?_⟩
    · rcases hcase b' l e' with ⟨h0, _⟩ | ⟨h1, _⟩ <;> simp <;> omega
    · rcases hcase b' l e' with ⟨rfl, rfl⟩ | ⟨h1, h2⟩
      · rw [← hlen, List.getElem?_concat_length] at hb'
        cases hb'
        exact ⟨o, hw, hb⟩
      · have hl' := hlive b' h1 ⟨_, hb', hn⟩
        rw [hold b' h1, if_neg hl'.2] at hb'
        obtain ⟨o', ho', hbr⟩ := s.rel b' l blk' h2 hb' hn
        have hne : l.blk ≠ c := fun hc => hl'.2 (s.inj b b' _ l e h2 hc.symm hl hl'.1)
        exact ⟨o', by rw [hoth _ hne]; exact ho', hbr.mono (grow_le s _ _)⟩
    · rcases hcase b1 l1 e1 with ⟨rfl, rfl⟩ | ⟨h1', h3⟩ <;> rcases hcase b2 l2 e2 with ⟨rfl, rfl⟩ | ⟨h2', h4⟩
      · rfl
      · have := hlive b2 h2' h2
        exact absurd (s.inj b b2 _ _ e h4 el hl this.1) this.2
      · have := hlive b1 h1' h1
        exact absurd (s.inj b b1 _ _ e h3 el.symm hl this.1) this.2
      · exact s.inj b1 b2 l1 l2 h3 h4 el (hlive b1 h1' h1).1 (hlive b2 h2' h2).1
    · rw [hsz]
      rcases hcase b' l e' with ⟨_, rfl⟩ | ⟨_, h2⟩
      · exact s.lt b _ e
      · exact s.lt b' l h2
  · refine ⟨⟨by simp, fun b' hb' => ?_, by omega, fun c' _ hn => hoth c' (fun hc => hn b _ hl e hc.symm), fun b' l e' hr => hoth _ (fun hc => ?_), fun b' hr => ?_, fun b' l hb' e' => ?_, fun b' hb' hn hl' => hn (hlive b' hb' hl').1, ho⟩, fun b' hb' hl' => ⟨⟨c, K⟩, by have := hl'.lt; simp only [List.length_append, List.length_singleton, List.length_set] at this; unfold grow; rw [if_pos (by omega)]⟩⟩
    · unfold grow; rw [if_neg (by omega)]
    · have := s.inj b' b l _ e' e hc hr.live hl
      subst this
      exact hro hr
    · rw [hold b' hr.live.lt, if_neg]
      rintro rfl
      exact hro hr
    · rcases hcase b' l e' with ⟨_, rfl⟩ | ⟨h1, _⟩
      · refine .inr ⟨b, _, hl, hro, e, rfl, fun hl' => (hlive b hl.lt hl').2 rfl⟩
      · omega

/-- A block that can be written is given up. -/
theorem Sim.giveUp {h : AHeap} {b : Nat} (s : Sim P μ h w) (hro : ¬ isRo h b) : Sim P μ (h.set b .dead) w ∧ Ext μ h w μ (h.set b .dead) w := by
  have hold : ∀ b', b' < h.length → (h.set b .dead)[b']? = if b = b' then some .dead else h[b']? := by
    intro b' hb'
    split
    · rename_i hbb; subst hbb; rw [List.getElem?_set_self hb']
    · rename_i hbb; rw [List.getElem?_set_ne hbb]
  have hlive : ∀ b', live (h.set b .dead) b' → live h b' := by
    rintro b' ⟨x, hx, hn⟩
    have hb' : b' < h.length := by have := (List.getElem?_eq_some_iff.1 hx).1; simpa using this
    rw [hold b' hb'] at hx
    split at hx
    · cases hx; exact absurd rfl hn
    · exact ⟨x, hx, hn⟩
  constructor
  · refine ⟨fun b' l e => by rw [List.length_set]; exact s.dom b' l e, fun b' l blk e hb' hn => ?_, fun b1 b2 l1 l2 e1 e2 el h1 h2 => s.inj b1 b2 l1 l2 e1 e2 el (hlive b1 h1) (hlive b2 h2), s.lt⟩
    rw [hold b' (s.dom b' l e)] at hb'
    split at hb'
    · cases hb'; exact absurd rfl hn
    · exact s.rel b' l blk e hb' hn
  · refine ⟨⟨by simp, fun _ _ => rfl, Nat.le_refl _, fun _ _ _ => rfl, fun _ _ _ _ => rfl, fun b' hr => ?_, fun b' l hb' e => absurd (s.dom b' l e) (by omega), fun b' _ hn hl' => hn (hlive b' hl'), Out.rfl⟩, fun b' hb' hl' => absurd (hlive b' hl').lt (by omega)⟩
    rw [hold b' hr.live.lt, if_neg]
    rintro rfl
    exact hro hr

theorem append_room {size n m c' : Nat} {a' : Option Addr} {y' : Value} {ys : Array Value} {elem ty st xt : TypeId} {i : TypeInfo} {dx : TypeDesc} (hst : P.underlying st = some (.slice elem)) (hxt : P.underlying xt = some dx) (hdx : ∀ k, dx ≠ .int k)
    (hi : P.info? elem = some i) (hsz : i.size = size) (hlen : (Builtin.lenOf y').run P w = .ok m w) (hys : (Builtin.firstCells size m y').run P w = .ok ys w) (hroom : n + m ≤ c') :
    (Builtin.append_ #[st, xt] ty #[.slice a' n c', y']).run P w =
      (match a' with | some a => (storeCells (a.add (n * size)) ys.toList).run P w | none => .ok () w).andThen fun _ w' => .ok (.slice a' (n + m) c') w' := by
  have hz : (dx matches .int _) = false := by cases dx <;> first | rfl | exact absurd rfl (hdx _)
  simp only [Builtin.append_, List.getElem?_toArray, List.getElem?_cons_zero, List.getElem?_cons_succ, Sem.run_bind, run_underlying' hst, run_underlying' hxt, run_sizeOf' hi, hsz, Result.andThen_ok, Sem.run_pure, hz, Bool.false_eq_true, if_false, hlen, hroom, if_true, Bool.not_false, hys]
  cases a' with
  | none => simp
  | some a => simp
theorem append_grow {size n m c' : Nat} {a' : Option Addr} {y' : Value} {ys olds : Array Value} {elem ty st xt : TypeId} {i : TypeInfo} {z : Value} {dx : TypeDesc} (hst : P.underlying st = some (.slice elem)) (hxt : P.underlying xt = some dx) (hdx : ∀ k, dx ≠ .int k)
    (hi : P.info? elem = some i) (hsz : i.size = size) (hz : i.zero = some z) (hb' : i.bytes ≤ 16384) (hlen : (Builtin.lenOf y').run P w = .ok m w)
    (hys : ∀ w0 : World, w0.heap = w.heap → (Builtin.firstCells size m y').run P w0 = .ok ys w0) (hold : ∀ w0 : World, w0.heap = w.heap → (Builtin.firstCells size n (.slice a' n c')).run P w0 = .ok olds w0)
    (hroom : c' < n + m) (hmost : n + m ≤ mostLen) :
    ∃ cap, n + m ≤ cap ∧ (Builtin.append_ #[st, xt] ty #[.slice a' n c', y']).run P w =
      .ok (.slice (some ⟨w.heap.size, 0, none⟩) (n + m) cap) (w.drew.alloc (.cells (olds ++ ys ++ Builtin.zeroCells z.cells (cap - (n + m))) elem)) := by
  have hzz : (dx matches .int _) = false := by cases dx <;> first | rfl | exact absurd rfl (hdx _)
  refine ⟨(Question.appendCap (n + m) c' elem).cut (w.tape w.drawn (.appendCap (n + m) c' elem)), ?_, ?_⟩
  · simp only [Question.cut]
    omega
  · have hnc := nextslicecap_le hroom
    unfold mostLen at hmost
    have hbig : ¬ (Builtin.nextslicecap (n + m) c' * i.bytes > 2 ^ 48) := by
      have : Builtin.nextslicecap (n + m) c' * i.bytes ≤ (2 * 4294967296 + 1024) * 16384 := Nat.mul_le_mul (by omega) hb'
      omega
    have hmax : (IntKind.i64.max : Int) = 9223372036854775807 := by decide
    have hneed : ¬ (((n + m : Nat) : Int) > IntKind.i64.max ∧ (False ∨ i.bytes = 0)) := by rw [hmax]; omega
    have hforced : (Question.appendCap (n + m) c' elem).forced = false := rfl
    have hdrew : ({ w with drawn := w.drawn + 1 } : World) = w.drew := rfl
    simp only [Builtin.append_, List.getElem?_toArray, List.getElem?_cons_zero, List.getElem?_cons_succ, Sem.run_bind, run_underlying' hst, run_underlying' hxt, run_sizeOf' hi, hsz, Result.andThen_ok, Sem.run_pure, hzz, Bool.false_eq_true, if_false, hlen,
      show ¬ (n + m ≤ c') from by omega, run_typeInfo' hi, Bool.not_false, if_true]
    rw [if_neg hneed]
    simp only [Sem.run_bind, run_typeInfo' hi, Result.andThen_ok]
    rw [if_neg hbig]
    simp only [Sem.run_bind, run_choose, hforced, Bool.false_eq_true, if_false, hdrew, Result.andThen_ok, run_typeInfo' hi, run_askRoom, hold w.drew rfl, hys w.drew rfl, run_zeroValue' hi hz, newRow, run_newObj, Sem.run_pure]
    rfl

theorem appendc_sound {elem : TypeId} {size m : Nat} {x x' : Value} {new : List Value} {ys : Array Value} {h : AHeap} {v : Value} {h1 : AHeap} (s : Sim P μ h w) (hx : VR μ x x')
    (ha : appendc elem size x m new h = some (v, h1)) {i : TypeInfo} {z : Value} (A : Value → Sem Value) (hvs : VRL μ new ys.toList) (hnl : new.length = m * size)
    (hroom : ∀ (n : Nat) (a' : Option Addr) (c' : Nat), n + m ≤ c' → (A (.slice a' n c')).run P w = (match a' with | some a => (storeCells (a.add (n * size)) ys.toList).run P w | none => .ok () w).andThen fun _ w' => .ok (.slice a' (n + m) c') w')
    (hgrow : ∀ (n : Nat) (a' : Option Addr) (c' : Nat) (olds : Array Value), (∀ w0 : World, w0.heap = w.heap → (Builtin.firstCells size n (.slice a' n c')).run P w0 = .ok olds w0) → c' < n + m → n + m ≤ mostLen →
      ∃ cap, n + m ≤ cap ∧ (A (.slice a' n c')).run P w = .ok (.slice (some ⟨w.heap.size, 0, none⟩) (n + m) cap) (w.drew.alloc (.cells (olds ++ ys ++ Builtin.zeroCells z.cells (cap - (n + m))) elem)))
    (hi : P.info? elem = some i) (hsz : i.size = size) (hz : i.zero = some z) (hzs : z.cells.size = i.size) :
    ∃ v' w1 μ1, (A x').run P w = .ok v' w1 ∧ VR μ1 v v' ∧ Sim P μ1 h1 w1 ∧ Ext μ h w μ1 h1 w1 := by
  have hcell : P.cellsOf elem = size := by simp [Program.cellsOf, hi, hsz]
  have hzl : ∀ k, (Builtin.zeroCells z.cells k).size = k * size := by intro k; simp [Builtin.zeroCells, hzs, hsz]
  unfold appendc at ha
  split at ha
  · rename_i a n c
    replace hroom := hroom n
    -- no elements
    have hm0 : m = 0 → ys = #[] := by
      rintro rfl
      have h2 := hvs.length
      rw [hnl, Nat.zero_mul] at h2
      exact Array.ext' (List.eq_nil_of_length_eq_zero h2.symm)
    have hysl : ys.toList.length = m * size := by rw [← hvs.length, hnl]
    -- a new row, with what was there and what is appended; the elder block is left, or given up
    have hnewrow : ∀ {a' : Option Addr} {c' : Nat}, VR μ (.slice a n c) (.slice a' n c') → ∀ (olds : Array Value) (old : List Value), (∀ w0 : World, w0.heap = w.heap → (Builtin.firstCells size n (.slice a' n c')).run P w0 = .ok olds w0) → VRL μ old olds.toList →
        old.length = n * size → c' < n + m → n + m ≤ mostLen → ∀ {hh : AHeap}, (hh = h ∨ ∃ b l, μ b = some l ∧ live h b ∧ ¬ isRo h b ∧ hh = h.set b .dead) →
        ∃ v' w1 μ1, (A (.slice a' n c')).run P w = .ok v' w1 ∧ VR μ1 (.slice (some ⟨h.length, 0, none⟩) (n + m) capU) v' ∧ Sim P μ1 (hh ++ [.cells (old ++ new) elem true]) w1 ∧ Ext μ h w μ1 (hh ++ [.cells (old ++ new) elem true]) w1 := by
      intro a' c' _ olds old hold hov holn hroom' hmost hh hhh
      obtain ⟨cap, hcap, hg⟩ := hgrow n a' c' olds hold hroom' hmost
      have holds : olds.size = n * size := by have := hov.length; rw [holn] at this; simpa using this.symm
      have hyss : ys.size = m * size := by simpa using hysl
      have hbr : ∀ K', BR P (grow μ h.length w.heap.size K') cap (.cells (old ++ new) elem true) (.cells (olds ++ ys ++ Builtin.zeroCells z.cells (cap - (n + m))) elem (0, 0)) := by
        intro K'
        refine ⟨_, _, rfl, ?_, ?_, fun _ => rfl, ?_⟩
        · simp [holds, hyss, holn, hnl]
        · simp only [Array.toList_append]
          rw [List.append_assoc olds.toList, ← List.append_assoc, List.take_append_of_le_length (by simp [holds, hyss, holn, hnl]), List.take_of_length_le (by simp [holds, hyss, holn, hnl])]
          exact (hov.append hvs).mono (grow_le s _ _)
        · rw [hcell]
          simp only [Array.size_append, holds, hyss, hzl]
          rw [← Nat.add_mul, ← Nat.add_mul]
          exact Nat.le_of_eq (congrArg (· * size) (by omega))
      rcases hhh with rfl | ⟨b, l, hb1, hb2, hb3, rfl⟩
      · obtain ⟨h5, h6⟩ := s.alloc (w0 := w.drew) rfl ⟨rfl, rfl, rfl⟩ (hbr cap)
        refine ⟨_, _, _, hg, .sl (grow_new _ _ _) (.inr ⟨rfl, hcap, fun _ => Nat.le_refl _⟩), h5, h6⟩
      · obtain ⟨s', x'⟩ := s.giveUp hb3
        have hbr' := hbr cap
        rw [← List.length_set (i := b) (a := ABlk.dead)] at hbr'
        obtain ⟨h5, h6⟩ := s'.alloc (w0 := w.drew) rfl ⟨rfl, rfl, rfl⟩ hbr'
        have hg2 := grow_new (μ := μ) (h.set b .dead).length w.heap.size cap
        rw [List.length_set] at hg2 h5 h6
        refine ⟨_, _, _, hg, .sl hg2 (.inr ⟨rfl, hcap, fun _ => Nat.le_refl _⟩), h5, x'.trans h6 s.dom⟩
    by_cases hcU : c = capU
    · subst hcU
      rw [if_pos rfl] at ha
      split at ha
      · rename_i b
        by_cases hmz : m = 0
        · subst hmz
          rw [if_pos rfl] at ha
          cases ha
          have hy0 := hm0 rfl
          subst hy0
          have hst0 : ∀ a : Addr, (storeCells a (#[] : Array Value).toList).run P w = .ok () w := fun a => rfl
          cases hx with
          | @sl _ c0 K _ _ _ c1 e hcap =>
            rcases hcap with ⟨h8, _⟩ | ⟨_, h9, h10⟩
            · omega
            · refine ⟨_, w, μ, ?_, .sl e (.inr ⟨rfl, h9, h10⟩), s, Ext.refl _ _ _ s.dom⟩
              rw [hroom _ _ (by omega)]
              rfl
          | sl0 a1 a2 c1 =>
            refine ⟨_, w, μ, ?_, .sl0 _ a2 c1, s, Ext.refl _ _ _ s.dom⟩
            rw [hroom _ _ (by omega)]
            rfl
        · rw [if_neg hmz] at ha
          split at ha
          · rename_i vs t hb
            split at ha
            · rename_i hc
              cases ha
              obtain ⟨hc1, hc2, rfl, hc4, hc5⟩ := hc
              cases hx with
              | @sl _ c0 K _ _ _ c1 e hcap =>
                rcases hcap with ⟨h8, _⟩ | ⟨_, h9, h10⟩
                · omega
                have hK := h10 rfl
                obtain ⟨o, ho, cs, fr, rfl, hl, hvv, hfr, hKs⟩ := s.rel b _ _ e hb (by simp)
                replace ho : w.heap[c0]? = some (.cells cs t fr) := ho
                have hfr' := hfr rfl
                subst hfr'
                have hlive : live h b := ⟨_, hb, by simp⟩
                have hnro : ¬ isRo h b := by
                  rintro ⟨vs', t', e2⟩
                  rw [hb] at e2
                  cases e2
                rw [hcell] at hKs
                replace hKs : K * size ≤ cs.size := hKs
                by_cases hr : n + m ≤ c1
                · -- in place
                  have hKm : (n + m) * size ≤ cs.size := Nat.le_trans (Nat.mul_le_mul_right _ (show n + m ≤ K from Nat.le_trans hr hK)) hKs
                  rw [Nat.add_mul] at hKm
                  have hrun := run_storeCells_at (P := P) c0 (n * size) t ys.toList 0 cs w ho (by omega) (hvs.oneCell hc5)
                  simp only [Nat.add_zero] at hrun
                  have hbr : BR P (grow μ h.length c0 K) K (.cells (vs.take (n * size) ++ new) t true) (.cells (cs.toList.take (n * size) ++ ys.toList ++ cs.toList.drop (n * size + ys.toList.length)).toArray t (0, 0)) := by
                    have hln := hvs.length
                    refine ⟨_, _, rfl, ?_, ?_, fun _ => rfl, ?_⟩
                    · have h2 : ys.size = m * size := by simpa using hysl
                      simp
                      omega
                    · have h2 : (vs.take (n * size) ++ new).length = n * size + ys.toList.length := by rw [List.length_append, List.length_take, hln]; omega
                      rw [h2]
                      have h3 : (cs.toList.take (n * size) ++ ys.toList ++ cs.toList.drop (n * size + ys.toList.length)).take (n * size + ys.toList.length) = cs.toList.take (n * size) ++ ys.toList := by
                        rw [List.take_append_of_le_length (by simp; omega), List.take_of_length_le (by simp; omega)]
                      simp only [List.toList_toArray]
                      rw [h3]
                      have h4 := (hvv.take (n * size)).append hvs
                      rw [List.take_take, Nat.min_eq_left hc1] at h4
                      exact h4.mono (grow_le s _ _)
                    · rw [hcell]
                      simp
                      omega
                  obtain ⟨h5, h6⟩ := Sim.kill s e hlive hnro (setRow_heap_self ho) (fun d hd => setRow_heap_ne (Ne.symm hd)) (setRow_size _ _ _) ⟨rfl, rfl, rfl⟩ hbr
                  refine ⟨_, _, _, ?_, .sl (grow_new _ _ _) (.inr ⟨rfl, hr, fun _ => hK⟩), h5, h6⟩
                  rw [hroom _ _ hr]
                  simp only [addr_add, Nat.zero_add, hrun, Result.andThen_ok]
                · -- a new row
                  exact hnewrow (.sl e (.inr ⟨rfl, h9, h10⟩)) (cs.toList.take (n * size)).toArray (vs.take (n * size)) (fun w0 e0 => by
                    have h2 := run_loadCells_list (P := P) w0 ⟨c0, 0, none⟩ (cs.toList.take (n * size)) (fun j v hj => by
                      have hj' : j < n * size := by
                        have h7 := (List.getElem?_eq_some_iff.1 hj).1
                        rw [List.length_take] at h7
                        omega
                      rw [List.getElem?_take_of_lt hj'] at hj
                      rw [addr_add, cell_of_heap e0]
                      simp only [World.cell?, ho, Option.isSome_none, Bool.false_eq_true, if_false, Nat.zero_add]
                      simpa using hj)
                    rw [show (cs.toList.take (n * size)).length = n * size from by simp; omega] at h2
                    simpa [Builtin.firstCells] using h2) (by
                    have h4 := hvv.take (n * size)
                    rw [List.take_take, Nat.min_eq_left hc1] at h4
                    exact h4) (by simp; omega) (by omega) hc2 (.inr ⟨b, _, e, hlive, hnro, rfl⟩)
              | sl0 a1 a2 c1 => omega
            · cases ha
          · cases ha
      · cases ha
    · rw [if_neg hcU] at ha
      split at ha
      · rename_i hroomA
        -- a capacity that is known, and room
        split at ha
        · rename_i a
          rw [Option.map_eq_some_iff] at ha
          obtain ⟨h2, hw2, ha⟩ := ha
          cases ha
          by_cases hmz : m = 0
          · subst hmz
            rw [if_pos rfl] at hw2
            cases hw2
            have hy0 := hm0 rfl
            subst hy0
            cases hx with
            | @sl b c0 K o _ _ c1 e hcap =>
              rcases hcap with ⟨h8, rfl⟩ | ⟨h8, _⟩
              · refine ⟨_, w, μ, ?_, .sl e (.inl ⟨h8, rfl⟩), s, Ext.refl _ _ _ s.dom⟩
                rw [hroom _ _ hroomA]
                rfl
              · exact absurd h8 hcU
            | sl0 => exact absurd rfl hcU
            | sl00 a1 a2 =>
              refine ⟨_, w, μ, ?_, .sl00 _ a2, s, Ext.refl _ _ _ s.dom⟩
              rw [hroom _ _ hroomA]
              rfl
          · rw [if_neg hmz] at hw2
            cases hx with
            | @sl b c0 K o _ _ c1 e hcap =>
              rcases hcap with ⟨h8, rfl⟩ | ⟨h8, _⟩
              · obtain ⟨w2, hr2, h5, h6⟩ := writeN_sound (P := P) s e hvs hw2
                refine ⟨_, w2, μ, ?_, .sl e (.inl ⟨h8, rfl⟩), h5, h6⟩
                rw [hroom _ _ hroomA]
                simp only [addr_add, hr2, Result.andThen_ok]
              · exact absurd h8 hcU
            | sl0 => exact absurd rfl hcU
            | sl00 a1 a2 => omega
        · cases hx with
          | slNil =>
            split at ha
            · rename_i hmz
              cases ha
              subst hmz
              refine ⟨_, w, μ, ?_, .slNil, s, Ext.refl _ _ _ s.dom⟩
              rw [hroom _ _ (by omega)]
              rfl
            · cases ha
      · rename_i hroomA
        split at ha
        · rename_i hmost
          rw [Option.map_eq_some_iff] at ha
          obtain ⟨old, hold, ha⟩ := ha
          cases ha
          obtain ⟨olds, holds, hov, hol⟩ := firstf_sound s hx hold
          cases hx with
          | slNil => exact hnewrow .slNil olds old holds hov hol (by omega) hmost (.inl rfl)
          | @sl b c0 K o _ _ c1 e hcap =>
            rcases hcap with ⟨h8, rfl⟩ | ⟨h8, _⟩
            · exact hnewrow (.sl e (.inl ⟨h8, rfl⟩)) olds old holds hov hol (by omega) hmost (.inl rfl)
            · exact absurd h8 hcU
          | sl0 => exact absurd rfl hcU
          | sl00 a1 a2 => exact hnewrow (.sl00 a1 a2) olds old holds hov hol (by omega) hmost (.inl rfl)
        · cases ha
  · cases ha

theorem appendf_sound {elem : TypeId} {size : Nat} {x x' y y' : Value} {h : AHeap} {v : Value} {h1 : AHeap} (s : Sim P μ h w) (hx : VR μ x x') (hy : VR μ y y')
    (ha : appendf elem size x y h = some (v, h1)) {ty st xt : TypeId} {i : TypeInfo} {z : Value} {dx : TypeDesc} (hst : P.underlying st = some (.slice elem)) (hxt : P.underlying xt = some dx) (hdx : ∀ k, dx ≠ .int k)
    (hi : P.info? elem = some i) (hsz : i.size = size) (hz : i.zero = some z) (hzs : z.cells.size = i.size) (hb' : i.bytes ≤ 16384) :
    ∃ v' w1 μ1, (Builtin.append_ #[st, xt] ty #[x', y']).run P w = .ok v' w1 ∧ VR μ1 v v' ∧ Sim P μ1 h1 w1 ∧ Ext μ h w μ1 h1 w1 := by
  unfold appendf at ha
  simp only [Option.bind_eq_some_iff] at ha
  obtain ⟨m, hm, new, hnew, ha⟩ := ha
  obtain ⟨ys, hys, hvs, hnl⟩ := firstf_sound s hy hnew
  have hlen := lenOf_sound (w := w) (P := P) hy hm
  exact appendc_sound s hx ha (fun x' => Builtin.append_ #[st, xt] ty #[x', y']) hvs hnl (fun n a' c' hr => append_room (P := P) (w := w) (ty := ty) (a' := a') hst hxt hdx hi hsz hlen (hys w rfl) hr)
    (fun n a' c' olds hold hroom' hmost => append_grow (P := P) (w := w) (ty := ty) (a' := a') (olds := olds) hst hxt hdx hi hsz hz hb' hlen hys hold hroom' hmost) hi hsz hz hzs
theorem copyf_sound {size : Nat} {d d' x x' v : Value} {h h1 : AHeap} (s : Sim P μ h w) (hd : VR μ d d') (hx : VR μ x x') (hc : copyf size d x h = some (v, h1))
    {ty dt xt elem : TypeId} {i : TypeInfo} (hdt : P.underlying dt = some (.slice elem)) (hi : P.info? elem = some i) (hsz : i.size = size) :
    ∃ w1, (Builtin.copy_ #[dt, xt] ty #[d', x']).run P w = .ok v w1 ∧ VR μ v v ∧ Sim P μ h1 w1 ∧ Ext μ h w μ h1 w1 := by
  unfold copyf at hc
  split at hc
  · rename_i a n c
    simp only [Option.bind_eq_some_iff] at hc
    obtain ⟨m, hm, new, hnew, hc⟩ := hc
    obtain ⟨ys, hys, hvs, hnl⟩ := firstf_sound s hx hnew
    have hlen := lenOf_sound (w := w) (P := P) hx hm
    have hrun : ∀ a' c', (Builtin.copy_ #[dt, xt] ty #[.slice a' n c', x']).run P w = (match a' with | some a => (storeCells a ys.toList).run P w | none => .ok () w).andThen fun _ w' => .ok (goInt (Nat.min m n)) w' := by
      intro a' c'
      simp only [Builtin.copy_, List.getElem?_toArray, List.getElem?_cons_zero, List.getElem?_cons_succ, Sem.run_bind, run_underlying' hdt, run_sizeOf' hi, hsz, Result.andThen_ok, Sem.run_pure, hlen, hys w rfl]
      cases a' with
      | none => simp
      | some a => simp
    have hy0 : Nat.min m n = 0 → ys = #[] := by
      intro e
      have h2 := hvs.length
      rw [hnl, e, Nat.zero_mul] at h2
      exact Array.ext' (List.eq_nil_of_length_eq_zero h2.symm)
    split at hc
    · rename_i a
      rw [Option.map_eq_some_iff] at hc
      obtain ⟨h2, hw2, hc⟩ := hc
      cases hc
      by_cases hz : Nat.min m n = 0
      · rw [if_pos hz] at hw2
        cases hw2
        have hy := hy0 hz
        subst hy
        cases hd <;> exact ⟨w, by rw [hrun]; rfl, .int _ _, s, Ext.refl _ _ _ s.dom⟩
      · rw [if_neg hz] at hw2
        cases hd with
        | @sl b c0 K o _ _ c1 e hcap =>
          obtain ⟨w2, hr2, h5, h6⟩ := writeN_sound (P := P) s e hvs hw2
          exact ⟨w2, by rw [hrun]; simp only [hr2, Result.andThen_ok]; rfl, .int _ _, h5, h6⟩
        | sl0 => exact absurd (Nat.le_zero.1 (Nat.min_le_right m 0)) hz
        | sl00 => exact absurd (Nat.le_zero.1 (Nat.min_le_right m 0)) hz
    · cases hd
      split at hc
      · rename_i hz
        cases hc
        exact ⟨w, by rw [hrun, hz]; rfl, .int _ _, s, Ext.refl _ _ _ s.dom⟩
      · cases hc
  · cases hc

theorem clearf_sound {x x' v : Value} {h h1 : AHeap} (s : Sim P μ h w) (hx : VR μ x x')
    {ty t elem : TypeId} {i : TypeInfo} {z : Value} (ht : P.underlying t = some (.slice elem)) (hi : P.info? elem = some i) (hz : i.zero = some z) (hn : z.cells.toList.all noRef1 = true)
    (hc : clearf z.cells.toList x h = some (v, h1)) :
    ∃ w1, (Builtin.clear_ #[t] ty #[x']).run P w = .ok v w1 ∧ VR μ v v ∧ Sim P μ h1 w1 ∧ Ext μ h w μ h1 w1 := by
  unfold clearf at hc
  split at hc
  · cases hc
    cases hx
    exact ⟨w, by simp [Builtin.clear_, run_underlying' ht]; rfl, .undef, s, Ext.refl _ _ _ s.dom⟩
  · rename_i a n c
    split at hc
    · rename_i h0
      cases hc
      subst h0
      refine ⟨w, ?_, .undef, s, Ext.refl _ _ _ s.dom⟩
      cases hx <;> (simp [Builtin.clear_, run_underlying' ht]; rfl)
    · rename_i h0
      rw [Option.map_eq_some_iff] at hc
      obtain ⟨h2, hw2, hc⟩ := hc
      cases hc
      have hzc : (Builtin.zeroCells z.cells n).toList = rep z.cells.toList n := rep_eq _ _
      cases hx with
      | @sl b c0 K o _ _ c1 e hcap =>
        obtain ⟨w2, hr2, h5, h6⟩ := writeN_sound (P := P) s e ((VRL.of_noRef1 hn).rep n) hw2
        refine ⟨w2, ?_, .undef, h5, h6⟩
        obtain ⟨k, rfl⟩ : ∃ k, n = k + 1 := ⟨n - 1, by omega⟩
        simp only [Builtin.clear_, List.getElem?_toArray, List.getElem?_cons_zero, Sem.run_bind, run_underlying' ht, Result.andThen_ok, zeroValue, typeInfo, hi, hz]
        simp [hi, hz, hzc, hr2]
        rfl
      | sl0 => exact absurd rfl h0
      | sl00 => exact absurd rfl h0
  · cases hc

/-! append of a slice of zeros -/
theorem zeros_run {size m : Nat} {elem : TypeId} {i : TypeInfo} {z : Value} (hi : P.info? elem = some i) (hsz : i.size = size) (hz : i.zero = some z) (hzs : z.cells.size = i.size) (w0 : World) :
    (if m * size = 0 then pure #[] else do pure (Builtin.zeroCells (← zeroValue elem).cells m) : Sem (Array Value)).run P w0 = .ok (Builtin.zeroCells z.cells m) w0 := by
  split
  · rename_i h0
    have : (Builtin.zeroCells z.cells m).size = 0 := by simp [Builtin.zeroCells, hzs, hsz, h0]
    rw [Array.eq_empty_of_size_eq_zero this]
    rfl
  · simp only [Sem.run_bind, run_zeroValue' hi hz, Result.andThen_ok, Sem.run_pure]
theorem appendN_room {size n m c' : Nat} {a' : Option Addr} {elem ty st xt : TypeId} {i : TypeInfo} {z : Value} {k : IntKind} (hst : P.underlying st = some (.slice elem)) (hxt : P.underlying xt = some (.int k))
    (hi : P.info? elem = some i) (hsz : i.size = size) (hz : i.zero = some z) (hzs : z.cells.size = i.size) (hb' : i.bytes ≤ 16384) (hm : m ≤ mostLen) (hroom : n + m ≤ c') :
    (Builtin.append_ #[st, xt] ty #[.slice a' n c', .int .i64 m]).run P w =
      (match a' with | some a => (storeCells (a.add (n * size)) (Builtin.zeroCells z.cells m).toList).run P w | none => .ok () w).andThen fun _ w' => .ok (.slice a' (n + m) c') w' := by
  unfold mostLen at hm
  have hw : IntKind.i64.wrap (m : Int) = (m : Int) := by simp [IntKind.wrap, IntKind.bits, IntKind.signed]; split <;> omega
  have hbig : ¬ ((m : Int) * (i.bytes : Int) > 2 ^ 48) := by
    have h1 : (m : Int) * (i.bytes : Int) ≤ 4294967296 * 16384 := Int.mul_le_mul (by omega) (by omega) (by omega) (by omega)
    omega
  have hz0 := zeros_run (P := P) (m := m) hi hsz hz hzs w
  have hai : (asInt (.int .i64 (m : Int))).run P w = .ok (m : Int) w := by simp [asInt, asIntOf]
  simp only [Builtin.append_, List.getElem?_toArray, List.getElem?_cons_zero, List.getElem?_cons_succ, Sem.run_bind, run_underlying' hst, run_underlying' hxt, run_sizeOf' hi, hsz, Result.andThen_ok, Sem.run_pure, if_true, hai, hw]
  rw [if_neg (by omega)]
  simp only [Sem.run_bind, run_typeInfo' hi, Result.andThen_ok, Sem.run_pure]
  rw [if_neg hbig]
  simp only [Sem.run_pure, Result.andThen_ok, Int.toNat_natCast, hroom, if_true, Bool.not_true, Bool.false_eq_true, if_false, Sem.run_bind, hz0]
  cases a' with
  | none => simp
  | some a => simp
theorem appendN_grow {size n m c' : Nat} {a' : Option Addr} {olds : Array Value} {elem ty st xt : TypeId} {i : TypeInfo} {z : Value} {k : IntKind} (hst : P.underlying st = some (.slice elem)) (hxt : P.underlying xt = some (.int k))
    (hi : P.info? elem = some i) (hsz : i.size = size) (hz : i.zero = some z) (hzs : z.cells.size = i.size) (hb' : i.bytes ≤ 16384)
    (hold : ∀ w0 : World, w0.heap = w.heap → (Builtin.firstCells size n (.slice a' n c')).run P w0 = .ok olds w0) (hroom : c' < n + m) (hmost : n + m ≤ mostLen) :
    ∃ cap, n + m ≤ cap ∧ (Builtin.append_ #[st, xt] ty #[.slice a' n c', .int .i64 m]).run P w =
      .ok (.slice (some ⟨w.heap.size, 0, none⟩) (n + m) cap) (w.drew.alloc (.cells (olds ++ Builtin.zeroCells z.cells m ++ Builtin.zeroCells z.cells (cap - (n + m))) elem)) := by
  refine ⟨(Question.appendCap (n + m) c' elem).cut (w.tape w.drawn (.appendCap (n + m) c' elem)), ?_, ?_⟩
  · simp only [Question.cut]
    omega
  · have hnc := nextslicecap_le hroom
    unfold mostLen at hmost
    have hw : IntKind.i64.wrap (m : Int) = (m : Int) := by simp [IntKind.wrap, IntKind.bits, IntKind.signed]; split <;> omega
    have hbig0 : ¬ ((m : Int) * (i.bytes : Int) > 2 ^ 48) := by
      have h1 : (m : Int) * (i.bytes : Int) ≤ 4294967296 * 16384 := Int.mul_le_mul (by omega) (by omega) (by omega) (by omega)
      omega
    have hbig : ¬ (Builtin.nextslicecap (n + m) c' * i.bytes > 2 ^ 48) := by
      have : Builtin.nextslicecap (n + m) c' * i.bytes ≤ (2 * 4294967296 + 1024) * 16384 := Nat.mul_le_mul (by omega) hb'
      omega
    have hmax : (IntKind.i64.max : Int) = 9223372036854775807 := by decide
    have hneed : ¬ (((n + m : Nat) : Int) > IntKind.i64.max ∧ (True ∨ i.bytes = 0)) := by rw [hmax]; omega
    have hforced : (Question.appendCap (n + m) c' elem).forced = false := rfl
    have hdrew : ({ w with drawn := w.drawn + 1 } : World) = w.drew := rfl
    have hz0 := zeros_run (P := P) (m := m) hi hsz hz hzs w.drew
    have hai : (asInt (.int .i64 (m : Int))).run P w = .ok (m : Int) w := by simp [asInt, asIntOf]
    simp only [Builtin.append_, List.getElem?_toArray, List.getElem?_cons_zero, List.getElem?_cons_succ, Sem.run_bind, run_underlying' hst, run_underlying' hxt, run_sizeOf' hi, hsz, Result.andThen_ok, Sem.run_pure, if_true, hai, hw]
    rw [if_neg (by omega)]
    simp only [Sem.run_bind, run_typeInfo' hi, Result.andThen_ok, Sem.run_pure]
    rw [if_neg hbig0]
    simp only [Sem.run_pure, Result.andThen_ok, Int.toNat_natCast, show ¬ (n + m ≤ c') from by omega, if_false, Sem.run_bind, run_typeInfo' hi]
    rw [if_neg hneed]
    simp only [Sem.run_bind, run_typeInfo' hi, Result.andThen_ok]
    rw [if_neg hbig]
    simp only [Sem.run_bind, run_choose, hforced, Bool.false_eq_true, if_false, hdrew, Result.andThen_ok, run_typeInfo' hi, run_askRoom, hold w.drew rfl, Bool.not_true, hz0, run_zeroValue' hi hz, newRow, run_newObj, Sem.run_pure]
    rfl
theorem appendNf_sound {elem : TypeId} {size : Nat} {zero : List Value} {x x' y y' : Value} {h : AHeap} {v : Value} {h1 : AHeap} (s : Sim P μ h w) (hx : VR μ x x') (hy : VR μ y y')
    (ha : appendNf elem size zero x y h = some (v, h1)) {ty st xt : TypeId} {i : TypeInfo} {z : Value} {k : IntKind} (hst : P.underlying st = some (.slice elem)) (hxt : P.underlying xt = some (.int k))
    (hi : P.info? elem = some i) (hsz : i.size = size) (hz : i.zero = some z) (hzs : z.cells.size = i.size) (hb' : i.bytes ≤ 16384) (hzl : z.cells.toList = zero) (hn : zero.all noRef1 = true) :
    ∃ v' w1 μ1, (Builtin.append_ #[st, xt] ty #[x', y']).run P w = .ok v' w1 ∧ VR μ1 v v' ∧ Sim P μ1 h1 w1 ∧ Ext μ h w μ1 h1 w1 := by
  unfold appendNf at ha
  split at ha
  · rename_i l
    split at ha
    · rename_i hl
      cases hy
      obtain ⟨m, rfl⟩ : ∃ m : Nat, l = m := ⟨l.toNat, by omega⟩
      have hm : m ≤ mostLen := by omega
      rw [Int.toNat_natCast] at ha
      have hzc : (Builtin.zeroCells z.cells m).toList = rep zero m := by rw [← hzl]; exact rep_eq _ _
      refine appendc_sound (ys := Builtin.zeroCells z.cells m) s hx ha (fun x' => Builtin.append_ #[st, xt] ty #[x', .int .i64 m]) (by rw [hzc]; exact (VRL.of_noRef1 hn).rep m) ?_
        (fun n a' c' hr => appendN_room hst hxt hi hsz hz hzs hb' hm hr) (fun n a' c' olds hold hr hmost => appendN_grow hst hxt hi hsz hz hzs hb' hold hr hmost) hi hsz hz hzs
      rw [← hzc, Array.length_toList]
      simp [Builtin.zeroCells, hzs, hsz]
    · cases ha
  · cases ha

theorem bytesOf_ints : ∀ {l : List Value} {bs : List UInt8}, bytesOf l = some bs → ∃ ns : List Int, l = ns.map (Value.int .u8) ∧ bs = ns.map fun n => UInt8.ofNat n.toNat
  | [], _, h => by cases h; exact ⟨[], rfl, rfl⟩
  | v :: l, bs, h => by
    unfold bytesOf at h
    split at h
    · rename_i e; cases e
    · rename_i n r e
      cases e
      rw [Option.map_eq_some_iff] at h
      obtain ⟨bs', h', rfl⟩ := h
      obtain ⟨ns, rfl, rfl⟩ := bytesOf_ints h'
      exact ⟨n :: ns, rfl, rfl⟩
    · cases h
theorem foldl_push : ∀ (ns : List Int) (s : ByteArray), ns.foldl (fun r n => r.push (UInt8.ofNat n.toNat)) s = ⟨s.data ++ (ns.map fun n => UInt8.ofNat n.toNat).toArray⟩
  | [], s => by simp
  | n :: ns, s => by
    rw [List.foldl_cons, foldl_push ns]
    congr 1
    apply Array.ext'
    simp [ByteArray.push]
theorem bytesToStrf_sound {x x' v : Value} {h : AHeap} (s : Sim P μ h w) (hx : VR μ x x') (hv : bytesToStrf x h = some v)
    {src dst e : TypeId} (hs : P.underlying src = some (.slice e)) (he : P.underlying e = some (.int .u8)) (hd : P.underlying dst = some .string) :
    (convert src dst x').run P w = .ok v w ∧ VR μ v v := by
  unfold bytesToStrf at hv
  split at hv
  · rename_i a n c
    split at hv
    · rename_i hn0
      subst hn0
      cases hv
      refine ⟨?_, .string _⟩
      cases hx <;>
      · rw [run_convert_bytes_string w src dst e _ _ _ hs he hd, run_bytesToString w _ _ _ [] (by simp [loadCells, loadCellsFrom])]
        rfl
    simp only [Option.bind_eq_some_iff, Option.map_eq_some_iff] at hv
    obtain ⟨l, hl, bs, hb, rfl⟩ := hv
    obtain ⟨ns, rfl, rfl⟩ := bytesOf_ints hb
    refine ⟨?_, .string _⟩
    have hemp : (ByteArray.empty.data ++ (ns.map fun n => UInt8.ofNat n.toNat).toArray) = (ns.map fun n => UInt8.ofNat n.toNat).toArray := by
      apply Array.ext'
      simp [ByteArray.empty, ByteArray.emptyWithCapacity]
      rfl
    have hnl : ns.length = n := by
      unfold readN at hl
      split at hl
      · split at hl
        · rename_i hle
          have := congrArg (fun z => (z.getD []).length) hl
          simp at this
          omega
        · cases hl
      · cases hl
    cases hx with
    | @sl b c0 K o _ _ c1 e1 hcap =>
      obtain ⟨_, ys, hys, hc⟩ := readN_sim s e1 hl
      have hye : ys = ns.map (Value.int .u8) := VRL.eq_of_all (p := noRef1) (fun v y h hv => VR.eq_of_noRef1 h hv) (List.all_eq_true.2 fun v hv => by obtain ⟨n, _, rfl⟩ := List.mem_map.1 hv; rfl) hys
      subst hye
      have hrun := run_loadCells_list (P := P) w ⟨c0, o, none⟩ (ns.map (Value.int .u8)) (fun j v hj => by rw [addr_add]; exact hc j v hj)
      rw [List.length_map, hnl] at hrun
      rw [run_convert_bytes_string w src dst e _ _ _ hs he hd, run_bytesToString w _ _ _ ns hrun, foldl_push, hemp]
    | sl0 a a' m' =>
      have hns : ns = [] := List.eq_nil_of_length_eq_zero hnl
      subst hns
      rw [run_convert_bytes_string w src dst e _ _ _ hs he hd, run_bytesToString w _ _ _ [] (by simp [loadCells, loadCellsFrom])]
      rfl
    | sl00 a a' =>
      have hns : ns = [] := List.eq_nil_of_length_eq_zero hnl
      subst hns
      rw [run_convert_bytes_string w src dst e _ _ _ hs he hd, run_bytesToString w _ _ _ [] (by simp [loadCells, loadCellsFrom])]
      rfl
  · cases hx
    cases hv
    refine ⟨?_, .string _⟩
    rw [run_convert_bytes_string w src dst e _ _ _ hs he hd]
    rfl
  · cases hv

end Go.Am

/- Maps whose keys are numbers, bools or strings. -/
namespace Go.Am
variable {P : Program} {μ : Ren} {w : World}

/-- A block of one's own is written anew. -/
theorem Sim.setBlk {h : AHeap} (s : Sim P μ h w) {b c K : Nat} {blk blk' : ABlk} {o' : Obj} (e : μ b = some ⟨c, K⟩) (hb : h[b]? = some blk) (hd : blk ≠ .dead) (hro : ¬ isRo h b) (hd' : blk' ≠ .dead) (hro' : ∀ vs t, blk' ≠ .cells vs t false) (hbr : BR P μ K blk' o') :
    Sim P μ (h.set b blk') (w.putObj c o') ∧ Ext μ h w μ (h.set b blk') (w.putObj c o') := by
  have hlive : live h b := ⟨_, hb, hd⟩
  have hc : c < w.heap.size := s.lt b _ e
  have hself : (w.putObj c o').heap[c]? = some o' := by simp [World.putObj, hc]
  have hother : ∀ k, k ≠ c → (w.putObj c o').heap[k]? = w.heap[k]? := fun k hk => by
    simp only [World.putObj]
    rw [Array.getElem?_setIfInBounds_ne (by omega)]
  have hsz : (w.putObj c o').heap.size = w.heap.size := by simp [World.putObj]
  have hnew : ∀ b', live (h.set b blk') b' ↔ live h b' := fun b' => live_set hlive hd'
  refine ⟨⟨fun b' c' e' => by rw [List.length_set]; exact s.dom b' c' e', fun b' c' k e' hb' hn => ?_, fun b1 b2 l1' l2' e1 e2 e3 l1 l2 => s.inj b1 b2 l1' l2' e1 e2 e3 ((hnew b1).1 l1) ((hnew b2).1 l2), fun b' c' e' => by rw [hsz]; exact s.lt b' c' e'⟩,
    ⟨⟨by rw [List.length_set]; exact Nat.le_refl _, fun _ _ => rfl, by rw [hsz]; exact Nat.le_refl _, fun c' _ hn => hother c' (fun hcc => hn b _ hlive e hcc.symm), fun b' c' e' hr => hother _ (fun hcc => ?_), fun b' hr => ?_, fun b' c' hb' e' => absurd (s.dom b' c' e') (by omega), fun b' _ hn hl' => hn ((hnew b').1 hl'), ⟨rfl, rfl, rfl⟩⟩, fun b' hb' hl' => absurd ((hnew b').1 hl').lt (by omega)⟩⟩
  · by_cases hbb : b = b'
    · subst hbb
      rw [e] at e'
      cases e'
      rw [List.getElem?_set_self hlive.lt] at hb'
      cases hb'
      exact ⟨o', hself, hbr⟩
    · rw [List.getElem?_set_ne hbb] at hb'
      have hne : c ≠ c'.blk := fun hcc => hbb (s.inj b b' _ _ e e' hcc hlive ⟨_, hb', hn⟩)
      obtain ⟨o2, ho2, hbr2⟩ := s.rel b' c' k e' hb' hn
      exact ⟨o2, by rw [hother _ (fun h => hne h.symm)]; exact ho2, hbr2⟩
  · have := s.inj b b' _ _ e e' hcc.symm hlive hr.live
    subst this
    exact hro hr
  · by_cases hbb : b = b'
    · subst hbb; exact absurd hr hro
    · exact List.getElem?_set_ne hbb

theorem keyEq_sound {k : BK} {x x' y y' : Value} {t : Bool} (hx : VR μ x x') (hy : VR μ y y') {d : TypeDesc} (hd : bkOf (some d) = some k) (h : keyEq k x y = some t) : Instr.sameNow d x' y' = some t ∧ x' = x ∧ y' = y := by
  unfold keyEq at h
  split at h
  · split at h
    · rename_i a b _ _ hk
      cases h
      subst hk
      cases hx; cases hy
      cases d <;> simp [bkOf] at hd
      exact ⟨by simp [Instr.sameNow], rfl, rfl⟩
    · cases h
  · cases h
    cases hx; cases hy
    cases d <;> simp [bkOf] at hd
    exact ⟨rfl, rfl, rfl⟩
  · cases h
    cases hx; cases hy
    cases d <;> simp [bkOf] at hd
    exact ⟨rfl, rfl, rfl⟩
  · cases h
/-- A block of one's own is given up, and what it stood for is written anew. -/
theorem Sim.killBlk {h : AHeap} (s : Sim P μ h w) {b c K : Nat} {blk : ABlk} {o' : Obj} (e : μ b = some ⟨c, K⟩) (hb : h[b]? = some blk) (hd : blk ≠ .dead) (hro : ¬ isRo h b) :
    Sim P μ (h.set b .dead) (w.putObj c o') ∧ Ext μ h w μ (h.set b .dead) (w.putObj c o') := by
  have hlive : live h b := ⟨_, hb, hd⟩
  have hc : c < w.heap.size := s.lt b _ e
  have hother : ∀ k, k ≠ c → (w.putObj c o').heap[k]? = w.heap[k]? := fun k hk => by
    simp only [World.putObj]
    rw [Array.getElem?_setIfInBounds_ne (by omega)]
  have hsz : (w.putObj c o').heap.size = w.heap.size := by simp [World.putObj]
  obtain ⟨s1, x1⟩ := s.giveUp hro (b := b)
  have hnot : ¬ live (h.set b .dead) b := by
    rintro ⟨blk, h1, h2⟩
    rw [List.getElem?_set_self hlive.lt] at h1
    cases h1; exact h2 rfl
  have hlv : ∀ b', live (h.set b .dead) b' → live h b' := fun b' hl => by
    obtain ⟨blk, h1, h2⟩ := hl
    by_cases hbb : b = b'
    · subst hbb; exact absurd ⟨blk, h1, h2⟩ hnot
    · rw [List.getElem?_set_ne hbb] at h1; exact ⟨blk, h1, h2⟩
  refine ⟨⟨s1.dom, fun b' l k e' hb' hn => ?_, s1.inj, fun b' l e' => by rw [hsz]; exact s1.lt b' l e'⟩, ⟨⟨x1.le, x1.old, by rw [hsz]; exact Nat.le_refl _, fun k hk hn => hother k (fun hcc => hn b _ hlive e hcc.symm), fun b' l e' hr => hother _ (fun hcc => ?_), x1.roStay, fun b' l hb' e' => absurd (s.dom b' l e') (by omega), x1.dead, ⟨rfl, rfl, rfl⟩⟩, x1.tot⟩⟩
  · obtain ⟨o2, ho2, hbr2⟩ := s1.rel b' l k e' hb' hn
    have hl' := hlv b' ⟨_, hb', hn⟩
    have hne : l.blk ≠ c := fun hcc => by
      have := s.inj b' b _ _ e' e hcc hl' hlive
      subst this
      exact hnot ⟨_, hb', hn⟩
    exact ⟨o2, by rw [hother _ hne]; exact ho2, hbr2⟩
  · have := s.inj b' b _ _ e' e hcc hr.live hlive
    subst this
    exact hro hr
/-- A block that nobody names is made. -/
theorem Sim.spare {h : AHeap} (s : Sim P μ h w) (o : Obj) : Sim P μ h (w.alloc o) ∧ Ext μ h w μ h (w.alloc o) :=
  ⟨⟨s.dom, fun b l blk e hb hn => by obtain ⟨o', ho, hbr⟩ := s.rel b l blk e hb hn; exact ⟨o', by rw [getElem?_alloc_old w o (s.lt b l e)]; exact ho, hbr⟩, s.inj, fun b l e => by rw [size_alloc']; have := s.lt b l e; omega⟩,
    ⟨⟨Nat.le_refl _, fun _ _ => rfl, by rw [size_alloc']; omega, fun c hc _ => getElem?_alloc_old w o hc, fun b l e _ => getElem?_alloc_old w o (s.lt b l e), fun _ _ => rfl, fun b l hb e => absurd (s.dom b l e) (by omega), fun _ _ h => h, ⟨rfl, rfl, rfl⟩⟩, fun b hb hl => absurd hl.lt (by omega)⟩⟩
theorem bytes_beq' (a b : ByteArray) : (a == b) = true ↔ a = b := by
  constructor
  · intro h
    have h' : (a.data == b.data) = true := h
    have := eq_of_beq h'
    cases a; cases b
    simp_all
  · rintro rfl
    show (a.data == a.data) = true
    exact beq_self_eq_true _
theorem keyEq_true {k : BK} {x y : Value} (h : keyEq k x y = some true) : x = y ∧ noRef1 x = true ∧ ∀ n, Instr.sameBits n x x = true := by
  cases k <;> cases x <;> simp only [keyEq] at h <;> try (cases h; done)
  all_goals (cases y <;> simp only [keyEq] at h <;> try (cases h; done))
  · split at h
    · rename_i e
      subst e
      simp at h
      subst h
      exact ⟨rfl, rfl, fun n => by cases n <;> simp [Instr.sameBits]⟩
    · cases h
  · simp at h
    subst h
    exact ⟨rfl, rfl, fun n => by cases n <;> simp [Instr.sameBits]⟩
  · have e := (bytes_beq' _ _).1 (Option.some.inj h)
    subst e
    exact ⟨rfl, rfl, fun n => by cases n <;> simp [Instr.sameBits, bytes_beq']⟩
/-- Where a key is. -/
theorem findMap_sound {k : BK} {x x' : Value} {d : TypeDesc} (hd : bkOf (some d) = some k) (hx : VR μ x x') : ∀ {es : List (Value × Value)} {l : List MapEntry} {r : Option Value} (i : Nat), VRL μ (es.map (·.1)) (l.map (·.key)) → VRL μ (es.map (·.2)) (l.map (·.val)) → findMap k x es = some r →
    (r = none ∧ Instr.findNow d x' l i = some none) ∨ ∃ v v' j, r = some v ∧ VR μ v v' ∧ Instr.findNow d x' l i = some (some (j, v'))
  | [], l, r, i, h1, h2, hf => by
    cases l with
    | nil => cases hf; exact .inl ⟨rfl, rfl⟩
    | cons a l => cases h1
  | (y, v) :: es, l, r, i, h1, h2, hf => by
    cases l with
    | nil => cases h1
    | cons a l =>
      simp only [List.map_cons] at h1 h2
      cases h1 with
      | cons k1 k2 =>
        cases h2 with
        | cons m1 m2 =>
          unfold findMap at hf
          split at hf
          · rename_i hk
            cases hf
            obtain ⟨q1, q2, q3⟩ := keyEq_sound hx k1 hd hk
            exact .inr ⟨v, a.val, i, rfl, m1, by unfold Instr.findNow; rw [q1]⟩
          · rename_i hk
            obtain ⟨q1, q2, q3⟩ := keyEq_sound hx k1 hd hk
            rcases findMap_sound hd hx (i + 1) k2 m2 hf with ⟨e1, e2⟩ | ⟨v1, v2, j, e1, e2, e3⟩
            · exact .inl ⟨e1, by unfold Instr.findNow; rw [q1]; exact e2⟩
            · exact .inr ⟨v1, v2, j, e1, e2, by unfold Instr.findNow; rw [q1]; exact e3⟩
          · cases hf
theorem setMap_sound {k : BK} {x x' v v' : Value} {d : TypeDesc} (hd : bkOf (some d) = some k) (hx : VR μ x x') (hv : VR μ v v') : ∀ {es es2 : List (Value × Value)} {l : List MapEntry} (i : Nat), VRL μ (es.map (·.1)) (l.map (·.key)) → VRL μ (es.map (·.2)) (l.map (·.val)) → setMap k x v es = some es2 →
    (Instr.findNow d x' l i = some none ∧ es2 = es ++ [(x, v)]) ∨ ∃ (j : Nat) (u : Value) (e : MapEntry), Instr.findNow d x' l i = some (some (i + j, u)) ∧ l[j]? = some e ∧ e.key = x' ∧ noRef1 x' = true ∧ (∀ n, Instr.sameBits n x' x' = true) ∧
      VRL μ (es2.map (·.1)) ((l.modify j fun e => { e with key := x', val := v' }).map (·.key)) ∧ VRL μ (es2.map (·.2)) ((l.modify j fun e => { e with key := x', val := v' }).map (·.val))
  | [], es2, l, i, h1, h2, hf => by
    cases l with
    | nil => cases hf; exact .inl ⟨rfl, rfl⟩
    | cons a l => cases h1
  | (y, u) :: es, es2, l, i, h1, h2, hf => by
    cases l with
    | nil => cases h1
    | cons a l =>
      simp only [List.map_cons] at h1 h2
      cases h1 with
      | cons k1 k2 =>
        cases h2 with
        | cons m1 m2 =>
          unfold setMap at hf
          split at hf
          · rename_i hk
            cases hf
            obtain ⟨q1, q2, q3⟩ := keyEq_sound hx k1 hd hk
            obtain ⟨z1, z2, z3⟩ := keyEq_true hk
            have hkx : noRef1 x' = true ∧ (∀ n, Instr.sameBits n x' x' = true) ∧ a.key = x' := by
              rw [q2]
              exact ⟨z2, z3, by rw [q3, z1]⟩
            refine .inr ⟨0, a.val, a, by unfold Instr.findNow; rw [q1]; rfl, rfl, hkx.2.2, hkx.1, hkx.2.1, ?_, ?_⟩
            · simp only [List.map_cons, List.modify_zero_cons]
              exact .cons hx k2
            · simp only [List.map_cons, List.modify_zero_cons]
              exact .cons hv m2
          · rename_i hk
            rw [Option.map_eq_some_iff] at hf
            obtain ⟨q, hq, rfl⟩ := hf
            obtain ⟨q1, q2, q3⟩ := keyEq_sound hx k1 hd hk
            rcases setMap_sound hd hx hv (i + 1) k2 m2 hq with ⟨e1, rfl⟩ | ⟨j, u2, e, e1, e2, e3, e4, e5, e6, e7⟩
            · exact .inl ⟨by unfold Instr.findNow; rw [q1]; exact e1, rfl⟩
            · refine .inr ⟨j + 1, u2, e, by unfold Instr.findNow; rw [q1]; rw [show i + (j + 1) = i + 1 + j by omega]; exact e1, by simpa using e2, e3, e4, e5, ?_, ?_⟩
              · simp only [List.map_cons, List.modify_succ_cons]
                exact .cons k1 e6
              · simp only [List.map_cons, List.modify_succ_cons]
                exact .cons m1 e7
          · cases hf
theorem checkKey_simple {empty : Bool} {n : Nat} {t : TypeId} {d : TypeDesc} {k : BK} {v : Value} (ht : P.underlying t = some d) (hd : bkOf (some d) = some k) : (Instr.checkKey empty (n + 1) t v).run P w = .ok () w := by
  unfold Instr.checkKey
  simp only [Sem.run_bind, run_underlying' ht, Result.andThen_ok]
  cases d <;> simp [bkOf] at hd <;> simp [Sem.run_pure]
theorem mapOf_sound {x x' : Value} {h : AHeap} {es : List (Value × Value)} (s : Sim P μ h w) (hx : VR μ x x') (hm : mapOf x h = some es) :
    (x = .map none ∧ x' = .map none ∧ es = []) ∨ ∃ b c K l clock, x = .map (some b) ∧ x' = .map (some c) ∧ μ b = some ⟨c, K⟩ ∧ h[b]? = some (.map es) ∧ w.heap[c]? = some (.map l clock) ∧ VRL μ (es.map (·.1)) (l.toList.map (·.key)) ∧ VRL μ (es.map (·.2)) (l.toList.map (·.val)) := by
  unfold mapOf at hm
  split at hm
  · cases hm; cases hx; exact .inl ⟨rfl, rfl, rfl⟩
  · rename_i b
    split at hm
    · rename_i es' hb
      cases hm
      cases hx with
      | @map _ c K e =>
        obtain ⟨o, ho, l, clock, rfl, h2, h3⟩ := s.rel b _ _ e hb (by simp)
        exact .inr ⟨b, c, K, l, clock, rfl, rfl, e, hb, ho, h2, h3⟩
    · cases hm
  · cases hm
theorem lookupf_sound {k : BK} {zero : Value} {ok : Bool} {x x' i i' v : Value} {h : AHeap} (s : Sim P μ h w) (hx : VR μ x x') (hi : VR μ i i') (hl : lookupf k zero ok x i h = some v)
    {t key elem : TypeId} {d : TypeDesc} (ht : P.underlying t = some (.map key elem)) (hk : P.underlying key = some d) (hd : bkOf (some d) = some k) {ie : TypeInfo} (hie : P.info? elem = some ie) (hz : ie.zero = some zero) (hz0 : VR μ zero zero) :
    ∃ v', (Instr.lookup t x' i' ok).run P w = .ok v' w ∧ VR μ v v' := by
  unfold lookupf at hl
  simp only [Option.bind_eq_some_iff, Option.map_eq_some_iff] at hl
  obtain ⟨es, hm, r, hf, rfl⟩ := hl
  have hzv : (zeroValue elem).run P w = .ok zero w := by simp [zeroValue, typeInfo, hie, hz]
  have hck : ∀ b, (Instr.checkKey b 10000 key i').run P w = .ok () w := fun b => checkKey_simple (n := 9999) hk hd
  rcases mapOf_sound s hx hm with ⟨rfl, rfl, rfl⟩ | ⟨b, c, K, l, clock, rfl, rfl, e, hb, ho, h2, h3⟩
  · cases hf
    refine ⟨if ok then .tuple #[zero, .bool false] else zero, ?_, ?_⟩
    · simp only [Instr.lookup, Sem.run_bind, run_underlying' ht, Result.andThen_ok, Sem.run_pure, hck, Instr.findKey, run_underlying' hk, Instr.findNow, hzv]
    · cases ok
      · exact hz0
      · exact .tuple (.cons hz0 (.cons (.bool _) .nil))
  · have hg : (getObj c).run P w = .ok (.map l clock) w := by simp [getObj, Sem.run, ho]
    rcases findMap_sound hd hi 0 h2 h3 hf with ⟨rfl, e2⟩ | ⟨v1, v2, j, rfl, e2, e3⟩
    · refine ⟨if ok then .tuple #[zero, .bool false] else zero, ?_, ?_⟩
      · simp only [Instr.lookup, Sem.run_bind, run_underlying' ht, Result.andThen_ok, Sem.run_pure, hg, hck, Instr.findKey, run_underlying' hk, e2, hzv]
      · cases ok
        · exact hz0
        · exact .tuple (.cons hz0 (.cons (.bool _) .nil))
    · refine ⟨if ok then .tuple #[v2, .bool true] else v2, ?_, ?_⟩
      · simp only [Instr.lookup, Sem.run_bind, run_underlying' ht, Result.andThen_ok, Sem.run_pure, hg, hck, Instr.findKey, run_underlying' hk, e3]
      · cases ok
        · exact e2
        · exact .tuple (.cons e2 (.cons (.bool _) .nil))
theorem setMapf_sound {k : BK} {x x' i i' v v' : Value} {h h1 : AHeap} (s : Sim P μ h w) (hx : VR μ x x') (hi : VR μ i i') (hv : VR μ v v') (hl : setMapf k x i v h = some h1)
    {t key elem : TypeId} {d : TypeDesc} (ht : P.underlying t = some (.map key elem)) (hk : P.underlying key = some d) (hd : bkOf (some d) = some k) :
    ∃ w1, (Instr.mapUpdate t x' i' v').run P w = .ok () w1 ∧ Sim P μ h1 w1 ∧ Ext μ h w μ h1 w1 := by
  unfold setMapf at hl
  split at hl
  · rename_i b
    split at hl
    · rename_i es hb
      rw [Option.map_eq_some_iff] at hl
      obtain ⟨es2, hs, rfl⟩ := hl
      have hck : ∀ b, (Instr.checkKey b 10000 key i').run P w = .ok () w := fun b => checkKey_simple (n := 9999) hk hd
      cases hx with
      | @map _ c K e =>
        obtain ⟨o, ho, l, clock, rfl, h2, h3⟩ := s.rel b _ _ e hb (by simp)
        have hg : (getObj c).run P w = .ok (.map l clock) w := by simp [getObj, Sem.run, ho]
        have hset : ∀ o2, (setObj c o2).run P w = .ok () (w.putObj c o2) := fun o2 => by simp [setObj, Sem.run, ho, World.putObj]
        have hro : ¬ isRo h b := by rintro ⟨vs, t', e2⟩; rw [hb] at e2; cases e2
        rcases setMap_sound hd hi hv 0 h2 h3 hs with ⟨e1, rfl⟩ | ⟨j, u, en, e1, e2, e3, e4, e5, e6, e7⟩
        · obtain ⟨q1, q2⟩ := s.setBlk (blk' := .map (es ++ [(i, v)])) (o' := .map (l.push { key := i', val := v', born := clock }) (clock + 1)) e hb (by simp) hro (by simp) (by simp)
            ⟨_, _, rfl, by simpa using h2.append (.cons hi .nil), by simpa using h3.append (.cons hv .nil)⟩
          refine ⟨_, ?_, q1, q2⟩
          simp only [Instr.mapUpdate, Sem.run_bind, run_underlying' ht, Result.andThen_ok, hg, hck, Instr.findKey, run_underlying' hk, e1, Sem.run_pure, hset]
        · obtain ⟨q1, q2⟩ := s.setBlk (blk' := .map es2) (o' := .map (l.modify j fun e => { e with key := i', val := v' }) clock) e hb (by simp) hro (by simp) (by simp)
            ⟨_, _, rfl, by simpa using e6, by simpa using e7⟩
          refine ⟨_, ?_, q1, q2⟩
          have hj : (((l[j]?).map (·.key)).getD i') = i' := by
            have e2' : l[j]? = some en := by simpa using e2
            rw [e2']
            simpa using e3
          rw [Nat.zero_add] at e1
          simp only [Instr.mapUpdate, Sem.run_bind, run_underlying' ht, Result.andThen_ok, hg, hck, Instr.findKey, run_underlying' hk, e1, Sem.run_pure, hj, Instr.keyThatStays, e5, if_true, Nat.zero_add, hset]
    · cases hl
  · cases hl
theorem mkMap_sound {h : AHeap} (s : Sim P μ h w) {t : TypeId} : ∃ w1 μ1 v', (Instr.makeMap t none).run P w = .ok v' w1 ∧ VR μ1 (.map (some h.length)) v' ∧ Sim P μ1 (h ++ [.map []]) w1 ∧ Ext μ h w μ1 (h ++ [.map []]) w1 := by
  obtain ⟨q1, q2⟩ := s.alloc (w0 := w) rfl Out.rfl (K := 0) (blk := .map []) (o := .map #[] 0) ⟨_, _, rfl, .nil, .nil⟩
  refine ⟨_, _, .map (some w.heap.size), ?_, .map (grow_new h.length w.heap.size 0), q1, q2⟩
  simp only [Instr.makeMap, Sem.run_bind, run_newObj, Result.andThen_ok, Sem.run_pure]
  rfl
theorem lenMapf_sound {x x' v : Value} {h : AHeap} (s : Sim P μ h w) (hx : VR μ x x') (hl : lenMapf x h = some v) {ty t k e : TypeId} (ht : P.underlying t = some (.map k e)) :
    (Builtin.len_ #[t] ty #[x']).run P w = .ok v w ∧ VR μ v v := by
  unfold lenMapf at hl
  rw [Option.map_eq_some_iff] at hl
  obtain ⟨es, hm, rfl⟩ := hl
  refine ⟨?_, .int _ _⟩
  rcases mapOf_sound s hx hm with ⟨rfl, rfl, rfl⟩ | ⟨b, c, K, l, clock, rfl, rfl, e, hb, ho, h2, h3⟩
  · simp [Builtin.len_, run_underlying' ht, goInt]
  · have hll := h2.length
    simp only [List.length_map, Array.length_toList] at hll
    have hg : (getObj c).run P w = .ok (.map l clock) w := by simp [getObj, Sem.run, ho]
    simp [Builtin.len_, run_underlying' ht, hg, hll, goInt]
end Go.Am

/- From the model's operations to the machine's, and that each is met. -/
namespace Go.Am
variable {P : Program} {μ : Ren} {w : World}

theorem layOf_spec {t : TypeId} {agg : Bool} {n : Nat} (h : layOf P t = some (agg, n)) : ∃ d i, P.underlying t = some d ∧ P.info? t = some i ∧ isAggD d = agg ∧ i.size = n ∧ 0 < n := by
  unfold layOf at h
  split at h
  · rename_i d i hd hi
    split at h
    · rename_i h0
      cases h
      exact ⟨d, i, hd, hi, rfl, rfl, h0⟩
    · cases h
  · cases h
theorem zeroLay_spec {t : TypeId} {zero : List Value} (h : zeroLay P t = some zero) : ∃ i z, P.info? t = some i ∧ i.zero = some z ∧ z.cells.toList = zero ∧ zero.all noRef1 = true ∧ z.cells.size = i.size ∧ 0 < i.size ∧ i.bytes ≤ 16384 := by
  unfold zeroLay at h
  split at h
  · rename_i i hi
    split at h
    · rename_i z hz
      split at h
      · rename_i hc
        cases h
        exact ⟨i, z, hi, hz, rfl, hc.1, hc.2.1, hc.2.2.1, hc.2.2.2⟩
      · cases h
    · cases h
  · cases h
theorem isNilConst_spec {d : TypeDesc} {x : Operand} (h : isNilConst d x = true) : ∃ z, x = .const z ∧ nilOf d = some z := by
  unfold isNilConst at h
  split at h <;> first | exact ⟨_, rfl, rfl⟩ | cases h
theorem negOf_spec {op : BinOp} {neg : Bool} (h : negOf op = some neg) : op = if neg then .neq else .eql := by
  cases op <;> simp [negOf] at h <;> subst h <;> rfl
theorem kindOk_of {d : TypeDesc} {k : NilKind} {x : Value} (h : kindOf d = some k) (hk : kindIs k x = true) : kindOk d x = true := by
  cases d <;> simp [kindOf] at h <;> subst h <;> cases x <;> simp_all [kindIs, kindOk]
theorem fieldOf_spec {t : TypeId} {f : Nat} {fd : Field} {agg : Bool} {n : Nat} (h : fieldOf P t f = some (fd, agg, n)) :
    ∃ fs d i, P.underlying t = some (.struct fs) ∧ fs[f]? = some fd ∧ P.underlying fd.type = some d ∧ P.info? fd.type = some i ∧ isAggD d = agg ∧ i.size = n ∧ 0 < n := by
  unfold fieldOf at h
  split at h
  · rename_i fs hu
    split at h
    · rename_i fd' hf
      rw [Option.map_eq_some_iff] at h
      obtain ⟨⟨a, m⟩, hl, e⟩ := h
      cases e
      obtain ⟨d, i, h1, h2, h3, h4, h5⟩ := layOf_spec hl
      exact ⟨fs, d, i, hu, hf, h1, h2, h3, h4, h5⟩
    · cases h
  · cases h
theorem built_of {t : TypeId} {place : Nat → Option (Nat × Nat)} {i : TypeInfo} {z : Value} (h : placeOf P t = some place) (hi : P.info? t = some i) (hz : i.zero = some z) (parts : List (Nat × Value)) :
    P.built t parts = Instr.fill place z.cells parts := by
  unfold placeOf at h
  unfold Program.built
  rw [hi]
  split at h
  · rename_i n e hu
    rw [Option.map_eq_some_iff] at h
    obtain ⟨ie, hie, rfl⟩ := h
    simp only [hu, hz, hie]
  · rename_i fs hu
    rw [Option.map_eq_some_iff] at h
    obtain ⟨l, hl, rfl⟩ := h
    simp only [hu, hz, hl]
  · cases h
/-- Operands as the frame has them. -/
def OpR (μ : Ren) (e : Env) (ρ : Operand → Value) : Prop := ∀ x, okX x = true → VR μ (val e x) (ρ x)
theorem partsOf_spec {place : Nat → Option (Nat × Nat)} {e : Env} {ρ : Operand → Value} (he : OpR μ e ρ) : ∀ {l : List (Nat × Operand)} {ps : List (Nat × Nat × Operand)}, partsOf place l = some ps → (l.all fun x => okX x.2) = true →
    PartsR μ place (valP e ps) (l.map fun x => (x.1, ρ x.2))
  | [], ps, h, _ => by cases h; trivial
  | (i, x) :: r, ps, h, hk => by
    simp only [List.all_cons, Bool.and_eq_true] at hk
    unfold partsOf at h
    split at h
    · rename_i off size ps' hp hps
      split at h
      · rename_i h0
        cases h
        exact ⟨hp, h0, he x hk.1, partsOf_spec he hps hk.2⟩
      · cases h
    · cases h
theorem vals_rel {e : Env} {ρ : Operand → Value} (he : OpR μ e ρ) : ∀ {l : List Operand}, okL l = true → VRL μ (vals e l) (l.map ρ)
  | [], _ => .nil
  | x :: l, h => by
    simp only [okL, List.all_cons, Bool.and_eq_true] at h
    exact .cons (he x h.1) (vals_rel he h.2)
theorem valO_rel {e : Env} {ρ : Operand → Value} (he : OpR μ e ρ) {x : Option Operand} (h : (x.all okX) = true) : OR μ (valO e x) (x.map ρ) := by
  cases x with
  | none => trivial
  | some x => exact he x h

end Go.Am

/- Each operation that is no call goes as the machine says. -/
namespace Go.Am
variable {P : Program} {μ : Ren} {w : World}

def OpGoes (P : Program) (o : Oper) (ρ : Operand → Value) (μ : Ren) (h : AHeap) (w : World) (v : Value) (h1 : AHeap) : Prop :=
  ∃ v' w1 μ1, ((execOp ρ o).run P w = .ok (.value v') w1 ∨ ((execOp ρ o).run P w = .ok .skip w1 ∧ v' = undef)) ∧ VR μ1 v v' ∧ Sim P μ1 h1 w1 ∧ Ext μ h w μ1 h1 w1
def isCall : AOp → Bool
  | .call _ _ | .callV _ _ => true
  | _ => false

section
variable {o : Oper} {ρ : Operand → Value} {h : AHeap} {v : Value} {h1 : AHeap}
theorem OpGoes.pure (s : Sim P μ h w) {v' : Value} (hr : (execOp ρ o).run P w = .ok (.value v') w) (hv : VR μ v v') : OpGoes P o ρ μ h w v h :=
  ⟨v', w, μ, .inl hr, hv, s, Ext.refl _ _ _ s.dom⟩
theorem OpGoes.val {v' : Value} {w1 : World} {μ1 : Ren} (hr : (execOp ρ o).run P w = .ok (.value v') w1) (hv : VR μ1 v v') (s : Sim P μ1 h1 w1) (x : Ext μ h w μ1 h1 w1) : OpGoes P o ρ μ h w v h1 :=
  ⟨v', w1, μ1, .inl hr, hv, s, x⟩
end

/-- An operation whose own text gives a value. -/
theorem run_v {x : Sem Value} {y : Value} {w1 : World} (h : x.run P w = .ok y w1) : (do pure (Next.value (← x)) : Sem Next).run P w = .ok (.value y) w1 := by
  simp only [Sem.run_bind, h, Result.andThen_ok, Sem.run_pure]
theorem run_builtin {b : Builtin} {args : Array Operand} {argTypes : Array TypeId} {dst : Option Tmp} {type : TypeId} {pos : String} {after : Array Edge} {guard : Option (Nat × Bool)} {ρ : Operand → Value} {v : Value} {w1 : World}
    (h : (builtin b argTypes type (args.map fun | .const _ => true | _ => false) (args.toList.map ρ).toArray).run P w = .ok (.value v) w1) :
    (execOp ρ ⟨dst, .call ⟨.builtin b, args, argTypes⟩, type, pos, after, guard⟩).run P w = .ok (.value v) w1 := by
  have hm : args.map ρ = (args.toList.map ρ).toArray := Array.ext' (by simp)
  simp only [execOp, resolve, Sem.run_bind, Sem.run_pure, Result.andThen_ok, invoke]
  rw [hm]
  exact h
theorem foldM_list {g : Value → Value → Sem Value} {x : Value} {l : List Value} : (match x :: l with | [] => stuck "" | y :: r => r.foldlM g y : Sem Value) = l.foldlM g x := rfl
theorem okL_mem {l : List Operand} (h : okL l = true) {x : Operand} (hx : x ∈ l) : okX x = true := List.all_eq_true.1 h x hx

theorem op_sound {o : Oper} {ao : AOp} {e : Env} {ρ : Operand → Value} {h h1 : AHeap} {v : Value} {Γ : Callee} (hc : compOp P o.op = some ao) (hn : isCall ao = false) (he : OpR μ e ρ) (s : Sim P μ h w)
    (hk : opK Γ ao e h (fun v h' => some (v, h')) = some (v, h1)) : OpGoes P o ρ μ h w v h1 := by
  unfold compOp at hc
  split at hc
  · rename_i hok
    obtain ⟨dst, op, type, pos, after, guard⟩ := o
    simp only at hc hok
    have hX : ∀ {x : Operand}, x ∈ op.operands.toList → VR μ (val e x) (ρ x) := fun hx => he _ (okL_mem hok hx)
    cases op with
    | move x =>
      cases hc
      cases hk
      exact .pure s rfl (hX (by simp [Op.operands]))
    | assign x =>
      cases hc
      cases hk
      exact .pure s rfl (hX (by simp [Op.operands]))
    | pick c a b =>
      cases hc
      simp only [opK, Option.bind_eq_some_iff] at hk
      obtain ⟨u, hu, hk⟩ := hk
      cases hk
      obtain ⟨t, ht, hv⟩ := pickf_sound (hX (x := c) (by simp [Op.operands])) (hX (x := a) (by simp [Op.operands])) (hX (x := b) (by simp [Op.operands])) hu
      exact .pure s (by simp [execOp, ht, asBool]) hv
    | binOp op t x y yt =>
      have hx := hX (x := x) (by simp [Op.operands])
      have hy := hX (x := y) (by simp [Op.operands])
      simp only [compOp1, compBin] at hc
      split at hc
      · cases hc
        simp only [opK, Option.bind_eq_some_iff] at hk
        obtain ⟨u, hu, hk⟩ := hk
        cases hk
        obtain ⟨hr, hv⟩ := binf_sound (P := P) (w := w) (t := t) (X := x) (Y := y) hx hy hu
        exact .pure s (run_v hr) hv
      · cases hc
        simp only [opK, Option.bind_eq_some_iff] at hk
        obtain ⟨u, hu, hk⟩ := hk
        cases hk
        obtain ⟨hr, hv⟩ := binf_sound (P := P) (w := w) (t := t) (X := x) (Y := y) hx hy hu
        exact .pure s (run_v hr) hv
      · rename_i ht
        rw [Option.map_eq_some_iff] at hc
        obtain ⟨neg, hneg, hc⟩ := hc
        cases hc
        simp only [opK, Option.bind_eq_some_iff] at hk
        obtain ⟨u, hu, hk⟩ := hk
        cases hk
        obtain ⟨hr, hv⟩ := eqBoolf_sound (P := P) (w := w) (t := t) (X := x) (Y := y) hx hy hu ht (negOf_spec hneg)
        exact .pure s (run_v hr) hv
      · split at hc
        · rename_i neg ks hneg hflat
          cases hc
          simp only [opK, Option.bind_eq_some_iff] at hk
          obtain ⟨u, hu, hk⟩ := hk
          cases hk
          obtain ⟨hr, hv⟩ := eqAggf_sound (P := P) (w := w) (t := t) (X := x) (Y := y) hx hy hu hflat (negOf_spec hneg)
          exact .pure s (run_v hr) hv
        · cases hc
      · split at hc
        · rename_i neg ks hneg hflat
          cases hc
          simp only [opK, Option.bind_eq_some_iff] at hk
          obtain ⟨u, hu, hk⟩ := hk
          cases hk
          obtain ⟨hr, hv⟩ := eqAggf_sound (P := P) (w := w) (t := t) (X := x) (Y := y) hx hy hu hflat (negOf_spec hneg)
          exact .pure s (run_v hr) hv
        · cases hc
      · rename_i d _ _ _ _ _ ht
        split at hc
        · rename_i neg k hneg hkd
          split at hc
          · rename_i hnc
            cases hc
            simp only [opK, Option.bind_eq_some_iff] at hk
            obtain ⟨u, hu, hk⟩ := hk
            cases hk
            obtain ⟨z, rfl, hz⟩ := isNilConst_spec hnc
            unfold isNilKf at hu
            split at hu
            · rename_i hkk
              obtain ⟨hr, _, hv⟩ := isNilf_sound (P := P) (w := w) (t := t) (X := x) (Y := .const z) hx hu ht hz (kindOk_of hkd hkk) (negOf_spec hneg)
              have hy2 : ρ (.const z) = z := VR.eq_of_noRef (v := z) (show okX (.const z) = true from okL_mem hok (by simp [Op.operands])) hy
              refine .pure s (run_v (x := do eqGuard op t x (.const z) (ρ x) (ρ (.const z)); binOp op t (ρ x) (ρ (.const z))) ?_) hv
              rw [hy2]
              exact hr rfl
            · cases hu
          · split at hc
            · rename_i hnc
              cases hc
              simp only [opK, Option.bind_eq_some_iff] at hk
              obtain ⟨u, hu, hk⟩ := hk
              cases hk
              obtain ⟨z, rfl, hz⟩ := isNilConst_spec hnc
              unfold isNilKf at hu
              split at hu
              · rename_i hkk
                obtain ⟨_, hr, hv⟩ := isNilf_sound (P := P) (w := w) (t := t) (X := .const z) (Y := y) hy hu ht hz (kindOk_of hkd hkk) (negOf_spec hneg)
                have hy2 : ρ (.const z) = z := VR.eq_of_noRef (v := z) (show okX (.const z) = true from okL_mem hok (by simp [Op.operands])) hx
                refine .pure s (run_v (x := do eqGuard op t (.const z) y (ρ (.const z)) (ρ y); binOp op t (ρ (.const z)) (ρ y)) ?_) hv
                rw [hy2]
                exact hr rfl
              · cases hu
            · cases hc
        · cases hc
      · cases hc
    | unOp op t x =>
      cases hc
      simp only [opK, Option.bind_eq_some_iff] at hk
      obtain ⟨u, hu, hk⟩ := hk
      cases hk
      obtain ⟨hr, hv⟩ := unf_sound (P := P) (w := w) (hX (x := x) (by simp [Op.operands])) hu
      exact .pure s (by simp [execOp, hr]) hv
    | convert sr d x =>
      have hx := hX (x := x) (by simp [Op.operands])
      simp only [compOp1, compConv] at hc
      split at hc
      · rename_i h2 h3
        cases hc
        simp only [opK, Option.bind_eq_some_iff] at hk
        obtain ⟨u, hu, hk⟩ := hk
        cases hk
        obtain ⟨hr, hv⟩ := convf_sound (P := P) (w := w) hx hu h2 h3
        exact .pure s (run_v hr) hv
      · rename_i h2 h3
        cases hc
        simp only [opK, Option.bind_eq_some_iff] at hk
        obtain ⟨u, hu, hk⟩ := hk
        cases hk
        obtain ⟨hr, hv⟩ := strIdf_sound (P := P) (w := w) hx hu h2 h3
        exact .pure s (run_v hr) hv
      · rename_i h2 h3
        split at hc
        · rename_i h4
          cases hc
          simp only [opK, Option.bind_eq_some_iff] at hk
          obtain ⟨u, hu, hk⟩ := hk
          cases hk
          obtain ⟨hr, hv⟩ := bytesToStrf_sound (P := P) (w := w) s hx hu h2 h4 h3
          exact .pure s (run_v hr) hv
        · cases hc
      · cases hc
    | extract x i =>
      cases hc
      simp only [opK, Option.bind_eq_some_iff] at hk
      obtain ⟨u, hu, hk⟩ := hk
      cases hk
      obtain ⟨v', hr, hv⟩ := extractf_sound (P := P) (w := w) (hX (x := x) (by simp [Op.operands])) hu
      exact .pure s (by simp [execOp, hr]) hv
    | field t x f =>
      simp only [compOp1, Option.map_eq_some_iff] at hc
      obtain ⟨⟨fd, agg, n⟩, hf, hc⟩ := hc
      cases hc
      simp only [opK, Option.bind_eq_some_iff] at hk
      obtain ⟨u, hu, hk⟩ := hk
      cases hk
      obtain ⟨fs, d, i, h1, h2, h3, h4, h5, h6, h7⟩ := fieldOf_spec hf
      obtain ⟨v', hr, hv⟩ := fieldf_sound (P := P) (w := w) (hX (x := x) (by simp [Op.operands])) hu h1 h2 rfl h3 h4 h5 h6
      exact .pure s (by simp [execOp, hr]) hv
    | fieldAddr t x f =>
      simp only [compOp1, Option.map_eq_some_iff] at hc
      obtain ⟨⟨fd, agg, n⟩, hf, hc⟩ := hc
      cases hc
      simp only [opK, Option.bind_eq_some_iff] at hk
      obtain ⟨u, hu, hk⟩ := hk
      cases hk
      obtain ⟨fs, d, i, h1, h2, h3, h4, h5, h6, h7⟩ := fieldOf_spec hf
      obtain ⟨v', hr, hv⟩ := fieldAddrf_sound (P := P) (w := w) (hX (x := x) (by simp [Op.operands])) hu h1 h2 rfl h4 (by omega)
      exact .pure s (by simp [execOp, hr]) hv
    | indexAddr t x ix =>
      have hx := hX (x := x) (by simp [Op.operands])
      have hy := hX (x := ix) (by simp [Op.operands])
      simp only [compOp1] at hc
      split at hc
      · rename_i e' ht
        rw [Option.map_eq_some_iff] at hc
        obtain ⟨⟨agg, n⟩, hl, hc⟩ := hc
        cases hc
        simp only [opK, Option.bind_eq_some_iff] at hk
        obtain ⟨u, hu, hk⟩ := hk
        cases hk
        obtain ⟨d, i, h1, h2, h3, h4, h5⟩ := layOf_spec hl
        obtain ⟨v', hr, hv⟩ := indexAddrf_sound (P := P) (w := w) hx hy hu ht h2 h4
        exact .pure s (run_v hr) hv
      · rename_i n' e' ht
        rw [Option.map_eq_some_iff] at hc
        obtain ⟨⟨agg, n⟩, hl, hc⟩ := hc
        cases hc
        simp only [opK, Option.bind_eq_some_iff] at hk
        obtain ⟨u, hu, hk⟩ := hk
        cases hk
        obtain ⟨d, i, h1, h2, h3, h4, h5⟩ := layOf_spec hl
        obtain ⟨v', hr, hv⟩ := indexAddrArrf_sound (P := P) (w := w) hx hy hu ht h2 h4
        exact .pure s (run_v hr) hv
      · cases hc
    | index t x ix =>
      have hx := hX (x := x) (by simp [Op.operands])
      have hy := hX (x := ix) (by simp [Op.operands])
      simp only [compOp1] at hc
      split at hc
      · rename_i n' e' ht
        rw [Option.map_eq_some_iff] at hc
        obtain ⟨⟨agg, n⟩, hl, hc⟩ := hc
        cases hc
        simp only [opK, Option.bind_eq_some_iff] at hk
        obtain ⟨u, hu, hk⟩ := hk
        cases hk
        obtain ⟨d, i, h1, h2, h3, h4, h5⟩ := layOf_spec hl
        obtain ⟨v', hr, hv⟩ := indexArrf_sound (P := P) (w := w) hx hy hu ht h1 h2 h3 h4
        exact .pure s (run_v hr) hv
      · rename_i ht
        cases hc
        simp only [opK, Option.bind_eq_some_iff] at hk
        obtain ⟨u, hu, hk⟩ := hk
        cases hk
        obtain ⟨hr, hv⟩ := indexStrf_sound (P := P) (w := w) hx hy hu ht
        exact .pure s (run_v hr) hv
      · cases hc
    | nilCheck x =>
      cases hc
      simp only [opK, Option.bind_eq_some_iff] at hk
      obtain ⟨u, hu, hk⟩ := hk
      cases hk
      have hx := hX (x := x) (by simp [Op.operands])
      have hx2 := hx
      unfold nilCheckf at hu
      split at hu
      · rename_i a ha
        cases hu
        rw [ha] at hx2
        generalize hy : ρ x = y at hx2
        cases hx2 with
        | ptr e1 => exact .pure s (by simp [execOp, hy]) (.ptr e1)
      · rename_i f xs ys ha
        cases hu
        rw [ha] at hx2
        generalize hy : ρ x = y at hx2
        cases hx2 with
        | func f e1 e2 => exact .pure s (by simp [execOp, hy]) (.func f e1 e2)
      · cases hu
    | slice t x lo hi mx =>
      have hx := hX (x := x) (by simp [Op.operands])
      have h1 : OR μ (valO e lo) (lo.map ρ) := valO_rel he (by cases lo <;> first | rfl | exact okL_mem hok (by simp [Op.operands]))
      have h2 : OR μ (valO e hi) (hi.map ρ) := valO_rel he (by cases hi <;> first | rfl | exact okL_mem hok (by simp [Op.operands]))
      have h3 : OR μ (valO e mx) (mx.map ρ) := valO_rel he (by cases mx <;> first | rfl | exact okL_mem hok (by simp [Op.operands]))
      simp only [compOp1] at hc
      split at hc
      · rename_i hmx
        have hmx' : (valO e mx).isSome = true → (valO e hi).isSome = true := by
          intro hs
          have := hmx (by cases mx <;> simp_all [valO])
          cases hi <;> simp_all [valO]
        split at hc
        · rename_i e' ht
          rw [Option.map_eq_some_iff] at hc
          obtain ⟨⟨agg, n⟩, hl, hc⟩ := hc
          cases hc
          simp only [opK, Option.bind_eq_some_iff] at hk
          obtain ⟨u, hu, hk⟩ := hk
          cases hk
          obtain ⟨d, i, h4, h5, h6, h7, h8⟩ := layOf_spec hl
          obtain ⟨v', hr, hv⟩ := slicef_sound (P := P) (w := w) hx h1 h2 h3 hmx' hu ht h5 h7 h8
          exact .pure s (run_v hr) hv
        · rename_i ht
          split at hc
          · rename_i hmn
            cases hc
            simp only [opK, Option.bind_eq_some_iff] at hk
            obtain ⟨u, hu, hk⟩ := hk
            cases hk
            obtain ⟨hr, hv⟩ := sliceStrf_sound (P := P) (w := w) hx h1 h2 hu ht
            cases mx with
            | none => exact .pure s (run_v hr) hv
            | some _ => cases hmn
          · cases hc
        · rename_i n' e' ht
          split at hc
          · rename_i hlt
            rw [Option.map_eq_some_iff] at hc
            obtain ⟨⟨agg, n⟩, hl, hc⟩ := hc
            cases hc
            simp only [opK, Option.bind_eq_some_iff] at hk
            obtain ⟨u, hu, hk⟩ := hk
            cases hk
            obtain ⟨d, i, h4, h5, h6, h7, h8⟩ := layOf_spec hl
            obtain ⟨v', hr, hv⟩ := sliceArrf_sound (P := P) (w := w) hx h1 h2 h3 hmx' hu ht h5 h7 hlt
            exact .pure s (run_v hr) hv
          · cases hc
        · cases hc
      · cases hc
    | build t parts =>
      simp only [compOp1] at hc
      split at hc
      · rename_i z0 place hz hp
        rw [Option.map_eq_some_iff] at hc
        obtain ⟨ps, hps, hc⟩ := hc
        cases hc
        simp only [opK, Option.bind_eq_some_iff] at hk
        obtain ⟨l, hl, hk⟩ := hk
        cases hk
        obtain ⟨i, z, h2, h3, rfl, h5, h6, h7, h8⟩ := zeroLay_spec hz
        have hpr := partsOf_spec he hps (by simpa [okL, Op.operands] using hok)
        obtain ⟨cs', hf, hv⟩ := fillf_sound hpr (VRL.of_noRef1 h5) hl
        have hb := built_of hp h2 h3 (parts.toList.map fun x => (x.1, ρ x.2))
        rw [hf] at hb
        refine .pure s (v' := .agg cs') (run_v ?_) (.agg hv)
        refine run_build w t _ cs' ?_
        simpa using hb
      · cases hc
    | buildSlice t n parts =>
      simp only [compOp1] at hc
      split at hc
      · rename_i e' ht
        split at hc
        · rename_i z0 agg sz hz hl
          split at hc
          · rename_i hsmall
            rw [Option.map_eq_some_iff] at hc
            obtain ⟨ps, hps, hc⟩ := hc
            cases hc
            simp only [opK, Option.bind_eq_some_iff] at hk
            obtain ⟨l, hl', hk⟩ := hk
            cases hk
            obtain ⟨i, z, h2, h3, rfl, h5, h6, h7, h8⟩ := zeroLay_spec hz
            obtain ⟨d, i', g1, g2, g3, g4, g5⟩ := layOf_spec hl
            rw [h2] at g2
            cases g2
            subst g4
            have hpr := partsOf_spec he hps (by simpa [okL, Op.operands] using hok)
            have hrep : ((Array.range (n * i.size)).map (z.cells[· % z.cells.size]!)).toList = rep z.cells.toList n := by
              rw [← h6]
              exact rep_eq _ _
            obtain ⟨cs', hf, hv⟩ := fillf_sound (cs := (Array.range (n * i.size)).map (z.cells[· % z.cells.size]!)) hpr (by rw [hrep]; exact (VRL.of_noRef1 h5).rep _) hl'
            have hlen : l.length = cs'.size := by simpa using hv.length
            have hbr : BR P (grow μ h.length w.heap.size 0) 0 (.cells l e' true) (.cells cs' e' (0, 0)) :=
              ⟨_, _, rfl, by omega, by rw [hlen, List.take_of_length_le (by simp)]; exact hv.mono (grow_le s _ _), fun _ => rfl, by omega⟩
            obtain ⟨h9, h10⟩ := s.alloc (w0 := w) rfl Out.rfl hbr
            have hU : n < capU := by
              have : n ≤ n * i.size := Nat.le_mul_of_pos_right _ g5
              unfold capU
              omega
            refine .val (run_v (run_buildSlice w t e' n _ cs' i z ht h2 h3 (by omega) ?_ ?_)) (.sl (grow_new _ _ _) (.inl ⟨hU, rfl⟩)) h9 h10
            · have : 0 < n * i.size := Nat.mul_pos hsmall.2 g5
              omega
            · simpa using hf
          · split at hc
            · rename_i h0
              cases hc
              obtain ⟨rfl, hpe⟩ := h0
              have hpe' : parts = #[] := by
                cases parts with
                | mk l => cases l with
                  | nil => rfl
                  | cons => cases hpe
              subst hpe'
              have hk' : v = .slice (some ⟨h.length, 0, none⟩) 0 0 ∧ h1 = h ++ [.cells [] e' true] := by
                simp only [opK, rep, valP, fillf, Option.bind_some] at hk
                cases hk
                exact ⟨rfl, rfl⟩
              obtain ⟨rfl, rfl⟩ := hk'
              obtain ⟨d, i', g1, g2, g3, g4, g5⟩ := layOf_spec hl
              have hbr : BR P (grow μ h.length w.heap.size 0) 0 (.cells [] e' true) (.cells #[] e' (0, 0)) :=
                ⟨_, _, rfl, by simp, .nil, fun _ => rfl, by omega⟩
              obtain ⟨h9, h10⟩ := s.alloc (w0 := w) rfl Out.rfl hbr
              have hrun : (Instr.buildSlice t 0 #[]).run P w = .ok (.slice (some ⟨w.heap.size, 0, none⟩) 0 0) (w.alloc (.cells #[] e')) := by
                simp [Instr.buildSlice, run_underlying' ht, run_sizeOf' g2, newRow, Instr.fill]
                have he0 : (Array.range 0).map (fun _ => (default : Value)) = #[] := Array.eq_empty_of_size_eq_zero (by simp)
                rw [he0]
              exact .val (run_v (by simpa using hrun)) (.sl (grow_new _ _ _) (.inl ⟨by decide, rfl⟩)) h9 h10
            · cases hc
        · cases hc
      · cases hc
    | makeFunc fn first captured =>
      cases fn with
      | func f =>
        cases hc
        cases hk
        have h2 : okL first.toList = true ∧ okL captured.toList = true := by
          simpa [okL, Op.operands] using hok
        exact .pure s rfl (.func f (by simpa using vals_rel he h2.1) (by simpa using vals_rel he h2.2))
      | _ => cases hc
    | makeMap t r =>
      cases r with
      | some x => cases hc
      | none =>
        cases hc
        cases hk
        obtain ⟨w1, μ1, v', hr, hv, hs, hx⟩ := mkMap_sound (P := P) (w := w) s (t := t)
        exact .val (run_v hr) hv hs hx
    | lookup t x i ok =>
      have hx := hX (x := x) (by simp [Op.operands])
      have hi := hX (x := i) (by simp [Op.operands])
      simp only [compOp1] at hc
      split at hc
      · rename_i key elem ht
        split at hc
        · rename_i k ie hb hie
          split at hc
          · rename_i z hz
            split at hc
            · rename_i hz0
              cases hc
              simp only [opK, Option.bind_eq_some_iff] at hk
              obtain ⟨u, hu, hk⟩ := hk
              cases hk
              cases hkd : P.underlying key with
              | none => rw [hkd] at hb; cases hb
              | some d =>
                rw [hkd] at hb
                obtain ⟨v', hr, hv⟩ := lookupf_sound (P := P) (w := w) s hx hi hu ht hkd hb hie hz (VR.of_noRef hz0)
                exact .pure s (run_v hr) hv
            · cases hc
          · cases hc
        · cases hc
      · cases hc
    | mapUpdate t m k v =>
      have hm := hX (x := m) (by simp [Op.operands])
      have hkk := hX (x := k) (by simp [Op.operands])
      have hvv := hX (x := v) (by simp [Op.operands])
      simp only [compOp1] at hc
      split at hc
      · rename_i key elem ht
        rw [Option.map_eq_some_iff] at hc
        obtain ⟨b, hb, hc⟩ := hc
        cases hc
        simp only [opK, Option.bind_eq_some_iff] at hk
        obtain ⟨u, hu, hk⟩ := hk
        cases hk
        cases hkd : P.underlying key with
        | none => rw [hkd] at hb; cases hb
        | some d =>
          rw [hkd] at hb
          obtain ⟨w1, hr, hs, hxx⟩ := setMapf_sound (P := P) (w := w) s hm hkk hvv hu ht hkd hb
          exact ⟨undef, w1, μ, .inr ⟨by simp [execOp, hr], rfl⟩, .undef, hs, hxx⟩
      · cases hc
    | insert t m k v =>
      have hm := hX (x := m) (by simp [Op.operands])
      have hkk := hX (x := k) (by simp [Op.operands])
      have hvv := hX (x := v) (by simp [Op.operands])
      simp only [compOp1] at hc
      split at hc
      · rename_i key elem ht
        rw [Option.map_eq_some_iff] at hc
        obtain ⟨b, hb, hc⟩ := hc
        cases hc
        simp only [opK, Option.bind_eq_some_iff] at hk
        obtain ⟨u, hu, hk⟩ := hk
        cases hk
        cases hkd : P.underlying key with
        | none => rw [hkd] at hb; cases hb
        | some d =>
          rw [hkd] at hb
          obtain ⟨w1, hr, hs, hxx⟩ := setMapf_sound (P := P) (w := w) s hm hkk hvv hu ht hkd hb
          exact ⟨undef, w1, μ, .inr ⟨by simp [execOp, hr], rfl⟩, .undef, hs, hxx⟩
      · cases hc
    | makeInterface t x =>
      simp only [compOp1] at hc
      split at hc
      · cases hc
      · rename_i d hnot ht
        cases hc
        cases hk
        refine .pure s (run_v ?_) (.iface t (hX (x := x) (by simp [Op.operands])))
        simp only [Instr.makeInterface, Sem.run_bind, run_underlying' ht, Result.andThen_ok]
        cases d <;> first | rfl | exact absurd rfl (hnot _)
      · cases hc
    | box t x =>
      cases hc
      cases hk
      have hx := (hX (x := x) (by simp [Op.operands])).cells'
      have hbr : BR P (grow μ h.length w.heap.size 0) 0 (.cells (cellsL (val e x)) t true) (.cells (ρ x).cells t (0, 0)) :=
        ⟨_, _, rfl, hx.1, hx.2.mono (grow_le s _ _), fun _ => rfl, by omega⟩
      obtain ⟨h9, h10⟩ := s.alloc (w0 := w) rfl Out.rfl hbr
      refine .val (v' := .pointer (some ⟨w.heap.size, 0, none⟩)) (run_v ?_) (.ptr (grow_new _ _ _)) h9 h10
      simp only [Instr.box, newVar, newRow, Sem.run_bind, run_newObj, Result.andThen_ok, Sem.run_pure]
      rfl
    | alloc t =>
      simp only [compOp1, Option.map_eq_some_iff] at hc
      obtain ⟨z0, hz, hc⟩ := hc
      cases hc
      cases hk
      obtain ⟨i, z, h2, h3, rfl, h5, h6, h7, h8⟩ := zeroLay_spec hz
      have hbr : BR P (grow μ h.length w.heap.size 0) 0 (.cells z.cells.toList t true) (.cells z.cells t (0, 0)) :=
        ⟨_, _, rfl, by simp, by rw [List.take_of_length_le (by simp)]; exact VRL.of_noRef1 h5, fun _ => rfl, by omega⟩
      obtain ⟨h9, h10⟩ := s.alloc (w0 := w) rfl Out.rfl hbr
      refine .val (v' := .pointer (some ⟨w.heap.size, 0, none⟩)) (run_v ?_) (.ptr (grow_new _ _ _)) h9 h10
      simp only [Instr.alloc, Sem.run_bind, run_zeroValue' h2 h3, newVar, newRow, run_newObj, Result.andThen_ok, Sem.run_pure]
      rfl
    | makeSlice t n c =>
      simp only [compOp1] at hc
      split at hc
      · rename_i e' ht
        rw [Option.map_eq_some_iff] at hc
        obtain ⟨z0, hz, hc⟩ := hc
        cases hc
        simp only [opK, Option.bind_eq_some_iff] at hk
        obtain ⟨⟨u, h2⟩, hu, hk⟩ := hk
        cases hk
        obtain ⟨i, z, g2, g3, g4, g5, g6, g7, g8⟩ := zeroLay_spec hz
        obtain ⟨v', w1, μ1, hr, hv, hs, hx⟩ := mkSlicef_sound (P := P) (w := w) s (hX (x := n) (by simp [Op.operands])) (hX (x := c) (by simp [Op.operands])) hu ht g2 g3 g4 g6 g8 g5
        exact .val (run_v hr) hv hs hx
      · cases hc
    | load t x =>
      simp only [compOp1, Option.map_eq_some_iff] at hc
      obtain ⟨⟨agg, n⟩, hl, hc⟩ := hc
      cases hc
      simp only [opK, Option.bind_eq_some_iff] at hk
      obtain ⟨u, hu, hk⟩ := hk
      cases hk
      obtain ⟨d, i, h1, h2, h3, h4, h5⟩ := layOf_spec hl
      obtain ⟨v', hr, hv⟩ := loadf_sound s (hX (x := x) (by simp [Op.operands])) hu h1 h2 h3 h4
      exact .pure s (by simp [execOp, hr]) hv
    | store t x y =>
      simp only [compOp1, Option.map_eq_some_iff] at hc
      obtain ⟨⟨agg, n⟩, hl, hc⟩ := hc
      cases hc
      simp only [opK, Option.bind_eq_some_iff] at hk
      obtain ⟨u, hu, hk⟩ := hk
      cases hk
      obtain ⟨d, i, h1, h2, h3, h4, h5⟩ := layOf_spec hl
      obtain ⟨w', hr, hs, hx⟩ := storef_sound s (hX (x := x) (by simp [Op.operands])) (hX (x := y) (by simp [Op.operands])) hu h2 h4 h5
      exact ⟨undef, w', μ, .inr ⟨by simp [execOp, hr], rfl⟩, VR.undef, hs, hx⟩
    | call c =>
      obtain ⟨callee, args, argTypes⟩ := c
      cases callee with
      | value f =>
        cases f with
        | func g =>
          simp only [compOp1] at hc
          split at hc
          · cases hc; cases hn
          · cases hc
        | _ => cases hc; cases hn
      | invoke _ _ => cases hc
      | builtin b =>
        have hargs : ∀ {x : Operand}, x ∈ args.toList → VR μ (val e x) (ρ x) := fun hx => hX (by simpa [Op.operands, Call.operands] using hx)
        have hall : okL args.toList = true := by simpa [okL, Op.operands, Call.operands] using hok
        obtain ⟨args⟩ := args
        simp only [compOp1, compBuiltin] at hc
        split at hc
        · rename_i x
          have hx := hargs (x := x) (by simp)
          split at hc
          · rename_i t
            split at hc
            · rename_i ht
              cases hc
              simp only [opK, Option.bind_eq_some_iff] at hk
              obtain ⟨u, hu, hk⟩ := hk
              cases hk
              obtain ⟨hr, hv⟩ := lenf_sound (P := P) (w := w) (ty := type) hx hu (by simpa using ht)
              exact .pure s (run_builtin (run_v hr)) hv
            · rename_i e' ht
              cases hc
              simp only [opK, Option.bind_eq_some_iff] at hk
              obtain ⟨u, hu, hk⟩ := hk
              cases hk
              obtain ⟨hr, hv⟩ := lenf_sound (P := P) (w := w) (ty := type) hx hu (by simpa using ⟨e', ht⟩)
              exact .pure s (run_builtin (run_v hr)) hv
            · rename_i n e' ht
              cases hc
              cases hk
              refine .pure s (v' := .int .i64 n) (run_builtin (run_v ?_)) (.int _ _)
              simp [Builtin.len_, run_underlying' ht, goInt]
            · rename_i k' e' ht
              cases hc
              simp only [opK, Option.bind_eq_some_iff] at hk
              obtain ⟨u, hu, hk⟩ := hk
              cases hk
              obtain ⟨hr, hv⟩ := lenMapf_sound (P := P) (w := w) (ty := type) s hx hu ht
              exact .pure s (run_builtin (run_v hr)) hv
            · cases hc
          · cases hc
        · rename_i x y
          have hx := hargs (x := x) (by simp)
          have hy := hargs (x := y) (by simp)
          have key : ∀ (st xt elem : TypeId) (dx : TypeDesc) (z0 : List Value) (l : Bool × Nat), argTypes = #[st, xt] → P.underlying st = some (.slice elem) → P.underlying xt = some dx → (∀ k, dx ≠ .int k) → zeroLay P elem = some z0 → layOf P elem = some l →
              ∀ u, appendf elem l.2 (val e x) (val e y) h = some u → OpGoes P ⟨dst, .call ⟨.builtin .append, ⟨[x, y]⟩, argTypes⟩, type, pos, after, guard⟩ ρ μ h w u.1 u.2 := by
            rintro st xt elem dx z0 ⟨agg, n⟩ rfl h1 h2 h3 h4 h5 ⟨u1, u2⟩ hu
            obtain ⟨i, z, g2, g3, g4, g5, g6, g7, g8⟩ := zeroLay_spec h4
            obtain ⟨d, i', k1, k2, k3, k4, k5⟩ := layOf_spec h5
            rw [g2] at k2
            cases k2
            obtain ⟨v', w1, μ1, hr, hv, hs, hxx⟩ := appendf_sound (P := P) (w := w) (ty := type) s hx hy hu h1 h2 h3 g2 k4 g3 g6 g8
            exact .val (run_builtin (run_v hr)) hv hs hxx
          split at hc
          · rename_i st xt
            split at hc
            · rename_i e' e'' h1 h2
              split at hc
              · rename_i z0 agg n h3 h4
                cases hc
                simp only [opK, Option.bind_eq_some_iff] at hk
                obtain ⟨u, hu, hk⟩ := hk
                cases hk
                exact key _ _ _ _ _ _ rfl h1 h2 (by simp) h3 h4 u hu
              · cases hc
            · rename_i e' h1 h2
              split at hc
              · rename_i z0 agg n h3 h4
                cases hc
                simp only [opK, Option.bind_eq_some_iff] at hk
                obtain ⟨u, hu, hk⟩ := hk
                cases hk
                exact key _ _ _ _ _ _ rfl h1 h2 (by simp) h3 h4 u hu
              · cases hc
            · rename_i e' k' h1 h2
              split at hc
              · rename_i z0 agg n h3 h4
                cases hc
                simp only [opK, Option.bind_eq_some_iff] at hk
                obtain ⟨⟨u1, u2⟩, hu, hk⟩ := hk
                cases hk
                obtain ⟨i, z, g2, g3, g4, g5, g6, g7, g8⟩ := zeroLay_spec h3
                obtain ⟨d, i', k1, k2, k3, k4, k5⟩ := layOf_spec h4
                rw [g2] at k2
                cases k2
                obtain ⟨v', w1, μ1, hr, hv, hs, hxx⟩ := appendNf_sound (P := P) (w := w) (ty := type) s hx hy hu h1 h2 g2 k4 g3 g6 g8 g4 g5
                exact .val (run_builtin (run_v hr)) hv hs hxx
              · cases hc
            · cases hc
          · cases hc
        · rename_i x y
          have hx := hargs (x := x) (by simp)
          have hy := hargs (x := y) (by simp)
          split at hc
          · rename_i dt xt
            split at hc
            · rename_i e' h1
              rw [Option.map_eq_some_iff] at hc
              obtain ⟨⟨agg, n⟩, hl, hc⟩ := hc
              cases hc
              simp only [opK, Option.bind_eq_some_iff] at hk
              obtain ⟨⟨u1, u2⟩, hu, hk⟩ := hk
              cases hk
              obtain ⟨d, i', k1, k2, k3, k4, k5⟩ := layOf_spec hl
              obtain ⟨w1, hr, hv, hs, hxx⟩ := copyf_sound (P := P) (w := w) (ty := type) (xt := xt) s hx hy hu h1 k2 k4
              exact .val (run_builtin (run_v hr)) hv hs hxx
            · cases hc
          · cases hc
        · rename_i x
          have hx := hargs (x := x) (by simp)
          split at hc
          · rename_i t
            split at hc
            · rename_i e' h1
              rw [Option.map_eq_some_iff] at hc
              obtain ⟨z0, hz0, hc⟩ := hc
              cases hc
              simp only [opK, Option.bind_eq_some_iff] at hk
              obtain ⟨⟨u1, u2⟩, hu, hk⟩ := hk
              cases hk
              obtain ⟨i, z, h2, h3, rfl, h5, h6, h7, h8⟩ := zeroLay_spec hz0
              obtain ⟨w1, hr, hv, hs, hxx⟩ := clearf_sound (P := P) (w := w) (ty := type) s hx h1 h2 h3 h5 hu
              exact .val (run_builtin (run_v hr)) hv hs hxx
            · cases hc
          · cases hc
        · cases hc
          simp only [opK, Option.bind_eq_some_iff] at hk
          obtain ⟨u, hu, hk⟩ := hk
          cases hk
          have hvs := vals_rel he hall
          cases args with
          | nil => cases hu
          | cons x xs =>
            cases hvs with
            | cons h1 h2 =>
              obtain ⟨v', hr, hv⟩ := foldf_sound (P := P) (w := w) (g := Builtin.max2) (fun x y x' y' v hx hy h => max2f_sound hx hy h) h1 h2 hu
              refine .pure s (run_builtin (run_v ?_)) hv
              simpa [Builtin.max_] using hr
        · cases hc
          simp only [opK, Option.bind_eq_some_iff] at hk
          obtain ⟨u, hu, hk⟩ := hk
          cases hk
          have hvs := vals_rel he hall
          cases args with
          | nil => cases hu
          | cons x xs =>
            cases hvs with
            | cons h1 h2 =>
              obtain ⟨v', hr, hv⟩ := foldf_sound (P := P) (w := w) (g := Builtin.min2) (fun x y x' y' v hx hy h => min2f_sound hx hy h) h1 h2 hu
              refine .pure s (run_builtin (run_v ?_)) hv
              simpa [Builtin.min_] using hr
        · cases hc
    | panic x => cases hc; simp only [opK] at hk; cases hk
    | _ => cases hc
  · cases hc

end Go.Am
