/- Slices that are built: a slice whose block is the builder's own; append; Clone. -/
import Derived.Test.YteedbdkhlgongaaAm29
set_option linter.unusedSimpArgs false
set_option linter.unusedVariables false
namespace Go.Am

theorem oneC_of_noRef1 {x : Value} (h : noRef1 x = true) : oneC x = true := by
  cases x <;> first | rfl | (simp [noRef1] at h)
theorem R.oneC {S : Nat → Prop} {h : AHeap} {x : Value} {d : Dat} (r : R S h x d) : oneC x = true := by
  cases r with
  | v hx => exact oneC_of_noRef1 hx
  | nil => rfl
  | sl0 => rfl
  | sl => rfl
theorem RL.oneC {S : Nat → Prop} {h : AHeap} {xs : List Value} {ds : List Dat} (r : RL S h xs ds) : xs.all Go.Am.oneC = true := by
  induction xs generalizing ds with
  | nil => rfl
  | cons x xs ih => cases r with | cons hx hs => simp [R.oneC hx, ih hs]

/-- The block of a slice. -/
def ownB (x : Value) (b : Nat) : Prop := ∃ o n c, x = .slice (some ⟨b, o, none⟩) n c
/-- x is a slice with these rows that nobody else reads or writes; its block is at N or behind. -/
def Own (N : Nat) (t : TypeId) (size : Nat) (S : Nat → Prop) (h : AHeap) (x : Value) (rows : List (List Dat)) : Prop :=
  (∀ q ∈ rows, q.length = size) ∧
  ((x = .slice none 0 0 ∧ rows = []) ∨
    ∃ b c cs, x = .slice (some ⟨b, 0, none⟩) rows.length c ∧ N ≤ b ∧ ¬ S b ∧ h[b]? = some (.cells cs t true) ∧ rows.length * size ≤ cs.length ∧
      RL S h (cs.take (rows.length * size)) rows.flatten ∧ ((c = capU ∧ 0 < rows.length) ∨ (c < capU ∧ rows.length ≤ c ∧ cs.length = c * size)))
theorem Own.nil (N : Nat) (t : TypeId) (size : Nat) (S : Nat → Prop) (h : AHeap) : Own N t size S h (.slice none 0 0) [] := ⟨(fun q hq => by cases hq), .inl ⟨rfl, rfl⟩⟩
theorem Own.mono {N N' : Nat} {t : TypeId} {size : Nat} {S S' : Nat → Prop} {h h' : AHeap} {x : Value} {rows : List (List Dat)} (o : Own N t size S h x rows) (hN : N' ≤ N) (hx : ∀ b, ownB x b → h'[b]? = h[b]? ∧ ¬ S' b) (hS : ∀ b, S b → S' b ∧ h'[b]? = h[b]?) : Own N' t size S' h' x rows := by
  obtain ⟨h0, h1⟩ := o
  refine ⟨h0, ?_⟩
  rcases h1 with h1 | ⟨b, c, cs, rfl, hb, _, hh, hl, hr, hc⟩
  · exact .inl h1
  · obtain ⟨q1, q2⟩ := hx b ⟨0, _, _, rfl⟩
    exact .inr ⟨b, c, cs, rfl, by omega, q2, by rw [q1, hh], hl, hr.mono hS, hc⟩
theorem Own.lt {N : Nat} {t : TypeId} {size : Nat} {S : Nat → Prop} {h : AHeap} {x : Value} {rows : List (List Dat)} (o : Own N t size S h x rows) {b : Nat} (hb : ownB x b) : N ≤ b ∧ b < h.length ∧ ¬ S b := by
  obtain ⟨o', n, c', rfl⟩ := hb
  rcases o.2 with ⟨h1, _⟩ | ⟨b', c, cs, h1, hb, hs, hh, _⟩
  · cases h1
  · cases h1; exact ⟨hb, (List.getElem?_eq_some_iff.1 hh).1, hs⟩
/-- What is built is read. -/
theorem Own.read {N : Nat} {t : TypeId} {size : Nat} {S S' : Nat → Prop} {h : AHeap} {x : Value} {rows : List (List Dat)} (o : Own N t size S h x rows) (hm : rows.length ≤ mostLen) (hS : ∀ b, S b → S' b) (hx : ∀ b, ownB x b → S' b) : R S' h x (.sl rows) := by
  obtain ⟨h0, h1⟩ := o
  rcases h1 with ⟨rfl, rfl⟩ | ⟨b, c, cs, rfl, hb, _, hh, hl, hr, hc⟩
  · exact .nil
  · have hlen : (cs.take (rows.length * size)).length = rows.length * size := by rw [List.length_take]; omega
    refine .sl (vs := cs.take (rows.length * size)) rfl (hx b ⟨0, _, _, rfl⟩) (by rcases hc with ⟨rfl, _⟩ | ⟨_, h, _⟩ <;> first | (unfold capU; unfold mostLen at hm; omega) | exact h) ?_ (hr.mono fun b hb => ⟨hS b hb, rfl⟩)
    unfold readN
    rw [hh]
    simp only [Nat.zero_add, List.drop_zero]
    rw [hlen, if_pos hl]
theorem set_get_ne {h : AHeap} {b b' : Nat} {k : ABlk} (hne : b' ≠ b) : (h.set b k)[b']? = h[b']? := by rw [List.getElem?_set_ne (by omega)]
theorem app_get {h l : AHeap} {b : Nat} (hb : b < h.length) : (h ++ l)[b]? = h[b]? := List.getElem?_append_left hb
theorem take_all {cs ws : List Value} {rows rows2 : List (List Dat)} {size : Nat} (hl : rows.length * size ≤ cs.length) (hwl : ws.length = rows2.length * size) : (cs.take (rows.length * size) ++ ws).take ((rows ++ rows2).length * size) = cs.take (rows.length * size) ++ ws :=
  List.take_of_length_le (by rw [List.length_append, List.length_append, List.length_take, hwl, Nat.add_mul]; omega)
/-- append to a slice of one's own. -/
theorem own_appendc {N : Nat} {t : TypeId} {size : Nat} {S : Nat → Prop} {h : AHeap} {x : Value} {rows rows2 : List (List Dat)} {ws : List Value} (o : Own N t size S h x rows) (hS : ∀ b, S b → b < h.length) (hN : N ≤ h.length)
    (hr : RL S h ws rows2.flatten) (hq : ∀ q ∈ rows2, q.length = size) (hm : rows.length + rows2.length ≤ mostLen) :
    ∃ x' h', appendc t size x rows2.length ws h = some (x', h') ∧ Own N t size S h' x' (rows ++ rows2) ∧ h.length ≤ h'.length ∧ (∀ b, b < h.length → ¬ ownB x b → h'[b]? = h[b]?) ∧ (∀ b, ownB x' b → ownB x b ∨ h.length ≤ b) := by
  obtain ⟨h0, h1⟩ := o
  have hall : ∀ q ∈ rows ++ rows2, q.length = size := fun q hq' => by
    rcases List.mem_append.1 hq' with h | h
    · exact h0 q h
    · exact hq q h
  have hwl : ws.length = rows2.length * size := by rw [hr.length, flatten_len hq]
  rcases h1 with ⟨rfl, rfl⟩ | ⟨b, c, cs, rfl, hb, hsb, hh, hl, hrr, hc⟩
  · by_cases hz : rows2.length = 0
    · have : rows2 = [] := List.eq_nil_of_length_eq_zero hz
      subst this
      refine ⟨.slice none 0 0, h, ?_, ⟨hall, .inl ⟨rfl, rfl⟩⟩, Nat.le_refl _, fun _ _ _ => rfl, fun b hb => by obtain ⟨_, _, _, hb⟩ := hb; cases hb⟩
      simp [appendc, capU]
    · refine ⟨.slice (some ⟨h.length, 0, none⟩) (0 + rows2.length) capU, h ++ [.cells ([] ++ ws) t true], ?_, ⟨hall, .inr ⟨h.length, capU, ws, by simp, hN, fun hs => absurd (hS _ hs) (by omega), by simp, by simp [hwl], ?_, .inl ⟨rfl, by simp; omega⟩⟩⟩, by simp,
        fun b hb _ => app_get hb, fun b hb => .inr (by obtain ⟨_, _, _, hb⟩ := hb; cases hb; exact Nat.le_refl _)⟩
      · simp only [appendc]
        rw [if_neg (by simp [capU]), if_neg (by omega), if_pos (by simpa using hm)]
        rfl
      · simp only [List.nil_append]
        rw [← hwl, List.take_length]
        exact hr.mono fun b hb => ⟨hb, app_get (hS b hb)⟩
  · have hbl : b < h.length := (List.getElem?_eq_some_iff.1 hh).1
    by_cases hz : rows2.length = 0
    · have : rows2 = [] := List.eq_nil_of_length_eq_zero hz
      subst this
      refine ⟨.slice (some ⟨b, 0, none⟩) rows.length c, h, ?_, ⟨hall, .inr ⟨b, c, cs, by simp, hb, hsb, hh, by simpa using hl, by simpa using hrr, by simpa using hc⟩⟩, Nat.le_refl _, fun _ _ _ => rfl, fun b' hb' => .inl hb'⟩
      simp only [appendc, List.length_nil, Nat.add_zero, if_true]
      rcases hc with ⟨rfl, _⟩ | ⟨hc1, hc2, _⟩
      · rw [if_pos rfl]
      · rw [if_neg (by omega), if_pos hc2]; rfl
    · rcases hc with ⟨rfl, hc⟩ | ⟨hc1, hc2, hc3⟩
      · refine ⟨.slice (some ⟨h.length, 0, none⟩) (rows.length + rows2.length) capU, h.set b .dead ++ [.cells (cs.take (rows.length * size) ++ ws) t true], ?_, ⟨hall, .inr ⟨h.length, capU, cs.take (rows.length * size) ++ ws, by simp, hN, fun hs => absurd (hS _ hs) (by omega), ?_, ?_, ?_, .inl ⟨rfl, by simp; omega⟩⟩⟩,
          by simp, fun b' hb' hnb => ?_, fun b' hb' => .inr (by obtain ⟨_, _, _, hb'⟩ := hb'; cases hb'; exact Nat.le_refl _)⟩
        · simp only [appendc, if_true, hh]
          rw [if_neg hz, if_pos ⟨hl, hm, trivial, hc, hr.oneC⟩]
        · have e : (h.set b ABlk.dead).length = h.length := by simp
          rw [← e, List.getElem?_concat_length]
        · rw [List.length_append, List.length_append, List.length_take, hwl, Nat.add_mul]; omega
        · rw [take_all hl hwl, List.flatten_append]
          refine (hrr.append hr).mono fun b' hb' => ⟨hb', ?_⟩
          have hne : b' ≠ b := fun e => hsb (e ▸ hb')
          rw [app_get (by simpa using hS b' hb'), set_get_ne hne]
        · have hne : b' ≠ b := fun e => hnb ⟨0, _, _, by rw [e]⟩
          rw [app_get (by simpa using hb'), set_get_ne hne]
      · by_cases hfit : rows.length + rows2.length ≤ c
        · have hfits : rows.length * size + ws.length ≤ cs.length := by
            rw [hc3, hwl, ← Nat.add_mul]; exact Nat.mul_le_mul_right _ hfit
          refine ⟨.slice (some ⟨b, 0, none⟩) (rows.length + rows2.length) c, h.set b (.cells (cs.take (rows.length * size) ++ ws ++ cs.drop (rows.length * size + ws.length)) t true), ?_,
            ⟨hall, .inr ⟨b, c, cs.take (rows.length * size) ++ ws ++ cs.drop (rows.length * size + ws.length), by simp, hb, hsb, ?_, ?_, ?_, .inr ⟨hc1, by simpa using hfit, ?_⟩⟩⟩, by simp, fun b' hb' hnb => ?_, fun b' hb' => .inl (by obtain ⟨_, _, _, hb'⟩ := hb'; cases hb'; exact ⟨_, _, _, rfl⟩)⟩
          · simp only [appendc, Nat.zero_add]
            rw [if_neg (by omega), if_pos hfit, if_neg hz]
            simp only [writeN, hh]
            rw [if_pos ⟨hfits, hr.oneC⟩]
            rfl
          · rw [List.getElem?_set_self hbl]
          · simp only [List.length_append, List.length_take, List.length_drop, Nat.add_mul] ; omega
          · have e : (cs.take (rows.length * size) ++ ws ++ cs.drop (rows.length * size + ws.length)).take ((rows ++ rows2).length * size) = cs.take (rows.length * size) ++ ws := by
              have e2 : (rows ++ rows2).length * size = (cs.take (rows.length * size) ++ ws).length := by rw [List.length_append, List.length_append, List.length_take, hwl, Nat.add_mul]; omega
              rw [e2, List.take_left]
            rw [e, List.flatten_append]
            refine (hrr.append hr).mono fun b' hb' => ⟨hb', ?_⟩
            exact set_get_ne fun e => hsb (e ▸ hb')
          · simp only [List.length_append, List.length_take, List.length_drop]; omega
          · exact set_get_ne fun e => hnb ⟨0, _, _, by rw [e]⟩
        · have hold : firstf size rows.length (.slice (some ⟨b, 0, none⟩) rows.length c) h = some (cs.take (rows.length * size)) := by
            simp only [firstf]
            by_cases hr0 : rows.length = 0
            · rw [if_pos hr0, hr0]; simp
            · rw [if_neg hr0, if_pos (Nat.le_refl _)]
              unfold readN
              rw [hh]
              simp only [Nat.zero_add, List.drop_zero]
              rw [if_pos hl]
          refine ⟨.slice (some ⟨h.length, 0, none⟩) (rows.length + rows2.length) capU, h ++ [.cells (cs.take (rows.length * size) ++ ws) t true], ?_, ⟨hall, .inr ⟨h.length, capU, cs.take (rows.length * size) ++ ws, by simp, hN, fun hs => absurd (hS _ hs) (by omega), by simp, ?_, ?_, .inl ⟨rfl, by simp; omega⟩⟩⟩,
            by simp, fun b' hb' hnb => app_get hb', fun b' hb' => .inr (by obtain ⟨_, _, _, hb'⟩ := hb'; cases hb'; exact Nat.le_refl _)⟩
          · simp only [appendc]
            rw [if_neg (by omega), if_neg hfit, if_pos hm, hold]
            rfl
          · rw [List.length_append, List.length_append, List.length_take, hwl, Nat.add_mul]; omega
          · rw [take_all hl hwl, List.flatten_append]
            exact (hrr.append hr).mono fun b' hb' => ⟨hb', app_get (hS b' hb')⟩

theorem own_append {N : Nat} {t : TypeId} {size : Nat} {S : Nat → Prop} {h : AHeap} {x v : Value} {rows rows2 : List (List Dat)} {ws : List Value} (o : Own N t size S h x rows) (hS : ∀ b, S b → b < h.length) (hN : N ≤ h.length)
    (hlen : lenOf v = some rows2.length) (hf : firstf size rows2.length v h = some ws) (hr : RL S h ws rows2.flatten) (hq : ∀ q ∈ rows2, q.length = size) (hm : rows.length + rows2.length ≤ mostLen) :
    ∃ x' h', appendf t size x v h = some (x', h') ∧ Own N t size S h' x' (rows ++ rows2) ∧ h.length ≤ h'.length ∧ (∀ b, b < h.length → ¬ ownB x b → h'[b]? = h[b]?) ∧ (∀ b, ownB x' b → ownB x b ∨ h.length ≤ b) := by
  obtain ⟨x', h', g1, g2⟩ := own_appendc o hS hN hr hq hm
  exact ⟨x', h', by simp only [appendf, hlen, hf, Option.bind_some]; exact g1, g2⟩
/-- append(s, make([]T, k)...). -/
theorem own_appendN {N : Nat} {t : TypeId} {size k : Nat} {S : Nat → Prop} {h : AHeap} {x : Value} {rows : List (List Dat)} {zero : List Value} {q : List Dat} (o : Own N t size S h x rows) (hS : ∀ b, S b → b < h.length) (hN : N ≤ h.length)
    (hz : RL S h zero q) (hq : q.length = size) (hm : rows.length + k ≤ mostLen) :
    ∃ x' h', appendNf t size zero x (.int .i64 k) h = some (x', h') ∧ Own N t size S h' x' (rows ++ List.replicate k q) ∧ h.length ≤ h'.length ∧ (∀ b, b < h.length → ¬ ownB x b → h'[b]? = h[b]?) ∧ (∀ b, ownB x' b → ownB x b ∨ h.length ≤ b) := by
  have hrep : ∀ k, RL S h (rep zero k) (List.replicate k q).flatten := by
    intro k
    induction k with
    | zero => exact .nil
    | succ k ih => rw [List.replicate_succ, List.flatten_cons]; exact hz.append ih
  obtain ⟨x', h', g1, g2⟩ := own_appendc (rows2 := List.replicate k q) o hS hN (hrep k) (fun r hr => by rw [(List.mem_replicate.1 hr).2]; exact hq) (by simpa using hm)
  refine ⟨x', h', ?_, g2⟩
  simp only [appendNf]
  rw [if_pos (by omega), Int.toNat_natCast]
  simpa using g1

/-- A slice literal of no elements, to which a slice is appended. -/
theorem own_empty {N : Nat} {t : TypeId} {size : Nat} {S : Nat → Prop} {h : AHeap} (hS : ∀ b, S b → b < h.length) (hN : N ≤ h.length) : Own N t size S (h ++ [.cells [] t true]) (.slice (some ⟨h.length, 0, none⟩) 0 0) [] :=
  ⟨(fun q hq => by cases hq), .inr ⟨h.length, 0, [], rfl, hN, fun hs => absurd (hS _ hs) (by omega), by simp, by simp, (by rw [List.take_nil]; exact .nil), .inr ⟨by decide, by simp, by simp⟩⟩⟩
/-- What slices.Clone does. -/
noncomputable def cloneK (t : TypeId) (size : Nat) (x0 : Value) (h : AHeap) : Rt :=
 (isNilKf .slice false x0).bind fun v0 =>
 JL (fun w2 h3 =>
 (fillf (rep [] 0) []).bind fun l4 =>
 fork (.slice (some ⟨h3.length, 0, none⟩) 0 0) (h3 ++ [.cells l4 t true]) fun v5 h6 =>
 (appendf t size v5 x0 h6).bind fun p7 =>
 fin h p7.2 [p7.1]) fun j1 =>
 ifK v0 (
 fin h h [((.slice none 0 0) : Value)]) (
 j1 [] h)
theorem fin_ref {h0 h : AHeap} {x : Value} (hn : noRef x = false) : fin h0 h [x] = some (x, h) := by
  unfold fin gc
  rw [if_neg (by rintro ⟨h, _⟩; rw [show single [x] = x from rfl, hn] at h; cases h)]
  rfl
theorem own_noRef {N : Nat} {t : TypeId} {size : Nat} {S : Nat → Prop} {h : AHeap} {x : Value} {rows : List (List Dat)} (o : Own N t size S h x rows) {b : Nat} (hb : ownB x b) : noRef x = false := by
  obtain ⟨_, _, _, rfl⟩ := hb
  rfl
theorem prefix_of_get {h h' : AHeap} (hl : h.length ≤ h'.length) (hg : ∀ b, b < h.length → h'[b]? = h[b]?) : h <+: h' := by
  refine List.prefix_iff_eq_take.2 (List.ext_getElem? fun i => ?_)
  rw [List.getElem?_take]
  split
  · rename_i hi; exact (hg i hi).symm
  · rename_i hi; exact List.getElem?_eq_none (by omega)
/-- fin gives the heap back, or keeps what is new. -/
theorem fin_own {h0 h : AHeap} {x : Value} (hp : h0 <+: h) : ∃ h', fin h0 h [x] = some (x, h') ∧ ((noRef x = true ∧ h' = h0) ∨ (noRef x = false ∧ h' = h)) := by
  by_cases hn : noRef x = true
  · exact ⟨h0, by rw [fin_gc (by exact hn) hp]; rfl, .inl ⟨hn, rfl⟩⟩
  · have hn' : noRef x = false := by cases h : noRef x with | true => exact absurd h hn | false => rfl
    exact ⟨h, fin_ref hn', .inr ⟨hn', rfl⟩⟩
theorem clone_ok {t : TypeId} {size : Nat} {S : Nat → Prop} {h : AHeap} {x : Value} {rows : List (List Dat)} (hs : ∀ q ∈ rows, q.length = size) (r : R S h x (.sl rows)) (hS : ∀ b, S b → b < h.length) (hm : rows.length ≤ mostLen) :
    ∃ y h', cloneK t size x h = some (y, h') ∧ h <+: h' ∧ Own h.length t size S h' y rows := by
  obtain ⟨nl, h1, h2⟩ := r.isNil false
  unfold cloneK
  simp only [h1, Option.bind_some, JL, ifK_bool]
  cases nl with
  | true =>
    obtain ⟨rfl, rfl⟩ := h2 rfl
    simp only [bne_self_eq_false, Bool.false_eq_true, if_true, Bool.false_bne]
    exact ⟨_, h, fin_self _ _, List.prefix_refl _, Own.nil _ _ _ _ _⟩
  | false =>
    simp only [bne_self_eq_false, Bool.false_eq_true, if_false, rep, fillf, Option.bind_some, fork]
    have r' : R S (h ++ [.cells [] t true]) x (.sl rows) := r.pre (pre_app _ _) hS
    obtain ⟨ws, g1, g2⟩ := r'.first hs
    obtain ⟨x', h', g3, g4, g5, g6, g7⟩ := own_append (own_empty (t := t) (size := size) hS (Nat.le_refl _)) (fun b hb => by have := hS b hb; simp; omega) (by simp) r'.lenOf g1 g2 hs (by simpa using hm)
    rw [g3]
    simp only [Option.bind_some]
    have hp : h <+: h' := by
      refine prefix_of_get (by simp at g5; omega) fun b hb => ?_
      rw [g6 b (by simp; omega) (by rintro ⟨_, _, _, e⟩; cases e; omega), app_get hb]
    obtain ⟨h'', e1, e2⟩ := fin_own (x := x') hp
    refine ⟨x', h'', e1, ?_, ?_⟩
    · rcases e2 with ⟨_, rfl⟩ | ⟨_, rfl⟩
      · exact List.prefix_refl _
      · exact hp
    · rcases e2 with ⟨e3, rfl⟩ | ⟨_, rfl⟩
      · simp only [List.nil_append] at g4
        rcases g4.2 with ⟨rfl, rfl⟩ | ⟨b, c, cs, rfl, _⟩
        · exact Own.nil _ _ _ _ _
        · cases e3
      · simpa using g4

end Go.Am
