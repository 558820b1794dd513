/- The machine (MvB): parts of one text. -/
import Derived.Test.YtaacaogceplhoaaMvA
set_option linter.unusedSimpArgs false
set_option linter.unusedVariables false
/- Each memory operation of the value machine is one of the abstract machine. -/
namespace Go.Vm
open Go.Am
variable {μ : Ren} {φ : Frz} {hp : PHeap} {ha : AHeap}

/-- A row of cells lies there. -/
def Win (μ : Ren) (φ : Frz) (ha : AHeap) (a o : Nat) (row : List PV) : Prop := ∃ vs t rw, ha[a]? = some (.cells vs t rw) ∧ o + row.length ≤ vs.length ∧ PRL μ φ row ((vs.drop o).take row.length)
theorem Win.load {a o : Nat} {row : List PV} (w : Win μ φ ha a o row) {agg : Bool} {off n : Nat} {v : PV} (h : partP agg off n row = some v) : ∃ v', loadf agg n (.pointer (some ⟨a, o + off, none⟩)) ha = some v' ∧ PR μ φ v v' := by
  obtain ⟨vs, t, rw_, h1, h2, h3⟩ := w
  unfold partP at h
  cases agg with
  | true =>
    simp only at h
    split at h
    · rename_i hle
      cases h
      have h4 := (h3.drop off).take n
      rw [List.drop_take, List.take_take, List.drop_drop, Nat.min_eq_left (by omega)] at h4
      refine ⟨.agg ((vs.drop (o + off)).take n).toArray, ?_, .agg h4⟩
      simp only [loadf, readN, h1]
      rw [if_pos (by omega)]
      rfl
    · cases h
  | false =>
    simp only at h
    obtain ⟨y, k1, k2⟩ := h3.get h
    refine ⟨y, ?_, k2⟩
    rw [List.getElem?_take, if_pos (some_lt h), List.getElem?_drop] at k1
    simp only [loadf, readC, h1]
    exact k1
theorem win_box {b : Nat} {vs : List PV} {t : TypeId} {md : Md} {l : Am.Loc} (s : Rel μ φ hp ha) (hb : hp[b]? = some (.box vs t md)) (e : μ b 0 = some (some l)) : Win μ φ ha l.blk 0 vs := by
  rcases s.rel b _ hb (by simp) with ⟨_, _, _, _, h⟩ | ⟨l', blk', h1, h2, h3⟩
  · cases h
  · have : μ b 0 = some (some l') := h1
    rw [e] at this
    cases this
    obtain ⟨vs', rw_, rfl, k1, k2, k3⟩ := h3
    exact ⟨vs', t, rw_, h2, by omega, by simpa using k2⟩
/-- A slice's rows lie there. -/
theorem log_at {b : Nat} {rows : List (List PV)} {sz : Nat} {t : TypeId} {md : Md} {l : Am.Loc} (s : Rel μ φ hp ha) (hb : hp[b]? = some (.log rows sz t md)) (e : μ b rows.length = some (some l)) :
    ∃ vs rw, ha[l.blk]? = some (.cells vs t rw) ∧ rows.length * sz ≤ vs.length ∧ PRL μ φ rows.flatten (vs.take (rows.length * sz)) ∧ (∀ r ∈ rows, r.length = sz) ∧ l.K * sz ≤ vs.length ∧ (ownMd md = true → rw = true) ∧ rows.length ≤ mostLen := by
  rcases s.rel b _ hb (by simp) with ⟨h, _⟩ | ⟨l', blk', h1, h2, h3⟩
  · have : μ b rows.length = some none := h
    rw [e] at this
    cases this
  · have : μ b rows.length = some (some l') := h1
    rw [e] at this
    cases this
    obtain ⟨vs', rw_, rfl, k1, k2, k3, k4, k5, k6⟩ := h3
    exact ⟨vs', rw_, h2, k1, k2, k3, k4, k5, k6⟩
theorem win_log {b i : Nat} {rows : List (List PV)} {row : List PV} {sz : Nat} {t : TypeId} {md : Md} {l : Am.Loc} (s : Rel μ φ hp ha) (hb : hp[b]? = some (.log rows sz t md)) (e : μ b rows.length = some (some l)) (hi : rows[i]? = some row) : Win μ φ ha l.blk (i * sz) row := by
  obtain ⟨vs, rw_, h1, h2, h3, h4, _⟩ := log_at s hb e
  have hr := PRL.row (o := 0) h4 (by simpa using h3) hi
  have e1 := h4 row (List.mem_of_getElem? hi)
  have := row_le (size := sz) (some_lt hi)
  exact ⟨vs, t, rw_, h1, by omega, by rw [e1]; simpa using hr⟩
theorem loadP_sim (s : Rel μ φ hp ha) {agg : Bool} {n : Nat} {x v : PV} {x' : Value} (hx : PR μ φ x x') (h : loadP agg n x hp = some v) : ∃ v', loadf agg n x' ha = some v' ∧ PR μ φ v v' := by
  unfold loadP at h
  split at h
  · rename_i b o
    simp only [Option.bind_eq_some_iff] at h
    obtain ⟨vs, h1, h2⟩ := h
    cases hx with | @ptr _ _ l hm =>
      unfold boxAt at h1
      split at h1
      · rename_i hb
        cases h1
        have := (win_box s hb hm).load h2
        rwa [Nat.zero_add] at this
      · cases h1
  · cases hx with | fptr h1 h2 h3 h4 => exact Win.load ⟨_, _, _, s.frz _ _ h1, h2, h4⟩ h
  · rename_i b i off vr sz
    simp only [Option.bind_eq_some_iff] at h
    obtain ⟨rows, h1, row, h2, h3⟩ := h
    cases hx with | @lptr _ _ _ _ _ l hm =>
      unfold logAt at h1
      split at h1
      · rename_i rows0 sz' _ _ hb
        cases hc : (Nat.beq rows0.length vr && Nat.beq sz' sz) with
        | false => rw [hc] at h1; cases h1
        | true =>
          rw [hc] at h1
          cases h1
          rw [Bool.and_eq_true] at hc
          obtain rfl := Nat.eq_of_beq_eq_true hc.1
          obtain rfl := Nat.eq_of_beq_eq_true hc.2
          exact (win_log s hb hm h2).load h3
      · cases h1
  · cases h

theorem splice_take {α : Type} {a l : List α} {o n : Nat} (h1 : o + l.length ≤ n) (h2 : n ≤ a.length) : (a.take o ++ l ++ a.drop (o + l.length)).take n = (a.take n).take o ++ l ++ (a.take n).drop (o + l.length) := by
  rw [List.take_append, List.take_of_length_le (l := a.take o ++ l) (by simp; omega), List.take_take, Nat.min_eq_left (by omega), List.drop_take]
  congr 2
  simp
  omega
theorem PRL.put {vs l : List PV} {vs' l' : List Value} {o : Nat} (h : PRL μ φ vs (vs'.take vs.length)) (hl : vs.length ≤ vs'.length) (h' : PRL μ φ l l') (ho : o + l.length ≤ vs.length) :
    PRL μ φ (vs.take o ++ l ++ vs.drop (o + l.length)) ((vs'.take o ++ l' ++ vs'.drop (o + l'.length)).take vs.length) := by
  have e := h'.length
  rw [splice_take (by omega) hl]
  exact h.splice h' o
theorem put_len {α : Type} {vs l : List α} {o : Nat} (ho : o + l.length ≤ vs.length) : (vs.take o ++ l ++ vs.drop (o + l.length)).length = vs.length := by simp; omega
theorem flat_put {α : Type} {rows : List (List α)} {sz i o : Nat} {row l : List α} (hs : ∀ r ∈ rows, r.length = sz) (hi : rows[i]? = some row) (ho : o + l.length ≤ row.length) :
    (rows.set i (row.take o ++ l ++ row.drop (o + l.length))).flatten = rows.flatten.take (i * sz + o) ++ l ++ rows.flatten.drop (i * sz + o + l.length) := by
  induction rows generalizing i with
  | nil => cases hi
  | cons r rows ih =>
    have hr := hs r (by simp)
    cases i with
    | zero =>
      have e : r = row := by simpa using hi
      subst e
      rw [List.set_cons_zero, List.flatten_cons, List.flatten_cons, Nat.zero_mul, Nat.zero_add, List.take_append_of_le_length (by omega), List.drop_append_of_le_length (by omega)]
      simp
    | succ i =>
      rw [List.set_cons_succ, List.flatten_cons, List.flatten_cons, ih (fun q hq => hs q (by simp [hq])) (by simpa using hi)]
      rw [show (i + 1) * sz + o = r.length + (i * sz + o) by rw [Nat.add_mul]; omega, List.take_length_add_append, Nat.add_assoc r.length, List.drop_length_add_append]
      simp
theorem writeN_ok {vs l : List Value} {t : TypeId} {a o : Nat} (h1 : ha[a]? = some (.cells vs t true)) (h2 : o + l.length ≤ vs.length) (h3 : l.all Am.oneC = true) : writeN ha a o l = some (ha.set a (.cells (vs.take o ++ l ++ vs.drop (o + l.length)) t true)) := by
  unfold writeN
  rw [h1]
  show (if _ then some _ else none) = _
  rw [if_pos ⟨h2, h3⟩]
theorem storef_ok {v : Value} {a o n : Nat} {ha' : AHeap} (h1 : (cellsL v).length = n) (h2 : writeN ha a o (cellsL v) = some ha') : storef n (.pointer (some ⟨a, o, none⟩)) v ha = some ha' := by
  simp only [storef]
  rw [if_pos h1]
  exact h2
theorem storeP_sim (s : Rel μ φ hp ha) {n : Nat} {x v : PV} {x' v' : Value} {hp' : PHeap} (hx : PR μ φ x x') (hv : PR μ φ v v') (h : storeP n x v hp = some hp') : ∃ ha', storef n x' v' ha = some ha' ∧ Rel μ φ hp' ha' ∧ Ext μ φ hp ha μ φ hp' ha' := by
  unfold storeP at h
  cases hn : (Nat.beq (cellsP v).length n && Nat.blt 0 n) with
  | false => rw [hn] at h; cases h
  | true =>
    rw [hn] at h
    simp only [cond_true] at h
    rw [Bool.and_eq_true] at hn
    have n1 := Nat.eq_of_beq_eq_true hn.1
    have n2 : 0 < n := Nat.le_of_ble_eq_true hn.2
    have hcl := hv.cells (by omega)
    split at h
    · rename_i b o
      split at h
      · rename_i vs t hb
        rw [Option.map_eq_some_iff] at h
        obtain ⟨vs', h1, rfl⟩ := h
        unfold putAt at h1
        split at h1
        · rename_i hc
          cases h1
          cases hx with | @ptr _ _ l hm =>
            obtain ⟨vs0, rw_, k1, k2, k3, k4⟩ : ∃ vs0 rw_, ha[l.blk]? = some (.cells vs0 t rw_) ∧ vs.length ≤ vs0.length ∧ PRL μ φ vs (vs0.take vs.length) ∧ rw_ = true := by
              rcases s.rel b _ hb (by simp) with ⟨_, _, _, _, h⟩ | ⟨l', blk', h1, h2, h3⟩
              · cases h
              · have : μ b 0 = some (some l') := h1
                rw [hm] at this
                cases this
                obtain ⟨vs', rw_, rfl, k1, k2, k3⟩ := h3
                exact ⟨vs', rw_, h2, k1, k2, k3 rfl⟩
            subst k4
            have hlen := hcl.length
            refine ⟨_, storef_ok (by omega) (writeN_ok k1 (by omega) (hcl.oneC hc.2)), ?_⟩
            have hpl := put_len hc.1
            refine s.write0 hb trivial hm rfl ⟨_, true, rfl, ?_, ?_, fun _ => rfl⟩
            · rw [hpl, put_len (by omega)]; exact k2
            · rw [hpl]; exact k3.put k2 hcl hc.1
        · cases h1
      · cases h
    · rename_i b i o vr sz
      split at h
      · rename_i rows sz' t hb
        split at h
        · rename_i hc
          obtain ⟨rfl, rfl⟩ := hc
          simp only [Option.bind_eq_some_iff, Option.map_eq_some_iff] at h
          obtain ⟨row, h1, row', h2, rfl⟩ := h
          unfold putAt at h2
          split at h2
          · rename_i hc
            cases h2
            cases hx with | @lptr _ _ _ _ _ l hm =>
              obtain ⟨vs, rw_, k1, k2, k3, k4, k5, k6, k7⟩ := log_at s hb hm
              obtain rfl := k6 rfl
              have hlen := hcl.length
              have e1 := k4 row (List.mem_of_getElem? h1)
              have hle := row_le (size := sz') (some_lt h1)
              refine ⟨_, storef_ok (by omega) (writeN_ok k1 (by omega) (hcl.oneC hc.2)), ?_⟩
              have hfl := flat_len k4
              have hv : ver (.log (rows.set i (row.take o ++ cellsP v ++ row.drop (o + (cellsP v).length))) sz' t .rw) = ver (.log rows sz' t .rw) := by simp [ver]
              refine s.write0 hb trivial hm hv ⟨_, true, rfl, ?_, ?_, ?_, ?_, fun _ => rfl, ?_⟩
              · rw [put_len (by omega), List.length_set]; exact k2
              · rw [flat_put k4 h1 hc.1, List.length_set]
                have := PRL.put (o := i * sz' + o) (by rw [hfl]; exact k3) (by rw [hfl]; exact k2) hcl (by rw [hfl]; omega)
                rw [hfl] at this
                exact this
              · intro r hr
                rcases List.mem_or_eq_of_mem_set hr with h | rfl
                · exact k4 r h
                · rw [put_len hc.1]; exact e1
              · rw [put_len (by omega)]; exact k5
              · rw [List.length_set]; exact k7
          · cases h2
        · cases h
      · cases h
    · cases h

theorem all_flat {α : Type} {p : α → Bool} {rows : List (List α)} (h : rows.flatten.all p = true) {r : List α} (hr : r ∈ rows) : r.all p = true := List.all_eq_true.2 fun z hz => List.all_eq_true.1 h z (List.mem_flatten.2 ⟨r, hr, hz⟩)
theorem bytes_rows (l : List UInt8) : PRL μ φ (l.map fun b => [PV.int .u8 b.toNat]).flatten (l.map fun b => Value.int .u8 b.toNat) := by
  induction l with
  | nil => exact .nil
  | cons b l ih => exact .cons (.int _ _) ih
theorem drop_take_swap {α : Type} (l : List α) (a b : Nat) : (l.drop a).take b = (l.take (a + b)).drop a := by rw [List.drop_take]; congr 1; omega
/-- What append and copy read. -/
theorem rowsP_sim (s : Rel μ φ hp ha) {sz : Nat} {x : PV} {x' : Value} {rows : List (List PV)} (hx : PR μ φ x x') (h : rowsP sz x hp = some rows) :
    lenOf x' = some rows.length ∧ (∀ r ∈ rows, r.length = sz) ∧ ∀ k, k ≤ rows.length → ∃ l, firstf sz k x' ha = some l ∧ PRL μ φ (rows.take k).flatten l := by
  unfold rowsP at h
  split at h
  · cases h; cases hx
    refine ⟨rfl, fun r hr => (by cases hr), fun k hk => ?_⟩
    obtain rfl : k = 0 := by simpa using hk
    exact ⟨[], rfl, .nil⟩
  · cases h; cases hx
    refine ⟨rfl, fun r hr => (by cases hr), fun k hk => ?_⟩
    obtain rfl : k = 0 := by simpa using hk
    rename_i a
    cases a <;> exact ⟨[], rfl, .nil⟩
  · rename_i sz rows'
    split at h
    · rename_i hs
      subst hs
      cases h
      cases hx with
      | frzNil =>
        refine ⟨rfl, fun r hr => (by cases hr), fun k hk => ?_⟩
        obtain rfl : k = 0 := by simpa using hk
        exact ⟨[], rfl, .nil⟩
      | frz0 =>
        refine ⟨rfl, fun r hr => (by cases hr), fun k hk => ?_⟩
        obtain rfl : k = 0 := by simpa using hk
        exact ⟨[], rfl, .nil⟩
      | @frz _ _ a o n c vs t rw_ hn hc hsz hφ hl hp hr =>
        subst hn
        refine ⟨rfl, hsz, fun k hk => ?_⟩
        by_cases hk0 : k = 0
        · subst hk0
          exact ⟨[], by simp [firstf], .nil⟩
        · have hle : k * sz ≤ rows.length * sz := Nat.mul_le_mul_right _ hk
          have h1 := hr.take (k * sz)
          rw [List.take_take, Nat.min_eq_left hle, ← flat_take hsz] at h1
          refine ⟨_, ?_, h1⟩
          simp only [firstf]
          rw [if_neg hk0, if_pos hk]
          unfold readN
          rw [s.frz _ _ hφ]
          show (if _ then some _ else none) = _
          rw [if_pos (by omega)]
    · cases h
  · rename_i b lo n vr sz'
    split at h
    · rename_i hn
      cases h
      subst hn
      have : ∃ a c, x' = .slice a 0 c := by cases hx <;> exact ⟨_, _, rfl⟩
      obtain ⟨a, c, rfl⟩ := this
      refine ⟨rfl, fun r hr => (by cases hr), fun k hk => ?_⟩
      obtain rfl : k = 0 := by simpa using hk
      cases a <;> exact ⟨[], rfl, .nil⟩
    · rename_i hn
      split at h
      · rename_i hs
        subst hs
        simp only [Option.bind_eq_some_iff] at h
        obtain ⟨rows0, h1, h2⟩ := h
        split at h2
        · rename_i hle
          cases h2
          cases hx with
          | ref0 => exact absurd rfl hn
          | @ref _ _ _ _ _ c l hm hn' hc =>
            unfold logAt at h1
            split at h1
            · rename_i rows1 sz1 t1 md1 hb
              cases hcc : (Nat.beq rows1.length vr && Nat.beq sz1 sz') with
              | false => rw [hcc] at h1; cases h1
              | true =>
                rw [hcc] at h1
                cases h1
                rw [Bool.and_eq_true] at hcc
                obtain rfl := Nat.eq_of_beq_eq_true hcc.1
                obtain rfl := Nat.eq_of_beq_eq_true hcc.2
                obtain ⟨vs, rw_, k1, k2, k3, k4, k5, k6, k7⟩ := log_at s hb hm
                have hlen : ((rows0.drop lo).take n).length = n := by simp; omega
                refine ⟨by rw [hlen]; rfl, fun r hr => k4 r (List.mem_of_mem_drop (List.mem_of_mem_take hr)), fun k hk => ?_⟩
                rw [hlen] at hk
                by_cases hk0 : k = 0
                · subst hk0
                  exact ⟨[], by simp [firstf], .nil⟩
                · have hle2 : lo * sz1 + k * sz1 ≤ rows0.length * sz1 := by rw [← Nat.add_mul]; exact Nat.mul_le_mul_right _ (by omega)
                  have h1 := (k3.drop (lo * sz1)).take (k * sz1)
                  rw [← flat_drop k4, ← flat_take (size := sz1) (fun r hr => k4 r (List.mem_of_mem_drop hr)), List.drop_take, List.take_take, Nat.min_eq_left (by omega)] at h1
                  refine ⟨_, ?_, by rw [List.take_take, Nat.min_eq_left hk]; exact h1⟩
                  simp only [firstf]
                  rw [if_neg hk0, if_pos hk]
                  unfold readN
                  rw [k1]
                  show (if _ then some _ else none) = _
                  rw [if_pos (by omega)]
            · cases h1
        · cases h2
      · cases h
  · rename_i sb
    split at h
    · rename_i hs
      subst hs
      cases h
      cases hx with | str _ =>
        refine ⟨?_, fun r hr => ?_, fun k hk => ?_⟩
        · simp only [lenOf, List.length_map, Array.length_toList]; rfl
        · obtain ⟨z, _, rfl⟩ := List.mem_map.1 hr; rfl
        · simp only [List.length_map, Array.length_toList] at hk
          have hk' : k ≤ sb.size := hk
          refine ⟨(((sb.extract 0 k).data.toList).map fun b => .int .u8 b.toNat), ?_, ?_⟩
          · simp only [firstf]
            rw [if_pos ⟨trivial, hk'⟩]
          · have e : (sb.extract 0 k).data.toList = sb.data.toList.take k := by
              rw [ByteArray.data_extract, Array.toList_extract]
              simp [List.extract]
            rw [e, ← List.map_take]
            exact bytes_rows _
    · cases h
  · cases h
theorem set_id {α : Type} {l : List α} {i : Nat} {x : α} (h : l[i]? = some x) : l.set i x = l := by
  refine List.ext_getElem? fun j => ?_
  by_cases hj : j = i
  · subst hj; rw [set_at (some_lt h), h]
  · rw [set_oth hj]
theorem br_new {μ' : Ren} {rows : List (List PV)} {vs : List Value} {sz : Nat} {t : TypeId} (h : PRL μ φ rows.flatten vs) (hm : RenLe μ μ') (hs : ∀ r ∈ rows, r.length = sz) (hl : rows.length ≤ mostLen) : BR μ' φ 0 (.log rows sz t .rw) (.cells vs t true) := by
  have e := h.length
  rw [flat_len hs] at e
  exact ⟨vs, true, rfl, by omega, by rw [e, List.take_length]; exact h.mono hm (FrzLe.refl _), hs, by omega, fun _ => rfl, hl⟩
theorem ref_new {new : List (List PV)} {elem : TypeId} (b sz a : Nat) (h : 0 < new.length) {sz' : Nat} {md : Md} : PR (put μ b (ver (.log new sz' elem md)) (some ⟨a, 0⟩)) φ (.ref b 0 new.length new.length sz) (.slice (some ⟨a, 0, none⟩) (0 + new.length) capU) := by
  have := PR.ref (μ := put μ b new.length (some ⟨a, 0⟩)) (φ := φ) (b := b) (lo := 0) (n := new.length) (ver := new.length) (sz := sz) (c := capU) (put_self _ _ _ _) (by omega) (.inl ⟨rfl, h⟩)
  rw [Nat.zero_mul] at this
  rw [Nat.zero_add]
  exact this
theorem appendRows_sim (s : Rel μ φ hp ha) {elem : TypeId} {sz : Nat} {x v : PV} {x' : Value} {new : List (List PV)} {new' : List Value} {hp' : PHeap} (hx : PR μ φ x x') (hnew : PRL μ φ new.flatten new') (hsz : ∀ r ∈ new, r.length = sz)
    (h : appendRows elem sz x new hp = some (v, hp')) : ∃ v' ha' μ', appendc elem sz x' new.length new' ha = some (v', ha') ∧ PR μ' φ v v' ∧ Rel μ' φ hp' ha' ∧ Ext μ φ hp ha μ' φ hp' ha' := by
  unfold appendRows at h
  split at h
  · rename_i hcond
    obtain ⟨hml, hsz0, hone⟩ := hcond
    have hnl := hnew.length
    rw [flat_len hsz] at hnl
    have hone' := hnew.oneC hone
    have hcu : mostLen < capU := by decide
    have h0c : (0 : Nat) ≠ capU := by decide
    -- a new block for a slice without room
    have fresh : ∀ (a : Option Addr), 0 < new.length → appendc elem sz (.slice a 0 0) new.length new' ha = some (.slice (some ⟨ha.length, 0, none⟩) (0 + new.length) capU, ha ++ [.cells ([] ++ new') elem true]) := by
      intro a hpos
      simp only [appendc]
      rw [if_neg h0c, if_neg (by omega), if_pos (by omega)]
      have : firstf sz 0 (.slice a 0 0) ha = some [] := by cases a <;> rfl
      rw [this]
      rfl
    have same : ∀ (a : Option Addr), new.length = 0 → appendc elem sz (.slice a 0 0) new.length new' ha = some (.slice a 0 0, ha) := by
      intro a hz
      simp only [appendc, hz]
      rw [if_neg h0c, if_pos (Nat.le_refl _)]
      cases a <;> rfl
    split at h
    · cases hx
      split at h
      · rename_i hz
        cases h
        exact ⟨_, _, _, same none hz, .nilS, s, Ext.refl _ _ _ _⟩
      · rename_i hz
        cases h
        have hv : ver (.log new sz elem .rw) = new.length := rfl
        obtain ⟨q1, q2⟩ := s.push (.log new sz elem .rw) (.cells new' elem true) 0 (br_new hnew (put_new s _ _) hsz hml)
        refine ⟨_, _, _, fresh none (by omega), ?_, q1, q2⟩
        exact ref_new hp.length sz ha.length (by omega)
    · cases hx with | emp a =>
      split at h
      · rename_i hz
        cases h
        exact ⟨_, _, _, same a hz, .emp _, s, Ext.refl _ _ _ _⟩
      · rename_i hz
        cases h
        obtain ⟨q1, q2⟩ := s.push (.log new sz elem .rw) (.cells new' elem true) 0 (br_new hnew (put_new s _ _) hsz hml)
        refine ⟨_, _, _, fresh a (by omega), ?_, q1, q2⟩
        exact ref_new hp.length sz ha.length (by omega)
    · rename_i b lo n vr sz'
      split at h
      · rename_i rows sz2 t hb
        split at h
        · rename_i hc
          obtain ⟨rfl, rfl, hrl, rfl, rfl, rfl, hmost⟩ := hc
          cases h
          have hw : wrB (.log rows sz2 t .rw) := trivial
          have hall : ∀ r ∈ rows ++ new, (∀ r ∈ rows, r.length = sz2) → r.length = sz2 := fun r h k => by
            rcases List.mem_append.1 h with h | h
            · exact k r h
            · exact hsz r h
          have hvlt : 0 < new.length → ver (.log rows sz2 t .rw) < ver (.log (rows ++ new) sz2 t .rw) := fun h => by simp [ver]; omega
          -- the rows go to a new block
          have moved : ∀ (old : List Value) (ha0 : AHeap) (k : Nat), k = rows.length → 0 < new.length → PRL μ φ rows.flatten old → (∀ r ∈ rows, r.length = sz2) → ha0.length = ha.length → (∀ a, (∀ l, μ b rows.length = some (some l) → l.blk ≠ a) → ha0[a]? = ha[a]?) →
              ∃ μ', PR μ' φ (.ref b 0 (k + new.length) (k + new.length) sz2) (.slice (some ⟨ha.length, 0, none⟩) (k + new.length) capU) ∧ Rel μ' φ (hp.set b (.log (rows ++ new) sz2 t .rw)) (ha0 ++ [.cells (old ++ new') t true]) ∧
                Ext μ φ hp ha μ' φ (hp.set b (.log (rows ++ new) sz2 t .rw)) (ha0 ++ [.cells (old ++ new') t true]) := by
            intro old ha0 k hk hpos hold hrows hlen ho
            have hlt := hvlt hpos
            have hle : RenLe μ (put μ b (ver (.log (rows ++ new) sz2 t .rw)) (some ⟨ha.length, 0⟩)) := put_le fun o h => by have := s.top _ _ _ _ hb hw.live h; omega
            obtain ⟨q1, q2⟩ := s.grow (blk1 := .log (rows ++ new) sz2 t .rw) (K := 0) hb hw hlt hlen ho (br_new (by rw [List.flatten_append]; exact hold.append hnew) hle (fun r h => hall r h hrows) (by rw [List.length_append, hrl]; omega))
            refine ⟨_, ?_, q1, q2⟩
            have := ref_new (μ := μ) (φ := φ) (new := rows ++ new) (elem := t) b sz2 ha.length (by simp; omega) (sz' := sz2) (md := .rw)
            rw [List.length_append, ← hk, Nat.zero_add] at this
            exact this
          cases hx with
          | ref0 _ a hm =>
            have hr0 : rows = [] := List.eq_nil_of_length_eq_zero hrl
            subst hr0
            by_cases hz : new.length = 0
            · have : new = [] := List.eq_nil_of_length_eq_zero hz
              subst this
              refine ⟨_, _, μ, same a hz, .ref0 _ _ hm, ?_, ?_⟩
              · rw [List.append_nil, set_id hb]; exact s
              · rw [List.append_nil, set_id hb]; exact Ext.refl _ _ _ _
            · obtain ⟨μ', q1, q2, q3⟩ := moved [] ha 0 rfl (by omega) .nil (fun r h => by cases h) rfl (fun _ _ => rfl)
              exact ⟨_, _, μ', fresh a (by omega), q1, q2, q3⟩
          | @ref _ _ _ _ _ c l hm hn hc =>
            subst hrl
            obtain ⟨vs, rw_, k1, k2, k3, k4, k5, k6, k7⟩ := log_at s hb hm
            obtain rfl := k6 rfl
            rw [Nat.zero_mul]
            by_cases hz : new.length = 0
            · have : new = [] := List.eq_nil_of_length_eq_zero hz
              subst this
              rw [List.append_nil, set_id hb]
              refine ⟨.slice (some ⟨l.blk, 0, none⟩) rows.length c, ha, μ, ?_, ?_, s, Ext.refl _ _ _ _⟩
              · rcases hc with ⟨rfl, hc⟩ | ⟨hc1, hc2, hc3⟩
                · simp [appendc]
                · simp only [appendc, List.length_nil, Nat.add_zero]
                  rw [if_neg (by omega), if_pos hc2]
                  rfl
              · have := PR.ref (φ := φ) (sz := sz2) hm (by omega) hc
                rw [Nat.zero_mul] at this
                exact this
            · have hrows := k4
              rcases hc with ⟨rfl, hc⟩ | ⟨hc1, hc2, hc3⟩
              · obtain ⟨μ', q1, q2, q3⟩ := moved (vs.take (rows.length * sz2)) (ha.set l.blk .dead) rows.length rfl (by omega) k3 k4 (by simp) (fun a h => set_oth fun e => h l hm e.symm)
                refine ⟨_, _, μ', ?_, q1, q2, q3⟩
                simp only [appendc, if_true, k1]
                rw [if_neg hz, if_pos ⟨k2, by omega, trivial, hc, hone'⟩]
              · by_cases hfit : rows.length + new.length ≤ c
                · have hle2 : rows.length * sz2 + new.length * sz2 ≤ vs.length := by
                    rw [← Nat.add_mul]
                    exact Nat.le_trans (Nat.mul_le_mul_right _ (by omega)) k5
                  have hwr := writeN_ok (ha := ha) (l := new') (o := rows.length * sz2) k1 (by omega) hone'
                  have hm2 : RenLe μ (put μ b (ver (.log (rows ++ new) sz2 t .rw)) (some l)) := put_le fun o h => by have := s.top _ _ _ _ hb hw.live h; have := hvlt (by omega); omega
                  have hfl := flat_len k4
                  have hbr : BR (put μ b (ver (.log (rows ++ new) sz2 t .rw)) (some l)) φ l.K (.log (rows ++ new) sz2 t .rw) (.cells (vs.take (rows.length * sz2) ++ new' ++ vs.drop (rows.length * sz2 + new'.length)) t true) := by
                    refine ⟨_, true, rfl, ?_, ?_, fun r h => hall r h k4, ?_, fun _ => rfl, by rw [List.length_append]; omega⟩
                    · rw [put_len (by omega), List.length_append, Nat.add_mul]; exact hle2
                    · have e : (vs.take (rows.length * sz2) ++ new' ++ vs.drop (rows.length * sz2 + new'.length)).take ((rows ++ new).length * sz2) = vs.take (rows.length * sz2) ++ new' := by
                        have e2 : (rows ++ new).length * sz2 = (vs.take (rows.length * sz2) ++ new').length := by rw [List.length_append, List.length_append, List.length_take, Nat.add_mul]; omega
                        rw [e2, List.take_left]
                      rw [e, List.flatten_append]
                      exact (k3.append hnew).mono hm2 (FrzLe.refl _)
                    · rw [put_len (by omega)]; exact k5
                  obtain ⟨q1, q2⟩ := s.write (blk1 := .log (rows ++ new) sz2 t .rw) hb hw hm (fun o h => by have := s.top _ _ _ _ hb hw.live h; have := hvlt (by omega); omega) (by have := hvlt (by omega); omega) hbr
                  refine ⟨.slice (some ⟨l.blk, 0, none⟩) (rows.length + new.length) c, _, _, ?_, ?_, q1, q2⟩
                  · simp only [appendc, Nat.zero_add]
                    rw [if_neg (by omega), if_pos hfit, if_neg hz, hwr]
                    rfl
                  · have := PR.ref (μ := put μ b (ver (.log (rows ++ new) sz2 t .rw)) (some l)) (φ := φ) (sz := sz2) (lo := 0) (n := rows.length + new.length) (c := c) (put_self _ _ _ _) (by simp [ver]) (.inr ⟨hc1, hfit, hc3⟩)
                    rw [Nat.zero_mul] at this
                    simpa [ver] using this
                · obtain ⟨μ', q1, q2, q3⟩ := moved (vs.take (rows.length * sz2)) ha rows.length rfl (by omega) k3 k4 rfl (fun _ _ => rfl)
                  refine ⟨_, _, μ', ?_, q1, q2, q3⟩
                  simp only [appendc]
                  rw [if_neg (by omega), if_neg hfit, if_pos (by omega)]
                  have : firstf sz2 rows.length (.slice (some ⟨l.blk, 0, none⟩) rows.length c) ha = some (vs.take (rows.length * sz2)) := by
                    simp only [firstf]
                    by_cases h0 : rows.length = 0
                    · rw [if_pos h0, h0]; simp
                    · rw [if_neg h0, if_pos (Nat.le_refl _)]
                      unfold readN
                      rw [k1]
                      simp only [Nat.zero_add, List.drop_zero]
                      rw [if_pos k2]
                  rw [this]
                  rfl
        · cases h
      · cases h
    · cases h
  · cases h
theorem appendP_sim (s : Rel μ φ hp ha) {elem : TypeId} {sz : Nat} {x y v : PV} {x' y' : Value} {hp' : PHeap} (hx : PR μ φ x x') (hy : PR μ φ y y') (h : appendP elem sz x y hp = some (v, hp')) :
    ∃ v' ha' μ', appendf elem sz x' y' ha = some (v', ha') ∧ PR μ' φ v v' ∧ Rel μ' φ hp' ha' ∧ Ext μ φ hp ha μ' φ hp' ha' := by
  unfold appendP at h
  rw [Option.bind_eq_some_iff] at h
  obtain ⟨new, h1, h2⟩ := h
  obtain ⟨k1, k2, k3⟩ := rowsP_sim s hy h1
  obtain ⟨new', k4, k5⟩ := k3 new.length (Nat.le_refl _)
  rw [List.take_length] at k5
  obtain ⟨v', ha', μ', q1, q⟩ := appendRows_sim s hx k5 k2 h2
  exact ⟨v', ha', μ', by simp only [appendf, k1, Option.bind_some, k4, q1], q⟩
theorem rep_rel {zero : List PV} {zero' : List Value} (h : PRL μ φ zero zero') (n : Nat) : PRL μ φ (List.replicate n zero).flatten (rep zero' n) := by
  induction n with
  | zero => exact .nil
  | succ n ih => rw [List.replicate_succ, List.flatten_cons]; exact h.append ih
theorem appendNP_sim (s : Rel μ φ hp ha) {elem : TypeId} {sz : Nat} {zero : List PV} {zero' : List Value} {x y v : PV} {x' y' : Value} {hp' : PHeap} (hz : PRL μ φ zero zero') (hx : PR μ φ x x') (hy : PR μ φ y y') (h : appendNP elem sz zero x y hp = some (v, hp')) :
    ∃ v' ha' μ', appendNf elem sz zero' x' y' ha = some (v', ha') ∧ PR μ' φ v v' ∧ Rel μ' φ hp' ha' ∧ Ext μ φ hp ha μ' φ hp' ha' := by
  unfold appendNP at h
  split at h
  · split at h
    · rename_i hc
      cases hy
      obtain ⟨v', ha', μ', q1, q⟩ := appendRows_sim s hx (rep_rel hz _) (fun r hr => by rw [List.mem_replicate] at hr; rw [hr.2]; exact hc.2.2) h
      rw [List.length_replicate] at q1
      refine ⟨v', ha', μ', ?_, q⟩
      simp only [appendNf]
      rw [if_pos ⟨hc.1, hc.2.1⟩]
      exact q1
    · cases h
  · cases h
theorem mkSliceP_sim (s : Rel μ φ hp ha) {elem : TypeId} {zero : List PV} {zero' : List Value} {x y v : PV} {x' y' : Value} {hp' : PHeap} (hz : PRL μ φ zero zero') (hx : PR μ φ x x') (hy : PR μ φ y y') (h : mkSliceP elem zero x y hp = some (v, hp')) :
    ∃ v' ha' μ', mkSlicef elem zero' x' y' ha = some (v', ha') ∧ PR μ' φ v v' ∧ Rel μ' φ hp' ha' ∧ Ext μ φ hp ha μ' φ hp' ha' := by
  unfold mkSliceP at h
  split at h
  · rename_i n c
    split at h
    · rename_i hc
      cases hx; cases hy
      cases h
      have hrl : (rep zero' c.toNat).length = c.toNat * zero.length := by
        have := (rep_rel hz c.toNat).length
        rw [flat_len (size := zero.length) (fun r hr => by rw [List.mem_replicate] at hr; rw [hr.2]), List.length_replicate] at this
        omega
      have hle : n.toNat * zero.length ≤ c.toNat * zero.length := Nat.mul_le_mul_right _ (by omega)
      have hrep : PRL μ φ (List.replicate n.toNat zero).flatten ((rep zero' c.toNat).take (n.toNat * zero.length)) := by
        have h1 := (rep_rel hz c.toNat).take (n.toNat * zero.length)
        rw [← flat_take (size := zero.length) (fun r hr => by rw [List.mem_replicate] at hr; rw [hr.2]), List.take_replicate, Nat.min_eq_left (by omega)] at h1
        exact h1
      obtain ⟨q1, q2⟩ := s.push (.log (List.replicate n.toNat zero) zero.length elem .rw) (.cells (rep zero' c.toNat) elem true) c.toNat
        ⟨_, true, rfl, by rw [hrl, List.length_replicate]; exact hle, by rw [List.length_replicate]; exact hrep.mono (put_new s _ _) (FrzLe.refl _), fun r hr => by rw [List.mem_replicate] at hr; rw [hr.2], by rw [hrl]; exact Nat.le_refl _, fun _ => rfl, by rw [List.length_replicate]; omega⟩
      refine ⟨.slice (some ⟨ha.length, 0, none⟩) n.toNat c.toNat, _, _, ?_, ?_, q1, q2⟩
      · simp only [mkSlicef]
        rw [if_pos hc]
      · have hcu : mostLen < capU := by decide
        have := PR.ref (μ := put μ hp.length (ver (.log (List.replicate n.toNat zero) zero.length elem .rw)) (some ⟨ha.length, c.toNat⟩)) (φ := φ) (b := hp.length) (lo := 0) (n := n.toNat) (sz := zero.length) (c := c.toNat) (put_self _ _ _ _) (by simp [ver]) (.inr ⟨by omega, by omega, by simp⟩)
        rw [Nat.zero_mul] at this
        simpa [ver] using this
    · cases h
  · cases h
theorem log_same {rows : List (List PV)} {l : Am.Loc} {sz : Nat} {t : TypeId} {vs : List Value} {lo : Nat} {src : List (List PV)} {src' : List Value} (k2 : rows.length * sz ≤ vs.length) (k3 : PRL μ φ rows.flatten (vs.take (rows.length * sz))) (k4 : ∀ r ∈ rows, r.length = sz) (k5 : l.K * sz ≤ vs.length) (k7 : rows.length ≤ mostLen)
    (hs : PRL μ φ src.flatten src') (hsz : ∀ r ∈ src, r.length = sz) (hle : lo + src.length ≤ rows.length) :
    BR μ φ l.K (.log (rows.take lo ++ src ++ rows.drop (lo + src.length)) sz t .rw) (.cells (vs.take (lo * sz) ++ src' ++ vs.drop (lo * sz + src'.length)) t true) ∧ (rows.take lo ++ src ++ rows.drop (lo + src.length)).length = rows.length ∧ lo * sz + src'.length ≤ vs.length := by
  have e1 := hs.length
  rw [flat_len hsz] at e1
  have e2 : lo * sz + src.length * sz ≤ rows.length * sz := by rw [← Nat.add_mul]; exact Nat.mul_le_mul_right _ hle
  have e3 := put_len (vs := rows) (l := src) (o := lo) hle
  have hfl := flat_len k4
  refine ⟨⟨_, true, rfl, ?_, ?_, fun r hr => ?_, ?_, fun _ => rfl, by rw [e3]; exact k7⟩, e3, by omega⟩
  · rw [e3, put_len (by omega)]; exact k2
  · rw [e3, List.flatten_append, List.flatten_append, flat_take k4, flat_drop k4, Nat.add_mul]
    have := PRL.put (o := lo * sz) (by rw [hfl]; exact k3) (by rw [hfl]; exact k2) hs (by rw [hfl, flat_len hsz]; omega)
    rw [hfl, flat_len hsz] at this
    exact this
  · rcases List.mem_append.1 hr with hr | hr
    · rcases List.mem_append.1 hr with hr | hr
      · exact k4 r (List.mem_of_mem_take hr)
      · exact hsz r hr
    · exact k4 r (List.mem_of_mem_drop hr)
  · rw [put_len (by omega)]; exact k5
theorem copyP_sim (s : Rel μ φ hp ha) {sz : Nat} {x y v : PV} {x' y' : Value} {hp' : PHeap} (hx : PR μ φ x x') (hy : PR μ φ y y') (h : copyP sz x y hp = some (v, hp')) :
    ∃ v' ha', copyf sz x' y' ha = some (v', ha') ∧ PR μ φ v v' ∧ Rel μ φ hp' ha' ∧ Ext μ φ hp ha μ φ hp' ha' := by
  unfold copyP at h
  rw [Option.bind_eq_some_iff] at h
  obtain ⟨src, h1, h2⟩ := h
  obtain ⟨g1, g2, g3⟩ := rowsP_sim s hy h1
  have g0 : firstf sz 0 y' ha = some [] := by
    obtain ⟨l, k1, k2⟩ := g3 0 (Nat.zero_le _)
    rw [List.take_zero] at k2
    cases k2
    exact k1
  split at h2
  · cases h2; cases hx
    refine ⟨.int .i64 0, ha, ?_, .int _ _, s, Ext.refl _ _ _ _⟩
    simp [copyf, g1, g0, Nat.min_def]
  · cases h2; cases hx with | emp a =>
    refine ⟨.int .i64 0, ha, ?_, .int _ _, s, Ext.refl _ _ _ _⟩
    cases a <;> simp [copyf, g1, g0, Nat.min_def]
  · rename_i b lo n vr sz'
    split at h2
    · rename_i rows sz2 t hb
      split at h2
      · rename_i hc
        obtain ⟨hrl, rfl, rfl, c1, c2, c3⟩ := hc
        cases h2
        cases hx with
        | ref0 => omega
        | @ref _ _ _ _ _ c l hm hn hc =>
          subst hrl
          obtain ⟨vs, rw_, k1, k2, k3, k4, k5, k6, k7⟩ := log_at s hb hm
          obtain rfl := k6 rfl
          have hmn : Nat.min src.length n ≤ src.length := Nat.min_le_left _ _
          have hmn2 : Nat.min src.length n ≤ n := Nat.min_le_right _ _
          obtain ⟨src', j1, j2⟩ := g3 (Nat.min src.length n) hmn
          have e0 : src.take n = src.take (Nat.min src.length n) := by
            rw [show Nat.min src.length n = min n src.length from Nat.min_comm _ _]
            rw [List.take_eq_take_min]
          have e1 : (src.take (Nat.min src.length n)).length = Nat.min src.length n := by rw [List.length_take]; exact Nat.min_eq_left hmn
          have hb1 := log_same (μ := μ) (φ := φ) (l := l) (sz := sz2) (t := t) (lo := lo) (src := src.take (Nat.min src.length n)) k2 k3 k4 k5 k7 j2 (fun r hr => g2 r (List.mem_of_mem_take hr)) (by rw [e1]; omega)
          rw [e1] at hb1
          obtain ⟨b1, b2, b3⟩ := hb1
          have hone : src'.all Am.oneC = true := j2.oneC (List.all_eq_true.2 fun z hz => List.all_eq_true.1 c3 z (by
            obtain ⟨r, hr, hz⟩ := List.mem_flatten.1 hz
            exact List.mem_flatten.2 ⟨r, List.mem_of_mem_take hr, hz⟩))
          have hwr := writeN_ok (ha := ha) (l := src') (o := lo * sz2) k1 b3 hone
          by_cases hz : Nat.min src.length n = 0
          · refine ⟨.int .i64 (Nat.min src.length n : Nat), ha, ?_, .int _ _, ?_⟩
            · simp only [copyf, g1, Option.bind_some, j1]
              rw [if_pos hz]
              rfl
            · rw [e0, hz, List.take_zero, List.append_nil, Nat.add_zero, List.take_append_drop, set_id hb]
              exact ⟨s, Ext.refl _ _ _ _⟩
          · refine ⟨.int .i64 (Nat.min src.length n : Nat), ha.set l.blk (.cells (vs.take (lo * sz2) ++ src' ++ vs.drop (lo * sz2 + src'.length)) t true), ?_, .int _ _, ?_⟩
            · simp only [copyf, g1, Option.bind_some, j1]
              rw [if_neg hz, hwr]
              rfl
            · rw [e0]
              exact s.write0 hb trivial hm (by simp only [ver]; exact b2) b1
      · cases h2
    · cases h2
  · cases h2
theorem clearP_sim (s : Rel μ φ hp ha) {zero : List PV} {zero' : List Value} {x v : PV} {x' : Value} {hp' : PHeap} (hz : PRL μ φ zero zero') (hx : PR μ φ x x') (h : clearP zero x hp = some (v, hp')) :
    ∃ v' ha', clearf zero' x' ha = some (v', ha') ∧ PR μ φ v v' ∧ Rel μ φ hp' ha' ∧ Ext μ φ hp ha μ φ hp' ha' := by
  unfold clearP at h
  split at h
  · cases h; cases hx
    exact ⟨_, _, rfl, PR.undef, s, Ext.refl _ _ _ _⟩
  · cases h; cases hx with | emp a =>
    exact ⟨undef, ha, by cases a <;> rfl, PR.undef, s, Ext.refl _ _ _ _⟩
  · rename_i b lo n vr sz
    split at h
    · rename_i rows sz2 t hb
      split at h
      · rename_i hc
        obtain ⟨hrl, rfl, rfl, c1, c2, c3⟩ := hc
        cases h
        cases hx with
        | ref0 => omega
        | @ref _ _ _ _ _ c l hm hn hc =>
          subst hrl
          obtain ⟨vs, rw_, k1, k2, k3, k4, k5, k6, k7⟩ := log_at s hb hm
          obtain rfl := k6 rfl
          have hb1 := log_same (μ := μ) (φ := φ) (l := l) (sz := zero.length) (t := t) (lo := lo) (src := List.replicate n zero) k2 k3 k4 k5 k7 (rep_rel hz n) (fun r hr => by rw [List.mem_replicate] at hr; rw [hr.2]) (by simpa using c1)
          rw [List.length_replicate] at hb1
          obtain ⟨b1, b2, b3⟩ := hb1
          have hone : (rep zero' n).all Am.oneC = true := (rep_rel hz n).oneC (List.all_eq_true.2 fun z hz => by
            obtain ⟨r, hr, hz⟩ := List.mem_flatten.1 hz
            rw [List.mem_replicate] at hr
            rw [hr.2] at hz
            exact List.all_eq_true.1 c3 z hz)
          have hwr := writeN_ok (ha := ha) (l := rep zero' n) (o := lo * zero.length) k1 b3 hone
          refine ⟨undef, _, ?_, PR.undef, s.write0 hb trivial hm (by simp only [ver]; exact b2) b1⟩
          simp only [clearf]
          rw [if_neg (by omega), hwr]
          rfl
      · cases h
    · cases h
  · cases h
end Go.Vm

/- Maps, strings of bytes, freezing, giving up, locking. -/
namespace Go.Vm
open Go.Am
variable {μ : Ren} {φ : Frz} {hp : PHeap} {ha : AHeap}

theorem keyEqP_sim {k : BK} {x y : PV} {x' y' : Value} {r : Bool} (hx : PR μ φ x x') (hy : PR μ φ y y') (h : keyEqP k x y = some r) : keyEq k x' y' = some r := by
  unfold keyEqP at h
  split at h <;> first | (cases hx; cases hy; exact h) | cases h
theorem findMapP_sim {k : BK} {x : PV} {x' : Value} (hx : PR μ φ x x') : ∀ {es : List (PV × PV)} {es' : List (Value × Value)} {r : Option PV}, PRL μ φ (es.map (·.1)) (es'.map (·.1)) → PRL μ φ (es.map (·.2)) (es'.map (·.2)) → findMapP k x es = some r →
    ∃ r', findMap k x' es' = some r' ∧ OR μ φ r r' := by
  intro es
  induction es with
  | nil =>
    intro es' r h1 h2 h
    cases es' with
    | nil => cases h; exact ⟨_, rfl, .none⟩
    | cons => cases h1
  | cons p es ih =>
    intro es' r h1 h2 h
    cases es' with
    | nil => cases h1
    | cons p' es' =>
      obtain ⟨y, v⟩ := p
      obtain ⟨y', v'⟩ := p'
      cases h1 with | cons a1 a2 => cases h2 with | cons b1 b2 =>
        simp only [findMapP] at h
        simp only [findMap]
        split at h
        · rename_i hk
          cases h
          rw [keyEqP_sim hx a1 hk]
          exact ⟨_, rfl, .some b1⟩
        · rename_i hk
          rw [keyEqP_sim hx a1 hk]
          exact ih a2 b2 h
        · cases h
theorem insMapP_sim {k : BK} {x v : PV} {x' v' : Value} (hx : PR μ φ x x') (hv : PR μ φ v v') : ∀ {es q : List (PV × PV)} {es' : List (Value × Value)}, PRL μ φ (es.map (·.1)) (es'.map (·.1)) → PRL μ φ (es.map (·.2)) (es'.map (·.2)) → insMapP k x v es = some q →
    ∃ q', setMap k x' v' es' = some q' ∧ PRL μ φ (q.map (·.1)) (q'.map (·.1)) ∧ PRL μ φ (q.map (·.2)) (q'.map (·.2)) := by
  intro es
  induction es with
  | nil =>
    intro q es' h1 h2 h
    cases es' with
    | nil => cases h; exact ⟨_, rfl, .cons hx .nil, .cons hv .nil⟩
    | cons => cases h1
  | cons p es ih =>
    intro q es' h1 h2 h
    cases es' with
    | nil => cases h1
    | cons p' es' =>
      obtain ⟨y, u⟩ := p
      obtain ⟨y', u'⟩ := p'
      cases h1 with | cons a1 a2 => cases h2 with | cons b1 b2 =>
        simp only [insMapP] at h
        simp only [setMap]
        split at h
        · rename_i hk
          cases h
          rw [keyEqP_sim hx a1 hk]
          exact ⟨_, rfl, .cons hx a2, .cons hv b2⟩
        · rename_i hk
          rw [keyEqP_sim hx a1 hk]
          rw [Option.map_eq_some_iff] at h
          obtain ⟨r, hr, rfl⟩ := h
          obtain ⟨r', k1, k2, k3⟩ := ih a2 b2 hr
          exact ⟨(y', u') :: r', by rw [k1]; rfl, .cons a1 k2, .cons b1 k3⟩
        · cases h
theorem map_at {b : Nat} {es : List (PV × PV)} {md : Md} {l : Am.Loc} (s : Rel μ φ hp ha) (hb : hp[b]? = some (.map es md)) (e : μ b 0 = some (some l)) : ∃ es', ha[l.blk]? = some (.map es') ∧ PRL μ φ (es.map (·.1)) (es'.map (·.1)) ∧ PRL μ φ (es.map (·.2)) (es'.map (·.2)) := by
  rcases s.rel b _ hb (by simp) with ⟨_, _, _, _, h⟩ | ⟨l', blk', h1, h2, h3⟩
  · cases h
  · have : μ b 0 = some (some l') := h1
    rw [e] at this
    cases this
    obtain ⟨es', rfl, k1, k2⟩ := h3
    exact ⟨es', h2, k1, k2⟩
theorem mapOfP_sim (s : Rel μ φ hp ha) {x : PV} {x' : Value} {es : List (PV × PV)} (hx : PR μ φ x x') (h : mapOfP x hp = some es) : ∃ es', mapOf x' ha = some es' ∧ PRL μ φ (es.map (·.1)) (es'.map (·.1)) ∧ PRL μ φ (es.map (·.2)) (es'.map (·.2)) := by
  unfold mapOfP at h
  split at h
  · cases h; cases hx; exact ⟨[], rfl, .nil, .nil⟩
  · rename_i b
    split at h
    · rename_i es0 md hb
      cases h
      cases hx with | @map _ l hm =>
        obtain ⟨es', k1, k2, k3⟩ := map_at s hb hm
        exact ⟨es', by simp only [mapOf, k1], k2, k3⟩
    · cases h
  · cases h
theorem lookupP_sim (s : Rel μ φ hp ha) {k : BK} {zero x i v : PV} {ok : Bool} {zero' x' i' : Value} (hz : PR μ φ zero zero') (hx : PR μ φ x x') (hi : PR μ φ i i') (h : lookupP k zero ok x i hp = some v) : ∃ v', lookupf k zero' ok x' i' ha = some v' ∧ PR μ φ v v' := by
  unfold lookupP at h
  simp only [Option.bind_eq_some_iff, Option.map_eq_some_iff] at h
  obtain ⟨es, h1, r, h2, h3⟩ := h
  obtain ⟨es', k1, k2, k3⟩ := mapOfP_sim s hx h1
  obtain ⟨r', k4, k5⟩ := findMapP_sim hi k2 k3 h2
  simp only [lookupf, k1, Option.bind_some, k4, Option.map_some]
  cases k5 with
  | none => cases ok with
    | false => subst h3; exact ⟨_, rfl, hz⟩
    | true => subst h3; exact ⟨_, rfl, .tuple (ys := [zero', .bool false]) (.cons hz (.cons (.bool _) .nil))⟩
  | @some _ r1 hr => cases ok with
    | false => subst h3; exact ⟨_, rfl, hr⟩
    | true => subst h3; exact ⟨_, rfl, .tuple (ys := [r1, .bool true]) (.cons hr (.cons (.bool _) .nil))⟩
theorem setMapP_sim (s : Rel μ φ hp ha) {k : BK} {x i v : PV} {x' i' v' : Value} {hp' : PHeap} (hx : PR μ φ x x') (hi : PR μ φ i i') (hv : PR μ φ v v') (h : setMapP k x i v hp = some hp') :
    ∃ ha', setMapf k x' i' v' ha = some ha' ∧ Rel μ φ hp' ha' ∧ Ext μ φ hp ha μ φ hp' ha' := by
  unfold setMapP at h
  split at h
  · rename_i b
    split at h
    · rename_i es hb
      rw [Option.map_eq_some_iff] at h
      obtain ⟨q, h1, rfl⟩ := h
      cases hx with | @map _ l hm =>
        obtain ⟨es', k1, k2, k3⟩ := map_at s hb hm
        obtain ⟨q', k4, k5, k6⟩ := insMapP_sim hi hv k2 k3 h1
        exact ⟨_, by simp only [setMapf, k1, k4, Option.map_some], s.write0 hb trivial hm rfl ⟨q', rfl, k5, k6⟩⟩
    · cases h
  · cases h
theorem lenMapP_sim (s : Rel μ φ hp ha) {x v : PV} {x' : Value} (hx : PR μ φ x x') (h : lenMapP x hp = some v) : ∃ v', lenMapf x' ha = some v' ∧ PR μ φ v v' := by
  unfold lenMapP at h
  rw [Option.map_eq_some_iff] at h
  obtain ⟨es, h1, rfl⟩ := h
  obtain ⟨es', k1, k2, k3⟩ := mapOfP_sim s hx h1
  have := k2.length
  simp only [List.length_map] at this
  exact ⟨.int .i64 es'.length, by simp only [lenMapf, k1, Option.map_some], by rw [this]; exact .int _ _⟩
theorem bytesP_sim : ∀ {rows : List (List PV)} {l : List Value} {bs : List UInt8}, PRL μ φ rows.flatten l → bytesP rows = some bs → bytesOf l = some bs := by
  intro rows
  induction rows with
  | nil => intro l bs h1 h; cases h1; exact h
  | cons r rows ih =>
    intro l bs h1 h
    unfold bytesP at h
    split at h
    · rename_i e; cases e
    · rename_i n r0 e
      cases e
      rw [Option.map_eq_some_iff] at h
      obtain ⟨q, hq, rfl⟩ := h
      simp only [List.flatten_cons, List.cons_append, List.nil_append] at h1
      cases h1 with | cons a1 a2 =>
        cases a1
        simp only [bytesOf, ih a2 hq, Option.map_some]
    · cases h
theorem bytesToStrP_sim (s : Rel μ φ hp ha) {x v : PV} {x' : Value} (hx : PR μ φ x x') (h : bytesToStrP x hp = some v) : ∃ v', bytesToStrf x' ha = some v' ∧ PR μ φ v v' := by
  unfold bytesToStrP at h
  split at h
  · cases h
  · rename_i hns
    simp only [Option.bind_eq_some_iff, Option.map_eq_some_iff] at h
    obtain ⟨rows, h1, bs, h2, rfl⟩ := h
    obtain ⟨k1, k2, k3⟩ := rowsP_sim s hx h1
    obtain ⟨l, k4, k5⟩ := k3 rows.length (Nat.le_refl _)
    rw [List.take_length] at k5
    have h3 := bytesP_sim k5 h2
    have hsl : (∃ a n c, x' = .slice a n c) := by
      unfold rowsP at h1
      cases hx <;> first | exact ⟨_, _, _, rfl⟩ | (simp at h1; done) | skip
      exact absurd rfl (hns _)
    obtain ⟨a, n, c, rfl⟩ := hsl
    have hn : n = rows.length := Option.some.inj k1
    subst hn
    cases a with
    | none =>
      simp only [firstf] at k4
      split at k4
      · cases k4
        cases h3
        exact ⟨_, rfl, .str _⟩
      · cases k4
    | some a =>
      simp only [firstf] at k4
      simp only [bytesToStrf]
      split at k4
      · rename_i hz
        cases k4
        cases h3
        rw [if_pos hz]
        exact ⟨_, rfl, .str _⟩
      · rename_i hz
        rw [if_pos (Nat.le_refl _), Nat.mul_one] at k4
        rw [if_neg hz, k4]
        exact ⟨_, by simp only [Option.bind_some, h3, Option.map_some], .str _⟩

/-! ### Freezing -/
theorem frz_of_log {lo n sz : Nat} {rows : List (List PV)} {rows' : List (List PV)} {t : TypeId} {l : Am.Loc} {vs : List Value} {rw_ : Bool} {c : Nat} (hφ : φ l.blk = some (.cells vs t rw_)) (k2 : rows.length * sz ≤ vs.length) (k4 : ∀ r ∈ rows, r.length = sz) (k7 : rows.length ≤ mostLen)
    (hn : lo + n ≤ rows.length) (hc : n ≤ c) (hlen : rows'.length = n) (hsz : ∀ r ∈ rows', r.length = sz) (hp' : rows'.flatten.all pure1 = true) (hr : PRL μ φ rows'.flatten ((vs.drop (lo * sz)).take (n * sz))) : PR μ φ (.frz sz rows') (.slice (some ⟨l.blk, lo * sz, none⟩) n c) := by
  have hcu : mostLen < capU := by decide
  have hle : lo * sz + n * sz ≤ rows.length * sz := by rw [← Nat.add_mul]; exact Nat.mul_le_mul_right _ hn
  exact .frz hlen.symm ⟨hc, by omega⟩ hsz hφ (by omega) hp' hr
theorem part_rel {rows : List (List PV)} {sz lo n : Nat} {vs : List Value} (k3 : PRL μ φ rows.flatten (vs.take (rows.length * sz))) (k4 : ∀ r ∈ rows, r.length = sz) (hn : lo + n ≤ rows.length) : PRL μ φ ((rows.drop lo).take n).flatten ((vs.drop (lo * sz)).take (n * sz)) := by
  have hle : lo * sz + n * sz ≤ rows.length * sz := by rw [← Nat.add_mul]; exact Nat.mul_le_mul_right _ hn
  have h1 := (k3.drop (lo * sz)).take (n * sz)
  rw [← flat_drop k4, ← flat_take (size := sz) (fun r hr => k4 r (List.mem_of_mem_drop hr)), List.drop_take, List.take_take, Nat.min_eq_left (by omega)] at h1
  exact h1
/-- The block of a slice that is frozen. -/
theorem freeze_log (s : Rel μ φ hp ha) {b sz : Nat} {rows : List (List PV)} {t : TypeId} {l : Am.Loc} (hb : hp[b]? = some (.log rows sz t .rw)) (hm : μ b rows.length = some (some l)) :
    ∃ φ' vs rw_, φ' l.blk = some (.cells vs t rw_) ∧ Rel μ φ' (hp.set b (.log rows sz t .ro)) ha ∧ Ext μ φ hp ha μ φ' (hp.set b (.log rows sz t .ro)) ha ∧ rows.length * sz ≤ vs.length ∧ PRL μ φ rows.flatten (vs.take (rows.length * sz)) ∧ (∀ r ∈ rows, r.length = sz) ∧ rows.length ≤ mostLen := by
  obtain ⟨vs, rw_, k1, k2, k3, k4, k5, k6, k7⟩ := log_at s hb hm
  obtain ⟨φ', q1, q2, q3⟩ := s.freeze (blk1 := .log rows sz t .ro) hb trivial hm k1 rfl (fun h => by simp [ownB, ownMd] at h) (by simp) (fun φ' hf => ⟨vs, rw_, rfl, k2, k3.mono (RenLe.refl _) hf, k4, k5, (fun h => by simp [ownMd] at h), k7⟩)
  exact ⟨φ', vs, rw_, q1, q2, q3, k2, k3, k4, k7⟩
/-- A block that was frozen before is remembered. -/
theorem ro_log (s : Rel μ φ hp ha) {b sz : Nat} {rows : List (List PV)} {t : TypeId} {l : Am.Loc} (hb : hp[b]? = some (.log rows sz t .ro)) (hm : μ b rows.length = some (some l)) :
    ∃ φ' vs rw_, φ' l.blk = some (.cells vs t rw_) ∧ Rel μ φ' hp ha ∧ Ext μ φ hp ha μ φ' hp ha ∧ rows.length * sz ≤ vs.length ∧ PRL μ φ rows.flatten (vs.take (rows.length * sz)) ∧ (∀ r ∈ rows, r.length = sz) ∧ rows.length ≤ mostLen := by
  obtain ⟨vs, rw_, k1, k2, k3, k4, k5, k6, k7⟩ := log_at s hb hm
  obtain ⟨φ', hφ'⟩ : ∃ φ' : Frz, φ' = fun a => if a = l.blk then some (.cells vs t rw_) else φ a := ⟨_, rfl⟩
  have hat : φ' l.blk = some (.cells vs t rw_) := by rw [hφ']; exact if_pos rfl
  have hoth : ∀ a, a ≠ l.blk → φ' a = φ a := fun a h => by rw [hφ']; exact if_neg h
  have hf : FrzLe φ φ' := fun a x h => by
    by_cases ha0 : a = l.blk
    · subst ha0
      rw [hat, ← s.frz _ _ h, k1]
    · rw [hoth a ha0]; exact h
  refine ⟨φ', vs, rw_, hat, ⟨s.dom, fun b blk h1 h2 => ?_, s.inj, fun b2 blk2 l2 h1 h2 h3 => ?_, fun a x h => ?_, s.top⟩, ⟨Nat.le_refl _, Nat.le_refl _, RenLe.refl _, hf, fun _ _ _ => rfl, fun b blk l h1 h2 h3 => .inr ⟨b, blk, l, h1, h2, h3, rfl⟩⟩, k2, k3, k4, k7⟩
  · rcases s.rel b blk h1 h2 with h | ⟨l', blk', q1, q2, q3⟩
    · exact .inl h
    · exact .inr ⟨l', blk', q1, q2, q3.mono (RenLe.refl _) hf⟩
  · rw [hoth _ fun e => ?_]
    · exact s.sep b2 blk2 l2 h1 h2 h3
    · have := s.inj b2 b blk2 _ l2 l h1 (by rintro rfl; exact h2) hb (by simp) h3 hm e
      subst this
      rw [hb] at h1
      cases h1
      simp [ownB, ownMd] at h2
  · by_cases ha0 : a = l.blk
    · subst ha0; rw [hat] at h; cases h; exact k1
    · rw [hoth a ha0] at h; exact s.frz a x h
/-- What freezing gives. -/
def FzOk (μ : Ren) (φ : Frz) (hp : PHeap) (ha : AHeap) (v : PV) (v' : Value) (q : PV × PHeap) : Prop := ∃ φ', PR μ φ' q.1 v' ∧ Rel μ φ' q.2 ha ∧ Ext μ φ hp ha μ φ' q.2 ha
theorem slice_cases {b lo n vr sz : Nat} {v' : Value} (h : PR μ φ (.ref b lo n vr sz) v') : (n = 0 ∧ ∃ a c, v' = .slice a 0 c ∧ (a = none → c = 0)) ∨ (0 < n ∧ ∃ l c, μ b vr = some (some l) ∧ lo + n ≤ vr ∧ (c = capU ∨ n ≤ c) ∧ v' = .slice (some ⟨l.blk, lo * sz, none⟩) n c) := by
  cases h with
  | ref0 _ a h => exact .inl ⟨rfl, a, 0, rfl, fun _ => rfl⟩
  | @ref _ _ _ _ _ c l h hn hc =>
    by_cases h0 : n = 0
    · subst h0; exact .inl ⟨rfl, _, c, rfl, fun h => by cases h⟩
    · refine .inr ⟨by omega, l, c, h, hn, ?_, rfl⟩
      rcases hc with ⟨rfl, _⟩ | ⟨_, h, _⟩
      · exact .inl rfl
      · exact .inr h
theorem PRL.split {xs ys : List PV} {zs : List Value} (h : PRL μ φ (xs ++ ys) zs) : ∃ z1 z2, zs = z1 ++ z2 ∧ PRL μ φ xs z1 ∧ PRL μ φ ys z2 := by
  refine ⟨zs.take xs.length, zs.drop xs.length, (List.take_append_drop _ _).symm, ?_, ?_⟩
  · have := h.take xs.length; rwa [List.take_left] at this
  · have := h.drop xs.length; rwa [List.drop_left] at this
theorem nil_frz {v : PV} {v' : Value} {sz : Nat} (h : PR μ φ v v') (hv : v = .nilS ∨ v = .emp) : PR μ φ (.frz sz []) v' := by
  rcases hv with rfl | rfl
  · cases h; exact .frzNil _
  · cases h with | emp a => exact frz_any _ _ _ fun _ => rfl
theorem cap_ok {n c k : Nat} (h : c = capU ∨ n ≤ c) (hn : n ≤ k) (hk : k ≤ mostLen) : n ≤ c := by
  rcases h with rfl | h
  · have : mostLen < capU := by decide
    omega
  · exact h
mutual
theorem fz_sim : ∀ (f : FS) {φ : Frz} {hp : PHeap} {v : PV} {v' : Value} {q : PV × PHeap}, Rel μ φ hp ha → PR μ φ v v' → fz f v hp = some q → FzOk μ φ hp ha v v' q
  | .keep, φ, hp, v, v', q, s, hv, h => by
    unfold fz at h
    cases h
    exact ⟨φ, hv, s, Ext.refl _ _ _ _⟩
  | .raw, φ, hp, v, v', q, s, hv, h => by
    unfold fz at h
    split at h
    · cases h
      cases hv
      exact ⟨φ, .emp none, s, Ext.refl _ _ _ _⟩
    · cases h
      exact ⟨φ, hv, s, Ext.refl _ _ _ _⟩
  | .flat sz0, φ, hp, v, v', q, s, hv, h => by
    unfold fz at h
    split at h
    · cases h; exact ⟨φ, nil_frz hv (.inl rfl), s, Ext.refl _ _ _ _⟩
    · cases h; exact ⟨φ, nil_frz hv (.inr rfl), s, Ext.refl _ _ _ _⟩
    · cases h; exact ⟨φ, hv, s, Ext.refl _ _ _ _⟩
    · rename_i b lo n vr sz
      rcases slice_cases hv with ⟨rfl, a, c, rfl, hc⟩ | ⟨h0, l, c, hm, hn, hc, rfl⟩
      · rw [if_pos rfl] at h
        cases h
        exact ⟨φ, frz_any _ _ _ hc, s, Ext.refl _ _ _ _⟩
      · rw [if_neg (by omega)] at h
        split at h
        · rename_i rows sz' t hb
          split at h
          · rename_i hc2
            obtain ⟨rfl, rfl, c1, c2⟩ := hc2
            cases h
            obtain ⟨φ', vs, rw_, q1, q2, q3, k2, k3, k4, k7⟩ := freeze_log s hb hm
            exact ⟨φ', frz_of_log q1 k2 k4 k7 c1 (cap_ok hc (by omega) k7) (by simp; omega) (fun r hr => k4 r (List.mem_of_mem_drop (List.mem_of_mem_take hr))) c2 ((part_rel k3 k4 c1).mono (RenLe.refl _) q3.phi), q2, q3⟩
          · cases h
        · rename_i rows sz' t hb
          split at h
          · rename_i hc2
            obtain ⟨rfl, rfl, c1, c2⟩ := hc2
            cases h
            obtain ⟨φ', vs, rw_, q1, q2, q3, k2, k3, k4, k7⟩ := ro_log s hb hm
            exact ⟨φ', frz_of_log q1 k2 k4 k7 c1 (cap_ok hc (by omega) k7) (by simp; omega) (fun r hr => k4 r (List.mem_of_mem_drop (List.mem_of_mem_take hr))) c2 ((part_rel k3 k4 c1).mono (RenLe.refl _) q3.phi), q2, q3⟩
          · cases h
        · cases h
    · cases h
  | .sl sz0 cs, φ, hp, v, v', q, s, hv, h => by
    unfold fz at h
    split at h
    · cases h; exact ⟨φ, nil_frz hv (.inl rfl), s, Ext.refl _ _ _ _⟩
    · cases h; exact ⟨φ, nil_frz hv (.inr rfl), s, Ext.refl _ _ _ _⟩
    · cases h; exact ⟨φ, hv, s, Ext.refl _ _ _ _⟩
    · rename_i b lo n vr sz
      rcases slice_cases hv with ⟨rfl, a, c, rfl, hc⟩ | ⟨h0, l, c, hm, hn, hc, rfl⟩
      · rw [if_pos rfl] at h
        cases h
        exact ⟨φ, frz_any _ _ _ hc, s, Ext.refl _ _ _ _⟩
      · rw [if_neg (by omega)] at h
        split at h
        · rename_i rows sz' t hb
          split at h
          · rename_i hc2
            obtain ⟨rfl, rfl, c1⟩ := hc2
            rw [Option.bind_eq_some_iff] at h
            obtain ⟨r, h1, h2⟩ := h
            split at h2
            · rename_i hpure
              cases h2
              obtain ⟨φ', vs, rw_, q1, q2, q3, k2, k3, k4, k7⟩ := freeze_log s hb hm
              obtain ⟨φ2, g1, g2, g3, g4, g5⟩ := fzRows_sim cs ((rows.drop lo).take n) q2 ((part_rel k3 k4 c1).mono (RenLe.refl _) q3.phi) h1
              refine ⟨φ2, frz_of_log (g3.phi _ _ q1) k2 k4 k7 c1 (cap_ok hc (by omega) k7) (by rw [g4]; simp; omega) (g5 _ fun r hr => k4 r (List.mem_of_mem_drop (List.mem_of_mem_take hr))) hpure g1, g2, q3.trans g3⟩
            · cases h2
          · cases h
        · rename_i rows sz' t hb
          split at h
          · rename_i hc2
            obtain ⟨rfl, rfl, c1⟩ := hc2
            rw [Option.bind_eq_some_iff] at h
            obtain ⟨r, h1, h2⟩ := h
            split at h2
            · rename_i hpure
              cases h2
              obtain ⟨φ', vs, rw_, q1, q2, q3, k2, k3, k4, k7⟩ := ro_log s hb hm
              obtain ⟨φ2, g1, g2, g3, g4, g5⟩ := fzRows_sim cs ((rows.drop lo).take n) q2 ((part_rel k3 k4 c1).mono (RenLe.refl _) q3.phi) h1
              refine ⟨φ2, frz_of_log (g3.phi _ _ q1) k2 k4 k7 c1 (cap_ok hc (by omega) k7) (by rw [g4]; simp; omega) (g5 _ fun r hr => k4 r (List.mem_of_mem_drop (List.mem_of_mem_take hr))) hpure g1, g2, q3.trans g3⟩
            · cases h2
          · cases h
        · cases h
    · cases h
  | .agg cs, φ, hp, v, v', q, s, hv, h => by
    unfold fz at h
    split at h
    · rw [Option.map_eq_some_iff] at h
      obtain ⟨r, h1, rfl⟩ := h
      cases hv with | agg hv =>
        obtain ⟨φ', g1, g2, g3⟩ := fzL_sim cs s hv h1
        exact ⟨φ', .agg g1, g2, g3⟩
    · cases h
theorem fzL_sim : ∀ (f : List FS) {φ : Frz} {hp : PHeap} {vs : List PV} {vs' : List Value} {q : List PV × PHeap}, Rel μ φ hp ha → PRL μ φ vs vs' → fzL f vs hp = some q → ∃ φ', PRL μ φ' q.1 vs' ∧ Rel μ φ' q.2 ha ∧ Ext μ φ hp ha μ φ' q.2 ha
  | [], φ, hp, vs, vs', q, s, hv, h => by
    cases hv with
    | nil => unfold fzL at h; cases h; exact ⟨φ, .nil, s, Ext.refl _ _ _ _⟩
    | cons => unfold fzL at h; cases h
  | f :: fs, φ, hp, vs, vs', q, s, hv, h => by
    cases hv with
    | nil => unfold fzL at h; cases h
    | cons h1 h2 =>
      unfold fzL at h
      simp only [Option.bind_eq_some_iff, Option.map_eq_some_iff] at h
      obtain ⟨a, ha1, r, hr, rfl⟩ := h
      obtain ⟨φ1, g1, g2, g3⟩ := fz_sim f s h1 ha1
      obtain ⟨φ2, k1, k2, k3⟩ := fzL_sim fs g2 (h2.mono g3.mu g3.phi) hr
      exact ⟨φ2, .cons (g1.mono k3.mu k3.phi) k1, k2, g3.trans k3⟩
theorem fzRows_sim : ∀ (f : List FS) (rows : List (List PV)) {φ : Frz} {hp : PHeap} {ws : List Value} {q : List (List PV) × PHeap}, Rel μ φ hp ha → PRL μ φ rows.flatten ws → fzRows f rows hp = some q →
    ∃ φ', PRL μ φ' q.1.flatten ws ∧ Rel μ φ' q.2 ha ∧ Ext μ φ hp ha μ φ' q.2 ha ∧ q.1.length = rows.length ∧ ∀ sz, (∀ r ∈ rows, r.length = sz) → ∀ r ∈ q.1, r.length = sz
  | f, [], φ, hp, ws, q, s, hv, h => by
    unfold fzRows at h
    cases h
    exact ⟨φ, hv, s, Ext.refl _ _ _ _, rfl, fun _ h => h⟩
  | f, r :: rows, φ, hp, ws, q, s, hv, h => by
    unfold fzRows at h
    simp only [Option.bind_eq_some_iff, Option.map_eq_some_iff] at h
    obtain ⟨a, ha1, p, hp1, rfl⟩ := h
    rw [List.flatten_cons] at hv
    obtain ⟨w1, w2, rfl, h1, h2⟩ := hv.split
    obtain ⟨φ1, g1, g2, g3⟩ := fzL_sim f s h1 ha1
    obtain ⟨φ2, k1, k2, k3, k4, k5⟩ := fzRows_sim f rows g2 (h2.mono g3.mu g3.phi) hp1
    refine ⟨φ2, ?_, k2, g3.trans k3, by simp [k4], fun sz hs r' hr' => ?_⟩
    · rw [List.flatten_cons]; exact (g1.mono k3.mu k3.phi).append k1
    · rcases List.mem_cons.1 hr' with rfl | hr'
      · have e1 := g1.length
        have e2 := h1.length
        have := hs r (by simp)
        omega
      · exact k5 sz (fun r hr => hs r (by simp [hr])) r' hr'
end

/-! ### Giving up what nobody names -/
theorem cut_step (s : Rel μ φ hp ha) {n : Nat} : RenLe (cut μ n) μ := cut_le μ n
theorem BR.cut {μ' : Ren} {φ' : Frz} {K K0 n : Nat} {b : PBlk} {a a0 : ABlk} (hd : ∀ b k l, μ b k = some l → b < n) (h0 : BR μ φ K0 b a0) (h : BR μ' φ' K b a) : BR (Vm.cut μ' n) φ' K b a := by
  cases b with
  | box vs t md =>
    obtain ⟨_, _, _, _, g, _⟩ := h0
    obtain ⟨v, r, h1, h2, h3, h4⟩ := h
    exact ⟨v, r, h1, h2, PRL.lt hd h3 g, h4⟩
  | log rows sz t md =>
    obtain ⟨_, _, _, _, g, _⟩ := h0
    obtain ⟨v, r, h1, h2, h3, h4, h5, h6⟩ := h
    exact ⟨v, r, h1, h2, PRL.lt hd h3 g, h4, h5, h6⟩
  | map es =>
    obtain ⟨_, _, g1, g2⟩ := h0
    obtain ⟨e, h1, h2, h3⟩ := h
    exact ⟨e, h1, PRL.lt hd h2 g1, PRL.lt hd h3 g2⟩
  | loop =>
    obtain ⟨_, _, g⟩ := h0
    obtain ⟨e, h1, h2⟩ := h
    exact ⟨e, h1, PRL.lt hd h2 g⟩
  | dead => trivial
theorem BR.under {K n : Nat} {b : PBlk} {a : ABlk} (hl : ltB n b) (h : BR μ φ K b a) : BR (Vm.cut μ n) φ K b a := by
  cases b with
  | box vs t md => obtain ⟨v, r, h1, h2, h3, h4⟩ := h; exact ⟨v, r, h1, h2, h3.under hl, h4⟩
  | log rows sz t md => obtain ⟨v, r, h1, h2, h3, h4, h5, h6⟩ := h; exact ⟨v, r, h1, h2, h3.under hl, h4, h5, h6⟩
  | map es =>
    obtain ⟨e, h1, h2, h3⟩ := h
    exact ⟨e, h1, h2.under (fun x hx => by obtain ⟨y, hy, rfl⟩ := List.mem_map.1 hx; exact (hl y hy).1), h3.under (fun x hx => by obtain ⟨y, hy, rfl⟩ := List.mem_map.1 hx; exact (hl y hy).2)⟩
  | loop => obtain ⟨e, h1, h2⟩ := h; exact ⟨e, h1, h2.under hl⟩
  | dead => trivial
/-- The heap below n on both sides. -/
theorem trim_sim {μ0 : Ren} {φ0 : Frz} {h0 : PHeap} {ha0 : AHeap} (s0 : Rel μ0 φ0 h0 ha0) (s : Rel μ φ hp ha) (x : Ext μ0 φ0 h0 ha0 μ φ hp ha) {roots : List PV} {roots' : List Value} (hr : PRL μ φ roots roots') :
    ∃ μ', PRL μ' φ roots roots' ∧ Rel μ' φ (trim h0 roots hp) ha ∧ Ext μ0 φ0 h0 ha0 μ' φ (trim h0 roots hp) ha := by
  unfold trim
  split
  · rename_i hc
    obtain ⟨c1, c2⟩ := hc
    have hd : ∀ b k l, μ0 b k = some l → b < h0.length := fun b k l h => (s0.dom b k l h).1
    have hget : ∀ b blk, (hp.take h0.length)[b]? = some blk → b < h0.length ∧ hp[b]? = some blk := fun b blk h => by
      have := some_lt h
      rw [List.length_take] at this
      refine ⟨by omega, ?_⟩
      rwa [List.getElem?_take, if_pos (by omega)] at h
    have hc1 : ∀ {b k o}, cut μ h0.length b k = some o → μ b k = some o := fun h => cut_le _ _ _ _ _ h
    refine ⟨cut μ h0.length, hr.under c1, ⟨fun b k o h => ?_, fun b blk h hd' => ?_, fun b b' blk blk' l l' h1 h2 h3 h4 h5 h6 h7 => ?_, fun b blk l h1 h2 h3 => ?_, s.frz, fun b blk k o h1 h2 h3 => ?_⟩, ⟨?_, x.leA, fun b k l h => ?_, x.phi, x.frame, fun b blk l h1 h2 h3 => ?_⟩⟩
    · have h1 := hc1 h
      obtain ⟨q1, q2⟩ := s.dom b k o h1
      refine ⟨?_, q2⟩
      unfold cut at h
      split at h
      · rw [List.length_take]; omega
      · cases h
    · obtain ⟨hb, h⟩ := hget b blk h
      rcases s.rel b blk h hd' with ⟨q1, q2⟩ | ⟨l, blk', q1, q2, q3⟩
      · exact .inl ⟨by rw [cut_lt hb]; exact q1, q2⟩
      · refine .inr ⟨l, blk', by rw [cut_lt hb]; exact q1, q2, ?_⟩
        rcases c2 b hb with h5 | ⟨blk2, h5, h6⟩
        · rw [h] at h5
          rcases s0.rel b blk h5.symm hd' with ⟨_, _, _, _, rfl⟩ | ⟨l0, blk0, _, _, q4⟩
          · exact q3.under (fun x hx => by simp at hx)
          · exact BR.cut hd q4 q3
        · rw [h] at h5
          cases h5
          exact q3.under h6
    · exact s.inj b b' blk blk' l l' (hget b blk h1).2 h2 (hget b' blk' h3).2 h4 (hc1 h5) (hc1 h6) h7
    · exact s.sep b blk l (hget b blk h1).2 h2 (hc1 h3)
    · exact s.top b blk k o (hget b blk h1).2 h2 (hc1 h3)
    · rw [List.length_take]; have := x.le; omega
    · rw [cut_lt (hd _ _ _ h)]; exact x.mu _ _ _ h
    · exact x.wrt b blk l (hget b blk h1).2 h2 (hc1 h3)
  · exact ⟨μ, hr, s, x⟩

/-! ### Locking -/
theorem lock_len (h : PHeap) : (lock h).length = h.length := by simp [lock]
theorem lock_get {h : PHeap} {b : Nat} {blk : PBlk} (e : (lock h)[b]? = some blk) : ∃ blk0, h[b]? = some blk0 ∧ blk = lockB blk0 := by
  unfold lock at e
  rw [List.getElem?_map, Option.map_eq_some_iff] at e
  obtain ⟨b0, h1, h2⟩ := e
  exact ⟨b0, h1, h2.symm⟩
theorem lockB_ver (b : PBlk) : ver (lockB b) = ver b := by
  unfold lockB
  split <;> rfl
theorem lockB_dead {b : PBlk} : lockB b = .dead ↔ b = .dead := by
  unfold lockB
  split <;> simp
theorem lockB_own {b : PBlk} : ownB (lockB b) ↔ ownB b := by
  unfold lockB
  split <;> simp [ownB, ownMd]
theorem lockB_wr (b : PBlk) : ¬ wrB (lockB b) := by
  intro h
  unfold lockB at h
  split at h <;> first | exact h | skip
  rename_i b h1 h2 h3 h4
  unfold wrB at h
  split at h
  · exact h1 _ _ rfl
  · exact h2 _ _ _ rfl
  · exact h3 _ rfl
  · exact h4 _ _ _ _ _ _ _ rfl
  · exact h
theorem lockB_BR {K : Nat} {b : PBlk} {a : ABlk} (h : BR μ φ K b a) : BR μ φ K (lockB b) a := by
  unfold lockB
  split
  · obtain ⟨v, r, h1, h2, h3, h4⟩ := h; exact ⟨v, r, h1, h2, h3, fun _ => h4 rfl⟩
  · obtain ⟨v, r, h1, h2, h3, h4, h5, h6, h7⟩ := h; exact ⟨v, r, h1, h2, h3, h4, h5, fun _ => h6 rfl, h7⟩
  · exact h
  · exact h
  · exact h
theorem lock_sim (s : Rel μ φ hp ha) : Rel μ φ (lock hp) ha where
  dom b k o h := by rw [lock_len]; exact s.dom b k o h
  rel b blk h hd := by
    obtain ⟨b0, h1, rfl⟩ := lock_get h
    rcases s.rel b b0 h1 (fun e => hd (lockB_dead.2 e)) with ⟨q1, sz, t, md, rfl⟩ | ⟨l, blk', q1, q2, q3⟩
    · refine .inl ⟨by rw [lockB_ver]; exact q1, ?_⟩
      cases md <;> exact ⟨_, _, _, rfl⟩
    · exact .inr ⟨l, blk', by rw [lockB_ver]; exact q1, q2, lockB_BR q3⟩
  inj b b' blk blk' l l' h1 h2 h3 h4 h5 h6 h7 := by
    obtain ⟨b0, k1, rfl⟩ := lock_get h1
    obtain ⟨b1, k2, rfl⟩ := lock_get h3
    rw [lockB_ver] at h5 h6
    exact s.inj b b' b0 b1 l l' k1 (fun e => h2 (lockB_dead.2 e)) k2 (fun e => h4 (lockB_dead.2 e)) h5 h6 h7
  sep b blk l h1 h2 h3 := by
    obtain ⟨b0, k1, rfl⟩ := lock_get h1
    rw [lockB_ver] at h3
    exact s.sep b b0 l k1 (lockB_own.1 h2) h3
  frz := s.frz
  top b blk k o h1 h2 h3 := by
    obtain ⟨b0, k1, rfl⟩ := lock_get h1
    rw [lockB_ver]
    exact s.top b b0 k o k1 (fun e => h2 (lockB_dead.2 e)) h3
/-- Behind something that was not to write, nothing that was there has turned. -/
theorem locked_same {μ' : Ren} {φ' : Frz} {hp' : PHeap} {ha' : AHeap} (x : Ext μ φ (lock hp) ha μ' φ' hp' ha') : ∀ a, a < ha.length → ha'[a]? = ha[a]? := fun a h => x.frame a h fun b blk l h1 h2 h3 => by
  obtain ⟨b0, k1, rfl⟩ := lock_get h1
  exact absurd h2 (lockB_wr b0)
theorem prefix_of {α : Type} {a b : List α} (hl : a.length ≤ b.length) (h : ∀ i, i < a.length → b[i]? = a[i]?) : a <+: b := by
  refine ⟨b.drop a.length, List.ext_getElem? fun i => ?_⟩
  by_cases hi : i < a.length
  · rw [List.getElem?_append_left hi, h i hi]
  · rw [List.getElem?_append_right (by omega), List.getElem?_drop]; congr 1; omega
theorem unl_sim {μ' : Ren} {φ' : Frz} {hp' : PHeap} {ha' : AHeap} (s : Rel μ φ hp ha) (s' : Rel μ' φ' hp' ha') (x : Ext μ φ (lock hp) ha μ' φ' hp' ha') (hpre : lock hp <+: hp') :
    ha <+: ha' ∧ Rel μ' φ' (hp ++ hp'.drop hp.length) ha' ∧ Ext μ φ hp ha μ' φ' (hp ++ hp'.drop hp.length) ha' := by
  have hsame := locked_same x
  obtain ⟨t, ht⟩ := hpre
  have hlen : hp.length ≤ hp'.length := by rw [← ht, List.length_append, lock_len]; omega
  have hlo : ∀ b, b < hp.length → (hp ++ hp'.drop hp.length)[b]? = hp[b]? := fun b hb => List.getElem?_append_left hb
  have hhi : ∀ b, hp.length ≤ b → (hp ++ hp'.drop hp.length)[b]? = hp'[b]? := fun b hb => by
    rw [List.getElem?_append_right hb, List.getElem?_drop]; congr 1; omega
  have hlk : ∀ b blk, b < hp.length → hp[b]? = some blk → hp'[b]? = some (lockB blk) := fun b blk hb h => by
    rw [← ht, List.getElem?_append_left (by rw [lock_len]; exact hb)]
    unfold lock
    rw [List.getElem?_map, h]
    rfl
  -- a block of the new heap, as the callee left it
  have hany : ∀ b blk, (hp ++ hp'.drop hp.length)[b]? = some blk → ∃ blk', hp'[b]? = some blk' ∧ ver blk' = ver blk ∧ (blk' = .dead ↔ blk = .dead) ∧ (ownB blk' ↔ ownB blk) ∧ (b < hp.length ∧ hp[b]? = some blk ∨ hp.length ≤ b ∧ blk' = blk) := fun b blk h => by
    by_cases hb : b < hp.length
    · rw [hlo b hb] at h
      exact ⟨_, hlk b blk hb h, lockB_ver _, lockB_dead, lockB_own, .inl ⟨hb, h⟩⟩
    · rw [hhi b (by omega)] at h
      exact ⟨blk, h, rfl, Iff.rfl, Iff.rfl, .inr ⟨by omega, rfl⟩⟩
  refine ⟨prefix_of x.leA hsame, ⟨fun b k o h => ?_, fun b blk h hd => ?_, fun b b' blk blk' l l' h1 h2 h3 h4 h5 h6 h7 => ?_, fun b blk l h1 h2 h3 => ?_, s'.frz, fun b blk k o h1 h2 h3 => ?_⟩, ⟨by simp, x.leA, x.mu, x.phi, fun a h1 h2 => hsame a h1, fun b blk l h1 h2 h3 => ?_⟩⟩
  · obtain ⟨q1, q2⟩ := s'.dom b k o h
    exact ⟨by rw [List.length_append, List.length_drop]; omega, q2⟩
  · obtain ⟨blk', k1, k2, k3, k4, k5⟩ := hany b blk h
    rcases k5 with ⟨hb, k5⟩ | ⟨hb, rfl⟩
    · rcases s.rel b blk k5 hd with ⟨q1, q2⟩ | ⟨l, ab, q1, q2, q3⟩
      · exact .inl ⟨x.mu _ _ _ q1, q2⟩
      · exact .inr ⟨l, ab, x.mu _ _ _ q1, by rw [hsame _ ((s.dom _ _ _ q1).2 l rfl)]; exact q2, q3.mono x.mu x.phi⟩
    · exact s'.rel b _ k1 hd
  · obtain ⟨c1, d1, d2, d3, d4, d5⟩ := hany b blk h1
    obtain ⟨c2, e1, e2, e3, e4, e5⟩ := hany b' blk' h3
    exact s'.inj b b' c1 c2 l l' d1 (fun e => h2 (d3.1 e)) e1 (fun e => h4 (e3.1 e)) (by rw [d2]; exact h5) (by rw [e2]; exact h6) h7
  · obtain ⟨c1, d1, d2, d3, d4, d5⟩ := hany b blk h1
    exact s'.sep b c1 l d1 (d4.2 h2) (by rw [d2]; exact h3)
  · obtain ⟨c1, d1, d2, d3, d4, d5⟩ := hany b blk h1
    have := s'.top b c1 k o d1 (fun e => h2 (d3.1 e)) h3
    omega
  · obtain ⟨c1, d1, d2, d3, d4, d5⟩ := hany b blk h1
    rcases d5 with ⟨hb, d5⟩ | ⟨hb, rfl⟩
    · rcases s.rel b blk d5 h2.live with ⟨q1, q2⟩ | ⟨l0, ab, q1, q2, q3⟩
      · have := x.mu _ _ _ q1
        rw [h3] at this
        cases this
      · have := x.mu _ _ _ q1
        rw [h3] at this
        cases this
        exact .inr ⟨b, blk, l, d5, h2, q1, rfl⟩
    · rcases x.wrt b c1 l d1 h2 h3 with h4 | ⟨b0, blk0, l0, q1, q2, _⟩
      · exact .inl h4
      · obtain ⟨b1, _, rfl⟩ := lock_get q1
        exact absurd q2 (lockB_wr _)
end Go.Vm

/- Code of the value machine is code of the abstract machine. -/
namespace Go.Vm
open Go.Am
variable {μ : Ren} {φ : Frz} {hp : PHeap} {ha : AHeap}

def EnvR (μ : Ren) (φ : Frz) (e : PEnv) (ea : Env) : Prop := ∀ i, PR μ φ (e i) (ea i)
theorem EnvR.mono {μ' : Ren} {φ' : Frz} {e : PEnv} {ea : Env} (h : EnvR μ φ e ea) (hm : RenLe μ μ') (hf : FrzLe φ φ') : EnvR μ' φ' e ea := fun i => (h i).mono hm hf
theorem EnvR.upd {e : PEnv} {ea : Env} (h : EnvR μ φ e ea) {v : PV} {v' : Value} (hv : PR μ φ v v') (i : Nat) : EnvR μ φ (pupd e i v) (Am.upd ea i v') := fun j => by
  unfold pupd Am.upd
  cases Nat.beq i j
  · exact h j
  · exact hv
theorem EnvR.updO {e : PEnv} {ea : Env} (h : EnvR μ φ e ea) {v : PV} {v' : Value} (hv : PR μ φ v v') (d : Option Nat) : EnvR μ φ (pupdO e d v) (Am.updO ea d v') := by
  cases d with
  | none => exact h
  | some i => exact h.upd hv i
theorem EnvR.junk {e : PEnv} {ea : Env} (h : EnvR μ φ e ea) (l : List Nat) : EnvR μ φ (pjunk e l) (junkAll ea l) := by
  induction l with
  | nil => exact h
  | cons i r ih => exact ih.upd (.junk _) i
theorem headP {vs : List PV} {vs' : List Value} (h : PRL μ φ vs vs') : PR μ φ (vs.headD undefP) (vs'.headD Go.undef) := by
  cases h with
  | nil => exact PR.undef
  | cons h _ => exact h
theorem tailP {vs : List PV} {vs' : List Value} (h : PRL μ φ vs vs') : PRL μ φ vs.tail vs'.tail := by
  cases h with
  | nil => exact .nil
  | cons _ h => exact h
theorem EnvR.setMany {e : PEnv} {ea : Env} : ∀ (l : List Nat) {vs : List PV} {vs' : List Value}, EnvR μ φ e ea → PRL μ φ vs vs' → EnvR μ φ (psetMany e l vs) (Am.setMany ea l vs')
  | [], _, _, h, _ => h
  | i :: r, _, _, h, hv => (EnvR.setMany r h (tailP hv)).upd (headP hv) i
theorem EnvR.getMany {e : PEnv} {ea : Env} (h : EnvR μ φ e ea) : ∀ (l : List Nat), PRL μ φ (pgetMany e l) (Am.getMany ea l)
  | [] => .nil
  | i :: r => .cons (h i) (EnvR.getMany h r)
theorem EnvR.val {e : PEnv} {ea : Env} (h : EnvR μ φ e ea) (x : Operand) : PR μ φ (pval e x) (Am.val ea x) := by
  cases x with
  | tmp t => exact h t
  | const v => exact PR.ofV v
  | global g => exact .junk _
  | func f => exact .func f .nil .nil
theorem EnvR.vals {e : PEnv} {ea : Env} (h : EnvR μ φ e ea) : ∀ (l : List Operand), PRL μ φ (pvals e l) (Am.vals ea l)
  | [] => .nil
  | x :: r => .cons (h.val x) (EnvR.vals h r)
theorem EnvR.valO {e : PEnv} {ea : Env} (h : EnvR μ φ e ea) (x : Option Operand) : OR μ φ (pvalO e x) (Am.valO ea x) := by
  cases x with
  | none => exact .none
  | some x => exact .some (h.val x)
theorem EnvR.valP {e : PEnv} {ea : Env} (h : EnvR μ φ e ea) : ∀ (l : List (Nat × Nat × Operand)), PPR μ φ (pvalP e l) (Am.valP ea l)
  | [] => .nil
  | (i, n, x) :: r => .cons (h.val x) (EnvR.valP h r)

/-- What is told of calls holds of the abstract machine's. -/
def CallR (Γ : PCallee) (Γa : Am.Callee) : Prop := ∀ f args hp r hp', Γ f args hp = some (r, hp') → ∀ μ φ ha args', Rel μ φ hp ha → PRL μ φ args args' →
  ∃ r' ha' μ' φ', Γa f args' ha = some (r', ha') ∧ PR μ' φ' r r' ∧ Rel μ' φ' hp' ha' ∧ Ext μ φ hp ha μ' φ' hp' ha'
theorem yield_args {b : Nat} {args : List PV} {args' : List Value} {l : Am.Loc} (h : μ b 0 = some (some l)) (ha : PRL μ φ args args') : PRL μ φ (.ptr b 0 :: args) (ptrTo l.blk 0 :: args') := .cons (.ptr h) ha
theorem callVP_sim {Γ : PCallee} {Γa : Am.Callee} (hΓ : CallR Γ Γa) (s : Rel μ φ hp ha) {f : PV} {f' : Value} {args : List PV} {args' : List Value} {r : PV} {hp' : PHeap} (hf : PR μ φ f f') (hargs : PRL μ φ args args') (h : callVP Γ f args hp = some (r, hp')) :
    ∃ r' ha' μ' φ', callVf Γa f' args' ha = some (r', ha') ∧ PR μ' φ' r r' ∧ Rel μ' φ' hp' ha' ∧ Ext μ φ hp ha μ' φ' hp' ha' := by
  unfold callVP at h
  split at h
  · rename_i g xs ys
    cases hf with | @func _ _ _ xs' ys' hx hy =>
      cases hb : Nat.blt g yieldId with
      | false => rw [hb] at h; cases h
      | true =>
        rw [hb] at h
        obtain ⟨r', ha', μ', φ', q1, q⟩ := hΓ _ _ _ _ _ h μ φ ha _ s ((hx.append hargs).append hy)
        exact ⟨r', ha', μ', φ', by unfold callVf; simp only [hb, cond_true]; exact q1, q⟩
  · rename_i b
    cases hf with | @yield _ l hm =>
      obtain ⟨r', ha', μ', φ', q1, q⟩ := hΓ _ _ _ _ _ h μ φ ha _ s (yield_args hm hargs)
      exact ⟨r', ha', μ', φ', q1, q⟩
  · cases h
theorem callFP_sim {Γ : PCallee} {Γa : Am.Callee} (hΓ : CallR Γ Γa) (s : Rel μ φ hp ha) {f : PV} {f' : Value} {args : List PV} {args' : List Value} {r : PV} {hp' : PHeap} (hf : PR μ φ f f') (hargs : PRL μ φ args args') (h : callFP Γ f args hp = some (r, hp')) :
    ∃ r' ha' μ' φ', callFf Γa f' args' ha = some (r', ha') ∧ PR μ' φ' r r' ∧ Rel μ' φ' hp' ha' ∧ Ext μ φ hp ha μ' φ' hp' ha' := by
  unfold callFP at h
  split at h
  · rename_i g xs ys
    cases hf with | @func _ _ _ xs' ys' hx hy =>
      cases hb : Nat.blt g yieldId with
      | false => rw [hb] at h; cases h
      | true =>
        rw [hb] at h
        obtain ⟨r', ha', μ', φ', q1, q⟩ := hΓ _ _ _ _ _ h μ φ ha _ s ((hx.append hargs).append hy)
        exact ⟨r', ha', μ', φ', by unfold callFf; simp only [hb, cond_true]; exact q1, q⟩
  · cases h

theorem repP_rel {zero : List PV} {zero' : List Value} (h : PRL μ φ zero zero') (n : Nat) : PRL μ φ (repP zero n) (rep zero' n) := by
  induction n with
  | zero => exact .nil
  | succ n ih => exact h.append ih
theorem repP_len (zero : List PV) (n : Nat) : (repP zero n).length = n * zero.length := by
  induction n with
  | zero => simp [repP]
  | succ n ih => rw [repP, List.length_append, ih, Nat.add_mul]; omega
theorem fillP_len : ∀ {ps : List (Nat × Nat × PV)} {cs r : List PV}, fillP cs ps = some r → r.length = cs.length := by
  intro ps
  induction ps with
  | nil => intro cs r h; cases h; rfl
  | cons p ps ih =>
    intro cs r h
    obtain ⟨off, size, v⟩ := p
    simp only [fillP] at h
    split at h
    · rename_i hc
      have := ih h
      rw [this]
      simp
      omega
    · cases h
theorem chunk_len (sz n : Nat) (l : List PV) : (chunk sz n l).length = n := by
  induction n generalizing l with
  | zero => rfl
  | succ n ih => simp [chunk, ih]
theorem chunk_flat (sz n : Nat) (l : List PV) (h : l.length = n * sz) : (chunk sz n l).flatten = l := by
  induction n generalizing l with
  | zero => rw [Nat.zero_mul] at h; rw [List.eq_nil_of_length_eq_zero h]; rfl
  | succ n ih =>
    rw [Nat.add_mul] at h
    rw [chunk, List.flatten_cons, ih _ (by rw [List.length_drop]; omega), List.take_append_drop]
theorem chunk_row (sz n : Nat) (l : List PV) (h : l.length = n * sz) : ∀ r ∈ chunk sz n l, r.length = sz := by
  induction n generalizing l with
  | zero => intro r hr; cases hr
  | succ n ih =>
    rw [Nat.add_mul] at h
    intro r hr
    rcases List.mem_cons.1 hr with rfl | hr
    · rw [List.length_take]; omega
    · exact ih _ (by rw [List.length_drop]; omega) r hr
/-- A block that is never written is there from the start. -/
theorem Rel.pushF (s : Rel μ φ hp ha) (blk' : ABlk) : ∃ φ', φ' ha.length = some blk' ∧ FrzLe φ φ' ∧ Rel μ φ' hp (ha ++ [blk']) ∧ Ext μ φ hp ha μ φ' hp (ha ++ [blk']) := by
  have hφ0 : ∀ a blk, φ a = some blk → a < ha.length := fun a blk e => some_lt (s.frz a blk e)
  obtain ⟨φ', hφ'⟩ : ∃ φ' : Frz, φ' = fun a => if a = ha.length then some blk' else φ a := ⟨_, rfl⟩
  have hat : φ' ha.length = some blk' := by rw [hφ']; exact if_pos rfl
  have hoth : ∀ a, a ≠ ha.length → φ' a = φ a := fun a h => by rw [hφ']; exact if_neg h
  have hf : FrzLe φ φ' := fun a x h => by rw [hoth a (by have := hφ0 a x h; omega)]; exact h
  refine ⟨φ', hat, hf, ⟨fun b k o h => ?_, fun b blk h hd => ?_, s.inj, fun b blk l h1 h2 h3 => ?_, fun a x h => ?_, s.top⟩, ⟨Nat.le_refl _, by simp, RenLe.refl _, hf, fun a h _ => List.getElem?_append_left h, fun b blk l h1 h2 h3 => .inr ⟨b, blk, l, h1, h2, h3, rfl⟩⟩⟩
  · obtain ⟨q1, q2⟩ := s.dom b k o h
    exact ⟨q1, fun l e => by rw [List.length_append]; have := q2 l e; omega⟩
  · rcases s.rel b blk h hd with h | ⟨l, ab, q1, q2, q3⟩
    · exact .inl h
    · exact .inr ⟨l, ab, q1, by rw [List.getElem?_append_left ((s.dom _ _ _ q1).2 l rfl)]; exact q2, q3.mono (RenLe.refl _) hf⟩
  · rw [hoth _ (by have := (s.dom _ _ _ h3).2 l rfl; omega)]
    exact s.sep b blk l h1 h2 h3
  · by_cases ha0 : a = ha.length
    · subst ha0; rw [hat] at h; cases h; simp
    · rw [hoth a ha0] at h
      rw [List.getElem?_append_left (hφ0 a x h)]
      exact s.frz a x h

section
variable {R Ra : Type} {Q : R → Ra → Prop}
/-- What follows an operation does on the abstract side what it does here. -/
def KR (Q : R → Ra → Prop) (μ : Ren) (φ : Frz) (hp : PHeap) (ha : AHeap) (k : PV → PHeap → Option R) (ka : Value → AHeap → Option Ra) : Prop :=
  ∀ v hp' r v' ha' μ' φ', k v hp' = some r → PR μ' φ' v v' → Rel μ' φ' hp' ha' → Ext μ φ hp ha μ' φ' hp' ha' → ∃ ra, ka v' ha' = some ra ∧ Q r ra
theorem pure_sim {x : Option PV} {y : Option Value} {k : PV → PHeap → Option R} {ka : Value → AHeap → Option Ra} (s : Rel μ φ hp ha) (hk : KR Q μ φ hp ha k ka) (hxy : ∀ v, x = some v → ∃ v', y = some v' ∧ PR μ φ v v') {r : R} (h : (x.bind fun v => k v hp) = some r) :
    ∃ ra, (y.bind fun v => ka v ha) = some ra ∧ Q r ra := by
  rw [Option.bind_eq_some_iff] at h
  obtain ⟨v, h1, h2⟩ := h
  obtain ⟨v', h3, h4⟩ := hxy v h1
  obtain ⟨ra, h5, h6⟩ := hk v hp r v' ha μ φ h2 h4 s (Ext.refl _ _ _ _)
  exact ⟨ra, by rw [h3]; exact h5, h6⟩
theorem popK_sim {Γ : PCallee} {Γa : Am.Callee} (hΓ : CallR Γ Γa) (o : POp) {e : PEnv} {ea : Env} (he : EnvR μ φ e ea) (s : Rel μ φ hp ha) {k : PV → PHeap → Option R} {ka : Value → AHeap → Option Ra} (hk : KR Q μ φ hp ha k ka) {r : R} (h : popK Γ o e hp k = some r) :
    ∃ ra, opK Γa (eraseO o) ea ha ka = some ra ∧ Q r ra := by
  cases o with
  | growNil t sz =>
    simp only [popK] at h
    split at h
    · obtain ⟨q1, q2⟩ := s.ghost sz t .rw
      exact hk _ _ _ _ _ _ _ h (.ref0 _ none (put_self _ _ _ _)) q1 q2
    · cases h
  | growBox isNew t el sz =>
    simp only [popK] at h
    split at h
    · obtain ⟨q1, q2⟩ := s.ghost sz el .rw
      have hr : PR (put μ hp.length 0 none) φ (.ref hp.length 0 0 0 sz) (.slice none 0 0) := .ref0 _ none (put_self _ _ _ _)
      obtain ⟨g1, g2⟩ := q1.push (.box [.ref hp.length 0 0 0 sz] t .rw) (.cells [.slice none 0 0] t true) 0 ⟨_, true, rfl, by simp, .cons (hr.mono (put_new q1 _ _) (FrzLe.refl _)) .nil, fun _ => rfl⟩
      have hlen : (hp ++ [PBlk.log [] sz el .rw]).length = hp.length + 1 := by simp
      rw [hlen] at g1 g2
      have e1 : hp ++ [PBlk.log [] sz el .rw] ++ [PBlk.box [.ref hp.length 0 0 0 sz] t .rw] = hp ++ [PBlk.log [] sz el .rw, PBlk.box [.ref hp.length 0 0 0 sz] t .rw] := by simp
      rw [e1] at g1 g2
      cases isNew
      · exact hk _ _ _ (ptrTo ha.length 0) _ _ _ h (.ptr (put_self _ _ _ _)) g1 (q2.trans g2)
      · exact hk _ _ _ (ptrTo ha.length 0) _ _ _ h (.ptr (put_self _ _ _ _)) g1 (q2.trans g2)
    · cases h
  | buildF t zero n parts =>
    simp only [popK] at h
    split at h
    · rename_i hc
      rw [Option.bind_eq_some_iff] at h
      obtain ⟨l, h1, h2⟩ := h
      split at h2
      · rename_i hpure
        obtain ⟨l', h3, h4⟩ := fillP_sim (repP_rel (PRL.ofV1 zero) n) (he.valP parts) h1
        obtain ⟨φ', q1, q2, q3, q4⟩ := s.pushF (.cells l' t true)
        have hl : l.length = n * zero.length := by rw [fillP_len h1, repP_len]; simp [zeros]
        have hl' := h4.length
        have hcu : mostLen < capU := by decide
        obtain ⟨ra, k1, k2⟩ := hk _ _ _ (.slice (some ⟨ha.length, 0, none⟩) n n) _ _ _ h2 (.frz (vs := l') (t := t) (rw := true) (chunk_len _ _ _).symm ⟨Nat.le_refl _, by omega⟩ (chunk_row _ _ _ hl) q1 (by omega) (by rw [chunk_flat _ _ _ hl]; exact hpure) (by
          rw [chunk_flat _ _ _ hl, List.drop_zero, ← hl, hl', List.take_length]; exact h4.mono (RenLe.refl _) q2)) q3 q4
        refine ⟨ra, ?_, k2⟩
        show ((fillf _ _).bind _) = _
        rw [h3]
        exact k1
      · cases h2
    · cases h
  | a o =>
    cases o with
    | move x => exact hk _ _ _ _ _ _ _ h (he.val x) s (Ext.refl _ _ _ _)
    | pick c a b => exact pure_sim s hk (fun v h => pickP_sim (he.val _) (he.val _) (he.val _) h) h
    | bin op x y => exact pure_sim s hk (fun v h => binP_sim (he.val _) (he.val _) h) h
    | eqBool neg x y => exact pure_sim s hk (fun v h => eqBoolP_sim (he.val _) (he.val _) h) h
    | isNil t neg x =>
      simp only [popK, isNilK] at h
      split at h
      · rename_i hu
        obtain ⟨b, hb⟩ := unkNil_sim (neg := neg) (he.val x) hu
        unfold both at h
        split at h
        · rename_i hab
          have h' : k (.bool b) hp = some r := by
            cases b
            · rw [← hab]; exact h
            · exact h
          obtain ⟨ra, k1, k2⟩ := hk _ _ _ _ _ _ _ h' (.bool b) s (Ext.refl _ _ _ _)
          exact ⟨ra, by show ((isNilKf _ _ _).bind _) = _; rw [hb]; exact k1, k2⟩
        · cases h
      · exact pure_sim s hk (fun v h => isNilP_sim (he.val _) h) h
    | eqAgg ks neg x y => exact pure_sim s hk (fun v h => eqAggP_sim (he.val _) (he.val _) h) h
    | un op x => exact pure_sim s hk (fun v h => unP_sim (he.val _) h) h
    | conv t x => exact pure_sim s hk (fun v h => convP_sim (he.val _) h) h
    | strId x => exact pure_sim s hk (fun v h => strIdP_sim (he.val _) h) h
    | len str x => exact pure_sim s hk (fun v h => lenP_sim (he.val _) h) h
    | extract x i => exact pure_sim s hk (fun v h => extractP_sim (he.val _) h) h
    | field agg off size x => exact pure_sim s hk (fun v h => fieldP_sim (he.val _) h) h
    | indexArr n agg size x i => exact pure_sim s hk (fun v h => indexArrP_sim (he.val _) (he.val _) h) h
    | indexStr x i => exact pure_sim s hk (fun v h => indexStrP_sim (he.val _) (he.val _) h) h
    | fieldAddr off x => exact pure_sim s hk (fun v h => fieldAddrP_sim (he.val _) h) h
    | indexAddr size x i => exact pure_sim s hk (fun v h => indexAddrP_sim (he.val _) (he.val _) h) h
    | indexAddrArr n size x i => exact pure_sim s hk (fun v h => indexAddrArrP_sim (he.val _) (he.val _) h) h
    | nilCheck x => exact pure_sim s hk (fun v h => nilCheckP_sim (he.val _) h) h
    | slice size x lo hi mx => exact pure_sim s hk (fun v h => sliceP_sim (he.val _) (he.valO _) (he.valO _) (he.valO _) h) h
    | sliceStr x lo hi => exact pure_sim s hk (fun v h => sliceStrP_sim (he.val _) (he.valO _) (he.valO _) h) h
    | sliceArr => cases h
    | max xs => exact pure_sim s hk (fun v h => fold1P_sim (fun _ _ _ _ _ => max2P_sim) (he.vals _) h) h
    | min xs => exact pure_sim s hk (fun v h => fold1P_sim (fun _ _ _ _ _ => min2P_sim) (he.vals _) h) h
    | build zero parts =>
      simp only [popK, Option.bind_eq_some_iff] at h
      obtain ⟨l, h1, h2⟩ := h
      obtain ⟨l', h3, h4⟩ := fillP_sim (PRL.ofV1 zero) (he.valP parts) h1
      obtain ⟨ra, k1, k2⟩ := hk _ _ _ _ _ _ _ h2 (.agg h4) s (Ext.refl _ _ _ _)
      exact ⟨ra, by show ((fillf _ _).bind _) = _; rw [h3]; exact k1, k2⟩
    | mkFunc f first captured => exact hk _ _ _ _ _ _ _ h (.func f (he.vals _) (he.vals _)) s (Ext.refl _ _ _ _)
    | mkIface t x => exact hk _ _ _ _ _ _ _ h (.iface t (he.val x)) s (Ext.refl _ _ _ _)
    | box t x =>
      by_cases hn : (cellsP (pval e x)).length = 0
      · have hnil : cellsP (pval e x) = [] := List.eq_nil_of_length_eq_zero hn
        simp only [popK, hnil] at h
        obtain ⟨q1, q2⟩ := s.push (.box [] t .rw) (.cells (cellsL (Am.val ea x)) t true) 0 ⟨_, true, rfl, by simp, .nil, fun _ => rfl⟩
        exact hk _ _ _ (ptrTo ha.length 0) _ _ _ h (.ptr (put_self _ _ _ _)) q1 q2
      · have hcl := (he.val x).cells hn
        obtain ⟨q1, q2⟩ := s.push (.box (cellsP (pval e x)) t .rw) (.cells (cellsL (Am.val ea x)) t true) 0 ⟨_, true, rfl, by rw [hcl.length]; exact Nat.le_refl _, by rw [hcl.length, List.take_length]; exact hcl.mono (put_new s _ _) (FrzLe.refl _), fun _ => rfl⟩
        exact hk _ _ _ (ptrTo ha.length 0) _ _ _ h (.ptr (put_self _ _ _ _)) q1 q2
    | new t zero =>
      have hcl : PRL μ φ (zeros zero) zero := PRL.ofV1 zero
      obtain ⟨q1, q2⟩ := s.push (.box (zeros zero) t .rw) (.cells zero t true) 0 ⟨_, true, rfl, by rw [hcl.length]; exact Nat.le_refl _, by rw [hcl.length, List.take_length]; exact hcl.mono (put_new s _ _) (FrzLe.refl _), fun _ => rfl⟩
      exact hk _ _ _ (ptrTo ha.length 0) _ _ _ h (.ptr (put_self _ _ _ _)) q1 q2
    | buildSlice t zero n parts =>
      simp only [popK] at h
      split at h
      · rename_i hc
        rw [Option.bind_eq_some_iff] at h
        obtain ⟨l, h1, h2⟩ := h
        obtain ⟨l', h3, h4⟩ := fillP_sim (repP_rel (PRL.ofV1 zero) n) (he.valP parts) h1
        have hl : l.length = n * zero.length := by rw [fillP_len h1, repP_len]; simp [zeros]
        have hl' := h4.length
        have hcu : mostLen < capU := by decide
        have hcl := chunk_len zero.length n l
        have hcf := chunk_flat zero.length n l hl
        obtain ⟨q1, q2⟩ := s.push (.log (chunk zero.length n l) zero.length t .rw) (.cells l' t true) n ⟨_, true, rfl, by rw [hcl]; omega, by rw [hcl, hcf, ← hl, hl', List.take_length]; exact h4.mono (put_new s _ _) (FrzLe.refl _), chunk_row _ _ _ hl, by omega, fun _ => rfl, by rw [hcl]; exact hc.2.2⟩
        obtain ⟨ra, k1, k2⟩ := hk _ _ _ (.slice (some ⟨ha.length, 0, none⟩) n n) _ _ _ h2 (by
          have := PR.ref (μ := put μ hp.length (ver (.log (chunk zero.length n l) zero.length t .rw)) (some ⟨ha.length, n⟩)) (φ := φ) (b := hp.length) (lo := 0) (n := n) (sz := zero.length) (c := n) (put_self _ _ _ _) (by simp [ver, hcl]) (.inr ⟨by omega, by omega, by simp⟩)
          rw [Nat.zero_mul] at this
          simpa [ver, hcl] using this) q1 q2
        exact ⟨ra, by show ((fillf _ _).bind _) = _; rw [h3]; exact k1, k2⟩
      · split at h
        · obtain ⟨φ', q1, q2, q3, q4⟩ := s.pushF (.cells [] t true)
          exact hk _ _ _ (.slice (some ⟨ha.length, 0, none⟩) 0 0) _ _ _ h (.emp _) q3 q4
        · cases h
    | mkSlice t zero n c =>
      simp only [popK] at h
      split at h
      · rw [Option.bind_eq_some_iff] at h
        obtain ⟨⟨v, hp'⟩, h1, h2⟩ := h
        obtain ⟨v', ha', μ', q1, q2, q3, q4⟩ := mkSliceP_sim s (PRL.ofV1 zero) (he.val n) (he.val c) h1
        obtain ⟨ra, k1, k2⟩ := hk _ _ _ _ _ _ _ h2 q2 q3 q4
        exact ⟨ra, by show ((mkSlicef _ _ _ _ _).bind _) = _; rw [q1]; exact k1, k2⟩
      · cases h
    | load agg n x => exact pure_sim s hk (fun v h => loadP_sim s (he.val _) h) h
    | store n x v =>
      simp only [popK, Option.bind_eq_some_iff] at h
      obtain ⟨hp', h1, h2⟩ := h
      obtain ⟨ha', q1, q2, q3⟩ := storeP_sim s (he.val x) (he.val v) h1
      obtain ⟨ra, k1, k2⟩ := hk _ _ _ _ _ _ _ h2 PR.undef q2 q3
      exact ⟨ra, by show ((storef _ _ _ _).bind _) = _; rw [q1]; exact k1, k2⟩
    | append t size x y =>
      simp only [popK, Option.bind_eq_some_iff] at h
      obtain ⟨⟨v, hp'⟩, h1, h2⟩ := h
      obtain ⟨v', ha', μ', q1, q2, q3, q4⟩ := appendP_sim s (he.val x) (he.val y) h1
      obtain ⟨ra, k1, k2⟩ := hk _ _ _ _ _ _ _ h2 q2 q3 q4
      exact ⟨ra, by show ((appendf _ _ _ _ _).bind _) = _; rw [q1]; exact k1, k2⟩
    | copy size d x =>
      simp only [popK, Option.bind_eq_some_iff] at h
      obtain ⟨⟨v, hp'⟩, h1, h2⟩ := h
      obtain ⟨v', ha', q1, q2, q3, q4⟩ := copyP_sim s (he.val d) (he.val x) h1
      obtain ⟨ra, k1, k2⟩ := hk _ _ _ _ _ _ _ h2 q2 q3 q4
      exact ⟨ra, by show ((copyf _ _ _ _).bind _) = _; rw [q1]; exact k1, k2⟩
    | clear zero x =>
      simp only [popK, Option.bind_eq_some_iff] at h
      obtain ⟨⟨v, hp'⟩, h1, h2⟩ := h
      obtain ⟨v', ha', q1, q2, q3, q4⟩ := clearP_sim s (PRL.ofV1 zero) (he.val x) h1
      obtain ⟨ra, k1, k2⟩ := hk _ _ _ _ _ _ _ h2 q2 q3 q4
      exact ⟨ra, by show ((clearf _ _ _).bind _) = _; rw [q1]; exact k1, k2⟩
    | appendN t size zero x y =>
      simp only [popK, Option.bind_eq_some_iff] at h
      obtain ⟨⟨v, hp'⟩, h1, h2⟩ := h
      obtain ⟨v', ha', μ', q1, q2, q3, q4⟩ := appendNP_sim s (PRL.ofV1 zero) (he.val x) (he.val y) h1
      obtain ⟨ra, k1, k2⟩ := hk _ _ _ _ _ _ _ h2 q2 q3 q4
      exact ⟨ra, by show ((appendNf _ _ _ _ _ _).bind _) = _; rw [q1]; exact k1, k2⟩
    | mkMap =>
      obtain ⟨q1, q2⟩ := s.push (.map [] .rw) (.map []) 0 ⟨[], rfl, .nil, .nil⟩
      exact hk _ _ _ (.map (some ha.length)) _ _ _ h (.map (put_self _ _ _ _)) q1 q2
    | lookup t zero ok x i => exact pure_sim s hk (fun v h => lookupP_sim s (PR.ofV zero) (he.val _) (he.val _) h) h
    | mapSet t x i v =>
      simp only [popK, Option.bind_eq_some_iff] at h
      obtain ⟨hp', h1, h2⟩ := h
      obtain ⟨ha', q1, q2, q3⟩ := setMapP_sim s (he.val x) (he.val i) (he.val v) h1
      obtain ⟨ra, k1, k2⟩ := hk _ _ _ _ _ _ _ h2 PR.undef q2 q3
      exact ⟨ra, by show ((setMapf _ _ _ _ _).bind _) = _; rw [q1]; exact k1, k2⟩
    | lenMap x => exact pure_sim s hk (fun v h => lenMapP_sim s (he.val _) h) h
    | bytesToStr x => exact pure_sim s hk (fun v h => bytesToStrP_sim s (he.val _) h) h
    | call f args =>
      simp only [popK, Option.bind_eq_some_iff] at h
      obtain ⟨⟨v, hp'⟩, h1, h2⟩ := h
      obtain ⟨v', ha', μ', φ', q1, q2, q3, q4⟩ := hΓ _ _ _ _ _ h1 μ φ ha _ s (he.vals args)
      obtain ⟨ra, k1, k2⟩ := hk _ _ _ _ _ _ _ h2 q2 q3 q4
      exact ⟨ra, by show ((Γa _ _ _).bind _) = _; rw [q1]; exact k1, k2⟩
    | callV f args =>
      simp only [popK, Option.bind_eq_some_iff] at h
      obtain ⟨⟨v, hp'⟩, h1, h2⟩ := h
      obtain ⟨v', ha', μ', φ', q1, q2, q3, q4⟩ := callVP_sim hΓ s (he.val f) (he.vals args) h1
      obtain ⟨ra, k1, k2⟩ := hk _ _ _ _ _ _ _ h2 q2 q3 q4
      exact ⟨ra, by show ((callVf _ _ _ _).bind _) = _; rw [q1]; exact k1, k2⟩
    | fail => cases h
end
end Go.Vm
