/- Data that is read: what an abstract value stands for, with all that it points to, and the opening of any argument that is made of numbers, bools, strings, structs, arrays and slices. -/
import Derived.Test.YteedbdkhlgongaaAm27
import Derived.OpenShut
set_option linter.unusedSimpArgs false
set_option linter.unusedVariables false
namespace Go.Am
open Go.ChangeShapes Go.WideShapes

/-- One cell's data: a value without memory, or a slice as the rows of its elements' cells. -/
inductive Dat where
  | v (x : Value)
  | sl (rows : List (List Dat))

mutual
/-- x reads as d in h; all that is read lies in blocks of S. -/
inductive R (S : Nat → Prop) (h : AHeap) : Value → Dat → Prop
  | v {x : Value} (hx : noRef1 x = true) : R S h x (.v x)
  | nil : R S h (.slice none 0 0) (.sl [])
  | sl0 (a : Addr) (c : Nat) : R S h (.slice (some a) 0 c) (.sl [])
  | sl {b o c n : Nat} {vs : List Value} {rows : List (List Dat)} (hn : n = rows.length) (hb : S b) (hc : n ≤ c) (hr : readN h b o vs.length = some vs) (hs : RL S h vs rows.flatten) : R S h (.slice (some ⟨b, o, none⟩) n c) (.sl rows)
inductive RL (S : Nat → Prop) (h : AHeap) : List Value → List Dat → Prop
  | nil : RL S h [] []
  | cons {x : Value} {d : Dat} {xs : List Value} {ds : List Dat} (hx : R S h x d) (hs : RL S h xs ds) : RL S h (x :: xs) (d :: ds)
end

mutual
theorem R.mono {S S' : Nat → Prop} {h h' : AHeap} (hm : ∀ b, S b → S' b ∧ h'[b]? = h[b]?) {x : Value} {d : Dat} : R S h x d → R S' h' x d
  | .v hx => .v hx
  | .nil => .nil
  | .sl0 a c => .sl0 a c
  | .sl hn hb hc hr hs => .sl hn (hm _ hb).1 hc (by unfold readN at hr ⊢; rw [(hm _ hb).2]; exact hr) (RL.mono hm hs)
theorem RL.mono {S S' : Nat → Prop} {h h' : AHeap} (hm : ∀ b, S b → S' b ∧ h'[b]? = h[b]?) {xs : List Value} {ds : List Dat} : RL S h xs ds → RL S' h' xs ds
  | .nil => .nil
  | .cons hx hs => .cons (R.mono hm hx) (RL.mono hm hs)
end

theorem RL.length {S : Nat → Prop} {h : AHeap} {xs : List Value} {ds : List Dat} (r : RL S h xs ds) : xs.length = ds.length := by
  induction xs generalizing ds with
  | nil => cases r; rfl
  | cons x xs ih => cases r with | cons _ hs => simp [ih hs]
theorem RL.append {S : Nat → Prop} {h : AHeap} {xs ys : List Value} {ds es : List Dat} (r : RL S h xs ds) (q : RL S h ys es) : RL S h (xs ++ ys) (ds ++ es) := by
  induction xs generalizing ds with
  | nil => cases r; exact q
  | cons x xs ih => cases r with | cons hx hs => exact .cons hx (ih hs)
theorem RL.drop {S : Nat → Prop} {h : AHeap} {xs : List Value} {ds : List Dat} (r : RL S h xs ds) (n : Nat) : RL S h (xs.drop n) (ds.drop n) := by
  induction n generalizing xs ds with
  | zero => exact r
  | succ n ih => cases r with
    | nil => exact .nil
    | cons hx hs => exact ih hs
theorem RL.take {S : Nat → Prop} {h : AHeap} {xs : List Value} {ds : List Dat} (r : RL S h xs ds) (n : Nat) : RL S h (xs.take n) (ds.take n) := by
  induction n generalizing xs ds with
  | zero => exact .nil
  | succ n ih => cases r with
    | nil => exact .nil
    | cons hx hs => exact .cons hx (ih hs)
theorem RL.get {S : Nat → Prop} {h : AHeap} {xs : List Value} {ds : List Dat} (r : RL S h xs ds) {i : Nat} {d : Dat} (hd : ds[i]? = some d) : ∃ x, xs[i]? = some x ∧ R S h x d := by
  induction i generalizing xs ds with
  | zero => cases r with
    | nil => cases hd
    | cons hx hs => cases hd; exact ⟨_, rfl, hx⟩
  | succ i ih => cases r with
    | nil => cases hd
    | cons hx hs => exact ih hs hd
theorem RL.of_get {S : Nat → Prop} {h : AHeap} {xs : List Value} {ds : List Dat} (hl : xs.length = ds.length) (hr : ∀ (i : Nat) x d, xs[i]? = some x → ds[i]? = some d → R S h x d) : RL S h xs ds := by
  induction xs generalizing ds with
  | nil => cases ds with | nil => exact .nil | cons => simp at hl
  | cons x xs ih => cases ds with
    | nil => simp at hl
    | cons d ds => exact .cons (hr 0 x d rfl rfl) (ih (by simpa using hl) fun i x d hx hd => hr (i + 1) x d hx hd)
theorem R.pre {S : Nat → Prop} {h h' : AHeap} (hp : h <+: h') {x : Value} {d : Dat} (r : R S h x d) (hS : ∀ b, S b → b < h.length) : R S h' x d :=
  R.mono (fun b hb => ⟨hb, prefix_get hp (hS b hb)⟩) r

theorem R.inv_v {S : Nat → Prop} {h : AHeap} {x y : Value} (r : R S h x (.v y)) : x = y := by cases r; rfl
theorem R.len {S : Nat → Prop} {h : AHeap} {x : Value} {rows : List (List Dat)} (r : R S h x (.sl rows)) : lenf false x = some (.int .i64 rows.length) := by
  cases r with
  | nil => rfl
  | sl0 => rfl
  | sl hn => subst hn; rfl
theorem R.isNil {S : Nat → Prop} {h : AHeap} {x : Value} {rows : List (List Dat)} (r : R S h x (.sl rows)) (neg : Bool) : ∃ nl, isNilKf .slice neg x = some (.bool (neg != nl)) ∧ (nl = true → x = .slice none 0 0 ∧ rows = []) := by
  cases r with
  | nil => exact ⟨true, rfl, fun _ => ⟨rfl, rfl⟩⟩
  | sl0 => exact ⟨false, rfl, fun h => by cases h⟩
  | sl => exact ⟨false, rfl, fun h => by cases h⟩
theorem flatten_len {α : Type} {rows : List (List α)} {size : Nat} (hs : ∀ r ∈ rows, r.length = size) : rows.flatten.length = rows.length * size := by
  induction rows with
  | nil => simp
  | cons r rows ih => simp [hs r (by simp), ih fun q hq => hs q (by simp [hq]), Nat.add_mul, Nat.add_comm]
theorem flatten_row {α : Type} {rows : List (List α)} {size : Nat} (hs : ∀ r ∈ rows, r.length = size) {i : Nat} {r : List α} (hi : rows[i]? = some r) : (rows.flatten.drop (i * size)).take size = r := by
  induction rows generalizing i with
  | nil => cases hi
  | cons q rows ih =>
    cases i with
    | zero =>
      have e : q = r := by simpa using hi
      subst e
      have := hs q (by simp)
      rw [Nat.zero_mul, List.drop_zero, List.flatten_cons, ← this, List.take_left]
    | succ i =>
      have hq := hs q (by simp)
      rw [List.flatten_cons, show (i + 1) * size = q.length + i * size by rw [Nat.add_mul]; omega, List.drop_length_add_append]
      exact ih (fun q hq => hs q (by simp [hq])) hi
/-- An element of a slice. -/
theorem R.elem {S : Nat → Prop} {h : AHeap} {x : Value} {rows : List (List Dat)} (r : R S h x (.sl rows)) {size : Nat} (hs : ∀ q ∈ rows, q.length = size) (h1 : 0 < size) {i : Nat} {q : List Dat} (hi : rows[i]? = some q) :
    ∃ b o ws, indexAddrf size x (.int .i64 i) = some (ptrTo b o) ∧ readN h b o size = some ws ∧ RL S h ws q ∧ S b := by
  have hlt := (List.getElem?_eq_some_iff.1 hi).1
  have hlen : q.length = size := hs q (List.mem_of_getElem? hi)
  cases r with
  | nil => cases hi
  | sl0 => cases hi
  | @sl b o c n vs rows hn hb hc hr hss =>
    subst hn
    have hl : vs.length = rows.length * size := by rw [hss.length, flatten_len hs]
    have hw := (hss.drop (i * size)).take size
    rw [flatten_row hs hi] at hw
    refine ⟨b, o + i * size, _, indexAddr_slice _ _ _ _ _ _ hlt, ?_, hw, hb⟩
    unfold readN at hr ⊢
    split at hr
    · rename_i cs t rw_ hblk
      split at hr
      · rename_i hle
        have hm : i * size + size ≤ rows.length * size := by
          have := Nat.mul_le_mul_right size (show i + 1 ≤ rows.length by omega)
          rw [Nat.add_mul] at this; omega
        rw [if_pos (by omega)]
        have hr' := Option.some.inj hr
        have e : vs.drop (i * size) = (cs.drop (o + i * size)).take (vs.length - i * size) := by
          have e0 : (cs.drop o).take vs.length = vs := hr'
          calc vs.drop (i * size) = ((cs.drop o).take vs.length).drop (i * size) := by rw [e0]
            _ = _ := by rw [List.drop_take, List.drop_drop]
        rw [e, List.take_take, Nat.min_eq_left (by omega)]
      · cases hr
    · cases hr
/-- All of a slice's cells. -/
theorem R.first {S : Nat → Prop} {h : AHeap} {x : Value} {rows : List (List Dat)} (r : R S h x (.sl rows)) {size : Nat} (hs : ∀ q ∈ rows, q.length = size) :
    ∃ ws, firstf size rows.length x h = some ws ∧ RL S h ws rows.flatten := by
  cases r with
  | nil => exact ⟨[], rfl, .nil⟩
  | sl0 a c => exact ⟨[], rfl, .nil⟩
  | @sl b o c n vs rows hn hb hc hr hss =>
    subst hn
    by_cases h0 : rows.length = 0
    · have : rows = [] := List.eq_nil_of_length_eq_zero h0
      subst this
      exact ⟨[], rfl, .nil⟩
    · refine ⟨vs, ?_, hss⟩
      simp only [firstf, Nat.le_refl, if_true, if_neg h0]
      rw [← flatten_len hs, ← hss.length]
      exact hr
theorem R.lenOf {S : Nat → Prop} {h : AHeap} {x : Value} {rows : List (List Dat)} (r : R S h x (.sl rows)) : lenOf x = some rows.length := by
  cases r with
  | nil => rfl
  | sl0 => rfl
  | sl hn => subst hn; rfl

/-! ### The shapes of types -/
inductive Shp where
  | int (k : IntKind)
  | bool
  | str
  | sl (cells : List Shp)
mutual
inductive HS : Shp → Dat → Prop
  | int {k : IntKind} {n : Int} (hw : (Lit.int k n).wf = true) : HS (.int k) (.v (.int k n))
  | bool (b : Bool) : HS .bool (.v (.bool b))
  | str {s : ByteArray} (hs : s.size ≤ maxLen) : HS .str (.v (.string s))
  | sl {s : List Shp} {rows : List (List Dat)} (hl : rows.length ≤ maxLen) (hr : ∀ r ∈ rows, HSL s r) : HS (.sl s) (.sl rows)
inductive HSL : List Shp → List Dat → Prop
  | nil : HSL [] []
  | cons {s : Shp} {d : Dat} {ss : List Shp} {ds : List Dat} (hd : HS s d) (hs : HSL ss ds) : HSL (s :: ss) (d :: ds)
end
theorem HSL.length {ss : List Shp} {ds : List Dat} (r : HSL ss ds) : ds.length = ss.length := by
  induction ss generalizing ds with
  | nil => cases r; rfl
  | cons x xs ih => cases r with | cons _ hs => simp [ih hs]
theorem HSL.append {s1 s2 : List Shp} {ds es : List Dat} (r : HSL s1 ds) (q : HSL s2 es) : HSL (s1 ++ s2) (ds ++ es) := by
  induction s1 generalizing ds with
  | nil => cases r; exact q
  | cons x xs ih => cases r with | cons hx hs => exact .cons hx (ih hs)

section
variable (P : Program)
def shpFs (rec : TypeId → Option (List Shp)) : Nat → List Field → Option (List Shp)
  | _, [] => some []
  | off, f :: r => match rec f.type with
    | some s => bif Nat.beq f.offset off && Nat.beq s.length (P.cellsOf f.type) then (match shpFs rec (off + s.length) r with | some q => some (s ++ q) | none => none) else none
    | none => none
def shpOf : Nat → TypeId → Option (List Shp)
  | 0, _ => none
  | n + 1, t => match P.underlying t with
    | some .bool => some [.bool]
    | some (.int k) => some [.int k]
    | some .string => some [.str]
    | some (.slice e) => match shpOf n e with
      | some s => bif Nat.beq s.length (P.cellsOf e) && Nat.ble 1 s.length then some [.sl s] else none
      | none => none
    | some (.struct fs) => match shpFs P (shpOf n) 0 fs.toList with
      | some s => bif Nat.beq s.length (P.cellsOf t) then some s else none
      | none => none
    | _ => none
end

section
variable {P : Program} {H : Type} {enc : TypeId × Value → H} {W : World}
/-- All that the start knows. -/
def S0 (W : World) : Nat → Prop := fun b => b < W.heap.size

theorem open_struct {n : Nat} {xs : List (DataW H × List MemPlace)} {cs : List Value} {rec : TypeId → Option (List Shp)}
    (ih : ∀ (t : TypeId) (cs : List Value) (x : DataW H × List MemPlace) (s : List Shp), DataW.trod enc P W 0 (fun _ => true) true n t cs = some x → rec t = some s → ∃ ds, RL (S0 W) (heap0 W) cs ds ∧ HSL s ds ∧ VRL (mu0 W) cs cs) :
    ∀ (fs : List Field) (off k : Nat) (s : List Shp), shpFs P rec off fs = some s → (∀ (i : Nat) (f : Field), fs[i]? = some f → ∃ x, DataW.trod enc P W 0 (fun _ => true) true n f.type ((cs.drop f.offset).take (P.cellsOf f.type)) = some x) →
      off + s.length = cs.length → ∃ ds, RL (S0 W) (heap0 W) (cs.drop off) ds ∧ HSL s ds ∧ VRL (mu0 W) (cs.drop off) (cs.drop off) := by
  intro fs
  induction fs with
  | nil =>
    intro off k s hs _ hl
    cases hs
    refine ⟨[], ?_, .nil, ?_⟩ <;> rw [List.drop_eq_nil_of_le (by simp at hl; omega)]
    · exact .nil
    · exact .nil
  | cons f fs ih2 =>
    intro off k s hs hf hl
    unfold shpFs at hs
    split at hs
    · rename_i s1 h1
      cases hc : (Nat.beq f.offset off && Nat.beq s1.length (P.cellsOf f.type)) with
      | false => rw [hc] at hs; cases hs
      | true =>
        rw [hc] at hs
        simp only [cond_true, Bool.and_eq_true] at hs hc
        obtain ⟨c1, c2⟩ := hc
        have c1 := Nat.eq_of_beq_eq_true c1
        have c2 := Nat.eq_of_beq_eq_true c2
        split at hs
        · rename_i q hq
          cases hs
          obtain ⟨x, hx⟩ := hf 0 f rfl
          rw [c1] at hx
          obtain ⟨d1, r1, k1, v1⟩ := ih _ _ _ _ hx h1
          rw [List.length_append] at hl
          obtain ⟨d2, r2, k2, v2⟩ := ih2 (off + s1.length) (k + 1) q hq (fun i g hg => hf (i + 1) g hg) (by omega)
          have e : cs.drop off = (cs.drop off).take (P.cellsOf f.type) ++ cs.drop (off + s1.length) := by
            rw [c2, ← List.drop_drop, List.take_append_drop]
          refine ⟨d1 ++ d2, ?_, k1.append k2, ?_⟩
          · rw [e]; exact r1.append r2
          · rw [e]; exact v1.append v2
        · cases hs
    · cases hs

theorem open_trod : ∀ (m n : Nat) (t : TypeId) (cs : List Value) (x : DataW H × List MemPlace) (s : List Shp), DataW.trod enc P W 0 (fun _ => true) true n t cs = some x → shpOf P m t = some s →
    ∃ ds, RL (S0 W) (heap0 W) cs ds ∧ HSL s ds ∧ VRL (mu0 W) cs cs := by
  intro m
  induction m with
  | zero => intro n t cs x s _ h; cases h
  | succ m ih =>
    intro n t cs x s hx hs
    unfold shpOf at hs
    split at hs
    · rename_i ht
      cases hs
      obtain ⟨b, rfl, _⟩ := DataW.trod_bool ht hx
      exact ⟨[.v (.bool b)], .cons (.v rfl) .nil, .cons (.bool b) .nil, .cons (.bool b) .nil⟩
    · rename_i k ht
      cases hs
      obtain ⟨z, rfl, _, hw⟩ := DataW.trod_int ht hx
      exact ⟨[.v (.int k z)], .cons (.v rfl) .nil, .cons (.int hw) .nil, .cons (.int k z) .nil⟩
    · rename_i ht
      cases hs
      obtain ⟨b, rfl, _, hl⟩ := DataW.trod_string ht hx
      exact ⟨[.v (.string b)], .cons (.v rfl) .nil, .cons (.str hl) .nil, .cons (.string b) .nil⟩
    · rename_i e ht
      split at hs
      · rename_i s1 hs1
        cases hc : (Nat.beq s1.length (P.cellsOf e) && Nat.ble 1 s1.length) with
        | false => rw [hc] at hs; cases hs
        | true =>
          rw [hc] at hs
          cases hs
          simp only [Bool.and_eq_true] at hc
          have c1 := Nat.eq_of_beq_eq_true hc.1
          have c2 := Nat.le_of_ble_eq_true hc.2
          rcases Deep.open_slice ht hx with ⟨rfl, _⟩ | ⟨a, len, cap, m1, n1, D, Pl, rfl, _, hl, hcap, hm, _, hall⟩
          · exact ⟨[.sl []], .cons .nil .nil, .cons (.sl (Nat.zero_le _) fun r hr => by cases hr) .nil, .cons .slNil .nil⟩
          · simp only [if_true] at hm
            subst hm
            have hrow : ∀ i, ∃ p : List Value × List Dat, i < m1 → RL (S0 W) (heap0 W) p.1 p.2 ∧ HSL s1 p.2 ∧ VRL (mu0 W) p.1 p.1 ∧ p.1.length = s1.length ∧ ∀ j, j < s1.length → W.cell? ((a.add (i * s1.length)).add j) = p.1[j]? := by
              intro i
              by_cases hi : i < m1
              · obtain ⟨cs', h1, h2⟩ := hall i hi
                obtain ⟨ds, r1, r2, r3⟩ := ih _ _ _ _ _ h2 hs1
                obtain ⟨_, h4, h5⟩ := World.cells?_some h1
                exact ⟨(cs', ds), fun _ => ⟨r1, r2, r3, by show cs'.length = _; omega, fun j hj => by rw [← c1] at h5; exact h5 j hj⟩⟩
              · exact ⟨([], []), fun h => absurd h hi⟩
            obtain ⟨F, hF⟩ := Classical.axiomOfChoice hrow
            have hlt := maxLen_lt
            have hat : 0 < m1 → ∃ b o, a = ⟨b, o, none⟩ ∧ b < W.heap.size := by
              intro h0
              obtain ⟨_, _, _, q3, q4⟩ := hF 0 h0
              have q5 := q4 0 (by omega)
              rw [List.getElem?_eq_getElem (by omega)] at q5
              obtain ⟨b, o, sp⟩ := a
              have e0 : ((⟨b, o, sp⟩ : Addr).add (0 * s1.length)).add 0 = ⟨b, o, sp⟩ := by simp [Addr.add]
              rw [e0] at q5
              obtain ⟨hb, hsp⟩ := cell_block q5
              simp only at hsp hb
              exact ⟨b, o, by rw [hsp], hb⟩
            refine ⟨[.sl ((List.range len).map fun i => (F i).2)], .cons ?_ .nil, .cons (.sl (by simp; omega) fun r hr => ?_) .nil, .cons ?_ .nil⟩
            · by_cases h0 : len = 0
              · subst h0
                exact .sl0 _ _
              · obtain ⟨b, o, rfl, hb⟩ := hat (by omega)
                have hvs : ∀ k, k ≤ len → RL (S0 W) (heap0 W) ((List.range k).map fun i => (F i).1).flatten ((List.range k).map fun i => (F i).2).flatten := by
                  intro k
                  induction k with
                  | zero => intro _; exact .nil
                  | succ k ihk =>
                    intro hk
                    rw [List.range_succ, List.map_append, List.map_append, List.flatten_append, List.flatten_append]
                    refine (ihk (by omega)).append ?_
                    simpa using (hF k (by omega)).1
                have hsz : ∀ r ∈ ((List.range len).map fun i => (F i).1), r.length = s1.length := by
                  intro r hr
                  rw [List.mem_map] at hr
                  obtain ⟨i, hi, rfl⟩ := hr
                  exact (hF i (by have := List.mem_range.1 hi; omega)).2.2.2.1
                have hfl := flatten_len hsz
                rw [List.length_map, List.length_range] at hfl
                refine .sl (vs := ((List.range len).map fun i => (F i).1).flatten) (by simp) hb (by omega) ?_ (hvs len (Nat.le_refl _))
                refine readN_of (fun i v hv => ?_) ?_
                · have hi := (List.getElem?_eq_some_iff.1 hv).1
                  rw [hfl] at hi
                  have hq : i / s1.length < len := (Nat.div_lt_iff_lt_mul (by omega)).2 hi
                  have hr : i % s1.length < s1.length := Nat.mod_lt _ (by omega)
                  have hi' : ((List.range len).map fun i => (F i).1)[i / s1.length]? = some (F (i / s1.length)).1 := by
                    rw [List.getElem?_map, List.getElem?_range hq]; rfl
                  have hrow := flatten_row hsz hi'
                  have e1 : (F (i / s1.length)).1[i % s1.length]? = some v := by
                    rw [← hrow, List.getElem?_take, if_pos hr, List.getElem?_drop, Nat.mul_comm (i / s1.length), Nat.div_add_mod]
                    exact hv
                  obtain ⟨_, _, q2, q3, q4⟩ := hF (i / s1.length) (by omega)
                  have q5 := q4 _ hr
                  rw [e1] at q5
                  obtain ⟨y, hy, hvr⟩ := q2.get e1
                  have hyv : y = v := by rw [e1] at hy; exact (Option.some.inj hy).symm
                  subst hyv
                  refine readC0 ?_ hvr
                  rw [← q5]
                  have e5 : i / s1.length * s1.length + i % s1.length = i := Nat.div_add_mod' i _
                  rw [Deep.add_add, addr_add, e5]
                · intro hnil
                  have := congrArg List.length hnil
                  rw [hfl] at this
                  rcases Nat.mul_eq_zero.1 this with h | h <;> omega
            · rw [List.mem_map] at hr
              obtain ⟨i, hi, rfl⟩ := hr
              exact (hF i (by have := List.mem_range.1 hi; omega)).2.1
            · by_cases hm0 : m1 = 0
              · subst hm0
                have : len = 0 := by omega
                subst this
                exact .sl00 _ _
              · obtain ⟨b, o, rfl, hb⟩ := hat (by omega)
                exact .sl (mu0_of hb) (.inl ⟨by omega, rfl⟩)
      · cases hs
    · rename_i fs ht
      split at hs
      · rename_i s1 hs1
        cases hc : Nat.beq s1.length (P.cellsOf t) with
        | false => rw [hc] at hs; cases hs
        | true =>
          rw [hc] at hs
          cases hs
          have c1 := Nat.eq_of_beq_eq_true hc
          obtain ⟨xs, k, _, _, hl, hxl, hf⟩ := DataW.trod_struct ht hx
          have := open_struct (xs := xs) (cs := cs) (fun t cs x s h1 h2 => ih k t cs x s h1 h2) fs.toList 0 0 s hs1 (fun i f hi => by
            have hi' : fs[i]? = some f := by simpa using hi
            have hlt : i < fs.size := (Array.getElem?_eq_some_iff.1 hi').1
            exact ⟨_, (hf i f hi').trans (List.getElem?_eq_getElem (by omega))⟩) (by omega)
          simpa using this
      · cases hs
    · cases hs

theorem open_arg1 {t : TypeId} {v : Value} {d : DataW H} {ps : List MemPlace} {m : Nat} {s : Shp} (hs : shpOf P m t = some [s]) (hv : v.cells.toList = [v]) (h : DataW.Trod enc P W 0 (fun _ => true) true t v d ps) :
    ∃ x, R (S0 W) (heap0 W) v x ∧ HS s x ∧ VR (mu0 W) v v := by
  obtain ⟨n, hn⟩ := h
  rw [hv] at hn
  obtain ⟨ds, r1, r2, r3⟩ := open_trod m n t _ _ _ hn hs
  cases r1 with
  | cons hx hxs =>
    cases hxs
    cases r2 with
    | cons hd _ =>
      cases r3 with
      | cons hq _ => exact ⟨_, hx, hd, hq⟩
theorem open_slice_arg {t e : TypeId} {v : Value} {d : DataW H} {ps : List MemPlace} {m : Nat} {s : Shp} {r : Reach} {b0 : Nat} (ht : P.underlying t = some (.slice e)) (hs : shpOf P m t = some [s]) (hval : Value.okWide P W r b0 t v) (h : DataW.Trod enc P W 0 (fun _ => true) true t v d ps) :
    ∃ x, R (S0 W) (heap0 W) v x ∧ HS s x ∧ VR (mu0 W) v v := by
  obtain ⟨a, len, cap, rfl⟩ := okWide_slice ht hval
  exact open_arg1 hs rfl h
theorem open_int_arg {t : TypeId} {k : IntKind} {v : Value} {d : DataW H} {ps : List MemPlace} {r : Reach} {b0 : Nat} (ht : P.underlying t = some (.int k)) (hval : Value.okWide P W r b0 t v) (h : DataW.Trod enc P W 0 (fun _ => true) true t v d ps) :
    ∃ n, v = .int k n ∧ (Lit.int k n).wf = true ∧ VR (mu0 W) v v := by
  obtain ⟨n, rfl⟩ := okWide_int ht hval
  obtain ⟨f, hf⟩ := h
  obtain ⟨z, hz, _, hw⟩ := DataW.trod_int ht hf
  cases hz
  exact ⟨n, rfl, hw, .int _ _⟩
theorem open_bool_arg {t : TypeId} {v : Value} {r : Reach} {b0 : Nat} (ht : P.underlying t = some .bool) (hval : Value.okWide P W r b0 t v) : ∃ b, v = .bool b ∧ VR (mu0 W) v v := by
  obtain ⟨b, rfl⟩ := okWide_bool ht hval
  exact ⟨b, rfl, .bool _⟩
theorem open_str_arg {t : TypeId} {v : Value} {d : DataW H} {ps : List MemPlace} {r : Reach} {b0 : Nat} (ht : P.underlying t = some .string) (hval : Value.okWide P W r b0 t v) (h : DataW.Trod enc P W 0 (fun _ => true) true t v d ps) :
    ∃ s, v = .string s ∧ s.size ≤ maxLen ∧ VR (mu0 W) v v := by
  obtain ⟨n, rfl⟩ := okWide_string ht hval
  obtain ⟨f, hf⟩ := h
  obtain ⟨z, hz, _, hw⟩ := DataW.trod_string ht hf
  cases hz
  exact ⟨n, rfl, hw, .string _⟩
theorem open_struct_arg {t : TypeId} {fs : Array Field} {v : Value} {d : DataW H} {ps : List MemPlace} {m : Nat} {s : List Shp} {r : Reach} {b0 : Nat} (ht : P.underlying t = some (.struct fs)) (hs : shpOf P m t = some s) (hval : Value.okWide P W r b0 t v) (h : DataW.Trod enc P W 0 (fun _ => true) true t v d ps) :
    ∃ (cs : List Value) (ds : List Dat), v = .agg cs.toArray ∧ RL (S0 W) (heap0 W) cs ds ∧ HSL s ds ∧ VR (mu0 W) v v := by
  obtain ⟨cs, rfl, _⟩ := okWide_struct ht hval
  obtain ⟨n, hn⟩ := h
  obtain ⟨ds, r1, r2, r3⟩ := open_trod m n t _ _ _ hn hs
  exact ⟨cs.toList, ds, by simp, r1, r2, .agg r3⟩
end

/-! ### From shapes to typed data -/
theorem rows_typed {α : Type} {f : α → List Dat} {ok : α → Prop} {rows : List (List Dat)} (h : ∀ r ∈ rows, ∃ a, r = f a ∧ ok a) : ∃ l : List α, rows = l.map f ∧ ∀ a ∈ l, ok a := by
  induction rows with
  | nil => exact ⟨[], rfl, fun a ha => by cases ha⟩
  | cons r rows ih =>
    obtain ⟨a, rfl, ha⟩ := h r (by simp)
    obtain ⟨l, rfl, hl⟩ := ih fun q hq => h q (by simp [hq])
    exact ⟨a :: l, rfl, fun b hb => by
      rcases List.mem_cons.1 hb with rfl | hb
      · exact ha
      · exact hl b hb⟩
theorem sl_typed {α : Type} {s : List Shp} {d : Dat} {f : α → List Dat} {ok : α → Prop} (h : HS (.sl s) d) (hq : ∀ r, HSL s r → ∃ a, r = f a ∧ ok a) :
    ∃ (l : List α), d = .sl (l.map f) ∧ (l.length ≤ maxLen ∧ ∀ a ∈ l, ok a) := by
  cases h with
  | sl hl hr =>
    obtain ⟨l, rfl, h1⟩ := rows_typed fun r h => hq r (hr r h)
    exact ⟨l, rfl, by simpa using hl, h1⟩

end Go.Am
