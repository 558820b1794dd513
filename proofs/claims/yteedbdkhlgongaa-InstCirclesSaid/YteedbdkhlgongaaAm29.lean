/- Words for typed data: what the printed types (types.py) stand on. -/
import Derived.Test.YteedbdkhlgongaaAm28
set_option linter.unusedSimpArgs false
set_option linter.unusedVariables false
namespace Go.Am

def iD (n : Int) : List Dat := [.v (.int .i64 n)]
def kD (k : IntKind) (n : Int) : List Dat := [.v (.int k n)]
def bD (b : Bool) : List Dat := [.v (.bool b)]
def sD (s : ByteArray) : List Dat := [.v (.string s)]
def lD {α : Type} (f : α → List Dat) (l : List α) : List Dat := [.sl (l.map f)]
def dokL {α : Type} (ok : α → Prop) (l : List α) : Prop := l.length ≤ maxLen ∧ ∀ a ∈ l, ok a
theorem HSL.cons_inv {s : Shp} {ss : List Shp} {ds : List Dat} (h : HSL (s :: ss) ds) : ∃ d r, ds = d :: r ∧ HS s d ∧ HSL ss r := by
  cases h with | cons h1 h2 => exact ⟨_, _, rfl, h1, h2⟩
theorem HSL.nil_inv {ds : List Dat} (h : HSL [] ds) : ds = [] := by cases h; rfl
theorem HS.int_inv {k : IntKind} {d : Dat} (h : HS (.int k) d) : ∃ n, d = .v (.int k n) ∧ (Lit.int k n).wf = true := by cases h with | int hw => exact ⟨_, rfl, hw⟩
theorem HS.i64_inv {d : Dat} (h : HS (.int .i64) d) : ∃ n, d = .v (.int .i64 n) ∧ isI64 n := by cases h with | int hw => exact ⟨_, rfl, wf_i64 hw⟩
theorem HS.bool_inv {d : Dat} (h : HS .bool d) : ∃ b, d = .v (.bool b) := by cases h with | bool b => exact ⟨b, rfl⟩
theorem HS.str_inv {d : Dat} (h : HS .str d) : ∃ s : ByteArray, d = .v (.string s) ∧ s.size ≤ maxLen := by cases h with | str hs => exact ⟨_, rfl, hs⟩
theorem RL.cons_inv {S : Nat → Prop} {h : AHeap} {ws : List Value} {d : Dat} {ds : List Dat} (r : RL S h ws (d :: ds)) : ∃ x ws', ws = x :: ws' ∧ R S h x d ∧ RL S h ws' ds := by
  cases r with | cons h1 h2 => exact ⟨_, _, rfl, h1, h2⟩
theorem RL.nil_inv {S : Nat → Prop} {h : AHeap} {ws : List Value} (r : RL S h ws []) : ws = [] := by cases r; rfl
theorem of_int {r : List Dat} (h : HSL [.int .i64] r) : ∃ n, r = iD n ∧ isI64 n := by
  obtain ⟨d, q, rfl, h1, h2⟩ := HSL.cons_inv h
  obtain rfl := HSL.nil_inv h2
  obtain ⟨n, rfl, hn⟩ := HS.i64_inv h1
  exact ⟨n, rfl, hn⟩
theorem of_kind {k : IntKind} {r : List Dat} (h : HSL [.int k] r) : ∃ n, r = kD k n ∧ (Lit.int k n).wf = true := by
  obtain ⟨d, q, rfl, h1, h2⟩ := HSL.cons_inv h
  obtain rfl := HSL.nil_inv h2
  obtain ⟨n, rfl, hn⟩ := HS.int_inv h1
  exact ⟨n, rfl, hn⟩
theorem of_bool {r : List Dat} (h : HSL [.bool] r) : ∃ b, r = bD b ∧ True := by
  obtain ⟨d, q, rfl, h1, h2⟩ := HSL.cons_inv h
  obtain rfl := HSL.nil_inv h2
  obtain ⟨n, rfl⟩ := HS.bool_inv h1
  exact ⟨n, rfl, trivial⟩
theorem of_str {r : List Dat} (h : HSL [.str] r) : ∃ s : ByteArray, r = sD s ∧ s.size ≤ maxLen := by
  obtain ⟨d, q, rfl, h1, h2⟩ := HSL.cons_inv h
  obtain rfl := HSL.nil_inv h2
  obtain ⟨n, rfl, hn⟩ := HS.str_inv h1
  exact ⟨n, rfl, hn⟩
theorem of_list {α : Type} {s : List Shp} {f : α → List Dat} {ok : α → Prop} (hq : ∀ r, HSL s r → ∃ a, r = f a ∧ ok a) {r : List Dat} (h : HSL [.sl s] r) : ∃ l, r = lD f l ∧ dokL ok l := by
  obtain ⟨d, q, rfl, h1, h2⟩ := HSL.cons_inv h
  obtain rfl := HSL.nil_inv h2
  obtain ⟨l, rfl, hl⟩ := sl_typed h1 hq
  exact ⟨l, rfl, hl⟩
theorem iD_lens (l : List Int) : ∀ q ∈ l.map iD, q.length = 1 := fun q hq => by obtain ⟨t, _, rfl⟩ := List.mem_map.1 hq; rfl
theorem lD_lens {α : Type} (f : α → List Dat) (l : List (List α)) : ∀ q ∈ l.map (lD f), q.length = 1 := fun q hq => by obtain ⟨t, _, rfl⟩ := List.mem_map.1 hq; rfl
theorem get_map {α β : Type} {f : α → β} {l : List α} {i : Nat} {a : α} (h : l[i]? = some a) : (l.map f)[i]? = some (f a) := by rw [List.getElem?_map, h]; rfl
/-- A number of a slice of numbers. -/
theorem R.int_at {S : Nat → Prop} {h : AHeap} {x : Value} {l : List Int} (r : R S h x (.sl (l.map iD))) {i : Nat} {n : Int} (hi : l[i]? = some n) :
    ∃ b o, indexAddrf 1 x (.int .i64 i) = some (ptrTo b o) ∧ readC h b o = some (.int .i64 n) ∧ S b := by
  obtain ⟨b, o, ws, h1, h2, h3, h4⟩ := r.elem (iD_lens l) (by decide) (get_map hi)
  obtain ⟨y, ws, rfl, h5, h6⟩ := RL.cons_inv h3
  obtain rfl := RL.nil_inv h6
  obtain rfl := R.inv_v h5
  exact ⟨b, o, h1, by have := readC_of_readN h2 (i := 0) rfl; simpa using this, h4⟩
theorem R.lenm {α : Type} {S : Nat → Prop} {h : AHeap} {x : Value} {f : α → List Dat} {l : List α} (r : R S h x (.sl (l.map f))) : lenf false x = some (.int .i64 l.length) := by have := r.len; rwa [List.length_map] at this
/-- Nothing is lost when the heap grows. -/
theorem R.grow {S : Nat → Prop} {h h' : AHeap} (hp : h <+: h') (hS : ∀ b, S b → b < h.length) {x : Value} {d : Dat} (r : R S h x d) : R S h' x d := r.pre hp hS
theorem drop_cons' {α : Type} {l : List α} {i : Nat} {a : α} {rest : List α} (h : l.drop i = a :: rest) : l[i]? = some a ∧ l.drop (i + 1) = rest ∧ i < l.length := by
  have h1 : (l.drop i)[0]? = some a := by rw [h]; rfl
  rw [List.getElem?_drop, Nat.add_zero] at h1
  refine ⟨h1, ?_, (List.getElem?_eq_some_iff.1 h1).1⟩
  rw [← List.drop_drop, h]; rfl

theorem readC_app {h : AHeap} {b o : Nat} {v : Value} (hr : readC h b o = some v) (l : List ABlk) : readC (h ++ l) b o = some v := readC_prefix (pre_app h l) hr
theorem readN_app {h : AHeap} {b o n : Nat} {v : List Value} (hr : readN h b o n = some v) (l : List ABlk) : readN (h ++ l) b o n = some v := readN_prefix (pre_app h l) hr
end Go.Am
