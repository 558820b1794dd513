/- One part of the proof. -/
import Derived.Test.YtffennknofmjoaaGreatP3
import Derived.Lib.Bytealg
import Derived.Sort.Grow
set_option linter.unusedSimpArgs false
set_option linter.unusedVariables false
set_option linter.unusedSimpArgs false
set_option linter.unusedVariables false
/- A base of the machine: strings' IndexByte, which the program reaches as a function without a body. -/
namespace Go.Vm
open Go.Am
def idxA (g : FuncId) : Am.Callee := fun f args h => bif Nat.beq f g then (match args with | [.string s, .int .u8 c] => some (.int .i64 (Lib.indexByte s.data.toList c.toNat.toUInt8), h) | _ => none) else none
def idxP (g : FuncId) : PCallee := fun f args h => bif Nat.beq f g then (match args with | [.str s, .int .u8 c] => some (.int .i64 (Lib.indexByte s.data.toList c.toNat.toUInt8), h) | _ => none) else none
theorem acall_base {Γ : Am.Callee} {T : ATable} {f : FuncId} (hf : Nat.beq f yieldId = false) (hT : T.get f = none) (args : List Value) (h : AHeap) : ∀ n, acall Γ T n f args h = Γ f args h
  | 0 => by unfold acall; rw [hf, hT]; rfl
  | n + 1 => by unfold acall; rw [hf, hT]; rfl
theorem run_base {Γ : Am.Callee} {T : ATable} {f : FuncId} (hf : Nat.beq f yieldId = false) (hT : T.get f = none) {args : List Value} {h : AHeap} {r : Value × AHeap} (hr : Γ f args h = some r) : run Γ T f args h = some r := by
  unfold run
  have H : ∃ n, (acall Γ T n f args h).isSome = true := ⟨0, by rw [acall_base hf hT, hr]; rfl⟩
  rw [dif_pos H, acall_base hf hT, hr]
theorem idxA_ok {P : Program} {g : FuncId} (he : ∀ (xs : Array Value) (w : World), (callFunc g xs).run P w = .ok (.enter g xs) w)
    (hc : ∀ (F : Fence) (n : Nat), WideF F → ∀ (s : ByteArray) (c : Int) (w : World), CallsIn F.plain n P g #[.string s, .int .u8 c] w fun e w' => e = .returned (.int .i64 (Lib.indexByte s.data.toList c.toNat.toUInt8)) ∧ w' = w)
    (hy : Nat.beq yieldId g = false) : CallOk P (idxA g) := by
  refine ⟨fun f hf args h r h1 hk => ?_, fun b args h r h1 hk => ?_⟩
  · unfold idxA at hk
    cases hb : Nat.beq f g with
    | false => rw [hb] at hk; cases hk
    | true =>
      have := Nat.eq_of_beq_eq_true hb
      subst this
      rw [hb] at hk
      simp only [cond_true] at hk
      refine ⟨he, fun μ w args' s hargs F n hF => ?_⟩
      split at hk
      · rename_i t c
        cases hk
        cases hargs with
        | cons h1 h2 =>
          cases h2 with
          | cons h3 h4 =>
            cases h4; cases h1; cases h3
            show CallsIn F.plain n P f #[.string t, .int .u8 c] w _
            refine CallsIn.mono (hc F n hF t c w) fun e w' q => ?_
            obtain ⟨rfl, rfl⟩ := q
            exact ⟨_, μ, rfl, .int _ _, s, Am.Ext.refl μ _ _ s.dom⟩
      · cases hk
  · unfold idxA at hk
    rw [hy] at hk
    cases hk
theorem calls_of_prunB {P : Program} {T : PTable} {Γb : PCallee} {Γa : Am.Callee} (hmix : P.follows .mixedOrders = true) (hT : TableOk P (PTable.erase T)) (hs : CallR Γb (run Γa T.erase)) (hb : CallOk P Γa) {f : FuncId} {args : List PV} {args' : List Value} {W : World} {b : Bool} {h1 : PHeap} (hk : prun Γb T f args [] = some (.bool b, h1))
    (hargs : PRL mu00 (phi0 (heap0 W)) args args') (hv : VRL (mu0 W) args' args') (hf : Nat.blt f yieldId = true := by rfl) :
    Calls P f args'.toArray W fun e W' => e = .returned (.bool b) ∧ RowKit.Below W.heap.size W W' := by
  obtain ⟨r', ha', μ', φ', k1, k2, k3, k4⟩ := prun_sim (Γa0 := Γa) (T := T) hs f args [] _ _ hk mu00 (phi0 (heap0 W)) (heap0 W) args' (rel0 _) hargs
  cases k2
  exact calls_of_run (run_ok hmix hT hb) k1 hv rfl hf
end Go.Vm
/- Words that make simp run the code in the order of the run, and join the two ways of a logical operator. -/
namespace Go.Vm
open Go.Am
theorem bind_c {α β : Type} {a b : Option α} {f : α → Option β} (h : a = b) : a.bind f = b.bind f := by rw [h]
theorem ifP_c {R : Type} {c d : PV} {a b : Option R} (h : c = d) : ifP c a b = ifP d a b := by rw [h]
theorem scP_c {R : Type} {c d : PV} {t : Bool} {a b : Option R} (h : c = d) : scP c t a b = scP d t a b := by rw [h]
theorem ite_c {α : Sort _} {c d : Prop} [Decidable c] [Decidable d] {a b : α} (h : c = d) : (if c then a else b) = (if d then a else b) := by
  subst h; congr
theorem loop_c {R : Type} {B : (List PV → PHeap → Option R) → List PV → PHeap → Option R} {n : Nat} {v w : List PV} {h k : PHeap} (e1 : v = w) (e2 : h = k) : loopP B n v h = loopP B n w k := by rw [e1, e2]
theorem K1_c {R : Type} {k : PV → PHeap → Option R} {b b' : (PV → PHeap → Option R) → Option R} (h : ∀ j, b j = b' j) : K1 k b = K1 k b' := by rw [show b = b' from funext h]
theorem bS {α β : Type} (a : α) (f : α → Option β) : (some a).bind f = f a := Eq.trans (Option.bind_some a f) (Eq.refl _)
theorem KLn {R : Type} (k : List PV → PHeap → Option R) (b : (List PV → PHeap → Option R) → Option R) : KL k b = b k := Eq.trans (KL_def k b) (Eq.refl _)
theorem K1n {R : Type} (k : PV → PHeap → Option R) (b : (PV → PHeap → Option R) → Option R) : K1 k b = b k := Eq.trans (K1_def k b) (Eq.refl _)
theorem K1_or {R : Type} (k : PV → PHeap → Option R) (b c : Bool) (h : PHeap) : K1 k (fun j => scP (.bool b) false (j (.bool c) h) (j (.bool true) h)) = k (.bool (b || c)) h := by cases b <;> rfl
theorem K1_and {R : Type} (k : PV → PHeap → Option R) (b c : Bool) (h : PHeap) : K1 k (fun j => scP (.bool b) true (j (.bool c) h) (j (.bool false) h)) = k (.bool (b && c)) h := by cases b <;> rfl
theorem K1_one {R : Type} (k : PV → PHeap → Option R) (v : PV) (h : PHeap) : K1 k (fun j => j v h) = k v h := rfl
theorem succ63 {i : Nat} (h : i < 9223372036854775807) : IntKind.i64.wrap ((i : Int) + 1) = ((i + 1 : Nat) : Int) := by rw [wrap64 (by unfold isI64; omega)]; omega
theorem y20 (a b : PV) : extractP (.tuple [a, b]) 0 = some a := Eq.trans (show _ = some a from rfl) (Eq.refl _)
theorem y21 (a b : PV) : extractP (.tuple [a, b]) 1 = some b := Eq.trans (show _ = some b from rfl) (Eq.refl _)
theorem y30 (a b c : PV) : extractP (.tuple [a, b, c]) 0 = some a := Eq.trans (show _ = some a from rfl) (Eq.refl _)
theorem y31 (a b c : PV) : extractP (.tuple [a, b, c]) 1 = some b := Eq.trans (show _ = some b from rfl) (Eq.refl _)
theorem y32 (a b c : PV) : extractP (.tuple [a, b, c]) 2 = some c := Eq.trans (show _ = some c from rfl) (Eq.refl _)
theorem field_new (k b : Nat) : fieldAddrP k (.ptr b 0) = some (.ptr b k) := by rw [field_ptr, Nat.zero_add]
theorem load_new {h : PHeap} {vs : List PV} {t : TypeId} {k : Nat} {v : PV} (hv : vs[k]? = some v) : loadP false 1 (.ptr h.length k) (h ++ [.box vs t .rw]) = some v := by
  rw [load_box, boxAt_some (vs := vs) (t := t) (md := .rw) (by rw [get_new0]; rfl), Option.bind_some, part_cell, hv]
end Go.Vm
/- Loops that leave where something first is the case. -/
namespace Go.Vm
open Go.Am
theorem loop_until {R : Type} {B : (List PV → PHeap → Option R) → List PV → PHeap → Option R} {r : Option R} {n : Nat} {v0 : List PV} {h0 : PHeap} (bad : Nat → Bool) (vs : Nat → List PV) (hs : Nat → PHeap) (len : Nat) (hn : len < n) (e1 : vs 0 = v0) (e2 : hs 0 = h0)
    (hstep : ∀ i, i < len → bad i = false → ∀ K, B K (vs i) (hs i) = K (vs (i + 1)) (hs (i + 1)))
    (hhit : ∀ i, i < len → bad i = true → (∀ j, j < i → bad j = false) → ∀ K, B K (vs i) (hs i) = r)
    (hend : (∀ j, j < len → bad j = false) → ∀ K, B K (vs len) (hs len) = r) : loopP B n v0 h0 = r := by
  rw [← e1, ← e2]
  have key : ∀ (n i : Nat), i ≤ len → len < n + i → (∀ j, j < i → bad j = false) → loopP B n (vs i) (hs i) = r := by
    intro n
    induction n with
    | zero => intro i h1 h2 _; omega
    | succ n ih =>
      intro i h1 h2 h3
      show B (loopP B n) (vs i) (hs i) = r
      by_cases h : i < len
      · cases hb : bad i with
        | true => exact hhit i h hb h3 _
        | false =>
          rw [hstep i h hb]
          refine ih (i + 1) (by omega) (by omega) fun j hj => ?_
          by_cases hji : j = i
          · rw [hji]; exact hb
          · exact h3 j (by omega)
      · have : i = len := by omega
        subst this
        exact hend h3 _
  exact key n 0 (Nat.zero_le _) (by omega) fun j hj => by omega
theorem loop_find {α R : Type} {B : (List PV → PHeap → Option R) → List PV → PHeap → Option R} {r : Option R} {n : Nat} {v0 : List PV} {h0 : PHeap} (l : List α) (p : α → Bool) (vs : Nat → List PV) (hn : l.length < n) (e1 : vs 0 = v0)
    (hstep : ∀ i a, i < l.length → l[i]? = some a → p a = false → ∀ K, B K (vs i) h0 = K (vs (i + 1)) h0)
    (hhit : ∀ i a, i < l.length → l[i]? = some a → p a = true → l.findIdx? p = some i → l.any p = true → ∀ K, B K (vs i) h0 = r)
    (hend : l.findIdx? p = none → l.any p = false → ∀ K, B K (vs l.length) h0 = r) : loopP B n v0 h0 = r := by
  refine loop_until (fun i => match l[i]? with | some a => p a | none => false) vs (fun _ => h0) l.length hn e1 rfl (fun i hi hb K => ?_) (fun i hi hb hj K => ?_) (fun hj K => ?_)
  · have he := List.getElem?_eq_getElem hi
    simp only [he] at hb
    exact hstep i _ hi he hb K
  · have he := List.getElem?_eq_getElem hi
    simp only [he] at hb
    refine hhit i _ hi he hb (List.findIdx?_eq_some_iff_getElem.2 ⟨hi, hb, fun j hji => ?_⟩) (List.any_eq_true.2 ⟨_, List.getElem_mem hi, hb⟩) K
    have hji2 := hj j hji
    rw [List.getElem?_eq_getElem (show j < l.length by omega)] at hji2
    simp only at hji2
    simp only [hji2, Bool.false_eq_true, not_false_eq_true]
  · have hall : ∀ x ∈ l, p x = false := fun x hx => by
      obtain ⟨j, hjl, rfl⟩ := List.getElem_of_mem hx
      have := hj j hjl
      rw [List.getElem?_eq_getElem hjl] at this
      exact this
    refine hend (List.findIdx?_eq_none_iff.2 hall) ?_ K
    rw [Bool.eq_false_iff]
    intro h
    obtain ⟨x, hx, hp⟩ := List.any_eq_true.1 h
    rw [hall x hx] at hp
    cases hp
theorem lt_l' {α : Type} {l : List α} {i : Nat} (h : i < l.length) : ∃ a, l[i]? = some a := ⟨_, List.getElem?_eq_getElem h⟩
theorem load_newA {h : PHeap} {vs ws : List PV} {t : TypeId} {k n : Nat} (hl : k + n ≤ vs.length) (hv : (vs.drop k).take n = ws) : loadP true n (.ptr h.length k) (h ++ [.box vs t .rw]) = some (.agg ws) := by
  rw [load_box, boxAt_some (vs := vs) (t := t) (md := .rw) (by rw [get_new0]; rfl), Option.bind_some, part_agg hl, hv]
theorem trim_i1 {h : PHeap} (l : PHeap) (k : IntKind) (n : Int) : trim h [.int k n] (h ++ l) = h := trim_new l fun v hv => by
  simp only [List.mem_singleton] at hv; subst hv; exact lt_int _ _ _
end Go.Vm
/- Flat heaps: what a function has made lies behind what it found, as a list; loads and stores find their places by numbers. -/
namespace Go.Vm
open Go.Am
theorem nr {α : Sort _} {a b : α} (h : a = b) : a = b := Eq.trans h (Eq.refl b)
theorem scTT {R : Type} (a b : Option R) : scP (.bool true) true a b = a := Eq.trans (sc_and true a b) (if_pos rfl)
theorem scFT {R : Type} (a b : Option R) : scP (.bool false) true a b = b := Eq.trans (sc_and false a b) (if_neg (by decide))
theorem scFF {R : Type} (a b : Option R) : scP (.bool false) false a b = a := Eq.trans (sc_or false a b) (if_pos rfl)
theorem forkW {R : Type} (v : PV) (h : PHeap) (k : PV → PHeap → Option R) : forkP v h k = k v h := Eq.trans (fork_def v h k) (Eq.refl _)
theorem guardW {R : Type} (m : Option R) : guardP true m = m := Eq.trans (guard_true m) (Eq.refl _)
theorem fork_c {R : Type} {v v' : PV} {h h' : PHeap} {k : PV → PHeap → Option R} (e1 : v = v') (e2 : h = h') : forkP v h k = forkP v' h' k := by rw [e1, e2]
theorem guard_c {R : Type} {b b' : Bool} {m : Option R} (e : b = b') : guardP b m = guardP b' m := by rw [e]
theorem unl_c {R : Type} {h h' g g' : PHeap} {k : PHeap → Option R} (e1 : h = g) (e2 : h' = g') : unl h h' k = unl g g' k := by rw [e1, e2]
theorem K1one {R : Type} (k : PV → PHeap → Option R) (v : PV) (h : PHeap) : K1 k (fun j => j v h) = k v h := Eq.trans (K1_one k v h) (Eq.refl _)
theorem ifW (t : Bool) {R : Type} (a b : Option R) : ifP (.bool t) a b = if t = true then a else b := Eq.trans (if_bool t a b) (Eq.refl _)
theorem cellsW (l : List PV) : cellsP (.agg l) = l := Eq.trans (cells_agg l) (Eq.refl _)
theorem notW (b : Bool) : unP .not (.bool b) = some (.bool !b) := Eq.trans (un_not b) (Eq.refl _)
theorem mapS {α β : Type} (a : α) (f : α → β) : (some a).map f = some (f a) := Eq.trans (Option.map_some a f) (Eq.refl _)
theorem fieldW (b o f : Nat) : fieldAddrP f (.ptr b o) = some (.ptr b (o + f)) := Eq.trans (field_ptr b o f) (Eq.refl _)
theorem fieldF (row : List PV) (o f : Nat) : fieldAddrP f (.fptr row o) = some (.fptr row (o + f)) := Eq.trans (field_fptr row o f) (Eq.refl _)
theorem partC (o n : Nat) (cs : List PV) : partP false o n cs = cs[o]? := Eq.trans (part_cell o n cs) (Eq.refl _)
theorem loadF (agg : Bool) (n o : Nat) (row : List PV) (h : PHeap) : loadP agg n (.fptr row o) h = partP agg o n row := Eq.trans (load_fptr agg n o row h) (Eq.refl _)
theorem loadC0 (agg : Bool) (n o : Nat) (vs : List PV) (t : TypeId) (md : Md) (l : PHeap) : loadP agg n (.ptr 0 o) (.box vs t md :: l) = partP agg o n vs := by
  rw [load_box]; rfl
theorem loadCk (agg : Bool) (n o k : Nat) (b : PBlk) (l : PHeap) : loadP agg n (.ptr (k + 1) o) (b :: l) = loadP agg n (.ptr k o) l := by
  rw [load_box, load_box]; rfl
theorem loadN0 (agg : Bool) (n o : Nat) (h : PHeap) (vs : List PV) (t : TypeId) (md : Md) (l : PHeap) : loadP agg n (.ptr h.length o) (h ++ .box vs t md :: l) = partP agg o n vs := by
  rw [load_box, boxAt_some (vs := vs) (t := t) (md := md) (by rw [get_new0]; rfl)]; rfl
theorem loadNk (agg : Bool) (n o k : Nat) (h l : PHeap) : loadP agg n (.ptr (h.length + k) o) (h ++ l) = loadP agg n (.ptr k o) l := by
  rw [load_box, load_box]
  unfold boxAt
  rw [get_new]
theorem loadLC0 {agg : Bool} {n o i sz : Nat} {rows : List (List PV)} {row : List PV} {t : TypeId} {md : Md} {l : PHeap} (ver : Nat) (hv : ver = rows.length) (hi : rows[i]? = some row) : loadP agg n (.lptr 0 i o ver sz) (.log rows sz t md :: l) = partP agg o n row := load_log (h := .log rows sz t md :: l) rfl hv hi
theorem loadLCk (agg : Bool) (n o k i ver sz : Nat) (b : PBlk) (l : PHeap) : loadP agg n (.lptr (k + 1) i o ver sz) (b :: l) = loadP agg n (.lptr k i o ver sz) l := by
  simp only [loadP, logAt, List.getElem?_cons_succ]
theorem loadLNk (agg : Bool) (n o k i ver sz : Nat) (h l : PHeap) : loadP agg n (.lptr (h.length + k) i o ver sz) (h ++ l) = loadP agg n (.lptr k i o ver sz) l := by
  simp only [loadP, logAt, get_new]
theorem find_idx {α : Type} (p : α → Bool) (l : List α) : l.find? p = (l.findIdx? p).bind fun i => l[i]? := by
  induction l with
  | nil => rfl
  | cons x l ih =>
    rw [List.find?_cons, List.findIdx?_cons]
    cases p x with
    | true => rfl
    | false =>
      simp only [Bool.false_eq_true, if_false]
      rw [ih]
      cases l.findIdx? p <;> rfl
theorem storeC0 {n o : Nat} {v : PV} {vs : List PV} {t : TypeId} {l : PHeap} (hn : (cellsP v).length = n) (h0 : 0 < n) : storeP n (.ptr 0 o) v (.box vs t .rw :: l) = (putAt vs o (cellsP v)).map fun vs' => .box vs' t .rw :: l := by
  unfold storeP
  have e1 : (Nat.beq (cellsP v).length n && Nat.blt 0 n) = true := by subst hn; simp [Nat.blt]; exact h0
  rw [e1]; rfl
theorem storeCk (n o k : Nat) (v : PV) (b : PBlk) (l : PHeap) : storeP n (.ptr (k + 1) o) v (b :: l) = (storeP n (.ptr k o) v l).map (b :: ·) := by
  unfold storeP
  cases (Nat.beq (cellsP v).length n && Nat.blt 0 n) with
  | false => rfl
  | true =>
    simp only [cond_true, List.getElem?_cons_succ]
    cases l[k]? with
    | none => rfl
    | some blk =>
      cases blk with
      | box vs t md => cases md with
        | rw =>
          show Option.map (fun vs' => (b :: l).set (k + 1) (PBlk.box vs' t Md.rw)) (putAt vs o (cellsP v)) = Option.map (b :: ·) (Option.map (fun vs' => l.set k (PBlk.box vs' t Md.rw)) (putAt vs o (cellsP v)))
          cases putAt vs o (cellsP v) <;> rfl
        | lk => rfl
        | ro => rfl
      | log a b c d => rfl
      | map a b => rfl
      | loop a b c d e f g i => rfl
      | dead => rfl
theorem storeNk (n o k : Nat) (v : PV) (h l : PHeap) : storeP n (.ptr (h.length + k) o) v (h ++ l) = (storeP n (.ptr k o) v l).map (h ++ ·) := by
  unfold storeP
  cases (Nat.beq (cellsP v).length n && Nat.blt 0 n) with
  | false => rfl
  | true =>
    simp only [cond_true, get_new]
    cases l[k]? with
    | none => rfl
    | some blk =>
      cases blk with
      | box vs t md => cases md with
        | rw =>
          show Option.map (fun vs' => (h ++ l).set (h.length + k) (PBlk.box vs' t Md.rw)) (putAt vs o (cellsP v)) = Option.map (h ++ ·) (Option.map (fun vs' => l.set k (PBlk.box vs' t Md.rw)) (putAt vs o (cellsP v)))
          simp only [set_new]
          cases putAt vs o (cellsP v) <;> rfl
        | lk => rfl
        | ro => rfl
      | log a b c d => rfl
      | map a b => rfl
      | loop a b c d e f g i => rfl
      | dead => rfl
theorem storeN0 (n o : Nat) (v : PV) (h l : PHeap) : storeP n (.ptr h.length o) v (h ++ l) = (storeP n (.ptr 0 o) v l).map (h ++ ·) := storeNk n o 0 v h l
theorem put_whole {vs cs : List PV} (h1 : vs.length = cs.length) (hv : cs.all oneP = true) : putAt vs 0 cs = some cs := by
  unfold putAt
  rw [if_pos ⟨by omega, hv⟩]
  simp only [List.take_zero, List.nil_append, Nat.zero_add]
  rw [List.drop_of_length_le (by omega), List.append_nil]
theorem fill_none (l : List PV) : fillP l [] = some l := nr rfl
theorem fill_step {cells : List PV} {off size : Nat} {v : PV} {r : List (Nat × Nat × PV)} (h1 : (cellsP v).length = size) (h2 : 0 < size) (h3 : off + size ≤ cells.length) : fillP cells ((off, size, v) :: r) = fillP (cells.take off ++ cellsP v ++ cells.drop (off + size)) r := by
  show (if _ then _ else _) = _
  rw [if_pos ⟨h1, h2, h3⟩]
theorem lt_of_i1 {n : Nat} {k : IntKind} {i : Int} : ∀ v ∈ [PV.int k i], ltV n v := fun v hv => by
  simp only [List.mem_singleton] at hv; subst hv; exact lt_int _ _ _
theorem trim_bl {h a : PHeap} {roots : List PV} (l : PHeap) (hr : ∀ v ∈ roots, ltV (h ++ a).length v) : trim (h ++ a) roots (h ++ (a ++ l)) = h ++ a := by
  rw [← List.append_assoc]; exact trim_new l hr
theorem trim_i2' (h : PHeap) (a b : PBlk) (l : PHeap) (k : IntKind) (n : Int) : trim (h ++ [a, b]) [.int k n] (h ++ a :: b :: l) = h ++ [a, b] := trim_bl (a := [a, b]) l lt_of_i1
theorem trim_i4' (h : PHeap) (a b c d : PBlk) (l : PHeap) (k : IntKind) (n : Int) : trim (h ++ [a, b, c, d]) [.int k n] (h ++ a :: b :: c :: d :: l) = h ++ [a, b, c, d] := trim_bl (a := [a, b, c, d]) l lt_of_i1
def plain1 : PV → Bool
  | .int _ _ | .bool _ | .str _ | .nilS | .nilP | .nilM | .nilF | .nilI | .frz _ _ | .emp | .junk => true
  | _ => false
def plainP : PV → Bool
  | .agg cs => cs.all plain1
  | v => plain1 v
theorem plain1_lt {n : Nat} {v : PV} (h : plain1 v = true) : ltV n v := by
  cases v <;> first | (simp [ltV]; done) | (simp [plain1] at h; done)
theorem plainP_lt {n : Nat} {v : PV} (h : plainP v = true) : ltV n v := by
  unfold plainP at h
  split at h
  · simp only [ltV]
    exact fun x hx => plain1_lt (List.all_eq_true.1 h x hx)
  · exact plain1_lt h
theorem fin_k2 {h l : PHeap} {v w : PV} (hv : plainP v = true) (hw : plainP w = true) : finP [.keep, .keep] h (h ++ l) [v, w] = some (.tuple [v, w], h) := by
  simp only [fin_def, fzL_cons, fzL_nil, fz_keep, Option.bind_some, Option.map_some, single_two]
  rw [trim_new _ (fun x hx => by
    simp only [List.mem_cons, List.not_mem_nil, or_false] at hx; rcases hx with rfl | rfl
    · exact plainP_lt hv
    · exact plainP_lt hw)]
theorem fin_k3 {h l : PHeap} {v w u : PV} (hv : plainP v = true) (hw : plainP w = true) (hu : plainP u = true) : finP [.keep, .keep, .keep] h (h ++ l) [v, w, u] = some (.tuple [v, w, u], h) := by
  simp only [fin_def, fzL_cons, fzL_nil, fz_keep, Option.bind_some, Option.map_some, single_three]
  rw [trim_new _ (fun x hx => by
    simp only [List.mem_cons, List.not_mem_nil, or_false] at hx; rcases hx with rfl | rfl | rfl
    · exact plainP_lt hv
    · exact plainP_lt hw
    · exact plainP_lt hu)]
def fzOK : FS → PV → Bool
  | .keep, _ => true
  | .flat _, .frz _ _ => true
  | .sl _ _, .frz _ _ => true
  | _, _ => false
def fzOKL : List FS → List PV → Bool
  | [], [] => true
  | s :: ss, v :: vs => fzOK s v && fzOKL ss vs
  | _, _ => false
theorem fz_id {s : FS} {v : PV} (h : PHeap) (hs : fzOK s v = true) : fz s v h = some (v, h) := by
  unfold fzOK at hs
  split at hs
  · exact fz_keep _ _
  · exact fz_frz _ _ _ _
  · exact fz_frzs _ _ _ _ _
  · cases hs
theorem fzL_id : ∀ {ss : List FS} {vs : List PV} (h : PHeap), fzOKL ss vs = true → fzL ss vs h = some (vs, h)
  | [], [], h, _ => fzL_nil h
  | s :: ss, v :: vs, h, hs => by
    unfold fzOKL at hs
    rw [Bool.and_eq_true] at hs
    rw [fzL_cons, fz_id h hs.1, Option.bind_some, fzL_id h hs.2, Option.map_some]
theorem fz_aggI {ss : List FS} {vs : List PV} (h : PHeap) (hs : fzOKL ss vs = true) : fz (.agg ss) (.agg vs) h = some (.agg vs, h) := by
  rw [fz_aggs, fzL_id h hs, Option.map_some]
theorem getD_some {α : Type} {l : List α} {i : Nat} {d a : α} (h : l[i]? = some a) : l.getD i d = a := by rw [List.getD_eq_getElem?_getD, h]; rfl
theorem lenadd (h : PHeap) (a b : Nat) : h.length + a + b = h.length + (a + b) := Nat.add_assoc _ _ _
theorem len1 (h : PHeap) (a : PBlk) : (h ++ [a]).length = h.length + 1 := by simp
theorem len2 (h : PHeap) (a b : PBlk) : (h ++ [a, b]).length = h.length + 2 := by simp
theorem len3 (h : PHeap) (a b c : PBlk) : (h ++ [a, b, c]).length = h.length + 3 := by simp
theorem len4 (h : PHeap) (a b c d : PBlk) : (h ++ [a, b, c, d]).length = h.length + 4 := by simp
theorem len5 (h : PHeap) (a b c d e : PBlk) : (h ++ [a, b, c, d, e]).length = h.length + 5 := by simp
end Go.Vm
/- Words of what is built in places of a flat heap: append, stores of cells, freezing at the end. -/
namespace Go.Vm
open Go.Am
theorem append_nilS {h : PHeap} {sz : Nat} {t : TypeId} {row : List PV} (hs : 0 < sz) (hp : row.all oneP = true) : appendP t sz .nilS (.frz sz [row]) h = some (.ref h.length 0 1 1 sz, h ++ [.log [row] sz t .rw]) := by
  simp only [appendP, rowsP, if_true, Option.bind_some, appendRows]
  rw [if_pos ⟨by simp [mostLen], hs, by simpa using hp⟩, if_neg (by simp)]
  rfl
theorem st1 {v : PV} (hv : cellsP v = [v]) (o : Nat) (vs : List PV) (t : TypeId) (l : PHeap) : storeP 1 (.ptr 0 o) v (.box vs t .rw :: l) = (putAt vs o [v]).map fun vs' => .box vs' t .rw :: l := by
  rw [storeC0 (by rw [hv]; rfl) (by decide), hv]
theorem trim_keep {h0 h' : PHeap} {roots : List PV} {b : Nat} {blk : PBlk} (hb : b < h0.length) (h1 : h'[b]? = some blk) (h2 : h0[b]? ≠ some blk) (h3 : ¬ ltB h0.length blk) : trim h0 roots h' = h' := by
  unfold trim
  rw [if_neg]
  intro k
  rcases k.2 b hb with k1 | ⟨blk', k1, k2⟩
  · exact h2 (k1.symm.trans h1)
  · rw [h1] at k1
    cases k1
    exact h3 k2
theorem not_ltB {n : Nat} {vs : List PV} {t : TypeId} {md : Md} {b lo m v sz : Nat} (h : PV.ref b lo m v sz ∈ vs) (hb : n ≤ b) : ¬ ltB n (.box vs t md) := by
  intro k
  have := k _ h
  simp only [ltV] at this
  omega
theorem fzRows_id {cs : List FS} : ∀ {rows : List (List PV)} (h : PHeap), (∀ r ∈ rows, fzOKL cs r = true) → fzRows cs rows h = some (rows, h)
  | [], h, _ => by unfold fzRows; rfl
  | r :: rs, h, hr => by
    rw [fzRows, fzL_id h (hr r (by simp)), Option.bind_some, fzRows_id h fun r hr' => hr r (by simp [hr'])]
    rfl
theorem fz_logS {h l : PHeap} {k sz s : Nat} {cs : List FS} {t : TypeId} {rows : List (List PV)} (e : l[k]? = some (.log rows sz t .rw)) (h0 : rows.length ≠ 0) (hr : ∀ r ∈ rows, fzOKL cs r = true) (hp : rows.flatten.all pure1 = true) :
    fz (.sl s cs) (.ref (h.length + k) 0 rows.length rows.length sz) (h ++ l) = some (.frz sz rows, h ++ l.set k (.log rows sz t .ro)) := by
  rw [fz]
  rw [if_neg h0, get_new, e]
  simp only [List.drop_zero, List.take_length]
  rw [if_pos ⟨trivial, trivial, by omega⟩, fzRows_id _ hr]
  simp only [Option.bind_some]
  rw [if_pos hp, set_new]
theorem fz_logF {h l : PHeap} {k sz s : Nat} {t : TypeId} {rows : List (List PV)} (e : l[k]? = some (.log rows sz t .rw)) (h0 : rows.length ≠ 0) (hp : rows.flatten.all pure1 = true) :
    fz (.flat s) (.ref (h.length + k) 0 rows.length rows.length sz) (h ++ l) = some (.frz sz rows, h ++ l.set k (.log rows sz t .ro)) := by
  rw [fz_log e hp, if_neg h0]
theorem fin_new {shapes : List FS} {h h' l : PHeap} {vs ws : List PV} (hz : fzL shapes vs h' = some (ws, h ++ l)) (hp : ∀ v ∈ ws, ltV h.length v) : finP shapes h h' vs = some (singleP ws, h) := by
  rw [fin_def, hz, Option.map_some, trim_new _ hp]
theorem len6 (h : PHeap) (a b c d e f : PBlk) : (h ++ [a, b, c, d, e, f]).length = h.length + 6 := by simp
theorem mkSlice_new {t : TypeId} {zero : List PV} {n : Nat} {h : PHeap} (hn : n ≤ mostLen) : mkSliceP t zero (.int .i64 n) (.int .i64 n) h = some (.ref h.length 0 n n zero.length, h ++ [.log (List.replicate n zero) zero.length t .rw]) := by
  simp only [mkSliceP]
  rw [if_pos ⟨by omega, by omega, by omega⟩, Int.toNat_natCast]
end Go.Vm
/- Short names for printed code. -/
namespace Go.Vm
open Go.Am
theorem words : type_of% (And.intro @cellsW (And.intro @forkW (And.intro @fieldW (And.intro @fieldF (And.intro @Nat.zero_add (And.intro (@List.append_assoc PBlk) (And.intro (@List.cons_append PBlk) (And.intro (@List.nil_append PBlk) (And.intro @lenadd (And.intro @len1 (And.intro @len2 (And.intro @len3 (And.intro @len4 (And.intro @len5 (And.intro @loadN0 (And.intro @loadNk (And.intro @loadCk (And.intro @loadC0 (And.intro @loadF (And.intro @partC (And.intro @storeN0 (And.intro @storeNk (And.intro @storeCk (And.intro @mapS (And.intro @bS (And.intro @K1_or (And.intro @K1_and (And.intro @K1one (And.intro @notW (And.intro @ifW (And.intro @nth_zero (And.intro @bin_lss (And.intro @bin_gtr (And.intro @bin_leq (And.intro @bin_geq (And.intro @bin_eql (And.intro @bin_neq (And.intro @bin_add (And.intro @bin_sub (And.intro @unl_self (And.intro @y20 (@y21)))))))))))))))))))))))))))))))))))))))))) := And.intro @cellsW (And.intro @forkW (And.intro @fieldW (And.intro @fieldF (And.intro @Nat.zero_add (And.intro (@List.append_assoc PBlk) (And.intro (@List.cons_append PBlk) (And.intro (@List.nil_append PBlk) (And.intro @lenadd (And.intro @len1 (And.intro @len2 (And.intro @len3 (And.intro @len4 (And.intro @len5 (And.intro @loadN0 (And.intro @loadNk (And.intro @loadCk (And.intro @loadC0 (And.intro @loadF (And.intro @partC (And.intro @storeN0 (And.intro @storeNk (And.intro @storeCk (And.intro @mapS (And.intro @bS (And.intro @K1_or (And.intro @K1_and (And.intro @K1one (And.intro @notW (And.intro @ifW (And.intro @nth_zero (And.intro @bin_lss (And.intro @bin_gtr (And.intro @bin_leq (And.intro @bin_geq (And.intro @bin_eql (And.intro @bin_neq (And.intro @bin_add (And.intro @bin_sub (And.intro @unl_self (And.intro @y20 (@y21)))))))))))))))))))))))))))))))))))))))))
end Go.Vm
namespace Go.Vm.G
open Go.Am Go.Vm
def t (n : Nat) : Operand := .tmp n
def i (n : Int) : Operand := .const (.int .i64 n)
def z : PSteps := .nil
def o (d : Nat) (x : AOp) (r : PSteps) : PSteps := .op (some d) (.a x) .no r
def O (d : Nat) (x : AOp) (r : PSteps) : PSteps := .op (some d) (.a x) .calm r
def n (x : AOp) (r : PSteps) : PSteps := .op none (.a x) .no r
def m (d s : Nat) (r : PSteps) : PSteps := .op (some d) (.a (.move (.tmp s))) .no r
def b (d : Nat) (op : BinOp) (x y : Operand) (r : PSteps) : PSteps := .op (some d) (.a (.bin op x y)) .no r
def f (d off s : Nat) (r : PSteps) : PSteps := .op (some d) (.a (.fieldAddr off (.tmp s))) .no r
def l (d s : Nat) (r : PSteps) : PSteps := .op (some d) (.a (.load false 1 (.tmp s))) .no r
def q (d c : Nat) (is : Bool) (tmp : List Nat) (body : PSteps) (y : Operand) (r : PSteps) : PSteps := .sc d c is tmp body y r
def F (s : Nat) (sh : FS) (r : PSteps) : PSteps := .fz s sh r
def R (s : PSteps) : PCode := .region false s
def D (s : PSteps) : PCode := .region true s
def S (a b : PCode) : PCode := .seq a b
def g : Nat → Nat → List Nat
  | _, 0 => []
  | a, n + 1 => a :: g (a + 1) n
end Go.Vm.G
/- A base of the machine: slices.Sort of whole numbers; and two bases in one. -/
namespace Go.Vm
open Go.Am
def srt (zs : List Int) : List Int := zs.mergeSort fun x y => decide (x ≤ y)
theorem srt_len (zs : List Int) : (srt zs).length = zs.length := List.length_mergeSort _
def intsA : List Value → Option (List Int)
  | [] => some []
  | .int .i64 z :: r => (intsA r).map (z :: ·)
  | _ => none
def intsP : List PV → Option (List Int)
  | [] => some []
  | .int .i64 z :: r => (intsP r).map (z :: ·)
  | _ => none
theorem intsA_map (zs : List Int) : intsA (zs.map (Value.int .i64)) = some zs := by
  induction zs with
  | nil => rfl
  | cons z zs ih => simp only [List.map_cons, intsA]; rw [ih]; rfl
theorem intsA_eq : ∀ {l : List Value} {zs : List Int}, intsA l = some zs → l = zs.map (Value.int .i64)
  | [], _, h => by cases h; rfl
  | .int .i64 z :: r, _, h => by
    simp only [intsA, Option.map_eq_some_iff] at h
    obtain ⟨ys, h1, rfl⟩ := h
    rw [intsA_eq h1]
    rfl
theorem intsP_map (zs : List Int) : intsP (zs.map (PV.int .i64)) = some zs := by
  induction zs with
  | nil => rfl
  | cons z zs ih => simp only [List.map_cons, intsP]; rw [ih]; rfl
theorem intsP_eq : ∀ {l : List PV} {zs : List Int}, intsP l = some zs → l = zs.map (PV.int .i64)
  | [], _, h => by cases h; rfl
  | .int .i64 z :: r, _, h => by
    simp only [intsP, Option.map_eq_some_iff] at h
    obtain ⟨ys, h1, rfl⟩ := h
    rw [intsP_eq h1]
    rfl
theorem prl_ints {μ : Vm.Ren} {φ : Frz} : ∀ (zs : List Int), PRL μ φ (zs.map (PV.int .i64)) (zs.map (Value.int .i64))
  | [] => .nil
  | z :: zs => .cons (.int _ _) (prl_ints zs)
theorem prl_ints_eq {μ : Vm.Ren} {φ : Frz} : ∀ {zs : List Int} {l : List Value}, PRL μ φ (zs.map (PV.int .i64)) l → l = zs.map (Value.int .i64)
  | [], _, h => by cases h; rfl
  | z :: zs, _, h => by cases h with | cons h1 h2 => cases h1; rw [prl_ints_eq h2]; rfl
theorem vrl_ints {μ : Am.Ren} : ∀ (zs : List Int), VRL μ (zs.map (Value.int .i64)) (zs.map (Value.int .i64))
  | [] => .nil
  | z :: zs => .cons (.int _ _) (vrl_ints zs)
theorem vrl_ints_eq {μ : Am.Ren} : ∀ {zs : List Int} {l : List Value}, VRL μ (zs.map (Value.int .i64)) l → l = zs.map (Value.int .i64)
  | [], _, h => by cases h; rfl
  | z :: zs, _, h => by cases h with | cons h1 h2 => cases h1; rw [vrl_ints_eq h2]; rfl
def sortA (g : FuncId) : Am.Callee := fun f args h => bif Nat.beq f g then (match args with
  | [.slice a n _] => if n = 0 then some (undef, h) else (match a with
    | some ⟨b, off, none⟩ => (readN h b off n).bind fun l => (intsA l).bind fun zs => if n < 4611686018427387904 then (writeN h b off ((srt zs).map (Value.int .i64))).map fun h' => (undef, h') else none
    | _ => none)
  | _ => none) else none
def sortP (g : FuncId) : PCallee := fun f args h => bif Nat.beq f g then (match args with
  | [.nilS] => some (undefP, h)
  | [.emp] => some (undefP, h)
  | [.ref b lo n ver sz] => if n = 0 then some (undefP, h) else (match h[b]? with
    | some (.log rows sz2 t .rw) => if rows.length = ver ∧ sz = 1 ∧ sz2 = 1 ∧ lo = 0 ∧ n = ver ∧ 0 < n then (intsP rows.flatten).map fun zs => (undefP, h.set b (.log ((srt zs).map fun z => [.int .i64 z]) 1 t .rw)) else none
    | _ => none)
  | _ => none) else none
theorem flat_ones (zs : List Int) : (zs.map fun z => [PV.int .i64 z]).flatten = zs.map (PV.int .i64) := by
  induction zs with
  | nil => rfl
  | cons z zs ih => simp [ih]
theorem flat_one_len {rows : List (List PV)} (h : ∀ r ∈ rows, r.length = 1) : rows.flatten.length = rows.length := by
  rw [flat_len (size := 1) h, Nat.mul_one]
theorem sortP_sim (g : FuncId) : CallR (sortP g) (sortA g) := fun f args hp r hp' h μ φ ha args' s hargs => by
  unfold sortP at h
  cases hb : Nat.beq f g with
  | false => rw [hb] at h; cases h
  | true =>
    rw [hb] at h
    simp only [cond_true] at h
    split at h
    · cases h
      cases hargs with | cons h1 h2 =>
      cases h2; cases h1
      refine ⟨undef, ha, μ, φ, ?_, PR.undef, s, Ext.refl _ _ _ _⟩
      unfold sortA; rw [hb]; rfl
    · cases h
      cases hargs with | cons h1 h2 =>
      cases h2; cases h1 with | emp a =>
      refine ⟨undef, ha, μ, φ, ?_, PR.undef, s, Ext.refl _ _ _ _⟩
      unfold sortA; rw [hb]; rfl
    · rename_i b lo n vr sz
      by_cases hn0 : n = 0
      · rw [if_pos hn0] at h
        cases h
        subst hn0
        cases hargs with | cons h1 h2 =>
        cases h2
        cases h1 <;> exact ⟨undef, ha, μ, φ, by unfold sortA; rw [hb]; rfl, PR.undef, s, Ext.refl _ _ _ _⟩
      rw [if_neg hn0] at h
      split at h
      · rename_i rows sz2 t hblk
        split at h
        · rename_i hc
          obtain ⟨c1, rfl, rfl, rfl, c2, c3⟩ := hc
          rw [Option.map_eq_some_iff] at h
          obtain ⟨zs, hz, h⟩ := h
          cases h
          cases hargs with | cons h1 h2 =>
          cases h2
          cases h1 with
          | ref0 => omega
          | @ref _ _ _ _ _ c l hm hn hc =>
            subst c2
            subst c1
            obtain ⟨vs, rw_, k1, k2, k3, k4, k5, k6, k7⟩ := log_at s hblk hm
            obtain rfl := k6 rfl
            have e0 := flat_one_len k4
            have e1 := intsP_eq hz
            have e2 : zs.length = rows.length := by rw [← e0, e1, List.length_map]
            rw [e1] at k3
            have e3 := prl_ints_eq k3
            rw [Nat.mul_one] at e3 k2
            have hlen : (srt zs).length = rows.length := by rw [srt_len, e2]
            have hb1 := log_same (μ := μ) (φ := φ) (l := l) (sz := 1) (t := t) (lo := 0) (src := (srt zs).map fun z => [PV.int .i64 z]) (src' := (srt zs).map (Value.int .i64)) (by omega) (by rw [e1]; exact k3) k4 k5 k7
              (by rw [flat_ones]; exact prl_ints _) (fun r hr => by rw [List.mem_map] at hr; obtain ⟨z, _, rfl⟩ := hr; rfl) (by rw [List.length_map, hlen]; omega)
            obtain ⟨b1, b2, b3⟩ := hb1
            have e4 : (rows.take 0 ++ ((srt zs).map fun z => [PV.int .i64 z]) ++ rows.drop (0 + ((srt zs).map fun z => [PV.int .i64 z]).length)) = (srt zs).map fun z => [PV.int .i64 z] := by
              rw [List.take_zero, List.nil_append, List.length_map, hlen, Nat.zero_add, List.drop_length, List.append_nil]
            rw [e4] at b1 b2
            have hone : ((srt zs).map (Value.int .i64)).all Am.oneC = true := by
              rw [List.all_eq_true]
              intro x hx
              rw [List.mem_map] at hx
              obtain ⟨z, _, rfl⟩ := hx
              rfl
            have hwr := writeN_ok (ha := ha) (l := (srt zs).map (Value.int .i64)) (o := 0 * 1) k1 b3 hone
            obtain ⟨q1, q2⟩ := s.write0 hblk trivial hm (by simp only [ver]; exact b2) b1
            refine ⟨undef, _, μ, φ, ?_, PR.undef, q1, q2⟩
            have hrd : readN ha l.blk 0 rows.length = some (zs.map (Value.int .i64)) := by
              unfold readN
              rw [k1]
              show (if _ then some _ else none) = _
              rw [if_pos (by omega), List.drop_zero, e3]
            have hm2 : mostLen < 4611686018427387904 := by decide
            unfold sortA
            rw [hb]
            simp only [cond_true]
            rw [if_neg (by omega)]
            simp only [Nat.zero_mul] at hwr ⊢
            rw [hrd, Option.bind_some, intsA_map, Option.bind_some, if_pos (by omega), hwr]
            rfl
        · cases h
      · cases h
    · cases h
theorem wide_of_list {P : Program} {L : List FuncId} {k n : Nat} {g : FuncId} {args : Array Value} {w : World} {R : Ending → World → Prop} {F : Fence} (hF : WideF F)
    (H : ∀ D, CallsIn (Fence.list L (some D)) k P g args w R) (hr : ∀ e w', R e w' → ∃ v, e = .returned v) : CallsIn F n P g args w R := by
  refine ⟨hF.1 g, fun cs _ => ?_⟩
  obtain ⟨e, w', fr, r, s, x⟩ := (H (cs.length + 1 + k)).2 cs (fun d hd => by cases hd; exact Nat.le_refl _)
  obtain ⟨v, rfl⟩ := hr e w' r
  exact ⟨_, w', fr, r, StepsIn.mono (fun m h g hg => let ⟨a, b, c, d⟩ := h g hg; ⟨fun _ => a rfl, .inl (hF.1 _), fun f _ => hF.1 f, fun d' hd' => by rw [hF.2] at hd'; cases hd'⟩) s, x⟩
theorem sim_more {P : Program} {μ : Am.Ren} {h : AHeap} {w1 w2 : World} (s : Sim P μ h w1) (hs : w1.heap.size ≤ w2.heap.size) (hh : ∀ k, k < w1.heap.size → w2.heap[k]? = w1.heap[k]?) : Sim P μ h w2 :=
  ⟨s.dom, fun b l blk e hb hn => by
    obtain ⟨o, ho, hbr⟩ := s.rel b l blk e hb hn
    exact ⟨o, by rw [hh _ (s.lt b l e)]; exact ho, hbr⟩, s.inj, fun b l e => Nat.lt_of_lt_of_le (s.lt b l e) hs⟩
theorem ext_more {P : Program} {μ μ1 : Am.Ren} {h h1 : AHeap} {w w1 w2 : World} (s : Sim P μ h w) (x : Am.Ext μ h w μ1 h1 w1) (hs : w1.heap.size ≤ w2.heap.size) (hh : ∀ k, k < w1.heap.size → w2.heap[k]? = w1.heap[k]?) (ho : Out w1 w2) : Am.Ext μ h w μ1 h1 w2 :=
  ⟨⟨x.le, x.old, Nat.le_trans x.size hs, fun c hc hn => (hh c (Nat.lt_of_lt_of_le hc x.size)).trans (x.frame c hc hn), fun b l e hr => (hh _ (Nat.lt_of_lt_of_le (s.lt b l e) x.size)).trans (x.ro b l e hr), x.roStay, x.new, x.dead, x.out.trans ho⟩, x.tot⟩
theorem putCells_eq (cs : Array Value) (off : Nat) (zs : List Int) (h : off + zs.length ≤ cs.size) : Sort.putCells (Value.int .i64) off zs.toArray cs = (cs.toList.take off ++ zs.map (Value.int .i64) ++ cs.toList.drop (off + (zs.map (Value.int .i64)).length)).toArray := by
  apply Array.ext'
  apply List.ext_getElem?
  intro j
  rw [Array.getElem?_toList]
  simp only [Sort.putCells, Array.getElem?_mapIdx, List.size_toArray, List.length_map]
  by_cases h1 : j < off
  · rw [List.append_assoc, List.getElem?_append_left (by simp; omega), List.getElem?_take_of_lt h1, Array.getElem?_toList]
    rw [Array.getElem?_eq_getElem (by omega)]
    simp [show ¬ off ≤ j by omega]
  · by_cases h2 : j < off + zs.length
    · rw [List.getElem?_append_left (by simp; omega), List.getElem?_append_right (by simp; omega)]
      rw [Array.getElem?_eq_getElem (by omega)]
      have h3 : min off cs.size = off := by omega
      have h4 : j - off < zs.length := by omega
      simp [show off ≤ j by omega, h2, h3, h4]
    · rw [List.getElem?_append_right (by simp; omega)]
      by_cases h5 : j < cs.size
      · rw [Array.getElem?_eq_getElem h5]
        have h3 : min off cs.size = off := by omega
        simp only [List.length_append, List.length_take, List.length_map, Array.length_toList, h3, List.getElem?_drop, Option.map_some, h2, and_false, if_false]
        rw [show off + zs.length + (j - (off + zs.length)) = j by omega, Array.getElem?_toList, Array.getElem?_eq_getElem h5]
      · rw [Array.getElem?_eq_none (by omega), List.getElem?_eq_none (by simp; omega)]
        rfl
theorem sortA_ok {P : Program} {g : FuncId} {L : List FuncId} (he : ∀ (xs : Array Value) (w : World), (callFunc g xs).run P w = .ok (.enter g xs) w)
    (hc : ∀ (D blk off cap : Nat) (zs : List Int) (w : World), Sort.Holds (Value.int .i64) w blk off zs.toArray → blk < w.heap.size → zs.length < 4611686018427387904 →
      CallsIn (Fence.list L (some D)) 66 P g #[.slice (some ⟨blk, off, none⟩) zs.length cap] w fun e w' => e = .returned (.tuple #[]) ∧ ∃ n os, w' = Sort.grow (Sort.putRow (Value.int .i64) (Sort.ahead w n) blk off (zs.mergeSort fun x y => decide (x ≤ y)).toArray) os)
    (h0 : ∀ (D : Nat) (p : Option Addr) (cap : Nat) (w : World), CallsIn (Fence.list L (some D)) 2 P g #[.slice p 0 cap] w fun e w' => e = .returned (.tuple #[]) ∧ w' = w)
    (hy : Nat.beq yieldId g = false) : CallOk P (sortA g) := by
  refine ⟨fun f hf args h r h1 hk => ?_, fun b args h r h1 hk => ?_⟩
  · unfold sortA at hk
    cases hb : Nat.beq f g with
    | false => rw [hb] at hk; cases hk
    | true =>
      have := Nat.eq_of_beq_eq_true hb
      subst this
      rw [hb] at hk
      simp only [cond_true] at hk
      refine ⟨he, fun μ w args' s hargs F n hF => ?_⟩
      split at hk
      · rename_i a m c
        by_cases hm : m = 0
        · subst hm
          rw [if_pos rfl] at hk
          cases hk
          cases hargs with
          | cons g1 g2 =>
            cases g2
            have fin : ∀ (p : Option Addr) (cap : Nat), CallsIn F n P f #[.slice p 0 cap] w fun e w' => ∃ v μ1, e = .returned v ∧ VR μ1 undef v ∧ Sim P μ1 h w' ∧ Am.Ext μ h w μ1 h w' := fun p cap => by
              refine CallsIn.mono (wide_of_list hF (fun D => h0 D p cap w) (fun e w' q => ⟨_, q.1⟩)) fun e w' q => ?_
              obtain ⟨rfl, rfl⟩ := q
              exact ⟨_, μ, rfl, VR.undef, s, Am.Ext.refl μ _ _ s.dom⟩
            cases g1 <;> exact fin _ _
        · rw [if_neg hm] at hk
          split at hk
          · rename_i b off
            rw [Option.bind_eq_some_iff] at hk
            obtain ⟨l, hrd, hk⟩ := hk
            rw [Option.bind_eq_some_iff] at hk
            obtain ⟨zs, hz, hk⟩ := hk
            split at hk
            · rename_i hlt
              rw [Option.map_eq_some_iff] at hk
              obtain ⟨h', hw, hk⟩ := hk
              cases hk
              cases intsA_eq hz
              cases hargs with
              | cons g1 g2 =>
                cases g2
                have key : ∀ (l : Am.Loc) (cap : Nat), μ b = some l → CallsIn F n P f #[.slice (some ⟨l.blk, off, none⟩) m cap] w fun e w' => ∃ v μ1, e = .returned v ∧ VR μ1 undef v ∧ Sim P μ1 h1 w' ∧ Am.Ext μ h w μ1 h1 w' := fun l cap e => by
                  obtain ⟨c, K⟩ := l
                  have hlen : zs.length = m := by have := (readN_sim s e hrd).1; simpa using this
                  obtain ⟨w1, hrun, s1, x1⟩ := writeN_sound (P := P) s e (vrl_ints (srt zs)) hw
                  unfold readN at hrd
                  split at hrd
                  · rename_i vs t rw_ hblk
                    unfold writeN at hw
                    rw [hblk] at hw
                    cases rw_ with
                    | false => cases hw
                    | true =>
                      simp only at hw
                      split at hw
                      · rename_i hfit
                        split at hrd
                        · rename_i hle
                          obtain ⟨o, ho, cs, fr, rfl, hl, hvs, hfr, hK⟩ := s.rel b _ _ e hblk (by simp)
                          replace ho : w.heap[c]? = some (.cells cs t fr) := ho
                          obtain rfl := hfr rfl
                          have hsl : (srt zs).length = m := by rw [srt_len, hlen]
                          have hrun2 := run_storeCells_at (P := P) c off t ((srt zs).map (Value.int .i64)) 0 cs w ho (by rw [List.length_map, hsl]; omega) ((vrl_ints (μ := μ) (srt zs)).oneCell hfit.2)
                          simp only [Nat.add_zero] at hrun2
                          rw [hrun] at hrun2
                          cases hrun2
                          replace hrd := Option.some.inj hrd
                          have hvl : ((vs.drop off).take m) = zs.map (Value.int .i64) := hrd
                          have hcs : ((cs.toList.take vs.length).drop off).take m = zs.map (Value.int .i64) := by
                            have q := (hvs.drop off).take m
                            rw [hvl] at q
                            exact vrl_ints_eq q
                          have hcells : ∀ j, j < zs.length → cs[off + j]? = some (.int .i64 (zs.getD j 0)) := fun j hj => by
                            have q0 : (((cs.toList.take vs.length).drop off).take m)[j]? = some (.int .i64 (zs.getD j 0)) := by
                              rw [hcs]
                              simp [List.getD, hj]
                            rw [List.getElem?_take_of_lt (by omega), List.getElem?_drop, List.getElem?_take_of_lt (by omega), Array.getElem?_toList] at q0
                            exact q0
                          have hH : Sort.Holds (Value.int .i64) w c off zs.toArray := fun j hj => by
                            have hj' : j < zs.length := by simpa using hj
                            refine ⟨?_, by simp [World.frozen?, ho]⟩
                            simp only [World.cell?, ho, Option.isSome_none, Bool.false_eq_true, if_false]
                            rw [hcells j hj']
                            simp [List.getD, hj']
                          show CallsIn F n P f #[.slice (some ⟨c, off, none⟩) m cap] w _
                          rw [← hlen]
                          refine CallsIn.mono (wide_of_list hF (fun D => hc D c off cap zs w hH (s.lt b _ e) (by omega)) (fun e w' q => ⟨_, q.1⟩)) fun e w' q => ?_
                          obtain ⟨rfl, k, os, rfl⟩ := q
                          have hsz : (w.setRow c (cs.toList.take off ++ (srt zs).map (Value.int .i64) ++ cs.toList.drop (off + ((srt zs).map (Value.int .i64)).length)).toArray).heap.size = w.heap.size := setRow_size _ _ _
                          have hmore : ∀ i, i < w.heap.size → (Sort.grow (Sort.putRow (Value.int .i64) (Sort.ahead w k) c off (zs.mergeSort fun x y => decide (x ≤ y)).toArray) os).heap[i]? =
                              (w.setRow c (cs.toList.take off ++ (srt zs).map (Value.int .i64) ++ cs.toList.drop (off + ((srt zs).map (Value.int .i64)).length)).toArray).heap[i]? := fun i hi => by
                            rw [Sort.heap_grow_old _ _ (by simpa [Sort.putRow, Sort.mapBlock, Sort.ahead] using hi)]
                            by_cases hic : c = i
                            · subst hic
                              rw [setRow_heap_self ho, ← putCells_eq cs off (srt zs) (by omega)]
                              simp [Sort.putRow, Sort.mapBlock, Sort.ahead, Array.getElem?_modify, ho, Sort.onCells, srt]
                            · rw [setRow_heap_ne hic]
                              simp [Sort.putRow, Sort.mapBlock, Sort.ahead, Array.getElem?_modify, hic]
                          refine ⟨_, μ, rfl, VR.undef, sim_more s1 ?_ ?_, ext_more s x1 ?_ ?_ ⟨rfl, rfl, rfl⟩⟩
                          · rw [hsz]; simp [Sort.grow, Sort.putRow, Sort.mapBlock, Sort.ahead]
                          · rw [hsz]; exact hmore
                          · rw [hsz]; simp [Sort.grow, Sort.putRow, Sort.mapBlock, Sort.ahead]
                          · rw [hsz]; exact hmore
                        · cases hrd
                      · cases hw
                  · cases hrd
                cases g1 with
                | sl e _ => exact key _ _ e
                | sl0 => exact absurd rfl hm
                | sl00 => exact absurd rfl hm
            · cases hk
          · cases hk
      · cases hk
  · unfold sortA at hk
    rw [hy] at hk
    cases hk
def orA (Γ1 Γ2 : Am.Callee) : Am.Callee := fun f args h => (Γ1 f args h).or (Γ2 f args h)
def orP (Γ1 Γ2 : PCallee) : PCallee := fun f args h => (Γ1 f args h).or (Γ2 f args h)
theorem orA_ok {P : Program} {Γ1 Γ2 : Am.Callee} (h1 : CallOk P Γ1) (h2 : CallOk P Γ2) : CallOk P (orA Γ1 Γ2) := by
  refine ⟨fun f hf args h r h1' hk => ?_, fun b args h r h1' hk => ?_⟩
  · cases he : Γ1 f args h with
    | some p => simp only [orA, he, Option.some_or] at hk; cases hk; exact h1.fn f hf args h _ _ he
    | none => simp only [orA, he, Option.none_or] at hk; exact h2.fn f hf args h _ _ hk
  · cases he : Γ1 yieldId (ptrTo b 0 :: args) h with
    | some p => simp only [orA, he, Option.some_or] at hk; cases hk; exact h1.yield b args h _ _ he
    | none => simp only [orA, he, Option.none_or] at hk; exact h2.yield b args h _ _ hk
theorem orP_sim {Γ1 Γ2 : PCallee} {Γa : Am.Callee} (h1 : CallR Γ1 Γa) (h2 : CallR Γ2 Γa) : CallR (orP Γ1 Γ2) Γa := fun f args hp r hp' h => by
  cases he : Γ1 f args hp with
  | some p => simp only [orP, he, Option.some_or] at h; cases h; exact h1 f args hp _ _ he
  | none => simp only [orP, he, Option.none_or] at h; exact h2 f args hp _ _ h
theorem sim_left {Γ1 : PCallee} {Γa Γa' : Am.Callee} (h1 : CallR Γ1 Γa) : CallR Γ1 (orA Γa Γa') := fun f args hp r hp' h μ φ ha args' s hargs => by
  obtain ⟨r', ha', μ', φ', k1, k2⟩ := h1 f args hp r hp' h μ φ ha args' s hargs
  exact ⟨r', ha', μ', φ', by simp only [orA, k1, Option.some_or], k2⟩
theorem sim_right {Γ2 : PCallee} {Γa Γa' : Am.Callee} {g : FuncId} (hg : ∀ f args h r, Γ2 f args h = some r → f = g) (hn : ∀ args h, Γa g args h = none) (h2 : CallR Γ2 Γa') : CallR Γ2 (orA Γa Γa') := fun f args hp r hp' h μ φ ha args' s hargs => by
  obtain ⟨r', ha', μ', φ', k1, k2⟩ := h2 f args hp r hp' h μ φ ha args' s hargs
  obtain rfl := hg _ _ _ _ h
  exact ⟨r', ha', μ', φ', by simp only [orA, hn, Option.none_or]; exact k1, k2⟩
theorem sim_run {Γ : PCallee} {Γa : Am.Callee} {T : ATable} (hT : ∀ f args h r, Γ f args h = some r → Nat.beq f yieldId = false ∧ T.get f = none) (h1 : CallR Γ Γa) : CallR Γ (run Γa T) := fun f args hp r hp' h μ φ ha args' s hargs => by
  obtain ⟨r', ha', μ', φ', k1, k2⟩ := h1 f args hp r hp' h μ φ ha args' s hargs
  obtain ⟨q1, q2⟩ := hT _ _ _ _ h
  exact ⟨r', ha', μ', φ', run_base q1 q2 k1, k2⟩
theorem sortP_at {g : FuncId} {f : FuncId} {args : List PV} {h : PHeap} {r : PV × PHeap} (hr : sortP g f args h = some r) : f = g := by
  unfold sortP at hr
  cases hb : Nat.beq f g with
  | false => rw [hb] at hr; cases hr
  | true => exact Nat.eq_of_beq_eq_true hb
theorem idxP_at {g : FuncId} {f : FuncId} {args : List PV} {h : PHeap} {r : PV × PHeap} (hr : idxP g f args h = some r) : f = g := by
  unfold idxP at hr
  cases hb : Nat.beq f g with
  | false => rw [hb] at hr; cases hr
  | true => exact Nat.eq_of_beq_eq_true hb
theorem idxA_none {g f : FuncId} (hb : Nat.beq f g = false) (args : List Value) (h : AHeap) : idxA g f args h = none := by
  unfold idxA; rw [hb]; rfl
theorem idxP_simA (g : FuncId) : CallR (idxP g) (idxA g) := fun f args hp r hp' h μ φ ha args' s hargs => by
  unfold idxP at h
  cases hb : Nat.beq f g with
  | false => rw [hb] at h; cases h
  | true =>
    rw [hb] at h
    simp only [cond_true] at h
    split at h
    · cases h
      cases hargs with
      | cons h1 h2 =>
        cases h2 with
        | cons h3 h4 =>
          cases h4; cases h1; cases h3
          refine ⟨_, ha, μ, φ, ?_, .int _ _, s, Ext.refl _ _ _ _⟩
          unfold idxA
          rw [hb]
          rfl
    · cases h
theorem bases_sim {i k : FuncId} {T : ATable} (hi : Nat.beq i yieldId = false) (hk : Nat.beq k yieldId = false) (hik : Nat.beq k i = false) (h1 : T.get i = none) (h2 : T.get k = none) : CallR (orP (idxP i) (sortP k)) (run (orA (idxA i) (sortA k)) T) :=
  sim_run (fun f args h r hr => by
    unfold orP at hr
    cases he : idxP i f args h with
    | some p => obtain rfl := idxP_at he; exact ⟨hi, h1⟩
    | none => rw [he, Option.none_or] at hr; obtain rfl := sortP_at hr; exact ⟨hk, h2⟩)
  (orP_sim (sim_left (idxP_simA i)) (sim_right (fun _ _ _ _ hr => sortP_at hr) (fun args h => idxA_none hik args h) (sortP_sim k)))
end Go.Vm

