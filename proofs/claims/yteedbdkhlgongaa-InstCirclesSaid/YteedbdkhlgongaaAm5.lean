/- Pure operations: what is computed without memory. -/
import Derived.Test.YteedbdkhlgongaaAm4
namespace Go.Am
variable {P : Program} {μ : Ren} {w : World}

theorem isNilf_sound {neg : Bool} {op : BinOp} {x x' v z : Value} {d : TypeDesc} {t : TypeId} {X Y : Operand} (hx : VR μ x x') (h : isNilf neg x = some v)
    (ht : P.underlying t = some d) (hz : nilOf d = some z) (hk : kindOk d x = true) (ho : op = if neg then .neq else .eql) :
    (Y = .const z → (do eqGuard op t X Y x' z; binOp op t x' z : Sem Value).run P w = .ok v w) ∧
    (X = .const z → (do eqGuard op t X Y z x'; binOp op t z x' : Sem Value).run P w = .ok v w) ∧ VR μ v v := by
  have hv := isNilf_eq h
  subst hv
  have hk' : kindOk d x' = true := by cases hx <;> simp_all [kindOk, Am.junk] <;> (cases d <;> simp_all)
  have hn : isNilB x' = isNilB x := by cases hx <;> simp_all [isNilB, Am.junk, isNilf]
  have heq := isNil_equal (P := P) (w := w) ht hz hk'
  rw [hn] at heq
  have hg : ∀ a b : Value, (X = .const z ∨ Y = .const z) → (a = z ∨ b = z) → (eqGuard op t X Y a b).run P w = .ok () w := by
    intro a b hc hab
    have hnagg : ∀ cs, z ≠ .agg cs := by intro cs e; subst e; cases d <;> simp [nilOf] at hz
    unfold eqGuard
    subst ho
    cases neg <;>
    · simp only [Bool.false_eq_true, if_false, if_true]
      cases a <;> cases b <;> first
        | rfl
        | (rcases hc with rfl | rfl <;> first | rfl | (cases X <;> rfl))
        | (rcases hab with e | e <;> exact absurd e.symm (hnagg _))
  refine ⟨fun hY => ?_, fun hX => ?_, .bool _⟩
  · simp only [Sem.run_bind, hg x' z (.inr hY) (.inr rfl), Result.andThen_ok]
    subst ho
    cases d <;> simp only [nilOf, Option.some.injEq, reduceCtorEq] at hz <;> subst hz <;> cases x' <;> simp only [kindOk, Bool.false_eq_true] at hk' <;> cases neg <;>
      simp [binOp, heq.1, Bool.xor_false, Bool.xor_true]
  · simp only [Sem.run_bind, hg z x' (.inl hX) (.inl rfl), Result.andThen_ok]
    subst ho
    cases d <;> simp only [nilOf, Option.some.injEq, reduceCtorEq] at hz <;> subst hz <;> cases x' <;> simp only [kindOk, Bool.false_eq_true] at hk' <;> cases neg <;>
      simp [binOp, heq.2, Bool.xor_false, Bool.xor_true]

theorem unf_sound {op : UnOp} {x x' v : Value} (hx : VR μ x x') (h : unf op x = some v) : (Op.unary op x').run P w = .ok v w ∧ VR μ v v := by
  unfold unf at h
  split at h
  · cases hx; cases h; exact ⟨by simp [Op.unary, Op.intArith], .int _ _⟩
  · cases hx; cases h; exact ⟨by simp [Op.unary], .bool _⟩
  · cases hx; cases h; exact ⟨by simp [Op.unary, Op.intBits], .int _ _⟩
  · cases h
theorem convf_sound {k : IntKind} {x x' v : Value} {s d : TypeId} {ds : TypeDesc} (hx : VR μ x x') (h : convf k x = some v) (hs : P.underlying s = some ds) (hd : P.underlying d = some (.int k)) :
    (convert s d x').run P w = .ok v w ∧ VR μ v v := by
  unfold convf at h
  split at h
  · cases hx
    cases h
    refine ⟨?_, .int _ _⟩
    simp only [convert, Sem.run_bind, run_underlying' hs, run_underlying' hd, Result.andThen_ok]
    cases ds <;> rfl
  · cases h
theorem strIdf_sound {x x' v : Value} {s d : TypeId} (hx : VR μ x x') (h : strIdf x = some v) (hs : P.underlying s = some .string) (hd : P.underlying d = some .string) :
    (convert s d x').run P w = .ok v w ∧ VR μ v v := by
  unfold strIdf at h
  split at h
  · cases hx
    cases h
    refine ⟨?_, .string _⟩
    simp only [convert, Sem.run_bind, run_underlying' hs, run_underlying' hd, Result.andThen_ok]
    rfl
  · cases h
theorem pickf_sound {c c' x x' y y' v : Value} (hc : VR μ c c') (hx : VR μ x x') (hy : VR μ y y') (h : pickf c x y = some v) :
    ∃ b, c' = .bool b ∧ VR μ v (if b then x' else y') := by
  unfold pickf at h
  split at h
  · rename_i b
    cases hc
    cases h
    refine ⟨b, rfl, ?_⟩
    cases b <;> simpa
  · cases h
theorem lenf_sound {str : Bool} {x x' v : Value} {t ty : TypeId} (hx : VR μ x x') (h : lenf str x = some v) (ht : if str = true then P.underlying t = some .string else ∃ e, P.underlying t = some (.slice e)) :
    (Builtin.len_ #[t] ty #[x']).run P w = .ok v w ∧ VR μ v v := by
  unfold lenf at h
  split at h
  · cases hx
    cases h
    exact ⟨by simp [Builtin.len_, run_underlying' ht, goInt], .int _ _⟩
  · obtain ⟨e, ht⟩ := ht
    cases h
    cases hx <;> exact ⟨by simp [Builtin.len_, run_underlying' ht, goInt], .int _ _⟩
  · cases h
theorem extractf_sound {x x' v : Value} {i : Nat} (hx : VR μ x x') (h : extractf x i = some v) : ∃ v', (Instr.extract x' i).run P w = .ok v' w ∧ VR μ v v' := by
  unfold extractf at h
  split at h
  · rename_i vs
    cases hx with
    | @tuple _ ys hl =>
      have h' : vs.toList[i]? = some v := by simpa using h
      obtain ⟨y, hy, hr⟩ := hl.get h'
      refine ⟨y, ?_, hr⟩
      have hy' : ys[i]? = some y := by simpa using hy
      simp [Instr.extract, hy']
  · cases h
theorem partf_sound {agg : Bool} {off size : Nat} {xs : List Value} {ys : Array Value} {v : Value} (hl : VRL μ xs ys.toList) (h : partf agg off size xs = some v)
    {t : TypeId} {d : TypeDesc} {i : TypeInfo} (ht : P.underlying t = some d) (hi : P.info? t = some i) (ha : isAggD d = agg) (hn : i.size = size) :
    ∃ v', (part t ys off).run P w = .ok v' w ∧ VR μ v v' := by
  unfold partf at h
  simp only [part, Sem.run_bind, run_isAgg' ht, ha, Result.andThen_ok]
  cases agg with
  | true =>
    simp only [] at h
    split at h
    · rename_i hle
      cases h
      refine ⟨.agg (ys.extract off (off + size)), by simp [run_sizeOf' hi, hn], .agg ?_⟩
      have h1 := (hl.drop off).take size
      have h2 : (ys.extract off (off + size)).toList = (ys.toList.drop off).take size := by
        rw [Array.toList_extract]
        simp [List.extract]
      rw [h2]
      exact h1
    · cases h
  | false =>
    simp only [] at h
    obtain ⟨y, hy, hr⟩ := hl.get h
    refine ⟨y, ?_, hr⟩
    have hy' : ys[off]? = some y := by simpa using hy
    simp [hy']
theorem fieldf_sound {agg : Bool} {off size f : Nat} {x x' v : Value} (hx : VR μ x x') (h : fieldf agg off size x = some v)
    {t : TypeId} {fs : Array Field} {fd : Field} {d : TypeDesc} {i : TypeInfo} (htt : P.underlying t = some (.struct fs)) (hf : fs[f]? = some fd) (ho : fd.offset = off)
    (ht : P.underlying fd.type = some d) (hi : P.info? fd.type = some i) (ha : isAggD d = agg) (hn : i.size = size) :
    ∃ v', (Instr.field t x' f).run P w = .ok v' w ∧ VR μ v v' := by
  unfold fieldf at h
  split at h
  · cases hx with
    | agg hl =>
      obtain ⟨v', hr, hv⟩ := partf_sound (P := P) (w := w) hl h ht hi ha hn
      refine ⟨v', ?_, hv⟩
      simp [Instr.field, run_underlying' htt, hf, asAgg, ho, hr]
  · cases h
theorem indexArrf_sound {n : Nat} {agg : Bool} {size : Nat} {x x' i i' v : Value} (hx : VR μ x x') (hi : VR μ i i') (h : indexArrf n agg size x i = some v)
    {t e : TypeId} {d : TypeDesc} {inf : TypeInfo} (htt : P.underlying t = some (.array n e)) (ht : P.underlying e = some d) (hin : P.info? e = some inf) (ha : isAggD d = agg) (hn : inf.size = size) :
    ∃ v', (Instr.index t x' i').run P w = .ok v' w ∧ VR μ v v' := by
  unfold indexArrf at h
  split at h
  · rename_i cs k j
    cases hi
    cases hx with
    | agg hl =>
      split at h
      · rename_i hj
        obtain ⟨v', hr, hv⟩ := partf_sound (P := P) (w := w) hl h ht hin ha hn
        refine ⟨v', ?_, hv⟩
        simp only [Instr.index, asIntOf, Sem.run_bind, Sem.run_pure, Result.andThen_ok, run_underlying' htt]
        simp [hj, run_sizeOf' hin, hn, hr]
      · cases h
  · cases h
theorem indexStrf_sound {x x' i i' v : Value} (hx : VR μ x x') (hi : VR μ i i') (h : indexStrf x i = some v) {t : TypeId} (htt : P.underlying t = some .string) :
    (Instr.index t x' i').run P w = .ok v w ∧ VR μ v v := by
  unfold indexStrf at h
  split at h
  · rename_i s k j
    cases hi
    cases hx
    split at h
    · rename_i hj
      simp only [Option.map_eq_some_iff] at h
      obtain ⟨b, hb, rfl⟩ := h
      refine ⟨?_, .int _ _⟩
      have hb' : s[j.toNat]? = some b := by
        rw [← hb]
        obtain ⟨h1, h2⟩ := Array.getElem?_eq_some_iff.1 hb
        have h3 : j.toNat < s.size := h1
        rw [getElem?_pos s j.toNat h3, hb]
        exact congrArg some h2
      simp only [Instr.index, asIntOf, Sem.run_bind, Sem.run_pure, Result.andThen_ok, run_underlying' htt]
      simp [hj, hb']
    · cases h
  · cases h
theorem fieldAddrf_sound {off f : Nat} {x x' v : Value} (hx : VR μ x x') (h : fieldAddrf off x = some v) {t : TypeId} {fs : Array Field} {fd : Field} {i : TypeInfo}
    (htt : P.underlying t = some (.struct fs)) (hf : fs[f]? = some fd) (ho : fd.offset = off) (hi : P.info? fd.type = some i) (hn : i.size ≠ 0) :
    ∃ v', (Instr.fieldAt t x' f).run P w = .ok v' w ∧ VR μ v v' := by
  unfold fieldAddrf at h
  split at h
  · cases hx with
    | @ptr b c K o e =>
      cases h
      refine ⟨.pointer (some ⟨c, o + off, none⟩), ?_, .ptr e⟩
      simp [Instr.fieldAt, run_underlying' htt, hf, Instr.sureAddr, fieldPlace, run_sizeOf' hi, hn, addr_add, ho]
  · cases h
theorem indexAddrf_sound {size : Nat} {x x' i i' v : Value} (hx : VR μ x x') (hi : VR μ i i') (h : indexAddrf size x i = some v) {t e : TypeId} {inf : TypeInfo}
    (htt : P.underlying t = some (.slice e)) (hin : P.info? e = some inf) (hn : inf.size = size) :
    ∃ v', (Instr.indexAt t x' i').run P w = .ok v' w ∧ VR μ v v' := by
  unfold indexAddrf at h
  split at h
  · rename_i a n c k j
    cases hi
    split at h
    · rename_i hj
      cases h
      cases hx with
      | @sl b c' K o _ _ _ e =>
        refine ⟨.pointer (some ⟨c', o + j.toNat * size, none⟩), ?_, .ptr e⟩
        simp only [Instr.indexAt, asIntOf, Sem.run_bind, Sem.run_pure, Result.andThen_ok, run_underlying' htt]
        simp [hj, run_sizeOf' hin, hn, addr_add]
      | sl0 => simp at hj; omega
      | sl00 => simp at hj; omega
    · cases h
  · cases h
theorem indexAddrArrf_sound {n size : Nat} {x x' i i' v : Value} (hx : VR μ x x') (hi : VR μ i i') (h : indexAddrArrf n size x i = some v) {t e : TypeId} {inf : TypeInfo}
    (htt : P.underlying t = some (.array n e)) (hin : P.info? e = some inf) (hn : inf.size = size) :
    ∃ v', (Instr.indexAt t x' i').run P w = .ok v' w ∧ VR μ v v' := by
  unfold indexAddrArrf at h
  split at h
  · rename_i a k j
    cases hi
    split at h
    · rename_i hj
      cases h
      cases hx with
      | @ptr b c' K o e =>
        refine ⟨.pointer (some ⟨c', o + j.toNat * size, none⟩), ?_, .ptr e⟩
        simp only [Instr.indexAt, asIntOf, Sem.run_bind, Sem.run_pure, Result.andThen_ok, run_underlying' htt, Instr.sureAddr]
        simp [hj, run_sizeOf' hin, hn, addr_add]
    · cases h
  · cases h
theorem boundf_sound {d most : Nat} {x x' : Option Value} {m most' : Nat} {code : BoundsCode} (hx : ∀ v, x = some v → ∃ v', x' = some v' ∧ VR μ v v') (hx0 : x = none → x' = none) (h : boundf d x most = some m) (hm : most ≤ most') :
    (x = none → m = d) ∧ (∀ v', x' = some v' → (Instr.sliceBound v' most' code).run P w = .ok m w ∧ m ≤ most) := by
  unfold boundf at h
  split at h
  · cases h
    exact ⟨fun _ => rfl, fun v' e => by rw [hx0 rfl] at e; cases e⟩
  · rename_i k j
    obtain ⟨v', e, hv⟩ := hx _ rfl
    cases hv
    split at h
    · rename_i hj
      cases h
      refine ⟨fun e => (by cases e), fun v'' e' => ?_⟩
      rw [e] at e'
      cases e'
      refine ⟨?_, by omega⟩
      simp only [Instr.sliceBound, asIntOf, Sem.run_bind, Sem.run_pure, Result.andThen_ok]
      rw [if_pos (by omega)]
      rfl
    · cases h
  · cases h
theorem foldf_sound {f : Value → Value → Option Value} {g : Value → Value → Sem Value} (hfg : ∀ x y x' y' v, VR μ x x' → VR μ y y' → f x y = some v → (g x' y').run P w = .ok v w ∧ VR μ v v) :
    ∀ {xs ys : List Value} {x x' v : Value}, VR μ x x' → VRL μ xs ys → foldf f x xs = some v → ∃ v', (ys.foldlM g x').run P w = .ok v' w ∧ VR μ v v'
  | [], _, x, x', v, hx, hl, h => by
    cases hl
    cases h
    exact ⟨x', rfl, hx⟩
  | y :: xs, _, x, x', v, hx, hl, h => by
    cases hl with
    | @cons _ y' _ ys hy hs =>
      simp only [foldf, Option.bind_eq_some_iff] at h
      obtain ⟨z, hz, h⟩ := h
      obtain ⟨h1, h2⟩ := hfg _ _ _ _ _ hx hy hz
      obtain ⟨v', h3, h4⟩ := foldf_sound hfg h2 hs h
      exact ⟨v', by simp [List.foldlM_cons, h1, h3], h4⟩
theorem max2f_sound {x y x' y' v : Value} (hx : VR μ x x') (hy : VR μ y y') (h : max2f x y = some v) : (Builtin.max2 x' y').run P w = .ok v w ∧ VR μ v v := by
  unfold max2f at h
  split at h
  · cases hx; cases hy
    split at h
    · cases h; exact ⟨rfl, .int _ _⟩
    · cases h
  · cases h
theorem min2f_sound {x y x' y' v : Value} (hx : VR μ x x') (hy : VR μ y y') (h : min2f x y = some v) : (Builtin.min2 x' y').run P w = .ok v w ∧ VR μ v v := by
  unfold min2f at h
  split at h
  · cases hx; cases hy
    split at h
    · cases h; exact ⟨rfl, .int _ _⟩
    · cases h
  · cases h

end Go.Am
