/- PlayMute: what the program's Mute answers. -/
import Derived.Test.YtiknjkndpkadhaaPmLib
set_option linter.unusedSimpArgs false
set_option linter.unusedVariables false
namespace Go.Am.X

/-- A tick without the voices of some channels. -/
def muteT (ch : List Int) (t : DTick) : DTick := { t with Voices := t.Voices.filter fun v => !ofCh ch v }
theorem DVoiceTick.make (S : Nat → Prop) (h : AHeap) (t : DVoiceTick) : RL S h t.vals t.dat := DVoiceTick.mk_cells
theorem c10 {N : Nat} {S : Nat → Prop} {h : AHeap} {x x1 : Value} {l : List DVoiceTick} {ch : List Int} {bc : Nat} {Sc : Nat → Prop} (o : Own N 35 13 S h x (l.map DVoiceTick.dat)) (hm : l.length ≤ mostLen)
    (hb : readC h bc 0 = some x1) (r : R Sc h x1 (.sl (ch.map iD))) (hS : ∀ b, Sc b → b < h.length ∧ ¬ ownB x b) (hbc : ¬ ownB x bc) (hmc : ch.length ≤ mostLen) :
    ∃ y h', Γ0 10 [x, .func (.func 12) #[] #[ptrTo bc 0]] h = some (y, h') ∧ (∀ S' : Nat → Prop, (∀ b, ownB x b → S' b) → R S' h' y (.sl ((l.filter (fun a => !ofCh ch a)).map DVoiceTick.dat))) ∧ h.length ≤ h'.length ∧ (∀ b, b < h.length → ¬ ownB x b → h'[b]? = h[b]?) := by
  have hbl : bc < h.length := by
    unfold readC at hb
    split at hb
    · rename_i e; exact (List.getElem?_eq_some_iff.1 e).1
    · cases hb
  have ht : Tells Γ0 (.func (.func 12) #[] #[ptrTo bc 0]) (fun a => .agg (DVoiceTick.vals a).toArray) (ofCh ch) l (fun b => Sc b ∨ b = bc) h := by
    intro h2 hl2 hk a ha
    rw [callVf_func]
    refine c12 (x := x1) (S := Sc) ?_ (r.mono fun b hb => ⟨hb, hk b (.inl hb)⟩) (fun b hb => by have := (hS b hb).1; omega) hmc
    unfold readC at hb ⊢
    rw [hk bc (.inr rfl)]
    exact hb
  have rx : R (fun b => S b ∨ ownB x b) h x (.sl (l.map DVoiceTick.dat)) := o.read (by simpa using hm) (fun b h => .inl h) (fun b h => .inr h)
  obtain ⟨y, h', e, g1, g2, g3, g4⟩ := delete_ok (Γ := Γ0) (g := 16) (zero := [.int .i64 0, .int .i64 0, .int .i64 0, .bool false, .bool false, .bool false, .bool false, .int .i64 0, .int .i64 0, .int .i64 0, .int .i64 0, .int .i64 0, .int .i64 0]) (n := l.length + 1) o
    (fun S h => DVoiceTick.flat) DVoiceTick.make (fun _ => rfl) rfl rfl (by decide) (c16 rx ht hm) ht (fun b hb => by
      rcases hb with hb | rfl
      · exact hS b hb
      · exact ⟨hbl, hbc⟩) hm (Nat.lt_succ_self _)
  refine ⟨y, h', gbody (F := A10) (by kernel_rfl) (l.length + 1) ?_, g1, g2, g3⟩
  rw [s10_eq]
  exact e
theorem DTick.dat4 (t : DTick) : t.dat[4]? = some (.sl (t.Voices.map DVoiceTick.dat)) := rfl
theorem DTick.dat5 (t : DTick) : t.dat[5]? = some (.sl (t.Regs.map iD)) := rfl
theorem set_self {α : Type} {l : List α} {i : Nat} {a : α} (h : l[i]? = some a) : l.set i a = l := by
  obtain ⟨hi, rfl⟩ := List.getElem?_eq_some_iff.1 h
  exact List.set_getElem_self hi
theorem rows_step {α : Type} {l : List α} {g : α → α} {i : Nat} {a : α} (h : l[i]? = some a) : ((l.take i).map g ++ l.drop i).set i (g a) = (l.take (i + 1)).map g ++ l.drop (i + 1) := by
  have hi := (List.getElem?_eq_some_iff.1 h).1
  have e : ((l.take i).map g).length = i := by rw [List.length_map, List.length_take]; omega
  rw [List.set_append_right _ _ (by omega), e, Nat.sub_self, List.take_add_one, h, List.map_append]
  have hd : l.drop i = a :: l.drop (i + 1) := by
    rw [List.drop_eq_getElem_cons hi]; congr 1; exact (List.getElem?_eq_some_iff.1 h).2
  rw [hd]
  simp
theorem rows_at {α : Type} {l : List α} {g : α → α} {i : Nat} {a : α} (h : l[i]? = some a) : ((l.take i).map g ++ l.drop i)[i]? = some a := by
  have hi := (List.getElem?_eq_some_iff.1 h).1
  have e : ((l.take i).map g).length = i := by rw [List.length_map, List.length_take]; omega
  rw [List.getElem?_append_right (by omega), e, Nat.sub_self, List.getElem?_drop, Nat.add_zero, h]

/-- How long the parts of ticks may be. -/
def short (l : List DTick) : Prop := ∀ t ∈ l, t.Voices.length ≤ mostLen ∧ t.Regs.length ≤ mostLen
theorem c5 {S : Nat → Prop} {h : AHeap} {x0 x1 : Value} {l : List DTick} {ch : List Int} (r0 : R S h x0 (.sl (l.map DTick.dat))) (r1 : R S h x1 (.sl (ch.map iD))) (hS : ∀ b, S b → b < h.length) (hm : l.length ≤ mostLen) (hmc : ch.length ≤ mostLen) (hsh : short l) :
    ∃ y h', Γ0 5 [x0, x1] h = some (y, h') ∧ h <+: h' ∧ R (fun b => b < h'.length) h' y (.sl ((l.map (muteT ch)).map DTick.dat)) := by
  have p1 : h <+: h ++ [.cells [x1] 23 true] := pre_app _ _
  obtain ⟨y, h2, e8, p2, o2⟩ := c8 (r0.pre p1 hS) (fun b hb => Nat.lt_of_lt_of_le (hS b hb) (pre_len p1)) hm
  have hl1 : (h ++ [ABlk.cells [x1] 23 true]).length = h.length + 1 := by simp
  rw [hl1] at o2
  have hbox : readC (h ++ [ABlk.cells [x1] 23 true]) h.length 0 = some x1 := by rw [readC_new]; rfl
  have hboxR : R S (h ++ [ABlk.cells [x1] 23 true]) x1 (.sl (ch.map iD)) := r1.pre p1 hS
  have ylen : lenf false y = some (.int .i64 l.length) := (o2.read (by simpa using hm) (S' := fun b => S b ∨ ownB y b) (fun b h => .inl h) (fun b h => .inr h)).lenm
  have key : ∃ r, (∃ y' h', r = some (y', h') ∧ h <+: h' ∧ R (fun b => b < h'.length) h' y' (.sl ((l.map (muteT ch)).map DTick.dat))) ∧ funK Γ0 (l.length + 1) A5 [x0, x1] h = r := by
    refine ⟨_, ?_, rfl⟩
    rw [s5_eq]
    unfold s5
    have hcx : cellsL x1 = [x1] := cellsL_one r1.oneC
    simp only [fork, hcx, e8, Option.bind_some, ylen, JL]
    refine loop_ok (len := l.length) (fun i vs hh => vs = [.int .i64 i] ∧ (h ++ [.cells [x1] 23 true]) <+: hh ∧ Own (h.length + 1) 26 6 (fun b => b < hh.length ∧ ¬ ownB y b) hh y (((l.take i).map (muteT ch) ++ l.drop i).map DTick.dat))
      (fun r : Rt => ∃ y' h', r = some (y', h') ∧ h <+: h' ∧ R (fun b => b < h'.length) h' y' (.sl ((l.map (muteT ch)).map DTick.dat)))
      ?_ ?_ (l.length + 1) 0 _ _ ⟨rfl, p2, ?_⟩ (Nat.zero_le _) (by omega)
    · rintro i _ hh hi ⟨rfl, hp, ho⟩
      obtain ⟨t, ht⟩ := lt_len hi
      have htm := hsh t (List.mem_of_getElem? ht)
      have hrow := get_map (f := DTick.dat) (rows_at (g := muteT ch) ht)
      obtain ⟨b, hb, e1, _, hcell⟩ := own_elem ho hrow
      have hbl := (ho.lt hb).2.1
      have hbN := (ho.lt hb).1
      -- Regs
      obtain ⟨w5, q1, q2⟩ := hcell 5 _ (DTick.dat5 t)
      obtain ⟨rg, ha, e9, pa, oa⟩ := c9 q2 (fun b hb => hb.1) htm.2
      have hoA := ho.pre (S' := fun b => b < ha.length ∧ ¬ ownB y b) pa (fun b hb => ⟨hb.1, Nat.lt_of_lt_of_le hb.1 (pre_len pa), hb.2⟩) (fun b hb hn => hn.2 hb)
      have rA : R (fun b => b < ha.length ∧ ¬ ownB y b) ha rg (.sl (t.Regs.map iD)) := oa.read (by simpa using htm.2) (fun b hb => ⟨Nat.lt_of_lt_of_le hb.1 (pre_len pa), hb.2⟩)
        (fun b hb => ⟨(oa.lt hb).2.1, fun h => by have := (ho.lt h).2.1; have := (oa.lt hb).1; omega⟩)
      obtain ⟨hB, e2, oB, lB, fB⟩ := own_store hoA hrow (j := 5) (by decide) rA hb
      rw [set_self (DTick.dat5 t), set_self hrow] at oB
      have oB' : Own (h.length + 1) 26 6 (fun b => b < hB.length ∧ ¬ ownB y b) hB y (((l.take i).map (muteT ch) ++ l.drop i).map DTick.dat) := by rw [lB]; exact oB
      -- Voices
      obtain ⟨b', hb', e1', _, hcell'⟩ := own_elem oB' hrow
      have hbb : b' = b := by obtain ⟨_, _, _, e3⟩ := hb; obtain ⟨_, _, _, e4⟩ := hb'; rw [e3] at e4; cases e4; rfl
      subst hbb
      obtain ⟨w4, q3, q4⟩ := hcell' 4 _ (DTick.dat4 t)
      obtain ⟨vc, hC, e11, pc, oc⟩ := c11 q4 (fun b hb => hb.1) htm.1
      have hlen : h.length + 1 ≤ hh.length := by rw [← hl1]; exact pre_len hp
      have hlA := pre_len pa
      have hlC := pre_len pc
      have hsame : ∀ k, k < h.length + 1 → hC[k]? = (h ++ [ABlk.cells [x1] 23 true])[k]? := fun k hk => by
        rw [pre_get pc (by omega), fB k (by omega), pre_get pa (by omega), pre_get hp (by omega)]
      have hown : ∀ k, ownB vc k → hB.length ≤ k := fun k hk => (oc.lt hk).1
      obtain ⟨vd, hD, e10, g1, g2, g3⟩ := c10 (x1 := x1) (ch := ch) (bc := h.length) (Sc := S) oc htm.1 (by unfold readC at hbox ⊢; rw [hsame _ (by omega)]; exact hbox)
        (hboxR.mono fun b hb => ⟨hb, hsame b (by have := hS b hb; omega)⟩) (fun b hb => ⟨by have := hS b hb; omega, fun h => by have := hown b h; have := hS b hb; omega⟩) (fun h => by have := hown _ h; omega) hmc
      have pD : hB <+: hD := prefix_of_get (by omega) fun k hk => by rw [g3 k (by omega) (fun h => by have := hown k h; omega), pre_get pc hk]
      have oD := oB'.pre (S' := fun b => b < hD.length ∧ ¬ ownB y b) pD (fun b hb => ⟨hb.1, Nat.lt_of_lt_of_le hb.1 (pre_len pD), hb.2⟩) (fun b hb hn => hn.2 hb)
      have rD := g1 (fun b => b < hD.length ∧ ¬ ownB y b) (fun k hk => ⟨by have := (oc.lt hk).2.1; omega, fun h => by have := (oB'.lt h).2.1; have := hown k hk; omega⟩)
      obtain ⟨hE, e3, oE, lE, fE⟩ := own_store oD hrow (j := 4) (by decide) rD hb
      have hset : t.dat.set 4 (.sl ((t.Voices.filter fun a => !ofCh ch a).map DVoiceTick.dat)) = (muteT ch t).dat := rfl
      rw [hset, ← List.map_set, rows_step ht] at oE
      refine .inl ⟨[.int .i64 ((i + 1 : Nat) : Int)], hE, ⟨rfl, ?_, by rw [lE]; exact oE⟩, fun K => ?_⟩
      · refine prefix_of_get (by have := pre_len pD; omega) fun k hk => ?_
        rw [fE k (by omega), pre_get pD (by omega), fB k (by omega), pre_get pa (by omega), pre_get hp hk]
      · unfold s5_L0
        unfold mostLen at hm
        simp only [nth_zero, binf_lss, Option.bind_some, JL, ifK_bool, decide_eq_true_eq, binf_add]
        rw [if_pos (by omega)]
        simp only [e1, Option.bind_some, fieldAddr_ptr, load_cell, q1, e9, e2, q3, e11, e10, e3, succ64 (show i < 4294967297 by omega)]
    · rintro _ hh ⟨rfl, hp, ho⟩
      rw [List.take_length, List.drop_length, List.append_nil] at ho
      obtain ⟨h'', f1, f2⟩ := fin_own (x := y) (h0 := h) (h := hh) (pre_trans p1 hp)
      refine ⟨some (y, h''), ⟨y, h'', rfl, ?_, ?_⟩, fun K => ?_⟩
      · rcases f2 with ⟨_, rfl⟩ | ⟨_, rfl⟩
        · exact List.prefix_refl _
        · exact pre_trans p1 hp
      · rcases f2 with ⟨f3, rfl⟩ | ⟨_, rfl⟩
        · rcases ho.2 with ⟨rfl, hnil⟩ | ⟨b, c, cs, rfl, _⟩
          · rw [hnil]; exact .nil
          · cases f3
        · exact ho.read (by simpa using hm) (fun b hb => hb.1) (fun b hb => (ho.lt hb).2.1)
      · unfold s5_L0
        simp only [nth_zero, binf_lss, Option.bind_some, JL, ifK_bool, decide_eq_true_eq, binf_add]
        rw [if_neg (by omega)]
        exact f1
    · simp only [List.take_zero, List.map_nil, List.nil_append, List.drop_zero]
      refine o2.mono (Nat.le_refl _) (fun b hb => ⟨rfl, fun h => h.2 hb⟩) (fun b hb => ⟨⟨?_, fun h => ?_⟩, rfl⟩)
      · have := hS b hb; have := pre_len p2; omega
      · have := (o2.lt h).1; have := hS b hb; omega
  obtain ⟨r, ⟨y', h', rfl, k1, k2⟩, e⟩ := key
  exact ⟨y', h', gbody (F := A5) (by kernel_rfl) (l.length + 1) e, k1, k2⟩
end Go.Am.X
