/- The reckoner's calls tell the truth: the caller's view afterwards, sealing, freezing. No conditions. -/
import Derived.Test.YtadbbgechcjciaaEvS
set_option linter.unusedVariables false
set_option linter.unusedSimpArgs false
set_option linter.unusedSectionVars false
namespace Go.Ev
open Go

section
variable {G G' : Gh} {f f0 : Nat → Option Nat} {rs : List Nat} {β β0 β1 β2 : Nat → Nat} {H H0 H1 Hf : Heap} {W W' : Array Obj}

theorem Back.evo (k : Back f rs β H β1 H1 β2 Hf) (k0 : Sub f0 rs β H β0 H0) (h : @HR G β H W) (hG : ∀ b, G'.g b ↔ G.g b ∨ ∃ q, Live H q ∧ q ∉ rs ∧ β q = b) (hE : @Evo G' β0 H0 W β1 H1 W') : @Evo G β H W β2 Hf W' := by
  have hG1 : ∀ b, G.g b → G'.g b := fun b hb => (hG b).2 (.inl hb)
  have hG2 : ∀ q, Live H q → q ∉ rs → G'.g (β q) := fun q h1 h2 => (hG _).2 (.inr ⟨q, h1, h2, rfl⟩)
  have hR0 : Ren G G' f0 β H β0 H0 W := k0.ren fun b hb => ((hG b).1 hb).imp id fun ⟨q, h1, _, h2⟩ => ⟨q, h1, h2⟩
  have hren : Ren G' G f β1 H1 β2 Hf W' := k.ren hG1 hG2
  have idx : ∀ r, r ∈ rs → ∃ i, rs[i]? = some r ∧ i < H0.length ∧ β0 i = β r ∧ renOb f0 (H.at r) = some (H0.at i) ∧ β2 r = β1 i ∧ renOb f (H1.at i) = some (Hf.at r) := by
    intro r hr
    obtain ⟨i, hi⟩ := idxIn_mem (i := 0) hr
    have hi := (idxIn_some hi).2
    rw [Nat.sub_zero] at hi
    obtain ⟨h1, h2⟩ := k0.at_get hi
    obtain ⟨_, h3, h4⟩ := k.go i r (k.pass i r hi)
    exact ⟨i, hi, h1, k0.β i r hi, h2, h3, h4⟩
  have hold : ∀ b, @Imm G β H W b → W'[b]? = W[b]? := fun b hb => (@Evo.imm G' _ _ _ _ _ _ hE b (hR0.imm b hb)).1
  have hlive : ∀ q, Live H q → q ∉ rs → W'[β q]? = W[β q]? := fun q h1 h2 => @Evo.gh G' _ _ _ _ _ _ hE _ (hG2 q h1 h2) (@HR.lt G _ _ _ h _ h1)
  refine @Evo.mk G _ _ _ _ _ _ (@Evo.size G' _ _ _ _ _ _ hE) (fun b hb hl => @Evo.gh G' _ _ _ _ _ _ hE b (hG1 b hb) hl) (fun b hb => ⟨hold b hb, hren.imm b (@Evo.imm G' _ _ _ _ _ _ hE b (hR0.imm b hb)).2⟩) k.len ?_ ?_ ?_ ?_
  · intro r as hr
    by_cases hm : r ∈ rs
    · obtain ⟨i, hi, hl, e1, e2, e3, e4⟩ := idx r hm
      rw [hr] at e2
      have hbox : ∃ cs, H0.at i = some (.box cs) := by
        simp only [renOb] at e2
        cases hl : renL f0 as with
        | none => rw [hl] at e2; cases e2
        | some bs => rw [hl] at e2; exact ⟨bs, (Option.some.inj e2).symm⟩
      obtain ⟨cs, hcs⟩ := hbox
      obtain ⟨e5, cs', h5⟩ := @Evo.box G' _ _ _ _ _ _ hE i cs hcs
      refine ⟨e3.trans (e5.trans e1), ?_⟩
      rw [h5] at e4
      simp only [renOb] at e4
      cases hl : renL f cs' with
      | none => rw [hl] at e4; cases e4
      | some bs => rw [hl] at e4; exact ⟨bs, (Option.some.inj e4).symm⟩
    · obtain ⟨e1, e2⟩ := k.keep r (Heap.at_lt hr) hm
      exact ⟨e1, as, e2.trans hr⟩
  · intro r sz n row hr
    by_cases hm : r ∈ rs
    · obtain ⟨i, hi, hl, e1, e2, e3, e4⟩ := idx r hm
      rw [hr] at e2
      simp only [renOb, Option.some.injEq] at e2
      rcases @Evo.arr G' _ _ _ _ _ _ hE i sz n row e2.symm with hd | ⟨e5, ⟨row', h5⟩, hc⟩
      · rw [hd] at e4; simp only [renOb, Option.some.injEq] at e4; exact .inl e4.symm
      · refine .inr ⟨e3.trans (e5.trans e1), ⟨row', ?_⟩, by rw [← e1]; exact hc⟩
        rcases h5 with h5 | h5 <;> rw [h5] at e4 <;> simp only [renOb, Option.some.injEq] at e4
        · exact .inl e4.symm
        · exact .inr e4.symm
    · obtain ⟨e1, e2⟩ := k.keep r (Heap.at_lt hr) hm
      exact .inr ⟨e1, ⟨row, .inl (e2.trans hr)⟩, cellsAt_congr (hlive r (.inr ⟨_, _, _, hr⟩) hm)⟩
  · intro r sz n row hr
    by_cases hm : r ∈ rs
    · obtain ⟨i, hi, hl, e1, e2, e3, e4⟩ := idx r hm
      rw [hr] at e2
      simp only [renOb, Option.some.injEq] at e2
      obtain ⟨e5, h5, hc⟩ := @Evo.fro G' _ _ _ _ _ _ hE i sz n row e2.symm
      rw [h5] at e4; simp only [renOb, Option.some.injEq] at e4
      exact ⟨e3.trans (e5.trans e1), e4.symm, by rw [← e1]; exact hc⟩
    · obtain ⟨e1, e2⟩ := k.keep r (Heap.at_lt hr) hm
      obtain ⟨_, _, _, hi, _⟩ := @HR.fro G _ _ _ h r sz n row hr
      exact ⟨e1, e2.trans hr, cellsAt_congr (hold _ hi)⟩
  · intro r hl hr
    by_cases hm : r ∈ rs
    · obtain ⟨i, hi, hl, e1, e2, e3, e4⟩ := idx r hm
      rw [hr] at e2
      simp only [renOb, Option.some.injEq] at e2
      have := @Evo.dead G' _ _ _ _ _ _ hE i hl e2.symm
      rw [this] at e4; simp only [renOb, Option.some.injEq] at e4
      exact e4.symm
    · exact (k.keep r hl hm).2.trans hr

theorem Back.hr (k : Back f rs β H β1 H1 β2 Hf) (k0 : Sub f0 rs β H β0 H0) (h : @HR G β H W) (hG : ∀ b, G'.g b ↔ G.g b ∨ ∃ q, Live H q ∧ q ∉ rs ∧ β q = b) (hE : @Evo G' β0 H0 W β1 H1 W') (h1 : @HR G' β1 H1 W') : @HR G β2 Hf W' := by
  have hG1 : ∀ b, G.g b → G'.g b := fun b hb => (hG b).2 (.inl hb)
  have hG2 : ∀ q, Live H q → q ∉ rs → G'.g (β q) := fun q h1 h2 => (hG _).2 (.inr ⟨q, h1, h2, rfl⟩)
  have hren : Ren G' G f β1 H1 β2 Hf W' := k.ren hG1 hG2
  have hev := k.evo k0 h hG hE
  have hlive : ∀ q, Live H q → q ∉ rs → W'[β q]? = W[β q]? := fun q h1 h2 => @Evo.gh G' _ _ _ _ _ _ hE _ (hG2 q h1 h2) (@HR.lt G _ _ _ h _ h1)
  refine @HR.mk G _ _ _ ?_ ?_ ?_ ?_ ?_
  · intro q q' hq hq' e
    rcases k.come_live hq with ⟨_, a2, a3, a4⟩ | ⟨p, a1, a2, a3⟩ <;> rcases k.come_live hq' with ⟨_, b2, b3, b4⟩ | ⟨p', b1, b2, b3⟩
    · exact @HR.inj G _ _ _ h q q' a3 b3 (by rw [← a4, ← b4, e])
    · exact absurd (b3.symm.trans (e.symm.trans a4)) ((@HR.gh G' _ _ _ h1 _ (hG2 q a3 a2)).2 p' b2)
    · exact absurd (a3.symm.trans (e.trans b4)) ((@HR.gh G' _ _ _ h1 _ (hG2 q' b3 b2)).2 p a2)
    · have := @HR.inj G' _ _ _ h1 p p' a2 b2 (by rw [← a3, ← b3, e])
      subst this
      rw [a1] at b1; exact Option.some.inj b1
  · intro b hb
    refine ⟨Nat.lt_of_lt_of_le (@HR.gh G _ _ _ h b hb).1 (@Evo.size G' _ _ _ _ _ _ hE), fun q hq => ?_⟩
    rcases k.come_live hq with ⟨_, a2, a3, a4⟩ | ⟨p, a1, a2, a3⟩
    · rw [a4]; exact (@HR.gh G _ _ _ h b hb).2 q a3
    · rw [a3]; exact (@HR.gh G' _ _ _ h1 b (hG1 b hb)).2 p a2
  · intro q as hq
    rcases k.come_at hq with ⟨_, a2, a3, a4⟩ | ⟨p, o0, a1, a2, a3, a4⟩
    · obtain ⟨vs, e, w1, w2, w3, w4⟩ := @HR.box G _ _ _ h q as a3
      exact ⟨vs, e, by rw [a4, hlive q (.inl ⟨_, a3⟩) a2]; exact w1, w2, w3, fun j hj => @R.stays G _ _ _ _ _ _ hev _ _ (w4 j hj)⟩
    · obtain ⟨cs, rfl, hr⟩ := renOb_box a3
      obtain ⟨vs, e, w1, w2, w3, w4⟩ := @HR.box G' _ _ _ h1 p cs a2
      obtain ⟨l1, l2⟩ := renL_get hr
      exact ⟨vs, e, by rw [a4]; exact w1, by omega, renL_leaf hr w3, fun j hj => R.ren hren (w4 j (by omega)) (l2 j (by omega))⟩
  · intro q sz n row hq
    rcases k.come_at hq with ⟨_, a2, a3, a4⟩ | ⟨p, o0, a1, a2, a3, a4⟩
    · obtain ⟨vs, e, fz, w1, w2, w3, w4, w5⟩ := @HR.arr G _ _ _ h q sz n row a3
      exact ⟨vs, e, fz, by rw [a4, hlive q (.inr ⟨_, _, _, a3⟩) a2]; exact w1, w2, w3, w4, fun i j hi hj => @R.stays G _ _ _ _ _ _ hev _ _ (w5 i j hi hj)⟩
    · have := renOb_arr a3; subst this
      obtain ⟨vs, e, fz, w1, w2, w3, w4, w5⟩ := @HR.arr G' _ _ _ h1 p sz n row a2
      exact ⟨vs, e, fz, by rw [a4]; exact w1, w2, w3, w4, fun i j hi hj => R.mono hren.imm (pureL_iff.1 (w4 i hi).2.2 _ (getD_mem (by rw [(w4 i hi).1]; exact hj))) (w5 i j hi hj)⟩
  · intro q sz n row hq
    rcases k.come_at hq with ⟨_, a2, a3, a4⟩ | ⟨p, o0, a1, a2, a3, a4⟩
    · obtain ⟨vs, e, fz, w0, w1, w2, w4, w5⟩ := @HR.fro G _ _ _ h q sz n row a3
      obtain ⟨i1, i2⟩ := @Evo.imm G _ _ _ _ _ _ hev _ w0
      exact ⟨vs, e, fz, by rw [a4]; exact i2, by rw [a4, i1]; exact w1, w2, w4, fun i j hi hj => @R.stays G _ _ _ _ _ _ hev _ _ (w5 i j hi hj)⟩
    · have := renOb_fro a3; subst this
      obtain ⟨vs, e, fz, w0, w1, w2, w4, w5⟩ := @HR.fro G' _ _ _ h1 p sz n row a2
      exact ⟨vs, e, fz, by rw [a4]; exact hren.imm _ w0, by rw [a4]; exact w1, w2, w4, fun i j hi hj => R.mono hren.imm (pureL_iff.1 (w4 i hi).2.2 _ (getD_mem (by rw [(w4 i hi).1]; exact hj))) (w5 i j hi hj)⟩
end

/-! ### sealing -/
section
variable {G : Gh} {β : Nat → Nat} {H : Heap} {W : Array Obj}
theorem set_self {r : Nat} : H.set r (H.at r) = H := by
  apply List.ext_getElem?
  intro i
  by_cases h : i = r
  · subst h
    by_cases hl : i < H.length
    · rw [List.getElem?_set_self hl]
      unfold Heap.at
      rw [List.getD_eq_getElem?_getD, List.getElem?_eq_getElem hl]; rfl
    · rw [List.getElem?_eq_none (by simp; omega), List.getElem?_eq_none (by omega)]
  · rw [List.getElem?_set_ne (Ne.symm h)]
theorem sealAll_ok : ∀ {rs : List Nat} {H : Heap}, HR β H W → HR β (sealAll H rs) W ∧ Evo β H W β (sealAll H rs) W ∧ (sealAll H rs).length = H.length ∧ ∀ q, Live (sealAll H rs) q → Live H q ∧ (q ∈ rs → ∃ cs, H.at q = some (.box cs))
  | [], H, h => ⟨h, Evo.refl _ _ _, rfl, fun q hq => ⟨hq, fun hm => by simp at hm⟩⟩
  | r :: rs, H, h => by
    have step : ∃ H2 : Heap, H.set r (sealOb (H.at r)) = H2 ∧ HR β H2 W ∧ Evo β H W β H2 W ∧ H2.length = H.length ∧ ∀ q, Live H2 q → Live H q ∧ (q = r → ∃ cs, H.at q = some (.box cs)) ∧ (∀ cs, H2.at q = some (.box cs) → H.at q = some (.box cs)) := by
      cases ho : H.at r with
      | none =>
        refine ⟨H, by simp only [sealOb]; rw [← ho]; exact set_self, h, Evo.refl _ _ _, rfl, fun q hq => ⟨hq, ?_, fun _ h => h⟩⟩
        rintro rfl
        rcases hq with ⟨_, hq⟩ | ⟨_, _, _, hq⟩ <;> rw [ho] at hq <;> cases hq
      | some o =>
        cases o with
        | box cs => exact ⟨H, by simp only [sealOb]; rw [← ho]; exact set_self, h, Evo.refl _ _ _, rfl, fun q hq => ⟨hq, fun e => by subst e; exact ⟨cs, ho⟩, fun _ h => h⟩⟩
        | fro sz n row =>
          refine ⟨H, by simp only [sealOb]; rw [← ho]; exact set_self, h, Evo.refl _ _ _, rfl, fun q hq => ⟨hq, ?_, fun _ h => h⟩⟩
          rintro rfl
          rcases hq with ⟨_, hq⟩ | ⟨_, _, _, hq⟩ <;> rw [ho] at hq <;> cases hq
        | arr sz n row =>
          refine ⟨_, rfl, HR.close h ho, Evo.close ho, by simp [sealOb], fun q hq => ?_⟩
          obtain ⟨h1, h2⟩ := live_set_fro hq
          refine ⟨h2, fun e => absurd e h1, fun cs hcs => ?_⟩
          simp only [sealOb] at hcs
          rwa [at_set_ne h1] at hcs
    obtain ⟨H2, e, s1, s2, s3, s4⟩ := step
    obtain ⟨i1, i2, i3, i4⟩ := sealAll_ok (rs := rs) s1
    simp only [sealAll, e]
    refine ⟨i1, s2.trans i2, i3.trans s3, fun q hq => ?_⟩
    obtain ⟨j1, j2⟩ := i4 q hq
    obtain ⟨k1, k2, k3⟩ := s4 q j1
    refine ⟨k1, fun hm => ?_⟩
    rcases List.mem_cons.1 hm with hm | hm
    · exact k2 hm
    · obtain ⟨cs, hcs⟩ := j2 hm
      exact ⟨cs, k3 cs hcs⟩
/-- memory that only grows -/
theorem grow_ok {W' : Array Obj} (h : HR β H W) (hs : W.size ≤ W'.size) (hw : ∀ b, b < W.size → W'[b]? = W[b]?) : HR β H W' ∧ Evo β H W β H W' := by
  have hE : Evo β H W β H W' := by
    refine ⟨hs, fun b _ hl => hw b hl, fun b hb => ⟨hw b hb.1, Nat.lt_of_lt_of_le hb.1 hs, hb.2⟩, Nat.le_refl _, fun r as hr => ⟨rfl, as, hr⟩, fun r sz n row hr => .inr ⟨rfl, ⟨row, .inl hr⟩, cellsAt_congr (hw _ (h.lt (.inr ⟨_, _, _, hr⟩)))⟩, fun r sz n row hr => ?_, fun _ _ hr => hr⟩
    obtain ⟨_, _, _, hi, _⟩ := h.fro r sz n row hr
    exact ⟨rfl, hr, cellsAt_congr (hw _ hi.1)⟩
  refine ⟨⟨h.inj, fun b hb => ⟨Nat.lt_of_lt_of_le (h.gh b hb).1 hs, (h.gh b hb).2⟩, fun r as hr => ?_, fun r sz n row hr => ?_, fun r sz n row hr => ?_⟩, hE⟩
  · obtain ⟨vs, e, w1, w2, w3, w4⟩ := h.box r as hr
    exact ⟨vs, e, by rw [hw _ (some_lt w1)]; exact w1, w2, w3, fun j hj => (w4 j hj).stays hE⟩
  · obtain ⟨vs, e, fz, w1, w2, w3, w4, w5⟩ := h.arr r sz n row hr
    exact ⟨vs, e, fz, by rw [hw _ (some_lt w1)]; exact w1, w2, w3, w4, fun i j hi hj => (w5 i j hi hj).stays hE⟩
  · obtain ⟨vs, e, fz, w0, w1, w2, w4, w5⟩ := h.fro r sz n row hr
    exact ⟨vs, e, fz, (hE.imm _ w0).2, by rw [hw _ (some_lt w1)]; exact w1, w2, w4, fun i j hi hj => (w5 i j hi hj).stays hE⟩
end
end Go.Ev
