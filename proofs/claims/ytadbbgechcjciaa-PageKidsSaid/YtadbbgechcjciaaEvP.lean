/- Objects under other numbers: what a renaming does to the reckoner's values. No conditions. -/
import Derived.Test.YtadbbgechcjciaaEvO
set_option linter.unusedVariables false
set_option linter.unusedSimpArgs false
set_option linter.unusedSectionVars false
namespace Go.Ev
open Go

/-! ### lists -/
theorem idxIn_some {r : Nat} : ∀ {l : List Nat} {i j : Nat}, idxIn r l i = some j → i ≤ j ∧ l[j - i]? = some r
  | [], i, j, h => by cases h
  | x :: xs, i, j, h => by
    unfold idxIn at h
    split at h
    · rename_i hx; cases h; subst hx; exact ⟨Nat.le_refl _, by simp⟩
    · obtain ⟨h1, h2⟩ := idxIn_some h
      exact ⟨by omega, by rw [show j - i = (j - (i + 1)) + 1 by omega, List.getElem?_cons_succ]; exact h2⟩
theorem idxIn_mem {r : Nat} : ∀ {l : List Nat} {i : Nat}, r ∈ l → ∃ j, idxIn r l i = some j
  | x :: xs, i, h => by
    unfold idxIn
    by_cases hx : x = r
    · rw [if_pos hx]; exact ⟨i, rfl⟩
    · rw [if_neg hx]; exact idxIn_mem (by simpa [Ne.symm hx] using h)
theorem idxIn_none {r : Nat} {l : List Nat} {i : Nat} (h : idxIn r l i = none) : r ∉ l := fun hm => by
  obtain ⟨j, hj⟩ := idxIn_mem (i := i) hm
  rw [h] at hj; cases hj
theorem nodup_inj {l : List Nat} (hn : l.Nodup) {i j r : Nat} (hi : l[i]? = some r) (hj : l[j]? = some r) : i = j := by
  obtain ⟨a1, a2⟩ := List.getElem?_eq_some_iff.1 hi
  obtain ⟨b1, b2⟩ := List.getElem?_eq_some_iff.1 hj
  have hp := List.pairwise_iff_getElem.1 hn
  rcases Nat.lt_trichotomy i j with h | h | h
  · exact absurd (a2.trans b2.symm) (hp i j a1 b1 h)
  · exact h
  · exact absurd (b2.trans a2.symm) (hp j i b1 a1 h)
theorem idxIn_get {l : List Nat} (hn : l.Nodup) {j r : Nat} (h : l[j]? = some r) : idxIn r l 0 = some j := by
  obtain ⟨k, hk⟩ := idxIn_mem (i := 0) (List.mem_of_getElem? h)
  obtain ⟨_, h2⟩ := idxIn_some hk
  rw [Nat.sub_zero] at h2
  have : k = j := by
    exact nodup_inj hn h2 h
  rw [hk, this]

theorem close_spec {H : Heap} : ∀ {k : Nat} {todo acc rs : List Nat}, close H k todo acc = some rs → acc.Nodup → (∀ r ∈ acc, ∀ q ∈ refsOb (H.at r), q ∈ acc ∨ q ∈ todo) →
    rs.Nodup ∧ (∃ ext, rs = acc ++ ext) ∧ (∀ r ∈ todo, r ∈ rs) ∧ ∀ r ∈ rs, ∀ q ∈ refsOb (H.at r), q ∈ rs
  | 0, _, _, _, h, _, _ => by cases h
  | k + 1, [], acc, rs, h, hn, hc => by
    cases h
    exact ⟨hn, ⟨[], by simp⟩, fun r hr => by simp at hr, fun r hr q hq => (hc r hr q hq).resolve_right (by simp)⟩
  | k + 1, r :: todo, acc, rs, h, hn, hc => by
    unfold close at h
    split at h
    · rename_i hin
      have hin := inList_iff.1 hin
      obtain ⟨h1, ⟨ext, h2⟩, h3, h4⟩ := close_spec h hn (fun p hp q hq => (hc p hp q hq).elim .inl fun hq => by
        rcases List.mem_cons.1 hq with rfl | hq
        · exact .inl hin
        · exact .inr hq)
      refine ⟨h1, ⟨ext, h2⟩, fun p hp => ?_, h4⟩
      rcases List.mem_cons.1 hp with rfl | hp
      · rw [h2]; exact List.mem_append_left _ hin
      · exact h3 p hp
    · rename_i hin
      have hin : r ∉ acc := fun hm => hin (inList_iff.2 hm)
      obtain ⟨h1, ⟨ext, h2⟩, h3, h4⟩ := close_spec h (by rw [List.nodup_append]; exact ⟨hn, by simp, fun a ha b hb e => by simp at hb; subst hb; subst e; exact hin ha⟩) (fun p hp q hq => by
        rcases List.mem_append.1 hp with hp | hp
        · rcases hc p hp q hq with hq | hq
          · exact .inl (List.mem_append_left _ hq)
          · rcases List.mem_cons.1 hq with rfl | hq
            · exact .inl (List.mem_append_right _ (by simp))
            · exact .inr (List.mem_append_left _ hq)
        · simp at hp; subst hp
          exact .inr (List.mem_append_right _ hq))
      refine ⟨h1, ⟨[r] ++ ext, by rw [h2]; simp⟩, fun p hp => ?_, h4⟩
      rcases List.mem_cons.1 hp with rfl | hp
      · rw [h2]; exact List.mem_append_left _ (List.mem_append_right _ (by simp))
      · exact h3 p (List.mem_append_left _ hp)
theorem close_ok {H : Heap} {k : Nat} {todo rs : List Nat} (h : close H k todo [] = some rs) : rs.Nodup ∧ (∀ r ∈ todo, r ∈ rs) ∧ ∀ r ∈ rs, ∀ q ∈ refsOb (H.at r), q ∈ rs := by
  obtain ⟨h1, _, h3, h4⟩ := close_spec h (by simp) (fun r hr => by simp at hr)
  exact ⟨h1, h3, h4⟩
theorem close_prefix {H : Heap} : ∀ {k : Nat} {todo acc rs : List Nat}, close H k todo acc = some rs → ∃ ext, rs = acc ++ ext
  | 0, _, _, _, h => by cases h
  | k + 1, [], acc, rs, h => by cases h; exact ⟨[], by simp⟩
  | k + 1, r :: todo, acc, rs, h => by
    unfold close at h
    split at h
    · exact close_prefix h
    · obtain ⟨ext, rfl⟩ := close_prefix h
      exact ⟨[r] ++ ext, by simp⟩
/-- the first ones stay where they are -/
theorem close_range' {H : Heap} : ∀ {d i k : Nat} {todo rs : List Nat}, close H k (List.range' i d ++ todo) (List.range i) = some rs → ∃ ext, rs = List.range (i + d) ++ ext
  | 0, i, k, todo, rs, h => close_prefix h
  | d + 1, i, 0, todo, rs, h => by cases h
  | d + 1, i, k + 1, todo, rs, h => by
    rw [List.range'_succ, List.cons_append] at h
    unfold close at h
    rw [if_neg (by rw [inList_iff]; simp)] at h
    rw [← List.range_succ, List.append_assoc] at h
    obtain ⟨ext, h⟩ := close_range' h
    exact ⟨ext, by rw [h]; congr 2; omega⟩
theorem close_range {H : Heap} {k m : Nat} {todo rs : List Nat} (h : close H k (List.range m ++ todo) [] = some rs) : m ≤ rs.length ∧ ∀ i, i < m → rs[i]? = some i := by
  have h' : close H k (List.range' 0 m ++ todo) (List.range 0) = some rs := by rw [← List.range_eq_range']; exact h
  obtain ⟨ext, rfl⟩ := close_range' h'
  rw [Nat.zero_add]
  refine ⟨by simp, fun i hi => ?_⟩
  rw [List.getElem?_append_left (by simpa using hi), List.getElem?_range hi]

theorem renObs_get {f : Nat → Option Nat} {H : Heap} : ∀ {rs : List Nat} {os : Heap}, renObs f H rs = some os → os.length = rs.length ∧ ∀ (i r : Nat), rs[i]? = some r → ∃ o : Option Ob, renOb f (H.at r) = some o ∧ os[i]? = some o
  | [], os, h => by cases h; exact ⟨rfl, fun i r h => by simp at h⟩
  | r :: rs, os, h => by
    unfold renObs at h
    split at h
    · rename_i o os' h1 h2
      cases h
      obtain ⟨i1, i2⟩ := renObs_get h2
      refine ⟨by simp [i1], fun i r' hr => ?_⟩
      cases i with
      | zero => simp at hr; subst hr; exact ⟨o, h1, by simp⟩
      | succ i => simpa using i2 i r' (by simpa using hr)
    · cases h

/-! ### renaming -/
mutual
theorem renA_pure {f : Nat → Option Nat} : ∀ {a : AV}, pureA a = true → renA f a = some a
  | .int .., _ => rfl
  | .bool _, _ => rfl
  | .str _, _ => rfl
  | .sl .., _ => rfl
  | .osl .., h => by simp [pureA] at h
  | .ref .., h => by simp [pureA] at h
  | .eref .., h => by simp [pureA] at h
  | .rref .., _ => rfl
  | .lsl .., h => by simp [pureA] at h
  | .lref .., h => by simp [pureA] at h
  | .nilp, _ => rfl
  | .fn g a b, h => by
    simp only [pureA, Bool.and_eq_true] at h
    simp only [renA, renL_pure h.1, renL_pure h.2]
  | .nilfn, _ => rfl
  | .agg cs, h => by simp only [pureA] at h; simp only [renA, renL_pure h]; rfl
  | .tup cs, h => by simp only [pureA] at h; simp only [renA, renL_pure h]; rfl
  | .und, h => by simp [pureA] at h
theorem renL_pure {f : Nat → Option Nat} : ∀ {as : List AV}, pureL as = true → renL f as = some as
  | [], _ => rfl
  | a :: as, h => by
    simp only [pureL, Bool.and_eq_true] at h
    simp only [renL, renA_pure h.1, renL_pure h.2]
end
theorem renL_get {f : Nat → Option Nat} : ∀ {as bs : List AV}, renL f as = some bs → bs.length = as.length ∧ ∀ j, j < as.length → renA f (as.getD j .und) = some (bs.getD j .und)
  | [], bs, h => by cases h; exact ⟨rfl, fun j hj => by simp at hj⟩
  | a :: as, bs, h => by
    unfold renL at h
    split at h
    · rename_i b bs' h1 h2
      cases h
      obtain ⟨i1, i2⟩ := renL_get h2
      refine ⟨by simp [i1], fun j hj => ?_⟩
      cases j with
      | zero => simpa using h1
      | succ j => simpa using i2 j (by simpa using hj)
    · cases h
theorem renA_leaf {f : Nat → Option Nat} {a b : AV} (h : renA f a = some b) (hl : a.leaf = true) : b.leaf = true := by
  cases a <;> simp only [renA] at h <;> first | (cases h; exact hl) | skip
  · cases hf : f _ <;> rw [hf] at h <;> cases h; rfl
  · cases hf : f _ <;> rw [hf] at h <;> cases h; rfl
  · cases hf : f _ <;> rw [hf] at h <;> cases h; rfl
  · cases hf : renL f _ <;> rw [hf] at h <;> cases h; rfl
  · cases hf : renL f _ <;> rw [hf] at h <;> cases h; rfl
  · split at h <;> cases h; rfl
  · simp [AV.leaf] at hl
  · simp [AV.leaf] at hl
theorem renL_leaf {f : Nat → Option Nat} : ∀ {as bs : List AV}, renL f as = some bs → allLeaf as = true → allLeaf bs = true
  | [], bs, h, _ => by cases h; rfl
  | a :: as, bs, h, hl => by
    unfold renL at h
    split at h
    · rename_i b bs' h1 h2
      cases h
      simp only [allLeaf, Bool.and_eq_true] at hl ⊢
      exact ⟨renA_leaf h1 hl.1, renL_leaf h2 hl.2⟩
    · cases h

/-- objects under new numbers, in another view of memory -/
structure Ren (G1 G2 : Gh) (f : Nat → Option Nat) (β : Nat → Nat) (H : Heap) (β' : Nat → Nat) (H' : Heap) (W : Array Obj) : Prop where
  imm : ∀ b, @Imm G1 β H W b → @Imm G2 β' H' W b
  box : ∀ r r' cs, f r = some r' → H.at r = some (.box cs) → β' r' = β r ∧ ∃ cs', H'.at r' = some (.box cs')
  arr : ∀ r r' sz n row, f r = some r' → (H.at r = some (.arr sz n row) ∨ H.at r = some (.fro sz n row)) → β' r' = β r ∧ ∃ row', H'.at r' = some (.arr sz n row') ∨ H'.at r' = some (.fro sz n row')
  dead : ∀ r r', f r = some r' → r < H.length → H.at r = none → r' < H'.length ∧ H'.at r' = none

theorem R.ren {G1 G2 : Gh} {f : Nat → Option Nat} {β β' : Nat → Nat} {H H' : Heap} {W : Array Obj} (k : Ren G1 G2 f β H β' H' W) {v : Value} {a : AV} (h : @R G1 β H W v a) : ∀ {a' : AV}, renA f a = some a' → @R G2 β' H' W v a' := by
  have one : ∀ {α γ : Type} {x : Option α} {g : α → γ} {y : γ}, x.map g = some y → ∃ z, x = some z ∧ g z = y := by
    intro α γ x g y h
    cases x with
    | none => cases h
    | some z => exact ⟨z, rfl, Option.some.inj h⟩
  induction h with
  | int k n => intro a' h; cases h; exact .int k n
  | bool b => intro a' h; cases h; exact .bool b
  | str s => intro a' h; cases h; exact .str s
  | sl0 a c sz row full hf => intro a' h; cases h; exact .sl0 a c sz row full hf
  | sl b o n c sz row full cs e fz vf hi hW hc hf hl hv hR ih =>
    intro a' h; cases h
    refine .sl b o n c sz row full cs e fz vf (k.imm b hi) hW hc hf hl hv fun i j hi hj => ih i j hi hj ?_
    obtain ⟨l1, l2, l3⟩ := hl i hi
    exact renA_pure (pureL_iff.1 l3 _ (getD_mem (by omega)))
  | osl r off len c sz N m row full a ha hH hW hn hc hf hs hu =>
    intro a' h
    simp only [renA] at h
    obtain ⟨r', hr, rfl⟩ := one h
    obtain ⟨e1, row', h1⟩ := k.arr r r' sz N row hr hH
    exact .osl r' off len c sz N m row' full a (by rw [e1]; exact ha) h1 (by rw [e1]; exact hW) hn hc hf hs hu
  | osld sz r off len c b o full a ha hc hf hr hH =>
    intro a' h
    simp only [renA] at h
    obtain ⟨r', hr', rfl⟩ := one h
    obtain ⟨h1, h2⟩ := k.dead r r' hr' hr hH
    exact .osld sz r' off len c b o full a ha hc hf h1 h2
  | ref r off cs hH =>
    intro a' h
    simp only [renA] at h
    obtain ⟨r', hr', rfl⟩ := one h
    obtain ⟨e1, cs', h1⟩ := k.box r r' cs hr' hH
    rw [← e1]; exact .ref r' off cs' h1
  | eref r i off sz N row hH hi =>
    intro a' h
    simp only [renA] at h
    obtain ⟨r', hr', rfl⟩ := one h
    obtain ⟨e1, row', h1⟩ := k.arr r r' sz N row hr' hH
    rw [← e1]; exact .eref r' i off sz N row' h1 hi
  | erefd r i off a hr hH =>
    intro a' h
    simp only [renA] at h
    obtain ⟨r', hr', rfl⟩ := one h
    obtain ⟨h1, h2⟩ := k.dead r r' hr' hr hH
    exact .erefd r' i off a h1 h2
  | rref b o off as cs e fz vf hi hW hl hv hR ih =>
    intro a' h; cases h
    exact .rref b o off as cs e fz vf (k.imm b hi) hW hl hv fun j hj => ih j hj (renA_pure (pureL_iff.1 hl.2 _ (getD_mem hj)))
  | lsl b o n sz as cs e fz vf hi hW hl hn hv hR ih =>
    intro a' h
    simp only [renA] at h
    obtain ⟨bs, hb, rfl⟩ := one h
    obtain ⟨l1, g1⟩ := renL_get hb
    exact .lsl b o n sz bs cs e fz vf (k.imm b hi) hW (renL_leaf hb hl) (by omega) (fun j hj => hv j (by omega)) fun j hj => ih j (by omega) (g1 j (by omega))
  | lref b o off as cs e fz vf hi hW hl hv hR ih =>
    intro a' h
    simp only [renA] at h
    obtain ⟨bs, hb, rfl⟩ := one h
    obtain ⟨l1, g1⟩ := renL_get hb
    exact .lref b o off bs cs e fz vf (k.imm b hi) hW (renL_leaf hb hl) (fun j hj => hv j (by omega)) fun j hj => ih j (by omega) (g1 j (by omega))
  | nilp => intro a' h; cases h; exact .nilp
  | fn g vs us as bs hv hu hR hS ihR ihS =>
    intro a' h
    simp only [renA] at h
    split at h
    · rename_i as' bs' h1 h2
      cases h
      obtain ⟨l1, g1⟩ := renL_get h1
      obtain ⟨l2, g2⟩ := renL_get h2
      exact .fn g vs us as' bs' (by omega) (by omega) (fun j hj => ihR j (by omega) (g1 j (by omega))) fun j hj => ihS j (by omega) (g2 j (by omega))
    · cases h
  | nilfn => intro a' h; cases h; exact .nilfn
  | agg vs as hv hl hR ih =>
    intro a' h
    simp only [renA] at h
    obtain ⟨bs, hb, rfl⟩ := one h
    obtain ⟨l1, g1⟩ := renL_get hb
    exact .agg vs bs (by omega) (renL_leaf hb hl) fun j hj => ih j (by omega) (g1 j (by omega))
  | tup vs as hv hR ih =>
    intro a' h
    simp only [renA] at h
    obtain ⟨bs, hb, rfl⟩ := one h
    obtain ⟨l1, g1⟩ := renL_get hb
    exact .tup vs bs (by omega) fun j hj => ih j (by omega) (g1 j (by omega))
  | und => intro a' h; cases h; exact .und
/-- a value that holds nothing of the call's own, in another view of memory -/
theorem R.mono {G1 G2 : Gh} {β β' : Nat → Nat} {H H' : Heap} {W : Array Obj} (k : ∀ b, @Imm G1 β H W b → @Imm G2 β' H' W b) {v : Value} {a : AV} (hp : pureA a = true) (h : @R G1 β H W v a) : @R G2 β' H' W v a :=
  R.ren (f := fun _ => none) ⟨k, fun _ _ _ h => (by cases h), fun _ _ _ _ _ h => (by cases h), fun _ _ h => (by cases h)⟩ h (renA_pure hp)
end Go.Ev
