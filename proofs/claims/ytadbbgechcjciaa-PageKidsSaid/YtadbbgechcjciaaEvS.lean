/- The reckoner's calls tell the truth: what a call leaves behind. No conditions. -/
import Derived.Test.YtadbbgechcjciaaEvR
set_option linter.unusedVariables false
set_option linter.unusedSimpArgs false
set_option linter.unusedSectionVars false
namespace Go.Ev
open Go

/-! ### objects put back -/
theorem allLt_iff {n : Nat} : ∀ {rs : List Nat}, allLt n rs = true ↔ ∀ r ∈ rs, r < n
  | [] => by simp [allLt]
  | r :: rs => by simp [allLt, allLt_iff (rs := rs)]
theorem setAll_length : ∀ {rs : List Nat} {H os : Heap}, (setAll H rs os).length = H.length
  | [], H, os => by cases os <;> rfl
  | r :: rs, H, [] => rfl
  | r :: rs, H, o :: os => by simp only [setAll]; rw [setAll_length]; simp
theorem setAll_not {q : Nat} : ∀ {rs : List Nat} {H os : Heap}, q ∉ rs → (setAll H rs os).at q = H.at q
  | [], H, os, _ => by cases os <;> rfl
  | r :: rs, H, [], _ => rfl
  | r :: rs, H, o :: os, h => by
    simp only [setAll]
    rw [setAll_not (fun hm => h (by simp [hm])), at_set_ne (fun e => h (by simp [e]))]
theorem setAll_get {r : Nat} : ∀ {rs : List Nat} {H os : Heap} {i : Nat}, rs.Nodup → rs[i]? = some r → i < os.length → r < H.length → (setAll H rs os).at r = os.at i
  | [], H, os, i, _, h, _, _ => by simp at h
  | q :: rs, H, [], i, _, _, h, _ => by simp at h
  | q :: rs, H, o :: os, i, hn, h, hi, hl => by
    simp only [setAll]
    cases i with
    | zero =>
      simp at h; subst h
      rw [setAll_not (List.nodup_cons.1 hn).1, at_set_eq hl]
      rfl
    | succ i =>
      have := setAll_get (rs := rs) (H := H.set q o) (os := os) (i := i) (List.nodup_cons.1 hn).2 (by simpa using h) (by simpa using hi) (by simpa using hl)
      rw [this]; rfl
theorem at_append_lt {H K : Heap} {q : Nat} (h : q < H.length) : Heap.at (H ++ K) q = H.at q := by
  unfold Heap.at
  rw [List.getD_eq_getElem?_getD, List.getD_eq_getElem?_getD, List.getElem?_append_left h]
theorem at_append_ge {H K : Heap} {j : Nat} : Heap.at (H ++ K) (H.length + j) = K.at j := by
  unfold Heap.at
  rw [List.getD_eq_getElem?_getD, List.getD_eq_getElem?_getD, List.getElem?_append_right (by omega), Nat.add_sub_cancel_left]
theorem at_drop {K : Heap} {n j : Nat} : Heap.at (K.drop n) j = K.at (n + j) := by
  unfold Heap.at
  rw [List.getD_eq_getElem?_getD, List.getD_eq_getElem?_getD, List.getElem?_drop]
theorem at_take {K : Heap} {n j : Nat} (h : j < n) : Heap.at (K.take n) j = K.at j := by
  unfold Heap.at
  rw [List.getD_eq_getElem?_getD, List.getD_eq_getElem?_getD, List.getElem?_take, if_pos h]

/-- how the objects of a call go back to its caller -/
structure Back (f : Nat → Option Nat) (rs : List Nat) (β : Nat → Nat) (H : Heap) (β1 : Nat → Nat) (H1 : Heap) (β2 : Nat → Nat) (Hf : Heap) : Prop where
  len : H.length ≤ Hf.length
  lt : ∀ r ∈ rs, r < H.length
  keep : ∀ q, q < H.length → q ∉ rs → β2 q = β q ∧ Hf.at q = H.at q
  pass : ∀ i r, rs[i]? = some r → f i = some r
  go : ∀ p q, f p = some q → q < Hf.length ∧ β2 q = β1 p ∧ renOb f (H1.at p) = some (Hf.at q)
  come : ∀ q, q < Hf.length → (q < H.length ∧ q ∉ rs) ∨ ∃ p, f p = some q
theorem back_of {rs ks : List Nat} {H H1 os : Heap} {β β1 : Nat → Nat} {f : Nat → Option Nat} (hn : rs.Nodup) (hlt : ∀ r ∈ rs, r < H.length) (hk : ks.Nodup) (hkl : rs.length ≤ ks.length) (hki : ∀ i, i < rs.length → ks[i]? = some i)
    (hf : f = fun i => if i < rs.length then rs[i]? else (idxIn i ks 0).map fun j => H.length + (j - rs.length)) (hos : renObs f H1 ks = some os) :
    ∃ β2, Back f rs β H β1 H1 β2 (setAll H rs (os.take rs.length) ++ os.drop rs.length) := by
  obtain ⟨hol, hog⟩ := renObs_get hos
  have hog : ∀ i r, ks[i]? = some r → renOb f (H1.at r) = some (os.at i) := by
    intro i r h
    obtain ⟨o, h1, h2⟩ := hog i r h
    have : os.at i = o := by unfold Heap.at; rw [List.getD_eq_getElem?_getD, h2]; rfl
    rw [this]; exact h1
  have hflen : (setAll H rs (os.take rs.length) ++ os.drop rs.length).length = H.length + (ks.length - rs.length) := by
    rw [List.length_append, setAll_length, List.length_drop, hol]
  have fpass : ∀ i r, rs[i]? = some r → f i = some r := by
    intro i r h
    have hi : i < rs.length := (List.getElem?_eq_some_iff.1 h).1
    rw [hf]; simp only
    rw [if_pos hi]; exact h
  have fnew : ∀ j p, ks[j]? = some p → rs.length ≤ j → f p = some (H.length + (j - rs.length)) := by
    intro j p h hj
    have hp : ¬ p < rs.length := fun hp => by
      have := nodup_inj hk (hki p hp) h; omega
    rw [hf]; simp only
    rw [if_neg hp, idxIn_get hk h]; rfl
  refine ⟨fun q => if q < H.length then (match idxIn q rs 0 with | some i => β1 i | none => β q) else β1 (ks.getD (rs.length + (q - H.length)) 0), ?_, hlt, fun q hq hnq => ⟨?_, ?_⟩, fpass, fun p q hpq => ?_, fun q hq => ?_⟩
  · rw [hflen]; omega
  · simp only [if_pos hq]
    cases hi : idxIn q rs 0 with
    | none => rfl
    | some i => exact absurd (List.mem_of_getElem? (idxIn_some hi).2) hnq
  · rw [at_append_lt (by rw [setAll_length]; exact hq), setAll_not hnq]
  · rw [hf] at hpq
    simp only at hpq
    split at hpq
    · rename_i hp
      have hql := hlt q (List.mem_of_getElem? hpq)
      refine ⟨by rw [hflen]; omega, ?_, ?_⟩
      · simp only [if_pos hql, idxIn_get hn hpq]
      · rw [at_append_lt (by rw [setAll_length]; exact hql), setAll_get hn hpq (by rw [List.length_take]; omega) hql, at_take hp]
        exact hog p p (hki p hp)
    · rename_i hp
      cases hi : idxIn p ks 0 with
      | none => rw [hi] at hpq; cases hpq
      | some j =>
        rw [hi] at hpq
        simp only [Option.map_some, Option.some.injEq] at hpq
        subst hpq
        have hj := (idxIn_some hi).2
        rw [Nat.sub_zero] at hj
        have hjl : j < ks.length := (List.getElem?_eq_some_iff.1 hj).1
        have hjr : rs.length ≤ j := Nat.le_of_not_lt fun h => by
          have := hki j h
          rw [hj] at this
          have := Option.some.inj this; omega
        refine ⟨by rw [hflen]; omega, ?_, ?_⟩
        · simp only [if_neg (show ¬ H.length + (j - rs.length) < H.length by omega)]
          rw [show rs.length + (H.length + (j - rs.length) - H.length) = j by omega, List.getD_eq_getElem?_getD, hj]; rfl
        · have := at_append_ge (H := setAll H rs (os.take rs.length)) (K := os.drop rs.length) (j := j - rs.length)
          rw [setAll_length] at this
          rw [this, at_drop, show rs.length + (j - rs.length) = j by omega]
          exact hog j p hj
  · by_cases hql : q < H.length
    · by_cases hm : q ∈ rs
      · obtain ⟨i, hi⟩ := idxIn_mem (i := 0) hm
        have := (idxIn_some hi).2
        rw [Nat.sub_zero] at this
        exact .inr ⟨i, fpass i q this⟩
      · exact .inl ⟨hql, hm⟩
    · rw [hflen] at hq
      have hj : rs.length + (q - H.length) < ks.length := by omega
      refine .inr ⟨ks[rs.length + (q - H.length)], ?_⟩
      rw [fnew (rs.length + (q - H.length)) _ (List.getElem?_eq_getElem hj) (by omega)]
      congr 1; omega

section
variable {G G' : Gh} {f : Nat → Option Nat} {rs : List Nat} {β β0 β1 β2 : Nat → Nat} {H H0 H1 Hf : Heap} {W W' : Array Obj}
theorem Back.come_at (k : Back f rs β H β1 H1 β2 Hf) {q : Nat} {o : Ob} (h : Hf.at q = some o) : (q < H.length ∧ q ∉ rs ∧ H.at q = some o ∧ β2 q = β q) ∨ ∃ p o0, f p = some q ∧ H1.at p = some o0 ∧ renOb f (some o0) = some (some o) ∧ β2 q = β1 p := by
  rcases k.come q (Heap.at_lt h) with ⟨h1, h2⟩ | ⟨p, hp⟩
  · obtain ⟨e1, e2⟩ := k.keep q h1 h2
    exact .inl ⟨h1, h2, by rw [← e2]; exact h, e1⟩
  · obtain ⟨_, e1, e2⟩ := k.go p q hp
    rw [h] at e2
    cases ho : H1.at p with
    | none => rw [ho] at e2; cases e2
    | some o0 => exact .inr ⟨p, o0, hp, ho, by rw [← ho]; exact e2, e1⟩
theorem Back.come_live (k : Back f rs β H β1 H1 β2 Hf) {q : Nat} (h : Live Hf q) : (q < H.length ∧ q ∉ rs ∧ Live H q ∧ β2 q = β q) ∨ ∃ p, f p = some q ∧ Live H1 p ∧ β2 q = β1 p := by
  rcases h with ⟨cs, h⟩ | ⟨sz, n, row, h⟩
  · rcases k.come_at h with ⟨h1, h2, h3, h4⟩ | ⟨p, o0, h1, h2, h3, h4⟩
    · exact .inl ⟨h1, h2, .inl ⟨_, h3⟩, h4⟩
    · obtain ⟨cs', rfl, _⟩ := renOb_box h3
      exact .inr ⟨p, h1, .inl ⟨_, h2⟩, h4⟩
  · rcases k.come_at h with ⟨h1, h2, h3, h4⟩ | ⟨p, o0, h1, h2, h3, h4⟩
    · exact .inl ⟨h1, h2, .inr ⟨_, _, _, h3⟩, h4⟩
    · have := renOb_arr h3; subst this
      exact .inr ⟨p, h1, .inr ⟨_, _, _, h2⟩, h4⟩
theorem Back.ren (k : Back f rs β H β1 H1 β2 Hf) (hG1 : ∀ b, G.g b → G'.g b) (hG2 : ∀ q, Live H q → q ∉ rs → G'.g (β q)) : Ren G' G f β1 H1 β2 Hf W' where
  imm b hb := by
    refine ⟨hb.1, fun q hq => ?_, fun hg => hb.2.2 (hG1 b hg)⟩
    rcases k.come_live hq with ⟨_, h2, h3, h4⟩ | ⟨p, _, h2, h3⟩
    · rw [h4]; rintro rfl; exact hb.2.2 (hG2 q h3 h2)
    · rw [h3]; exact hb.2.1 p h2
  box r r' cs hf hr := by
    obtain ⟨_, e1, e2⟩ := k.go r r' hf
    refine ⟨e1, ?_⟩
    rw [hr] at e2
    simp only [renOb] at e2
    cases hl : renL f cs with
    | none => rw [hl] at e2; cases e2
    | some as => rw [hl] at e2; exact ⟨as, (Option.some.inj e2).symm⟩
  arr r r' sz n row hf hr := by
    obtain ⟨_, e1, e2⟩ := k.go r r' hf
    refine ⟨e1, row, ?_⟩
    rcases hr with hr | hr <;> rw [hr] at e2 <;> simp only [renOb, Option.some.injEq] at e2
    · exact .inl e2.symm
    · exact .inr e2.symm
  dead r r' hf _ hr := by
    obtain ⟨h1, _, e2⟩ := k.go r r' hf
    rw [hr] at e2
    simp only [renOb, Option.some.injEq] at e2
    exact ⟨h1, e2.symm⟩
end
end Go.Ev
