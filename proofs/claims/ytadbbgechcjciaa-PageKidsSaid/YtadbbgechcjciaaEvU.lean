/- The reckoner tells the truth. No conditions. -/
import Derived.Test.YtadbbgechcjciaaEvT
set_option linter.unusedVariables false
set_option linter.unusedSimpArgs false
set_option linter.unusedSectionVars false
namespace Go.Ev
open Go

/-! ### read as plain values -/
theorem frzL_get {H : Heap} {u : Bool} : ∀ {as bs : List AV}, frzL H u as = some bs → bs.length = as.length ∧ ∀ j, j < as.length → frzA H u (as.getD j .und) = some (bs.getD j .und)
  | [], bs, h => by cases h; exact ⟨rfl, fun j hj => by simp at hj⟩
  | a :: as, bs, h => by
    unfold frzL at h
    split at h
    · rename_i b bs' h1 h2
      cases h
      obtain ⟨i1, i2⟩ := frzL_get h2
      refine ⟨by simp [i1], fun j hj => ?_⟩
      cases j with
      | zero => simpa using h1
      | succ j => simpa using i2 j (by simpa using hj)
    · cases h
theorem frzA_leaf {H : Heap} {u : Bool} {a b : AV} (h : frzA H u a = some b) (hl : a.leaf = true) : b.leaf = true := by
  cases a <;> simp only [frzA] at h <;> first | (cases h; done) | (cases h; exact hl) | (cases h; rfl) | skip
  · split at h <;> cases h; rfl
  · split at h <;> cases h; rfl
  · simp [AV.leaf] at hl
  · simp [AV.leaf] at hl
theorem frzL_leaf {H : Heap} {u : Bool} : ∀ {as bs : List AV}, frzL H u as = some bs → allLeaf as = true → allLeaf bs = true
  | [], bs, h, _ => by cases h; rfl
  | a :: as, bs, h, hl => by
    unfold frzL at h
    split at h
    · rename_i b bs' h1 h2
      cases h
      simp only [allLeaf, Bool.and_eq_true] at hl ⊢
      exact ⟨frzA_leaf h1 hl.1, frzL_leaf h2 hl.2⟩
    · cases h
theorem refsL_mem {as : List AV} {j : Nat} (hj : j < as.length) {r : Nat} (h : r ∈ refsA (as.getD j .und)) : r ∈ refsL as := by
  induction as generalizing j with
  | nil => simp at hj
  | cons a as ih =>
    simp only [refsL, List.mem_append]
    cases j with
    | zero => left; simpa using h
    | succ j => right; exact ih (j := j) (by simpa using hj) (by simpa using h)
mutual
theorem refsA_pure : ∀ {a : AV}, pureA a = true → refsA a = []
  | .int .., _ => rfl
  | .bool _, _ => rfl
  | .str _, _ => rfl
  | .sl .., _ => rfl
  | .osl .., h => by simp [pureA] at h
  | .ref .., h => by simp [pureA] at h
  | .eref .., h => by simp [pureA] at h
  | .rref .., _ => rfl
  | .lsl .., h => by simp [pureA] at h
  | .lref .., h => by simp [pureA] at h
  | .nilp, _ => rfl
  | .fn g a b, h => by
    simp only [pureA, Bool.and_eq_true] at h
    simp only [refsA, refsL_pure h.1, refsL_pure h.2]; rfl
  | .nilfn, _ => rfl
  | .agg cs, h => by simp only [pureA] at h; simp only [refsA, refsL_pure h]
  | .tup cs, h => by simp only [pureA] at h; simp only [refsA, refsL_pure h]
  | .und, h => by simp [pureA] at h
theorem refsL_pure : ∀ {as : List AV}, pureL as = true → refsL as = []
  | [], _ => rfl
  | a :: as, h => by
    simp only [pureL, Bool.and_eq_true] at h
    simp only [refsL, refsA_pure h.1, refsL_pure h.2]; rfl
end
theorem R.frz {G1 G2 : Gh} {β β' : Nat → Nat} {H H' : Heap} {W : Array Obj} {u : Bool} (hH : @HR G1 β H W) (k : ∀ b, @Imm G1 β H W b → @Imm G2 β' H' W b) {v : Value} {a : AV} (h : @R G1 β H W v a) :
    ∀ {a' : AV}, frzA H u a = some a' → (∀ r ∈ refsA a, ∀ sz n row, (H.at r = some (.arr sz n row) ∨ H.at r = some (.fro sz n row)) → @Imm G2 β' H' W (β r)) → @R G2 β' H' W v a' := by
  have one : ∀ {α γ : Type} {x : Option α} {g : α → γ} {y : γ}, x.map g = some y → ∃ z, x = some z ∧ g z = y := by
    intro α γ x g y h
    cases x with
    | none => cases h
    | some z => exact ⟨z, rfl, Option.some.inj h⟩
  induction h with
  | int k n => intro a' h _; cases h; exact .int k n
  | bool b => intro a' h _; cases h; exact .bool b
  | str s => intro a' h _; cases h; exact .str s
  | sl0 a c sz row full hf => intro a' h _; cases h; exact .sl0 a c sz row (u && full) (fun hh => hf (by simp only [Bool.and_eq_true] at hh; exact hh.2))
  | sl b o n c sz row full cs e fz vf hi hW hc hf hl hv hR ih =>
    intro a' h _; cases h
    refine .sl b o n c sz row (u && full) cs e fz vf (k b hi) hW hc (fun hh => hf (by simp only [Bool.and_eq_true] at hh; exact hh.2)) hl hv fun i j hi hj => ?_
    obtain ⟨l1, l2, l3⟩ := hl i hi
    exact R.mono k (pureL_iff.1 l3 _ (getD_mem (by omega))) (hR i j hi hj)
  | osl r off len c sz N m row full a ha hr hW hn hc hf hs hu =>
    intro a' h himm
    have hrow : rowsOf H r = some (sz, N, row) := by unfold rowsOf; rcases hr with hr | hr <;> rw [hr]
    simp only [frzA, hrow, Option.some.injEq] at h
    subst h
    have hI := himm r (by simp [refsA]) sz N row hr
    have hfull : (u && full) = true → c = len := fun hh => hf (by simp only [Bool.and_eq_true] at hh; exact hh.2)
    by_cases h0 : len = 0
    · subst h0
      exact .sl0 _ _ _ _ _ hfull
    · have had := ha (by omega)
      subst had
      have main : ∀ (vs : Array Value) (et : TypeId) (fz : Nat × Nat), W[β r]? = some (.cells vs et fz) → N * sz ≤ vs.size →
          (∀ i, i < N → (row i).length = sz ∧ allLeaf (row i) = true ∧ pureL (row i) = true) → (∀ i j, i < N → j < sz → @R G1 β H W (vs.getD (i * sz + j) undef) ((row i).getD j .und)) →
          @R G2 β' H' W (.slice (some ⟨β r, off * sz, none⟩) len c) (.sl sz len (fun i => row (off + i)) (u && full)) := by
        intro vs et fz hw hsz hl hv
        refine .sl (β r) (off * sz) len c sz _ _ vs et fz (fun i j => vs.getD ((off + i) * sz + j) undef) hI hw hc hfull (fun i hi => hl (off + i) (by omega)) (fun i j hi hj => ?_) fun i j hi hj => ?_
        · have h1 : (off + i) * sz + sz ≤ N * sz := by
            have := Nat.mul_le_mul_right sz (show off + i + 1 ≤ N by omega)
            rw [Nat.succ_mul] at this; exact this
          rw [show off * sz + i * sz + j = (off + i) * sz + j by rw [Nat.add_mul]]
          exact getD_some (by omega)
        · obtain ⟨l1, l2, l3⟩ := hl (off + i) (by omega)
          exact R.mono k (pureL_iff.1 l3 _ (getD_mem (by omega))) (hv (off + i) j (by omega) hj)
      rcases hr with hr | hr
      · obtain ⟨vs, et, fz, hw, hsz, _, hl, hv⟩ := @HR.arr G1 _ _ _ hH r sz N row hr; exact main vs et fz hw hsz hl hv
      · obtain ⟨vs, et, fz, _, hw, hsz, hl, hv⟩ := @HR.fro G1 _ _ _ hH r sz N row hr; exact main vs et fz hw hsz hl hv
  | osld sz r off len c b o full a ha hc hf hr hH' =>
    intro a' h _
    have hrow : rowsOf H r = none := by unfold rowsOf; rw [hH']
    simp only [frzA, hrow] at h
    cases h
  | ref r off cs hH => intro a' h _; cases h
  | eref r i off sz N row hH hi => intro a' h _; cases h
  | erefd r i off a hr hH => intro a' h _; cases h
  | rref b o off as cs e fz vf hi hW hl hv hR ih => intro a' h _; cases h
  | lsl b o n sz as cs e fz vf hi hW hl hn hv hR ih => intro a' h _; cases h
  | lref b o off as cs e fz vf hi hW hl hv hR ih => intro a' h _; cases h
  | nilp => intro a' h _; cases h; exact .nilp
  | fn g vs us as bs hv hu hR hS ihR ihS =>
    intro a' h himm
    simp only [frzA] at h
    split at h
    · rename_i as' bs' h1 h2
      cases h
      obtain ⟨l1, g1⟩ := frzL_get h1
      obtain ⟨l2, g2⟩ := frzL_get h2
      exact .fn g vs us as' bs' (by omega) (by omega) (fun j hj => ihR j (by omega) (g1 j (by omega)) fun r hr => himm r (by simp only [refsA, List.mem_append]; exact .inl (refsL_mem (by omega) hr))) fun j hj => ihS j (by omega) (g2 j (by omega)) fun r hr => himm r (by simp only [refsA, List.mem_append]; exact .inr (refsL_mem (by omega) hr))
    · cases h
  | nilfn => intro a' h _; cases h; exact .nilfn
  | agg vs as hv hl hR ih =>
    intro a' h himm
    simp only [frzA] at h
    obtain ⟨bs, hb, rfl⟩ := one h
    obtain ⟨l1, g1⟩ := frzL_get hb
    exact .agg vs bs (by omega) (frzL_leaf hb hl) fun j hj => ih j (by omega) (g1 j (by omega)) fun r hr => himm r (by simp only [refsA]; exact refsL_mem (by omega) hr)
  | tup vs as hv hR ih =>
    intro a' h himm
    simp only [frzA] at h
    obtain ⟨bs, hb, rfl⟩ := one h
    obtain ⟨l1, g1⟩ := frzL_get hb
    exact .tup vs bs (by omega) fun j hj => ih j (by omega) (g1 j (by omega)) fun r hr => himm r (by simp only [refsA]; exact refsL_mem (by omega) hr)
  | und => intro a' h _; cases h
theorem flatL_get : ∀ {as : List AV} {j : Nat}, flatL as = true → j < as.length → flatA (as.getD j .und) = true
  | a :: as, 0, h, _ => by simp only [flatL, Bool.and_eq_true] at h; simpa using h.1
  | a :: as, j + 1, h, hj => by simp only [flatL, Bool.and_eq_true] at h; simpa using flatL_get (j := j) h.2 (by simpa using hj)
theorem R.flat {G1 G2 : Gh} {β β' : Nat → Nat} {H H' : Heap} {W W' : Array Obj} {v : Value} {a : AV} (h : @R G1 β H W v a) : flatA a = true → @R G2 β' H' W' v a := by
  induction h with
  | int k n => exact fun _ => .int k n
  | bool b => exact fun _ => .bool b
  | str s => exact fun _ => .str s
  | nilp => exact fun _ => .nilp
  | nilfn => exact fun _ => .nilfn
  | agg vs as hv hl hR ih => exact fun hf => .agg vs as hv hl fun j hj => ih j hj (flatL_get hf hj)
  | tup vs as hv hR ih => exact fun hf => .tup vs as hv fun j hj => ih j hj (flatL_get hf hj)
  | _ => intro hf; cases hf

/-! ### calls -/
section
variable {G : Gh} {P : Program} {c : Ctx} {g : Call1} {β : Nat → Nat} {H : Heap} {w : World}
theorem CEnd.of {v : Value} {av : AV} {β' : Nat → Nat} {H' : Heap} {w' : World} (h1 : R β' H' w'.heap v av) (h2 : HR β' H' w'.heap) (h3 : Evo β H w.heap β' H' w'.heap) (h4 : Same w w') :
    CEnd (fun a H => some (a, H)) (av, H') β H w (.returned v) w' := ⟨v, av, β', H', rfl, rfl, h1, h2, h3, h4⟩
/-- a call on plain values: what stays and what comes -/
theorem plain_call (hg : Call1OK P g) {f : Nat} {as as' : List AV} {vs : Array Value} {r : AV} {H1 : Heap} (hR : HR β H w.heap) (hA : AR β H w.heap vs as) (hz : frzL H true as = some as') (hr : g f as' [] = some (r, H1))
    {R' : Ending → World → Prop}
    (hend : ∀ (G' : Gh) v β1 w', (∀ b, G'.g b ↔ G.g b ∨ ∃ q, Live (sealAll H (refsL as)) q ∧ q ∉ ([] : List Nat) ∧ β q = b) → @R G' β1 H1 w'.heap v r → @HR G' β1 H1 w'.heap → @Evo G' β [] w.heap β1 H1 w'.heap → Same w w' → R' (.returned v) w') :
    Calls P f vs w R' := by
  obtain ⟨hS, hSE, hSl, hSlive⟩ := sealAll_ok (rs := refsL as) hR
  let G' : Gh := ⟨fun b => G.g b ∨ ∃ q, Live (sealAll H (refsL as)) q ∧ q ∉ ([] : List Nat) ∧ β q = b⟩
  have hnil : ∀ q, ¬ Live ([] : Heap) q := fun q hq => by
    rcases hq with ⟨_, hq⟩ | ⟨_, _, _, hq⟩ <;> simp [Heap.at] at hq
  have himm : ∀ b, @Imm G β H w.heap b → @Imm G' β [] w.heap b := fun b hb => by
    refine ⟨hb.1, fun q hq => absurd hq (hnil q), fun hg => ?_⟩
    rcases hg with hg | ⟨q, hq, _, he⟩
    · exact hb.2.2 hg
    · exact hb.2.1 q (hSlive q hq).1 he
  have hHR : @HR G' β [] w.heap := by
    refine @HR.mk G' _ _ _ (fun q q' hq => absurd hq (hnil q)) (fun b hb => ⟨?_, fun q hq => absurd hq (hnil q)⟩) (fun r as hr => ?_) (fun r sz n row hr => ?_) fun r sz n row hr => ?_
    · rcases hb with hb | ⟨q, hq, _, rfl⟩
      · exact (@HR.gh G _ _ _ hR b hb).1
      · exact @HR.lt G _ _ _ hR _ (hSlive q hq).1
    all_goals simp [Heap.at] at hr
  have hAR : @AR G' β [] w.heap vs as' := by
    obtain ⟨l1, l2⟩ := frzL_get hz
    refine ⟨by rw [hA.1]; omega, fun j hj => ?_⟩
    refine R.frz hR himm (hA.2 j (by omega)) (l2 j (by omega)) fun q hq sz n row ho => ?_
    have hq := refsL_mem (by omega) hq
    rcases ho with ho | ho
    · have hl : Live H q := .inr ⟨_, _, _, ho⟩
      refine ⟨@HR.lt G _ _ _ hR _ hl, fun p hp => absurd hp (hnil p), fun hg => ?_⟩
      rcases hg with hg | ⟨p, hp, _, he⟩
      · exact (@HR.gh G _ _ _ hR _ hg).2 q hl rfl
      · obtain ⟨p1, p2⟩ := hSlive p hp
        have := @HR.inj G _ _ _ hR p q p1 hl he
        subst this
        obtain ⟨cs, hcs⟩ := p2 hq
        rw [ho] at hcs; cases hcs
    · obtain ⟨_, _, _, hi, _⟩ := @HR.fro G _ _ _ hR q sz n row ho
      exact himm _ hi
  refine Calls.mono (@Call1OK.run P g hg f as' [] r H1 hr G' β vs w hHR hAR) ?_
  rintro en w' ⟨v, av, β1, H2, rfl, hk, q1, q2, q3, q4⟩
  cases hk
  exact hend G' v β1 w' (fun b => Iff.rfl) q1 q2 q3 q4
end
end Go.Ev
