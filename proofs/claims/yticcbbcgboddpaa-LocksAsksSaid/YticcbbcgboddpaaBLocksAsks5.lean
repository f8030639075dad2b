/- Tables of locks stay right: plain facts. No conditions. -/
import Derived.Test.YticcbbcgboddpaaBLocksAsks4
import Derived.KernelRfl
set_option linter.unusedVariables false
set_option linter.unusedSimpArgs false
set_option maxRecDepth 20000
namespace Go.Proofs.YticcbbcgboddpaaC
open Go Go.Ev Go.Proofs
/-- the same as_ Tab, by pairs and cuts -/
structure TabP (H W : List TLock) : Prop where
  mayH : ∀ x ∈ H, mayB x = true
  held : H.Pairwise fun a b => againstB b a = false
  mayW : ∀ x ∈ W, mayB x = true
  one : W.Pairwise fun a b => a.Tx ≠ b.Tx
  wait : ∀ P x S, W = P ++ x :: S → grantsL x H P = false
theorem grantsL_nil (x : TLock) (P : List TLock) : grantsL x P [] = true ↔ ∀ y ∈ P, againstB x y = false := by
  unfold grantsL
  simp [List.any_eq_false]
theorem pairs_of {α : Type} {R : α → α → Prop} {L : List α} : L.Pairwise R ↔ ∀ i x, L[i]? = some x → ∀ y ∈ L.take i, R y x := by
  rw [List.pairwise_iff_getElem]
  constructor
  · intro h i x hx y hy
    obtain ⟨hi, rfl⟩ := List.getElem?_eq_some_iff.1 hx
    obtain ⟨j, hj, rfl⟩ := List.getElem_of_mem hy
    rw [List.length_take] at hj
    rw [List.getElem_take]
    exact h j i (by omega) hi (by omega)
  · intro h i j hi hj hij
    exact h j L[j] (by simp [hj]) L[i] (List.mem_take_iff_getElem.2 ⟨i, by omega, rfl⟩)
theorem tab_iff {H W : List TLock} : Tab H W ↔ H.length + W.length ≤ 200 ∧ TabP H W := by
  constructor
  · intro h
    refine ⟨h.size, ?_, ?_, ?_, ?_, ?_⟩
    · intro x hx
      obtain ⟨i, hi, rfl⟩ := List.getElem_of_mem hx
      exact (h.held i _ (by simp [hi])).1
    · rw [pairs_of]
      intro i x hx y hy
      exact (grantsL_nil x _).1 (h.held i x hx).2 y hy
    · intro x hx
      obtain ⟨i, hi, rfl⟩ := List.getElem_of_mem hx
      exact (h.wait i _ (by simp [hi])).1
    · rw [pairs_of]
      intro i x hx y hy e
      have := (h.wait i x hx).2.1
      unfold waitL at this
      rw [List.any_eq_false] at this
      exact this y hy (by simpa using e)
    · intro P x S e
      have := (h.wait P.length x (by rw [e]; simp)).2.2
      rwa [show W.take P.length = P by rw [e]; simp] at this
  · rintro ⟨h0, h1, h2, h3, h4, h5⟩
    refine ⟨h0, fun i x hx => ⟨h1 x (List.mem_of_getElem? hx), ?_⟩, fun i x hx => ⟨h3 x (List.mem_of_getElem? hx), ?_, ?_⟩⟩
    · rw [grantsL_nil]
      exact fun y hy => pairs_of.1 h2 i x hx y hy
    · unfold waitL
      rw [List.any_eq_false]
      intro y hy e
      exact pairs_of.1 h4 i x hx y hy (by simpa using e)
    · obtain ⟨hi, e⟩ := List.getElem?_eq_some_iff.1 hx
      exact h5 (W.take i) x (W.drop (i + 1)) (by rw [← e, ← List.drop_eq_getElem_cons hi, List.take_append_drop])
theorem grants_more {x : TLock} {H H' P P' : List TLock} (h : grantsL x H P = false) (h1 : ∀ y ∈ H, y ∈ H') (h2 : ∀ y ∈ P, y ∈ P') : grantsL x H' P' = false := by
  unfold grantsL at *
  rw [Bool.and_eq_false_iff, Bool.not_eq_false', Bool.not_eq_false', List.any_eq_true, List.any_eq_true] at *
  rcases h with ⟨y, hy, e⟩ | ⟨y, hy, e⟩
  · exact .inl ⟨y, h1 y hy, e⟩
  · exact .inr ⟨y, h2 y hy, e⟩
theorem grants_true {x : TLock} {H P : List TLock} (h : grantsL x H P = true) : (∀ y ∈ H, againstB x y = false) ∧ ∀ y ∈ P, againstB x y = false := by
  unfold grantsL at h
  simpa [List.any_eq_false] using h
theorem TabP.grant {H W : List TLock} (h : TabP H W) {x : TLock} (hm : mayB x = true) (hg : ∀ y ∈ H, againstB x y = false) : TabP (H ++ [x]) W where
  mayH y hy := by
    rcases List.mem_append.1 hy with hy | hy
    · exact h.mayH y hy
    · rw [List.mem_singleton] at hy; subst hy; exact hm
  held := List.pairwise_append.2 ⟨h.held, List.pairwise_singleton _ _, fun a ha b hb => by rw [List.mem_singleton] at hb; subst hb; exact hg a ha⟩
  mayW := h.mayW
  one := h.one
  wait P y S e := grants_more (h.wait P y S e) (fun z hz => List.mem_append_left _ hz) fun _ hz => hz
theorem TabP.queue {H W : List TLock} (h : TabP H W) {x : TLock} (hm : mayB x = true) (hw : ∀ y ∈ W, y.Tx ≠ x.Tx) (hg : grantsL x H W = false) : TabP H (W ++ [x]) where
  mayH := h.mayH
  held := h.held
  mayW y hy := by
    rcases List.mem_append.1 hy with hy | hy
    · exact h.mayW y hy
    · rw [List.mem_singleton] at hy; subst hy; exact hm
  one := List.pairwise_append.2 ⟨h.one, List.pairwise_singleton _ _, fun a ha b hb => by rw [List.mem_singleton] at hb; subst hb; exact hw a ha⟩
  wait P y S e := by
    rcases List.eq_nil_or_concat S with rfl | ⟨S', z, rfl⟩
    · have h1 : W = P ∧ [x] = [y] := List.append_inj' e (by simp)
      obtain ⟨rfl, e2⟩ := h1
      cases e2; exact hg
    · have h1 : W = P ++ y :: S' ∧ [x] = [z] := List.append_inj' (by rw [e]; simp) (by simp)
      exact h.wait P y S' h1.1
theorem waitL_false {W : List TLock} {tx : Int} (h : waitL W tx = false) : ∀ y ∈ W, y.Tx ≠ tx := by
  unfold waitL at h
  rw [List.any_eq_false] at h
  exact fun y hy e => h y hy (by simpa using e)
theorem TabP.sub {H H' : List TLock} (h : TabP H []) (hs : H'.Sublist H) : TabP H' [] where
  mayH x hx := h.mayH x (hs.subset hx)
  held := h.held.sublist hs
  mayW x hx := by simp at hx
  one := .nil
  wait P x S e := by simp at e
theorem TabP.heldOnly {H W : List TLock} (h : TabP H W) : TabP H [] where
  mayH := h.mayH
  held := h.held
  mayW x hx := by simp at hx
  one := .nil
  wait P x S e := by simp at e
theorem serve_tab (A : List TLock) : ∀ (R G W : List TLock), TabP (A ++ G) W → (∀ x ∈ R, mayB x = true) → R.Pairwise (fun a b => a.Tx ≠ b.Tx) → (∀ y ∈ W, ∀ x ∈ R, y.Tx ≠ x.Tx) → TabP (A ++ (serveF A G W R).1) (serveF A G W R).2
  | [], G, W, h, _, _, _ => h
  | x :: R, G, W, h, h1, h2, h3 => by
    unfold serveF
    obtain ⟨p1, p2⟩ := List.pairwise_cons.1 h2
    by_cases hg : grantsL x (A ++ G) W = true
    · rw [if_pos hg]
      refine serve_tab A R (G ++ [x]) W (by rw [← List.append_assoc]; exact h.grant (h1 x (by simp)) (grants_true hg).1) (fun y hy => h1 y (by simp [hy])) p2 (fun y hy z hz => h3 y hy z (by simp [hz]))
    · rw [if_neg hg]
      refine serve_tab A R G (W ++ [x]) (h.queue (h1 x (by simp)) (fun y hy => h3 y hy x (by simp)) (by simpa using hg)) (fun y hy => h1 y (by simp [hy])) p2 (fun y hy z hz => ?_)
      rcases List.mem_append.1 hy with hy | hy
      · exact h3 y hy z (by simp [hz])
      · rw [List.mem_singleton] at hy; subst hy; exact p1 z hz
theorem serve_tab0 {H W A R : List TLock} (h : TabP H W) (hA : A.Sublist H) (hR : R.Sublist W) : TabP (A ++ (serveF A [] [] R).1) (serveF A [] [] R).2 :=
  serve_tab A R [] [] (by rw [List.append_nil]; exact h.heldOnly.sub hA) (fun x hx => h.mayW x (hR.subset hx)) (h.one.sublist hR) (fun y hy => by simp at hy)
/-- who has a key of two ranges: they meet -/
theorem both_meet {a b : TRange} {key : ByteArray} (ha : rHas a key = true) (hb : rHas b key = true) : meetsB a b = true := by
  unfold rHas at ha hb
  rw [Bool.and_eq_true] at ha hb
  obtain ⟨ra, ha⟩ := ha
  obtain ⟨rb, hb⟩ := hb
  unfold meetsB
  rw [ra, rb, Bool.true_and, Bool.true_and]
  unfold hasB at *
  simp only [Bool.and_eq_true, Bool.not_eq_true', Bool.or_eq_true] at ha hb ⊢
  cases h : bl b.From a.From with
  | false =>
    refine .inl ⟨rfl, ?_⟩
    rcases ha.2 with h2 | h2
    · exact .inl h2
    · exact .inr (bl_le_lt hb.1 h2)
  | true =>
    refine .inr ⟨bl_asymm h, ?_⟩
    rcases hb.2 with h2 | h2
    · exact .inl h2
    · exact .inr (bl_le_lt ha.1 h2)
theorem held_apart {n : Nat} {v : Nat → TLock} {W : List TLock} (h : TabP (lst n v) W) {i j : Nat} (hi : i < n) (hj : j < i) : againstB (v i) (v j) = false := by
  have := List.pairwise_iff_getElem.1 h.held j i (by rw [lst_len]; omega) (by rw [lst_len]; omega) hj
  rwa [lst_get, lst_get] at this
theorem blk_some {n m : Nat} {v w : Nat → TLock} (h : TabP (lst n v) (lst m w)) {i : Nat} (hi : i < m) : blkL (lst n v) (lst m w) i (w i) ≠ [] := by
  have hg := h.wait ((lst m w).take i) (w i) ((lst m w).drop (i + 1)) (by
    have : w i = (lst m w)[i]'(by rw [lst_len]; exact hi) := by rw [lst_get]
    rw [this, ← List.drop_eq_getElem_cons, List.take_append_drop])
  unfold blkL
  intro e
  rw [List.map_eq_nil_iff, List.filter_eq_nil_iff] at e
  unfold grantsL at hg
  rw [Bool.and_eq_false_iff, Bool.not_eq_false', Bool.not_eq_false', List.any_eq_true, List.any_eq_true] at hg
  rcases hg with ⟨y, hy, hx⟩ | ⟨y, hy, hx⟩
  · exact e y (List.mem_append_left _ hy) hx
  · exact e y (List.mem_append_right _ hy) hx
theorem oth_lt {n : Nat} {v : Nat → TLock} (hn : 0 < n) : (othL (lst n v) (v 0).Tx).length < n := by
  have h1 : (othL (lst n v) (v 0).Tx).length < (lst n v).length := by
    unfold othL
    refine List.length_filter_lt_length_iff_exists.2 ⟨v 0, lst_mem.2 ⟨0, hn, rfl⟩, by simp⟩
  rwa [lst_len] at h1
theorem oth_le (L : List TLock) (tx : Int) : (othL L tx).length ≤ L.length := List.length_filter_le ..
theorem oth_sub (L : List TLock) (tx : Int) : (othL L tx).Sublist L := List.filter_sublist
/-- where one waits, one holds -/
theorem held_some {H W : List TLock} (h : TabP H W) (hn : 0 < H.length + W.length) : 0 < H.length := by
  cases H with
  | cons x H => simp
  | nil =>
    cases W with
    | nil => simp at hn
    | cons x W => have := h.wait [] x W rfl; cases this
end Go.Proofs.YticcbbcgboddpaaC

set_option maxRecDepth 40000
namespace Go.Proofs.YticcbbcgboddpaaC
open Go Go.Ev Go.Proofs
variable {ρ : Type}
theorem head_ok (k : Nat) (κ : AV → Option ρ) : callP ctx (k + 300) n_law22_head [] κ = κ (.bool true) := by kernel_rfl
end Go.Proofs.YticcbbcgboddpaaC

set_option linter.unusedVariables false
set_option maxRecDepth 20000
namespace Go.Proofs.YticcbbcgboddpaaC
open Go Go.Ev Go.Proofs
variable {ρ : Type}
noncomputable def law22_LocksShared_h0 (k j : Nat) (l : (Sl TLock)) (x4 : Int) (κ : AV → Heap → Option ρ) : Option ρ := headAt ctx k n_law22_LocksShared 0 [.r, .r, .l, .r] j ⟨(envOf 54 [(0, .sl 5 l.n (rowOf eLock l.w) l.u), (3, .ref 0 0), (4, .int .i64 x4)]), [some (.box [.sl 5 0 (rowOf eLock (fun _ => zLock)) true, .sl 5 0 (rowOf eLock (fun _ => zLock)) true])]⟩ κ
noncomputable def law22_LocksShared_h1 (k j : Nat) (l : (Sl TLock)) (x4 : Int) (b0_0 : Sl TLock) (b0_1 : Sl TLock) (κ : AV → Heap → Option ρ) : Option ρ := headAt ctx k n_law22_LocksShared 0 [.r, .r, .l, .r] j ⟨(envOf 54 [(0, .sl 5 l.n (rowOf eLock l.w) l.u), (3, .ref 0 0), (4, .int .i64 x4)]), [some (.box [.sl 5 b0_0.n (rowOf eLock b0_0.w) false, .sl 5 b0_1.n (rowOf eLock b0_1.w) false])]⟩ κ
noncomputable def law22_LocksShared_r0 (k j1 : Nat) (l : (Sl TLock)) (x4 : Int) (κ : AV → Heap → Option ρ) (v : AV) : Option ρ := resAt ctx k n_law22_LocksShared 0 [.r, .r, .l, .r, .into j1, .r, .l, .r, .r, .l, .l] 1 [] ⟨(envOf 54 [(0, .sl 5 l.n (rowOf eLock l.w) l.u), (3, .ref 0 0), (4, .int .i64 x4), (5, .ref 1 0), (23, .ref 1 4), (24, .agg (eLock ⟨((l.w ((x4).toNat)).Tx), ⟨(((l.w ((x4).toNat)).R).From), (((l.w ((x4).toNat)).R).To), (((l.w ((x4).toNat)).R).End)⟩, false⟩)), (25, v)]), [some (.box [.sl 5 0 (rowOf eLock (fun _ => zLock)) true, .sl 5 0 (rowOf eLock (fun _ => zLock)) true]), some (.box (eLock ⟨((l.w ((x4).toNat)).Tx), ⟨(((l.w ((x4).toNat)).R).From), (((l.w ((x4).toNat)).R).To), (((l.w ((x4).toNat)).R).End)⟩, false⟩))]⟩ κ
noncomputable def law22_LocksShared_r1 (k : Nat) (l : (Sl TLock)) (x4 : Int) (x16 : Bool) (κ : AV → Heap → Option ρ) (v : AV) : Option ρ := resAt ctx k n_law22_LocksShared 0 [.r, .r, .r, .l] 0 [] ⟨(envOf 54 [(0, .sl 5 l.n (rowOf eLock l.w) l.u), (3, .ref 0 0), (4, .int .i64 x4), (16, .bool x16), (53, v)]), [some (.box [.sl 5 0 (rowOf eLock (fun _ => zLock)) true, .sl 5 0 (rowOf eLock (fun _ => zLock)) true])]⟩ κ
noncomputable def law22_LocksShared_r2 (k j1 : Nat) (l : (Sl TLock)) (x4 : Int) (b0_0 : Sl TLock) (b0_1 : Sl TLock) (κ : AV → Heap → Option ρ) (v : AV) : Option ρ := resAt ctx k n_law22_LocksShared 0 [.r, .r, .l, .r, .into j1, .r, .l, .r, .r, .l, .l] 1 [] ⟨(envOf 54 [(0, .sl 5 l.n (rowOf eLock l.w) l.u), (3, .ref 0 0), (4, .int .i64 x4), (5, .ref 1 0), (23, .ref 1 4), (24, .agg (eLock ⟨((l.w ((x4).toNat)).Tx), ⟨(((l.w ((x4).toNat)).R).From), (((l.w ((x4).toNat)).R).To), (((l.w ((x4).toNat)).R).End)⟩, false⟩)), (25, v)]), [some (.box [.sl 5 b0_0.n (rowOf eLock b0_0.w) false, .sl 5 b0_1.n (rowOf eLock b0_1.w) false]), some (.box (eLock ⟨((l.w ((x4).toNat)).Tx), ⟨(((l.w ((x4).toNat)).R).From), (((l.w ((x4).toNat)).R).To), (((l.w ((x4).toNat)).R).End)⟩, false⟩))]⟩ κ
noncomputable def law22_LocksShared_r3 (k : Nat) (l : (Sl TLock)) (x4 : Int) (b0_0 : Sl TLock) (b0_1 : Sl TLock) (x16 : Bool) (κ : AV → Heap → Option ρ) (v : AV) : Option ρ := resAt ctx k n_law22_LocksShared 0 [.r, .r, .r, .l] 0 [] ⟨(envOf 54 [(0, .sl 5 l.n (rowOf eLock l.w) l.u), (3, .ref 0 0), (4, .int .i64 x4), (16, .bool x16), (53, v)]), [some (.box [.sl 5 b0_0.n (rowOf eLock b0_0.w) false, .sl 5 b0_1.n (rowOf eLock b0_1.w) false])]⟩ κ
noncomputable def law22_LocksShared_r4 (k j1 : Nat) (l : (Sl TLock)) (r0 : Bool) (x4 : Int) (κ : AV → Heap → Option ρ) (v : AV) : Option ρ := resAt ctx k n_law22_LocksShared 0 [.r, .r, .l, .r, .into j1, .r, .l, .r, .r, .l, .r, .l, .l] 0 [] ⟨(envOf 54 [(0, .sl 5 l.n (rowOf eLock l.w) l.u), (3, .ref 0 0), (4, .int .i64 x4), (5, .ref 1 0), (23, .ref 1 4), (24, .agg (eLock ⟨((l.w ((x4).toNat)).Tx), ⟨(((l.w ((x4).toNat)).R).From), (((l.w ((x4).toNat)).R).To), (((l.w ((x4).toNat)).R).End)⟩, false⟩)), (25, .bool r0), (26, v)]), [some (.box [.sl 5 0 (rowOf eLock (fun _ => zLock)) true, .sl 5 0 (rowOf eLock (fun _ => zLock)) true]), some (.box (eLock ⟨((l.w ((x4).toNat)).Tx), ⟨(((l.w ((x4).toNat)).R).From), (((l.w ((x4).toNat)).R).To), (((l.w ((x4).toNat)).R).End)⟩, false⟩))]⟩ κ
noncomputable def law22_LocksShared_r5 (k j1 : Nat) (l : (Sl TLock)) (r0 : Bool) (x4 : Int) (κ : AV → Heap → Option ρ) (v : AV) : Option ρ := resAt ctx k n_law22_LocksShared 0 [.r, .r, .l, .r, .into j1, .r, .l, .r, .r, .r, .l] 2 [] ⟨(envOf 54 [(0, .sl 5 l.n (rowOf eLock l.w) l.u), (3, .ref 0 0), (4, .int .i64 x4), (5, .ref 1 0), (23, .ref 1 4), (24, .agg (eLock ⟨((l.w ((x4).toNat)).Tx), ⟨(((l.w ((x4).toNat)).R).From), (((l.w ((x4).toNat)).R).To), (((l.w ((x4).toNat)).R).End)⟩, false⟩)), (25, .bool r0), (28, .agg (eLocks zLocks)), (29, .agg (eLock ⟨((l.w ((x4).toNat)).Tx), ⟨(((l.w ((x4).toNat)).R).From), (((l.w ((x4).toNat)).R).To), (((l.w ((x4).toNat)).R).End)⟩, false⟩)), (30, v)]), [some (.box [.sl 5 0 (rowOf eLock (fun _ => zLock)) true, .sl 5 0 (rowOf eLock (fun _ => zLock)) true]), some (.box (eLock ⟨((l.w ((x4).toNat)).Tx), ⟨(((l.w ((x4).toNat)).R).From), (((l.w ((x4).toNat)).R).To), (((l.w ((x4).toNat)).R).End)⟩, false⟩))]⟩ κ
noncomputable def law22_LocksShared_r6 (k j1 : Nat) (l : (Sl TLock)) (r2 : Bool) (x4 : Int) (b0_0 : Sl TLock) (b0_1 : Sl TLock) (κ : AV → Heap → Option ρ) (v : AV) : Option ρ := resAt ctx k n_law22_LocksShared 0 [.r, .r, .l, .r, .into j1, .r, .l, .r, .r, .l, .r, .l, .l] 0 [] ⟨(envOf 54 [(0, .sl 5 l.n (rowOf eLock l.w) l.u), (3, .ref 0 0), (4, .int .i64 x4), (5, .ref 1 0), (23, .ref 1 4), (24, .agg (eLock ⟨((l.w ((x4).toNat)).Tx), ⟨(((l.w ((x4).toNat)).R).From), (((l.w ((x4).toNat)).R).To), (((l.w ((x4).toNat)).R).End)⟩, false⟩)), (25, .bool r2), (26, v)]), [some (.box [.sl 5 b0_0.n (rowOf eLock b0_0.w) false, .sl 5 b0_1.n (rowOf eLock b0_1.w) false]), some (.box (eLock ⟨((l.w ((x4).toNat)).Tx), ⟨(((l.w ((x4).toNat)).R).From), (((l.w ((x4).toNat)).R).To), (((l.w ((x4).toNat)).R).End)⟩, false⟩))]⟩ κ
noncomputable def law22_LocksShared_r7 (k j1 : Nat) (l : (Sl TLock)) (r2 : Bool) (x4 : Int) (b0_0 : Sl TLock) (b0_1 : Sl TLock) (κ : AV → Heap → Option ρ) (v : AV) : Option ρ := resAt ctx k n_law22_LocksShared 0 [.r, .r, .l, .r, .into j1, .r, .l, .r, .r, .r, .l] 2 [] ⟨(envOf 54 [(0, .sl 5 l.n (rowOf eLock l.w) l.u), (3, .ref 0 0), (4, .int .i64 x4), (5, .ref 1 0), (23, .ref 1 4), (24, .agg (eLock ⟨((l.w ((x4).toNat)).Tx), ⟨(((l.w ((x4).toNat)).R).From), (((l.w ((x4).toNat)).R).To), (((l.w ((x4).toNat)).R).End)⟩, false⟩)), (25, .bool r2), (28, .agg (eLocks ⟨⟨b0_0.n, b0_0.w, false⟩, ⟨b0_1.n, b0_1.w, false⟩⟩)), (29, .agg (eLock ⟨((l.w ((x4).toNat)).Tx), ⟨(((l.w ((x4).toNat)).R).From), (((l.w ((x4).toNat)).R).To), (((l.w ((x4).toNat)).R).End)⟩, false⟩)), (30, v)]), [some (.box [.sl 5 b0_0.n (rowOf eLock b0_0.w) false, .sl 5 b0_1.n (rowOf eLock b0_1.w) false]), some (.box (eLock ⟨((l.w ((x4).toNat)).Tx), ⟨(((l.w ((x4).toNat)).R).From), (((l.w ((x4).toNat)).R).To), (((l.w ((x4).toNat)).R).End)⟩, false⟩))]⟩ κ
noncomputable def law22_LocksShared_r8 (k j1 : Nat) (l : (Sl TLock)) (x4 : Int) (r5a : TLocks) (r5b : Bool) (r5c : Int) (κ : AV → Heap → Option ρ) (v : AV) : Option ρ := resAt ctx k n_law22_LocksShared 0 [.r, .r, .l, .r, .into j1, .r, .l, .r, .r, .r, .r, .r, .l, .l] 11 [(46, false), (40, false)] ⟨(envOf 54 [(0, .sl 5 l.n (rowOf eLock l.w) l.u), (3, .ref 0 0), (4, .int .i64 x4), (5, .ref 1 0), (6, .ref 2 0), (7, .bool r5b), (8, .int .i64 r5c), (34, .int .i64 r5c), (35, .bool (!decide (r5c = 0))), (38, .bool r5b), (39, .bool (!r5b)), (40, .bool (!r5b)), (41, .ref 2 1), (42, .sl 5 r5a.Waits.n (rowOf eLock r5a.Waits.w) false), (43, .int .i64 (r5a.Waits.n : Int)), (44, .bool (!decide ((r5a.Waits.n : Int) = 0))), (45, .bool (!decide ((r5a.Waits.n : Int) = 0))), (46, .bool (!decide ((r5a.Waits.n : Int) = 0))), (47, .agg (eLocks ⟨⟨r5a.Held.n, r5a.Held.w, false⟩, ⟨r5a.Waits.n, r5a.Waits.w, false⟩⟩)), (48, .agg (eLock ⟨((l.w ((x4).toNat)).Tx), ⟨(((l.w ((x4).toNat)).R).From), (((l.w ((x4).toNat)).R).To), (((l.w ((x4).toNat)).R).End)⟩, false⟩)), (49, v)]), [some (.box [.sl 5 0 (rowOf eLock (fun _ => zLock)) true, .sl 5 0 (rowOf eLock (fun _ => zLock)) true]), some (.box (eLock ⟨((l.w ((x4).toNat)).Tx), ⟨(((l.w ((x4).toNat)).R).From), (((l.w ((x4).toNat)).R).To), (((l.w ((x4).toNat)).R).End)⟩, false⟩)), some (.box [.sl 5 r5a.Held.n (rowOf eLock r5a.Held.w) false, .sl 5 r5a.Waits.n (rowOf eLock r5a.Waits.w) false])]⟩ κ
noncomputable def law22_LocksShared_r9 (k j1 : Nat) (l : (Sl TLock)) (x4 : Int) (b0_0 : Sl TLock) (b0_1 : Sl TLock) (r7a : TLocks) (r7b : Bool) (r7c : Int) (κ : AV → Heap → Option ρ) (v : AV) : Option ρ := resAt ctx k n_law22_LocksShared 0 [.r, .r, .l, .r, .into j1, .r, .l, .r, .r, .r, .r, .r, .l, .l] 11 [(46, false), (40, false)] ⟨(envOf 54 [(0, .sl 5 l.n (rowOf eLock l.w) l.u), (3, .ref 0 0), (4, .int .i64 x4), (5, .ref 1 0), (6, .ref 2 0), (7, .bool r7b), (8, .int .i64 r7c), (34, .int .i64 r7c), (35, .bool (!decide (r7c = 0))), (38, .bool r7b), (39, .bool (!r7b)), (40, .bool (!r7b)), (41, .ref 2 1), (42, .sl 5 r7a.Waits.n (rowOf eLock r7a.Waits.w) false), (43, .int .i64 (r7a.Waits.n : Int)), (44, .bool (!decide ((r7a.Waits.n : Int) = 0))), (45, .bool (!decide ((r7a.Waits.n : Int) = 0))), (46, .bool (!decide ((r7a.Waits.n : Int) = 0))), (47, .agg (eLocks ⟨⟨r7a.Held.n, r7a.Held.w, false⟩, ⟨r7a.Waits.n, r7a.Waits.w, false⟩⟩)), (48, .agg (eLock ⟨((l.w ((x4).toNat)).Tx), ⟨(((l.w ((x4).toNat)).R).From), (((l.w ((x4).toNat)).R).To), (((l.w ((x4).toNat)).R).End)⟩, false⟩)), (49, v)]), [some (.box [.sl 5 b0_0.n (rowOf eLock b0_0.w) false, .sl 5 b0_1.n (rowOf eLock b0_1.w) false]), some (.box (eLock ⟨((l.w ((x4).toNat)).Tx), ⟨(((l.w ((x4).toNat)).R).From), (((l.w ((x4).toNat)).R).To), (((l.w ((x4).toNat)).R).End)⟩, false⟩)), some (.box [.sl 5 r7a.Held.n (rowOf eLock r7a.Held.w) false, .sl 5 r7a.Waits.n (rowOf eLock r7a.Waits.w) false])]⟩ κ
theorem law22_LocksShared_h0_s (k j : Nat) (l : (Sl TLock)) (x4 : Int) (κ : AV → Heap → Option ρ) : law22_LocksShared_h0 k (j + 1) l x4 κ =
  (bif decide (x4 < (l.n : Int)) then
   (bif decide (x4 < 60) then
    (bif idxOK x4 l.n then
     callP ctx k n_law22_great [.agg (eLock ⟨((l.w ((x4).toNat)).Tx), ⟨(((l.w ((x4).toNat)).R).From), (((l.w ((x4).toNat)).R).To), (((l.w ((x4).toNat)).R).End)⟩, false⟩)] (law22_LocksShared_r0 k j l x4 κ)
    else none)
   else callP ctx k n_law22_head [] (law22_LocksShared_r1 k l x4 (decide (x4 < 60)) κ))
  else callP ctx k n_law22_head [] (law22_LocksShared_r1 k l x4 false κ)) := by kernel_rfl
theorem law22_LocksShared_h1_s (k j : Nat) (l : (Sl TLock)) (x4 : Int) (b0_0 : Sl TLock) (b0_1 : Sl TLock) (κ : AV → Heap → Option ρ) : law22_LocksShared_h1 k (j + 1) l x4 b0_0 b0_1 κ =
  (bif decide (x4 < (l.n : Int)) then
   (bif decide (x4 < 60) then
    (bif idxOK x4 l.n then
     callP ctx k n_law22_great [.agg (eLock ⟨((l.w ((x4).toNat)).Tx), ⟨(((l.w ((x4).toNat)).R).From), (((l.w ((x4).toNat)).R).To), (((l.w ((x4).toNat)).R).End)⟩, false⟩)] (law22_LocksShared_r2 k j l x4 b0_0 b0_1 κ)
    else none)
   else callP ctx k n_law22_head [] (law22_LocksShared_r3 k l x4 b0_0 b0_1 (decide (x4 < 60)) κ))
  else callP ctx k n_law22_head [] (law22_LocksShared_r3 k l x4 b0_0 b0_1 false κ)) := by kernel_rfl
theorem law22_LocksShared_r0_s (k j1 : Nat) (l : (Sl TLock)) (x4 : Int) (r0 : Bool) (κ : AV → Heap → Option ρ) : law22_LocksShared_r0 k j1 l x4 κ (.bool r0) =
  (bif r0 then
   callP ctx k n_law22_head [] (law22_LocksShared_r4 k j1 l r0 x4 κ)
  else callP ctx k n_locks_Ask [.agg (eLocks zLocks), .agg (eLock ⟨((l.w ((x4).toNat)).Tx), ⟨(((l.w ((x4).toNat)).R).From), (((l.w ((x4).toNat)).R).To), (((l.w ((x4).toNat)).R).End)⟩, false⟩)] (law22_LocksShared_r5 k j1 l r0 x4 κ)) := by kernel_rfl
theorem law22_LocksShared_r1_s (k : Nat) (l : (Sl TLock)) (x4 : Int) (x16 : Bool) (r1 : Bool) (κ : AV → Heap → Option ρ) : law22_LocksShared_r1 k l x4 x16 κ (.bool r1) =
  κ (.bool r1) [some (.box [.sl 5 0 (rowOf eLock (fun _ => zLock)) true, .sl 5 0 (rowOf eLock (fun _ => zLock)) true])] := by kernel_rfl
theorem law22_LocksShared_r2_s (k j1 : Nat) (l : (Sl TLock)) (x4 : Int) (b0_0 : Sl TLock) (b0_1 : Sl TLock) (r2 : Bool) (κ : AV → Heap → Option ρ) : law22_LocksShared_r2 k j1 l x4 b0_0 b0_1 κ (.bool r2) =
  (bif r2 then
   callP ctx k n_law22_head [] (law22_LocksShared_r6 k j1 l r2 x4 b0_0 b0_1 κ)
  else callP ctx k n_locks_Ask [.agg (eLocks ⟨⟨b0_0.n, b0_0.w, false⟩, ⟨b0_1.n, b0_1.w, false⟩⟩), .agg (eLock ⟨((l.w ((x4).toNat)).Tx), ⟨(((l.w ((x4).toNat)).R).From), (((l.w ((x4).toNat)).R).To), (((l.w ((x4).toNat)).R).End)⟩, false⟩)] (law22_LocksShared_r7 k j1 l r2 x4 b0_0 b0_1 κ)) := by kernel_rfl
theorem law22_LocksShared_r3_s (k : Nat) (l : (Sl TLock)) (x4 : Int) (b0_0 : Sl TLock) (b0_1 : Sl TLock) (x16 : Bool) (r3 : Bool) (κ : AV → Heap → Option ρ) : law22_LocksShared_r3 k l x4 b0_0 b0_1 x16 κ (.bool r3) =
  κ (.bool r3) [some (.box [.sl 5 b0_0.n (rowOf eLock b0_0.w) false, .sl 5 b0_1.n (rowOf eLock b0_1.w) false])] := by kernel_rfl
theorem law22_LocksShared_r4_s (k j1 : Nat) (l : (Sl TLock)) (r0 : Bool) (x4 : Int) (r4 : Bool) (κ : AV → Heap → Option ρ) : law22_LocksShared_r4 k j1 l r0 x4 κ (.bool r4) =
  κ (.bool r4) [some (.box [.sl 5 0 (rowOf eLock (fun _ => zLock)) true, .sl 5 0 (rowOf eLock (fun _ => zLock)) true]), some (.box (eLock ⟨((l.w ((x4).toNat)).Tx), ⟨(((l.w ((x4).toNat)).R).From), (((l.w ((x4).toNat)).R).To), (((l.w ((x4).toNat)).R).End)⟩, false⟩))] := by kernel_rfl
theorem law22_LocksShared_r5_s (k j1 : Nat) (l : (Sl TLock)) (r0 : Bool) (x4 : Int) (r5a : TLocks) (r5b : Bool) (r5c : Int) (κ : AV → Heap → Option ρ) : law22_LocksShared_r5 k j1 l r0 x4 κ (.tup [.agg (eLocks ⟨⟨r5a.Held.n, r5a.Held.w, false⟩, ⟨r5a.Waits.n, r5a.Waits.w, false⟩⟩), .bool r5b, .int .i64 r5c]) =
  (bif !decide (r5c = 0) then
   (bif !decide (r5c = 2) then
    κ (.bool false) [some (.box [.sl 5 0 (rowOf eLock (fun _ => zLock)) true, .sl 5 0 (rowOf eLock (fun _ => zLock)) true]), some (.box (eLock ⟨((l.w ((x4).toNat)).Tx), ⟨(((l.w ((x4).toNat)).R).From), (((l.w ((x4).toNat)).R).To), (((l.w ((x4).toNat)).R).End)⟩, false⟩)), some (.box [.sl 5 r5a.Held.n (rowOf eLock r5a.Held.w) false, .sl 5 r5a.Waits.n (rowOf eLock r5a.Waits.w) false])]
   else law22_LocksShared_h0 k j1 l (wi64 (x4 + 1)) κ)
  else (bif !r5b then
    κ (.bool false) [some (.box [.sl 5 0 (rowOf eLock (fun _ => zLock)) true, .sl 5 0 (rowOf eLock (fun _ => zLock)) true]), some (.box [.sl 5 r5a.Held.n (rowOf eLock r5a.Held.w) false, .sl 5 r5a.Waits.n (rowOf eLock r5a.Waits.w) false])]
   else (bif !decide ((r5a.Waits.n : Int) = 0) then
     κ (.bool false) [some (.box [.sl 5 0 (rowOf eLock (fun _ => zLock)) true, .sl 5 0 (rowOf eLock (fun _ => zLock)) true]), some (.box [.sl 5 r5a.Held.n (rowOf eLock r5a.Held.w) false, .sl 5 r5a.Waits.n (rowOf eLock r5a.Waits.w) false])]
    else callP ctx k n_locks_Holds [.agg (eLocks ⟨⟨r5a.Held.n, r5a.Held.w, false⟩, ⟨r5a.Waits.n, r5a.Waits.w, false⟩⟩), .agg (eLock ⟨((l.w ((x4).toNat)).Tx), ⟨(((l.w ((x4).toNat)).R).From), (((l.w ((x4).toNat)).R).To), (((l.w ((x4).toNat)).R).End)⟩, false⟩)] (law22_LocksShared_r8 k j1 l x4 r5a r5b r5c κ)))) := by kernel_rfl
theorem law22_LocksShared_r6_s (k j1 : Nat) (l : (Sl TLock)) (r2 : Bool) (x4 : Int) (b0_0 : Sl TLock) (b0_1 : Sl TLock) (r6 : Bool) (κ : AV → Heap → Option ρ) : law22_LocksShared_r6 k j1 l r2 x4 b0_0 b0_1 κ (.bool r6) =
  κ (.bool r6) [some (.box [.sl 5 b0_0.n (rowOf eLock b0_0.w) false, .sl 5 b0_1.n (rowOf eLock b0_1.w) false]), some (.box (eLock ⟨((l.w ((x4).toNat)).Tx), ⟨(((l.w ((x4).toNat)).R).From), (((l.w ((x4).toNat)).R).To), (((l.w ((x4).toNat)).R).End)⟩, false⟩))] := by kernel_rfl
theorem law22_LocksShared_r7_s (k j1 : Nat) (l : (Sl TLock)) (r2 : Bool) (x4 : Int) (b0_0 : Sl TLock) (b0_1 : Sl TLock) (r7a : TLocks) (r7b : Bool) (r7c : Int) (κ : AV → Heap → Option ρ) : law22_LocksShared_r7 k j1 l r2 x4 b0_0 b0_1 κ (.tup [.agg (eLocks ⟨⟨r7a.Held.n, r7a.Held.w, false⟩, ⟨r7a.Waits.n, r7a.Waits.w, false⟩⟩), .bool r7b, .int .i64 r7c]) =
  (bif !decide (r7c = 0) then
   (bif !decide (r7c = 2) then
    κ (.bool false) [some (.box [.sl 5 b0_0.n (rowOf eLock b0_0.w) false, .sl 5 b0_1.n (rowOf eLock b0_1.w) false]), some (.box (eLock ⟨((l.w ((x4).toNat)).Tx), ⟨(((l.w ((x4).toNat)).R).From), (((l.w ((x4).toNat)).R).To), (((l.w ((x4).toNat)).R).End)⟩, false⟩)), some (.box [.sl 5 r7a.Held.n (rowOf eLock r7a.Held.w) false, .sl 5 r7a.Waits.n (rowOf eLock r7a.Waits.w) false])]
   else law22_LocksShared_h1 k j1 l (wi64 (x4 + 1)) ⟨b0_0.n, b0_0.w, false⟩ ⟨b0_1.n, b0_1.w, false⟩ κ)
  else (bif !r7b then
    κ (.bool false) [some (.box [.sl 5 b0_0.n (rowOf eLock b0_0.w) false, .sl 5 b0_1.n (rowOf eLock b0_1.w) false]), some (.box [.sl 5 r7a.Held.n (rowOf eLock r7a.Held.w) false, .sl 5 r7a.Waits.n (rowOf eLock r7a.Waits.w) false])]
   else (bif !decide ((r7a.Waits.n : Int) = 0) then
     κ (.bool false) [some (.box [.sl 5 b0_0.n (rowOf eLock b0_0.w) false, .sl 5 b0_1.n (rowOf eLock b0_1.w) false]), some (.box [.sl 5 r7a.Held.n (rowOf eLock r7a.Held.w) false, .sl 5 r7a.Waits.n (rowOf eLock r7a.Waits.w) false])]
    else callP ctx k n_locks_Holds [.agg (eLocks ⟨⟨r7a.Held.n, r7a.Held.w, false⟩, ⟨r7a.Waits.n, r7a.Waits.w, false⟩⟩), .agg (eLock ⟨((l.w ((x4).toNat)).Tx), ⟨(((l.w ((x4).toNat)).R).From), (((l.w ((x4).toNat)).R).To), (((l.w ((x4).toNat)).R).End)⟩, false⟩)] (law22_LocksShared_r9 k j1 l x4 b0_0 b0_1 r7a r7b r7c κ)))) := by kernel_rfl
theorem law22_LocksShared_r8_s (k j1 : Nat) (l : (Sl TLock)) (x4 : Int) (r5a : TLocks) (r5b : Bool) (r5c : Int) (r8 : Bool) (κ : AV → Heap → Option ρ) : law22_LocksShared_r8 k j1 l x4 r5a r5b r5c κ (.bool r8) =
  (bif !r8 then
   κ (.bool false) [some (.box [.sl 5 0 (rowOf eLock (fun _ => zLock)) true, .sl 5 0 (rowOf eLock (fun _ => zLock)) true]), some (.box [.sl 5 r5a.Held.n (rowOf eLock r5a.Held.w) false, .sl 5 r5a.Waits.n (rowOf eLock r5a.Waits.w) false])]
  else law22_LocksShared_h1 k j1 l (wi64 (x4 + 1)) ⟨r5a.Held.n, r5a.Held.w, false⟩ ⟨r5a.Waits.n, r5a.Waits.w, false⟩ κ) := by kernel_rfl
theorem law22_LocksShared_r9_s (k j1 : Nat) (l : (Sl TLock)) (x4 : Int) (b0_0 : Sl TLock) (b0_1 : Sl TLock) (r7a : TLocks) (r7b : Bool) (r7c : Int) (r9 : Bool) (κ : AV → Heap → Option ρ) : law22_LocksShared_r9 k j1 l x4 b0_0 b0_1 r7a r7b r7c κ (.bool r9) =
  (bif !r9 then
   κ (.bool false) [some (.box [.sl 5 b0_0.n (rowOf eLock b0_0.w) false, .sl 5 b0_1.n (rowOf eLock b0_1.w) false]), some (.box [.sl 5 r7a.Held.n (rowOf eLock r7a.Held.w) false, .sl 5 r7a.Waits.n (rowOf eLock r7a.Waits.w) false])]
  else law22_LocksShared_h1 k j1 l (wi64 (x4 + 1)) ⟨r7a.Held.n, r7a.Held.w, false⟩ ⟨r7a.Waits.n, r7a.Waits.w, false⟩ κ) := by kernel_rfl
theorem law22_LocksShared_e (k : Nat) (l : (Sl TLock)) (κ : AV → Heap → Option ρ) : evalF ctx (k + 1) n_law22_LocksShared [.sl 5 l.n (rowOf eLock l.w) l.u] [] κ =
  law22_LocksShared_h0 k k l 0 κ := by kernel_rfl
end Go.Proofs.YticcbbcgboddpaaC

set_option linter.unusedVariables false
set_option linter.unusedSimpArgs false
set_option maxRecDepth 20000
namespace Go.Proofs.YticcbbcgboddpaaC
open Go Go.Ev Go.Proofs
/-- from an answer told for any rest to the answer -/
theorem told_true {c : Ctx} {K f : Nat} {xs : List AV} (h : ∀ (κ : AV → Heap → Option Bool), (∀ b H, κ (.bool b) H = some b) → evalF c K f xs [] κ = some true) : evalF c K f xs [] (fun v _ => some v) = some (.bool true) := by
  have h := h (fun v _ => match v with | .bool b => some b | _ => none) (fun _ _ => rfl)
  rw [evalF_bind] at h ⊢
  obtain ⟨r, H1, hr, hk⟩ := on_some h
  unfold Call1.on
  rw [hr]
  cases r <;> first | (cases hk; rfl) | cases hk
theorem any_lst {α : Type} (n : Nat) (w : Nat → α) (P : α → Bool) : anyN n (fun i => P (w i)) = (lst n w).any P := by
  unfold anyN lst
  rw [List.any_map]; rfl
def Good (s : TLocks) (i : Nat) : Prop := s.Waits.n = 0 ∧ s.Held.n ≤ i ∧ ∀ x ∈ lst s.Held.n s.Held.w, x.X = false ∧ mayB x = true
theorem shared_ok {a b : TLock} (ha : a.X = false) (hb : b.X = false) : againstB a b = false := by
  unfold againstB
  rw [ha, hb]; cases decide (a.Tx = b.Tx) <;> rfl
theorem any_none {n : Nat} {P : Nat → Bool} (h : ∀ i, i < n → P i = false) : anyN n P = false := by
  cases hh : anyN n P with
  | false => rfl
  | true =>
    obtain ⟨i, hi, hp⟩ := anyN_true.1 hh
    rw [h i hi] at hp; cases hp
theorem good_at {s : TLocks} {i : Nat} (h : Good s i) {j : Nat} (hj : j < s.Held.n) : (s.Held.w j).X = false ∧ mayB (s.Held.w j) = true := h.2.2 _ (lst_mem.2 ⟨j, hj, rfl⟩)
theorem good_grants {s : TLocks} {i : Nat} (h : Good s i) {a : TLock} (ha : a.X = false) {j : Nat} (hj : j ≤ s.Held.n) (m : Nat) (hm : m = 0) (w : Nat → TLock) : grantsB a j s.Held.w m w = true := by
  subst hm
  unfold grantsB
  rw [any_none (fun i hi => shared_ok ha (good_at h (by omega)).1), any_none (fun i hi => by omega)]; rfl
theorem good_check {s : TLocks} {i : Nat} (h : Good s i) (hi : i ≤ 60) : checkB s = true := by
  have h1 := h.1
  have h2 := h.2.1
  unfold checkB
  rw [decide_eq_true (by omega), h1, Bool.true_and, Bool.and_eq_true]
  refine ⟨allN_true.2 fun j hj => ?_, allN_true.2 fun j hj => by omega⟩
  unfold heldP
  rw [(good_at h hj).2, good_grants h (good_at h hj).1 (by omega) 0 rfl]; rfl
theorem covers_self {a : TLock} (ha : a.X = false) (hm : mayB a = true) : coversB a a = true := by
  have hr : rRight a.R = true := by
    unfold mayB at hm
    simp only [Bool.and_eq_true] at hm
    exact hm.2
  unfold coversB withinB
  rw [dec_int, ha, hr, bl_irrefl, bl_irrefl]
  cases a.R.End <;> rfl
theorem step_ok {s : TLocks} {i : Nat} (h : Good s i) (hi : i < 60) {a : TLock} (ha : a.X = false) :
    (mayB a = false → askE s a = 2) ∧ (mayB a = true → askE s a = 0 ∧ askG s a = true ∧ askW s a = [] ∧
      ∀ n v m w u u', lst n v = askH s a → lst m w = askW s a → Good ⟨⟨n, v, u⟩, ⟨m, w, u'⟩⟩ (i + 1) ∧ coveredB ⟨⟨n, v, u⟩, ⟨m, w, u'⟩⟩ a = true) := by
  have hc := good_check h (by omega)
  have h1 := h.1
  have h2 := h.2.1
  constructor
  · intro hm
    unfold askE
    rw [hc, hm]; rfl
  · intro hm
    have hE : askE s a = 0 := by
      unfold askE
      rw [hc, hm, any_none (fun i hi => by omega), if_neg (by decide), if_neg (by decide), if_neg (by decide), if_neg (show ¬ s.Held.n + s.Waits.n = 200 by omega)]
      split <;> rfl
    have hok : okB s a = true := good_grants h ha (Nat.le_refl _) _ h1 _
    have hW : askW s a = [] := by
      unfold askW
      rw [hE, if_neg (show ¬ ((0 : Int) ≠ 0) by decide), hok, Bool.or_true, if_pos rfl]
      unfold Sl.l; rw [h1]; rfl
    refine ⟨hE, by unfold askG; rw [hE, hok, dec_int, Bool.or_true]; rfl, hW, fun n v m w u u' hn hw => ?_⟩
    rw [hW] at hw
    have hm0 : m = 0 := by have := congrArg List.length hw; rw [lst_len] at this; exact this
    have hH : askH s a = if coveredB s a = true then s.Held.l else s.Held.l ++ [a] := by
      unfold askH
      rw [hE, if_neg (show ¬ ((0 : Int) ≠ 0) by decide), hok, Bool.and_true]
      cases coveredB s a <;> rfl
    rw [hH] at hn
    have hlen : n ≤ s.Held.n + 1 := by
      have := congrArg List.length hn
      rw [lst_len] at this
      split at this <;> simp [lst_len] at this <;> omega
    refine ⟨⟨hm0, by show n ≤ i + 1; omega, fun x hx => ?_⟩, ?_⟩
    · have hx : x ∈ lst n v := hx
      rw [hn] at hx
      split at hx
      · exact h.2.2 x hx
      · rcases List.mem_append.1 hx with hx | hx
        · exact h.2.2 x hx
        · rw [List.mem_singleton.1 hx]; exact ⟨ha, hm⟩
    · show anyN n (fun i => coversB (v i) a) = true
      rw [any_lst n v (fun x => coversB x a), hn]
      split
      · rename_i hcv
        unfold coveredB at hcv
        rw [any_lst s.Held.n s.Held.w (fun x => coversB x a)] at hcv
        exact hcv
      · rw [List.any_append]
        simp [covers_self ha hm]
theorem great_ok (k : Nat) (a : TLock) (hk : 1 ≤ k) {ρ : Type} (κ : AV → Option ρ) : callP ctx k n_law22_great [.agg (eLock a)] κ = κ (.bool (decide (2000 < a.R.From.size) || decide (2000 < a.R.To.size))) := by
  obtain ⟨k, rfl⟩ : ∃ k', k = k' + 1 := ⟨k - 1, by omega⟩
  rw [callP_eq, law22_great_e]
  rw [show decide (2000 < (a.R.From.size : Int)) = decide (2000 < a.R.From.size) from decide_eq_decide.2 (by omega), show decide (2000 < (a.R.To.size : Int)) = decide (2000 < a.R.To.size) from decide_eq_decide.2 (by omega)]
  cases decide (2000 < a.R.From.size) <;> rfl
theorem locksShared_pure (l : Sl TLock) (h0 : (SSl 56 SLock) l) : ∃ k, evalF ctx k n_law22_LocksShared [.sl 5 l.n (rowOf eLock l.w) l.u] [] (fun v _ => some v) = some (.bool true) := by
  suffices h : ∀ K, l.n + 1000 ≤ K → ∀ (κ : AV → Heap → Option Bool), (∀ b H, κ (.bool b) H = some b) → evalF ctx (K + 1) n_law22_LocksShared [.sl 5 l.n (rowOf eLock l.w) l.u] [] κ = some true by
    exact ⟨l.n + 1000 + 1, told_true (h (l.n + 1000) (Nat.le_refl _))⟩
  intro K hK κ hκ
  have hh : ∀ κ : AV → Option Bool, callP ctx K n_law22_head [] κ = κ (.bool true) := by
    intro κ
    obtain ⟨K0, rfl⟩ : ∃ K0, K = K0 + 300 := ⟨K - 300, by omega⟩
    exact head_ok K0 κ
  refine (law22_LocksShared_e K l κ).trans ?_
  have one : ∀ j i (s : TLocks), i ≤ l.n → l.n < i + j → Good s i → law22_LocksShared_h1 K j l (i : Int) s.Held s.Waits κ = some true := by
    intro j
    induction j with
    | zero => intro i s h1 h2; omega
    | succ j ih =>
      intro i s h1 h2 hg
      have g1 := hg.1
      have g2 := hg.2.1
      rw [law22_LocksShared_h1_s]
      by_cases hi : i < l.n
      · rw [dec_t (show (i : Int) < (l.n : Int) by omega), cond_true]
        by_cases h60 : i < 60
        · rw [dec_t (show (i : Int) < 60 by omega), cond_true, idx_ok (by omega) (by omega), cond_true]
          simp only [Int.toNat_natCast]
          generalize hA : (⟨(l.w i).Tx, ⟨(l.w i).R.From, (l.w i).R.To, (l.w i).R.End⟩, false⟩ : TLock) = A
          have hAX : A.X = false := by rw [← hA]
          rw [great_ok K A (by omega)]
          cases hgr : (decide (2000 < A.R.From.size) || decide (2000 < A.R.To.size)) with
          | true =>
            rw [law22_LocksShared_r2_s, cond_true, hh, law22_LocksShared_r6_s, hκ]
          | false =>
            rw [law22_LocksShared_r2_s, cond_false, Int.toNat_natCast, hA]
            obtain ⟨n, v, m, w, q1, q2, q3⟩ := Ask_ok (ρ := Bool) K ⟨⟨s.Held.n, s.Held.w, false⟩, ⟨s.Waits.n, s.Waits.w, false⟩⟩ A (by show s.Held.n ≤ _; omega) (by show s.Waits.n ≤ _; omega) (by show s.Held.n + s.Waits.n + 80 ≤ K; omega)
            have hg' : Good ⟨⟨s.Held.n, s.Held.w, false⟩, ⟨s.Waits.n, s.Waits.w, false⟩⟩ i := hg
            obtain ⟨e1, e2⟩ := step_ok hg' h60 hAX
            rw [q3]
            refine (law22_LocksShared_r7_s K j l false (i : Int) s.Held s.Waits ⟨⟨n, v, false⟩, ⟨m, w, false⟩⟩ _ _ κ).trans ?_
            cases hm : mayB A with
            | false =>
              rw [e1 hm, dec_f (show ¬ (2 : Int) = 0 by decide), Bool.not_false, cond_true, dec_int, Bool.not_true, cond_false, wi64_succ (by omega)]
              exact ih (i + 1) ⟨⟨s.Held.n, s.Held.w, false⟩, ⟨s.Waits.n, s.Waits.w, false⟩⟩ hi (by omega) ⟨g1, by show s.Held.n ≤ i + 1; omega, hg.2.2⟩
            | true =>
              obtain ⟨f1, f2, f3, f4⟩ := e2 hm
              obtain ⟨f5, f6⟩ := f4 n v m w false false q1 q2
              have hm0 : m = 0 := f5.1
              have hn1 : n ≤ i + 1 := f5.2.1
              rw [f1, f2, dec_int, Bool.not_true, cond_false, cond_false, dec_t (show (m : Int) = 0 by omega), Bool.not_true, cond_false, Int.toNat_natCast, hA]
              refine (locks_Holds_ok K ⟨⟨n, v, false⟩, ⟨m, w, false⟩⟩ A (by show n ≤ _; omega) (by show m ≤ _; omega) (by show n + m + 60 ≤ K; omega) _).trans ?_
              rw [good_check f5 (by omega), hm, f6]
              refine (law22_LocksShared_r9_s K j l (i : Int) s.Held s.Waits ⟨⟨n, v, false⟩, ⟨m, w, false⟩⟩ _ _ true κ).trans ?_
              rw [Bool.not_true, cond_false, wi64_succ (by omega)]
              exact ih (i + 1) ⟨⟨n, v, false⟩, ⟨m, w, false⟩⟩ hi (by omega) f5
        · rw [dec_f (show ¬ (i : Int) < 60 by omega), cond_false, hh, law22_LocksShared_r3_s, hκ]
      · rw [dec_f (show ¬ (i : Int) < (l.n : Int) by omega), cond_false, hh, law22_LocksShared_r3_s, hκ]
  have zero : ∀ j i, i ≤ l.n → l.n < i + j → law22_LocksShared_h0 K j l (i : Int) κ = some true := by
    intro j
    induction j with
    | zero => intro i h1 h2; omega
    | succ j ih =>
      intro i h1 h2
      have hg : Good zLocks i := ⟨rfl, Nat.zero_le _, fun x hx => by cases hx⟩
      rw [law22_LocksShared_h0_s]
      by_cases hi : i < l.n
      · rw [dec_t (show (i : Int) < (l.n : Int) by omega), cond_true]
        by_cases h60 : i < 60
        · rw [dec_t (show (i : Int) < 60 by omega), cond_true, idx_ok (by omega) (by omega), cond_true]
          simp only [Int.toNat_natCast]
          generalize hA : (⟨(l.w i).Tx, ⟨(l.w i).R.From, (l.w i).R.To, (l.w i).R.End⟩, false⟩ : TLock) = A
          have hAX : A.X = false := by rw [← hA]
          rw [great_ok K A (by omega)]
          cases hgr : (decide (2000 < A.R.From.size) || decide (2000 < A.R.To.size)) with
          | true =>
            rw [law22_LocksShared_r0_s, cond_true, hh, law22_LocksShared_r4_s, hκ]
          | false =>
            rw [law22_LocksShared_r0_s, cond_false, Int.toNat_natCast, hA]
            obtain ⟨n, v, m, w, q1, q2, q3⟩ := Ask_ok (ρ := Bool) K zLocks A (by decide) (by decide) (by show 0 + 0 + 80 ≤ K; omega)
            obtain ⟨e1, e2⟩ := step_ok hg h60 hAX
            rw [q3]
            refine (law22_LocksShared_r5_s K j l false (i : Int) ⟨⟨n, v, false⟩, ⟨m, w, false⟩⟩ _ _ κ).trans ?_
            cases hm : mayB A with
            | false =>
              rw [e1 hm, dec_f (show ¬ (2 : Int) = 0 by decide), Bool.not_false, cond_true, dec_int, Bool.not_true, cond_false, wi64_succ (by omega)]
              exact ih (i + 1) hi (by omega)
            | true =>
              obtain ⟨f1, f2, f3, f4⟩ := e2 hm
              obtain ⟨f5, f6⟩ := f4 n v m w false false q1 q2
              have hm0 : m = 0 := f5.1
              have hn1 : n ≤ i + 1 := f5.2.1
              rw [f1, f2, dec_int, Bool.not_true, cond_false, cond_false, dec_t (show (m : Int) = 0 by omega), Bool.not_true, cond_false, Int.toNat_natCast, hA]
              refine (locks_Holds_ok K ⟨⟨n, v, false⟩, ⟨m, w, false⟩⟩ A (by show n ≤ _; omega) (by show m ≤ _; omega) (by show n + m + 60 ≤ K; omega) _).trans ?_
              rw [good_check f5 (by omega), hm, f6]
              refine (law22_LocksShared_r8_s K j l (i : Int) ⟨⟨n, v, false⟩, ⟨m, w, false⟩⟩ _ _ true κ).trans ?_
              rw [Bool.not_true, cond_false, wi64_succ (by omega)]
              exact one j (i + 1) ⟨⟨n, v, false⟩, ⟨m, w, false⟩⟩ hi (by omega) f5
        · rw [dec_f (show ¬ (i : Int) < 60 by omega), cond_false, hh, law22_LocksShared_r1_s, hκ]
      · rw [dec_f (show ¬ (i : Int) < (l.n : Int) by omega), cond_false, hh, law22_LocksShared_r1_s, hκ]
  exact zero K 0 (by omega) (by omega)
end Go.Proofs.YticcbbcgboddpaaC

set_option linter.unusedVariables false
set_option maxRecDepth 20000
namespace Go.Proofs.YticcbbcgboddpaaC
open Go Go.Ev Go.Proofs
variable {ρ : Type}
noncomputable def law22_LocksApart_h0 (k j : Nat) (l : (Sl TCall)) (key : ByteArray) (x6 : Int) (κ : AV → Heap → Option ρ) : Option ρ := headAt ctx k n_law22_LocksApart 0 [.r, .r, .r, .l, .r] j ⟨(envOf 203 [(0, .sl 6 l.n (rowOf eCall l.w) l.u), (1, .str key), (5, .ref 0 0), (6, .int .i64 x6)]), [some (.box [.sl 5 0 (rowOf eLock (fun _ => zLock)) true, .sl 5 0 (rowOf eLock (fun _ => zLock)) true])]⟩ κ
noncomputable def law22_LocksApart_h1 (k j : Nat) (κ : AV → Heap → Option ρ) : Option ρ := headAt ctx k n_law22_LocksApart 0 [.r, .r, .r, .r, .l, .r] j ⟨(envOf 203 [(5, .ref 0 0), (16, .int .i64 0)]), [some (.box [.sl 5 0 (rowOf eLock (fun _ => zLock)) true, .sl 5 0 (rowOf eLock (fun _ => zLock)) true])]⟩ κ
noncomputable def law22_LocksApart_h2 (k j1 j : Nat) (l : (Sl TCall)) (key : ByteArray) (b0_0 : Sl TLock) (b0_1 : Sl TLock) (x10 : Int) (x6 : Int) (κ : AV → Heap → Option ρ) : Option ρ := headAt ctx k n_law22_LocksApart 0 [.r, .r, .r, .l, .r, .into j1, .r, .l, .r, .r, .r, .r, .r, .r, .r, .l, .r] j ⟨(envOf 203 [(0, .sl 6 l.n (rowOf eCall l.w) l.u), (1, .str key), (5, .ref 0 0), (6, .int .i64 x6), (10, .int .i64 x10)]), [some (.box [.sl 5 b0_0.n (rowOf eLock b0_0.w) false, .sl 5 b0_1.n (rowOf eLock b0_1.w) false])]⟩ κ
noncomputable def law22_LocksApart_h3 (k j1 j2 j : Nat) (l : (Sl TCall)) (key : ByteArray) (b0_0 : Sl TLock) (b0_1 : Sl TLock) (x6 : Int) (x10 : Int) (x11 : Int) (κ : AV → Heap → Option ρ) : Option ρ := headAt ctx k n_law22_LocksApart 0 [.r, .r, .r, .l, .r, .into j1, .r, .l, .r, .r, .r, .r, .r, .r, .r, .l, .r, .into j2, .r, .l, .r] j ⟨(envOf 203 [(0, .sl 6 l.n (rowOf eCall l.w) l.u), (1, .str key), (5, .ref 0 0), (6, .int .i64 x6), (10, .int .i64 x10), (11, .int .i64 x11)]), [some (.box [.sl 5 b0_0.n (rowOf eLock b0_0.w) false, .sl 5 b0_1.n (rowOf eLock b0_1.w) false])]⟩ κ
noncomputable def law22_LocksApart_h4 (k j1 j : Nat) (l : (Sl TCall)) (key : ByteArray) (b0_0 : Sl TLock) (b0_1 : Sl TLock) (x15 : Int) (x6 : Int) (κ : AV → Heap → Option ρ) : Option ρ := headAt ctx k n_law22_LocksApart 0 [.r, .r, .r, .l, .r, .into j1, .r, .l, .r, .r, .r, .r, .r, .r, .r, .r, .r] j ⟨(envOf 203 [(0, .sl 6 l.n (rowOf eCall l.w) l.u), (1, .str key), (5, .ref 0 0), (6, .int .i64 x6), (15, .int .i64 x15)]), [some (.box [.sl 5 b0_0.n (rowOf eLock b0_0.w) false, .sl 5 b0_1.n (rowOf eLock b0_1.w) false])]⟩ κ
noncomputable def law22_LocksApart_h5 (k j : Nat) (l : (Sl TCall)) (key : ByteArray) (b0_0 : Sl TLock) (b0_1 : Sl TLock) (x6 : Int) (κ : AV → Heap → Option ρ) : Option ρ := headAt ctx k n_law22_LocksApart 0 [.r, .r, .r, .l, .r] j ⟨(envOf 203 [(0, .sl 6 l.n (rowOf eCall l.w) l.u), (1, .str key), (5, .ref 0 0), (6, .int .i64 x6)]), [some (.box [.sl 5 b0_0.n (rowOf eLock b0_0.w) false, .sl 5 b0_1.n (rowOf eLock b0_1.w) false])]⟩ κ
noncomputable def law22_LocksApart_h6 (k j : Nat) (x16 : Int) (b0_0 : Sl TLock) (b0_1 : Sl TLock) (κ : AV → Heap → Option ρ) : Option ρ := headAt ctx k n_law22_LocksApart 0 [.r, .r, .r, .r, .l, .r] j ⟨(envOf 203 [(5, .ref 0 0), (16, .int .i64 x16)]), [some (.box [.sl 5 b0_0.n (rowOf eLock b0_0.w) false, .sl 5 b0_1.n (rowOf eLock b0_1.w) false])]⟩ κ
noncomputable def law22_LocksApart_r0 (k : Nat) (l : (Sl TCall)) (key : ByteArray) (κ : AV → Heap → Option ρ) (v : AV) : Option ρ := resAt ctx k n_law22_LocksApart 0 [.r, .l, .r, .l, .l] 0 [] ⟨(envOf 203 [(0, .sl 6 l.n (rowOf eCall l.w) l.u), (1, .str key), (22, .bool (decide (600 < (key.size : Int)))), (23, v)]), []⟩ κ
noncomputable def law22_LocksApart_r1 (k j1 : Nat) (l : (Sl TCall)) (key : ByteArray) (x6 : Int) (κ : AV → Heap → Option ρ) (v : AV) : Option ρ := resAt ctx k n_law22_LocksApart 0 [.r, .r, .r, .l, .r, .into j1, .r, .l, .r, .l, .l] 2 [] ⟨(envOf 203 [(0, .sl 6 l.n (rowOf eCall l.w) l.u), (1, .str key), (5, .ref 0 0), (6, .int .i64 x6), (7, .ref 1 0), (38, .ref 1 1), (39, .agg (eLock ⟨(((l.w ((x6).toNat)).K).Tx), ⟨((((l.w ((x6).toNat)).K).R).From), ((((l.w ((x6).toNat)).K).R).To), ((((l.w ((x6).toNat)).K).R).End)⟩, (((l.w ((x6).toNat)).K).X)⟩)), (40, v)]), [some (.box [.sl 5 0 (rowOf eLock (fun _ => zLock)) true, .sl 5 0 (rowOf eLock (fun _ => zLock)) true]), some (.box (eCall ⟨((l.w ((x6).toNat)).Go), ⟨(((l.w ((x6).toNat)).K).Tx), ⟨((((l.w ((x6).toNat)).K).R).From), ((((l.w ((x6).toNat)).K).R).To), ((((l.w ((x6).toNat)).K).R).End)⟩, (((l.w ((x6).toNat)).K).X)⟩⟩))]⟩ κ
noncomputable def law22_LocksApart_r2 (k : Nat) (κ : AV → Heap → Option ρ) (v : AV) : Option ρ := resAt ctx k n_law22_LocksApart 0 [.r, .r, .r, .r, .r, .l] 0 [] ⟨(envOf 203 [(5, .ref 0 0), (16, .int .i64 0), (152, .bool false), (202, v)]), [some (.box [.sl 5 0 (rowOf eLock (fun _ => zLock)) true, .sl 5 0 (rowOf eLock (fun _ => zLock)) true])]⟩ κ
noncomputable def law22_LocksApart_r3 (k j1 j2 j3 : Nat) (l : (Sl TCall)) (key : ByteArray) (x6 : Int) (b0_0 : Sl TLock) (b0_1 : Sl TLock) (x10 : Int) (x11 : Int) (κ : AV → Heap → Option ρ) (v : AV) : Option ρ := resAt ctx k n_law22_LocksApart 0 [.r, .r, .r, .l, .r, .into j1, .r, .l, .r, .r, .r, .r, .r, .r, .r, .l, .r, .into j2, .r, .l, .r, .into j3, .r, .l, .r, .l] 3 [] ⟨(envOf 203 [(0, .sl 6 l.n (rowOf eCall l.w) l.u), (1, .str key), (5, .ref 0 0), (6, .int .i64 x6), (10, .int .i64 x10), (11, .int .i64 x11), (12, .ref 1 0), (13, .ref 2 0), (102, .ref 1 1), (103, .agg (eRange ⟨(((b0_0.w ((x10).toNat)).R).From), (((b0_0.w ((x10).toNat)).R).To), (((b0_0.w ((x10).toNat)).R).End)⟩)), (104, .str key), (105, v)]), [some (.box [.sl 5 b0_0.n (rowOf eLock b0_0.w) false, .sl 5 b0_1.n (rowOf eLock b0_1.w) false]), some (.box (eLock ⟨((b0_0.w ((x10).toNat)).Tx), ⟨(((b0_0.w ((x10).toNat)).R).From), (((b0_0.w ((x10).toNat)).R).To), (((b0_0.w ((x10).toNat)).R).End)⟩, ((b0_0.w ((x10).toNat)).X)⟩)), some (.box (eLock ⟨((b0_0.w ((x11).toNat)).Tx), ⟨(((b0_0.w ((x11).toNat)).R).From), (((b0_0.w ((x11).toNat)).R).To), (((b0_0.w ((x11).toNat)).R).End)⟩, ((b0_0.w ((x11).toNat)).X)⟩))]⟩ κ
noncomputable def law22_LocksApart_r4 (k j1 j2 : Nat) (l : (Sl TCall)) (key : ByteArray) (x6 : Int) (b0_0 : Sl TLock) (b0_1 : Sl TLock) (x15 : Int) (κ : AV → Heap → Option ρ) (v : AV) : Option ρ := resAt ctx k n_law22_LocksApart 0 [.r, .r, .r, .l, .r, .into j1, .r, .l, .r, .r, .r, .r, .r, .r, .r, .r, .r, .into j2, .r, .l, .l] 7 [] ⟨(envOf 203 [(0, .sl 6 l.n (rowOf eCall l.w) l.u), (1, .str key), (5, .ref 0 0), (6, .int .i64 x6), (15, .int .i64 x15), (132, .bool (decide (x15 < (b0_1.n : Int)))), (135, .agg (eLocks ⟨⟨b0_0.n, b0_0.w, false⟩, ⟨b0_1.n, b0_1.w, false⟩⟩)), (136, .ref 0 1), (137, .sl 5 b0_1.n (rowOf eLock b0_1.w) false), (138, .int .i64 x15), (139, .rref [.int .u64 ((b0_1.w ((x15).toNat)).Tx), .str (((b0_1.w ((x15).toNat)).R).From), .str (((b0_1.w ((x15).toNat)).R).To), .bool (((b0_1.w ((x15).toNat)).R).End), .bool ((b0_1.w ((x15).toNat)).X)] 0), (140, .rref [.int .u64 ((b0_1.w ((x15).toNat)).Tx), .str (((b0_1.w ((x15).toNat)).R).From), .str (((b0_1.w ((x15).toNat)).R).To), .bool (((b0_1.w ((x15).toNat)).R).End), .bool ((b0_1.w ((x15).toNat)).X)] 0), (141, .int .u64 ((b0_1.w ((x15).toNat)).Tx)), (142, v)]), [some (.box [.sl 5 b0_0.n (rowOf eLock b0_0.w) false, .sl 5 b0_1.n (rowOf eLock b0_1.w) false])]⟩ κ
noncomputable def law22_LocksApart_r5 (k j1 : Nat) (l : (Sl TCall)) (key : ByteArray) (x6 : Int) (b0_0 : Sl TLock) (b0_1 : Sl TLock) (κ : AV → Heap → Option ρ) (v : AV) : Option ρ := resAt ctx k n_law22_LocksApart 0 [.r, .r, .r, .l, .r, .into j1, .r, .l, .r, .l, .l] 2 [] ⟨(envOf 203 [(0, .sl 6 l.n (rowOf eCall l.w) l.u), (1, .str key), (5, .ref 0 0), (6, .int .i64 x6), (7, .ref 1 0), (38, .ref 1 1), (39, .agg (eLock ⟨(((l.w ((x6).toNat)).K).Tx), ⟨((((l.w ((x6).toNat)).K).R).From), ((((l.w ((x6).toNat)).K).R).To), ((((l.w ((x6).toNat)).K).R).End)⟩, (((l.w ((x6).toNat)).K).X)⟩)), (40, v)]), [some (.box [.sl 5 b0_0.n (rowOf eLock b0_0.w) false, .sl 5 b0_1.n (rowOf eLock b0_1.w) false]), some (.box (eCall ⟨((l.w ((x6).toNat)).Go), ⟨(((l.w ((x6).toNat)).K).Tx), ⟨((((l.w ((x6).toNat)).K).R).From), ((((l.w ((x6).toNat)).K).R).To), ((((l.w ((x6).toNat)).K).R).End)⟩, (((l.w ((x6).toNat)).K).X)⟩⟩))]⟩ κ
noncomputable def law22_LocksApart_r6 (k j1 : Nat) (b0_0 : Sl TLock) (b0_1 : Sl TLock) (x16 : Int) (κ : AV → Heap → Option ρ) (v : AV) : Option ρ := resAt ctx k n_law22_LocksApart 0 [.r, .r, .r, .r, .l, .r, .into j1, .r, .l, .r, .l] 6 [] ⟨(envOf 203 [(5, .ref 0 0), (16, .int .i64 x16), (162, .bool (decide ((b0_0.n : Int) = 0))), (164, .agg (eLocks ⟨⟨b0_0.n, b0_0.w, false⟩, ⟨b0_1.n, b0_1.w, false⟩⟩)), (165, .ref 0 0), (166, .sl 5 b0_0.n (rowOf eLock b0_0.w) false), (167, .rref [.int .u64 ((b0_0.w 0).Tx), .str (((b0_0.w 0).R).From), .str (((b0_0.w 0).R).To), .bool (((b0_0.w 0).R).End), .bool ((b0_0.w 0).X)] 0), (168, .rref [.int .u64 ((b0_0.w 0).Tx), .str (((b0_0.w 0).R).From), .str (((b0_0.w 0).R).To), .bool (((b0_0.w 0).R).End), .bool ((b0_0.w 0).X)] 0), (169, .int .u64 ((b0_0.w 0).Tx)), (170, v)]), [some (.box [.sl 5 b0_0.n (rowOf eLock b0_0.w) false, .sl 5 b0_1.n (rowOf eLock b0_1.w) false])]⟩ κ
noncomputable def law22_LocksApart_r7 (k : Nat) (b0_0 : Sl TLock) (b0_1 : Sl TLock) (x16 : Int) (κ : AV → Heap → Option ρ) (v : AV) : Option ρ := resAt ctx k n_law22_LocksApart 0 [.r, .r, .r, .r, .r, .l] 0 [] ⟨(envOf 203 [(5, .ref 0 0), (16, .int .i64 x16), (152, .bool (decide (0 < wi64 ((b0_0.n : Int) + (b0_1.n : Int))))), (202, v)]), [some (.box [.sl 5 b0_0.n (rowOf eLock b0_0.w) false, .sl 5 b0_1.n (rowOf eLock b0_1.w) false])]⟩ κ
noncomputable def law22_LocksApart_r8 (k j1 : Nat) (l : (Sl TCall)) (key : ByteArray) (r1 : Bool) (x6 : Int) (κ : AV → Heap → Option ρ) (v : AV) : Option ρ := resAt ctx k n_law22_LocksApart 0 [.r, .r, .r, .l, .r, .into j1, .r, .l, .r, .l, .r, .l, .l] 0 [] ⟨(envOf 203 [(0, .sl 6 l.n (rowOf eCall l.w) l.u), (1, .str key), (5, .ref 0 0), (6, .int .i64 x6), (7, .ref 1 0), (40, .bool r1), (41, v)]), [some (.box [.sl 5 0 (rowOf eLock (fun _ => zLock)) true, .sl 5 0 (rowOf eLock (fun _ => zLock)) true]), some (.box (eCall ⟨((l.w ((x6).toNat)).Go), ⟨(((l.w ((x6).toNat)).K).Tx), ⟨((((l.w ((x6).toNat)).K).R).From), ((((l.w ((x6).toNat)).K).R).To), ((((l.w ((x6).toNat)).K).R).End)⟩, (((l.w ((x6).toNat)).K).X)⟩⟩))]⟩ κ
noncomputable def law22_LocksApart_r9 (k j1 : Nat) (l : (Sl TCall)) (key : ByteArray) (x6 : Int) (κ : AV → Heap → Option ρ) (v : AV) : Option ρ := resAt ctx k n_law22_LocksApart 0 [.r, .r, .r, .l, .r, .into j1, .r, .l, .r, .r, .r, .l, .r, .l, .l] 4 [] ⟨(envOf 203 [(0, .sl 6 l.n (rowOf eCall l.w) l.u), (1, .str key), (5, .ref 0 0), (6, .int .i64 x6), (7, .ref 1 0), (8, .ref 2 0), (43, .ref 1 0), (44, .bool ((l.w ((x6).toNat)).Go)), (46, .agg (eLocks zLocks)), (47, .ref 1 1), (48, .ref 1 1), (49, .int .u64 (((l.w ((x6).toNat)).K).Tx)), (50, v)]), [some (.box [.sl 5 0 (rowOf eLock (fun _ => zLock)) true, .sl 5 0 (rowOf eLock (fun _ => zLock)) true]), some (.box (eCall ⟨((l.w ((x6).toNat)).Go), ⟨(((l.w ((x6).toNat)).K).Tx), ⟨((((l.w ((x6).toNat)).K).R).From), ((((l.w ((x6).toNat)).K).R).To), ((((l.w ((x6).toNat)).K).R).End)⟩, (((l.w ((x6).toNat)).K).X)⟩⟩)), some (.box [.sl 5 0 (rowOf eLock (fun _ => zLock)) true, .sl 5 0 (rowOf eLock (fun _ => zLock)) true])]⟩ κ
noncomputable def law22_LocksApart_r10 (k j1 : Nat) (l : (Sl TCall)) (key : ByteArray) (x6 : Int) (κ : AV → Heap → Option ρ) (v : AV) : Option ρ := resAt ctx k n_law22_LocksApart 0 [.r, .r, .r, .l, .r, .into j1, .r, .l, .r, .r, .r, .l, .r, .r] 3 [] ⟨(envOf 203 [(0, .sl 6 l.n (rowOf eCall l.w) l.u), (1, .str key), (5, .ref 0 0), (6, .int .i64 x6), (7, .ref 1 0), (8, .ref 2 0), (43, .ref 1 0), (44, .bool ((l.w ((x6).toNat)).Go)), (67, .agg (eLocks zLocks)), (68, .ref 1 1), (69, .agg (eLock ⟨(((l.w ((x6).toNat)).K).Tx), ⟨((((l.w ((x6).toNat)).K).R).From), ((((l.w ((x6).toNat)).K).R).To), ((((l.w ((x6).toNat)).K).R).End)⟩, (((l.w ((x6).toNat)).K).X)⟩)), (70, v)]), [some (.box [.sl 5 0 (rowOf eLock (fun _ => zLock)) true, .sl 5 0 (rowOf eLock (fun _ => zLock)) true]), some (.box (eCall ⟨((l.w ((x6).toNat)).Go), ⟨(((l.w ((x6).toNat)).K).Tx), ⟨((((l.w ((x6).toNat)).K).R).From), ((((l.w ((x6).toNat)).K).R).To), ((((l.w ((x6).toNat)).K).R).End)⟩, (((l.w ((x6).toNat)).K).X)⟩⟩)), some (.box [.sl 5 0 (rowOf eLock (fun _ => zLock)) true, .sl 5 0 (rowOf eLock (fun _ => zLock)) true])]⟩ κ
noncomputable def law22_LocksApart_r11 (k j1 j2 j3 : Nat) (l : (Sl TCall)) (key : ByteArray) (x6 : Int) (b0_0 : Sl TLock) (b0_1 : Sl TLock) (x10 : Int) (r3 : Bool) (x11 : Int) (κ : AV → Heap → Option ρ) (v : AV) : Option ρ := resAt ctx k n_law22_LocksApart 0 [.r, .r, .r, .l, .r, .into j1, .r, .l, .r, .r, .r, .r, .r, .r, .r, .l, .r, .into j2, .r, .l, .r, .into j3, .r, .l, .r, .l] 8 [(106, true)] ⟨(envOf 203 [(0, .sl 6 l.n (rowOf eCall l.w) l.u), (1, .str key), (5, .ref 0 0), (6, .int .i64 x6), (10, .int .i64 x10), (11, .int .i64 x11), (12, .ref 1 0), (13, .ref 2 0), (102, .ref 1 1), (103, .agg (eRange ⟨(((b0_0.w ((x10).toNat)).R).From), (((b0_0.w ((x10).toNat)).R).To), (((b0_0.w ((x10).toNat)).R).End)⟩)), (104, .str key), (105, .bool r3), (106, .bool r3), (107, .ref 2 1), (108, .agg (eRange ⟨(((b0_0.w ((x11).toNat)).R).From), (((b0_0.w ((x11).toNat)).R).To), (((b0_0.w ((x11).toNat)).R).End)⟩)), (109, .str key), (110, v)]), [some (.box [.sl 5 b0_0.n (rowOf eLock b0_0.w) false, .sl 5 b0_1.n (rowOf eLock b0_1.w) false]), some (.box (eLock ⟨((b0_0.w ((x10).toNat)).Tx), ⟨(((b0_0.w ((x10).toNat)).R).From), (((b0_0.w ((x10).toNat)).R).To), (((b0_0.w ((x10).toNat)).R).End)⟩, ((b0_0.w ((x10).toNat)).X)⟩)), some (.box (eLock ⟨((b0_0.w ((x11).toNat)).Tx), ⟨(((b0_0.w ((x11).toNat)).R).From), (((b0_0.w ((x11).toNat)).R).To), (((b0_0.w ((x11).toNat)).R).End)⟩, ((b0_0.w ((x11).toNat)).X)⟩))]⟩ κ
noncomputable def law22_LocksApart_r12 (k j1 : Nat) (l : (Sl TCall)) (key : ByteArray) (x6 : Int) (r5 : Bool) (b0_0 : Sl TLock) (b0_1 : Sl TLock) (κ : AV → Heap → Option ρ) (v : AV) : Option ρ := resAt ctx k n_law22_LocksApart 0 [.r, .r, .r, .l, .r, .into j1, .r, .l, .r, .l, .r, .l, .l] 0 [] ⟨(envOf 203 [(0, .sl 6 l.n (rowOf eCall l.w) l.u), (1, .str key), (5, .ref 0 0), (6, .int .i64 x6), (7, .ref 1 0), (40, .bool r5), (41, v)]), [some (.box [.sl 5 b0_0.n (rowOf eLock b0_0.w) false, .sl 5 b0_1.n (rowOf eLock b0_1.w) false]), some (.box (eCall ⟨((l.w ((x6).toNat)).Go), ⟨(((l.w ((x6).toNat)).K).Tx), ⟨((((l.w ((x6).toNat)).K).R).From), ((((l.w ((x6).toNat)).K).R).To), ((((l.w ((x6).toNat)).K).R).End)⟩, (((l.w ((x6).toNat)).K).X)⟩⟩))]⟩ κ
noncomputable def law22_LocksApart_r13 (k j1 : Nat) (l : (Sl TCall)) (key : ByteArray) (x6 : Int) (b0_0 : Sl TLock) (b0_1 : Sl TLock) (κ : AV → Heap → Option ρ) (v : AV) : Option ρ := resAt ctx k n_law22_LocksApart 0 [.r, .r, .r, .l, .r, .into j1, .r, .l, .r, .r, .r, .l, .r, .l, .l] 4 [] ⟨(envOf 203 [(0, .sl 6 l.n (rowOf eCall l.w) l.u), (1, .str key), (5, .ref 0 0), (6, .int .i64 x6), (7, .ref 1 0), (8, .ref 2 0), (43, .ref 1 0), (44, .bool ((l.w ((x6).toNat)).Go)), (46, .agg (eLocks ⟨⟨b0_0.n, b0_0.w, false⟩, ⟨b0_1.n, b0_1.w, false⟩⟩)), (47, .ref 1 1), (48, .ref 1 1), (49, .int .u64 (((l.w ((x6).toNat)).K).Tx)), (50, v)]), [some (.box [.sl 5 b0_0.n (rowOf eLock b0_0.w) false, .sl 5 b0_1.n (rowOf eLock b0_1.w) false]), some (.box (eCall ⟨((l.w ((x6).toNat)).Go), ⟨(((l.w ((x6).toNat)).K).Tx), ⟨((((l.w ((x6).toNat)).K).R).From), ((((l.w ((x6).toNat)).K).R).To), ((((l.w ((x6).toNat)).K).R).End)⟩, (((l.w ((x6).toNat)).K).X)⟩⟩)), some (.box [.sl 5 b0_0.n (rowOf eLock b0_0.w) false, .sl 5 b0_1.n (rowOf eLock b0_1.w) false])]⟩ κ
noncomputable def law22_LocksApart_r14 (k j1 : Nat) (l : (Sl TCall)) (key : ByteArray) (x6 : Int) (b0_0 : Sl TLock) (b0_1 : Sl TLock) (κ : AV → Heap → Option ρ) (v : AV) : Option ρ := resAt ctx k n_law22_LocksApart 0 [.r, .r, .r, .l, .r, .into j1, .r, .l, .r, .r, .r, .l, .r, .r] 3 [] ⟨(envOf 203 [(0, .sl 6 l.n (rowOf eCall l.w) l.u), (1, .str key), (5, .ref 0 0), (6, .int .i64 x6), (7, .ref 1 0), (8, .ref 2 0), (43, .ref 1 0), (44, .bool ((l.w ((x6).toNat)).Go)), (67, .agg (eLocks ⟨⟨b0_0.n, b0_0.w, false⟩, ⟨b0_1.n, b0_1.w, false⟩⟩)), (68, .ref 1 1), (69, .agg (eLock ⟨(((l.w ((x6).toNat)).K).Tx), ⟨((((l.w ((x6).toNat)).K).R).From), ((((l.w ((x6).toNat)).K).R).To), ((((l.w ((x6).toNat)).K).R).End)⟩, (((l.w ((x6).toNat)).K).X)⟩)), (70, v)]), [some (.box [.sl 5 b0_0.n (rowOf eLock b0_0.w) false, .sl 5 b0_1.n (rowOf eLock b0_1.w) false]), some (.box (eCall ⟨((l.w ((x6).toNat)).Go), ⟨(((l.w ((x6).toNat)).K).Tx), ⟨((((l.w ((x6).toNat)).K).R).From), ((((l.w ((x6).toNat)).K).R).To), ((((l.w ((x6).toNat)).K).R).End)⟩, (((l.w ((x6).toNat)).K).X)⟩⟩)), some (.box [.sl 5 b0_0.n (rowOf eLock b0_0.w) false, .sl 5 b0_1.n (rowOf eLock b0_1.w) false])]⟩ κ
noncomputable def law22_LocksApart_r15 (k j1 : Nat) (l : (Sl TCall)) (key : ByteArray) (x6 : Int) (r9a : TLocks) (r9c : Int) (κ : AV → Heap → Option ρ) (v : AV) : Option ρ := resAt ctx k n_law22_LocksApart 0 [.r, .r, .r, .l, .r, .into j1, .r, .l, .r, .r, .r, .l, .r, .l, .r, .r, .l] 4 [] ⟨(envOf 203 [(0, .sl 6 l.n (rowOf eCall l.w) l.u), (1, .str key), (5, .ref 0 0), (6, .int .i64 x6), (7, .ref 1 0), (8, .ref 2 0), (9, .int .i64 r9c), (56, .bool (((l.w ((x6).toNat)).K).X)), (58, .agg (eLocks zLocks)), (59, .ref 1 1), (60, .ref 1 1), (61, .int .u64 (((l.w ((x6).toNat)).K).Tx)), (62, v)]), [some (.box [.sl 5 0 (rowOf eLock (fun _ => zLock)) true, .sl 5 0 (rowOf eLock (fun _ => zLock)) true]), some (.box (eCall ⟨((l.w ((x6).toNat)).Go), ⟨(((l.w ((x6).toNat)).K).Tx), ⟨((((l.w ((x6).toNat)).K).R).From), ((((l.w ((x6).toNat)).K).R).To), ((((l.w ((x6).toNat)).K).R).End)⟩, (((l.w ((x6).toNat)).K).X)⟩⟩)), some (.box [.sl 5 r9a.Held.n (rowOf eLock r9a.Held.w) false, .sl 5 r9a.Waits.n (rowOf eLock r9a.Waits.w) false])]⟩ κ
noncomputable def law22_LocksApart_r16 (k j1 : Nat) (l : (Sl TCall)) (key : ByteArray) (x6 : Int) (r9a : TLocks) (r9c : Int) (κ : AV → Heap → Option ρ) (v : AV) : Option ρ := resAt ctx k n_law22_LocksApart 0 [.r, .r, .r, .l, .r, .into j1, .r, .l, .r, .r, .r, .r, .r, .l, .l] 1 [] ⟨(envOf 203 [(0, .sl 6 l.n (rowOf eCall l.w) l.u), (1, .str key), (5, .ref 0 0), (6, .int .i64 x6), (7, .ref 1 0), (8, .ref 2 0), (9, .int .i64 r9c), (56, .bool (((l.w ((x6).toNat)).K).X)), (74, .int .i64 r9c), (75, .bool (!decide (r9c = 0))), (76, .agg (eLocks ⟨⟨r9a.Held.n, r9a.Held.w, false⟩, ⟨r9a.Waits.n, r9a.Waits.w, false⟩⟩)), (77, v)]), [some (.box [.sl 5 0 (rowOf eLock (fun _ => zLock)) true, .sl 5 0 (rowOf eLock (fun _ => zLock)) true]), some (.box (eCall ⟨((l.w ((x6).toNat)).Go), ⟨(((l.w ((x6).toNat)).K).Tx), ⟨((((l.w ((x6).toNat)).K).R).From), ((((l.w ((x6).toNat)).K).R).To), ((((l.w ((x6).toNat)).K).R).End)⟩, (((l.w ((x6).toNat)).K).X)⟩⟩)), some (.box [.sl 5 r9a.Held.n (rowOf eLock r9a.Held.w) false, .sl 5 r9a.Waits.n (rowOf eLock r9a.Waits.w) false])]⟩ κ
noncomputable def law22_LocksApart_r17 (k j1 : Nat) (l : (Sl TCall)) (key : ByteArray) (x6 : Int) (x9 : Int) (x74 : Int) (x75 : Bool) (x76_0 : Sl TLock) (x76_1 : Sl TLock) (b1_0 : Sl TLock) (b1_1 : Sl TLock) (xa0_0 : Sl TLock) (xa0_1 : Sl TLock) (κ : AV → Heap → Option ρ) (v : AV) : Option ρ := resAt ctx k n_law22_LocksApart 0 [.r, .r, .r, .l, .r, .into j1, .r, .l, .r, .r, .r, .r, .r, .l, .l] 1 [] ⟨(envOf 203 [(0, .sl 6 l.n (rowOf eCall l.w) l.u), (1, .str key), (5, .ref 0 0), (6, .int .i64 x6), (8, .ref 1 0), (9, .int .i64 x9), (74, .int .i64 x74), (75, .bool x75), (76, .agg (eLocks ⟨⟨x76_0.n, x76_0.w, false⟩, ⟨x76_1.n, x76_1.w, false⟩⟩)), (77, v)]), [some (.box [.sl 5 0 (rowOf eLock (fun _ => zLock)) true, .sl 5 0 (rowOf eLock (fun _ => zLock)) true]), some (.box [.sl 5 b1_0.n (rowOf eLock b1_0.w) false, .sl 5 b1_1.n (rowOf eLock b1_1.w) false])]⟩ κ
noncomputable def law22_LocksApart_r18 (k j1 : Nat) (l : (Sl TCall)) (key : ByteArray) (x6 : Int) (b0_0 : Sl TLock) (b0_1 : Sl TLock) (r13a : TLocks) (r13c : Int) (κ : AV → Heap → Option ρ) (v : AV) : Option ρ := resAt ctx k n_law22_LocksApart 0 [.r, .r, .r, .l, .r, .into j1, .r, .l, .r, .r, .r, .l, .r, .l, .r, .r, .l] 4 [] ⟨(envOf 203 [(0, .sl 6 l.n (rowOf eCall l.w) l.u), (1, .str key), (5, .ref 0 0), (6, .int .i64 x6), (7, .ref 1 0), (8, .ref 2 0), (9, .int .i64 r13c), (56, .bool (((l.w ((x6).toNat)).K).X)), (58, .agg (eLocks ⟨⟨b0_0.n, b0_0.w, false⟩, ⟨b0_1.n, b0_1.w, false⟩⟩)), (59, .ref 1 1), (60, .ref 1 1), (61, .int .u64 (((l.w ((x6).toNat)).K).Tx)), (62, v)]), [some (.box [.sl 5 b0_0.n (rowOf eLock b0_0.w) false, .sl 5 b0_1.n (rowOf eLock b0_1.w) false]), some (.box (eCall ⟨((l.w ((x6).toNat)).Go), ⟨(((l.w ((x6).toNat)).K).Tx), ⟨((((l.w ((x6).toNat)).K).R).From), ((((l.w ((x6).toNat)).K).R).To), ((((l.w ((x6).toNat)).K).R).End)⟩, (((l.w ((x6).toNat)).K).X)⟩⟩)), some (.box [.sl 5 r13a.Held.n (rowOf eLock r13a.Held.w) false, .sl 5 r13a.Waits.n (rowOf eLock r13a.Waits.w) false])]⟩ κ
noncomputable def law22_LocksApart_r19 (k j1 : Nat) (l : (Sl TCall)) (key : ByteArray) (x6 : Int) (b0_0 : Sl TLock) (b0_1 : Sl TLock) (r13a : TLocks) (r13c : Int) (κ : AV → Heap → Option ρ) (v : AV) : Option ρ := resAt ctx k n_law22_LocksApart 0 [.r, .r, .r, .l, .r, .into j1, .r, .l, .r, .r, .r, .r, .r, .l, .l] 1 [] ⟨(envOf 203 [(0, .sl 6 l.n (rowOf eCall l.w) l.u), (1, .str key), (5, .ref 0 0), (6, .int .i64 x6), (7, .ref 1 0), (8, .ref 2 0), (9, .int .i64 r13c), (56, .bool (((l.w ((x6).toNat)).K).X)), (74, .int .i64 r13c), (75, .bool (!decide (r13c = 0))), (76, .agg (eLocks ⟨⟨r13a.Held.n, r13a.Held.w, false⟩, ⟨r13a.Waits.n, r13a.Waits.w, false⟩⟩)), (77, v)]), [some (.box [.sl 5 b0_0.n (rowOf eLock b0_0.w) false, .sl 5 b0_1.n (rowOf eLock b0_1.w) false]), some (.box (eCall ⟨((l.w ((x6).toNat)).Go), ⟨(((l.w ((x6).toNat)).K).Tx), ⟨((((l.w ((x6).toNat)).K).R).From), ((((l.w ((x6).toNat)).K).R).To), ((((l.w ((x6).toNat)).K).R).End)⟩, (((l.w ((x6).toNat)).K).X)⟩⟩)), some (.box [.sl 5 r13a.Held.n (rowOf eLock r13a.Held.w) false, .sl 5 r13a.Waits.n (rowOf eLock r13a.Waits.w) false])]⟩ κ
noncomputable def law22_LocksApart_r20 (k j1 : Nat) (l : (Sl TCall)) (key : ByteArray) (x6 : Int) (b0_0 : Sl TLock) (b0_1 : Sl TLock) (x9 : Int) (x74 : Int) (x75 : Bool) (x76_0 : Sl TLock) (x76_1 : Sl TLock) (b1_0 : Sl TLock) (b1_1 : Sl TLock) (xa0_0 : Sl TLock) (xa0_1 : Sl TLock) (κ : AV → Heap → Option ρ) (v : AV) : Option ρ := resAt ctx k n_law22_LocksApart 0 [.r, .r, .r, .l, .r, .into j1, .r, .l, .r, .r, .r, .r, .r, .l, .l] 1 [] ⟨(envOf 203 [(0, .sl 6 l.n (rowOf eCall l.w) l.u), (1, .str key), (5, .ref 0 0), (6, .int .i64 x6), (8, .ref 1 0), (9, .int .i64 x9), (74, .int .i64 x74), (75, .bool x75), (76, .agg (eLocks ⟨⟨x76_0.n, x76_0.w, false⟩, ⟨x76_1.n, x76_1.w, false⟩⟩)), (77, v)]), [some (.box [.sl 5 b0_0.n (rowOf eLock b0_0.w) false, .sl 5 b0_1.n (rowOf eLock b0_1.w) false]), some (.box [.sl 5 b1_0.n (rowOf eLock b1_0.w) false, .sl 5 b1_1.n (rowOf eLock b1_1.w) false])]⟩ κ
theorem law22_LocksApart_h0_s (k j : Nat) (l : (Sl TCall)) (key : ByteArray) (x6 : Int) (κ : AV → Heap → Option ρ) : law22_LocksApart_h0 k (j + 1) l key x6 κ =
  (bif decide (x6 < (l.n : Int)) then
   (bif decide (x6 < 60) then
    (bif idxOK x6 l.n then
     callP ctx k n_law22_great [.agg (eLock ⟨(((l.w ((x6).toNat)).K).Tx), ⟨((((l.w ((x6).toNat)).K).R).From), ((((l.w ((x6).toNat)).K).R).To), ((((l.w ((x6).toNat)).K).R).End)⟩, (((l.w ((x6).toNat)).K).X)⟩)] (law22_LocksApart_r1 k j l key x6 κ)
    else none)
   else law22_LocksApart_h1 k k κ)
  else law22_LocksApart_h1 k k κ) := by kernel_rfl
theorem law22_LocksApart_h1_s (k j : Nat) (κ : AV → Heap → Option ρ) : law22_LocksApart_h1 k (j + 1) κ =
  callP ctx k n_law22_head [] (law22_LocksApart_r2 k κ) := by kernel_rfl
theorem law22_LocksApart_h2_s (k j1 j : Nat) (l : (Sl TCall)) (key : ByteArray) (b0_0 : Sl TLock) (b0_1 : Sl TLock) (x10 : Int) (x6 : Int) (κ : AV → Heap → Option ρ) : law22_LocksApart_h2 k j1 (j + 1) l key b0_0 b0_1 x10 x6 κ =
  (bif decide (x10 < (b0_0.n : Int)) then
   law22_LocksApart_h3 k j1 j k l key b0_0 b0_1 x6 x10 0 κ
  else law22_LocksApart_h4 k j1 k l key b0_0 b0_1 0 x6 κ) := by kernel_rfl
theorem law22_LocksApart_h3_s (k j1 j2 j : Nat) (l : (Sl TCall)) (key : ByteArray) (b0_0 : Sl TLock) (b0_1 : Sl TLock) (x6 : Int) (x10 : Int) (x11 : Int) (κ : AV → Heap → Option ρ) : law22_LocksApart_h3 k j1 j2 (j + 1) l key b0_0 b0_1 x6 x10 x11 κ =
  (bif decide (x11 < x10) then
   (bif idxOK x10 b0_0.n then
    (bif idxOK x11 b0_0.n then
     callP ctx k n_r03_Has [.agg (eRange ⟨(((b0_0.w ((x10).toNat)).R).From), (((b0_0.w ((x10).toNat)).R).To), (((b0_0.w ((x10).toNat)).R).End)⟩), .str key] (law22_LocksApart_r3 k j1 j2 j l key x6 b0_0 b0_1 x10 x11 κ)
    else none)
   else none)
  else law22_LocksApart_h2 k j1 j2 l key ⟨b0_0.n, b0_0.w, false⟩ ⟨b0_1.n, b0_1.w, false⟩ (wi64 (x10 + 1)) x6 κ) := by kernel_rfl
theorem law22_LocksApart_h4_s (k j1 j : Nat) (l : (Sl TCall)) (key : ByteArray) (b0_0 : Sl TLock) (b0_1 : Sl TLock) (x15 : Int) (x6 : Int) (κ : AV → Heap → Option ρ) : law22_LocksApart_h4 k j1 (j + 1) l key b0_0 b0_1 x15 x6 κ =
  (bif decide (x15 < (b0_1.n : Int)) then
   (bif idxOK x15 b0_1.n then
    callP ctx k n_locks_Blockers [.agg (eLocks ⟨⟨b0_0.n, b0_0.w, false⟩, ⟨b0_1.n, b0_1.w, false⟩⟩), .int .u64 ((b0_1.w ((x15).toNat)).Tx)] (law22_LocksApart_r4 k j1 j l key x6 b0_0 b0_1 x15 κ)
   else none)
  else law22_LocksApart_h5 k j1 l key b0_0 b0_1 (wi64 (x6 + 1)) κ) := by kernel_rfl
theorem law22_LocksApart_h5_s (k j : Nat) (l : (Sl TCall)) (key : ByteArray) (b0_0 : Sl TLock) (b0_1 : Sl TLock) (x6 : Int) (κ : AV → Heap → Option ρ) : law22_LocksApart_h5 k (j + 1) l key b0_0 b0_1 x6 κ =
  (bif decide (x6 < (l.n : Int)) then
   (bif decide (x6 < 60) then
    (bif idxOK x6 l.n then
     callP ctx k n_law22_great [.agg (eLock ⟨(((l.w ((x6).toNat)).K).Tx), ⟨((((l.w ((x6).toNat)).K).R).From), ((((l.w ((x6).toNat)).K).R).To), ((((l.w ((x6).toNat)).K).R).End)⟩, (((l.w ((x6).toNat)).K).X)⟩)] (law22_LocksApart_r5 k j l key x6 b0_0 b0_1 κ)
    else none)
   else law22_LocksApart_h6 k k 0 ⟨b0_0.n, b0_0.w, false⟩ ⟨b0_1.n, b0_1.w, false⟩ κ)
  else law22_LocksApart_h6 k k 0 ⟨b0_0.n, b0_0.w, false⟩ ⟨b0_1.n, b0_1.w, false⟩ κ) := by kernel_rfl
theorem law22_LocksApart_h6_s (k j : Nat) (x16 : Int) (b0_0 : Sl TLock) (b0_1 : Sl TLock) (κ : AV → Heap → Option ρ) : law22_LocksApart_h6 k (j + 1) x16 b0_0 b0_1 κ =
  (bif decide (0 < wi64 ((b0_0.n : Int) + (b0_1.n : Int))) then
   (bif decide (200 < x16) then
    κ (.bool false) [some (.box [.sl 5 b0_0.n (rowOf eLock b0_0.w) false, .sl 5 b0_1.n (rowOf eLock b0_1.w) false])]
   else (bif decide ((b0_0.n : Int) = 0) then
     κ (.bool false) [some (.box [.sl 5 b0_0.n (rowOf eLock b0_0.w) false, .sl 5 b0_1.n (rowOf eLock b0_1.w) false])]
    else (bif idxOK 0 b0_0.n then
      callP ctx k n_locks_Release [.agg (eLocks ⟨⟨b0_0.n, b0_0.w, false⟩, ⟨b0_1.n, b0_1.w, false⟩⟩), .int .u64 ((b0_0.w 0).Tx)] (law22_LocksApart_r6 k j b0_0 b0_1 x16 κ)
     else none)))
  else callP ctx k n_law22_head [] (law22_LocksApart_r7 k b0_0 b0_1 x16 κ)) := by kernel_rfl
theorem law22_LocksApart_r0_s (k : Nat) (l : (Sl TCall)) (key : ByteArray) (r0 : Bool) (κ : AV → Heap → Option ρ) : law22_LocksApart_r0 k l key κ (.bool r0) =
  κ (.bool r0) [] := by kernel_rfl
theorem law22_LocksApart_r1_s (k j1 : Nat) (l : (Sl TCall)) (key : ByteArray) (x6 : Int) (r1 : Bool) (κ : AV → Heap → Option ρ) : law22_LocksApart_r1 k j1 l key x6 κ (.bool r1) =
  (bif r1 then
   callP ctx k n_law22_head [] (law22_LocksApart_r8 k j1 l key r1 x6 κ)
  else (bif ((l.w ((x6).toNat)).Go) then
    callP ctx k n_locks_Release [.agg (eLocks zLocks), .int .u64 (((l.w ((x6).toNat)).K).Tx)] (law22_LocksApart_r9 k j1 l key x6 κ)
   else callP ctx k n_locks_Ask [.agg (eLocks zLocks), .agg (eLock ⟨(((l.w ((x6).toNat)).K).Tx), ⟨((((l.w ((x6).toNat)).K).R).From), ((((l.w ((x6).toNat)).K).R).To), ((((l.w ((x6).toNat)).K).R).End)⟩, (((l.w ((x6).toNat)).K).X)⟩)] (law22_LocksApart_r10 k j1 l key x6 κ))) := by kernel_rfl
theorem law22_LocksApart_r2_s (k : Nat) (r2 : Bool) (κ : AV → Heap → Option ρ) : law22_LocksApart_r2 k κ (.bool r2) =
  κ (.bool r2) [some (.box [.sl 5 0 (rowOf eLock (fun _ => zLock)) true, .sl 5 0 (rowOf eLock (fun _ => zLock)) true])] := by kernel_rfl
theorem law22_LocksApart_r3_s (k j1 j2 j3 : Nat) (l : (Sl TCall)) (key : ByteArray) (x6 : Int) (b0_0 : Sl TLock) (b0_1 : Sl TLock) (x10 : Int) (x11 : Int) (r3 : Bool) (κ : AV → Heap → Option ρ) : law22_LocksApart_r3 k j1 j2 j3 l key x6 b0_0 b0_1 x10 x11 κ (.bool r3) =
  (bif r3 then
   callP ctx k n_r03_Has [.agg (eRange ⟨(((b0_0.w ((x11).toNat)).R).From), (((b0_0.w ((x11).toNat)).R).To), (((b0_0.w ((x11).toNat)).R).End)⟩), .str key] (law22_LocksApart_r11 k j1 j2 j3 l key x6 b0_0 b0_1 x10 r3 x11 κ)
  else law22_LocksApart_h3 k j1 j2 j3 l key b0_0 b0_1 x6 x10 (wi64 (x11 + 1)) κ) := by kernel_rfl
theorem law22_LocksApart_r4_s (k j1 j2 : Nat) (l : (Sl TCall)) (key : ByteArray) (x6 : Int) (b0_0 : Sl TLock) (b0_1 : Sl TLock) (x15 : Int) (r4 : Sl Int) (κ : AV → Heap → Option ρ) : law22_LocksApart_r4 k j1 j2 l key x6 b0_0 b0_1 x15 κ (.sl 1 r4.n (rowOf (eI .u64) r4.w) false) =
  (bif decide ((r4.n : Int) = 0) then
   κ (.bool false) [some (.box [.sl 5 b0_0.n (rowOf eLock b0_0.w) false, .sl 5 b0_1.n (rowOf eLock b0_1.w) false])]
  else law22_LocksApart_h4 k j1 j2 l key b0_0 b0_1 (wi64 (x15 + 1)) x6 κ) := by kernel_rfl
theorem law22_LocksApart_r5_s (k j1 : Nat) (l : (Sl TCall)) (key : ByteArray) (x6 : Int) (b0_0 : Sl TLock) (b0_1 : Sl TLock) (r5 : Bool) (κ : AV → Heap → Option ρ) : law22_LocksApart_r5 k j1 l key x6 b0_0 b0_1 κ (.bool r5) =
  (bif r5 then
   callP ctx k n_law22_head [] (law22_LocksApart_r12 k j1 l key x6 r5 b0_0 b0_1 κ)
  else (bif ((l.w ((x6).toNat)).Go) then
    callP ctx k n_locks_Release [.agg (eLocks ⟨⟨b0_0.n, b0_0.w, false⟩, ⟨b0_1.n, b0_1.w, false⟩⟩), .int .u64 (((l.w ((x6).toNat)).K).Tx)] (law22_LocksApart_r13 k j1 l key x6 b0_0 b0_1 κ)
   else callP ctx k n_locks_Ask [.agg (eLocks ⟨⟨b0_0.n, b0_0.w, false⟩, ⟨b0_1.n, b0_1.w, false⟩⟩), .agg (eLock ⟨(((l.w ((x6).toNat)).K).Tx), ⟨((((l.w ((x6).toNat)).K).R).From), ((((l.w ((x6).toNat)).K).R).To), ((((l.w ((x6).toNat)).K).R).End)⟩, (((l.w ((x6).toNat)).K).X)⟩)] (law22_LocksApart_r14 k j1 l key x6 b0_0 b0_1 κ))) := by kernel_rfl
theorem law22_LocksApart_r6_s (k j1 : Nat) (b0_0 : Sl TLock) (b0_1 : Sl TLock) (x16 : Int) (r6a : TLocks) (r6b : Sl Int) (r6c : Int) (κ : AV → Heap → Option ρ) : law22_LocksApart_r6 k j1 b0_0 b0_1 x16 κ (.tup [.agg (eLocks ⟨⟨r6a.Held.n, r6a.Held.w, false⟩, ⟨r6a.Waits.n, r6a.Waits.w, false⟩⟩), .sl 1 r6b.n (rowOf (eI .u64) r6b.w) false, .int .i64 r6c]) =
  (bif !decide (r6c = 0) then
   κ (.bool false) [some (.box [.sl 5 b0_0.n (rowOf eLock b0_0.w) false, .sl 5 b0_1.n (rowOf eLock b0_1.w) false]), some (.box [.sl 5 r6a.Held.n (rowOf eLock r6a.Held.w) false, .sl 5 r6a.Waits.n (rowOf eLock r6a.Waits.w) false])]
  else (bif decide (wi64 ((b0_0.n : Int) + (b0_1.n : Int)) ≤ wi64 ((r6a.Held.n : Int) + (r6a.Waits.n : Int))) then
    κ (.bool false) [some (.box [.sl 5 b0_0.n (rowOf eLock b0_0.w) false, .sl 5 b0_1.n (rowOf eLock b0_1.w) false]), some (.box [.sl 5 r6a.Held.n (rowOf eLock r6a.Held.w) false, .sl 5 r6a.Waits.n (rowOf eLock r6a.Waits.w) false])]
   else (bif decide ((b0_1.n : Int) < (r6b.n : Int)) then
     κ (.bool false) [some (.box [.sl 5 b0_0.n (rowOf eLock b0_0.w) false, .sl 5 b0_1.n (rowOf eLock b0_1.w) false]), some (.box [.sl 5 r6a.Held.n (rowOf eLock r6a.Held.w) false, .sl 5 r6a.Waits.n (rowOf eLock r6a.Waits.w) false])]
    else law22_LocksApart_h6 k j1 (wi64 (x16 + 1)) ⟨r6a.Held.n, r6a.Held.w, false⟩ ⟨r6a.Waits.n, r6a.Waits.w, false⟩ κ))) := by kernel_rfl
theorem law22_LocksApart_r7_s (k : Nat) (b0_0 : Sl TLock) (b0_1 : Sl TLock) (x16 : Int) (r7 : Bool) (κ : AV → Heap → Option ρ) : law22_LocksApart_r7 k b0_0 b0_1 x16 κ (.bool r7) =
  κ (.bool r7) [some (.box [.sl 5 b0_0.n (rowOf eLock b0_0.w) false, .sl 5 b0_1.n (rowOf eLock b0_1.w) false])] := by kernel_rfl
theorem law22_LocksApart_r8_s (k j1 : Nat) (l : (Sl TCall)) (key : ByteArray) (r1 : Bool) (x6 : Int) (r8 : Bool) (κ : AV → Heap → Option ρ) : law22_LocksApart_r8 k j1 l key r1 x6 κ (.bool r8) =
  κ (.bool r8) [some (.box [.sl 5 0 (rowOf eLock (fun _ => zLock)) true, .sl 5 0 (rowOf eLock (fun _ => zLock)) true]), some (.box (eCall ⟨((l.w ((x6).toNat)).Go), ⟨(((l.w ((x6).toNat)).K).Tx), ⟨((((l.w ((x6).toNat)).K).R).From), ((((l.w ((x6).toNat)).K).R).To), ((((l.w ((x6).toNat)).K).R).End)⟩, (((l.w ((x6).toNat)).K).X)⟩⟩))] := by kernel_rfl
theorem law22_LocksApart_r9_s (k j1 : Nat) (l : (Sl TCall)) (key : ByteArray) (x6 : Int) (r9a : TLocks) (r9b : Sl Int) (r9c : Int) (κ : AV → Heap → Option ρ) : law22_LocksApart_r9 k j1 l key x6 κ (.tup [.agg (eLocks ⟨⟨r9a.Held.n, r9a.Held.w, false⟩, ⟨r9a.Waits.n, r9a.Waits.w, false⟩⟩), .sl 1 r9b.n (rowOf (eI .u64) r9b.w) false, .int .i64 r9c]) =
  (bif (((l.w ((x6).toNat)).K).X) then
   callP ctx k n_locks_Withdraw [.agg (eLocks zLocks), .int .u64 (((l.w ((x6).toNat)).K).Tx)] (law22_LocksApart_r15 k j1 l key x6 r9a r9c κ)
  else (bif !decide (r9c = 0) then
    law22_LocksApart_h0 k j1 l key (wi64 (x6 + 1)) κ
   else callP ctx k n_locks_Check [.agg (eLocks ⟨⟨r9a.Held.n, r9a.Held.w, false⟩, ⟨r9a.Waits.n, r9a.Waits.w, false⟩⟩)] (law22_LocksApart_r16 k j1 l key x6 r9a r9c κ))) := by kernel_rfl
theorem law22_LocksApart_r10_s (k j1 : Nat) (l : (Sl TCall)) (key : ByteArray) (x6 : Int) (r10a : TLocks) (r10b : Bool) (r10c : Int) (κ : AV → Heap → Option ρ) : law22_LocksApart_r10 k j1 l key x6 κ (.tup [.agg (eLocks ⟨⟨r10a.Held.n, r10a.Held.w, false⟩, ⟨r10a.Waits.n, r10a.Waits.w, false⟩⟩), .bool r10b, .int .i64 r10c]) =
  (bif !decide (r10c = 0) then
   law22_LocksApart_h0 k j1 l key (wi64 (x6 + 1)) κ
  else callP ctx k n_locks_Check [.agg (eLocks ⟨⟨r10a.Held.n, r10a.Held.w, false⟩, ⟨r10a.Waits.n, r10a.Waits.w, false⟩⟩)] (law22_LocksApart_r17 k j1 l key x6 r10c r10c (!decide (r10c = 0)) ⟨r10a.Held.n, r10a.Held.w, false⟩ ⟨r10a.Waits.n, r10a.Waits.w, false⟩ ⟨r10a.Held.n, r10a.Held.w, false⟩ ⟨r10a.Waits.n, r10a.Waits.w, false⟩ ⟨r10a.Held.n, r10a.Held.w, false⟩ ⟨r10a.Waits.n, r10a.Waits.w, false⟩ κ)) := by kernel_rfl
theorem law22_LocksApart_r11_s (k j1 j2 j3 : Nat) (l : (Sl TCall)) (key : ByteArray) (x6 : Int) (b0_0 : Sl TLock) (b0_1 : Sl TLock) (x10 : Int) (r3 : Bool) (x11 : Int) (r11 : Bool) (κ : AV → Heap → Option ρ) : law22_LocksApart_r11 k j1 j2 j3 l key x6 b0_0 b0_1 x10 r3 x11 κ (.bool r11) =
  (bif r11 then
   (bif !decide (((b0_0.w ((x10).toNat)).Tx) = ((b0_0.w ((x11).toNat)).Tx)) then
    (bif ((b0_0.w ((x10).toNat)).X) then
     κ (.bool false) [some (.box [.sl 5 b0_0.n (rowOf eLock b0_0.w) false, .sl 5 b0_1.n (rowOf eLock b0_1.w) false])]
    else (bif ((b0_0.w ((x11).toNat)).X) then
      κ (.bool false) [some (.box [.sl 5 b0_0.n (rowOf eLock b0_0.w) false, .sl 5 b0_1.n (rowOf eLock b0_1.w) false])]
     else law22_LocksApart_h3 k j1 j2 j3 l key b0_0 b0_1 x6 x10 (wi64 (x11 + 1)) κ))
   else law22_LocksApart_h3 k j1 j2 j3 l key b0_0 b0_1 x6 x10 (wi64 (x11 + 1)) κ)
  else law22_LocksApart_h3 k j1 j2 j3 l key b0_0 b0_1 x6 x10 (wi64 (x11 + 1)) κ) := by kernel_rfl
theorem law22_LocksApart_r12_s (k j1 : Nat) (l : (Sl TCall)) (key : ByteArray) (x6 : Int) (r5 : Bool) (b0_0 : Sl TLock) (b0_1 : Sl TLock) (r12 : Bool) (κ : AV → Heap → Option ρ) : law22_LocksApart_r12 k j1 l key x6 r5 b0_0 b0_1 κ (.bool r12) =
  κ (.bool r12) [some (.box [.sl 5 b0_0.n (rowOf eLock b0_0.w) false, .sl 5 b0_1.n (rowOf eLock b0_1.w) false]), some (.box (eCall ⟨((l.w ((x6).toNat)).Go), ⟨(((l.w ((x6).toNat)).K).Tx), ⟨((((l.w ((x6).toNat)).K).R).From), ((((l.w ((x6).toNat)).K).R).To), ((((l.w ((x6).toNat)).K).R).End)⟩, (((l.w ((x6).toNat)).K).X)⟩⟩))] := by kernel_rfl
theorem law22_LocksApart_r13_s (k j1 : Nat) (l : (Sl TCall)) (key : ByteArray) (x6 : Int) (b0_0 : Sl TLock) (b0_1 : Sl TLock) (r13a : TLocks) (r13b : Sl Int) (r13c : Int) (κ : AV → Heap → Option ρ) : law22_LocksApart_r13 k j1 l key x6 b0_0 b0_1 κ (.tup [.agg (eLocks ⟨⟨r13a.Held.n, r13a.Held.w, false⟩, ⟨r13a.Waits.n, r13a.Waits.w, false⟩⟩), .sl 1 r13b.n (rowOf (eI .u64) r13b.w) false, .int .i64 r13c]) =
  (bif (((l.w ((x6).toNat)).K).X) then
   callP ctx k n_locks_Withdraw [.agg (eLocks ⟨⟨b0_0.n, b0_0.w, false⟩, ⟨b0_1.n, b0_1.w, false⟩⟩), .int .u64 (((l.w ((x6).toNat)).K).Tx)] (law22_LocksApart_r18 k j1 l key x6 b0_0 b0_1 r13a r13c κ)
  else (bif !decide (r13c = 0) then
    law22_LocksApart_h5 k j1 l key b0_0 b0_1 (wi64 (x6 + 1)) κ
   else callP ctx k n_locks_Check [.agg (eLocks ⟨⟨r13a.Held.n, r13a.Held.w, false⟩, ⟨r13a.Waits.n, r13a.Waits.w, false⟩⟩)] (law22_LocksApart_r19 k j1 l key x6 b0_0 b0_1 r13a r13c κ))) := by kernel_rfl
theorem law22_LocksApart_r14_s (k j1 : Nat) (l : (Sl TCall)) (key : ByteArray) (x6 : Int) (b0_0 : Sl TLock) (b0_1 : Sl TLock) (r14a : TLocks) (r14b : Bool) (r14c : Int) (κ : AV → Heap → Option ρ) : law22_LocksApart_r14 k j1 l key x6 b0_0 b0_1 κ (.tup [.agg (eLocks ⟨⟨r14a.Held.n, r14a.Held.w, false⟩, ⟨r14a.Waits.n, r14a.Waits.w, false⟩⟩), .bool r14b, .int .i64 r14c]) =
  (bif !decide (r14c = 0) then
   law22_LocksApart_h5 k j1 l key b0_0 b0_1 (wi64 (x6 + 1)) κ
  else callP ctx k n_locks_Check [.agg (eLocks ⟨⟨r14a.Held.n, r14a.Held.w, false⟩, ⟨r14a.Waits.n, r14a.Waits.w, false⟩⟩)] (law22_LocksApart_r20 k j1 l key x6 b0_0 b0_1 r14c r14c (!decide (r14c = 0)) ⟨r14a.Held.n, r14a.Held.w, false⟩ ⟨r14a.Waits.n, r14a.Waits.w, false⟩ ⟨r14a.Held.n, r14a.Held.w, false⟩ ⟨r14a.Waits.n, r14a.Waits.w, false⟩ ⟨r14a.Held.n, r14a.Held.w, false⟩ ⟨r14a.Waits.n, r14a.Waits.w, false⟩ κ)) := by kernel_rfl
theorem law22_LocksApart_r15_s (k j1 : Nat) (l : (Sl TCall)) (key : ByteArray) (x6 : Int) (r9a : TLocks) (r9c : Int) (r15a : TLocks) (r15b : Sl Int) (r15c : Int) (κ : AV → Heap → Option ρ) : law22_LocksApart_r15 k j1 l key x6 r9a r9c κ (.tup [.agg (eLocks ⟨⟨r15a.Held.n, r15a.Held.w, false⟩, ⟨r15a.Waits.n, r15a.Waits.w, false⟩⟩), .sl 1 r15b.n (rowOf (eI .u64) r15b.w) false, .int .i64 r15c]) =
  (bif !decide (r15c = 0) then
   law22_LocksApart_h0 k j1 l key (wi64 (x6 + 1)) κ
  else callP ctx k n_locks_Check [.agg (eLocks ⟨⟨r15a.Held.n, r15a.Held.w, false⟩, ⟨r15a.Waits.n, r15a.Waits.w, false⟩⟩)] (law22_LocksApart_r17 k j1 l key x6 r15c r15c (!decide (r15c = 0)) ⟨r15a.Held.n, r15a.Held.w, false⟩ ⟨r15a.Waits.n, r15a.Waits.w, false⟩ ⟨r15a.Held.n, r15a.Held.w, false⟩ ⟨r15a.Waits.n, r15a.Waits.w, false⟩ ⟨r15a.Held.n, r15a.Held.w, false⟩ ⟨r15a.Waits.n, r15a.Waits.w, false⟩ κ)) := by kernel_rfl
theorem law22_LocksApart_r16_s (k j1 : Nat) (l : (Sl TCall)) (key : ByteArray) (x6 : Int) (r9a : TLocks) (r9c : Int) (r16 : Int) (κ : AV → Heap → Option ρ) : law22_LocksApart_r16 k j1 l key x6 r9a r9c κ (.int .i64 r16) =
  (bif !decide (r16 = 0) then
   κ (.bool false) [some (.box [.sl 5 0 (rowOf eLock (fun _ => zLock)) true, .sl 5 0 (rowOf eLock (fun _ => zLock)) true]), some (.box [.sl 5 r9a.Held.n (rowOf eLock r9a.Held.w) false, .sl 5 r9a.Waits.n (rowOf eLock r9a.Waits.w) false])]
  else law22_LocksApart_h2 k j1 k l key ⟨r9a.Held.n, r9a.Held.w, false⟩ ⟨r9a.Waits.n, r9a.Waits.w, false⟩ 0 x6 κ) := by kernel_rfl
theorem law22_LocksApart_r17_s (k j1 : Nat) (l : (Sl TCall)) (key : ByteArray) (x6 : Int) (x9 : Int) (x74 : Int) (x75 : Bool) (x76_0 : Sl TLock) (x76_1 : Sl TLock) (b1_0 : Sl TLock) (b1_1 : Sl TLock) (xa0_0 : Sl TLock) (xa0_1 : Sl TLock) (r17 : Int) (κ : AV → Heap → Option ρ) : law22_LocksApart_r17 k j1 l key x6 x9 x74 x75 x76_0 x76_1 b1_0 b1_1 xa0_0 xa0_1 κ (.int .i64 r17) =
  (bif !decide (r17 = 0) then
   κ (.bool false) [some (.box [.sl 5 0 (rowOf eLock (fun _ => zLock)) true, .sl 5 0 (rowOf eLock (fun _ => zLock)) true]), some (.box [.sl 5 b1_0.n (rowOf eLock b1_0.w) false, .sl 5 b1_1.n (rowOf eLock b1_1.w) false])]
  else law22_LocksApart_h2 k j1 k l key ⟨b1_0.n, b1_0.w, false⟩ ⟨b1_1.n, b1_1.w, false⟩ 0 x6 κ) := by kernel_rfl
theorem law22_LocksApart_r18_s (k j1 : Nat) (l : (Sl TCall)) (key : ByteArray) (x6 : Int) (b0_0 : Sl TLock) (b0_1 : Sl TLock) (r13a : TLocks) (r13c : Int) (r18a : TLocks) (r18b : Sl Int) (r18c : Int) (κ : AV → Heap → Option ρ) : law22_LocksApart_r18 k j1 l key x6 b0_0 b0_1 r13a r13c κ (.tup [.agg (eLocks ⟨⟨r18a.Held.n, r18a.Held.w, false⟩, ⟨r18a.Waits.n, r18a.Waits.w, false⟩⟩), .sl 1 r18b.n (rowOf (eI .u64) r18b.w) false, .int .i64 r18c]) =
  (bif !decide (r18c = 0) then
   law22_LocksApart_h5 k j1 l key b0_0 b0_1 (wi64 (x6 + 1)) κ
  else callP ctx k n_locks_Check [.agg (eLocks ⟨⟨r18a.Held.n, r18a.Held.w, false⟩, ⟨r18a.Waits.n, r18a.Waits.w, false⟩⟩)] (law22_LocksApart_r20 k j1 l key x6 b0_0 b0_1 r18c r18c (!decide (r18c = 0)) ⟨r18a.Held.n, r18a.Held.w, false⟩ ⟨r18a.Waits.n, r18a.Waits.w, false⟩ ⟨r18a.Held.n, r18a.Held.w, false⟩ ⟨r18a.Waits.n, r18a.Waits.w, false⟩ ⟨r18a.Held.n, r18a.Held.w, false⟩ ⟨r18a.Waits.n, r18a.Waits.w, false⟩ κ)) := by kernel_rfl
theorem law22_LocksApart_r19_s (k j1 : Nat) (l : (Sl TCall)) (key : ByteArray) (x6 : Int) (b0_0 : Sl TLock) (b0_1 : Sl TLock) (r13a : TLocks) (r13c : Int) (r19 : Int) (κ : AV → Heap → Option ρ) : law22_LocksApart_r19 k j1 l key x6 b0_0 b0_1 r13a r13c κ (.int .i64 r19) =
  (bif !decide (r19 = 0) then
   κ (.bool false) [some (.box [.sl 5 b0_0.n (rowOf eLock b0_0.w) false, .sl 5 b0_1.n (rowOf eLock b0_1.w) false]), some (.box [.sl 5 r13a.Held.n (rowOf eLock r13a.Held.w) false, .sl 5 r13a.Waits.n (rowOf eLock r13a.Waits.w) false])]
  else law22_LocksApart_h2 k j1 k l key ⟨r13a.Held.n, r13a.Held.w, false⟩ ⟨r13a.Waits.n, r13a.Waits.w, false⟩ 0 x6 κ) := by kernel_rfl
theorem law22_LocksApart_r20_s (k j1 : Nat) (l : (Sl TCall)) (key : ByteArray) (x6 : Int) (b0_0 : Sl TLock) (b0_1 : Sl TLock) (x9 : Int) (x74 : Int) (x75 : Bool) (x76_0 : Sl TLock) (x76_1 : Sl TLock) (b1_0 : Sl TLock) (b1_1 : Sl TLock) (xa0_0 : Sl TLock) (xa0_1 : Sl TLock) (r20 : Int) (κ : AV → Heap → Option ρ) : law22_LocksApart_r20 k j1 l key x6 b0_0 b0_1 x9 x74 x75 x76_0 x76_1 b1_0 b1_1 xa0_0 xa0_1 κ (.int .i64 r20) =
  (bif !decide (r20 = 0) then
   κ (.bool false) [some (.box [.sl 5 b0_0.n (rowOf eLock b0_0.w) false, .sl 5 b0_1.n (rowOf eLock b0_1.w) false]), some (.box [.sl 5 b1_0.n (rowOf eLock b1_0.w) false, .sl 5 b1_1.n (rowOf eLock b1_1.w) false])]
  else law22_LocksApart_h2 k j1 k l key ⟨b1_0.n, b1_0.w, false⟩ ⟨b1_1.n, b1_1.w, false⟩ 0 x6 κ) := by kernel_rfl
theorem law22_LocksApart_e (k : Nat) (l : (Sl TCall)) (key : ByteArray) (κ : AV → Heap → Option ρ) : evalF ctx (k + 1) n_law22_LocksApart [.sl 6 l.n (rowOf eCall l.w) l.u, .str key] [] κ =
  (bif decide (600 < (key.size : Int)) then
   callP ctx k n_law22_head [] (law22_LocksApart_r0 k l key κ)
  else law22_LocksApart_h0 k k l key 0 κ) := by kernel_rfl
end Go.Proofs.YticcbbcgboddpaaC

set_option linter.unusedVariables false
set_option linter.unusedSimpArgs false
set_option maxRecDepth 20000
namespace Go.Proofs.YticcbbcgboddpaaC
open Go Go.Ev Go.Proofs
abbrev tbl (n : Nat) (v : Nat → TLock) (m : Nat) (w : Nat → TLock) : TLocks := ⟨⟨n, v, false⟩, ⟨m, w, false⟩⟩
theorem tbl_tab {n m : Nat} {v w : Nat → TLock} : checkB (tbl n v m w) = true ↔ Tab (lst n v) (lst m w) := check_tab (tbl n v m w)
theorem tbl_fit {n m : Nat} {v w : Nat → TLock} (h : checkB (tbl n v m w) = true) : n + m ≤ 200 ∧ TabP (lst n v) (lst m w) := by
  obtain ⟨h1, h2⟩ := tab_iff.1 (tbl_tab.1 h)
  rw [lst_len, lst_len] at h1
  exact ⟨h1, h2⟩
theorem tbl_of {n m : Nat} {v w : Nat → TLock} (h1 : n + m ≤ 200) (h2 : TabP (lst n v) (lst m w)) : checkB (tbl n v m w) = true := tbl_tab.2 (tab_iff.2 ⟨by rw [lst_len, lst_len]; exact h1, h2⟩)
theorem checkE_of {s : TLocks} (h : checkB s = true) : checkE' s = 0 := by unfold checkE'; rw [if_pos h]
theorem ask_tab {s : TLocks} {a : TLock} (hc : checkB s = true) (he : askE s a = 0) : Tab (askH s a) (askW s a) := by
  obtain ⟨hz, hp⟩ := tab_iff.1 ((check_tab s).1 hc)
  have hm : mayB a = true := by
    cases h : mayB a with
    | true => rfl
    | false => unfold askE at he; rw [hc, h, if_neg (by decide), if_pos rfl] at he; cases he
  have hw : waitL s.Waits.l a.Tx = false := by
    cases h : waitL s.Waits.l a.Tx with
    | false => rfl
    | true => unfold askE at he; rw [hc, hm, waitL_eq, h, if_neg (by decide), if_neg (by decide), if_pos rfl] at he; cases he
  unfold askH askW
  have hne : ¬ (askE s a ≠ 0) := fun h => h he
  rw [if_neg hne, if_neg hne]
  cases hv : coveredB s a with
  | true =>
    rw [if_neg (by simp), if_pos (by simp)]
    exact tab_iff.2 ⟨hz, hp⟩
  | false =>
    have h200 : s.Held.n + s.Waits.n ≠ 200 := by
      intro h
      unfold askE at he
      rw [hc, hm, waitL_eq, hw, hv, if_neg (by decide), if_neg (by decide), if_neg (by decide), if_neg (by decide), if_pos h] at he
      cases he
    have l1 : s.Held.l.length = s.Held.n := lst_len _ _
    have l2 : s.Waits.l.length = s.Waits.n := lst_len _ _
    cases ho : okB s a with
    | true =>
      rw [if_pos (by simp), if_pos (by simp)]
      rw [okL_eq] at ho
      exact tab_iff.2 ⟨by rw [List.length_append, List.length_singleton]; omega, hp.grant hm (grants_true ho).1⟩
    | false =>
      rw [if_neg (by simp), if_neg (by simp)]
      rw [okL_eq] at ho
      exact tab_iff.2 ⟨by rw [List.length_append, List.length_singleton]; omega, hp.queue hm (waitL_false hw) ho⟩
theorem serve_len (A R : List TLock) : (A ++ (serveF A [] [] R).1).length + (serveF A [] [] R).2.length = A.length + R.length := by
  have := serveF_len A R [] []
  simp only [List.length_nil, List.length_append] at *
  omega
/-- Release of a right table gives a right one -/
theorem rel_fit {s : TLocks} (hc : checkB s = true) (tx : Int) : checkB ⟨lsl (othL s.Held.l tx ++ (serveF (othL s.Held.l tx) [] [] (othL s.Waits.l tx)).1), lsl (serveF (othL s.Held.l tx) [] [] (othL s.Waits.l tx)).2⟩ = true := by
  obtain ⟨hz, hp⟩ := tab_iff.1 ((check_tab s).1 hc)
  refine (check_tab _).2 (tab_iff.2 ⟨?_, ?_⟩)
  · show (lst _ (gd zLock _)).length + (lst _ (gd zLock _)).length ≤ 200
    rw [gd_lst, gd_lst, serve_len]
    have := oth_le s.Held.l tx; have := oth_le s.Waits.l tx; omega
  · show TabP (lst _ (gd zLock _)) (lst _ (gd zLock _))
    rw [gd_lst, gd_lst]
    exact serve_tab0 hp (oth_sub _ _) (oth_sub _ _)
theorem wit_fit {s : TLocks} (hc : checkB s = true) (tx : Int) {n : Nat} {v : Nat → TLock} (hv : lst n v = s.Held.l ++ (serveF s.Held.l [] [] (othL s.Waits.l tx)).1) : checkB ⟨⟨n, v, false⟩, lsl (serveF s.Held.l [] [] (othL s.Waits.l tx)).2⟩ = true := by
  obtain ⟨hz, hp⟩ := tab_iff.1 ((check_tab s).1 hc)
  refine (check_tab _).2 (tab_iff.2 ⟨?_, ?_⟩)
  · show (lst n v).length + (lst _ (gd zLock _)).length ≤ 200
    rw [gd_lst, hv, serve_len]
    have := oth_le s.Waits.l tx; omega
  · show TabP (lst n v) (lst _ (gd zLock _))
    rw [gd_lst, hv]
    exact serve_tab0 hp (List.Sublist.refl _) (oth_sub _ _)
theorem locksApart_pure (l : Sl TCall) (key : ByteArray) (h0 : (SSl 64 SCall) l) (h1 : SStr key) : ∃ k, evalF ctx k n_law22_LocksApart [.sl 6 l.n (rowOf eCall l.w) l.u, .str key] [] (fun v _ => some v) = some (.bool true) := by
  suffices h : ∀ K, l.n + 3000 ≤ K → ∀ (κ : AV → Heap → Option Bool), (∀ b H, κ (.bool b) H = some b) → evalF ctx (K + 1) n_law22_LocksApart [.sl 6 l.n (rowOf eCall l.w) l.u, .str key] [] κ = some true by
    exact ⟨l.n + 3000 + 1, told_true (h (l.n + 3000) (Nat.le_refl _))⟩
  intro K hK κ hκ
  have hh : ∀ κ : AV → Option Bool, callP ctx K n_law22_head [] κ = κ (.bool true) := by
    intro κ
    obtain ⟨K0, rfl⟩ : ∃ K0, K = K0 + 300 := ⟨K - 300, by omega⟩
    exact head_ok K0 κ
  -- all released, one by one
  have last : ∀ (N j x n m : Nat) (v w : Nat → TLock), n + m ≤ N → N + x ≤ 200 → N < j → checkB (tbl n v m w) = true → law22_LocksApart_h6 K j (x : Int) ⟨n, v, false⟩ ⟨m, w, false⟩ κ = some true := by
    intro N
    induction N with
    | zero =>
      intro j x n m v w h1 h2 h3 hc
      obtain ⟨j, rfl⟩ : ∃ j', j = j' + 1 := ⟨j - 1, by omega⟩
      rw [law22_LocksApart_h6_s]
      dsimp only
      rw [wi64_in (by omega) (by omega), dec_f (by omega), cond_false, hh, law22_LocksApart_r7_s, hκ]
    | succ N ih =>
      intro j x n m v w h1 h2 h3 hc
      obtain ⟨j, rfl⟩ : ∃ j', j = j' + 1 := ⟨j - 1, by omega⟩
      rw [law22_LocksApart_h6_s]
      dsimp only
      rw [wi64_in (by omega) (by omega)]
      by_cases h0 : n + m = 0
      · rw [dec_f (by omega), cond_false, hh, law22_LocksApart_r7_s, hκ]
      · obtain ⟨hz, hp⟩ := tbl_fit hc
        have hn : 0 < n := by
          have := held_some hp (by rw [lst_len, lst_len]; omega)
          rwa [lst_len] at this
        rw [dec_t (by omega), cond_true, dec_f (by omega), cond_false, dec_f (by omega), cond_false, idx_ok (by omega) (by omega), cond_true]
        rw [rel_ok K (tbl n v m w) (v 0).Tx hc (by dsimp only; omega)]
        have hA := oth_lt (v := v) hn
        have hR : (othL (lst m w) (v 0).Tx).length ≤ m := by have := oth_le (lst m w) (v 0).Tx; rwa [lst_len] at this
        have hs := serve_len (othL (lst n v) (v 0).Tx) (othL (lst m w) (v 0).Tx)
        have hf := rel_fit hc (v 0).Tx
        have hg := serveF_len (othL (lst n v) (v 0).Tx) (othL (lst m w) (v 0).Tx) [] []
        simp only [List.length_nil] at hg
        unfold svT tabT
        show law22_LocksApart_r6 K j ⟨n, v, false⟩ ⟨m, w, false⟩ (x : Int) κ (.tup [.agg (eLocks ⟨lsl (othL (lst n v) (v 0).Tx ++ (serveF (othL (lst n v) (v 0).Tx) [] [] (othL (lst m w) (v 0).Tx)).1), lsl (serveF (othL (lst n v) (v 0).Tx) [] [] (othL (lst m w) (v 0).Tx)).2⟩), .sl 1 (txs (serveF (othL (lst n v) (v 0).Tx) [] [] (othL (lst m w) (v 0).Tx)).1).length (rowOf (eI .u64) (gd 0 (txs (serveF (othL (lst n v) (v 0).Tx) [] [] (othL (lst m w) (v 0).Tx)).1))) false, .int .i64 0]) = _
        change checkB ⟨lsl (othL (lst n v) (v 0).Tx ++ (serveF (othL (lst n v) (v 0).Tx) [] [] (othL (lst m w) (v 0).Tx)).1), lsl (serveF (othL (lst n v) (v 0).Tx) [] [] (othL (lst m w) (v 0).Tx)).2⟩ = true at hf
        generalize serveF (othL (lst n v) (v 0).Tx) [] [] (othL (lst m w) (v 0).Tx) = S at *
        obtain ⟨G, W'⟩ := S
        dsimp only at *
        refine (law22_LocksApart_r6_s K j ⟨n, v, false⟩ ⟨m, w, false⟩ (x : Int) ⟨lsl (othL (lst n v) (v 0).Tx ++ G), lsl W'⟩ ⟨(txs G).length, gd 0 (txs G), false⟩ 0 κ).trans ?_
        dsimp only
        rw [dec_int, Bool.not_true, cond_false, len_tx, wi64_in (n := (n : Int) + (m : Int)) (by omega) (by omega), wi64_in (n := ((othL (lst n v) (v 0).Tx ++ G).length : Int) + (W'.length : Int)) (by omega) (by omega), dec_f (by omega), cond_false, dec_f (by omega), cond_false, wi64_succ (by omega)]
        exact ih j (x + 1) _ _ _ _ (by omega) (by omega) (by omega) hf
  -- behind a call
  have aft : ∀ (j1 i n m : Nat) (v w : Nat → TLock), checkB (tbl n v m w) = true → law22_LocksApart_h2 K j1 K l key ⟨n, v, false⟩ ⟨m, w, false⟩ 0 (i : Int) κ = law22_LocksApart_h5 K j1 l key ⟨n, v, false⟩ ⟨m, w, false⟩ (wi64 ((i : Int) + 1)) κ := by
    intro j1 i n m v w hc
    obtain ⟨hz, hp⟩ := tbl_fit hc
    have has : ∀ (a : Nat) (κ' : AV → Option Bool), callP ctx K n_r03_Has [.agg (eRange ⟨(((v (((a : Nat) : Int)).toNat).R).From), (((v (((a : Nat) : Int)).toNat).R).To), (((v (((a : Nat) : Int)).toNat).R).End)⟩), .str key] κ' = κ' (.bool (rHas (v a).R key)) := fun a κ' => r03_Has_ok' K (v a).R key (by omega) κ'
    have wait : ∀ (j c : Nat), c ≤ m → m < c + j → law22_LocksApart_h4 K j1 j l key ⟨n, v, false⟩ ⟨m, w, false⟩ (c : Int) (i : Int) κ = law22_LocksApart_h5 K j1 l key ⟨n, v, false⟩ ⟨m, w, false⟩ (wi64 ((i : Int) + 1)) κ := by
      intro j
      induction j with
      | zero => intro c h1 h2; omega
      | succ j ih =>
        intro c h1 h2
        rw [law22_LocksApart_h4_s]
        dsimp only
        by_cases hcm : c < m
        · obtain ⟨q, u, f1, f2, f3⟩ := Blockers_ok (ρ := Bool) K (tbl n v m w) c hc hcm (fun j hj e => by
            have := List.pairwise_iff_getElem.1 hp.one j c (by rw [lst_len]; omega) (by rw [lst_len]; omega) hj
            rw [lst_get, lst_get] at this
            exact this e) (by omega)
          have hq : q ≠ 0 := by
            intro e
            subst e
            have := blk_some hp hcm
            obtain ⟨t, ht⟩ := List.exists_mem_of_ne_nil _ this
            have := (f2 t).2 ht
            simp [lst] at this
          have f3' : ∀ κ' : AV → Option Bool, callP ctx K n_locks_Blockers [.agg (eLocks ⟨⟨n, v, false⟩, ⟨m, w, false⟩⟩), .int .u64 ((w (((c : Nat) : Int)).toNat).Tx)] κ' = κ' (.sl 1 q (rowOf (eI .u64) u) false) := f3
          rw [dec_t (by omega), cond_true, idx_ok (by omega) (by omega), cond_true, f3']
          refine (law22_LocksApart_r4_s K j1 j l key (i : Int) ⟨n, v, false⟩ ⟨m, w, false⟩ (c : Int) ⟨q, u, false⟩ κ).trans ?_
          dsimp only
          rw [dec_f (by omega), cond_false, wi64_succ (by omega)]
          exact ih (c + 1) (by omega) (by omega)
        · rw [dec_f (by omega), cond_false]
    have held : ∀ (j2 a : Nat), a ≤ n → n < a + j2 → law22_LocksApart_h2 K j1 j2 l key ⟨n, v, false⟩ ⟨m, w, false⟩ (a : Int) (i : Int) κ = law22_LocksApart_h4 K j1 K l key ⟨n, v, false⟩ ⟨m, w, false⟩ 0 (i : Int) κ := by
      intro j2
      induction j2 with
      | zero => intro a h1 h2; omega
      | succ j2 ih =>
        intro a h1 h2
        rw [law22_LocksApart_h2_s]
        dsimp only
        by_cases han : a < n
        · rw [dec_t (by omega), cond_true]
          have row : ∀ (j3 b : Nat), b ≤ a → a < b + j3 → law22_LocksApart_h3 K j1 j2 j3 l key ⟨n, v, false⟩ ⟨m, w, false⟩ (i : Int) (a : Int) (b : Int) κ = law22_LocksApart_h2 K j1 j2 l key ⟨n, v, false⟩ ⟨m, w, false⟩ (wi64 ((a : Int) + 1)) (i : Int) κ := by
            intro j3
            induction j3 with
            | zero => intro b h1 h2; omega
            | succ j3 ih3 =>
              intro b g1 g2
              rw [law22_LocksApart_h3_s]
              dsimp only
              by_cases hba : b < a
              · have hag := held_apart hp han hba
                have next := ih3 (b + 1) (by omega) (by omega)
                rw [dec_t (by omega), cond_true, idx_ok (i := (a : Int)) (by omega) (by omega), cond_true, idx_ok (by omega) (by omega), cond_true, has, law22_LocksApart_r3_s]
                dsimp only
                rw [wi64_succ (i := b) (by omega)]
                cases ha : rHas (v a).R key with
                | false => exact next
                | true =>
                  rw [cond_true, has, law22_LocksApart_r11_s]
                  dsimp only
                  rw [wi64_succ (i := b) (by omega), Int.toNat_natCast, Int.toNat_natCast]
                  cases hb : rHas (v b).R key with
                  | false => exact next
                  | true =>
                    rw [cond_true]
                    by_cases ht : (v a).Tx = (v b).Tx
                    · rw [dec_t ht, Bool.not_true, cond_false]; exact next
                    · unfold againstB at hag
                      rw [decide_eq_false ht, both_meet ha hb, Bool.not_false, Bool.true_and, Bool.and_true, Bool.or_eq_false_iff] at hag
                      rw [dec_f ht, Bool.not_false, cond_true, hag.1, hag.2, cond_false, cond_false]; exact next
              · rw [dec_f (by omega), cond_false]
          have := row K 0 (by omega) (by omega)
          refine this.trans ?_
          rw [wi64_succ (by omega)]
          exact ih (a + 1) (by omega) (by omega)
        · rw [dec_f (by omega), cond_false]
    have := held K 0 (by omega) (by omega)
    refine this.trans ?_
    exact wait K 0 (by omega) (by omega)
  have hchk : ∀ (n m : Nat) (v w : Nat → TLock) (κ' : AV → Option Bool), checkB (tbl n v m w) = true → callP ctx K n_locks_Check [.agg (eLocks ⟨⟨n, v, false⟩, ⟨m, w, false⟩⟩)] κ' = κ' (.int .i64 0) := by
    intro n m v w κ' hc
    obtain ⟨hz, hp⟩ := tbl_fit hc
    rw [locks_Check_ok K (tbl n v m w) (by dsimp only; omega) (by dsimp only; omega) (by dsimp only; omega), checkE_of hc]
  have gr : ∀ (i : Nat) (κ' : AV → Option Bool), callP ctx K n_law22_great [.agg (eLock ⟨(((l.w (((i : Nat) : Int)).toNat).K).Tx), ⟨((((l.w (((i : Nat) : Int)).toNat).K).R).From), ((((l.w (((i : Nat) : Int)).toNat).K).R).To), ((((l.w (((i : Nat) : Int)).toNat).K).R).End)⟩, (((l.w (((i : Nat) : Int)).toNat).K).X)⟩)] κ' = κ' (.bool (decide (2000 < (l.w i).K.R.From.size) || decide (2000 < (l.w i).K.R.To.size))) := fun i κ' => great_ok K (l.w i).K (by omega) κ'
  have more : ∀ (j i n m : Nat) (v w : Nat → TLock), i ≤ l.n → l.n < i + j → checkB (tbl n v m w) = true → law22_LocksApart_h5 K j l key ⟨n, v, false⟩ ⟨m, w, false⟩ (i : Int) κ = some true := by
    intro j
    induction j with
    | zero => intro i n m v w h1 h2; omega
    | succ j ih =>
      intro i n m v w h1 h2 hc
      obtain ⟨hz, hp⟩ := tbl_fit hc
      rw [law22_LocksApart_h5_s]
      dsimp only
      have hend := last (n + m) K 0 n m v w (Nat.le_refl _) (by omega) (by omega) hc
      by_cases hi : i < l.n
      · rw [dec_t (show (i : Int) < (l.n : Int) by omega), cond_true]
        by_cases h60 : i < 60
        · rw [dec_t (show (i : Int) < 60 by omega), cond_true, idx_ok (by omega) (by omega), cond_true, gr, law22_LocksApart_r5_s]
          cases (decide (2000 < (l.w i).K.R.From.size) || decide (2000 < (l.w i).K.R.To.size)) with
          | true => rw [cond_true, hh, law22_LocksApart_r12_s, hκ]
          | false =>
            rw [cond_false, Int.toNat_natCast]
            dsimp only
            cases hgo : (l.w i).Go with
            | true =>
              rw [cond_true, rel_ok K (tbl n v m w) (l.w i).K.Tx hc (by dsimp only; omega)]
              refine (law22_LocksApart_r13_s K j l key (i : Int) ⟨n, v, false⟩ ⟨m, w, false⟩ ⟨lsl (othL (lst n v) (l.w i).K.Tx ++ (serveF (othL (lst n v) (l.w i).K.Tx) [] [] (othL (lst m w) (l.w i).K.Tx)).1), lsl (serveF (othL (lst n v) (l.w i).K.Tx) [] [] (othL (lst m w) (l.w i).K.Tx)).2⟩ ⟨_, gd 0 (txs (serveF (othL (lst n v) (l.w i).K.Tx) [] [] (othL (lst m w) (l.w i).K.Tx)).1), false⟩ 0 κ).trans ?_
              rw [Int.toNat_natCast]
              dsimp only
              cases hx : (l.w i).K.X with
              | true =>
                obtain ⟨n', v', hv', c'⟩ := wit_ok (ρ := Bool) K (tbl n v m w) (l.w i).K.Tx hc (by dsimp only; omega)
                rw [cond_true, c']
                have hf := wit_fit hc (l.w i).K.Tx hv'
                generalize serveF (tbl n v m w).Held.l [] [] (othL (tbl n v m w).Waits.l (l.w i).K.Tx) = S at *
                refine (law22_LocksApart_r18_s K j l key (i : Int) ⟨n, v, false⟩ ⟨m, w, false⟩ _ 0 ⟨⟨n', v', false⟩, lsl S.2⟩ ⟨_, gd 0 (txs S.1), false⟩ 0 κ).trans ?_
                rw [dec_int, Bool.not_true, cond_false]
                dsimp only
                rw [hchk _ _ _ _ _ hf, law22_LocksApart_r20_s, dec_int, Bool.not_true, cond_false]
                refine (aft j i _ _ _ _ hf).trans ?_
                rw [wi64_succ (by omega)]
                exact ih (i + 1) _ _ _ _ (by omega) (by omega) hf
              | false =>
                have hf := rel_fit hc (l.w i).K.Tx
                rw [cond_false, dec_int, Bool.not_true, cond_false]
                refine (hchk _ _ _ _ _ hf).trans ?_
                rw [law22_LocksApart_r19_s, dec_int, Bool.not_true, cond_false]
                refine (aft j i _ _ _ _ hf).trans ?_
                rw [wi64_succ (by omega)]
                exact ih (i + 1) _ _ _ _ (by omega) (by omega) hf
            | false =>
              rw [cond_false]
              obtain ⟨n', v', m', w', q1, q2, q3⟩ := Ask_ok (ρ := Bool) K (tbl n v m w) (l.w i).K (by dsimp only; omega) (by dsimp only; omega) (by dsimp only; omega)
              refine (q3 _).trans ?_
              refine (law22_LocksApart_r14_s K j l key (i : Int) ⟨n, v, false⟩ ⟨m, w, false⟩ ⟨⟨n', v', false⟩, ⟨m', w', false⟩⟩ _ _ κ).trans ?_
              by_cases he : askE (tbl n v m w) (l.w i).K = 0
              · have hf : checkB (tbl n' v' m' w') = true := by
                  refine tbl_tab.2 ?_
                  rw [q1, q2]; exact ask_tab hc he
                rw [dec_t he, Bool.not_true, cond_false, hchk _ _ _ _ _ hf, law22_LocksApart_r20_s, dec_int, Bool.not_true, cond_false]
                refine (aft j i _ _ _ _ hf).trans ?_
                rw [wi64_succ (by omega)]
                exact ih (i + 1) _ _ _ _ (by omega) (by omega) hf
              · rw [dec_f he, Bool.not_false, cond_true, wi64_succ (by omega)]
                exact ih (i + 1) _ _ _ _ (by omega) (by omega) hc
        · rw [dec_f (show ¬ (i : Int) < 60 by omega), cond_false]; exact hend
      · rw [dec_f (by omega), cond_false]; exact hend
  have hz0 : checkB zLocks = true := (check_tab zLocks).2 tab_nil
  have first : ∀ (j i : Nat), i ≤ l.n → l.n < i + j → law22_LocksApart_h0 K j l key (i : Int) κ = some true := by
    intro j
    induction j with
    | zero => intro i h1 h2; omega
    | succ j ih =>
      intro i h1 h2
      rw [law22_LocksApart_h0_s]
      have hend : law22_LocksApart_h1 K K κ = some true := by
        obtain ⟨K', rfl⟩ : ∃ K', K = K' + 1 := ⟨K - 1, by omega⟩
        rw [law22_LocksApart_h1_s, hh, law22_LocksApart_r2_s, hκ]
      by_cases hi : i < l.n
      · rw [dec_t (show (i : Int) < (l.n : Int) by omega), cond_true]
        by_cases h60 : i < 60
        · rw [dec_t (show (i : Int) < 60 by omega), cond_true, idx_ok (by omega) (by omega), cond_true, gr, law22_LocksApart_r1_s]
          cases (decide (2000 < (l.w i).K.R.From.size) || decide (2000 < (l.w i).K.R.To.size)) with
          | true => rw [cond_true, hh, law22_LocksApart_r8_s, hκ]
          | false =>
            rw [cond_false, Int.toNat_natCast]
            cases hgo : (l.w i).Go with
            | true =>
              rw [cond_true, rel_ok K zLocks (l.w i).K.Tx hz0 (by show 0 + 0 + 100 ≤ K; omega)]
              refine (law22_LocksApart_r9_s K j l key (i : Int) ⟨lsl (othL zLocks.Held.l (l.w i).K.Tx ++ (serveF (othL zLocks.Held.l (l.w i).K.Tx) [] [] (othL zLocks.Waits.l (l.w i).K.Tx)).1), lsl (serveF (othL zLocks.Held.l (l.w i).K.Tx) [] [] (othL zLocks.Waits.l (l.w i).K.Tx)).2⟩ ⟨_, gd 0 (txs (serveF (othL zLocks.Held.l (l.w i).K.Tx) [] [] (othL zLocks.Waits.l (l.w i).K.Tx)).1), false⟩ 0 κ).trans ?_
              rw [Int.toNat_natCast]
              dsimp only
              cases hx : (l.w i).K.X with
              | true =>
                obtain ⟨n', v', hv', c'⟩ := wit_ok (ρ := Bool) K zLocks (l.w i).K.Tx hz0 (by show 0 + 0 + 100 ≤ K; omega)
                rw [cond_true, c']
                have hf := wit_fit hz0 (l.w i).K.Tx hv'
                generalize serveF zLocks.Held.l [] [] (othL zLocks.Waits.l (l.w i).K.Tx) = S at *
                refine (law22_LocksApart_r15_s K j l key (i : Int) _ 0 ⟨⟨n', v', false⟩, lsl S.2⟩ ⟨_, gd 0 (txs S.1), false⟩ 0 κ).trans ?_
                rw [dec_int, Bool.not_true, cond_false]
                dsimp only
                rw [hchk _ _ _ _ _ hf, law22_LocksApart_r17_s, dec_int, Bool.not_true, cond_false]
                refine (aft j i _ _ _ _ hf).trans ?_
                rw [wi64_succ (by omega)]
                exact more j (i + 1) _ _ _ _ (by omega) (by omega) hf
              | false =>
                have hf := rel_fit hz0 (l.w i).K.Tx
                rw [cond_false, dec_int, Bool.not_true, cond_false]
                refine (hchk _ _ _ _ _ hf).trans ?_
                rw [law22_LocksApart_r16_s, dec_int, Bool.not_true, cond_false]
                refine (aft j i _ _ _ _ hf).trans ?_
                rw [wi64_succ (by omega)]
                exact more j (i + 1) _ _ _ _ (by omega) (by omega) hf
            | false =>
              rw [cond_false]
              obtain ⟨n', v', m', w', q1, q2, q3⟩ := Ask_ok (ρ := Bool) K zLocks (l.w i).K (by show 0 ≤ _; omega) (by show 0 ≤ _; omega) (by show 0 + 0 + 80 ≤ K; omega)
              refine (q3 _).trans ?_
              refine (law22_LocksApart_r10_s K j l key (i : Int) ⟨⟨n', v', false⟩, ⟨m', w', false⟩⟩ _ _ κ).trans ?_
              by_cases he : askE zLocks (l.w i).K = 0
              · have hf : checkB (tbl n' v' m' w') = true := by
                  refine tbl_tab.2 ?_
                  rw [q1, q2]; exact ask_tab hz0 he
                rw [dec_t he, Bool.not_true, cond_false, hchk _ _ _ _ _ hf, law22_LocksApart_r17_s, dec_int, Bool.not_true, cond_false]
                refine (aft j i _ _ _ _ hf).trans ?_
                rw [wi64_succ (by omega)]
                exact more j (i + 1) _ _ _ _ (by omega) (by omega) hf
              · rw [dec_f he, Bool.not_false, cond_true, wi64_succ (by omega)]
                exact ih (i + 1) (by omega) (by omega)
        · rw [dec_f (show ¬ (i : Int) < 60 by omega), cond_false]; exact hend
      · rw [dec_f (by omega), cond_false]; exact hend
  refine (law22_LocksApart_e K l key κ).trans ?_
  by_cases hkey : 600 < key.size
  · rw [dec_t (by omega), cond_true, hh, law22_LocksApart_r0_s, hκ]
  · rw [dec_f (by omega), cond_false]
    exact first K 0 (by omega) (by omega)
end Go.Proofs.YticcbbcgboddpaaC

set_option linter.unusedVariables false
set_option linter.unusedSimpArgs false
set_option maxRecDepth 20000
namespace Go.Proofs.YticcbbcgboddpaaC
open Go Go.Ev Go.Proofs
variable {ρ : Type}
theorem drop_lst {α : Type} (n i : Nat) (w : Nat → α) (h : i < n) : (lst n w).drop i = w i :: (lst n w).drop (i + 1) := by
  rw [List.drop_eq_getElem_cons (by rw [lst_len]; exact h), lst_get]
theorem drop_end {α : Type} (n : Nat) (w : Nat → α) : (lst n w).drop n = [] := List.drop_eq_nil_of_le (by rw [lst_len]; exact Nat.le_refl _)
def conflB (a b : TLock) : Bool := mayB a && (mayB b && againstB a b)
theorem Conflict_ok (k : Nat) (a b : TLock) (hk : 12 ≤ k) (κ : AV → Option ρ) : callP ctx k n_locks_Conflict [.agg (eLock a), .agg (eLock b)] κ = κ (.bool (conflB a b)) := by
  obtain ⟨k, rfl⟩ : ∃ k', k = k' + 1 := ⟨k - 1, by omega⟩
  rw [callP_eq]
  refine (locks_Conflict_e k a b (pk κ)).trans ?_
  unfold conflB
  rw [may_ok k a (by omega), locks_Conflict_r0_s]
  cases mayB a with
  | false => rfl
  | true =>
    rw [cond_true, may_ok k b (by omega), locks_Conflict_r1_s]
    cases mayB b with
    | false => rfl
    | true => rw [cond_true, against_ok k a b (by omega), locks_Conflict_r2_s]; rfl
theorem Blockers_none (k : Nat) (s : TLocks) (tx : Int) (hn : s.Waits.n ≤ 10000) (h : ∀ i, i < s.Waits.n → (s.Waits.w i).Tx ≠ tx) (hk : s.Waits.n + 30 ≤ k) (κ : AV → Option ρ) : callP ctx k n_locks_Blockers [.agg (eLocks s), .int .u64 tx] κ = κ (.sl 1 0 (rowOf (eI .u64) (fun _ => 0)) false) := by
  obtain ⟨k, rfl⟩ : ∃ k', k = k' + 1 := ⟨k - 1, by omega⟩
  have hf : firstI s.Waits.n (fun j => decide ((s.Waits.w j).Tx = tx)) = -1 := by
    unfold firstI
    have : (List.range s.Waits.n).find? (fun j => decide ((s.Waits.w j).Tx = tx)) = none := by
      rw [List.find?_eq_none]
      intro j hj
      have := h j (List.mem_range.1 hj)
      simpa using this
    rw [this]
  rw [callP_eq]
  refine (locks_Blockers_e k s _ (pk κ)).trans ?_
  rw [index_Blk_ok k _ _ _ _ hn (by omega), hf, locks_Blockers_r0_s, dec_t (by omega), cond_true]; rfl
theorem within_has {b c : TRange} {p : ByteArray} (h : withinB b c = true) (hp : rHas b p = true) : rHas c p = true := by
  unfold withinB at h
  unfold rHas hasB at *
  simp only [Bool.and_eq_true, Bool.not_eq_true', Bool.or_eq_true] at *
  obtain ⟨hb, hc, h1, h2⟩ := h
  obtain ⟨_, p1, p2⟩ := hp
  refine ⟨hc, bl_le_trans h1 p1, ?_⟩
  rcases h2 with h2 | ⟨h2, h3⟩
  · exact .inl h2
  · rcases p2 with p2 | p2
    · rw [h2] at p2; cases p2
    · exact .inr (bl_lt_le p2 h3)
theorem meets_pt {a b : TRange} (h : meetsB a b = true) : ∃ p, rHas a p = true ∧ rHas b p = true := by
  unfold meetsB at h
  simp only [Bool.and_eq_true, Bool.or_eq_true] at h
  obtain ⟨ra, rb, h⟩ := h
  rcases h with h | h
  · exact ⟨b.From, by unfold rHas; rw [ra, h]; rfl, by unfold rHas; rw [rb, from_has rb]; rfl⟩
  · exact ⟨a.From, by unfold rHas; rw [ra, from_has ra]; rfl, by unfold rHas; rw [rb, h]; rfl⟩
theorem meets_within {a b c : TRange} (h : meetsB a b = true) (hw : withinB b c = true) : meetsB a c = true := by
  obtain ⟨p, p1, p2⟩ := meets_pt h
  exact both_meet p1 (within_has hw p2)
theorem meets_comm {a b : TRange} (h : meetsB a b = true) : meetsB b a = true := by
  obtain ⟨p, p1, p2⟩ := meets_pt h
  exact both_meet p2 p1
theorem against_comm {a b : TLock} (h : againstB a b = true) : againstB b a = true := by
  unfold againstB at *
  simp only [Bool.and_eq_true, Bool.not_eq_true', decide_eq_false_iff_not, Bool.or_eq_true] at *
  exact ⟨fun e => h.1 e.symm, h.2.1.symm, meets_comm h.2.2⟩
theorem apart_all : ∀ {H : List TLock}, H.Pairwise (fun a b => againstB b a = false) → ∀ x ∈ H, ∀ y ∈ H, againstB x y = false
  | [], _, x, hx, _, _ => by simp at hx
  | a :: H, h, x, hx, y, hy => by
    obtain ⟨h1, h2⟩ := List.pairwise_cons.1 h
    have self : ∀ z : TLock, againstB z z = false := fun z => by unfold againstB; rw [decide_eq_true rfl]; rfl
    have flip : ∀ z, z ∈ H → againstB a z = false := fun z hz => by
      cases hc : againstB a z with
      | false => rfl
      | true => have := against_comm hc; rw [h1 z hz] at this; cases this
    rcases List.mem_cons.1 hx with ex | hx'
    · rcases List.mem_cons.1 hy with ey | hy'
      · rw [ex, ey]; exact self a
      · rw [ex]; exact flip y hy'
    · rcases List.mem_cons.1 hy with ey | hy'
      · rw [ey]; exact h1 x hx'
      · exact apart_all h2 x hx' y hy'
/-- who holds what another one's lock stands against, and what covers it -/
theorem not_both {H W : List TLock} (h : TabP H W) {o : TLock} (h1 : covL H o = true) (h2 : H.any (fun x => conflB x o) = true) : False := by
  unfold covL at h1
  rw [List.any_eq_true] at h1 h2
  obtain ⟨c, hc, e1⟩ := h1
  obtain ⟨x, hx, e2⟩ := h2
  have e3 : againstB x o = true := by
    unfold conflB at e2
    simp only [Bool.and_eq_true] at e2
    exact e2.2.2
  have e4 : againstB x c = true := by
    unfold coversB at e1
    unfold againstB at *
    simp only [Bool.and_eq_true, Bool.not_eq_true', decide_eq_false_iff_not, decide_eq_true_eq, Bool.or_eq_true] at *
    refine ⟨fun e => e3.1 (by rw [e, e1.1]), ?_, meets_within e3.2.2 e1.2.2⟩
    rcases e3.2.1 with g | g
    · exact .inl g
    · rcases e1.2.1 with g2 | g2
      · exact .inr g2
      · rw [g] at g2; cases g2
  rw [apart_all h.held x hx c hc] at e4
  cases e4
theorem cov_self {H : List TLock} {o : TLock} (ho : o ∈ H) (hm : mayB o = true) : covL H o = true := by
  unfold covL
  rw [List.any_eq_true]
  refine ⟨o, ho, ?_⟩
  unfold mayB at hm
  rw [Bool.and_eq_true] at hm
  unfold coversB
  rw [decide_eq_true rfl, within_self hm.2]
  cases o.X <;> rfl
/-- one that waits: there is another one -/
theorem wait_other {H W : List TLock} (h : TabP H W) {o : TLock} (ho : o ∈ W) : txs (othL H o.Tx) ++ txs (othL W o.Tx) ≠ [] := by
  obtain ⟨P, S, e⟩ := List.append_of_mem ho
  have hg := h.wait P o S e
  unfold grantsL at hg
  rw [Bool.and_eq_false_iff, Bool.not_eq_false', Bool.not_eq_false', List.any_eq_true, List.any_eq_true] at hg
  have key : ∀ y L, y ∈ L → againstB o y = true → y ∈ othL L o.Tx := by
    intro y L hy ha
    unfold othL
    rw [List.mem_filter]
    refine ⟨hy, ?_⟩
    unfold againstB at ha
    simp only [Bool.and_eq_true, Bool.not_eq_true', decide_eq_false_iff_not] at ha
    simp only [Bool.not_eq_true', decide_eq_false_iff_not]
    exact fun x => ha.1 x.symm
  intro e0
  rw [List.append_eq_nil_iff] at e0
  rcases hg with ⟨y, hy, ha⟩ | ⟨y, hy, ha⟩
  · have := key y H hy ha
    have e1 := List.map_eq_nil_iff.1 e0.1
    rw [e1] at this; cases this
  · have := key y W (by rw [e]; exact List.mem_append_left _ hy) ha
    have e1 := List.map_eq_nil_iff.1 e0.2
    rw [e1] at this; cases this
/-- where a lock is, when others are released -/
theorem serve_has {A : List TLock} {o : TLock} : ∀ (R G W : List TLock), (o ∈ A ++ G ∨ o ∈ W ∨ o ∈ R) → o ∈ A ++ (serveF A G W R).1 ∨ o ∈ (serveF A G W R).2
  | [], G, W, h => by
    rcases h with h | h | h
    · exact .inl h
    · exact .inr h
    · cases h
  | x :: R, G, W, h => by
    unfold serveF
    split
    · refine serve_has R _ _ ?_
      rcases h with h | h | h
      · exact .inl (by rw [← List.append_assoc]; exact List.mem_append_left _ h)
      · exact .inr (.inl h)
      · rcases List.mem_cons.1 h with h | h
        · exact .inl (by rw [h]; simp)
        · exact .inr (.inr h)
    · refine serve_has R _ _ ?_
      rcases h with h | h | h
      · exact .inl h
      · exact .inr (.inl (List.mem_append_left _ h))
      · rcases List.mem_cons.1 h with h | h
        · exact .inr (.inl (by rw [h]; simp))
        · exact .inr (.inr h)
theorem rel_has {H W : List TLock} {o : TLock} {tx : Int} (hne : o.Tx ≠ tx) (h : o ∈ H ∨ o ∈ W) : o ∈ othL H tx ++ (serveF (othL H tx) [] [] (othL W tx)).1 ∨ o ∈ (serveF (othL H tx) [] [] (othL W tx)).2 := by
  refine serve_has (othL W tx) [] [] ?_
  rw [List.append_nil]
  unfold othL
  rcases h with h | h
  · exact .inl (List.mem_filter.2 ⟨h, by simpa using hne⟩)
  · exact .inr (.inr (List.mem_filter.2 ⟨h, by simpa using hne⟩))
theorem oth_fewer {H W : List TLock} {t tx : Int} (h : t ∈ txs (othL H tx) ++ txs (othL W tx)) : t ≠ tx ∧ (othL H t).length + (othL W t).length < H.length + W.length := by
  have key : ∀ L : List TLock, t ∈ txs (othL L tx) → t ≠ tx ∧ (othL L t).length < L.length := by
    intro L hL
    obtain ⟨x, hx, rfl⟩ := List.mem_map.1 hL
    unfold othL at hx
    obtain ⟨h1, h2⟩ := List.mem_filter.1 hx
    refine ⟨by simpa using h2, ?_⟩
    unfold othL
    exact List.length_filter_lt_length_iff_exists.2 ⟨x, h1, by simp⟩
  have a1 := oth_le H t
  have a2 := oth_le W t
  rcases List.mem_append.1 h with h | h
  · obtain ⟨h1, h2⟩ := key H h
    exact ⟨h1, by omega⟩
  · obtain ⟨h1, h2⟩ := key W h
    exact ⟨h1, by omega⟩
/-- the last one of a transaction's -/
def lastF (tx : Int) : List TLock → TLock → TLock
  | [], o => o
  | x :: L, o => lastF tx L (if x.Tx = tx then x else o)
theorem lastF_mem (tx : Int) : ∀ (L : List TLock) (o : TLock), (o.Tx = tx ∨ ∃ x ∈ L, x.Tx = tx) → (lastF tx L o).Tx = tx ∧ (lastF tx L o = o ∨ lastF tx L o ∈ L)
  | [], o, h => by
    rcases h with h | ⟨x, hx, _⟩
    · exact ⟨h, .inl rfl⟩
    · cases hx
  | x :: L, o, h => by
    unfold lastF
    by_cases hx : x.Tx = tx
    · rw [if_pos hx]
      obtain ⟨h1, h2⟩ := lastF_mem tx L x (.inl hx)
      refine ⟨h1, ?_⟩
      rcases h2 with h2 | h2
      · exact .inr (by rw [h2]; simp)
      · exact .inr (by simp [h2])
    · rw [if_neg hx]
      obtain ⟨h1, h2⟩ := lastF_mem tx L o (by
        rcases h with h | ⟨y, hy, e⟩
        · exact .inl h
        · rcases List.mem_cons.1 hy with rfl | hy
          · exact absurd e hx
          · exact .inr ⟨y, hy, e⟩)
      refine ⟨h1, ?_⟩
      rcases h2 with h2 | h2
      · exact .inl h2
      · exact .inr (by simp [h2])
theorem lastF_some {tx : Int} {L : List TLock} (h : ∃ x ∈ L, x.Tx = tx) (o : TLock) : (lastF tx L o).Tx = tx ∧ (lastF tx L o) ∈ L := by
  cases L with
  | nil => obtain ⟨x, hx, _⟩ := h; cases hx
  | cons x L =>
    unfold lastF
    by_cases hx : x.Tx = tx
    · rw [if_pos hx]
      obtain ⟨h1, h2⟩ := lastF_mem tx L x (.inl hx)
      refine ⟨h1, ?_⟩
      rcases h2 with h2 | h2
      · rw [h2]; simp
      · simp [h2]
    · rw [if_neg hx]
      obtain ⟨y, hy, e⟩ := h
      rcases List.mem_cons.1 hy with rfl | hy
      · exact absurd e hx
      · obtain ⟨h1, h2⟩ := lastF_some ⟨y, hy, e⟩ o
        exact ⟨h1, by simp [h2]⟩
end Go.Proofs.YticcbbcgboddpaaC

set_option linter.unusedVariables false
set_option maxRecDepth 20000
namespace Go.Proofs.YticcbbcgboddpaaC
open Go Go.Ev Go.Proofs
variable {ρ : Type}
noncomputable def r22_May_r0 (k : Nat) (o : TLock) (κ : AV → Heap → Option ρ) (v : AV) : Option ρ := resAt ctx k n_r22_May 0 [.r, .l] 6 [(6, true)] ⟨(envOf 11 [(0, .agg (eLock o)), (1, .ref 0 0), (2, .bool false), (3, .ref 0 0), (4, .int .u64 o.Tx), (5, .bool (decide (0 < o.Tx))), (6, .bool (decide (0 < o.Tx))), (7, .ref 0 1), (8, .agg (eRange o.R)), (9, v)]), [some (.box (eLock o))]⟩ κ
theorem r22_May_r0_s (k : Nat) (o : TLock) (r0 : Bool) (κ : AV → Heap → Option ρ) : r22_May_r0 k o κ (.bool r0) =
  κ (.bool r0) [] := by kernel_rfl
theorem r22_May_e (k : Nat) (o : TLock) (κ : AV → Heap → Option ρ) : evalF ctx (k + 1) n_r22_May [.agg (eLock o)] [] κ =
  (bif decide (0 < o.Tx) then
   callP ctx k n_r03_Right [.agg (eRange o.R)] (r22_May_r0 k o κ)
  else κ (.bool false) []) := by kernel_rfl
noncomputable def r22_Against_r0 (k : Nat) (a : TLock) (b : TLock) (κ : AV → Heap → Option ρ) (v : AV) : Option ρ := resAt ctx k n_r22_Against 0 [.r, .l] 10 [(10, true)] ⟨(envOf 25 [(2, .ref 0 0), (3, .ref 1 0), (5, .ref 0 0), (6, .int .u64 a.Tx), (7, .ref 1 0), (8, .int .u64 b.Tx), (9, .bool (!decide (a.Tx = b.Tx))), (10, .bool (!decide (a.Tx = b.Tx))), (11, .ref 0 1), (12, .agg (eRange a.R)), (13, .ref 1 1), (14, .agg (eRange b.R)), (15, v)]), [some (.box (eLock a)), some (.box (eLock b))]⟩ κ
theorem r22_Against_r0_s (k : Nat) (a : TLock) (b : TLock) (r0 : Bool) (κ : AV → Heap → Option ρ) : r22_Against_r0 k a b κ (.bool r0) =
  (bif r0 then
   (bif a.X then
    κ (.bool true) []
   else κ (.bool b.X) [])
  else κ (.bool false) []) := by kernel_rfl
theorem r22_Against_e (k : Nat) (a : TLock) (b : TLock) (κ : AV → Heap → Option ρ) : evalF ctx (k + 1) n_r22_Against [.agg (eLock a), .agg (eLock b)] [] κ =
  (bif !decide (a.Tx = b.Tx) then
   callP ctx k n_r03_Meets [.agg (eRange a.R), .agg (eRange b.R)] (r22_Against_r0 k a b κ)
  else κ (.bool false) []) := by kernel_rfl
noncomputable def r22_Conflict_r0 (k : Nat) (a : TLock) (b : TLock) (κ : AV → Heap → Option ρ) (v : AV) : Option ρ := resAt ctx k n_r22_Conflict 0 [.r, .l] 1 [] ⟨(envOf 16 [(2, .ref 0 0), (3, .ref 1 0), (5, .agg (eLock a)), (6, v)]), [some (.box (eLock a)), some (.box (eLock b))]⟩ κ
noncomputable def r22_Conflict_r1 (k : Nat) (a : TLock) (b : TLock) (r0 : Bool) (κ : AV → Heap → Option ρ) (v : AV) : Option ρ := resAt ctx k n_r22_Conflict 0 [.r, .l] 4 [(7, true)] ⟨(envOf 16 [(2, .ref 0 0), (3, .ref 1 0), (5, .agg (eLock a)), (6, .bool r0), (7, .bool r0), (8, .agg (eLock b)), (9, v)]), [some (.box (eLock a)), some (.box (eLock b))]⟩ κ
noncomputable def r22_Conflict_r2 (k : Nat) (a : TLock) (b : TLock) (r0 : Bool) (r1 : Bool) (κ : AV → Heap → Option ρ) (v : AV) : Option ρ := resAt ctx k n_r22_Conflict 0 [.r, .l] 9 [(11, true), (7, true)] ⟨(envOf 16 [(2, .ref 0 0), (3, .ref 1 0), (5, .agg (eLock a)), (6, .bool r0), (7, .bool r0), (8, .agg (eLock b)), (9, .bool r1), (10, .bool r1), (11, .bool r1), (12, .agg (eLock a)), (13, .agg (eLock b)), (14, v)]), [some (.box (eLock a)), some (.box (eLock b))]⟩ κ
theorem r22_Conflict_r0_s (k : Nat) (a : TLock) (b : TLock) (r0 : Bool) (κ : AV → Heap → Option ρ) : r22_Conflict_r0 k a b κ (.bool r0) =
  (bif r0 then
   callP ctx k n_r22_May [.agg (eLock b)] (r22_Conflict_r1 k a b r0 κ)
  else κ (.bool false) []) := by kernel_rfl
theorem r22_Conflict_r1_s (k : Nat) (a : TLock) (b : TLock) (r0 : Bool) (r1 : Bool) (κ : AV → Heap → Option ρ) : r22_Conflict_r1 k a b r0 κ (.bool r1) =
  (bif r1 then
   callP ctx k n_r22_Against [.agg (eLock a), .agg (eLock b)] (r22_Conflict_r2 k a b r0 r1 κ)
  else κ (.bool false) []) := by kernel_rfl
theorem r22_Conflict_r2_s (k : Nat) (a : TLock) (b : TLock) (r0 : Bool) (r1 : Bool) (r2 : Bool) (κ : AV → Heap → Option ρ) : r22_Conflict_r2 k a b r0 r1 κ (.bool r2) =
  κ (.bool r2) [] := by kernel_rfl
theorem r22_Conflict_e (k : Nat) (a : TLock) (b : TLock) (κ : AV → Heap → Option ρ) : evalF ctx (k + 1) n_r22_Conflict [.agg (eLock a), .agg (eLock b)] [] κ =
  callP ctx k n_r22_May [.agg (eLock a)] (r22_Conflict_r0 k a b κ) := by kernel_rfl
noncomputable def r22_any_h0 (k j : Nat) (o : TLock) (l : (Sl TLock)) (x5 : Int) (κ : AV → Heap → Option ρ) : Option ρ := headAt ctx k n_r22_any 0 [.r, .l, .r] j ⟨(envOf 18 [(1, .sl 5 l.n (rowOf eLock l.w) l.u), (2, .ref 0 0), (5, .int .i64 x5)]), [some (.box (eLock o))]⟩ κ
noncomputable def r22_any_r0 (k j1 : Nat) (o : TLock) (l : (Sl TLock)) (x5 : Int) (κ : AV → Heap → Option ρ) (v : AV) : Option ρ := resAt ctx k n_r22_any 0 [.r, .l, .r, .into j1, .r, .l, .l] 5 [] ⟨(envOf 18 [(1, .sl 5 l.n (rowOf eLock l.w) l.u), (2, .ref 0 0), (5, .int .i64 x5), (9, .bool (decide (x5 < (l.n : Int)))), (12, .agg (eLock o)), (13, .sl 5 l.n (rowOf eLock l.w) l.u), (14, .int .i64 x5), (15, .rref [.int .u64 ((l.w ((x5).toNat)).Tx), .str (((l.w ((x5).toNat)).R).From), .str (((l.w ((x5).toNat)).R).To), .bool (((l.w ((x5).toNat)).R).End), .bool ((l.w ((x5).toNat)).X)] 0), (16, .agg (eLock ⟨((l.w ((x5).toNat)).Tx), ⟨(((l.w ((x5).toNat)).R).From), (((l.w ((x5).toNat)).R).To), (((l.w ((x5).toNat)).R).End)⟩, ((l.w ((x5).toNat)).X)⟩)), (17, v)]), [some (.box (eLock o))]⟩ κ
theorem r22_any_h0_s (k j : Nat) (o : TLock) (l : (Sl TLock)) (x5 : Int) (κ : AV → Heap → Option ρ) : r22_any_h0 k (j + 1) o l x5 κ =
  (bif decide (x5 < (l.n : Int)) then
   (bif idxOK x5 l.n then
    callP ctx k n_r22_Against [.agg (eLock o), .agg (eLock ⟨((l.w ((x5).toNat)).Tx), ⟨(((l.w ((x5).toNat)).R).From), (((l.w ((x5).toNat)).R).To), (((l.w ((x5).toNat)).R).End)⟩, ((l.w ((x5).toNat)).X)⟩)] (r22_any_r0 k j o l x5 κ)
   else none)
  else κ (.bool false) [some (.box (eLock o))]) := by kernel_rfl
theorem r22_any_r0_s (k j1 : Nat) (o : TLock) (l : (Sl TLock)) (x5 : Int) (r0 : Bool) (κ : AV → Heap → Option ρ) : r22_any_r0 k j1 o l x5 κ (.bool r0) =
  (bif r0 then
   κ (.bool true) [some (.box (eLock o))]
  else r22_any_h0 k j1 o l (wi64 (x5 + 1)) κ) := by kernel_rfl
theorem r22_any_e (k : Nat) (o : TLock) (l : (Sl TLock)) (κ : AV → Heap → Option ρ) : evalF ctx (k + 1) n_r22_any [.agg (eLock o), .sl 5 l.n (rowOf eLock l.w) l.u] [] κ =
  r22_any_h0 k k o l 0 κ := by kernel_rfl
noncomputable def r22_Check_h0 (k j : Nat) (l : TLocks) (x3 : Int) (κ : AV → Heap → Option ρ) : Option ρ := headAt ctx k n_r22_Check 0 [.r, .r, .l, .r] j ⟨(envOf 86 [(1, .ref 0 0), (3, .int .i64 x3)]), [some (.box [.sl 5 l.Held.n (rowOf eLock l.Held.w) l.Held.u, .sl 5 l.Waits.n (rowOf eLock l.Waits.w) l.Waits.u])]⟩ κ
noncomputable def r22_Check_h1 (k j : Nat) (l : TLocks) (x4 : Int) (κ : AV → Heap → Option ρ) : Option ρ := headAt ctx k n_r22_Check 0 [.r, .r, .r, .l, .r] j ⟨(envOf 86 [(1, .ref 0 0), (4, .int .i64 x4)]), [some (.box [.sl 5 l.Held.n (rowOf eLock l.Held.w) l.Held.u, .sl 5 l.Waits.n (rowOf eLock l.Waits.w) l.Waits.u])]⟩ κ
noncomputable def r22_Check_h2 (k j1 j : Nat) (l : TLocks) (x4 : Int) (b1_0 : Int) (b1_1 : ByteArray) (b1_2 : ByteArray) (b1_3 : Bool) (b1_4 : Bool) (x6 : Int) (κ : AV → Heap → Option ρ) : Option ρ := headAt ctx k n_r22_Check 0 [.r, .r, .r, .l, .r, .into j1, .r, .l, .r, .r, .r] j ⟨(envOf 86 [(1, .ref 0 0), (4, .int .i64 x4), (5, .ref 1 0), (6, .int .i64 x6)]), [some (.box [.sl 5 l.Held.n (rowOf eLock l.Held.w) l.Held.u, .sl 5 l.Waits.n (rowOf eLock l.Waits.w) l.Waits.u]), some (.box (eLock ⟨b1_0, ⟨b1_1, b1_2, b1_3⟩, b1_4⟩))]⟩ κ
noncomputable def r22_Check_r0 (k j1 : Nat) (l : TLocks) (x3 : Int) (κ : AV → Heap → Option ρ) (v : AV) : Option ρ := resAt ctx k n_r22_Check 0 [.r, .r, .l, .r, .into j1, .r, .l, .l] 5 [] ⟨(envOf 86 [(1, .ref 0 0), (3, .int .i64 x3), (19, .bool (decide (x3 < (l.Held.n : Int)))), (22, .ref 0 0), (23, .sl 5 l.Held.n (rowOf eLock l.Held.w) l.Held.u), (24, .int .i64 x3), (25, .rref [.int .u64 ((l.Held.w ((x3).toNat)).Tx), .str (((l.Held.w ((x3).toNat)).R).From), .str (((l.Held.w ((x3).toNat)).R).To), .bool (((l.Held.w ((x3).toNat)).R).End), .bool ((l.Held.w ((x3).toNat)).X)] 0), (26, .agg (eLock ⟨((l.Held.w ((x3).toNat)).Tx), ⟨(((l.Held.w ((x3).toNat)).R).From), (((l.Held.w ((x3).toNat)).R).To), (((l.Held.w ((x3).toNat)).R).End)⟩, ((l.Held.w ((x3).toNat)).X)⟩)), (27, v)]), [some (.box [.sl 5 l.Held.n (rowOf eLock l.Held.w) l.Held.u, .sl 5 l.Waits.n (rowOf eLock l.Waits.w) l.Waits.u])]⟩ κ
noncomputable def r22_Check_r1 (k j1 : Nat) (l : TLocks) (x4 : Int) (κ : AV → Heap → Option ρ) (v : AV) : Option ρ := resAt ctx k n_r22_Check 0 [.r, .r, .r, .l, .r, .into j1, .r, .l, .r, .l, .l] 1 [] ⟨(envOf 86 [(1, .ref 0 0), (4, .int .i64 x4), (5, .ref 1 0), (53, .agg (eLock ⟨((l.Waits.w ((x4).toNat)).Tx), ⟨(((l.Waits.w ((x4).toNat)).R).From), (((l.Waits.w ((x4).toNat)).R).To), (((l.Waits.w ((x4).toNat)).R).End)⟩, ((l.Waits.w ((x4).toNat)).X)⟩)), (54, v)]), [some (.box [.sl 5 l.Held.n (rowOf eLock l.Held.w) l.Held.u, .sl 5 l.Waits.n (rowOf eLock l.Waits.w) l.Waits.u]), some (.box (eLock ⟨((l.Waits.w ((x4).toNat)).Tx), ⟨(((l.Waits.w ((x4).toNat)).R).From), (((l.Waits.w ((x4).toNat)).R).To), (((l.Waits.w ((x4).toNat)).R).End)⟩, ((l.Waits.w ((x4).toNat)).X)⟩))]⟩ κ
noncomputable def r22_Check_r2 (k j1 : Nat) (l : TLocks) (r0 : Bool) (x3 : Int) (κ : AV → Heap → Option ρ) (v : AV) : Option ρ := resAt ctx k n_r22_Check 0 [.r, .r, .l, .r, .into j1, .r, .l, .l] 17 [(29, false)] ⟨(envOf 86 [(1, .ref 0 0), (3, .int .i64 x3), (19, .bool (decide (x3 < (l.Held.n : Int)))), (22, .ref 0 0), (23, .sl 5 l.Held.n (rowOf eLock l.Held.w) l.Held.u), (24, .int .i64 x3), (25, .rref [.int .u64 ((l.Held.w ((x3).toNat)).Tx), .str (((l.Held.w ((x3).toNat)).R).From), .str (((l.Held.w ((x3).toNat)).R).To), .bool (((l.Held.w ((x3).toNat)).R).End), .bool ((l.Held.w ((x3).toNat)).X)] 0), (26, .agg (eLock ⟨((l.Held.w ((x3).toNat)).Tx), ⟨(((l.Held.w ((x3).toNat)).R).From), (((l.Held.w ((x3).toNat)).R).To), (((l.Held.w ((x3).toNat)).R).End)⟩, ((l.Held.w ((x3).toNat)).X)⟩)), (27, .bool r0), (28, .bool (!r0)), (29, .bool (!r0)), (30, .ref 0 0), (31, .sl 5 l.Held.n (rowOf eLock l.Held.w) l.Held.u), (32, .int .i64 x3), (33, .rref [.int .u64 ((l.Held.w ((x3).toNat)).Tx), .str (((l.Held.w ((x3).toNat)).R).From), .str (((l.Held.w ((x3).toNat)).R).To), .bool (((l.Held.w ((x3).toNat)).R).End), .bool ((l.Held.w ((x3).toNat)).X)] 0), (34, .agg (eLock ⟨((l.Held.w ((x3).toNat)).Tx), ⟨(((l.Held.w ((x3).toNat)).R).From), (((l.Held.w ((x3).toNat)).R).To), (((l.Held.w ((x3).toNat)).R).End)⟩, ((l.Held.w ((x3).toNat)).X)⟩)), (35, .ref 0 0), (36, .sl 5 l.Held.n (rowOf eLock l.Held.w) l.Held.u), (37, .int .i64 x3), (38, .sl 5 ((x3).toNat) (rowOf eLock (fun i => l.Held.w (0 + i))) (l.Held.u && (decide (x3 = (l.Held.n : Int))))), (39, v)]), [some (.box [.sl 5 l.Held.n (rowOf eLock l.Held.w) l.Held.u, .sl 5 l.Waits.n (rowOf eLock l.Waits.w) l.Waits.u])]⟩ κ
noncomputable def r22_Check_r3 (k j1 : Nat) (l : TLocks) (r1 : Bool) (x4 : Int) (κ : AV → Heap → Option ρ) (v : AV) : Option ρ := resAt ctx k n_r22_Check 0 [.r, .r, .r, .l, .r, .into j1, .r, .l, .r, .l, .l] 7 [(56, false)] ⟨(envOf 86 [(1, .ref 0 0), (4, .int .i64 x4), (5, .ref 1 0), (53, .agg (eLock ⟨((l.Waits.w ((x4).toNat)).Tx), ⟨(((l.Waits.w ((x4).toNat)).R).From), (((l.Waits.w ((x4).toNat)).R).To), (((l.Waits.w ((x4).toNat)).R).End)⟩, ((l.Waits.w ((x4).toNat)).X)⟩)), (54, .bool r1), (55, .bool (!r1)), (56, .bool (!r1)), (57, .agg (eLock ⟨((l.Waits.w ((x4).toNat)).Tx), ⟨(((l.Waits.w ((x4).toNat)).R).From), (((l.Waits.w ((x4).toNat)).R).To), (((l.Waits.w ((x4).toNat)).R).End)⟩, ((l.Waits.w ((x4).toNat)).X)⟩)), (58, .ref 0 0), (59, .sl 5 l.Held.n (rowOf eLock l.Held.w) l.Held.u), (60, v)]), [some (.box [.sl 5 l.Held.n (rowOf eLock l.Held.w) l.Held.u, .sl 5 l.Waits.n (rowOf eLock l.Waits.w) l.Waits.u]), some (.box (eLock ⟨((l.Waits.w ((x4).toNat)).Tx), ⟨(((l.Waits.w ((x4).toNat)).R).From), (((l.Waits.w ((x4).toNat)).R).To), (((l.Waits.w ((x4).toNat)).R).End)⟩, ((l.Waits.w ((x4).toNat)).X)⟩))]⟩ κ
noncomputable def r22_Check_r4 (k j1 : Nat) (l : TLocks) (r1 : Bool) (r3 : Bool) (x4 : Int) (κ : AV → Heap → Option ρ) (v : AV) : Option ρ := resAt ctx k n_r22_Check 0 [.r, .r, .r, .l, .r, .into j1, .r, .l, .r, .l, .l] 15 [(62, true), (56, false)] ⟨(envOf 86 [(1, .ref 0 0), (4, .int .i64 x4), (5, .ref 1 0), (53, .agg (eLock ⟨((l.Waits.w ((x4).toNat)).Tx), ⟨(((l.Waits.w ((x4).toNat)).R).From), (((l.Waits.w ((x4).toNat)).R).To), (((l.Waits.w ((x4).toNat)).R).End)⟩, ((l.Waits.w ((x4).toNat)).X)⟩)), (54, .bool r1), (55, .bool (!r1)), (56, .bool (!r1)), (57, .agg (eLock ⟨((l.Waits.w ((x4).toNat)).Tx), ⟨(((l.Waits.w ((x4).toNat)).R).From), (((l.Waits.w ((x4).toNat)).R).To), (((l.Waits.w ((x4).toNat)).R).End)⟩, ((l.Waits.w ((x4).toNat)).X)⟩)), (58, .ref 0 0), (59, .sl 5 l.Held.n (rowOf eLock l.Held.w) l.Held.u), (60, .bool r3), (61, .bool (!r3)), (62, .bool (!r3)), (63, .agg (eLock ⟨((l.Waits.w ((x4).toNat)).Tx), ⟨(((l.Waits.w ((x4).toNat)).R).From), (((l.Waits.w ((x4).toNat)).R).To), (((l.Waits.w ((x4).toNat)).R).End)⟩, ((l.Waits.w ((x4).toNat)).X)⟩)), (64, .ref 0 1), (65, .sl 5 l.Waits.n (rowOf eLock l.Waits.w) l.Waits.u), (66, .int .i64 x4), (67, .sl 5 ((x4).toNat) (rowOf eLock (fun i => l.Waits.w (0 + i))) (l.Waits.u && (decide (x4 = (l.Waits.n : Int))))), (68, v)]), [some (.box [.sl 5 l.Held.n (rowOf eLock l.Held.w) l.Held.u, .sl 5 l.Waits.n (rowOf eLock l.Waits.w) l.Waits.u]), some (.box (eLock ⟨((l.Waits.w ((x4).toNat)).Tx), ⟨(((l.Waits.w ((x4).toNat)).R).From), (((l.Waits.w ((x4).toNat)).R).To), (((l.Waits.w ((x4).toNat)).R).End)⟩, ((l.Waits.w ((x4).toNat)).X)⟩))]⟩ κ
theorem r22_Check_h0_s (k j : Nat) (l : TLocks) (x3 : Int) (κ : AV → Heap → Option ρ) : r22_Check_h0 k (j + 1) l x3 κ =
  (bif decide (x3 < (l.Held.n : Int)) then
   (bif idxOK x3 l.Held.n then
    callP ctx k n_r22_May [.agg (eLock ⟨((l.Held.w ((x3).toNat)).Tx), ⟨(((l.Held.w ((x3).toNat)).R).From), (((l.Held.w ((x3).toNat)).R).To), (((l.Held.w ((x3).toNat)).R).End)⟩, ((l.Held.w ((x3).toNat)).X)⟩)] (r22_Check_r0 k j l x3 κ)
   else none)
  else r22_Check_h1 k k l 0 κ) := by kernel_rfl
theorem r22_Check_h1_s (k j : Nat) (l : TLocks) (x4 : Int) (κ : AV → Heap → Option ρ) : r22_Check_h1 k (j + 1) l x4 κ =
  (bif decide (x4 < (l.Waits.n : Int)) then
   (bif idxOK x4 l.Waits.n then
    callP ctx k n_r22_May [.agg (eLock ⟨((l.Waits.w ((x4).toNat)).Tx), ⟨(((l.Waits.w ((x4).toNat)).R).From), (((l.Waits.w ((x4).toNat)).R).To), (((l.Waits.w ((x4).toNat)).R).End)⟩, ((l.Waits.w ((x4).toNat)).X)⟩)] (r22_Check_r1 k j l x4 κ)
   else none)
  else κ (.int .i64 0) [some (.box [.sl 5 l.Held.n (rowOf eLock l.Held.w) l.Held.u, .sl 5 l.Waits.n (rowOf eLock l.Waits.w) l.Waits.u])]) := by kernel_rfl
theorem r22_Check_h2_s (k j1 j : Nat) (l : TLocks) (x4 : Int) (b1_0 : Int) (b1_1 : ByteArray) (b1_2 : ByteArray) (b1_3 : Bool) (b1_4 : Bool) (x6 : Int) (κ : AV → Heap → Option ρ) : r22_Check_h2 k j1 (j + 1) l x4 b1_0 b1_1 b1_2 b1_3 b1_4 x6 κ =
  (bif decide (x6 < x4) then
   (bif idxOK x6 l.Waits.n then
    (bif decide (((l.Waits.w ((x6).toNat)).Tx) = b1_0) then
     κ (.int .i64 220) [some (.box [.sl 5 l.Held.n (rowOf eLock l.Held.w) l.Held.u, .sl 5 l.Waits.n (rowOf eLock l.Waits.w) l.Waits.u]), some (.box (eLock ⟨b1_0, ⟨b1_1, b1_2, b1_3⟩, b1_4⟩))]
    else r22_Check_h2 k j1 j l x4 b1_0 b1_1 b1_2 b1_3 b1_4 (wi64 (x6 + 1)) κ)
   else none)
  else r22_Check_h1 k j1 l (wi64 (x4 + 1)) κ) := by kernel_rfl
theorem r22_Check_r0_s (k j1 : Nat) (l : TLocks) (x3 : Int) (r0 : Bool) (κ : AV → Heap → Option ρ) : r22_Check_r0 k j1 l x3 κ (.bool r0) =
  (bif !r0 then
   κ (.int .i64 220) [some (.box [.sl 5 l.Held.n (rowOf eLock l.Held.w) l.Held.u, .sl 5 l.Waits.n (rowOf eLock l.Waits.w) l.Waits.u])]
  else (bif idxOK x3 l.Held.n then
    (bif cutOK l.Held.n 0 x3 (l.Held.n : Int) then
     callP ctx k n_r22_any [.agg (eLock ⟨((l.Held.w ((x3).toNat)).Tx), ⟨(((l.Held.w ((x3).toNat)).R).From), (((l.Held.w ((x3).toNat)).R).To), (((l.Held.w ((x3).toNat)).R).End)⟩, ((l.Held.w ((x3).toNat)).X)⟩), .sl 5 ((x3).toNat) (rowOf eLock (fun i => l.Held.w (0 + i))) (l.Held.u && (decide (x3 = (l.Held.n : Int))))] (r22_Check_r2 k j1 l r0 x3 κ)
    else none)
   else none)) := by kernel_rfl
theorem r22_Check_r1_s (k j1 : Nat) (l : TLocks) (x4 : Int) (r1 : Bool) (κ : AV → Heap → Option ρ) : r22_Check_r1 k j1 l x4 κ (.bool r1) =
  (bif !r1 then
   κ (.int .i64 220) [some (.box [.sl 5 l.Held.n (rowOf eLock l.Held.w) l.Held.u, .sl 5 l.Waits.n (rowOf eLock l.Waits.w) l.Waits.u]), some (.box (eLock ⟨((l.Waits.w ((x4).toNat)).Tx), ⟨(((l.Waits.w ((x4).toNat)).R).From), (((l.Waits.w ((x4).toNat)).R).To), (((l.Waits.w ((x4).toNat)).R).End)⟩, ((l.Waits.w ((x4).toNat)).X)⟩))]
  else callP ctx k n_r22_any [.agg (eLock ⟨((l.Waits.w ((x4).toNat)).Tx), ⟨(((l.Waits.w ((x4).toNat)).R).From), (((l.Waits.w ((x4).toNat)).R).To), (((l.Waits.w ((x4).toNat)).R).End)⟩, ((l.Waits.w ((x4).toNat)).X)⟩), .sl 5 l.Held.n (rowOf eLock l.Held.w) l.Held.u] (r22_Check_r3 k j1 l r1 x4 κ)) := by kernel_rfl
theorem r22_Check_r2_s (k j1 : Nat) (l : TLocks) (r0 : Bool) (x3 : Int) (r2 : Bool) (κ : AV → Heap → Option ρ) : r22_Check_r2 k j1 l r0 x3 κ (.bool r2) =
  (bif r2 then
   κ (.int .i64 220) [some (.box [.sl 5 l.Held.n (rowOf eLock l.Held.w) l.Held.u, .sl 5 l.Waits.n (rowOf eLock l.Waits.w) l.Waits.u])]
  else r22_Check_h0 k j1 l (wi64 (x3 + 1)) κ) := by kernel_rfl
theorem r22_Check_r3_s (k j1 : Nat) (l : TLocks) (r1 : Bool) (x4 : Int) (r3 : Bool) (κ : AV → Heap → Option ρ) : r22_Check_r3 k j1 l r1 x4 κ (.bool r3) =
  (bif !r3 then
   (bif cutOK l.Waits.n 0 x4 (l.Waits.n : Int) then
    callP ctx k n_r22_any [.agg (eLock ⟨((l.Waits.w ((x4).toNat)).Tx), ⟨(((l.Waits.w ((x4).toNat)).R).From), (((l.Waits.w ((x4).toNat)).R).To), (((l.Waits.w ((x4).toNat)).R).End)⟩, ((l.Waits.w ((x4).toNat)).X)⟩), .sl 5 ((x4).toNat) (rowOf eLock (fun i => l.Waits.w (0 + i))) (l.Waits.u && (decide (x4 = (l.Waits.n : Int))))] (r22_Check_r4 k j1 l r1 r3 x4 κ)
   else none)
  else r22_Check_h2 k j1 k l x4 ((l.Waits.w ((x4).toNat)).Tx) (((l.Waits.w ((x4).toNat)).R).From) (((l.Waits.w ((x4).toNat)).R).To) (((l.Waits.w ((x4).toNat)).R).End) ((l.Waits.w ((x4).toNat)).X) 0 κ) := by kernel_rfl
theorem r22_Check_r4_s (k j1 : Nat) (l : TLocks) (r1 : Bool) (r3 : Bool) (x4 : Int) (r4 : Bool) (κ : AV → Heap → Option ρ) : r22_Check_r4 k j1 l r1 r3 x4 κ (.bool r4) =
  (bif !r4 then
   κ (.int .i64 220) [some (.box [.sl 5 l.Held.n (rowOf eLock l.Held.w) l.Held.u, .sl 5 l.Waits.n (rowOf eLock l.Waits.w) l.Waits.u]), some (.box (eLock ⟨((l.Waits.w ((x4).toNat)).Tx), ⟨(((l.Waits.w ((x4).toNat)).R).From), (((l.Waits.w ((x4).toNat)).R).To), (((l.Waits.w ((x4).toNat)).R).End)⟩, ((l.Waits.w ((x4).toNat)).X)⟩))]
  else r22_Check_h2 k j1 k l x4 ((l.Waits.w ((x4).toNat)).Tx) (((l.Waits.w ((x4).toNat)).R).From) (((l.Waits.w ((x4).toNat)).R).To) (((l.Waits.w ((x4).toNat)).R).End) ((l.Waits.w ((x4).toNat)).X) 0 κ) := by kernel_rfl
theorem r22_Check_e (k : Nat) (l : TLocks) (κ : AV → Heap → Option ρ) : evalF ctx (k + 1) n_r22_Check [.agg (eLocks l)] [] κ =
  (bif decide (200 < wi64 ((l.Held.n : Int) + (l.Waits.n : Int))) then
   κ (.int .i64 220) [some (.box [.sl 5 l.Held.n (rowOf eLock l.Held.w) l.Held.u, .sl 5 l.Waits.n (rowOf eLock l.Waits.w) l.Waits.u])]
  else r22_Check_h0 k k l 0 κ) := by kernel_rfl
noncomputable def r22_sameRow_h0 (k j : Nat) (a : (Sl TLock)) (b : (Sl TLock)) (x5 : Int) (κ : AV → Heap → Option ρ) : Option ρ := headAt ctx k n_r22_sameRow 0 [.r, .r, .l, .r] j ⟨(envOf 26 [(0, .sl 5 a.n (rowOf eLock a.w) a.u), (1, .sl 5 b.n (rowOf eLock b.w) b.u), (5, .int .i64 x5)]), []⟩ κ
theorem r22_sameRow_h0_s (k j : Nat) (a : (Sl TLock)) (b : (Sl TLock)) (x5 : Int) (κ : AV → Heap → Option ρ) : r22_sameRow_h0 k (j + 1) a b x5 κ =
  (bif decide (x5 < (a.n : Int)) then
   (bif idxOK x5 a.n then
    (bif idxOK x5 b.n then
     (bif !((decide (((a.w ((x5).toNat)).Tx) = ((b.w ((x5).toNat)).Tx))) && ((decide ((((a.w ((x5).toNat)).R).From) = (((b.w ((x5).toNat)).R).From))) && ((decide ((((a.w ((x5).toNat)).R).To) = (((b.w ((x5).toNat)).R).To))) && (((((a.w ((x5).toNat)).R).End) == (((b.w ((x5).toNat)).R).End)) && ((((a.w ((x5).toNat)).X) == ((b.w ((x5).toNat)).X)) && true))))) then
      κ (.bool false) []
     else r22_sameRow_h0 k j a b (wi64 (x5 + 1)) κ)
    else none)
   else none)
  else κ (.bool true) []) := by kernel_rfl
theorem r22_sameRow_e (k : Nat) (a : (Sl TLock)) (b : (Sl TLock)) (κ : AV → Heap → Option ρ) : evalF ctx (k + 1) n_r22_sameRow [.sl 5 a.n (rowOf eLock a.w) a.u, .sl 5 b.n (rowOf eLock b.w) b.u] [] κ =
  (bif !decide ((a.n : Int) = (b.n : Int)) then
   κ (.bool false) []
  else r22_sameRow_h0 k k a b 0 κ) := by kernel_rfl
noncomputable def r22_Same_r0 (k : Nat) (a : TLocks) (b : TLocks) (κ : AV → Heap → Option ρ) (v : AV) : Option ρ := resAt ctx k n_r22_Same 0 [.r, .l] 4 [] ⟨(envOf 17 [(2, .ref 0 0), (3, .ref 1 0), (5, .ref 0 0), (6, .sl 5 a.Held.n (rowOf eLock a.Held.w) a.Held.u), (7, .ref 1 0), (8, .sl 5 b.Held.n (rowOf eLock b.Held.w) b.Held.u), (9, v)]), [some (.box [.sl 5 a.Held.n (rowOf eLock a.Held.w) a.Held.u, .sl 5 a.Waits.n (rowOf eLock a.Waits.w) a.Waits.u]), some (.box [.sl 5 b.Held.n (rowOf eLock b.Held.w) b.Held.u, .sl 5 b.Waits.n (rowOf eLock b.Waits.w) b.Waits.u])]⟩ κ
noncomputable def r22_Same_r1 (k : Nat) (a : TLocks) (b : TLocks) (r0 : Bool) (κ : AV → Heap → Option ρ) (v : AV) : Option ρ := resAt ctx k n_r22_Same 0 [.r, .l] 10 [(10, true)] ⟨(envOf 17 [(2, .ref 0 0), (3, .ref 1 0), (5, .ref 0 0), (6, .sl 5 a.Held.n (rowOf eLock a.Held.w) a.Held.u), (7, .ref 1 0), (8, .sl 5 b.Held.n (rowOf eLock b.Held.w) b.Held.u), (9, .bool r0), (10, .bool r0), (11, .ref 0 1), (12, .sl 5 a.Waits.n (rowOf eLock a.Waits.w) a.Waits.u), (13, .ref 1 1), (14, .sl 5 b.Waits.n (rowOf eLock b.Waits.w) b.Waits.u), (15, v)]), [some (.box [.sl 5 a.Held.n (rowOf eLock a.Held.w) a.Held.u, .sl 5 a.Waits.n (rowOf eLock a.Waits.w) a.Waits.u]), some (.box [.sl 5 b.Held.n (rowOf eLock b.Held.w) b.Held.u, .sl 5 b.Waits.n (rowOf eLock b.Waits.w) b.Waits.u])]⟩ κ
theorem r22_Same_r0_s (k : Nat) (a : TLocks) (b : TLocks) (r0 : Bool) (κ : AV → Heap → Option ρ) : r22_Same_r0 k a b κ (.bool r0) =
  (bif r0 then
   callP ctx k n_r22_sameRow [.sl 5 a.Waits.n (rowOf eLock a.Waits.w) a.Waits.u, .sl 5 b.Waits.n (rowOf eLock b.Waits.w) b.Waits.u] (r22_Same_r1 k a b r0 κ)
  else κ (.bool false) []) := by kernel_rfl
theorem r22_Same_r1_s (k : Nat) (a : TLocks) (b : TLocks) (r0 : Bool) (r1 : Bool) (κ : AV → Heap → Option ρ) : r22_Same_r1 k a b r0 κ (.bool r1) =
  κ (.bool r1) [] := by kernel_rfl
theorem r22_Same_e (k : Nat) (a : TLocks) (b : TLocks) (κ : AV → Heap → Option ρ) : evalF ctx (k + 1) n_r22_Same [.agg (eLocks a), .agg (eLocks b)] [] κ =
  callP ctx k n_r22_sameRow [.sl 5 a.Held.n (rowOf eLock a.Held.w) a.Held.u, .sl 5 b.Held.n (rowOf eLock b.Held.w) b.Held.u] (r22_Same_r0 k a b κ) := by kernel_rfl
noncomputable def r22_covered_h0 (k j : Nat) (l : TLocks) (o : TLock) (x5 : Int) (κ : AV → Heap → Option ρ) : Option ρ := headAt ctx k n_r22_covered 0 [.r, .l, .r] j ⟨(envOf 40 [(2, .ref 0 0), (3, .ref 1 0), (5, .int .i64 x5)]), [some (.box [.sl 5 l.Held.n (rowOf eLock l.Held.w) l.Held.u, .sl 5 l.Waits.n (rowOf eLock l.Waits.w) l.Waits.u]), some (.box (eLock o))]⟩ κ
noncomputable def r22_covered_r0 (k j1 : Nat) (l : TLocks) (o : TLock) (x5 : Int) (κ : AV → Heap → Option ρ) (v : AV) : Option ρ := resAt ctx k n_r22_covered 0 [.r, .l, .r, .into j1, .r, .l, .r, .l] 19 [(33, true), (27, true), (24, true)] ⟨(envOf 40 [(2, .ref 0 0), (3, .ref 1 0), (5, .int .i64 x5), (6, .ref 2 0), (19, .ref 2 0), (20, .int .u64 ((l.Held.w ((x5).toNat)).Tx)), (21, .ref 1 0), (22, .int .u64 o.Tx), (23, .bool (decide (((l.Held.w ((x5).toNat)).Tx) = o.Tx))), (24, .bool (decide (((l.Held.w ((x5).toNat)).Tx) = o.Tx))), (25, .ref 2 4), (26, .bool ((l.Held.w ((x5).toNat)).X)), (27, .bool ((l.Held.w ((x5).toNat)).X)), (28, .und), (29, .und), (30, .und), (31, .bool true), (32, .bool true), (33, .bool true), (34, .ref 1 1), (35, .agg (eRange o.R)), (36, .ref 2 1), (37, .agg (eRange ⟨(((l.Held.w ((x5).toNat)).R).From), (((l.Held.w ((x5).toNat)).R).To), (((l.Held.w ((x5).toNat)).R).End)⟩)), (38, v)]), [some (.box [.sl 5 l.Held.n (rowOf eLock l.Held.w) l.Held.u, .sl 5 l.Waits.n (rowOf eLock l.Waits.w) l.Waits.u]), some (.box (eLock o)), some (.box (eLock ⟨((l.Held.w ((x5).toNat)).Tx), ⟨(((l.Held.w ((x5).toNat)).R).From), (((l.Held.w ((x5).toNat)).R).To), (((l.Held.w ((x5).toNat)).R).End)⟩, ((l.Held.w ((x5).toNat)).X)⟩))]⟩ κ
noncomputable def r22_covered_r1 (k j1 : Nat) (l : TLocks) (o : TLock) (x5 : Int) (κ : AV → Heap → Option ρ) (v : AV) : Option ρ := resAt ctx k n_r22_covered 0 [.r, .l, .r, .into j1, .r, .l, .r, .l] 19 [(33, true), (27, false), (24, true)] ⟨(envOf 40 [(2, .ref 0 0), (3, .ref 1 0), (5, .int .i64 x5), (6, .ref 2 0), (19, .ref 2 0), (20, .int .u64 ((l.Held.w ((x5).toNat)).Tx)), (21, .ref 1 0), (22, .int .u64 o.Tx), (23, .bool (decide (((l.Held.w ((x5).toNat)).Tx) = o.Tx))), (24, .bool (decide (((l.Held.w ((x5).toNat)).Tx) = o.Tx))), (25, .ref 2 4), (26, .bool ((l.Held.w ((x5).toNat)).X)), (27, .bool ((l.Held.w ((x5).toNat)).X)), (28, .ref 1 4), (29, .bool o.X), (30, .bool (!o.X)), (31, .bool (!o.X)), (32, .bool (!o.X)), (33, .bool (!o.X)), (34, .ref 1 1), (35, .agg (eRange o.R)), (36, .ref 2 1), (37, .agg (eRange ⟨(((l.Held.w ((x5).toNat)).R).From), (((l.Held.w ((x5).toNat)).R).To), (((l.Held.w ((x5).toNat)).R).End)⟩)), (38, v)]), [some (.box [.sl 5 l.Held.n (rowOf eLock l.Held.w) l.Held.u, .sl 5 l.Waits.n (rowOf eLock l.Waits.w) l.Waits.u]), some (.box (eLock o)), some (.box (eLock ⟨((l.Held.w ((x5).toNat)).Tx), ⟨(((l.Held.w ((x5).toNat)).R).From), (((l.Held.w ((x5).toNat)).R).To), (((l.Held.w ((x5).toNat)).R).End)⟩, ((l.Held.w ((x5).toNat)).X)⟩))]⟩ κ
theorem r22_covered_h0_s (k j : Nat) (l : TLocks) (o : TLock) (x5 : Int) (κ : AV → Heap → Option ρ) : r22_covered_h0 k (j + 1) l o x5 κ =
  (bif decide (x5 < (l.Held.n : Int)) then
   (bif idxOK x5 l.Held.n then
    (bif decide (((l.Held.w ((x5).toNat)).Tx) = o.Tx) then
     (bif ((l.Held.w ((x5).toNat)).X) then
      callP ctx k n_r03_Within [.agg (eRange o.R), .agg (eRange ⟨(((l.Held.w ((x5).toNat)).R).From), (((l.Held.w ((x5).toNat)).R).To), (((l.Held.w ((x5).toNat)).R).End)⟩)] (r22_covered_r0 k j l o x5 κ)
     else (bif !o.X then
       callP ctx k n_r03_Within [.agg (eRange o.R), .agg (eRange ⟨(((l.Held.w ((x5).toNat)).R).From), (((l.Held.w ((x5).toNat)).R).To), (((l.Held.w ((x5).toNat)).R).End)⟩)] (r22_covered_r1 k j l o x5 κ)
      else r22_covered_h0 k j l o (wi64 (x5 + 1)) κ))
    else r22_covered_h0 k j l o (wi64 (x5 + 1)) κ)
   else none)
  else κ (.bool false) [some (.box [.sl 5 l.Held.n (rowOf eLock l.Held.w) l.Held.u, .sl 5 l.Waits.n (rowOf eLock l.Waits.w) l.Waits.u]), some (.box (eLock o))]) := by kernel_rfl
theorem r22_covered_r0_s (k j1 : Nat) (l : TLocks) (o : TLock) (x5 : Int) (r0 : Bool) (κ : AV → Heap → Option ρ) : r22_covered_r0 k j1 l o x5 κ (.bool r0) =
  (bif r0 then
   κ (.bool true) [some (.box [.sl 5 l.Held.n (rowOf eLock l.Held.w) l.Held.u, .sl 5 l.Waits.n (rowOf eLock l.Waits.w) l.Waits.u]), some (.box (eLock o))]
  else r22_covered_h0 k j1 l o (wi64 (x5 + 1)) κ) := by kernel_rfl
theorem r22_covered_r1_s (k j1 : Nat) (l : TLocks) (o : TLock) (x5 : Int) (r1 : Bool) (κ : AV → Heap → Option ρ) : r22_covered_r1 k j1 l o x5 κ (.bool r1) =
  (bif r1 then
   κ (.bool true) [some (.box [.sl 5 l.Held.n (rowOf eLock l.Held.w) l.Held.u, .sl 5 l.Waits.n (rowOf eLock l.Waits.w) l.Waits.u]), some (.box (eLock o))]
  else r22_covered_h0 k j1 l o (wi64 (x5 + 1)) κ) := by kernel_rfl
theorem r22_covered_e (k : Nat) (l : TLocks) (o : TLock) (κ : AV → Heap → Option ρ) : evalF ctx (k + 1) n_r22_covered [.agg (eLocks l), .agg (eLock o)] [] κ =
  r22_covered_h0 k k l o 0 κ := by kernel_rfl
noncomputable def r22_Holds_r0 (k : Nat) (l : TLocks) (o : TLock) (κ : AV → Heap → Option ρ) (v : AV) : Option ρ := resAt ctx k n_r22_Holds 0 [.r, .l] 1 [] ⟨(envOf 17 [(2, .ref 0 0), (3, .ref 1 0), (5, .agg (eLocks l)), (6, v)]), [some (.box [.sl 5 l.Held.n (rowOf eLock l.Held.w) l.Held.u, .sl 5 l.Waits.n (rowOf eLock l.Waits.w) l.Waits.u]), some (.box (eLock o))]⟩ κ
noncomputable def r22_Holds_r1 (k : Nat) (l : TLocks) (o : TLock) (r0 : Int) (κ : AV → Heap → Option ρ) (v : AV) : Option ρ := resAt ctx k n_r22_Holds 0 [.r, .l] 5 [(8, true)] ⟨(envOf 17 [(2, .ref 0 0), (3, .ref 1 0), (5, .agg (eLocks l)), (6, .int .i64 r0), (7, .bool (decide (r0 = 0))), (8, .bool (decide (r0 = 0))), (9, .agg (eLock o)), (10, v)]), [some (.box [.sl 5 l.Held.n (rowOf eLock l.Held.w) l.Held.u, .sl 5 l.Waits.n (rowOf eLock l.Waits.w) l.Waits.u]), some (.box (eLock o))]⟩ κ
noncomputable def r22_Holds_r2 (k : Nat) (l : TLocks) (o : TLock) (r0 : Int) (r1 : Bool) (κ : AV → Heap → Option ρ) (v : AV) : Option ρ := resAt ctx k n_r22_Holds 0 [.r, .l] 10 [(12, true), (8, true)] ⟨(envOf 17 [(2, .ref 0 0), (3, .ref 1 0), (5, .agg (eLocks l)), (6, .int .i64 r0), (7, .bool (decide (r0 = 0))), (8, .bool (decide (r0 = 0))), (9, .agg (eLock o)), (10, .bool r1), (11, .bool r1), (12, .bool r1), (13, .agg (eLocks l)), (14, .agg (eLock o)), (15, v)]), [some (.box [.sl 5 l.Held.n (rowOf eLock l.Held.w) l.Held.u, .sl 5 l.Waits.n (rowOf eLock l.Waits.w) l.Waits.u]), some (.box (eLock o))]⟩ κ
theorem r22_Holds_r0_s (k : Nat) (l : TLocks) (o : TLock) (r0 : Int) (κ : AV → Heap → Option ρ) : r22_Holds_r0 k l o κ (.int .i64 r0) =
  (bif decide (r0 = 0) then
   callP ctx k n_r22_May [.agg (eLock o)] (r22_Holds_r1 k l o r0 κ)
  else κ (.bool false) []) := by kernel_rfl
theorem r22_Holds_r1_s (k : Nat) (l : TLocks) (o : TLock) (r0 : Int) (r1 : Bool) (κ : AV → Heap → Option ρ) : r22_Holds_r1 k l o r0 κ (.bool r1) =
  (bif r1 then
   callP ctx k n_r22_covered [.agg (eLocks l), .agg (eLock o)] (r22_Holds_r2 k l o r0 r1 κ)
  else κ (.bool false) []) := by kernel_rfl
theorem r22_Holds_r2_s (k : Nat) (l : TLocks) (o : TLock) (r0 : Int) (r1 : Bool) (r2 : Bool) (κ : AV → Heap → Option ρ) : r22_Holds_r2 k l o r0 r1 κ (.bool r2) =
  κ (.bool r2) [] := by kernel_rfl
theorem r22_Holds_e (k : Nat) (l : TLocks) (o : TLock) (κ : AV → Heap → Option ρ) : evalF ctx (k + 1) n_r22_Holds [.agg (eLocks l), .agg (eLock o)] [] κ =
  callP ctx k n_r22_Check [.agg (eLocks l)] (r22_Holds_r0 k l o κ) := by kernel_rfl
noncomputable def r22_waits_h0 (k j : Nat) (l : TLocks) (tx : Int) (x5 : Int) (κ : AV → Heap → Option ρ) : Option ρ := headAt ctx k n_r22_waits 0 [.r, .l, .r] j ⟨(envOf 22 [(1, .int .u64 tx), (2, .ref 0 0), (5, .int .i64 x5)]), [some (.box [.sl 5 l.Held.n (rowOf eLock l.Held.w) l.Held.u, .sl 5 l.Waits.n (rowOf eLock l.Waits.w) l.Waits.u])]⟩ κ
theorem r22_waits_h0_s (k j : Nat) (l : TLocks) (tx : Int) (x5 : Int) (κ : AV → Heap → Option ρ) : r22_waits_h0 k (j + 1) l tx x5 κ =
  (bif decide (x5 < (l.Waits.n : Int)) then
   (bif idxOK x5 l.Waits.n then
    (bif decide (((l.Waits.w ((x5).toNat)).Tx) = tx) then
     κ (.int .i64 x5) [some (.box [.sl 5 l.Held.n (rowOf eLock l.Held.w) l.Held.u, .sl 5 l.Waits.n (rowOf eLock l.Waits.w) l.Waits.u])]
    else r22_waits_h0 k j l tx (wi64 (x5 + 1)) κ)
   else none)
  else κ (.int .i64 (-1)) [some (.box [.sl 5 l.Held.n (rowOf eLock l.Held.w) l.Held.u, .sl 5 l.Waits.n (rowOf eLock l.Waits.w) l.Waits.u])]) := by kernel_rfl
theorem r22_waits_e (k : Nat) (l : TLocks) (tx : Int) (κ : AV → Heap → Option ρ) : evalF ctx (k + 1) n_r22_waits [.agg (eLocks l), .int .u64 tx] [] κ =
  r22_waits_h0 k k l tx 0 κ := by kernel_rfl
noncomputable def r22_Small_h0 (k j : Nat) (l : TLocks) (x3 : Int) (x4 : Int) (κ : AV → Heap → Option ρ) : Option ρ := headAt ctx k n_r22_Small 0 [.r, .r, .l, .r] j ⟨(envOf 80 [(1, .ref 0 0), (3, .int .i64 x3), (4, .int .i64 x4)]), [some (.box [.sl 5 l.Held.n (rowOf eLock l.Held.w) l.Held.u, .sl 5 l.Waits.n (rowOf eLock l.Waits.w) l.Waits.u])]⟩ κ
noncomputable def r22_Small_h1 (k j : Nat) (l : TLocks) (x3 : Int) (x5 : Int) (κ : AV → Heap → Option ρ) : Option ρ := headAt ctx k n_r22_Small 0 [.r, .r, .r, .l, .r] j ⟨(envOf 80 [(1, .ref 0 0), (3, .int .i64 x3), (5, .int .i64 x5)]), [some (.box [.sl 5 l.Held.n (rowOf eLock l.Held.w) l.Held.u, .sl 5 l.Waits.n (rowOf eLock l.Waits.w) l.Waits.u])]⟩ κ
theorem r22_Small_h0_s (k j : Nat) (l : TLocks) (x3 : Int) (x4 : Int) (κ : AV → Heap → Option ρ) : r22_Small_h0 k (j + 1) l x3 x4 κ =
  (bif decide (x4 < (l.Held.n : Int)) then
   (bif decide (x4 < 210) then
    (bif idxOK x4 l.Held.n then
     (bif idxOK x4 l.Held.n then
      r22_Small_h0 k j l (wi64 (wi64 (x3 + (((((l.Held.w ((x4).toNat)).R).From).size : Nat) : Int)) + (((((l.Held.w ((x4).toNat)).R).To).size : Nat) : Int))) (wi64 (x4 + 1)) κ
     else none)
    else none)
   else r22_Small_h1 k k l x3 0 κ)
  else r22_Small_h1 k k l x3 0 κ) := by kernel_rfl
theorem r22_Small_h1_s (k j : Nat) (l : TLocks) (x3 : Int) (x5 : Int) (κ : AV → Heap → Option ρ) : r22_Small_h1 k (j + 1) l x3 x5 κ =
  (bif decide (x5 < (l.Waits.n : Int)) then
   (bif decide (x5 < 210) then
    (bif idxOK x5 l.Waits.n then
     (bif idxOK x5 l.Waits.n then
      r22_Small_h1 k j l (wi64 (wi64 (x3 + (((((l.Waits.w ((x5).toNat)).R).From).size : Nat) : Int)) + (((((l.Waits.w ((x5).toNat)).R).To).size : Nat) : Int))) (wi64 (x5 + 1)) κ
     else none)
    else none)
   else (bif decide ((l.Held.n : Int) ≤ 210) then
     (bif decide ((l.Waits.n : Int) ≤ 210) then
      κ (.bool (decide (x3 ≤ 30000))) []
     else κ (.bool false) [])
    else κ (.bool false) []))
  else (bif decide ((l.Held.n : Int) ≤ 210) then
    (bif decide ((l.Waits.n : Int) ≤ 210) then
     κ (.bool (decide (x3 ≤ 30000))) []
    else κ (.bool false) [])
   else κ (.bool false) [])) := by kernel_rfl
theorem r22_Small_e (k : Nat) (l : TLocks) (κ : AV → Heap → Option ρ) : evalF ctx (k + 1) n_r22_Small [.agg (eLocks l)] [] κ =
  r22_Small_h0 k k l 0 0 κ := by kernel_rfl
noncomputable def r12_SameIds_h0 (k j : Nat) (a : (Sl Int)) (b : (Sl Int)) (x5 : Int) (κ : AV → Heap → Option ρ) : Option ρ := headAt ctx k n_r12_SameIds 0 [.r, .r, .l, .r] j ⟨(envOf 26 [(0, .sl 1 a.n (rowOf (eI .u64) a.w) a.u), (1, .sl 1 b.n (rowOf (eI .u64) b.w) b.u), (5, .int .i64 x5)]), []⟩ κ
theorem r12_SameIds_h0_s (k j : Nat) (a : (Sl Int)) (b : (Sl Int)) (x5 : Int) (κ : AV → Heap → Option ρ) : r12_SameIds_h0 k (j + 1) a b x5 κ =
  (bif decide (x5 < (a.n : Int)) then
   (bif idxOK x5 a.n then
    (bif idxOK x5 b.n then
     (bif !decide ((a.w ((x5).toNat)) = (b.w ((x5).toNat))) then
      κ (.bool false) []
     else r12_SameIds_h0 k j a b (wi64 (x5 + 1)) κ)
    else none)
   else none)
  else κ (.bool true) []) := by kernel_rfl
theorem r12_SameIds_e (k : Nat) (a : (Sl Int)) (b : (Sl Int)) (κ : AV → Heap → Option ρ) : evalF ctx (k + 1) n_r12_SameIds [.sl 1 a.n (rowOf (eI .u64) a.w) a.u, .sl 1 b.n (rowOf (eI .u64) b.w) b.u] [] κ =
  (bif !decide ((a.n : Int) = (b.n : Int)) then
   κ (.bool false) []
  else r12_SameIds_h0 k k a b 0 κ) := by kernel_rfl
noncomputable def slices_Equal_Lock_h0 (k j : Nat) (a : (Sl TLock)) (b : (Sl TLock)) (x13 : Int) (κ : AV → Heap → Option ρ) : Option ρ := headAt ctx k n_slices_Equal_Lock 0 [.r, .r, .l, .r] j ⟨(envOf 26 [(0, .sl 5 a.n (rowOf eLock a.w) a.u), (1, .sl 5 b.n (rowOf eLock b.w) b.u), (12, .int .i64 (a.n : Int)), (13, .int .i64 x13)]), []⟩ κ
theorem slices_Equal_Lock_h0_s (k j : Nat) (a : (Sl TLock)) (b : (Sl TLock)) (x13 : Int) (κ : AV → Heap → Option ρ) : slices_Equal_Lock_h0 k (j + 1) a b x13 κ =
  (bif decide (x13 < (a.n : Int)) then
   (bif idxOK x13 a.n then
    (bif idxOK x13 b.n then
     (bif !((decide (((a.w ((x13).toNat)).Tx) = ((b.w ((x13).toNat)).Tx))) && ((decide ((((a.w ((x13).toNat)).R).From) = (((b.w ((x13).toNat)).R).From))) && ((decide ((((a.w ((x13).toNat)).R).To) = (((b.w ((x13).toNat)).R).To))) && (((((a.w ((x13).toNat)).R).End) == (((b.w ((x13).toNat)).R).End)) && ((((a.w ((x13).toNat)).X) == ((b.w ((x13).toNat)).X)) && true))))) then
      κ (.bool false) []
     else slices_Equal_Lock_h0 k j a b (wi64 (x13 + 1)) κ)
    else none)
   else none)
  else κ (.bool true) []) := by kernel_rfl
theorem slices_Equal_Lock_e (k : Nat) (a : (Sl TLock)) (b : (Sl TLock)) (κ : AV → Heap → Option ρ) : evalF ctx (k + 1) n_slices_Equal_Lock [.sl 5 a.n (rowOf eLock a.w) a.u, .sl 5 b.n (rowOf eLock b.w) b.u] [] κ =
  (bif !decide ((a.n : Int) = (b.n : Int)) then
   κ (.bool false) []
  else slices_Equal_Lock_h0 k k a b 0 κ) := by kernel_rfl
noncomputable def locks_Same_r0 (k : Nat) (a : TLocks) (b : TLocks) (κ : AV → Heap → Option ρ) (v : AV) : Option ρ := resAt ctx k n_locks_Same 0 [.r, .l] 4 [] ⟨(envOf 17 [(2, .ref 0 0), (3, .ref 1 0), (5, .ref 0 0), (6, .sl 5 a.Held.n (rowOf eLock a.Held.w) a.Held.u), (7, .ref 1 0), (8, .sl 5 b.Held.n (rowOf eLock b.Held.w) b.Held.u), (9, v)]), [some (.box [.sl 5 a.Held.n (rowOf eLock a.Held.w) a.Held.u, .sl 5 a.Waits.n (rowOf eLock a.Waits.w) a.Waits.u]), some (.box [.sl 5 b.Held.n (rowOf eLock b.Held.w) b.Held.u, .sl 5 b.Waits.n (rowOf eLock b.Waits.w) b.Waits.u])]⟩ κ
noncomputable def locks_Same_r1 (k : Nat) (a : TLocks) (b : TLocks) (r0 : Bool) (κ : AV → Heap → Option ρ) (v : AV) : Option ρ := resAt ctx k n_locks_Same 0 [.r, .l] 10 [(10, true)] ⟨(envOf 17 [(2, .ref 0 0), (3, .ref 1 0), (5, .ref 0 0), (6, .sl 5 a.Held.n (rowOf eLock a.Held.w) a.Held.u), (7, .ref 1 0), (8, .sl 5 b.Held.n (rowOf eLock b.Held.w) b.Held.u), (9, .bool r0), (10, .bool r0), (11, .ref 0 1), (12, .sl 5 a.Waits.n (rowOf eLock a.Waits.w) a.Waits.u), (13, .ref 1 1), (14, .sl 5 b.Waits.n (rowOf eLock b.Waits.w) b.Waits.u), (15, v)]), [some (.box [.sl 5 a.Held.n (rowOf eLock a.Held.w) a.Held.u, .sl 5 a.Waits.n (rowOf eLock a.Waits.w) a.Waits.u]), some (.box [.sl 5 b.Held.n (rowOf eLock b.Held.w) b.Held.u, .sl 5 b.Waits.n (rowOf eLock b.Waits.w) b.Waits.u])]⟩ κ
theorem locks_Same_r0_s (k : Nat) (a : TLocks) (b : TLocks) (r0 : Bool) (κ : AV → Heap → Option ρ) : locks_Same_r0 k a b κ (.bool r0) =
  (bif r0 then
   callP ctx k n_slices_Equal_Lock [.sl 5 a.Waits.n (rowOf eLock a.Waits.w) a.Waits.u, .sl 5 b.Waits.n (rowOf eLock b.Waits.w) b.Waits.u] (locks_Same_r1 k a b r0 κ)
  else κ (.bool false) []) := by kernel_rfl
theorem locks_Same_r1_s (k : Nat) (a : TLocks) (b : TLocks) (r0 : Bool) (r1 : Bool) (κ : AV → Heap → Option ρ) : locks_Same_r1 k a b r0 κ (.bool r1) =
  κ (.bool r1) [] := by kernel_rfl
theorem locks_Same_e (k : Nat) (a : TLocks) (b : TLocks) (κ : AV → Heap → Option ρ) : evalF ctx (k + 1) n_locks_Same [.agg (eLocks a), .agg (eLocks b)] [] κ =
  callP ctx k n_slices_Equal_Lock [.sl 5 a.Held.n (rowOf eLock a.Held.w) a.Held.u, .sl 5 b.Held.n (rowOf eLock b.Held.w) b.Held.u] (locks_Same_r0 k a b κ) := by kernel_rfl
end Go.Proofs.YticcbbcgboddpaaC

set_option linter.unusedVariables false
set_option linter.unusedSimpArgs false
set_option maxRecDepth 20000
namespace Go.Proofs.YticcbbcgboddpaaC
open Go Go.Ev Go.Proofs
variable {ρ : Type}
/-! ### ranges -/
def bothR (a b : TRange) : TRange :=
  ⟨bif bl a.From b.From then b.From else a.From, bif b.End && (!a.End || bl b.To a.To) then b.To else a.To, bif b.End && (!a.End || bl b.To a.To) then true else a.End⟩
def bothB (a b : TRange) : Bool := rRight a && (rRight b && rRight (bothR a b))
theorem both_fin (q : Bool) (R : TRange) (κ : AV → Option ρ) : (bif !q then κ (.tup [.agg (eRange zRange), .bool false]) else κ (.tup [.agg (eRange R), .bool true])) = κ (.tup [.agg (eRange (bif q then R else zRange)), .bool q]) := by cases q <;> rfl
theorem Both_ok (k : Nat) (a b : TRange) (hk : 3 ≤ k) (κ : AV → Option ρ) : callP ctx k n_r03_Both [.agg (eRange a), .agg (eRange b)] κ = κ (.tup [.agg (eRange (bif bothB a b then bothR a b else zRange)), .bool (bothB a b)]) := by
  obtain ⟨k, rfl⟩ : ∃ k', k = k' + 1 := ⟨k - 1, by omega⟩
  obtain ⟨af, at_, ae⟩ := a
  obtain ⟨bf, bt, be⟩ := b
  rw [callP_eq, r03_Both_e, r03_Right_ok k _ (by omega), r03_Both_r0_s]
  unfold bothB
  cases rRight ⟨af, at_, ae⟩ with
  | false => rfl
  | true =>
    rw [Bool.not_true, cond_false, r03_Right_ok k _ (by omega), r03_Both_r1_s]
    cases rRight ⟨bf, bt, be⟩ with
    | false => rfl
    | true =>
      rw [Bool.not_true, cond_false, Bool.true_and, Bool.true_and]
      unfold bothR
      dsimp only
      cases bl af bf <;> cases be <;> cases ae <;> cases bl bt at_ <;>
        simp only [Bool.not_true, Bool.not_false, cond_true, cond_false, Bool.true_and, Bool.false_and, Bool.true_or, Bool.false_or, Bool.or_true, Bool.or_false] <;>
        first
        | (rw [r03_Right_ok k _ (by omega), r03_Both_r2_s]; exact both_fin _ _ κ)
        | (rw [r03_Right_ok k _ (by omega), r03_Both_r3_s]; exact both_fin _ _ κ)
theorem right_iff {f t : ByteArray} {e : Bool} : rRight ⟨f, t, e⟩ = true ↔ f.size ≤ 513 ∧ t.size ≤ 513 ∧ (bif e then bl f t else decide (t = (⟨#[]⟩ : ByteArray))) = true := by
  unfold rRight
  simp only [Bool.and_eq_true, Bool.not_eq_true', decide_eq_false_iff_not]
  exact ⟨fun h => ⟨by omega, by omega, h.2.2⟩, fun h => ⟨by omega, by omega, h.2.2⟩⟩
theorem right_of {f t : ByteArray} {e : Bool} (h1 : f.size ≤ 513) (h2 : t.size ≤ 513) : rRight ⟨f, t, e⟩ = (bif e then bl f t else decide (t = (⟨#[]⟩ : ByteArray))) := by
  unfold rRight
  dsimp only
  rw [decide_eq_false (by omega), decide_eq_false (by omega)]; rfl
theorem both_meets (a b : TRange) : bothB a b = meetsB a b := by
  obtain ⟨af, at_, ae⟩ := a
  obtain ⟨bf, bt, be⟩ := b
  unfold bothB meetsB
  cases ha : rRight ⟨af, at_, ae⟩ with
  | false => rfl
  | true =>
  cases hb : rRight ⟨bf, bt, be⟩ with
  | false => rfl
  | true =>
  obtain ⟨a1, a2, a3⟩ := right_iff.1 ha
  obtain ⟨b1, b2, b3⟩ := right_iff.1 hb
  rw [Bool.true_and, Bool.true_and, Bool.true_and, Bool.true_and]
  unfold bothR hasB
  dsimp only
  cases h1 : bl af bf with
  | true =>
    have h2 := bl_asymm h1
    rw [h2]
    cases be with
    | false =>
      show rRight ⟨bf, at_, ae⟩ = _
      rw [right_of b1 a2]
      cases ae <;> simp_all
    | true =>
      rw [cond_true] at b3
      cases ae with
      | false =>
        show rRight ⟨bf, bt, true⟩ = _
        rw [hb]; rfl
      | true =>
        cases h4 : bl bt at_ with
        | true =>
          show rRight ⟨bf, bt, true⟩ = _
          rw [hb, bl_trans b3 h4]; rfl
        | false =>
          show rRight ⟨bf, at_, true⟩ = _
          rw [right_of b1 a2]
          cases bl bf at_ <;> rfl
  | false =>
    cases be with
    | false =>
      show rRight ⟨af, at_, ae⟩ = _
      rw [ha]
      cases bl bf af <;> cases ae <;> cases bl bf at_ <;> rfl
    | true =>
      rw [cond_true] at b3
      have key : bl bf af = false → bl af bt = true := fun h => by
        have := bl_tri h1 h; rw [this]; exact b3
      cases ae with
      | false =>
        show rRight ⟨af, bt, true⟩ = _
        rw [right_of a1 b2, cond_true]
        cases h5 : bl bf af with
        | true => cases bl af bt <;> rfl
        | false => rw [key h5]; rfl
      | true =>
        rw [cond_true] at a3
        cases h4 : bl bt at_ with
        | true =>
          show rRight ⟨af, bt, true⟩ = _
          rw [right_of a1 b2, cond_true]
          cases h5 : bl bf af with
          | true => cases bl af bt <;> rfl
          | false => rw [key h5]; cases bl bf at_ <;> rfl
        | false =>
          show rRight ⟨af, at_, true⟩ = _
          rw [ha, bl_lt_le a3 h4]
          cases bl bf af <;> cases bl bf at_ <;> rfl
theorem both_within (a b : TRange) : (bothB a b && (decide ((bothR a b).From = a.From) && (decide ((bothR a b).To = a.To) && (((bothR a b).End == a.End) && true)))) = withinB a b := by
  obtain ⟨af, at_, ae⟩ := a
  obtain ⟨bf, bt, be⟩ := b
  unfold bothB withinB
  cases ha : rRight ⟨af, at_, ae⟩ with
  | false => rfl
  | true =>
  cases hb : rRight ⟨bf, bt, be⟩ with
  | false => rfl
  | true =>
  rw [Bool.true_and, Bool.true_and, Bool.true_and, Bool.true_and]
  unfold bothR
  dsimp only
  cases h1 : bl af bf with
  | true =>
    have hne : bf ≠ af := fun e => by rw [e, bl_irrefl] at h1; cases h1
    rw [cond_true, decide_eq_false hne]
    cases rRight _ <;> rfl
  | false =>
    rw [cond_false, decide_eq_true rfl]
    cases be with
    | false =>
      show (rRight ⟨af, at_, ae⟩ && (true && (decide (at_ = at_) && ((ae == ae) && true)))) = _
      rw [ha, decide_eq_true rfl, beq_self_eq_true]; rfl
    | true =>
      cases ae with
      | false =>
        show (rRight ⟨af, bt, true⟩ && (true && (decide (bt = at_) && ((true == false) && true)))) = false
        cases rRight ⟨af, bt, true⟩ <;> cases decide (bt = at_) <;> rfl
      | true =>
        cases h4 : bl bt at_ with
        | true =>
          have hne : bt ≠ at_ := fun e => by rw [e, bl_irrefl] at h4; cases h4
          show (rRight ⟨af, bt, true⟩ && (true && (decide (bt = at_) && ((true == true) && true)))) = false
          rw [decide_eq_false hne]
          cases rRight ⟨af, bt, true⟩ <;> rfl
        | false =>
          show (rRight ⟨af, at_, true⟩ && (true && (decide (at_ = at_) && ((true == true) && true)))) = true
          rw [ha, decide_eq_true rfl]; rfl
theorem r03_Meets_ok (k : Nat) (a b : TRange) (hk : 5 ≤ k) (κ : AV → Option ρ) : callP ctx k n_r03_Meets [.agg (eRange a), .agg (eRange b)] κ = κ (.bool (meetsB a b)) := by
  obtain ⟨k, rfl⟩ : ∃ k', k = k' + 1 := ⟨k - 1, by omega⟩
  rw [callP_eq, r03_Meets_e, Both_ok k a b (by omega), r03_Meets_r0_s, both_meets]; rfl
theorem r03_Within_ok (k : Nat) (a b : TRange) (hk : 5 ≤ k) (κ : AV → Option ρ) : callP ctx k n_r03_Within [.agg (eRange a), .agg (eRange b)] κ = κ (.bool (withinB a b)) := by
  obtain ⟨k, rfl⟩ : ∃ k', k = k' + 1 := ⟨k - 1, by omega⟩
  rw [callP_eq, r03_Within_e, Both_ok k a b (by omega), r03_Within_r0_s, ← both_within]
  cases bothB a b <;> rfl
/-! ### locks -/
theorem r22_May_ok (k : Nat) (a : TLock) (h : 0 ≤ a.Tx) (hk : 3 ≤ k) (κ : AV → Option ρ) : callP ctx k n_r22_May [.agg (eLock a)] κ = κ (.bool (mayB a)) := by
  obtain ⟨k, rfl⟩ : ∃ k', k = k' + 1 := ⟨k - 1, by omega⟩
  rw [callP_eq, r22_May_e, r03_Right_ok k _ (by omega), r22_May_r0_s]
  unfold mayB
  by_cases h0 : a.Tx = 0
  · rw [dec_f (by omega), dec_t h0]; rfl
  · rw [dec_t (show 0 < a.Tx by omega), dec_f h0]; rfl
theorem r22_Against_ok (k : Nat) (a b : TLock) (hk : 8 ≤ k) (κ : AV → Option ρ) : callP ctx k n_r22_Against [.agg (eLock a), .agg (eLock b)] κ = κ (.bool (againstB a b)) := by
  obtain ⟨k, rfl⟩ : ∃ k', k = k' + 1 := ⟨k - 1, by omega⟩
  rw [callP_eq, r22_Against_e, r03_Meets_ok k _ _ (by omega), r22_Against_r0_s]
  unfold againstB
  cases decide (a.Tx = b.Tx) <;> cases meetsB a.R b.R <;> cases a.X <;> cases b.X <;> rfl
theorem r22_Conflict_ok (k : Nat) (a b : TLock) (ha : 0 ≤ a.Tx) (hb : 0 ≤ b.Tx) (hk : 12 ≤ k) (κ : AV → Option ρ) : callP ctx k n_r22_Conflict [.agg (eLock a), .agg (eLock b)] κ = κ (.bool (conflB a b)) := by
  obtain ⟨k, rfl⟩ : ∃ k', k = k' + 1 := ⟨k - 1, by omega⟩
  rw [callP_eq]
  refine (r22_Conflict_e k a b (pk κ)).trans ?_
  unfold conflB
  rw [r22_May_ok k a ha (by omega), r22_Conflict_r0_s]
  cases mayB a with
  | false => rfl
  | true =>
    rw [cond_true, r22_May_ok k b hb (by omega), r22_Conflict_r1_s]
    cases mayB b with
    | false => rfl
    | true => rw [cond_true, r22_Against_ok k a b (by omega), r22_Conflict_r2_s]; rfl
theorem r22_any_ok (k n : Nat) (w : Nat → TLock) (u : Bool) (o : TLock) (hn : n ≤ 10000) (hk : n + 20 ≤ k) (κ : AV → Option ρ) :
    callP ctx k n_r22_any [.agg (eLock o), .sl 5 n (rowOf eLock w) u] κ = κ (.bool (anyN n fun i => againstB o (w i))) := by
  obtain ⟨k, rfl⟩ : ∃ k', k = k' + 1 := ⟨k - 1, by omega⟩
  rw [callP_eq]
  refine (r22_any_e k o ⟨n, w, u⟩ (pk κ)).trans ?_
  have h := find_loop (n := n) (P := fun i => againstB o (w i)) (hd := fun j i => r22_any_h0 k j o ⟨n, w, u⟩ (i : Int) (pk κ)) (at_ := fun i => κ (.bool true)) (no := κ (.bool false)) (fun j i hi => ?_) (fun j => ?_) k 0 (by omega) (by omega) (fun i h => by omega)
  · refine h.trans ?_
    rw [← first_any]
    unfold firstI
    cases (List.range n).find? (fun i => againstB o (w i)) <;> rfl
  · rw [r22_any_h0_s]
    dsimp only
    rw [dec_t (show (i : Int) < (n : Int) by omega), cond_true, idx_ok (by omega) (by omega), cond_true]
    simp only [Int.toNat_natCast]
    refine (r22_Against_ok k o (w i) (by omega) _).trans ?_
    rw [r22_any_r0_s, wi64_succ (by omega)]
    cases againstB o (w i) <;> rfl
  · rw [r22_any_h0_s]
    dsimp only
    rw [dec_f (by omega), cond_false]; rfl
/-- the numbers are no less than nothing -/
def Tx0 (s : TLocks) : Prop := (∀ i, i < s.Held.n → 0 ≤ (s.Held.w i).Tx) ∧ ∀ i, i < s.Waits.n → 0 ≤ (s.Waits.w i).Tx
theorem r22_Check_ok (k : Nat) (s : TLocks) (hT : Tx0 s) (hn : s.Held.n ≤ 10000) (hm : s.Waits.n ≤ 10000) (hk : s.Held.n + s.Waits.n + 40 ≤ k) (κ : AV → Option ρ) : callP ctx k n_r22_Check [.agg (eLocks s)] κ = κ (.int .i64 (checkE' s)) := by
  obtain ⟨k, rfl⟩ : ∃ k', k = k' + 1 := ⟨k - 1, by omega⟩
  rw [callP_eq]
  refine (r22_Check_e k s (pk κ)).trans ?_
  unfold checkE' checkB
  rw [wi64_in (by omega) (by omega)]
  by_cases h2 : s.Held.n + s.Waits.n ≤ 200
  · rw [dec_f (show ¬ 200 < (s.Held.n : Int) + (s.Waits.n : Int) by omega), cond_false, decide_eq_true h2, Bool.true_and]
    have h := all_loop (n := s.Held.n) (P := heldP s) (hd := fun j i => r22_Check_h0 k j s (i : Int) (pk κ)) (yes := r22_Check_h1 k k s 0 (pk κ)) (no := κ (.int .i64 220)) (fun j i hi => ?_) (fun j => ?_) k 0 (by omega) (by omega) (fun i h => by omega)
    · refine h.trans ?_
      cases allN s.Held.n (heldP s) with
      | false => rfl
      | true =>
        rw [if_pos rfl, Bool.true_and]
        have h := all_loop (n := s.Waits.n) (P := waitP s) (hd := fun j i => r22_Check_h1 k j s (i : Int) (pk κ)) (yes := κ (.int .i64 0)) (no := κ (.int .i64 220)) (fun j i hi => ?_) (fun j => ?_) k 0 (by omega) (by omega) (fun i h => by omega)
        · refine h.trans ?_
          cases allN s.Waits.n (waitP s) <;> rfl
        · have inner : r22_Check_h2 k j k s (i : Int) (s.Waits.w i).Tx (s.Waits.w i).R.From (s.Waits.w i).R.To (s.Waits.w i).R.End (s.Waits.w i).X 0 (pk κ) = bif anyN i (fun c => decide ((s.Waits.w c).Tx = (s.Waits.w i).Tx)) then κ (.int .i64 220) else r22_Check_h1 k j s ((i + 1 : Nat) : Int) (pk κ) := by
            have h := find_loop (n := i) (P := fun c => decide ((s.Waits.w c).Tx = (s.Waits.w i).Tx)) (hd := fun jj c => r22_Check_h2 k j jj s (i : Int) (s.Waits.w i).Tx (s.Waits.w i).R.From (s.Waits.w i).R.To (s.Waits.w i).R.End (s.Waits.w i).X (c : Int) (pk κ)) (at_ := fun c => κ (.int .i64 220)) (no := r22_Check_h1 k j s ((i + 1 : Nat) : Int) (pk κ)) (fun jj c hc => ?_) (fun jj => ?_) k 0 (by omega) (by omega) (fun i h => by omega)
            · refine h.trans ?_
              rw [← first_any]
              unfold firstI
              cases (List.range i).find? (fun c => decide ((s.Waits.w c).Tx = (s.Waits.w i).Tx)) with
              | none => rfl
              | some c => dsimp only; rw [dec_t (show (0 : Int) ≤ (c : Int) by omega), cond_true]
            · rw [r22_Check_h2_s, dec_t (show (c : Int) < (i : Int) by omega), cond_true, idx_ok (by omega) (by omega), cond_true, wi64_succ (by omega)]
              simp only [Int.toNat_natCast]
              cases decide ((s.Waits.w c).Tx = (s.Waits.w i).Tx) <;> rfl
            · rw [r22_Check_h2_s, dec_f (by omega), cond_false, wi64_succ (by omega)]
          rw [r22_Check_h1_s, dec_t (show (i : Int) < (s.Waits.n : Int) by omega), cond_true, idx_ok (by omega) (by omega), cond_true]
          refine (r22_May_ok k (s.Waits.w i) (hT.2 i hi) (by omega) _).trans ?_
          rw [r22_Check_r1_s]
          unfold waitP grantsB
          cases mayB (s.Waits.w i) with
          | false => rfl
          | true =>
            rw [Bool.not_true, cond_false]
            refine (r22_any_ok k s.Held.n s.Held.w s.Held.u (s.Waits.w i) hn (by omega) _).trans ?_
            rw [r22_Check_r3_s]
            simp only [Int.toNat_natCast]
            rw [inner]
            cases (anyN s.Held.n fun c => againstB (s.Waits.w i) (s.Held.w c)) with
            | true =>
              rw [Bool.not_true, cond_false]
              cases anyN i (fun c => decide ((s.Waits.w c).Tx = (s.Waits.w i).Tx)) <;> rfl
            | false =>
              rw [Bool.not_false, cond_true, cut_ok (by omega) (by omega) (by omega) (by omega), cond_true, zrow]
              refine (r22_any_ok k i s.Waits.w _ (s.Waits.w i) (by omega) (by omega) _).trans ?_
              rw [r22_Check_r4_s]
              simp only [Int.toNat_natCast]
              rw [inner]
              cases (anyN i fun c => againstB (s.Waits.w i) (s.Waits.w c)) <;> cases anyN i (fun c => decide ((s.Waits.w c).Tx = (s.Waits.w i).Tx)) <;> rfl
        · rw [r22_Check_h1_s, dec_f (by omega), cond_false]; rfl
    · rw [r22_Check_h0_s, dec_t (show (i : Int) < (s.Held.n : Int) by omega), cond_true, idx_ok (by omega) (by omega), cond_true]
      refine (r22_May_ok k (s.Held.w i) (hT.1 i hi) (by omega) _).trans ?_
      rw [r22_Check_r0_s]
      unfold heldP grantsB
      cases mayB (s.Held.w i) with
      | false => rfl
      | true =>
        rw [Bool.not_true, cond_false, idx_ok (by omega) (by omega), cond_true, cut_ok (by omega) (by omega) (by omega) (by omega), cond_true, zrow]
        simp only [Int.toNat_natCast]
        refine (r22_any_ok k i s.Held.w _ (s.Held.w i) (by omega) (by omega) _).trans ?_
        rw [r22_Check_r2_s, wi64_succ (by omega)]
        cases (anyN i fun c => againstB (s.Held.w i) (s.Held.w c)) <;> rfl
    · rw [r22_Check_h0_s, dec_f (by omega), cond_false]
  · rw [dec_t (show 200 < (s.Held.n : Int) + (s.Waits.n : Int) by omega), cond_true, decide_eq_false h2, Bool.false_and]; rfl
/-! ### the same -/
def eqB (x y : TLock) : Bool := decide (x.Tx = y.Tx) && (decide (x.R.From = y.R.From) && (decide (x.R.To = y.R.To) && ((x.R.End == y.R.End) && ((x.X == y.X) && true))))
theorem eqB_self (x : TLock) : eqB x x = true := by unfold eqB; rw [dec_int, dec_str, dec_str, beq_b, beq_b]; rfl
def sameB (n m : Nat) (v w : Nat → TLock) : Bool := decide (n = m) && allN n fun i => eqB (v i) (w i)
theorem sameRow_ok (k n m : Nat) (v w : Nat → TLock) (u u' : Bool) (hn : n ≤ 10000) (hk : n + 5 ≤ k) (κ : AV → Option ρ) : callP ctx k n_r22_sameRow [.sl 5 n (rowOf eLock v) u, .sl 5 m (rowOf eLock w) u'] κ = κ (.bool (sameB n m v w)) := by
  obtain ⟨k, rfl⟩ : ∃ k', k = k' + 1 := ⟨k - 1, by omega⟩
  rw [callP_eq]
  refine (r22_sameRow_e k ⟨n, v, u⟩ ⟨m, w, u'⟩ (pk κ)).trans ?_
  unfold sameB
  dsimp only
  by_cases h : n = m
  · subst h
    rw [dec_int, Bool.not_true, cond_false, dec_t rfl, Bool.true_and]
    have h := all_loop (n := n) (P := fun i => eqB (v i) (w i)) (hd := fun j i => r22_sameRow_h0 k j ⟨n, v, u⟩ ⟨n, w, u'⟩ (i : Int) (pk κ)) (yes := κ (.bool true)) (no := κ (.bool false)) (fun j i hi => ?_) (fun j => ?_) k 0 (by omega) (by omega) (fun i h => by omega)
    · refine h.trans ?_
      cases allN n fun i => eqB (v i) (w i) <;> rfl
    · rw [r22_sameRow_h0_s]
      dsimp only
      rw [dec_t (show (i : Int) < (n : Int) by omega), cond_true, idx_ok (by omega) (by omega), cond_true, cond_true, wi64_succ (by omega)]
      simp only [Int.toNat_natCast]
      show (bif !(eqB (v i) (w i)) then _ else _) = _
      cases eqB (v i) (w i) <;> rfl
    · rw [r22_sameRow_h0_s]
      dsimp only
      rw [dec_f (by omega), cond_false]; rfl
  · rw [dec_f (show ¬ (n : Int) = (m : Int) by omega), dec_f h]; rfl
theorem Equal_ok (k n m : Nat) (v w : Nat → TLock) (u u' : Bool) (hn : n ≤ 10000) (hk : n + 5 ≤ k) (κ : AV → Option ρ) : callP ctx k n_slices_Equal_Lock [.sl 5 n (rowOf eLock v) u, .sl 5 m (rowOf eLock w) u'] κ = κ (.bool (sameB n m v w)) := by
  obtain ⟨k, rfl⟩ : ∃ k', k = k' + 1 := ⟨k - 1, by omega⟩
  rw [callP_eq]
  refine (slices_Equal_Lock_e k ⟨n, v, u⟩ ⟨m, w, u'⟩ (pk κ)).trans ?_
  unfold sameB
  dsimp only
  by_cases h : n = m
  · subst h
    rw [dec_int, Bool.not_true, cond_false, dec_t rfl, Bool.true_and]
    have h := all_loop (n := n) (P := fun i => eqB (v i) (w i)) (hd := fun j i => slices_Equal_Lock_h0 k j ⟨n, v, u⟩ ⟨n, w, u'⟩ (i : Int) (pk κ)) (yes := κ (.bool true)) (no := κ (.bool false)) (fun j i hi => ?_) (fun j => ?_) k 0 (by omega) (by omega) (fun i h => by omega)
    · refine h.trans ?_
      cases allN n fun i => eqB (v i) (w i) <;> rfl
    · rw [slices_Equal_Lock_h0_s]
      dsimp only
      rw [dec_t (show (i : Int) < (n : Int) by omega), cond_true, idx_ok (by omega) (by omega), cond_true, cond_true, wi64_succ (by omega)]
      simp only [Int.toNat_natCast]
      show (bif !(eqB (v i) (w i)) then _ else _) = _
      cases eqB (v i) (w i) <;> rfl
    · rw [slices_Equal_Lock_h0_s]
      dsimp only
      rw [dec_f (by omega), cond_false]; rfl
  · rw [dec_f (show ¬ (n : Int) = (m : Int) by omega), dec_f h]; rfl
def sameT (a b : TLocks) : Bool := sameB a.Held.n b.Held.n a.Held.w b.Held.w && sameB a.Waits.n b.Waits.n a.Waits.w b.Waits.w
theorem r22_Same_ok (k : Nat) (a b : TLocks) (hn : a.Held.n ≤ 10000) (hm : a.Waits.n ≤ 10000) (hk : a.Held.n + a.Waits.n + 10 ≤ k) (κ : AV → Option ρ) : callP ctx k n_r22_Same [.agg (eLocks a), .agg (eLocks b)] κ = κ (.bool (sameT a b)) := by
  obtain ⟨k, rfl⟩ : ∃ k', k = k' + 1 := ⟨k - 1, by omega⟩
  rw [callP_eq]
  refine (r22_Same_e k a b (pk κ)).trans ?_
  unfold sameT
  rw [sameRow_ok k _ _ _ _ _ _ hn (by omega), r22_Same_r0_s]
  cases sameB a.Held.n b.Held.n a.Held.w b.Held.w with
  | false => rfl
  | true => rw [cond_true, sameRow_ok k _ _ _ _ _ _ hm (by omega), r22_Same_r1_s]; rfl
theorem locks_Same_ok (k : Nat) (a b : TLocks) (hn : a.Held.n ≤ 10000) (hm : a.Waits.n ≤ 10000) (hk : a.Held.n + a.Waits.n + 10 ≤ k) (κ : AV → Option ρ) : callP ctx k n_locks_Same [.agg (eLocks a), .agg (eLocks b)] κ = κ (.bool (sameT a b)) := by
  obtain ⟨k, rfl⟩ : ∃ k', k = k' + 1 := ⟨k - 1, by omega⟩
  rw [callP_eq]
  refine (locks_Same_e k a b (pk κ)).trans ?_
  unfold sameT
  rw [Equal_ok k _ _ _ _ _ _ hn (by omega), locks_Same_r0_s]
  cases sameB a.Held.n b.Held.n a.Held.w b.Held.w with
  | false => rfl
  | true => rw [cond_true, Equal_ok k _ _ _ _ _ _ hm (by omega), locks_Same_r1_s]; rfl
/-! ### covered, Holds, waits -/
theorem r22_covered_ok (k : Nat) (s : TLocks) (o : TLock) (hn : s.Held.n ≤ 10000) (hk : s.Held.n + 30 ≤ k) (κ : AV → Option ρ) : callP ctx k n_r22_covered [.agg (eLocks s), .agg (eLock o)] κ = κ (.bool (coveredB s o)) := by
  obtain ⟨k, rfl⟩ : ∃ k', k = k' + 1 := ⟨k - 1, by omega⟩
  rw [callP_eq]
  refine (r22_covered_e k s o (pk κ)).trans ?_
  have h := find_loop (n := s.Held.n) (P := fun i => coversB (s.Held.w i) o) (hd := fun j i => r22_covered_h0 k j s o (i : Int) (pk κ)) (at_ := fun i => κ (.bool true)) (no := κ (.bool false)) (fun j i hi => ?_) (fun j => ?_) k 0 (by omega) (by omega) (fun i h => by omega)
  · refine h.trans ?_
    unfold coveredB
    rw [← first_any]
    unfold firstI
    cases (List.range s.Held.n).find? (fun i => coversB (s.Held.w i) o) <;> rfl
  · rw [r22_covered_h0_s, dec_t (show (i : Int) < (s.Held.n : Int) by omega), cond_true, idx_ok (by omega) (by omega), cond_true, r03_Within_ok k _ _ (by omega), r03_Within_ok k _ _ (by omega), r22_covered_r0_s, r22_covered_r1_s, wi64_succ (by omega)]
    simp only [Int.toNat_natCast]
    unfold coversB
    show (bif decide ((s.Held.w i).Tx = o.Tx) then (bif (s.Held.w i).X then (bif withinB o.R (s.Held.w i).R then _ else _) else (bif !o.X then (bif withinB o.R (s.Held.w i).R then _ else _) else _)) else _) = _
    cases decide ((s.Held.w i).Tx = o.Tx) <;> cases (s.Held.w i).X <;> cases o.X <;> cases withinB o.R (s.Held.w i).R <;> rfl
  · rw [r22_covered_h0_s, dec_f (by omega), cond_false]; rfl
theorem r22_Holds_ok (k : Nat) (s : TLocks) (a : TLock) (hT : Tx0 s) (ha : 0 ≤ a.Tx) (hn : s.Held.n ≤ 10000) (hm : s.Waits.n ≤ 10000) (hk : s.Held.n + s.Waits.n + 60 ≤ k) (κ : AV → Option ρ) : callP ctx k n_r22_Holds [.agg (eLocks s), .agg (eLock a)] κ = κ (.bool (checkB s && (mayB a && coveredB s a))) := by
  obtain ⟨k, rfl⟩ : ∃ k', k = k' + 1 := ⟨k - 1, by omega⟩
  rw [callP_eq]
  refine (r22_Holds_e k s a (pk κ)).trans ?_
  rw [r22_Check_ok k s hT hn hm (by omega), r22_Holds_r0_s]
  unfold checkE'
  cases checkB s with
  | false => rfl
  | true =>
    rw [if_pos rfl, dec_int, cond_true, r22_May_ok k a ha (by omega), r22_Holds_r1_s]
    cases mayB a with
    | false => rfl
    | true => rw [cond_true, r22_covered_ok k s a hn (by omega), r22_Holds_r2_s]; rfl
theorem r22_waits_ok (k : Nat) (s : TLocks) (tx : Int) (hm : s.Waits.n ≤ 10000) (hk : s.Waits.n + 5 ≤ k) (κ : AV → Option ρ) : callP ctx k n_r22_waits [.agg (eLocks s), .int .u64 tx] κ = κ (.int .i64 (firstI s.Waits.n fun i => decide ((s.Waits.w i).Tx = tx))) := by
  obtain ⟨k, rfl⟩ : ∃ k', k = k' + 1 := ⟨k - 1, by omega⟩
  rw [callP_eq]
  refine (r22_waits_e k s tx (pk κ)).trans ?_
  have h := find_loop (n := s.Waits.n) (P := fun i => decide ((s.Waits.w i).Tx = tx)) (hd := fun j i => r22_waits_h0 k j s tx (i : Int) (pk κ)) (at_ := fun i => κ (.int .i64 (i : Int))) (no := κ (.int .i64 (-1))) (fun j i hi => ?_) (fun j => ?_) k 0 (by omega) (by omega) (fun i h => by omega)
  · refine h.trans ?_
    unfold firstI
    cases (List.range s.Waits.n).find? (fun i => decide ((s.Waits.w i).Tx = tx)) <;> rfl
  · rw [r22_waits_h0_s, dec_t (show (i : Int) < (s.Waits.n : Int) by omega), cond_true, idx_ok (by omega) (by omega), cond_true, wi64_succ (by omega)]
    simp only [Int.toNat_natCast]
    cases decide ((s.Waits.w i).Tx = tx) <;> rfl
  · rw [r22_waits_h0_s, dec_f (by omega), cond_false]; rfl
/-! ### Small, SameIds -/
theorem small_in (k : Nat) (s : TLocks) : ∀ (j i : Nat) (x : Int), i ≤ 210 → 210 < i + j → ∃ b : Bool, (b = true → s.Held.n ≤ 210 ∧ s.Waits.n ≤ 210) ∧ ∀ κ : AV → Heap → Option ρ, r22_Small_h1 k j s x (i : Int) κ = κ (.bool b) []
  | 0, i, x, h1, h2 => by omega
  | j + 1, i, x, h1, h2 => by
    have fin : ∃ b : Bool, (b = true → s.Held.n ≤ 210 ∧ s.Waits.n ≤ 210) ∧ ∀ κ : AV → Heap → Option ρ, (bif decide ((s.Held.n : Int) ≤ 210) then (bif decide ((s.Waits.n : Int) ≤ 210) then κ (.bool (decide (x ≤ 30000))) [] else κ (.bool false) []) else κ (.bool false) []) = κ (.bool b) [] := by
      by_cases a1 : s.Held.n ≤ 210
      · by_cases a2 : s.Waits.n ≤ 210
        · exact ⟨decide (x ≤ 30000), fun _ => ⟨a1, a2⟩, fun κ => by rw [dec_t (by omega), dec_t (by omega)]; rfl⟩
        · exact ⟨false, fun h => (by cases h), fun κ => by rw [dec_t (by omega), dec_f (by omega)]; rfl⟩
      · exact ⟨false, fun h => (by cases h), fun κ => by rw [dec_f (by omega)]; rfl⟩
    by_cases hi : i < s.Waits.n
    · by_cases h3 : i < 210
      · obtain ⟨b, e1, e2⟩ := small_in k s j (i + 1) (wi64 (wi64 (x + (((s.Waits.w i).R.From.size : Nat) : Int)) + (((s.Waits.w i).R.To.size : Nat) : Int))) (by omega) (by omega)
        refine ⟨b, e1, fun κ => ?_⟩
        rw [r22_Small_h1_s, dec_t (show (i : Int) < (s.Waits.n : Int) by omega), cond_true, dec_t (show (i : Int) < 210 by omega), cond_true, idx_ok (by omega) (by omega), cond_true, cond_true, wi64_succ (i := i) (by omega), Int.toNat_natCast]
        exact e2 κ
      · obtain ⟨b, e1, e2⟩ := fin
        refine ⟨b, e1, fun κ => ?_⟩
        rw [r22_Small_h1_s, dec_t (show (i : Int) < (s.Waits.n : Int) by omega), cond_true, dec_f (show ¬ (i : Int) < 210 by omega), cond_false]
        exact e2 κ
    · obtain ⟨b, e1, e2⟩ := fin
      refine ⟨b, e1, fun κ => ?_⟩
      rw [r22_Small_h1_s, dec_f (show ¬ (i : Int) < (s.Waits.n : Int) by omega), cond_false]
      exact e2 κ
theorem small_at (k : Nat) (s : TLocks) (hk : 220 ≤ k) : ∀ (j i : Nat) (x : Int), i ≤ 210 → 210 < i + j → ∃ b : Bool, (b = true → s.Held.n ≤ 210 ∧ s.Waits.n ≤ 210) ∧ ∀ κ : AV → Heap → Option ρ, r22_Small_h0 k j s x (i : Int) κ = κ (.bool b) []
  | 0, i, x, h1, h2 => by omega
  | j + 1, i, x, h1, h2 => by
    by_cases hi : i < s.Held.n
    · by_cases h3 : i < 210
      · obtain ⟨b, e1, e2⟩ := small_at k s hk j (i + 1) (wi64 (wi64 (x + (((s.Held.w i).R.From.size : Nat) : Int)) + (((s.Held.w i).R.To.size : Nat) : Int))) (by omega) (by omega)
        refine ⟨b, e1, fun κ => ?_⟩
        rw [r22_Small_h0_s, dec_t (show (i : Int) < (s.Held.n : Int) by omega), cond_true, dec_t (show (i : Int) < 210 by omega), cond_true, idx_ok (by omega) (by omega), cond_true, cond_true, wi64_succ (i := i) (by omega), Int.toNat_natCast]
        exact e2 κ
      · obtain ⟨b, e1, e2⟩ := small_in (ρ := ρ) k s k 0 x (by omega) (by omega)
        refine ⟨b, e1, fun κ => ?_⟩
        rw [r22_Small_h0_s, dec_t (show (i : Int) < (s.Held.n : Int) by omega), cond_true, dec_f (show ¬ (i : Int) < 210 by omega), cond_false]
        exact e2 κ
    · obtain ⟨b, e1, e2⟩ := small_in (ρ := ρ) k s k 0 x (by omega) (by omega)
      refine ⟨b, e1, fun κ => ?_⟩
      rw [r22_Small_h0_s, dec_f (show ¬ (i : Int) < (s.Held.n : Int) by omega), cond_false]
      exact e2 κ
theorem r22_Small_ok (k : Nat) (s : TLocks) (hk : 230 ≤ k) : ∃ b : Bool, (b = true → s.Held.n ≤ 210 ∧ s.Waits.n ≤ 210) ∧ ∀ κ : AV → Option ρ, callP ctx k n_r22_Small [.agg (eLocks s)] κ = κ (.bool b) := by
  obtain ⟨k, rfl⟩ : ∃ k', k = k' + 1 := ⟨k - 1, by omega⟩
  obtain ⟨b, e1, e2⟩ := small_at (ρ := ρ) k s (by omega) k 0 0 (by omega) (by omega)
  refine ⟨b, e1, fun κ => ?_⟩
  rw [callP_eq]
  refine (r22_Small_e k s (pk κ)).trans ?_
  exact e2 (pk κ)
def sameI (n m : Nat) (v w : Nat → Int) : Bool := decide (n = m) && allN n fun i => decide (v i = w i)
theorem sameI_of {n m : Nat} {v w : Nat → Int} (h : lst n v = lst m w) : sameI n m v w = true := by
  have e := congrArg List.length h
  rw [lst_len, lst_len] at e
  subst e
  unfold sameI
  rw [dec_t rfl, Bool.true_and, allN_true]
  intro i hi
  refine dec_t ?_
  have h1 := congrArg (fun L => L[i]?) h
  simpa [lst, hi] using h1
theorem SameIds_ok (k n m : Nat) (v w : Nat → Int) (u u' : Bool) (hn : n ≤ 10000) (hk : n + 5 ≤ k) (κ : AV → Option ρ) : callP ctx k n_r12_SameIds [.sl 1 n (rowOf (eI .u64) v) u, .sl 1 m (rowOf (eI .u64) w) u'] κ = κ (.bool (sameI n m v w)) := by
  obtain ⟨k, rfl⟩ : ∃ k', k = k' + 1 := ⟨k - 1, by omega⟩
  rw [callP_eq]
  refine (r12_SameIds_e k ⟨n, v, u⟩ ⟨m, w, u'⟩ (pk κ)).trans ?_
  unfold sameI
  dsimp only
  by_cases h : n = m
  · subst h
    rw [dec_int, Bool.not_true, cond_false, dec_t rfl, Bool.true_and]
    have h := all_loop (n := n) (P := fun i => decide (v i = w i)) (hd := fun j i => r12_SameIds_h0 k j ⟨n, v, u⟩ ⟨n, w, u'⟩ (i : Int) (pk κ)) (yes := κ (.bool true)) (no := κ (.bool false)) (fun j i hi => ?_) (fun j => ?_) k 0 (by omega) (by omega) (fun i h => by omega)
    · refine h.trans ?_
      cases allN n fun i => decide (v i = w i) <;> rfl
    · rw [r12_SameIds_h0_s]
      dsimp only
      rw [dec_t (show (i : Int) < (n : Int) by omega), cond_true, idx_ok (by omega) (by omega), cond_true, cond_true, wi64_succ (by omega)]
      simp only [Int.toNat_natCast]
      cases decide (v i = w i) <;> rfl
    · rw [r12_SameIds_h0_s]
      dsimp only
      rw [dec_f (by omega), cond_false]; rfl
  · rw [dec_f (show ¬ (n : Int) = (m : Int) by omega), dec_f h]; rfl
end Go.Proofs.YticcbbcgboddpaaC

set_option linter.unusedVariables false
set_option maxRecDepth 20000
namespace Go.Proofs.YticcbbcgboddpaaC
open Go Go.Ev Go.Proofs
variable {ρ : Type}
theorem r22_Copy_e (k : Nat) (l : TLocks) (κ : AV → Heap → Option ρ) : evalF ctx (k + 1) n_r22_Copy [.agg (eLocks l)] [] κ =
  (bif decide (l.Held.n = 0) then
   (bif decide (l.Waits.n = 0) then
    κ (.agg (eLocks zLocks)) [some (.box [.sl 5 0 (rowOf eLock (fun _ => zLock)) true, .sl 5 0 (rowOf eLock (fun _ => zLock)) true])]
   else (bif roomOf (0 + l.Waits.n) 56 then
     κ (.agg [.sl 5 0 (rowOf eLock (fun _ => zLock)) true, .osl 5 1 0 (0 + l.Waits.n) false]) [some (.box [.sl 5 0 (rowOf eLock (fun _ => zLock)) true, .osl 5 1 0 (0 + l.Waits.n) false]), some (.arr 5 (0 + l.Waits.n) (catRow 0 (rowOf eLock (fun _ => zLock)) (rowOf eLock l.Waits.w)))]
    else none))
  else (bif roomOf (0 + l.Held.n) 56 then
    (bif decide (l.Waits.n = 0) then
     κ (.agg [.osl 5 1 0 (0 + l.Held.n) false, .sl 5 0 (rowOf eLock (fun _ => zLock)) true]) [some (.box [.osl 5 1 0 (0 + l.Held.n) false, .sl 5 0 (rowOf eLock (fun _ => zLock)) true]), some (.arr 5 (0 + l.Held.n) (catRow 0 (rowOf eLock (fun _ => zLock)) (rowOf eLock l.Held.w)))]
    else (bif roomOf (0 + l.Waits.n) 56 then
      κ (.agg [.osl 5 1 0 (0 + l.Held.n) false, .osl 5 2 0 (0 + l.Waits.n) false]) [some (.box [.osl 5 1 0 (0 + l.Held.n) false, .osl 5 2 0 (0 + l.Waits.n) false]), some (.arr 5 (0 + l.Held.n) (catRow 0 (rowOf eLock (fun _ => zLock)) (rowOf eLock l.Held.w))), some (.arr 5 (0 + l.Waits.n) (catRow 0 (rowOf eLock (fun _ => zLock)) (rowOf eLock l.Waits.w)))]
     else none))
   else none)) := by kernel_rfl
noncomputable def r22_Blockers_h0 (k j : Nat) (l : TLocks) (r0 : Int) (κ : AV → Heap → Option ρ) : Option ρ := headAt ctx k n_r22_Blockers 0 [.r, .r, .r, .r, .r, .r, .r, .l, .r] j ⟨(envOf 101 [(2, .ref 0 0), (5, .int .i64 r0), (6, .sl 5 0 (rowOf eLock (fun _ => zLock)) true), (7, .sl 1 0 (rowOf (eI .u64) (fun _ => 0)) true), (8, .int .i64 0)]), [some (.box [.sl 5 l.Held.n (rowOf eLock l.Held.w) l.Held.u, .sl 5 l.Waits.n (rowOf eLock l.Waits.w) l.Waits.u])]⟩ κ
noncomputable def r22_Blockers_h1 (k j : Nat) (l : TLocks) (r0 : Int) (w1 : Nat → List AV) (x6n : Nat) (n1 : Nat) (x8 : Int) (κ : AV → Heap → Option ρ) : Option ρ := headAt ctx k n_r22_Blockers 0 [.r, .r, .r, .r, .r, .r, .r, .l, .r] j ⟨(envOf 101 [(2, .ref 0 0), (5, .int .i64 r0), (6, .osl 5 1 0 x6n false), (7, .sl 1 0 (rowOf (eI .u64) (fun _ => 0)) true), (8, .int .i64 x8)]), [some (.box [.sl 5 l.Held.n (rowOf eLock l.Held.w) l.Held.u, .sl 5 l.Waits.n (rowOf eLock l.Waits.w) l.Waits.u]), some (.arr 5 n1 w1)]⟩ κ
noncomputable def r22_Blockers_h2 (k j1 j : Nat) (l : TLocks) (r0 : Int) (w1 : Nat → TLock) (x6n : Nat) (n1 : Nat) (x8 : Int) (κ : AV → Heap → Option ρ) : Option ρ := headAt ctx k n_r22_Blockers 0 [.r, .r, .r, .r, .r, .r, .r, .l, .r, .into j1, .r, .l, .r, .r, .l] j ⟨(envOf 101 [(2, .ref 0 0), (5, .int .i64 r0), (6, .osl 5 1 0 x6n false), (7, .sl 1 0 (rowOf (eI .u64) (fun _ => 0)) true), (8, .int .i64 x8), (9, .int .i64 0)]), [some (.box [.sl 5 l.Held.n (rowOf eLock l.Held.w) l.Held.u, .sl 5 l.Waits.n (rowOf eLock l.Waits.w) l.Waits.u]), some (.arr 5 n1 (rowOf eLock w1))]⟩ κ
noncomputable def r22_Blockers_h3 (k j : Nat) (l : TLocks) (r0 : Int) (w1 : Nat → TLock) (x6n : Nat) (n1 : Nat) (w2 : Nat → List AV) (x8 : Int) (x7n : Nat) (n2 : Nat) (κ : AV → Heap → Option ρ) : Option ρ := headAt ctx k n_r22_Blockers 0 [.r, .r, .r, .r, .r, .r, .r, .l, .r] j ⟨(envOf 101 [(2, .ref 0 0), (5, .int .i64 r0), (6, .osl 5 1 0 x6n false), (7, .osl 1 2 0 x7n false), (8, .int .i64 x8)]), [some (.box [.sl 5 l.Held.n (rowOf eLock l.Held.w) l.Held.u, .sl 5 l.Waits.n (rowOf eLock l.Waits.w) l.Waits.u]), some (.arr 5 n1 (rowOf eLock w1)), some (.arr 1 n2 w2)]⟩ κ
noncomputable def r22_Blockers_h4 (k j1 j : Nat) (l : TLocks) (r0 : Int) (w1 : Nat → TLock) (x6n : Nat) (n1 : Nat) (w2 : Nat → Int) (x9 : Int) (x7n : Nat) (x8 : Int) (n2 : Nat) (κ : AV → Heap → Option ρ) : Option ρ := headAt ctx k n_r22_Blockers 0 [.r, .r, .r, .r, .r, .r, .r, .l, .r, .into j1, .r, .l, .r, .r, .l] j ⟨(envOf 101 [(2, .ref 0 0), (5, .int .i64 r0), (6, .osl 5 1 0 x6n false), (7, .osl 1 2 0 x7n false), (8, .int .i64 x8), (9, .int .i64 x9)]), [some (.box [.sl 5 l.Held.n (rowOf eLock l.Held.w) l.Held.u, .sl 5 l.Waits.n (rowOf eLock l.Waits.w) l.Waits.u]), some (.arr 5 n1 (rowOf eLock w1)), some (.arr 1 n2 (rowOf (eI .u64) w2))]⟩ κ
noncomputable def r22_Blockers_r0 (k : Nat) (l : TLocks) (tx : Int) (κ : AV → Heap → Option ρ) (v : AV) : Option ρ := resAt ctx k n_r22_Blockers 0 [.r, .l] 2 [] ⟨(envOf 101 [(0, .agg (eLocks l)), (1, .int .u64 tx), (2, .ref 0 0), (4, .sl 1 0 (rowOf (eI .u64) (fun _ => 0)) true), (11, .agg (eLocks l)), (12, .int .u64 tx), (13, v)]), [some (.box [.sl 5 l.Held.n (rowOf eLock l.Held.w) l.Held.u, .sl 5 l.Waits.n (rowOf eLock l.Waits.w) l.Waits.u])]⟩ κ
noncomputable def r22_Blockers_r1 (k j1 : Nat) (l : TLocks) (r0 : Int) (w1 : Nat → TLock) (x6n : Nat) (n1 : Nat) (x8 : Int) (κ : AV → Heap → Option ρ) (v : AV) : Option ρ := resAt ctx k n_r22_Blockers 0 [.r, .r, .r, .r, .r, .r, .r, .l, .r, .into j1, .r, .l, .l, .l] 9 [] ⟨(envOf 101 [(2, .ref 0 0), (5, .int .i64 r0), (6, .osl 5 1 0 x6n false), (7, .sl 1 0 (rowOf (eI .u64) (fun _ => 0)) true), (8, .int .i64 x8), (34, .bool (decide (x8 < (x6n : Int)))), (37, .ref 0 1), (38, .sl 5 l.Waits.n (rowOf eLock l.Waits.w) l.Waits.u), (39, .int .i64 r0), (40, .rref [.int .u64 ((l.Waits.w ((r0).toNat)).Tx), .str (((l.Waits.w ((r0).toNat)).R).From), .str (((l.Waits.w ((r0).toNat)).R).To), .bool (((l.Waits.w ((r0).toNat)).R).End), .bool ((l.Waits.w ((r0).toNat)).X)] 0), (41, .agg (eLock ⟨((l.Waits.w ((r0).toNat)).Tx), ⟨(((l.Waits.w ((r0).toNat)).R).From), (((l.Waits.w ((r0).toNat)).R).To), (((l.Waits.w ((r0).toNat)).R).End)⟩, ((l.Waits.w ((r0).toNat)).X)⟩)), (42, .osl 5 1 0 x6n false), (43, .int .i64 x8), (44, .eref 1 (0 + (x8).toNat) 0), (45, .agg (eLock ⟨((w1 (0 + (x8).toNat)).Tx), ⟨(((w1 (0 + (x8).toNat)).R).From), (((w1 (0 + (x8).toNat)).R).To), (((w1 (0 + (x8).toNat)).R).End)⟩, ((w1 (0 + (x8).toNat)).X)⟩)), (46, v)]), [some (.box [.sl 5 l.Held.n (rowOf eLock l.Held.w) l.Held.u, .sl 5 l.Waits.n (rowOf eLock l.Waits.w) l.Waits.u]), some (.arr 5 n1 (rowOf eLock w1))]⟩ κ
noncomputable def r22_Blockers_r2 (k j1 : Nat) (l : TLocks) (r0 : Int) (w1 : Nat → TLock) (x6n : Nat) (n1 : Nat) (x8 : Int) (w2 : Nat → Int) (x7n : Nat) (n2 : Nat) (κ : AV → Heap → Option ρ) (v : AV) : Option ρ := resAt ctx k n_r22_Blockers 0 [.r, .r, .r, .r, .r, .r, .r, .l, .r, .into j1, .r, .l, .l, .l] 9 [] ⟨(envOf 101 [(2, .ref 0 0), (5, .int .i64 r0), (6, .osl 5 1 0 x6n false), (7, .osl 1 2 0 x7n false), (8, .int .i64 x8), (34, .bool (decide (x8 < (x6n : Int)))), (37, .ref 0 1), (38, .sl 5 l.Waits.n (rowOf eLock l.Waits.w) l.Waits.u), (39, .int .i64 r0), (40, .rref [.int .u64 ((l.Waits.w ((r0).toNat)).Tx), .str (((l.Waits.w ((r0).toNat)).R).From), .str (((l.Waits.w ((r0).toNat)).R).To), .bool (((l.Waits.w ((r0).toNat)).R).End), .bool ((l.Waits.w ((r0).toNat)).X)] 0), (41, .agg (eLock ⟨((l.Waits.w ((r0).toNat)).Tx), ⟨(((l.Waits.w ((r0).toNat)).R).From), (((l.Waits.w ((r0).toNat)).R).To), (((l.Waits.w ((r0).toNat)).R).End)⟩, ((l.Waits.w ((r0).toNat)).X)⟩)), (42, .osl 5 1 0 x6n false), (43, .int .i64 x8), (44, .eref 1 (0 + (x8).toNat) 0), (45, .agg (eLock ⟨((w1 (0 + (x8).toNat)).Tx), ⟨(((w1 (0 + (x8).toNat)).R).From), (((w1 (0 + (x8).toNat)).R).To), (((w1 (0 + (x8).toNat)).R).End)⟩, ((w1 (0 + (x8).toNat)).X)⟩)), (46, v)]), [some (.box [.sl 5 l.Held.n (rowOf eLock l.Held.w) l.Held.u, .sl 5 l.Waits.n (rowOf eLock l.Waits.w) l.Waits.u]), some (.arr 5 n1 (rowOf eLock w1)), some (.arr 1 n2 (rowOf (eI .u64) w2))]⟩ κ
noncomputable def r22_Blockers_r3 (k : Nat) (l : TLocks) (r0 : Int) (κ : AV → Heap → Option ρ) (v : AV) : Option ρ := resAt ctx k n_r22_Blockers 0 [.r, .r, .l, .l] 4 [(16, false)] ⟨(envOf 101 [(2, .ref 0 0), (5, .int .i64 r0), (14, .int .i64 r0), (15, .bool (decide (r0 < 0))), (16, .bool (decide (r0 < 0))), (17, .agg (eLocks l)), (18, v)]), [some (.box [.sl 5 l.Held.n (rowOf eLock l.Held.w) l.Held.u, .sl 5 l.Waits.n (rowOf eLock l.Waits.w) l.Waits.u])]⟩ κ
theorem r22_Blockers_h0_s (k j : Nat) (l : TLocks) (r0 : Int) (κ : AV → Heap → Option ρ) : r22_Blockers_h0 k (j + 1) l r0 κ =
  κ (.sl 1 0 (rowOf (eI .u64) (fun _ => 0)) true) [some (.box [.sl 5 l.Held.n (rowOf eLock l.Held.w) l.Held.u, .sl 5 l.Waits.n (rowOf eLock l.Waits.w) l.Waits.u])] := by kernel_rfl
theorem r22_Blockers_h1_s (k j : Nat) (l : TLocks) (r0 : Int) (w1 : Nat → TLock) (x6n : Nat) (n1 : Nat) (x8 : Int) (κ : AV → Heap → Option ρ) : r22_Blockers_h1 k (j + 1) l r0 (rowOf eLock w1) x6n n1 x8 κ =
  (bif decide (x8 < (x6n : Int)) then
   (bif idxOK r0 l.Waits.n then
    (bif idxOK x8 x6n then
     (bif decide ((0 + (x8).toNat) < n1) then
      callP ctx k n_r22_Against [.agg (eLock ⟨((l.Waits.w ((r0).toNat)).Tx), ⟨(((l.Waits.w ((r0).toNat)).R).From), (((l.Waits.w ((r0).toNat)).R).To), (((l.Waits.w ((r0).toNat)).R).End)⟩, ((l.Waits.w ((r0).toNat)).X)⟩), .agg (eLock ⟨((w1 (0 + (x8).toNat)).Tx), ⟨(((w1 (0 + (x8).toNat)).R).From), (((w1 (0 + (x8).toNat)).R).To), (((w1 (0 + (x8).toNat)).R).End)⟩, ((w1 (0 + (x8).toNat)).X)⟩)] (r22_Blockers_r1 k j l r0 w1 x6n n1 x8 κ)
     else none)
    else none)
   else none)
  else κ (.sl 1 0 (rowOf (eI .u64) (fun _ => 0)) true) [some (.box [.sl 5 l.Held.n (rowOf eLock l.Held.w) l.Held.u, .sl 5 l.Waits.n (rowOf eLock l.Waits.w) l.Waits.u]), some (.arr 5 n1 (rowOf eLock w1))]) := by kernel_rfl
theorem r22_Blockers_h2_s (k j1 j : Nat) (l : TLocks) (r0 : Int) (w1 : Nat → TLock) (x6n : Nat) (n1 : Nat) (x8 : Int) (κ : AV → Heap → Option ρ) : r22_Blockers_h2 k j1 (j + 1) l r0 w1 x6n n1 x8 κ =
  (bif idxOK x8 x6n then
   (bif decide ((0 + (x8).toNat) < n1) then
    r22_Blockers_h3 k j1 l r0 w1 x6n n1 (catRow 0 (rowOf (eI .u64) (fun _ => 0)) (litRow (eI .u64) [((w1 (0 + (x8).toNat)).Tx)] 0)) (wi64 (x8 + 1)) 1 1 κ
   else none)
  else none) := by kernel_rfl
theorem r22_Blockers_h3_s (k j : Nat) (l : TLocks) (r0 : Int) (w1 : Nat → TLock) (x6n : Nat) (n1 : Nat) (w2 : Nat → Int) (x8 : Int) (x7n : Nat) (n2 : Nat) (κ : AV → Heap → Option ρ) : r22_Blockers_h3 k (j + 1) l r0 w1 x6n n1 (rowOf (eI .u64) w2) x8 x7n n2 κ =
  (bif decide (x8 < (x6n : Int)) then
   (bif idxOK r0 l.Waits.n then
    (bif idxOK x8 x6n then
     (bif decide ((0 + (x8).toNat) < n1) then
      callP ctx k n_r22_Against [.agg (eLock ⟨((l.Waits.w ((r0).toNat)).Tx), ⟨(((l.Waits.w ((r0).toNat)).R).From), (((l.Waits.w ((r0).toNat)).R).To), (((l.Waits.w ((r0).toNat)).R).End)⟩, ((l.Waits.w ((r0).toNat)).X)⟩), .agg (eLock ⟨((w1 (0 + (x8).toNat)).Tx), ⟨(((w1 (0 + (x8).toNat)).R).From), (((w1 (0 + (x8).toNat)).R).To), (((w1 (0 + (x8).toNat)).R).End)⟩, ((w1 (0 + (x8).toNat)).X)⟩)] (r22_Blockers_r2 k j l r0 w1 x6n n1 x8 w2 x7n n2 κ)
     else none)
    else none)
   else none)
  else κ (.osl 1 2 0 x7n false) [some (.box [.sl 5 l.Held.n (rowOf eLock l.Held.w) l.Held.u, .sl 5 l.Waits.n (rowOf eLock l.Waits.w) l.Waits.u]), some (.arr 5 n1 (rowOf eLock w1)), some (.arr 1 n2 (rowOf (eI .u64) w2))]) := by kernel_rfl
theorem r22_Blockers_h4_s (k j1 j : Nat) (l : TLocks) (r0 : Int) (w1 : Nat → TLock) (x6n : Nat) (n1 : Nat) (w2 : Nat → Int) (x9 : Int) (x7n : Nat) (x8 : Int) (n2 : Nat) (κ : AV → Heap → Option ρ) : r22_Blockers_h4 k j1 (j + 1) l r0 w1 x6n n1 w2 x9 x7n x8 n2 κ =
  (bif decide (x9 < (x7n : Int)) then
   (bif idxOK x9 x7n then
    (bif decide ((0 + (x9).toNat) < n2) then
     (bif idxOK x8 x6n then
      (bif decide ((0 + (x8).toNat) < n1) then
       (bif decide ((w2 (0 + (x9).toNat)) < ((w1 (0 + (x8).toNat)).Tx)) then
        r22_Blockers_h4 k j1 j l r0 w1 x6n n1 w2 (wi64 (x9 + 1)) x7n x8 n2 κ
       else (bif decide (x9 < (x7n : Int)) then
         (bif idxOK x9 x7n then
          (bif decide ((0 + (x9).toNat) < n2) then
           (bif idxOK x8 x6n then
            (bif decide ((0 + (x8).toNat) < n1) then
             (bif decide ((w2 (0 + (x9).toNat)) = ((w1 (0 + (x8).toNat)).Tx)) then
              r22_Blockers_h3 k j1 l r0 w1 x6n n1 (rowOf (eI .u64) w2) (wi64 (x8 + 1)) x7n n2 κ
             else (bif (cutOK x7n 0 x9 (x7n : Int) && true) then
               (bif decide ((x9).toNat = 0) then
                (bif idxOK x8 x6n then
                 (bif decide ((0 + (x8).toNat) < n1) then
                  (bif (cutOK x7n x9 (x7n : Int) (x7n : Int) && true) then
                   (bif decide ((x7n - (x9).toNat) = 0) then
                    r22_Blockers_h3 k j1 l r0 w1 x6n n1 (catRow 0 (rowOf (eI .u64) (fun _ => 0)) (litRow (eI .u64) [((w1 (0 + (x8).toNat)).Tx)] 0)) (wi64 (x8 + 1)) 1 1 κ
                   else (bif decide ((1 + (x7n - (x9).toNat)) ≤ 1) then
                     r22_Blockers_h3 k j1 l r0 w1 x6n n1 (putRow 1 (1 + (x7n - (x9).toNat)) (rowOf (eI .u64) (fun i => w2 ((0 + (x9).toNat) + i))) (catRow 0 (rowOf (eI .u64) (fun _ => 0)) (litRow (eI .u64) [((w1 (0 + (x8).toNat)).Tx)] 0))) (wi64 (x8 + 1)) (1 + (x7n - (x9).toNat)) 1 κ
                    else (bif roomOf (1 + (x7n - (x9).toNat)) 8 then
                      r22_Blockers_h3 k j1 l r0 w1 x6n n1 (catRow 1 (catRow 0 (rowOf (eI .u64) (fun _ => 0)) (litRow (eI .u64) [((w1 (0 + (x8).toNat)).Tx)] 0)) (rowOf (eI .u64) (fun i => w2 ((0 + (x9).toNat) + i)))) (wi64 (x8 + 1)) (1 + (x7n - (x9).toNat)) (1 + (x7n - (x9).toNat)) κ
                     else none)))
                  else none)
                 else none)
                else none)
               else (bif roomOf (0 + (x9).toNat) 8 then
                 (bif idxOK x8 x6n then
                  (bif decide ((0 + (x8).toNat) < n1) then
                   (bif decide (((0 + (0 + (x9).toNat)) + 1) ≤ (0 + (x9).toNat)) then
                    (bif (cutOK x7n x9 (x7n : Int) (x7n : Int) && true) then
                     (bif decide ((x7n - (x9).toNat) = 0) then
                      r22_Blockers_h3 k j1 l r0 w1 x6n n1 (putRow (0 + (0 + (x9).toNat)) ((0 + (0 + (x9).toNat)) + 1) (litRow (eI .u64) [((w1 (0 + (x8).toNat)).Tx)] 0) (catRow 0 (rowOf (eI .u64) (fun _ => 0)) (rowOf (eI .u64) (fun i => w2 (0 + i))))) (wi64 (x8 + 1)) ((0 + (x9).toNat) + 1) (0 + (x9).toNat) κ
                     else (bif decide (((0 + ((0 + (x9).toNat) + 1)) + (x7n - (x9).toNat)) ≤ (0 + (x9).toNat)) then
                       r22_Blockers_h3 k j1 l r0 w1 x6n n1 (putRow (0 + ((0 + (x9).toNat) + 1)) ((0 + ((0 + (x9).toNat) + 1)) + (x7n - (x9).toNat)) (rowOf (eI .u64) (fun i => w2 ((0 + (x9).toNat) + i))) (putRow (0 + (0 + (x9).toNat)) ((0 + (0 + (x9).toNat)) + 1) (litRow (eI .u64) [((w1 (0 + (x8).toNat)).Tx)] 0) (catRow 0 (rowOf (eI .u64) (fun _ => 0)) (rowOf (eI .u64) (fun i => w2 (0 + i)))))) (wi64 (x8 + 1)) (((0 + (x9).toNat) + 1) + (x7n - (x9).toNat)) (0 + (x9).toNat) κ
                      else (bif ((decide (((0 + (x9).toNat) + 1) = (0 + (x9).toNat))) && (roomOf (((0 + (x9).toNat) + 1) + (x7n - (x9).toNat)) 8)) then
                        r22_Blockers_h3 k j1 l r0 w1 x6n n1 (catRow ((0 + (x9).toNat) + 1) (putRow (0 + (0 + (x9).toNat)) ((0 + (0 + (x9).toNat)) + 1) (litRow (eI .u64) [((w1 (0 + (x8).toNat)).Tx)] 0) (catRow 0 (rowOf (eI .u64) (fun _ => 0)) (rowOf (eI .u64) (fun i => w2 (0 + i))))) (rowOf (eI .u64) (fun i => w2 ((0 + (x9).toNat) + i)))) (wi64 (x8 + 1)) (((0 + (x9).toNat) + 1) + (x7n - (x9).toNat)) (((0 + (x9).toNat) + 1) + (x7n - (x9).toNat)) κ
                       else none)))
                    else none)
                   else (bif ((decide ((0 + (x9).toNat) = (0 + (x9).toNat))) && (roomOf ((0 + (x9).toNat) + 1) 8)) then
                     (bif (cutOK x7n x9 (x7n : Int) (x7n : Int) && true) then
                      (bif decide ((x7n - (x9).toNat) = 0) then
                       r22_Blockers_h3 k j1 l r0 w1 x6n n1 (catRow (0 + (x9).toNat) (catRow 0 (rowOf (eI .u64) (fun _ => 0)) (rowOf (eI .u64) (fun i => w2 (0 + i)))) (litRow (eI .u64) [((w1 (0 + (x8).toNat)).Tx)] 0)) (wi64 (x8 + 1)) ((0 + (x9).toNat) + 1) ((0 + (x9).toNat) + 1) κ
                      else (bif decide (((0 + ((0 + (x9).toNat) + 1)) + (x7n - (x9).toNat)) ≤ ((0 + (x9).toNat) + 1)) then
                        r22_Blockers_h3 k j1 l r0 w1 x6n n1 (putRow (0 + ((0 + (x9).toNat) + 1)) ((0 + ((0 + (x9).toNat) + 1)) + (x7n - (x9).toNat)) (rowOf (eI .u64) (fun i => w2 ((0 + (x9).toNat) + i))) (catRow (0 + (x9).toNat) (catRow 0 (rowOf (eI .u64) (fun _ => 0)) (rowOf (eI .u64) (fun i => w2 (0 + i)))) (litRow (eI .u64) [((w1 (0 + (x8).toNat)).Tx)] 0))) (wi64 (x8 + 1)) (((0 + (x9).toNat) + 1) + (x7n - (x9).toNat)) ((0 + (x9).toNat) + 1) κ
                       else (bif ((decide (((0 + (x9).toNat) + 1) = ((0 + (x9).toNat) + 1))) && (roomOf (((0 + (x9).toNat) + 1) + (x7n - (x9).toNat)) 8)) then
                         r22_Blockers_h3 k j1 l r0 w1 x6n n1 (catRow ((0 + (x9).toNat) + 1) (catRow (0 + (x9).toNat) (catRow 0 (rowOf (eI .u64) (fun _ => 0)) (rowOf (eI .u64) (fun i => w2 (0 + i)))) (litRow (eI .u64) [((w1 (0 + (x8).toNat)).Tx)] 0)) (rowOf (eI .u64) (fun i => w2 ((0 + (x9).toNat) + i)))) (wi64 (x8 + 1)) (((0 + (x9).toNat) + 1) + (x7n - (x9).toNat)) (((0 + (x9).toNat) + 1) + (x7n - (x9).toNat)) κ
                        else none)))
                     else none)
                    else none))
                  else none)
                 else none)
                else none))
              else none))
            else none)
           else none)
          else none)
         else none)
        else (bif (cutOK x7n 0 x9 (x7n : Int) && true) then
          (bif decide ((x9).toNat = 0) then
           (bif idxOK x8 x6n then
            (bif decide ((0 + (x8).toNat) < n1) then
             (bif (cutOK x7n x9 (x7n : Int) (x7n : Int) && true) then
              (bif decide ((x7n - (x9).toNat) = 0) then
               r22_Blockers_h3 k j1 l r0 w1 x6n n1 (catRow 0 (rowOf (eI .u64) (fun _ => 0)) (litRow (eI .u64) [((w1 (0 + (x8).toNat)).Tx)] 0)) (wi64 (x8 + 1)) 1 1 κ
              else (bif decide ((1 + (x7n - (x9).toNat)) ≤ 1) then
                r22_Blockers_h3 k j1 l r0 w1 x6n n1 (putRow 1 (1 + (x7n - (x9).toNat)) (rowOf (eI .u64) (fun i => w2 ((0 + (x9).toNat) + i))) (catRow 0 (rowOf (eI .u64) (fun _ => 0)) (litRow (eI .u64) [((w1 (0 + (x8).toNat)).Tx)] 0))) (wi64 (x8 + 1)) (1 + (x7n - (x9).toNat)) 1 κ
               else (bif roomOf (1 + (x7n - (x9).toNat)) 8 then
                 r22_Blockers_h3 k j1 l r0 w1 x6n n1 (catRow 1 (catRow 0 (rowOf (eI .u64) (fun _ => 0)) (litRow (eI .u64) [((w1 (0 + (x8).toNat)).Tx)] 0)) (rowOf (eI .u64) (fun i => w2 ((0 + (x9).toNat) + i)))) (wi64 (x8 + 1)) (1 + (x7n - (x9).toNat)) (1 + (x7n - (x9).toNat)) κ
                else none)))
             else none)
            else none)
           else none)
          else (bif roomOf (0 + (x9).toNat) 8 then
            (bif idxOK x8 x6n then
             (bif decide ((0 + (x8).toNat) < n1) then
              (bif decide (((0 + (0 + (x9).toNat)) + 1) ≤ (0 + (x9).toNat)) then
               (bif (cutOK x7n x9 (x7n : Int) (x7n : Int) && true) then
                (bif decide ((x7n - (x9).toNat) = 0) then
                 r22_Blockers_h3 k j1 l r0 w1 x6n n1 (putRow (0 + (0 + (x9).toNat)) ((0 + (0 + (x9).toNat)) + 1) (litRow (eI .u64) [((w1 (0 + (x8).toNat)).Tx)] 0) (catRow 0 (rowOf (eI .u64) (fun _ => 0)) (rowOf (eI .u64) (fun i => w2 (0 + i))))) (wi64 (x8 + 1)) ((0 + (x9).toNat) + 1) (0 + (x9).toNat) κ
                else (bif decide (((0 + ((0 + (x9).toNat) + 1)) + (x7n - (x9).toNat)) ≤ (0 + (x9).toNat)) then
                  r22_Blockers_h3 k j1 l r0 w1 x6n n1 (putRow (0 + ((0 + (x9).toNat) + 1)) ((0 + ((0 + (x9).toNat) + 1)) + (x7n - (x9).toNat)) (rowOf (eI .u64) (fun i => w2 ((0 + (x9).toNat) + i))) (putRow (0 + (0 + (x9).toNat)) ((0 + (0 + (x9).toNat)) + 1) (litRow (eI .u64) [((w1 (0 + (x8).toNat)).Tx)] 0) (catRow 0 (rowOf (eI .u64) (fun _ => 0)) (rowOf (eI .u64) (fun i => w2 (0 + i)))))) (wi64 (x8 + 1)) (((0 + (x9).toNat) + 1) + (x7n - (x9).toNat)) (0 + (x9).toNat) κ
                 else (bif ((decide (((0 + (x9).toNat) + 1) = (0 + (x9).toNat))) && (roomOf (((0 + (x9).toNat) + 1) + (x7n - (x9).toNat)) 8)) then
                   r22_Blockers_h3 k j1 l r0 w1 x6n n1 (catRow ((0 + (x9).toNat) + 1) (putRow (0 + (0 + (x9).toNat)) ((0 + (0 + (x9).toNat)) + 1) (litRow (eI .u64) [((w1 (0 + (x8).toNat)).Tx)] 0) (catRow 0 (rowOf (eI .u64) (fun _ => 0)) (rowOf (eI .u64) (fun i => w2 (0 + i))))) (rowOf (eI .u64) (fun i => w2 ((0 + (x9).toNat) + i)))) (wi64 (x8 + 1)) (((0 + (x9).toNat) + 1) + (x7n - (x9).toNat)) (((0 + (x9).toNat) + 1) + (x7n - (x9).toNat)) κ
                  else none)))
               else none)
              else (bif ((decide ((0 + (x9).toNat) = (0 + (x9).toNat))) && (roomOf ((0 + (x9).toNat) + 1) 8)) then
                (bif (cutOK x7n x9 (x7n : Int) (x7n : Int) && true) then
                 (bif decide ((x7n - (x9).toNat) = 0) then
                  r22_Blockers_h3 k j1 l r0 w1 x6n n1 (catRow (0 + (x9).toNat) (catRow 0 (rowOf (eI .u64) (fun _ => 0)) (rowOf (eI .u64) (fun i => w2 (0 + i)))) (litRow (eI .u64) [((w1 (0 + (x8).toNat)).Tx)] 0)) (wi64 (x8 + 1)) ((0 + (x9).toNat) + 1) ((0 + (x9).toNat) + 1) κ
                 else (bif decide (((0 + ((0 + (x9).toNat) + 1)) + (x7n - (x9).toNat)) ≤ ((0 + (x9).toNat) + 1)) then
                   r22_Blockers_h3 k j1 l r0 w1 x6n n1 (putRow (0 + ((0 + (x9).toNat) + 1)) ((0 + ((0 + (x9).toNat) + 1)) + (x7n - (x9).toNat)) (rowOf (eI .u64) (fun i => w2 ((0 + (x9).toNat) + i))) (catRow (0 + (x9).toNat) (catRow 0 (rowOf (eI .u64) (fun _ => 0)) (rowOf (eI .u64) (fun i => w2 (0 + i)))) (litRow (eI .u64) [((w1 (0 + (x8).toNat)).Tx)] 0))) (wi64 (x8 + 1)) (((0 + (x9).toNat) + 1) + (x7n - (x9).toNat)) ((0 + (x9).toNat) + 1) κ
                  else (bif ((decide (((0 + (x9).toNat) + 1) = ((0 + (x9).toNat) + 1))) && (roomOf (((0 + (x9).toNat) + 1) + (x7n - (x9).toNat)) 8)) then
                    r22_Blockers_h3 k j1 l r0 w1 x6n n1 (catRow ((0 + (x9).toNat) + 1) (catRow (0 + (x9).toNat) (catRow 0 (rowOf (eI .u64) (fun _ => 0)) (rowOf (eI .u64) (fun i => w2 (0 + i)))) (litRow (eI .u64) [((w1 (0 + (x8).toNat)).Tx)] 0)) (rowOf (eI .u64) (fun i => w2 ((0 + (x9).toNat) + i)))) (wi64 (x8 + 1)) (((0 + (x9).toNat) + 1) + (x7n - (x9).toNat)) (((0 + (x9).toNat) + 1) + (x7n - (x9).toNat)) κ
                   else none)))
                else none)
               else none))
             else none)
            else none)
           else none))
         else none)))
      else none)
     else none)
    else none)
   else none)
  else (bif decide (x9 < (x7n : Int)) then
    (bif idxOK x9 x7n then
     (bif decide ((0 + (x9).toNat) < n2) then
      (bif idxOK x8 x6n then
       (bif decide ((0 + (x8).toNat) < n1) then
        (bif decide ((w2 (0 + (x9).toNat)) = ((w1 (0 + (x8).toNat)).Tx)) then
         r22_Blockers_h3 k j1 l r0 w1 x6n n1 (rowOf (eI .u64) w2) (wi64 (x8 + 1)) x7n n2 κ
        else (bif (cutOK x7n 0 x9 (x7n : Int) && true) then
          (bif decide ((x9).toNat = 0) then
           (bif idxOK x8 x6n then
            (bif decide ((0 + (x8).toNat) < n1) then
             (bif (cutOK x7n x9 (x7n : Int) (x7n : Int) && true) then
              (bif decide ((x7n - (x9).toNat) = 0) then
               r22_Blockers_h3 k j1 l r0 w1 x6n n1 (catRow 0 (rowOf (eI .u64) (fun _ => 0)) (litRow (eI .u64) [((w1 (0 + (x8).toNat)).Tx)] 0)) (wi64 (x8 + 1)) 1 1 κ
              else (bif decide ((1 + (x7n - (x9).toNat)) ≤ 1) then
                r22_Blockers_h3 k j1 l r0 w1 x6n n1 (putRow 1 (1 + (x7n - (x9).toNat)) (rowOf (eI .u64) (fun i => w2 ((0 + (x9).toNat) + i))) (catRow 0 (rowOf (eI .u64) (fun _ => 0)) (litRow (eI .u64) [((w1 (0 + (x8).toNat)).Tx)] 0))) (wi64 (x8 + 1)) (1 + (x7n - (x9).toNat)) 1 κ
               else (bif roomOf (1 + (x7n - (x9).toNat)) 8 then
                 r22_Blockers_h3 k j1 l r0 w1 x6n n1 (catRow 1 (catRow 0 (rowOf (eI .u64) (fun _ => 0)) (litRow (eI .u64) [((w1 (0 + (x8).toNat)).Tx)] 0)) (rowOf (eI .u64) (fun i => w2 ((0 + (x9).toNat) + i)))) (wi64 (x8 + 1)) (1 + (x7n - (x9).toNat)) (1 + (x7n - (x9).toNat)) κ
                else none)))
             else none)
            else none)
           else none)
          else (bif roomOf (0 + (x9).toNat) 8 then
            (bif idxOK x8 x6n then
             (bif decide ((0 + (x8).toNat) < n1) then
              (bif decide (((0 + (0 + (x9).toNat)) + 1) ≤ (0 + (x9).toNat)) then
               (bif (cutOK x7n x9 (x7n : Int) (x7n : Int) && true) then
                (bif decide ((x7n - (x9).toNat) = 0) then
                 r22_Blockers_h3 k j1 l r0 w1 x6n n1 (putRow (0 + (0 + (x9).toNat)) ((0 + (0 + (x9).toNat)) + 1) (litRow (eI .u64) [((w1 (0 + (x8).toNat)).Tx)] 0) (catRow 0 (rowOf (eI .u64) (fun _ => 0)) (rowOf (eI .u64) (fun i => w2 (0 + i))))) (wi64 (x8 + 1)) ((0 + (x9).toNat) + 1) (0 + (x9).toNat) κ
                else (bif decide (((0 + ((0 + (x9).toNat) + 1)) + (x7n - (x9).toNat)) ≤ (0 + (x9).toNat)) then
                  r22_Blockers_h3 k j1 l r0 w1 x6n n1 (putRow (0 + ((0 + (x9).toNat) + 1)) ((0 + ((0 + (x9).toNat) + 1)) + (x7n - (x9).toNat)) (rowOf (eI .u64) (fun i => w2 ((0 + (x9).toNat) + i))) (putRow (0 + (0 + (x9).toNat)) ((0 + (0 + (x9).toNat)) + 1) (litRow (eI .u64) [((w1 (0 + (x8).toNat)).Tx)] 0) (catRow 0 (rowOf (eI .u64) (fun _ => 0)) (rowOf (eI .u64) (fun i => w2 (0 + i)))))) (wi64 (x8 + 1)) (((0 + (x9).toNat) + 1) + (x7n - (x9).toNat)) (0 + (x9).toNat) κ
                 else (bif ((decide (((0 + (x9).toNat) + 1) = (0 + (x9).toNat))) && (roomOf (((0 + (x9).toNat) + 1) + (x7n - (x9).toNat)) 8)) then
                   r22_Blockers_h3 k j1 l r0 w1 x6n n1 (catRow ((0 + (x9).toNat) + 1) (putRow (0 + (0 + (x9).toNat)) ((0 + (0 + (x9).toNat)) + 1) (litRow (eI .u64) [((w1 (0 + (x8).toNat)).Tx)] 0) (catRow 0 (rowOf (eI .u64) (fun _ => 0)) (rowOf (eI .u64) (fun i => w2 (0 + i))))) (rowOf (eI .u64) (fun i => w2 ((0 + (x9).toNat) + i)))) (wi64 (x8 + 1)) (((0 + (x9).toNat) + 1) + (x7n - (x9).toNat)) (((0 + (x9).toNat) + 1) + (x7n - (x9).toNat)) κ
                  else none)))
               else none)
              else (bif ((decide ((0 + (x9).toNat) = (0 + (x9).toNat))) && (roomOf ((0 + (x9).toNat) + 1) 8)) then
                (bif (cutOK x7n x9 (x7n : Int) (x7n : Int) && true) then
                 (bif decide ((x7n - (x9).toNat) = 0) then
                  r22_Blockers_h3 k j1 l r0 w1 x6n n1 (catRow (0 + (x9).toNat) (catRow 0 (rowOf (eI .u64) (fun _ => 0)) (rowOf (eI .u64) (fun i => w2 (0 + i)))) (litRow (eI .u64) [((w1 (0 + (x8).toNat)).Tx)] 0)) (wi64 (x8 + 1)) ((0 + (x9).toNat) + 1) ((0 + (x9).toNat) + 1) κ
                 else (bif decide (((0 + ((0 + (x9).toNat) + 1)) + (x7n - (x9).toNat)) ≤ ((0 + (x9).toNat) + 1)) then
                   r22_Blockers_h3 k j1 l r0 w1 x6n n1 (putRow (0 + ((0 + (x9).toNat) + 1)) ((0 + ((0 + (x9).toNat) + 1)) + (x7n - (x9).toNat)) (rowOf (eI .u64) (fun i => w2 ((0 + (x9).toNat) + i))) (catRow (0 + (x9).toNat) (catRow 0 (rowOf (eI .u64) (fun _ => 0)) (rowOf (eI .u64) (fun i => w2 (0 + i)))) (litRow (eI .u64) [((w1 (0 + (x8).toNat)).Tx)] 0))) (wi64 (x8 + 1)) (((0 + (x9).toNat) + 1) + (x7n - (x9).toNat)) ((0 + (x9).toNat) + 1) κ
                  else (bif ((decide (((0 + (x9).toNat) + 1) = ((0 + (x9).toNat) + 1))) && (roomOf (((0 + (x9).toNat) + 1) + (x7n - (x9).toNat)) 8)) then
                    r22_Blockers_h3 k j1 l r0 w1 x6n n1 (catRow ((0 + (x9).toNat) + 1) (catRow (0 + (x9).toNat) (catRow 0 (rowOf (eI .u64) (fun _ => 0)) (rowOf (eI .u64) (fun i => w2 (0 + i)))) (litRow (eI .u64) [((w1 (0 + (x8).toNat)).Tx)] 0)) (rowOf (eI .u64) (fun i => w2 ((0 + (x9).toNat) + i)))) (wi64 (x8 + 1)) (((0 + (x9).toNat) + 1) + (x7n - (x9).toNat)) (((0 + (x9).toNat) + 1) + (x7n - (x9).toNat)) κ
                   else none)))
                else none)
               else none))
             else none)
            else none)
           else none))
         else none))
       else none)
      else none)
     else none)
    else none)
   else (bif (cutOK x7n 0 x9 (x7n : Int) && true) then
     (bif decide ((x9).toNat = 0) then
      (bif idxOK x8 x6n then
       (bif decide ((0 + (x8).toNat) < n1) then
        (bif (cutOK x7n x9 (x7n : Int) (x7n : Int) && true) then
         (bif decide ((x7n - (x9).toNat) = 0) then
          r22_Blockers_h3 k j1 l r0 w1 x6n n1 (catRow 0 (rowOf (eI .u64) (fun _ => 0)) (litRow (eI .u64) [((w1 (0 + (x8).toNat)).Tx)] 0)) (wi64 (x8 + 1)) 1 1 κ
         else (bif decide ((1 + (x7n - (x9).toNat)) ≤ 1) then
           r22_Blockers_h3 k j1 l r0 w1 x6n n1 (putRow 1 (1 + (x7n - (x9).toNat)) (rowOf (eI .u64) (fun i => w2 ((0 + (x9).toNat) + i))) (catRow 0 (rowOf (eI .u64) (fun _ => 0)) (litRow (eI .u64) [((w1 (0 + (x8).toNat)).Tx)] 0))) (wi64 (x8 + 1)) (1 + (x7n - (x9).toNat)) 1 κ
          else (bif roomOf (1 + (x7n - (x9).toNat)) 8 then
            r22_Blockers_h3 k j1 l r0 w1 x6n n1 (catRow 1 (catRow 0 (rowOf (eI .u64) (fun _ => 0)) (litRow (eI .u64) [((w1 (0 + (x8).toNat)).Tx)] 0)) (rowOf (eI .u64) (fun i => w2 ((0 + (x9).toNat) + i)))) (wi64 (x8 + 1)) (1 + (x7n - (x9).toNat)) (1 + (x7n - (x9).toNat)) κ
           else none)))
        else none)
       else none)
      else none)
     else (bif roomOf (0 + (x9).toNat) 8 then
       (bif idxOK x8 x6n then
        (bif decide ((0 + (x8).toNat) < n1) then
         (bif decide (((0 + (0 + (x9).toNat)) + 1) ≤ (0 + (x9).toNat)) then
          (bif (cutOK x7n x9 (x7n : Int) (x7n : Int) && true) then
           (bif decide ((x7n - (x9).toNat) = 0) then
            r22_Blockers_h3 k j1 l r0 w1 x6n n1 (putRow (0 + (0 + (x9).toNat)) ((0 + (0 + (x9).toNat)) + 1) (litRow (eI .u64) [((w1 (0 + (x8).toNat)).Tx)] 0) (catRow 0 (rowOf (eI .u64) (fun _ => 0)) (rowOf (eI .u64) (fun i => w2 (0 + i))))) (wi64 (x8 + 1)) ((0 + (x9).toNat) + 1) (0 + (x9).toNat) κ
           else (bif decide (((0 + ((0 + (x9).toNat) + 1)) + (x7n - (x9).toNat)) ≤ (0 + (x9).toNat)) then
             r22_Blockers_h3 k j1 l r0 w1 x6n n1 (putRow (0 + ((0 + (x9).toNat) + 1)) ((0 + ((0 + (x9).toNat) + 1)) + (x7n - (x9).toNat)) (rowOf (eI .u64) (fun i => w2 ((0 + (x9).toNat) + i))) (putRow (0 + (0 + (x9).toNat)) ((0 + (0 + (x9).toNat)) + 1) (litRow (eI .u64) [((w1 (0 + (x8).toNat)).Tx)] 0) (catRow 0 (rowOf (eI .u64) (fun _ => 0)) (rowOf (eI .u64) (fun i => w2 (0 + i)))))) (wi64 (x8 + 1)) (((0 + (x9).toNat) + 1) + (x7n - (x9).toNat)) (0 + (x9).toNat) κ
            else (bif ((decide (((0 + (x9).toNat) + 1) = (0 + (x9).toNat))) && (roomOf (((0 + (x9).toNat) + 1) + (x7n - (x9).toNat)) 8)) then
              r22_Blockers_h3 k j1 l r0 w1 x6n n1 (catRow ((0 + (x9).toNat) + 1) (putRow (0 + (0 + (x9).toNat)) ((0 + (0 + (x9).toNat)) + 1) (litRow (eI .u64) [((w1 (0 + (x8).toNat)).Tx)] 0) (catRow 0 (rowOf (eI .u64) (fun _ => 0)) (rowOf (eI .u64) (fun i => w2 (0 + i))))) (rowOf (eI .u64) (fun i => w2 ((0 + (x9).toNat) + i)))) (wi64 (x8 + 1)) (((0 + (x9).toNat) + 1) + (x7n - (x9).toNat)) (((0 + (x9).toNat) + 1) + (x7n - (x9).toNat)) κ
             else none)))
          else none)
         else (bif ((decide ((0 + (x9).toNat) = (0 + (x9).toNat))) && (roomOf ((0 + (x9).toNat) + 1) 8)) then
           (bif (cutOK x7n x9 (x7n : Int) (x7n : Int) && true) then
            (bif decide ((x7n - (x9).toNat) = 0) then
             r22_Blockers_h3 k j1 l r0 w1 x6n n1 (catRow (0 + (x9).toNat) (catRow 0 (rowOf (eI .u64) (fun _ => 0)) (rowOf (eI .u64) (fun i => w2 (0 + i)))) (litRow (eI .u64) [((w1 (0 + (x8).toNat)).Tx)] 0)) (wi64 (x8 + 1)) ((0 + (x9).toNat) + 1) ((0 + (x9).toNat) + 1) κ
            else (bif decide (((0 + ((0 + (x9).toNat) + 1)) + (x7n - (x9).toNat)) ≤ ((0 + (x9).toNat) + 1)) then
              r22_Blockers_h3 k j1 l r0 w1 x6n n1 (putRow (0 + ((0 + (x9).toNat) + 1)) ((0 + ((0 + (x9).toNat) + 1)) + (x7n - (x9).toNat)) (rowOf (eI .u64) (fun i => w2 ((0 + (x9).toNat) + i))) (catRow (0 + (x9).toNat) (catRow 0 (rowOf (eI .u64) (fun _ => 0)) (rowOf (eI .u64) (fun i => w2 (0 + i)))) (litRow (eI .u64) [((w1 (0 + (x8).toNat)).Tx)] 0))) (wi64 (x8 + 1)) (((0 + (x9).toNat) + 1) + (x7n - (x9).toNat)) ((0 + (x9).toNat) + 1) κ
             else (bif ((decide (((0 + (x9).toNat) + 1) = ((0 + (x9).toNat) + 1))) && (roomOf (((0 + (x9).toNat) + 1) + (x7n - (x9).toNat)) 8)) then
               r22_Blockers_h3 k j1 l r0 w1 x6n n1 (catRow ((0 + (x9).toNat) + 1) (catRow (0 + (x9).toNat) (catRow 0 (rowOf (eI .u64) (fun _ => 0)) (rowOf (eI .u64) (fun i => w2 (0 + i)))) (litRow (eI .u64) [((w1 (0 + (x8).toNat)).Tx)] 0)) (rowOf (eI .u64) (fun i => w2 ((0 + (x9).toNat) + i)))) (wi64 (x8 + 1)) (((0 + (x9).toNat) + 1) + (x7n - (x9).toNat)) (((0 + (x9).toNat) + 1) + (x7n - (x9).toNat)) κ
              else none)))
           else none)
          else none))
        else none)
       else none)
      else none))
    else none))) := by kernel_rfl
theorem r22_Blockers_r0_s (k : Nat) (l : TLocks) (tx : Int) (r0 : Int) (κ : AV → Heap → Option ρ) : r22_Blockers_r0 k l tx κ (.int .i64 r0) =
  (bif decide (r0 < 0) then
   κ (.sl 1 0 (rowOf (eI .u64) (fun _ => 0)) true) [some (.box [.sl 5 l.Held.n (rowOf eLock l.Held.w) l.Held.u, .sl 5 l.Waits.n (rowOf eLock l.Waits.w) l.Waits.u])]
  else callP ctx k n_r22_Check [.agg (eLocks l)] (r22_Blockers_r3 k l r0 κ)) := by kernel_rfl
theorem r22_Blockers_r1_s (k j1 : Nat) (l : TLocks) (r0 : Int) (w1 : Nat → TLock) (x6n : Nat) (n1 : Nat) (x8 : Int) (r1 : Bool) (κ : AV → Heap → Option ρ) : r22_Blockers_r1 k j1 l r0 w1 x6n n1 x8 κ (.bool r1) =
  (bif !r1 then
   r22_Blockers_h1 k j1 l r0 (rowOf eLock w1) x6n n1 (wi64 (x8 + 1)) κ
  else r22_Blockers_h2 k j1 k l r0 w1 x6n n1 x8 κ) := by kernel_rfl
theorem r22_Blockers_r2_s (k j1 : Nat) (l : TLocks) (r0 : Int) (w1 : Nat → TLock) (x6n : Nat) (n1 : Nat) (x8 : Int) (w2 : Nat → Int) (x7n : Nat) (n2 : Nat) (r2 : Bool) (κ : AV → Heap → Option ρ) : r22_Blockers_r2 k j1 l r0 w1 x6n n1 x8 w2 x7n n2 κ (.bool r2) =
  (bif !r2 then
   r22_Blockers_h3 k j1 l r0 w1 x6n n1 (rowOf (eI .u64) w2) (wi64 (x8 + 1)) x7n n2 κ
  else r22_Blockers_h4 k j1 k l r0 w1 x6n n1 w2 0 x7n x8 n2 κ) := by kernel_rfl
theorem r22_Blockers_r3_s (k : Nat) (l : TLocks) (r0 : Int) (r3 : Int) (κ : AV → Heap → Option ρ) : r22_Blockers_r3 k l r0 κ (.int .i64 r3) =
  (bif !decide (r3 = 0) then
   κ (.sl 1 0 (rowOf (eI .u64) (fun _ => 0)) true) [some (.box [.sl 5 l.Held.n (rowOf eLock l.Held.w) l.Held.u, .sl 5 l.Waits.n (rowOf eLock l.Waits.w) l.Waits.u])]
  else (bif decide (l.Held.n = 0) then
    (bif cutOK l.Waits.n 0 r0 (l.Waits.n : Int) then
     (bif decide ((r0).toNat = 0) then
      r22_Blockers_h0 k k l r0 κ
     else (bif roomOf (0 + (r0).toNat) 56 then
       r22_Blockers_h1 k k l r0 (catRow 0 (rowOf eLock (fun _ => zLock)) (rowOf eLock (fun i => l.Waits.w (0 + i)))) (0 + (r0).toNat) (0 + (r0).toNat) 0 κ
      else none))
    else none)
   else (bif roomOf (0 + l.Held.n) 56 then
     (bif cutOK l.Waits.n 0 r0 (l.Waits.n : Int) then
      (bif decide ((r0).toNat = 0) then
       r22_Blockers_h1 k k l r0 (catRow 0 (rowOf eLock (fun _ => zLock)) (rowOf eLock l.Held.w)) (0 + l.Held.n) (0 + l.Held.n) 0 κ
      else (bif decide (((0 + (0 + l.Held.n)) + (r0).toNat) ≤ (0 + l.Held.n)) then
        r22_Blockers_h1 k k l r0 (putRow (0 + (0 + l.Held.n)) ((0 + (0 + l.Held.n)) + (r0).toNat) (rowOf eLock (fun i => l.Waits.w (0 + i))) (catRow 0 (rowOf eLock (fun _ => zLock)) (rowOf eLock l.Held.w))) ((0 + l.Held.n) + (r0).toNat) (0 + l.Held.n) 0 κ
       else (bif ((decide ((0 + l.Held.n) = (0 + l.Held.n))) && (roomOf ((0 + l.Held.n) + (r0).toNat) 56)) then
         r22_Blockers_h1 k k l r0 (catRow (0 + l.Held.n) (catRow 0 (rowOf eLock (fun _ => zLock)) (rowOf eLock l.Held.w)) (rowOf eLock (fun i => l.Waits.w (0 + i)))) ((0 + l.Held.n) + (r0).toNat) ((0 + l.Held.n) + (r0).toNat) 0 κ
        else none)))
     else none)
    else none))) := by kernel_rfl
theorem r22_Blockers_e (k : Nat) (l : TLocks) (tx : Int) (κ : AV → Heap → Option ρ) : evalF ctx (k + 1) n_r22_Blockers [.agg (eLocks l), .int .u64 tx] [] κ =
  callP ctx k n_r22_waits [.agg (eLocks l), .int .u64 tx] (r22_Blockers_r0 k l tx κ) := by kernel_rfl
end Go.Proofs.YticcbbcgboddpaaC
