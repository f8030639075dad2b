/- For every row of calls and every key, from an empty table on, whatever is asked, released and withdrawn, what the calls tell is right, no two transactions hold locks on one key, one of which is X, one that waits has a blocker, and all transactions released one by one, none is left: the law's function hands back true and leaves what it was handed. No conditions. -/
import Derived.Test.YticcbbcgboddpaaBLocksApart4
import Derived.KernelRfl
import Derived.Test.YticcbbcgboddpaaRows
import Derived.WalkKit
import Derived.ProofKit
import Derived.OpenShut
import Derived.ShutString
import Derived.ChangeOld
import Derived.Below
import Derived.SizedLaws
import Derived.Carry
set_option linter.unusedVariables false
set_option linter.unusedSimpArgs false
set_option maxRecDepth 20000
namespace Go.Proofs.YticcbbcgboddpaaC
open Go Go.Ev Go.Proofs
/-- the same as_ Tab, by pairs and cuts -/
structure TabP (H W : List TLock) : Prop where
  mayH : ∀ x ∈ H, mayB x = true
  held : H.Pairwise fun a b => againstB b a = false
  mayW : ∀ x ∈ W, mayB x = true
  one : W.Pairwise fun a b => a.Tx ≠ b.Tx
  wait : ∀ P x S, W = P ++ x :: S → grantsL x H P = false
theorem grantsL_nil (x : TLock) (P : List TLock) : grantsL x P [] = true ↔ ∀ y ∈ P, againstB x y = false := by
  unfold grantsL
  simp [List.any_eq_false]
theorem pairs_of {α : Type} {R : α → α → Prop} {L : List α} : L.Pairwise R ↔ ∀ i x, L[i]? = some x → ∀ y ∈ L.take i, R y x := by
  rw [List.pairwise_iff_getElem]
  constructor
  · intro h i x hx y hy
    obtain ⟨hi, rfl⟩ := List.getElem?_eq_some_iff.1 hx
    obtain ⟨j, hj, rfl⟩ := List.getElem_of_mem hy
    rw [List.length_take] at hj
    rw [List.getElem_take]
    exact h j i (by omega) hi (by omega)
  · intro h i j hi hj hij
    exact h j L[j] (by simp [hj]) L[i] (List.mem_take_iff_getElem.2 ⟨i, by omega, rfl⟩)
theorem tab_iff {H W : List TLock} : Tab H W ↔ H.length + W.length ≤ 200 ∧ TabP H W := by
  constructor
  · intro h
    refine ⟨h.size, ?_, ?_, ?_, ?_, ?_⟩
    · intro x hx
      obtain ⟨i, hi, rfl⟩ := List.getElem_of_mem hx
      exact (h.held i _ (by simp [hi])).1
    · rw [pairs_of]
      intro i x hx y hy
      exact (grantsL_nil x _).1 (h.held i x hx).2 y hy
    · intro x hx
      obtain ⟨i, hi, rfl⟩ := List.getElem_of_mem hx
      exact (h.wait i _ (by simp [hi])).1
    · rw [pairs_of]
      intro i x hx y hy e
      have := (h.wait i x hx).2.1
      unfold waitL at this
      rw [List.any_eq_false] at this
      exact this y hy (by simpa using e)
    · intro P x S e
      have := (h.wait P.length x (by rw [e]; simp)).2.2
      rwa [show W.take P.length = P by rw [e]; simp] at this
  · rintro ⟨h0, h1, h2, h3, h4, h5⟩
    refine ⟨h0, fun i x hx => ⟨h1 x (List.mem_of_getElem? hx), ?_⟩, fun i x hx => ⟨h3 x (List.mem_of_getElem? hx), ?_, ?_⟩⟩
    · rw [grantsL_nil]
      exact fun y hy => pairs_of.1 h2 i x hx y hy
    · unfold waitL
      rw [List.any_eq_false]
      intro y hy e
      exact pairs_of.1 h4 i x hx y hy (by simpa using e)
    · obtain ⟨hi, e⟩ := List.getElem?_eq_some_iff.1 hx
      exact h5 (W.take i) x (W.drop (i + 1)) (by rw [← e, ← List.drop_eq_getElem_cons hi, List.take_append_drop])
theorem grants_more {x : TLock} {H H' P P' : List TLock} (h : grantsL x H P = false) (h1 : ∀ y ∈ H, y ∈ H') (h2 : ∀ y ∈ P, y ∈ P') : grantsL x H' P' = false := by
  unfold grantsL at *
  rw [Bool.and_eq_false_iff, Bool.not_eq_false', Bool.not_eq_false', List.any_eq_true, List.any_eq_true] at *
  rcases h with ⟨y, hy, e⟩ | ⟨y, hy, e⟩
  · exact .inl ⟨y, h1 y hy, e⟩
  · exact .inr ⟨y, h2 y hy, e⟩
theorem grants_true {x : TLock} {H P : List TLock} (h : grantsL x H P = true) : (∀ y ∈ H, againstB x y = false) ∧ ∀ y ∈ P, againstB x y = false := by
  unfold grantsL at h
  simpa [List.any_eq_false] using h
theorem TabP.grant {H W : List TLock} (h : TabP H W) {x : TLock} (hm : mayB x = true) (hg : ∀ y ∈ H, againstB x y = false) : TabP (H ++ [x]) W where
  mayH y hy := by
    rcases List.mem_append.1 hy with hy | hy
    · exact h.mayH y hy
    · rw [List.mem_singleton] at hy; subst hy; exact hm
  held := List.pairwise_append.2 ⟨h.held, List.pairwise_singleton _ _, fun a ha b hb => by rw [List.mem_singleton] at hb; subst hb; exact hg a ha⟩
  mayW := h.mayW
  one := h.one
  wait P y S e := grants_more (h.wait P y S e) (fun z hz => List.mem_append_left _ hz) fun _ hz => hz
theorem TabP.queue {H W : List TLock} (h : TabP H W) {x : TLock} (hm : mayB x = true) (hw : ∀ y ∈ W, y.Tx ≠ x.Tx) (hg : grantsL x H W = false) : TabP H (W ++ [x]) where
  mayH := h.mayH
  held := h.held
  mayW y hy := by
    rcases List.mem_append.1 hy with hy | hy
    · exact h.mayW y hy
    · rw [List.mem_singleton] at hy; subst hy; exact hm
  one := List.pairwise_append.2 ⟨h.one, List.pairwise_singleton _ _, fun a ha b hb => by rw [List.mem_singleton] at hb; subst hb; exact hw a ha⟩
  wait P y S e := by
    rcases List.eq_nil_or_concat S with rfl | ⟨S', z, rfl⟩
    · have h1 : W = P ∧ [x] = [y] := List.append_inj' e (by simp)
      obtain ⟨rfl, e2⟩ := h1
      cases e2; exact hg
    · have h1 : W = P ++ y :: S' ∧ [x] = [z] := List.append_inj' (by rw [e]; simp) (by simp)
      exact h.wait P y S' h1.1
theorem waitL_false {W : List TLock} {tx : Int} (h : waitL W tx = false) : ∀ y ∈ W, y.Tx ≠ tx := by
  unfold waitL at h
  rw [List.any_eq_false] at h
  exact fun y hy e => h y hy (by simpa using e)
theorem TabP.sub {H H' : List TLock} (h : TabP H []) (hs : H'.Sublist H) : TabP H' [] where
  mayH x hx := h.mayH x (hs.subset hx)
  held := h.held.sublist hs
  mayW x hx := by simp at hx
  one := .nil
  wait P x S e := by simp at e
theorem TabP.heldOnly {H W : List TLock} (h : TabP H W) : TabP H [] where
  mayH := h.mayH
  held := h.held
  mayW x hx := by simp at hx
  one := .nil
  wait P x S e := by simp at e
theorem serve_tab (A : List TLock) : ∀ (R G W : List TLock), TabP (A ++ G) W → (∀ x ∈ R, mayB x = true) → R.Pairwise (fun a b => a.Tx ≠ b.Tx) → (∀ y ∈ W, ∀ x ∈ R, y.Tx ≠ x.Tx) → TabP (A ++ (serveF A G W R).1) (serveF A G W R).2
  | [], G, W, h, _, _, _ => h
  | x :: R, G, W, h, h1, h2, h3 => by
    unfold serveF
    obtain ⟨p1, p2⟩ := List.pairwise_cons.1 h2
    by_cases hg : grantsL x (A ++ G) W = true
    · rw [if_pos hg]
      refine serve_tab A R (G ++ [x]) W (by rw [← List.append_assoc]; exact h.grant (h1 x (by simp)) (grants_true hg).1) (fun y hy => h1 y (by simp [hy])) p2 (fun y hy z hz => h3 y hy z (by simp [hz]))
    · rw [if_neg hg]
      refine serve_tab A R G (W ++ [x]) (h.queue (h1 x (by simp)) (fun y hy => h3 y hy x (by simp)) (by simpa using hg)) (fun y hy => h1 y (by simp [hy])) p2 (fun y hy z hz => ?_)
      rcases List.mem_append.1 hy with hy | hy
      · exact h3 y hy z (by simp [hz])
      · rw [List.mem_singleton] at hy; subst hy; exact p1 z hz
theorem serve_tab0 {H W A R : List TLock} (h : TabP H W) (hA : A.Sublist H) (hR : R.Sublist W) : TabP (A ++ (serveF A [] [] R).1) (serveF A [] [] R).2 :=
  serve_tab A R [] [] (by rw [List.append_nil]; exact h.heldOnly.sub hA) (fun x hx => h.mayW x (hR.subset hx)) (h.one.sublist hR) (fun y hy => by simp at hy)
/-- who has a key of two ranges: they meet -/
theorem both_meet {a b : TRange} {key : ByteArray} (ha : rHas a key = true) (hb : rHas b key = true) : meetsB a b = true := by
  unfold rHas at ha hb
  rw [Bool.and_eq_true] at ha hb
  obtain ⟨ra, ha⟩ := ha
  obtain ⟨rb, hb⟩ := hb
  unfold meetsB
  rw [ra, rb, Bool.true_and, Bool.true_and]
  unfold hasB at *
  simp only [Bool.and_eq_true, Bool.not_eq_true', Bool.or_eq_true] at ha hb ⊢
  cases h : bl b.From a.From with
  | false =>
    refine .inl ⟨rfl, ?_⟩
    rcases ha.2 with h2 | h2
    · exact .inl h2
    · exact .inr (bl_le_lt hb.1 h2)
  | true =>
    refine .inr ⟨bl_asymm h, ?_⟩
    rcases hb.2 with h2 | h2
    · exact .inl h2
    · exact .inr (bl_le_lt ha.1 h2)
theorem held_apart {n : Nat} {v : Nat → TLock} {W : List TLock} (h : TabP (lst n v) W) {i j : Nat} (hi : i < n) (hj : j < i) : againstB (v i) (v j) = false := by
  have := List.pairwise_iff_getElem.1 h.held j i (by rw [lst_len]; omega) (by rw [lst_len]; omega) hj
  rwa [lst_get, lst_get] at this
theorem blk_some {n m : Nat} {v w : Nat → TLock} (h : TabP (lst n v) (lst m w)) {i : Nat} (hi : i < m) : blkL (lst n v) (lst m w) i (w i) ≠ [] := by
  have hg := h.wait ((lst m w).take i) (w i) ((lst m w).drop (i + 1)) (by
    have : w i = (lst m w)[i]'(by rw [lst_len]; exact hi) := by rw [lst_get]
    rw [this, ← List.drop_eq_getElem_cons, List.take_append_drop])
  unfold blkL
  intro e
  rw [List.map_eq_nil_iff, List.filter_eq_nil_iff] at e
  unfold grantsL at hg
  rw [Bool.and_eq_false_iff, Bool.not_eq_false', Bool.not_eq_false', List.any_eq_true, List.any_eq_true] at hg
  rcases hg with ⟨y, hy, hx⟩ | ⟨y, hy, hx⟩
  · exact e y (List.mem_append_left _ hy) hx
  · exact e y (List.mem_append_right _ hy) hx
theorem oth_lt {n : Nat} {v : Nat → TLock} (hn : 0 < n) : (othL (lst n v) (v 0).Tx).length < n := by
  have h1 : (othL (lst n v) (v 0).Tx).length < (lst n v).length := by
    unfold othL
    refine List.length_filter_lt_length_iff_exists.2 ⟨v 0, lst_mem.2 ⟨0, hn, rfl⟩, by simp⟩
  rwa [lst_len] at h1
theorem oth_le (L : List TLock) (tx : Int) : (othL L tx).length ≤ L.length := List.length_filter_le ..
theorem oth_sub (L : List TLock) (tx : Int) : (othL L tx).Sublist L := List.filter_sublist
/-- where one waits, one holds -/
theorem held_some {H W : List TLock} (h : TabP H W) (hn : 0 < H.length + W.length) : 0 < H.length := by
  cases H with
  | cons x H => simp
  | nil =>
    cases W with
    | nil => simp at hn
    | cons x W => have := h.wait [] x W rfl; cases this
end Go.Proofs.YticcbbcgboddpaaC

set_option maxRecDepth 40000
namespace Go.Proofs.YticcbbcgboddpaaC
open Go Go.Ev Go.Proofs
variable {ρ : Type}
theorem head_ok (k : Nat) (κ : AV → Option ρ) : callP ctx (k + 300) n_law22_head [] κ = κ (.bool true) := by kernel_rfl
end Go.Proofs.YticcbbcgboddpaaC

set_option linter.unusedVariables false
set_option maxRecDepth 20000
namespace Go.Proofs.YticcbbcgboddpaaC
open Go Go.Ev Go.Proofs
variable {ρ : Type}
noncomputable def law22_LocksShared_h0 (k j : Nat) (l : (Sl TLock)) (x4 : Int) (κ : AV → Heap → Option ρ) : Option ρ := headAt ctx k n_law22_LocksShared 0 [.r, .r, .l, .r] j ⟨(envOf 54 [(0, .sl 5 l.n (rowOf eLock l.w) l.u), (3, .ref 0 0), (4, .int .i64 x4)]), [some (.box [.sl 5 0 (rowOf eLock (fun _ => zLock)) true, .sl 5 0 (rowOf eLock (fun _ => zLock)) true])]⟩ κ
noncomputable def law22_LocksShared_h1 (k j : Nat) (l : (Sl TLock)) (x4 : Int) (b0_0 : Sl TLock) (b0_1 : Sl TLock) (κ : AV → Heap → Option ρ) : Option ρ := headAt ctx k n_law22_LocksShared 0 [.r, .r, .l, .r] j ⟨(envOf 54 [(0, .sl 5 l.n (rowOf eLock l.w) l.u), (3, .ref 0 0), (4, .int .i64 x4)]), [some (.box [.sl 5 b0_0.n (rowOf eLock b0_0.w) false, .sl 5 b0_1.n (rowOf eLock b0_1.w) false])]⟩ κ
noncomputable def law22_LocksShared_r0 (k j1 : Nat) (l : (Sl TLock)) (x4 : Int) (κ : AV → Heap → Option ρ) (v : AV) : Option ρ := resAt ctx k n_law22_LocksShared 0 [.r, .r, .l, .r, .into j1, .r, .l, .r, .r, .l, .l] 1 [] ⟨(envOf 54 [(0, .sl 5 l.n (rowOf eLock l.w) l.u), (3, .ref 0 0), (4, .int .i64 x4), (5, .ref 1 0), (23, .ref 1 4), (24, .agg (eLock ⟨((l.w ((x4).toNat)).Tx), ⟨(((l.w ((x4).toNat)).R).From), (((l.w ((x4).toNat)).R).To), (((l.w ((x4).toNat)).R).End)⟩, false⟩)), (25, v)]), [some (.box [.sl 5 0 (rowOf eLock (fun _ => zLock)) true, .sl 5 0 (rowOf eLock (fun _ => zLock)) true]), some (.box (eLock ⟨((l.w ((x4).toNat)).Tx), ⟨(((l.w ((x4).toNat)).R).From), (((l.w ((x4).toNat)).R).To), (((l.w ((x4).toNat)).R).End)⟩, false⟩))]⟩ κ
noncomputable def law22_LocksShared_r1 (k : Nat) (l : (Sl TLock)) (x4 : Int) (x16 : Bool) (κ : AV → Heap → Option ρ) (v : AV) : Option ρ := resAt ctx k n_law22_LocksShared 0 [.r, .r, .r, .l] 0 [] ⟨(envOf 54 [(0, .sl 5 l.n (rowOf eLock l.w) l.u), (3, .ref 0 0), (4, .int .i64 x4), (16, .bool x16), (53, v)]), [some (.box [.sl 5 0 (rowOf eLock (fun _ => zLock)) true, .sl 5 0 (rowOf eLock (fun _ => zLock)) true])]⟩ κ
noncomputable def law22_LocksShared_r2 (k j1 : Nat) (l : (Sl TLock)) (x4 : Int) (b0_0 : Sl TLock) (b0_1 : Sl TLock) (κ : AV → Heap → Option ρ) (v : AV) : Option ρ := resAt ctx k n_law22_LocksShared 0 [.r, .r, .l, .r, .into j1, .r, .l, .r, .r, .l, .l] 1 [] ⟨(envOf 54 [(0, .sl 5 l.n (rowOf eLock l.w) l.u), (3, .ref 0 0), (4, .int .i64 x4), (5, .ref 1 0), (23, .ref 1 4), (24, .agg (eLock ⟨((l.w ((x4).toNat)).Tx), ⟨(((l.w ((x4).toNat)).R).From), (((l.w ((x4).toNat)).R).To), (((l.w ((x4).toNat)).R).End)⟩, false⟩)), (25, v)]), [some (.box [.sl 5 b0_0.n (rowOf eLock b0_0.w) false, .sl 5 b0_1.n (rowOf eLock b0_1.w) false]), some (.box (eLock ⟨((l.w ((x4).toNat)).Tx), ⟨(((l.w ((x4).toNat)).R).From), (((l.w ((x4).toNat)).R).To), (((l.w ((x4).toNat)).R).End)⟩, false⟩))]⟩ κ
noncomputable def law22_LocksShared_r3 (k : Nat) (l : (Sl TLock)) (x4 : Int) (b0_0 : Sl TLock) (b0_1 : Sl TLock) (x16 : Bool) (κ : AV → Heap → Option ρ) (v : AV) : Option ρ := resAt ctx k n_law22_LocksShared 0 [.r, .r, .r, .l] 0 [] ⟨(envOf 54 [(0, .sl 5 l.n (rowOf eLock l.w) l.u), (3, .ref 0 0), (4, .int .i64 x4), (16, .bool x16), (53, v)]), [some (.box [.sl 5 b0_0.n (rowOf eLock b0_0.w) false, .sl 5 b0_1.n (rowOf eLock b0_1.w) false])]⟩ κ
noncomputable def law22_LocksShared_r4 (k j1 : Nat) (l : (Sl TLock)) (r0 : Bool) (x4 : Int) (κ : AV → Heap → Option ρ) (v : AV) : Option ρ := resAt ctx k n_law22_LocksShared 0 [.r, .r, .l, .r, .into j1, .r, .l, .r, .r, .l, .r, .l, .l] 0 [] ⟨(envOf 54 [(0, .sl 5 l.n (rowOf eLock l.w) l.u), (3, .ref 0 0), (4, .int .i64 x4), (5, .ref 1 0), (23, .ref 1 4), (24, .agg (eLock ⟨((l.w ((x4).toNat)).Tx), ⟨(((l.w ((x4).toNat)).R).From), (((l.w ((x4).toNat)).R).To), (((l.w ((x4).toNat)).R).End)⟩, false⟩)), (25, .bool r0), (26, v)]), [some (.box [.sl 5 0 (rowOf eLock (fun _ => zLock)) true, .sl 5 0 (rowOf eLock (fun _ => zLock)) true]), some (.box (eLock ⟨((l.w ((x4).toNat)).Tx), ⟨(((l.w ((x4).toNat)).R).From), (((l.w ((x4).toNat)).R).To), (((l.w ((x4).toNat)).R).End)⟩, false⟩))]⟩ κ
noncomputable def law22_LocksShared_r5 (k j1 : Nat) (l : (Sl TLock)) (r0 : Bool) (x4 : Int) (κ : AV → Heap → Option ρ) (v : AV) : Option ρ := resAt ctx k n_law22_LocksShared 0 [.r, .r, .l, .r, .into j1, .r, .l, .r, .r, .r, .l] 2 [] ⟨(envOf 54 [(0, .sl 5 l.n (rowOf eLock l.w) l.u), (3, .ref 0 0), (4, .int .i64 x4), (5, .ref 1 0), (23, .ref 1 4), (24, .agg (eLock ⟨((l.w ((x4).toNat)).Tx), ⟨(((l.w ((x4).toNat)).R).From), (((l.w ((x4).toNat)).R).To), (((l.w ((x4).toNat)).R).End)⟩, false⟩)), (25, .bool r0), (28, .agg (eLocks zLocks)), (29, .agg (eLock ⟨((l.w ((x4).toNat)).Tx), ⟨(((l.w ((x4).toNat)).R).From), (((l.w ((x4).toNat)).R).To), (((l.w ((x4).toNat)).R).End)⟩, false⟩)), (30, v)]), [some (.box [.sl 5 0 (rowOf eLock (fun _ => zLock)) true, .sl 5 0 (rowOf eLock (fun _ => zLock)) true]), some (.box (eLock ⟨((l.w ((x4).toNat)).Tx), ⟨(((l.w ((x4).toNat)).R).From), (((l.w ((x4).toNat)).R).To), (((l.w ((x4).toNat)).R).End)⟩, false⟩))]⟩ κ
noncomputable def law22_LocksShared_r6 (k j1 : Nat) (l : (Sl TLock)) (r2 : Bool) (x4 : Int) (b0_0 : Sl TLock) (b0_1 : Sl TLock) (κ : AV → Heap → Option ρ) (v : AV) : Option ρ := resAt ctx k n_law22_LocksShared 0 [.r, .r, .l, .r, .into j1, .r, .l, .r, .r, .l, .r, .l, .l] 0 [] ⟨(envOf 54 [(0, .sl 5 l.n (rowOf eLock l.w) l.u), (3, .ref 0 0), (4, .int .i64 x4), (5, .ref 1 0), (23, .ref 1 4), (24, .agg (eLock ⟨((l.w ((x4).toNat)).Tx), ⟨(((l.w ((x4).toNat)).R).From), (((l.w ((x4).toNat)).R).To), (((l.w ((x4).toNat)).R).End)⟩, false⟩)), (25, .bool r2), (26, v)]), [some (.box [.sl 5 b0_0.n (rowOf eLock b0_0.w) false, .sl 5 b0_1.n (rowOf eLock b0_1.w) false]), some (.box (eLock ⟨((l.w ((x4).toNat)).Tx), ⟨(((l.w ((x4).toNat)).R).From), (((l.w ((x4).toNat)).R).To), (((l.w ((x4).toNat)).R).End)⟩, false⟩))]⟩ κ
noncomputable def law22_LocksShared_r7 (k j1 : Nat) (l : (Sl TLock)) (r2 : Bool) (x4 : Int) (b0_0 : Sl TLock) (b0_1 : Sl TLock) (κ : AV → Heap → Option ρ) (v : AV) : Option ρ := resAt ctx k n_law22_LocksShared 0 [.r, .r, .l, .r, .into j1, .r, .l, .r, .r, .r, .l] 2 [] ⟨(envOf 54 [(0, .sl 5 l.n (rowOf eLock l.w) l.u), (3, .ref 0 0), (4, .int .i64 x4), (5, .ref 1 0), (23, .ref 1 4), (24, .agg (eLock ⟨((l.w ((x4).toNat)).Tx), ⟨(((l.w ((x4).toNat)).R).From), (((l.w ((x4).toNat)).R).To), (((l.w ((x4).toNat)).R).End)⟩, false⟩)), (25, .bool r2), (28, .agg (eLocks ⟨⟨b0_0.n, b0_0.w, false⟩, ⟨b0_1.n, b0_1.w, false⟩⟩)), (29, .agg (eLock ⟨((l.w ((x4).toNat)).Tx), ⟨(((l.w ((x4).toNat)).R).From), (((l.w ((x4).toNat)).R).To), (((l.w ((x4).toNat)).R).End)⟩, false⟩)), (30, v)]), [some (.box [.sl 5 b0_0.n (rowOf eLock b0_0.w) false, .sl 5 b0_1.n (rowOf eLock b0_1.w) false]), some (.box (eLock ⟨((l.w ((x4).toNat)).Tx), ⟨(((l.w ((x4).toNat)).R).From), (((l.w ((x4).toNat)).R).To), (((l.w ((x4).toNat)).R).End)⟩, false⟩))]⟩ κ
noncomputable def law22_LocksShared_r8 (k j1 : Nat) (l : (Sl TLock)) (x4 : Int) (r5a : TLocks) (r5b : Bool) (r5c : Int) (κ : AV → Heap → Option ρ) (v : AV) : Option ρ := resAt ctx k n_law22_LocksShared 0 [.r, .r, .l, .r, .into j1, .r, .l, .r, .r, .r, .r, .r, .l, .l] 11 [(46, false), (40, false)] ⟨(envOf 54 [(0, .sl 5 l.n (rowOf eLock l.w) l.u), (3, .ref 0 0), (4, .int .i64 x4), (5, .ref 1 0), (6, .ref 2 0), (7, .bool r5b), (8, .int .i64 r5c), (34, .int .i64 r5c), (35, .bool (!decide (r5c = 0))), (38, .bool r5b), (39, .bool (!r5b)), (40, .bool (!r5b)), (41, .ref 2 1), (42, .sl 5 r5a.Waits.n (rowOf eLock r5a.Waits.w) false), (43, .int .i64 (r5a.Waits.n : Int)), (44, .bool (!decide ((r5a.Waits.n : Int) = 0))), (45, .bool (!decide ((r5a.Waits.n : Int) = 0))), (46, .bool (!decide ((r5a.Waits.n : Int) = 0))), (47, .agg (eLocks ⟨⟨r5a.Held.n, r5a.Held.w, false⟩, ⟨r5a.Waits.n, r5a.Waits.w, false⟩⟩)), (48, .agg (eLock ⟨((l.w ((x4).toNat)).Tx), ⟨(((l.w ((x4).toNat)).R).From), (((l.w ((x4).toNat)).R).To), (((l.w ((x4).toNat)).R).End)⟩, false⟩)), (49, v)]), [some (.box [.sl 5 0 (rowOf eLock (fun _ => zLock)) true, .sl 5 0 (rowOf eLock (fun _ => zLock)) true]), some (.box (eLock ⟨((l.w ((x4).toNat)).Tx), ⟨(((l.w ((x4).toNat)).R).From), (((l.w ((x4).toNat)).R).To), (((l.w ((x4).toNat)).R).End)⟩, false⟩)), some (.box [.sl 5 r5a.Held.n (rowOf eLock r5a.Held.w) false, .sl 5 r5a.Waits.n (rowOf eLock r5a.Waits.w) false])]⟩ κ
noncomputable def law22_LocksShared_r9 (k j1 : Nat) (l : (Sl TLock)) (x4 : Int) (b0_0 : Sl TLock) (b0_1 : Sl TLock) (r7a : TLocks) (r7b : Bool) (r7c : Int) (κ : AV → Heap → Option ρ) (v : AV) : Option ρ := resAt ctx k n_law22_LocksShared 0 [.r, .r, .l, .r, .into j1, .r, .l, .r, .r, .r, .r, .r, .l, .l] 11 [(46, false), (40, false)] ⟨(envOf 54 [(0, .sl 5 l.n (rowOf eLock l.w) l.u), (3, .ref 0 0), (4, .int .i64 x4), (5, .ref 1 0), (6, .ref 2 0), (7, .bool r7b), (8, .int .i64 r7c), (34, .int .i64 r7c), (35, .bool (!decide (r7c = 0))), (38, .bool r7b), (39, .bool (!r7b)), (40, .bool (!r7b)), (41, .ref 2 1), (42, .sl 5 r7a.Waits.n (rowOf eLock r7a.Waits.w) false), (43, .int .i64 (r7a.Waits.n : Int)), (44, .bool (!decide ((r7a.Waits.n : Int) = 0))), (45, .bool (!decide ((r7a.Waits.n : Int) = 0))), (46, .bool (!decide ((r7a.Waits.n : Int) = 0))), (47, .agg (eLocks ⟨⟨r7a.Held.n, r7a.Held.w, false⟩, ⟨r7a.Waits.n, r7a.Waits.w, false⟩⟩)), (48, .agg (eLock ⟨((l.w ((x4).toNat)).Tx), ⟨(((l.w ((x4).toNat)).R).From), (((l.w ((x4).toNat)).R).To), (((l.w ((x4).toNat)).R).End)⟩, false⟩)), (49, v)]), [some (.box [.sl 5 b0_0.n (rowOf eLock b0_0.w) false, .sl 5 b0_1.n (rowOf eLock b0_1.w) false]), some (.box (eLock ⟨((l.w ((x4).toNat)).Tx), ⟨(((l.w ((x4).toNat)).R).From), (((l.w ((x4).toNat)).R).To), (((l.w ((x4).toNat)).R).End)⟩, false⟩)), some (.box [.sl 5 r7a.Held.n (rowOf eLock r7a.Held.w) false, .sl 5 r7a.Waits.n (rowOf eLock r7a.Waits.w) false])]⟩ κ
theorem law22_LocksShared_h0_s (k j : Nat) (l : (Sl TLock)) (x4 : Int) (κ : AV → Heap → Option ρ) : law22_LocksShared_h0 k (j + 1) l x4 κ =
  (bif decide (x4 < (l.n : Int)) then
   (bif decide (x4 < 60) then
    (bif idxOK x4 l.n then
     callP ctx k n_law22_great [.agg (eLock ⟨((l.w ((x4).toNat)).Tx), ⟨(((l.w ((x4).toNat)).R).From), (((l.w ((x4).toNat)).R).To), (((l.w ((x4).toNat)).R).End)⟩, false⟩)] (law22_LocksShared_r0 k j l x4 κ)
    else none)
   else callP ctx k n_law22_head [] (law22_LocksShared_r1 k l x4 (decide (x4 < 60)) κ))
  else callP ctx k n_law22_head [] (law22_LocksShared_r1 k l x4 false κ)) := by kernel_rfl
theorem law22_LocksShared_h1_s (k j : Nat) (l : (Sl TLock)) (x4 : Int) (b0_0 : Sl TLock) (b0_1 : Sl TLock) (κ : AV → Heap → Option ρ) : law22_LocksShared_h1 k (j + 1) l x4 b0_0 b0_1 κ =
  (bif decide (x4 < (l.n : Int)) then
   (bif decide (x4 < 60) then
    (bif idxOK x4 l.n then
     callP ctx k n_law22_great [.agg (eLock ⟨((l.w ((x4).toNat)).Tx), ⟨(((l.w ((x4).toNat)).R).From), (((l.w ((x4).toNat)).R).To), (((l.w ((x4).toNat)).R).End)⟩, false⟩)] (law22_LocksShared_r2 k j l x4 b0_0 b0_1 κ)
    else none)
   else callP ctx k n_law22_head [] (law22_LocksShared_r3 k l x4 b0_0 b0_1 (decide (x4 < 60)) κ))
  else callP ctx k n_law22_head [] (law22_LocksShared_r3 k l x4 b0_0 b0_1 false κ)) := by kernel_rfl
theorem law22_LocksShared_r0_s (k j1 : Nat) (l : (Sl TLock)) (x4 : Int) (r0 : Bool) (κ : AV → Heap → Option ρ) : law22_LocksShared_r0 k j1 l x4 κ (.bool r0) =
  (bif r0 then
   callP ctx k n_law22_head [] (law22_LocksShared_r4 k j1 l r0 x4 κ)
  else callP ctx k n_locks_Ask [.agg (eLocks zLocks), .agg (eLock ⟨((l.w ((x4).toNat)).Tx), ⟨(((l.w ((x4).toNat)).R).From), (((l.w ((x4).toNat)).R).To), (((l.w ((x4).toNat)).R).End)⟩, false⟩)] (law22_LocksShared_r5 k j1 l r0 x4 κ)) := by kernel_rfl
theorem law22_LocksShared_r1_s (k : Nat) (l : (Sl TLock)) (x4 : Int) (x16 : Bool) (r1 : Bool) (κ : AV → Heap → Option ρ) : law22_LocksShared_r1 k l x4 x16 κ (.bool r1) =
  κ (.bool r1) [some (.box [.sl 5 0 (rowOf eLock (fun _ => zLock)) true, .sl 5 0 (rowOf eLock (fun _ => zLock)) true])] := by kernel_rfl
theorem law22_LocksShared_r2_s (k j1 : Nat) (l : (Sl TLock)) (x4 : Int) (b0_0 : Sl TLock) (b0_1 : Sl TLock) (r2 : Bool) (κ : AV → Heap → Option ρ) : law22_LocksShared_r2 k j1 l x4 b0_0 b0_1 κ (.bool r2) =
  (bif r2 then
   callP ctx k n_law22_head [] (law22_LocksShared_r6 k j1 l r2 x4 b0_0 b0_1 κ)
  else callP ctx k n_locks_Ask [.agg (eLocks ⟨⟨b0_0.n, b0_0.w, false⟩, ⟨b0_1.n, b0_1.w, false⟩⟩), .agg (eLock ⟨((l.w ((x4).toNat)).Tx), ⟨(((l.w ((x4).toNat)).R).From), (((l.w ((x4).toNat)).R).To), (((l.w ((x4).toNat)).R).End)⟩, false⟩)] (law22_LocksShared_r7 k j1 l r2 x4 b0_0 b0_1 κ)) := by kernel_rfl
theorem law22_LocksShared_r3_s (k : Nat) (l : (Sl TLock)) (x4 : Int) (b0_0 : Sl TLock) (b0_1 : Sl TLock) (x16 : Bool) (r3 : Bool) (κ : AV → Heap → Option ρ) : law22_LocksShared_r3 k l x4 b0_0 b0_1 x16 κ (.bool r3) =
  κ (.bool r3) [some (.box [.sl 5 b0_0.n (rowOf eLock b0_0.w) false, .sl 5 b0_1.n (rowOf eLock b0_1.w) false])] := by kernel_rfl
theorem law22_LocksShared_r4_s (k j1 : Nat) (l : (Sl TLock)) (r0 : Bool) (x4 : Int) (r4 : Bool) (κ : AV → Heap → Option ρ) : law22_LocksShared_r4 k j1 l r0 x4 κ (.bool r4) =
  κ (.bool r4) [some (.box [.sl 5 0 (rowOf eLock (fun _ => zLock)) true, .sl 5 0 (rowOf eLock (fun _ => zLock)) true]), some (.box (eLock ⟨((l.w ((x4).toNat)).Tx), ⟨(((l.w ((x4).toNat)).R).From), (((l.w ((x4).toNat)).R).To), (((l.w ((x4).toNat)).R).End)⟩, false⟩))] := by kernel_rfl
theorem law22_LocksShared_r5_s (k j1 : Nat) (l : (Sl TLock)) (r0 : Bool) (x4 : Int) (r5a : TLocks) (r5b : Bool) (r5c : Int) (κ : AV → Heap → Option ρ) : law22_LocksShared_r5 k j1 l r0 x4 κ (.tup [.agg (eLocks ⟨⟨r5a.Held.n, r5a.Held.w, false⟩, ⟨r5a.Waits.n, r5a.Waits.w, false⟩⟩), .bool r5b, .int .i64 r5c]) =
  (bif !decide (r5c = 0) then
   (bif !decide (r5c = 2) then
    κ (.bool false) [some (.box [.sl 5 0 (rowOf eLock (fun _ => zLock)) true, .sl 5 0 (rowOf eLock (fun _ => zLock)) true]), some (.box (eLock ⟨((l.w ((x4).toNat)).Tx), ⟨(((l.w ((x4).toNat)).R).From), (((l.w ((x4).toNat)).R).To), (((l.w ((x4).toNat)).R).End)⟩, false⟩)), some (.box [.sl 5 r5a.Held.n (rowOf eLock r5a.Held.w) false, .sl 5 r5a.Waits.n (rowOf eLock r5a.Waits.w) false])]
   else law22_LocksShared_h0 k j1 l (wi64 (x4 + 1)) κ)
  else (bif !r5b then
    κ (.bool false) [some (.box [.sl 5 0 (rowOf eLock (fun _ => zLock)) true, .sl 5 0 (rowOf eLock (fun _ => zLock)) true]), some (.box [.sl 5 r5a.Held.n (rowOf eLock r5a.Held.w) false, .sl 5 r5a.Waits.n (rowOf eLock r5a.Waits.w) false])]
   else (bif !decide ((r5a.Waits.n : Int) = 0) then
     κ (.bool false) [some (.box [.sl 5 0 (rowOf eLock (fun _ => zLock)) true, .sl 5 0 (rowOf eLock (fun _ => zLock)) true]), some (.box [.sl 5 r5a.Held.n (rowOf eLock r5a.Held.w) false, .sl 5 r5a.Waits.n (rowOf eLock r5a.Waits.w) false])]
    else callP ctx k n_locks_Holds [.agg (eLocks ⟨⟨r5a.Held.n, r5a.Held.w, false⟩, ⟨r5a.Waits.n, r5a.Waits.w, false⟩⟩), .agg (eLock ⟨((l.w ((x4).toNat)).Tx), ⟨(((l.w ((x4).toNat)).R).From), (((l.w ((x4).toNat)).R).To), (((l.w ((x4).toNat)).R).End)⟩, false⟩)] (law22_LocksShared_r8 k j1 l x4 r5a r5b r5c κ)))) := by kernel_rfl
theorem law22_LocksShared_r6_s (k j1 : Nat) (l : (Sl TLock)) (r2 : Bool) (x4 : Int) (b0_0 : Sl TLock) (b0_1 : Sl TLock) (r6 : Bool) (κ : AV → Heap → Option ρ) : law22_LocksShared_r6 k j1 l r2 x4 b0_0 b0_1 κ (.bool r6) =
  κ (.bool r6) [some (.box [.sl 5 b0_0.n (rowOf eLock b0_0.w) false, .sl 5 b0_1.n (rowOf eLock b0_1.w) false]), some (.box (eLock ⟨((l.w ((x4).toNat)).Tx), ⟨(((l.w ((x4).toNat)).R).From), (((l.w ((x4).toNat)).R).To), (((l.w ((x4).toNat)).R).End)⟩, false⟩))] := by kernel_rfl
theorem law22_LocksShared_r7_s (k j1 : Nat) (l : (Sl TLock)) (r2 : Bool) (x4 : Int) (b0_0 : Sl TLock) (b0_1 : Sl TLock) (r7a : TLocks) (r7b : Bool) (r7c : Int) (κ : AV → Heap → Option ρ) : law22_LocksShared_r7 k j1 l r2 x4 b0_0 b0_1 κ (.tup [.agg (eLocks ⟨⟨r7a.Held.n, r7a.Held.w, false⟩, ⟨r7a.Waits.n, r7a.Waits.w, false⟩⟩), .bool r7b, .int .i64 r7c]) =
  (bif !decide (r7c = 0) then
   (bif !decide (r7c = 2) then
    κ (.bool false) [some (.box [.sl 5 b0_0.n (rowOf eLock b0_0.w) false, .sl 5 b0_1.n (rowOf eLock b0_1.w) false]), some (.box (eLock ⟨((l.w ((x4).toNat)).Tx), ⟨(((l.w ((x4).toNat)).R).From), (((l.w ((x4).toNat)).R).To), (((l.w ((x4).toNat)).R).End)⟩, false⟩)), some (.box [.sl 5 r7a.Held.n (rowOf eLock r7a.Held.w) false, .sl 5 r7a.Waits.n (rowOf eLock r7a.Waits.w) false])]
   else law22_LocksShared_h1 k j1 l (wi64 (x4 + 1)) ⟨b0_0.n, b0_0.w, false⟩ ⟨b0_1.n, b0_1.w, false⟩ κ)
  else (bif !r7b then
    κ (.bool false) [some (.box [.sl 5 b0_0.n (rowOf eLock b0_0.w) false, .sl 5 b0_1.n (rowOf eLock b0_1.w) false]), some (.box [.sl 5 r7a.Held.n (rowOf eLock r7a.Held.w) false, .sl 5 r7a.Waits.n (rowOf eLock r7a.Waits.w) false])]
   else (bif !decide ((r7a.Waits.n : Int) = 0) then
     κ (.bool false) [some (.box [.sl 5 b0_0.n (rowOf eLock b0_0.w) false, .sl 5 b0_1.n (rowOf eLock b0_1.w) false]), some (.box [.sl 5 r7a.Held.n (rowOf eLock r7a.Held.w) false, .sl 5 r7a.Waits.n (rowOf eLock r7a.Waits.w) false])]
    else callP ctx k n_locks_Holds [.agg (eLocks ⟨⟨r7a.Held.n, r7a.Held.w, false⟩, ⟨r7a.Waits.n, r7a.Waits.w, false⟩⟩), .agg (eLock ⟨((l.w ((x4).toNat)).Tx), ⟨(((l.w ((x4).toNat)).R).From), (((l.w ((x4).toNat)).R).To), (((l.w ((x4).toNat)).R).End)⟩, false⟩)] (law22_LocksShared_r9 k j1 l x4 b0_0 b0_1 r7a r7b r7c κ)))) := by kernel_rfl
theorem law22_LocksShared_r8_s (k j1 : Nat) (l : (Sl TLock)) (x4 : Int) (r5a : TLocks) (r5b : Bool) (r5c : Int) (r8 : Bool) (κ : AV → Heap → Option ρ) : law22_LocksShared_r8 k j1 l x4 r5a r5b r5c κ (.bool r8) =
  (bif !r8 then
   κ (.bool false) [some (.box [.sl 5 0 (rowOf eLock (fun _ => zLock)) true, .sl 5 0 (rowOf eLock (fun _ => zLock)) true]), some (.box [.sl 5 r5a.Held.n (rowOf eLock r5a.Held.w) false, .sl 5 r5a.Waits.n (rowOf eLock r5a.Waits.w) false])]
  else law22_LocksShared_h1 k j1 l (wi64 (x4 + 1)) ⟨r5a.Held.n, r5a.Held.w, false⟩ ⟨r5a.Waits.n, r5a.Waits.w, false⟩ κ) := by kernel_rfl
theorem law22_LocksShared_r9_s (k j1 : Nat) (l : (Sl TLock)) (x4 : Int) (b0_0 : Sl TLock) (b0_1 : Sl TLock) (r7a : TLocks) (r7b : Bool) (r7c : Int) (r9 : Bool) (κ : AV → Heap → Option ρ) : law22_LocksShared_r9 k j1 l x4 b0_0 b0_1 r7a r7b r7c κ (.bool r9) =
  (bif !r9 then
   κ (.bool false) [some (.box [.sl 5 b0_0.n (rowOf eLock b0_0.w) false, .sl 5 b0_1.n (rowOf eLock b0_1.w) false]), some (.box [.sl 5 r7a.Held.n (rowOf eLock r7a.Held.w) false, .sl 5 r7a.Waits.n (rowOf eLock r7a.Waits.w) false])]
  else law22_LocksShared_h1 k j1 l (wi64 (x4 + 1)) ⟨r7a.Held.n, r7a.Held.w, false⟩ ⟨r7a.Waits.n, r7a.Waits.w, false⟩ κ) := by kernel_rfl
theorem law22_LocksShared_e (k : Nat) (l : (Sl TLock)) (κ : AV → Heap → Option ρ) : evalF ctx (k + 1) n_law22_LocksShared [.sl 5 l.n (rowOf eLock l.w) l.u] [] κ =
  law22_LocksShared_h0 k k l 0 κ := by kernel_rfl
end Go.Proofs.YticcbbcgboddpaaC

set_option linter.unusedVariables false
set_option linter.unusedSimpArgs false
set_option maxRecDepth 20000
namespace Go.Proofs.YticcbbcgboddpaaC
open Go Go.Ev Go.Proofs
/-- from an answer told for any rest to the answer -/
theorem told_true {c : Ctx} {K f : Nat} {xs : List AV} (h : ∀ (κ : AV → Heap → Option Bool), (∀ b H, κ (.bool b) H = some b) → evalF c K f xs [] κ = some true) : evalF c K f xs [] (fun v _ => some v) = some (.bool true) := by
  have h := h (fun v _ => match v with | .bool b => some b | _ => none) (fun _ _ => rfl)
  rw [evalF_bind] at h ⊢
  obtain ⟨r, H1, hr, hk⟩ := on_some h
  unfold Call1.on
  rw [hr]
  cases r <;> first | (cases hk; rfl) | cases hk
theorem any_lst {α : Type} (n : Nat) (w : Nat → α) (P : α → Bool) : anyN n (fun i => P (w i)) = (lst n w).any P := by
  unfold anyN lst
  rw [List.any_map]; rfl
def Good (s : TLocks) (i : Nat) : Prop := s.Waits.n = 0 ∧ s.Held.n ≤ i ∧ ∀ x ∈ lst s.Held.n s.Held.w, x.X = false ∧ mayB x = true
theorem shared_ok {a b : TLock} (ha : a.X = false) (hb : b.X = false) : againstB a b = false := by
  unfold againstB
  rw [ha, hb]; cases decide (a.Tx = b.Tx) <;> rfl
theorem any_none {n : Nat} {P : Nat → Bool} (h : ∀ i, i < n → P i = false) : anyN n P = false := by
  cases hh : anyN n P with
  | false => rfl
  | true =>
    obtain ⟨i, hi, hp⟩ := anyN_true.1 hh
    rw [h i hi] at hp; cases hp
theorem good_at {s : TLocks} {i : Nat} (h : Good s i) {j : Nat} (hj : j < s.Held.n) : (s.Held.w j).X = false ∧ mayB (s.Held.w j) = true := h.2.2 _ (lst_mem.2 ⟨j, hj, rfl⟩)
theorem good_grants {s : TLocks} {i : Nat} (h : Good s i) {a : TLock} (ha : a.X = false) {j : Nat} (hj : j ≤ s.Held.n) (m : Nat) (hm : m = 0) (w : Nat → TLock) : grantsB a j s.Held.w m w = true := by
  subst hm
  unfold grantsB
  rw [any_none (fun i hi => shared_ok ha (good_at h (by omega)).1), any_none (fun i hi => by omega)]; rfl
theorem good_check {s : TLocks} {i : Nat} (h : Good s i) (hi : i ≤ 60) : checkB s = true := by
  have h1 := h.1
  have h2 := h.2.1
  unfold checkB
  rw [decide_eq_true (by omega), h1, Bool.true_and, Bool.and_eq_true]
  refine ⟨allN_true.2 fun j hj => ?_, allN_true.2 fun j hj => by omega⟩
  unfold heldP
  rw [(good_at h hj).2, good_grants h (good_at h hj).1 (by omega) 0 rfl]; rfl
theorem covers_self {a : TLock} (ha : a.X = false) (hm : mayB a = true) : coversB a a = true := by
  have hr : rRight a.R = true := by
    unfold mayB at hm
    simp only [Bool.and_eq_true] at hm
    exact hm.2
  unfold coversB withinB
  rw [dec_int, ha, hr, bl_irrefl, bl_irrefl]
  cases a.R.End <;> rfl
theorem step_ok {s : TLocks} {i : Nat} (h : Good s i) (hi : i < 60) {a : TLock} (ha : a.X = false) :
    (mayB a = false → askE s a = 2) ∧ (mayB a = true → askE s a = 0 ∧ askG s a = true ∧ askW s a = [] ∧
      ∀ n v m w u u', lst n v = askH s a → lst m w = askW s a → Good ⟨⟨n, v, u⟩, ⟨m, w, u'⟩⟩ (i + 1) ∧ coveredB ⟨⟨n, v, u⟩, ⟨m, w, u'⟩⟩ a = true) := by
  have hc := good_check h (by omega)
  have h1 := h.1
  have h2 := h.2.1
  constructor
  · intro hm
    unfold askE
    rw [hc, hm]; rfl
  · intro hm
    have hE : askE s a = 0 := by
      unfold askE
      rw [hc, hm, any_none (fun i hi => by omega), if_neg (by decide), if_neg (by decide), if_neg (by decide), if_neg (show ¬ s.Held.n + s.Waits.n = 200 by omega)]
      split <;> rfl
    have hok : okB s a = true := good_grants h ha (Nat.le_refl _) _ h1 _
    have hW : askW s a = [] := by
      unfold askW
      rw [hE, if_neg (show ¬ ((0 : Int) ≠ 0) by decide), hok, Bool.or_true, if_pos rfl]
      unfold Sl.l; rw [h1]; rfl
    refine ⟨hE, by unfold askG; rw [hE, hok, dec_int, Bool.or_true]; rfl, hW, fun n v m w u u' hn hw => ?_⟩
    rw [hW] at hw
    have hm0 : m = 0 := by have := congrArg List.length hw; rw [lst_len] at this; exact this
    have hH : askH s a = if coveredB s a = true then s.Held.l else s.Held.l ++ [a] := by
      unfold askH
      rw [hE, if_neg (show ¬ ((0 : Int) ≠ 0) by decide), hok, Bool.and_true]
      cases coveredB s a <;> rfl
    rw [hH] at hn
    have hlen : n ≤ s.Held.n + 1 := by
      have := congrArg List.length hn
      rw [lst_len] at this
      split at this <;> simp [lst_len] at this <;> omega
    refine ⟨⟨hm0, by show n ≤ i + 1; omega, fun x hx => ?_⟩, ?_⟩
    · have hx : x ∈ lst n v := hx
      rw [hn] at hx
      split at hx
      · exact h.2.2 x hx
      · rcases List.mem_append.1 hx with hx | hx
        · exact h.2.2 x hx
        · rw [List.mem_singleton.1 hx]; exact ⟨ha, hm⟩
    · show anyN n (fun i => coversB (v i) a) = true
      rw [any_lst n v (fun x => coversB x a), hn]
      split
      · rename_i hcv
        unfold coveredB at hcv
        rw [any_lst s.Held.n s.Held.w (fun x => coversB x a)] at hcv
        exact hcv
      · rw [List.any_append]
        simp [covers_self ha hm]
theorem great_ok (k : Nat) (a : TLock) (hk : 1 ≤ k) {ρ : Type} (κ : AV → Option ρ) : callP ctx k n_law22_great [.agg (eLock a)] κ = κ (.bool (decide (2000 < a.R.From.size) || decide (2000 < a.R.To.size))) := by
  obtain ⟨k, rfl⟩ : ∃ k', k = k' + 1 := ⟨k - 1, by omega⟩
  rw [callP_eq, law22_great_e]
  rw [show decide (2000 < (a.R.From.size : Int)) = decide (2000 < a.R.From.size) from decide_eq_decide.2 (by omega), show decide (2000 < (a.R.To.size : Int)) = decide (2000 < a.R.To.size) from decide_eq_decide.2 (by omega)]
  cases decide (2000 < a.R.From.size) <;> rfl
theorem locksShared_pure (l : Sl TLock) (h0 : (SSl 56 SLock) l) : ∃ k, evalF ctx k n_law22_LocksShared [.sl 5 l.n (rowOf eLock l.w) l.u] [] (fun v _ => some v) = some (.bool true) := by
  suffices h : ∀ K, l.n + 1000 ≤ K → ∀ (κ : AV → Heap → Option Bool), (∀ b H, κ (.bool b) H = some b) → evalF ctx (K + 1) n_law22_LocksShared [.sl 5 l.n (rowOf eLock l.w) l.u] [] κ = some true by
    exact ⟨l.n + 1000 + 1, told_true (h (l.n + 1000) (Nat.le_refl _))⟩
  intro K hK κ hκ
  have hh : ∀ κ : AV → Option Bool, callP ctx K n_law22_head [] κ = κ (.bool true) := by
    intro κ
    obtain ⟨K0, rfl⟩ : ∃ K0, K = K0 + 300 := ⟨K - 300, by omega⟩
    exact head_ok K0 κ
  refine (law22_LocksShared_e K l κ).trans ?_
  have one : ∀ j i (s : TLocks), i ≤ l.n → l.n < i + j → Good s i → law22_LocksShared_h1 K j l (i : Int) s.Held s.Waits κ = some true := by
    intro j
    induction j with
    | zero => intro i s h1 h2; omega
    | succ j ih =>
      intro i s h1 h2 hg
      have g1 := hg.1
      have g2 := hg.2.1
      rw [law22_LocksShared_h1_s]
      by_cases hi : i < l.n
      · rw [dec_t (show (i : Int) < (l.n : Int) by omega), cond_true]
        by_cases h60 : i < 60
        · rw [dec_t (show (i : Int) < 60 by omega), cond_true, idx_ok (by omega) (by omega), cond_true]
          simp only [Int.toNat_natCast]
          generalize hA : (⟨(l.w i).Tx, ⟨(l.w i).R.From, (l.w i).R.To, (l.w i).R.End⟩, false⟩ : TLock) = A
          have hAX : A.X = false := by rw [← hA]
          rw [great_ok K A (by omega)]
          cases hgr : (decide (2000 < A.R.From.size) || decide (2000 < A.R.To.size)) with
          | true =>
            rw [law22_LocksShared_r2_s, cond_true, hh, law22_LocksShared_r6_s, hκ]
          | false =>
            rw [law22_LocksShared_r2_s, cond_false, Int.toNat_natCast, hA]
            obtain ⟨n, v, m, w, q1, q2, q3⟩ := Ask_ok (ρ := Bool) K ⟨⟨s.Held.n, s.Held.w, false⟩, ⟨s.Waits.n, s.Waits.w, false⟩⟩ A (by show s.Held.n ≤ _; omega) (by show s.Waits.n ≤ _; omega) (by show s.Held.n + s.Waits.n + 80 ≤ K; omega)
            have hg' : Good ⟨⟨s.Held.n, s.Held.w, false⟩, ⟨s.Waits.n, s.Waits.w, false⟩⟩ i := hg
            obtain ⟨e1, e2⟩ := step_ok hg' h60 hAX
            rw [q3]
            refine (law22_LocksShared_r7_s K j l false (i : Int) s.Held s.Waits ⟨⟨n, v, false⟩, ⟨m, w, false⟩⟩ _ _ κ).trans ?_
            cases hm : mayB A with
            | false =>
              rw [e1 hm, dec_f (show ¬ (2 : Int) = 0 by decide), Bool.not_false, cond_true, dec_int, Bool.not_true, cond_false, wi64_succ (by omega)]
              exact ih (i + 1) ⟨⟨s.Held.n, s.Held.w, false⟩, ⟨s.Waits.n, s.Waits.w, false⟩⟩ hi (by omega) ⟨g1, by show s.Held.n ≤ i + 1; omega, hg.2.2⟩
            | true =>
              obtain ⟨f1, f2, f3, f4⟩ := e2 hm
              obtain ⟨f5, f6⟩ := f4 n v m w false false q1 q2
              have hm0 : m = 0 := f5.1
              have hn1 : n ≤ i + 1 := f5.2.1
              rw [f1, f2, dec_int, Bool.not_true, cond_false, cond_false, dec_t (show (m : Int) = 0 by omega), Bool.not_true, cond_false, Int.toNat_natCast, hA]
              refine (locks_Holds_ok K ⟨⟨n, v, false⟩, ⟨m, w, false⟩⟩ A (by show n ≤ _; omega) (by show m ≤ _; omega) (by show n + m + 60 ≤ K; omega) _).trans ?_
              rw [good_check f5 (by omega), hm, f6]
              refine (law22_LocksShared_r9_s K j l (i : Int) s.Held s.Waits ⟨⟨n, v, false⟩, ⟨m, w, false⟩⟩ _ _ true κ).trans ?_
              rw [Bool.not_true, cond_false, wi64_succ (by omega)]
              exact ih (i + 1) ⟨⟨n, v, false⟩, ⟨m, w, false⟩⟩ hi (by omega) f5
        · rw [dec_f (show ¬ (i : Int) < 60 by omega), cond_false, hh, law22_LocksShared_r3_s, hκ]
      · rw [dec_f (show ¬ (i : Int) < (l.n : Int) by omega), cond_false, hh, law22_LocksShared_r3_s, hκ]
  have zero : ∀ j i, i ≤ l.n → l.n < i + j → law22_LocksShared_h0 K j l (i : Int) κ = some true := by
    intro j
    induction j with
    | zero => intro i h1 h2; omega
    | succ j ih =>
      intro i h1 h2
      have hg : Good zLocks i := ⟨rfl, Nat.zero_le _, fun x hx => by cases hx⟩
      rw [law22_LocksShared_h0_s]
      by_cases hi : i < l.n
      · rw [dec_t (show (i : Int) < (l.n : Int) by omega), cond_true]
        by_cases h60 : i < 60
        · rw [dec_t (show (i : Int) < 60 by omega), cond_true, idx_ok (by omega) (by omega), cond_true]
          simp only [Int.toNat_natCast]
          generalize hA : (⟨(l.w i).Tx, ⟨(l.w i).R.From, (l.w i).R.To, (l.w i).R.End⟩, false⟩ : TLock) = A
          have hAX : A.X = false := by rw [← hA]
          rw [great_ok K A (by omega)]
          cases hgr : (decide (2000 < A.R.From.size) || decide (2000 < A.R.To.size)) with
          | true =>
            rw [law22_LocksShared_r0_s, cond_true, hh, law22_LocksShared_r4_s, hκ]
          | false =>
            rw [law22_LocksShared_r0_s, cond_false, Int.toNat_natCast, hA]
            obtain ⟨n, v, m, w, q1, q2, q3⟩ := Ask_ok (ρ := Bool) K zLocks A (by decide) (by decide) (by show 0 + 0 + 80 ≤ K; omega)
            obtain ⟨e1, e2⟩ := step_ok hg h60 hAX
            rw [q3]
            refine (law22_LocksShared_r5_s K j l false (i : Int) ⟨⟨n, v, false⟩, ⟨m, w, false⟩⟩ _ _ κ).trans ?_
            cases hm : mayB A with
            | false =>
              rw [e1 hm, dec_f (show ¬ (2 : Int) = 0 by decide), Bool.not_false, cond_true, dec_int, Bool.not_true, cond_false, wi64_succ (by omega)]
              exact ih (i + 1) hi (by omega)
            | true =>
              obtain ⟨f1, f2, f3, f4⟩ := e2 hm
              obtain ⟨f5, f6⟩ := f4 n v m w false false q1 q2
              have hm0 : m = 0 := f5.1
              have hn1 : n ≤ i + 1 := f5.2.1
              rw [f1, f2, dec_int, Bool.not_true, cond_false, cond_false, dec_t (show (m : Int) = 0 by omega), Bool.not_true, cond_false, Int.toNat_natCast, hA]
              refine (locks_Holds_ok K ⟨⟨n, v, false⟩, ⟨m, w, false⟩⟩ A (by show n ≤ _; omega) (by show m ≤ _; omega) (by show n + m + 60 ≤ K; omega) _).trans ?_
              rw [good_check f5 (by omega), hm, f6]
              refine (law22_LocksShared_r8_s K j l (i : Int) ⟨⟨n, v, false⟩, ⟨m, w, false⟩⟩ _ _ true κ).trans ?_
              rw [Bool.not_true, cond_false, wi64_succ (by omega)]
              exact one j (i + 1) ⟨⟨n, v, false⟩, ⟨m, w, false⟩⟩ hi (by omega) f5
        · rw [dec_f (show ¬ (i : Int) < 60 by omega), cond_false, hh, law22_LocksShared_r1_s, hκ]
      · rw [dec_f (show ¬ (i : Int) < (l.n : Int) by omega), cond_false, hh, law22_LocksShared_r1_s, hκ]
  exact zero K 0 (by omega) (by omega)
end Go.Proofs.YticcbbcgboddpaaC

set_option linter.unusedVariables false
set_option maxRecDepth 20000
namespace Go.Proofs.YticcbbcgboddpaaC
open Go Go.Ev Go.Proofs
variable {ρ : Type}
noncomputable def law22_LocksApart_h0 (k j : Nat) (l : (Sl TCall)) (key : ByteArray) (x6 : Int) (κ : AV → Heap → Option ρ) : Option ρ := headAt ctx k n_law22_LocksApart 0 [.r, .r, .r, .l, .r] j ⟨(envOf 203 [(0, .sl 6 l.n (rowOf eCall l.w) l.u), (1, .str key), (5, .ref 0 0), (6, .int .i64 x6)]), [some (.box [.sl 5 0 (rowOf eLock (fun _ => zLock)) true, .sl 5 0 (rowOf eLock (fun _ => zLock)) true])]⟩ κ
noncomputable def law22_LocksApart_h1 (k j : Nat) (κ : AV → Heap → Option ρ) : Option ρ := headAt ctx k n_law22_LocksApart 0 [.r, .r, .r, .r, .l, .r] j ⟨(envOf 203 [(5, .ref 0 0), (16, .int .i64 0)]), [some (.box [.sl 5 0 (rowOf eLock (fun _ => zLock)) true, .sl 5 0 (rowOf eLock (fun _ => zLock)) true])]⟩ κ
noncomputable def law22_LocksApart_h2 (k j1 j : Nat) (l : (Sl TCall)) (key : ByteArray) (b0_0 : Sl TLock) (b0_1 : Sl TLock) (x10 : Int) (x6 : Int) (κ : AV → Heap → Option ρ) : Option ρ := headAt ctx k n_law22_LocksApart 0 [.r, .r, .r, .l, .r, .into j1, .r, .l, .r, .r, .r, .r, .r, .r, .r, .l, .r] j ⟨(envOf 203 [(0, .sl 6 l.n (rowOf eCall l.w) l.u), (1, .str key), (5, .ref 0 0), (6, .int .i64 x6), (10, .int .i64 x10)]), [some (.box [.sl 5 b0_0.n (rowOf eLock b0_0.w) false, .sl 5 b0_1.n (rowOf eLock b0_1.w) false])]⟩ κ
noncomputable def law22_LocksApart_h3 (k j1 j2 j : Nat) (l : (Sl TCall)) (key : ByteArray) (b0_0 : Sl TLock) (b0_1 : Sl TLock) (x6 : Int) (x10 : Int) (x11 : Int) (κ : AV → Heap → Option ρ) : Option ρ := headAt ctx k n_law22_LocksApart 0 [.r, .r, .r, .l, .r, .into j1, .r, .l, .r, .r, .r, .r, .r, .r, .r, .l, .r, .into j2, .r, .l, .r] j ⟨(envOf 203 [(0, .sl 6 l.n (rowOf eCall l.w) l.u), (1, .str key), (5, .ref 0 0), (6, .int .i64 x6), (10, .int .i64 x10), (11, .int .i64 x11)]), [some (.box [.sl 5 b0_0.n (rowOf eLock b0_0.w) false, .sl 5 b0_1.n (rowOf eLock b0_1.w) false])]⟩ κ
noncomputable def law22_LocksApart_h4 (k j1 j : Nat) (l : (Sl TCall)) (key : ByteArray) (b0_0 : Sl TLock) (b0_1 : Sl TLock) (x15 : Int) (x6 : Int) (κ : AV → Heap → Option ρ) : Option ρ := headAt ctx k n_law22_LocksApart 0 [.r, .r, .r, .l, .r, .into j1, .r, .l, .r, .r, .r, .r, .r, .r, .r, .r, .r] j ⟨(envOf 203 [(0, .sl 6 l.n (rowOf eCall l.w) l.u), (1, .str key), (5, .ref 0 0), (6, .int .i64 x6), (15, .int .i64 x15)]), [some (.box [.sl 5 b0_0.n (rowOf eLock b0_0.w) false, .sl 5 b0_1.n (rowOf eLock b0_1.w) false])]⟩ κ
noncomputable def law22_LocksApart_h5 (k j : Nat) (l : (Sl TCall)) (key : ByteArray) (b0_0 : Sl TLock) (b0_1 : Sl TLock) (x6 : Int) (κ : AV → Heap → Option ρ) : Option ρ := headAt ctx k n_law22_LocksApart 0 [.r, .r, .r, .l, .r] j ⟨(envOf 203 [(0, .sl 6 l.n (rowOf eCall l.w) l.u), (1, .str key), (5, .ref 0 0), (6, .int .i64 x6)]), [some (.box [.sl 5 b0_0.n (rowOf eLock b0_0.w) false, .sl 5 b0_1.n (rowOf eLock b0_1.w) false])]⟩ κ
noncomputable def law22_LocksApart_h6 (k j : Nat) (x16 : Int) (b0_0 : Sl TLock) (b0_1 : Sl TLock) (κ : AV → Heap → Option ρ) : Option ρ := headAt ctx k n_law22_LocksApart 0 [.r, .r, .r, .r, .l, .r] j ⟨(envOf 203 [(5, .ref 0 0), (16, .int .i64 x16)]), [some (.box [.sl 5 b0_0.n (rowOf eLock b0_0.w) false, .sl 5 b0_1.n (rowOf eLock b0_1.w) false])]⟩ κ
noncomputable def law22_LocksApart_r0 (k : Nat) (l : (Sl TCall)) (key : ByteArray) (κ : AV → Heap → Option ρ) (v : AV) : Option ρ := resAt ctx k n_law22_LocksApart 0 [.r, .l, .r, .l, .l] 0 [] ⟨(envOf 203 [(0, .sl 6 l.n (rowOf eCall l.w) l.u), (1, .str key), (22, .bool (decide (600 < (key.size : Int)))), (23, v)]), []⟩ κ
noncomputable def law22_LocksApart_r1 (k j1 : Nat) (l : (Sl TCall)) (key : ByteArray) (x6 : Int) (κ : AV → Heap → Option ρ) (v : AV) : Option ρ := resAt ctx k n_law22_LocksApart 0 [.r, .r, .r, .l, .r, .into j1, .r, .l, .r, .l, .l] 2 [] ⟨(envOf 203 [(0, .sl 6 l.n (rowOf eCall l.w) l.u), (1, .str key), (5, .ref 0 0), (6, .int .i64 x6), (7, .ref 1 0), (38, .ref 1 1), (39, .agg (eLock ⟨(((l.w ((x6).toNat)).K).Tx), ⟨((((l.w ((x6).toNat)).K).R).From), ((((l.w ((x6).toNat)).K).R).To), ((((l.w ((x6).toNat)).K).R).End)⟩, (((l.w ((x6).toNat)).K).X)⟩)), (40, v)]), [some (.box [.sl 5 0 (rowOf eLock (fun _ => zLock)) true, .sl 5 0 (rowOf eLock (fun _ => zLock)) true]), some (.box (eCall ⟨((l.w ((x6).toNat)).Go), ⟨(((l.w ((x6).toNat)).K).Tx), ⟨((((l.w ((x6).toNat)).K).R).From), ((((l.w ((x6).toNat)).K).R).To), ((((l.w ((x6).toNat)).K).R).End)⟩, (((l.w ((x6).toNat)).K).X)⟩⟩))]⟩ κ
noncomputable def law22_LocksApart_r2 (k : Nat) (κ : AV → Heap → Option ρ) (v : AV) : Option ρ := resAt ctx k n_law22_LocksApart 0 [.r, .r, .r, .r, .r, .l] 0 [] ⟨(envOf 203 [(5, .ref 0 0), (16, .int .i64 0), (152, .bool false), (202, v)]), [some (.box [.sl 5 0 (rowOf eLock (fun _ => zLock)) true, .sl 5 0 (rowOf eLock (fun _ => zLock)) true])]⟩ κ
noncomputable def law22_LocksApart_r3 (k j1 j2 j3 : Nat) (l : (Sl TCall)) (key : ByteArray) (x6 : Int) (b0_0 : Sl TLock) (b0_1 : Sl TLock) (x10 : Int) (x11 : Int) (κ : AV → Heap → Option ρ) (v : AV) : Option ρ := resAt ctx k n_law22_LocksApart 0 [.r, .r, .r, .l, .r, .into j1, .r, .l, .r, .r, .r, .r, .r, .r, .r, .l, .r, .into j2, .r, .l, .r, .into j3, .r, .l, .r, .l] 3 [] ⟨(envOf 203 [(0, .sl 6 l.n (rowOf eCall l.w) l.u), (1, .str key), (5, .ref 0 0), (6, .int .i64 x6), (10, .int .i64 x10), (11, .int .i64 x11), (12, .ref 1 0), (13, .ref 2 0), (102, .ref 1 1), (103, .agg (eRange ⟨(((b0_0.w ((x10).toNat)).R).From), (((b0_0.w ((x10).toNat)).R).To), (((b0_0.w ((x10).toNat)).R).End)⟩)), (104, .str key), (105, v)]), [some (.box [.sl 5 b0_0.n (rowOf eLock b0_0.w) false, .sl 5 b0_1.n (rowOf eLock b0_1.w) false]), some (.box (eLock ⟨((b0_0.w ((x10).toNat)).Tx), ⟨(((b0_0.w ((x10).toNat)).R).From), (((b0_0.w ((x10).toNat)).R).To), (((b0_0.w ((x10).toNat)).R).End)⟩, ((b0_0.w ((x10).toNat)).X)⟩)), some (.box (eLock ⟨((b0_0.w ((x11).toNat)).Tx), ⟨(((b0_0.w ((x11).toNat)).R).From), (((b0_0.w ((x11).toNat)).R).To), (((b0_0.w ((x11).toNat)).R).End)⟩, ((b0_0.w ((x11).toNat)).X)⟩))]⟩ κ
noncomputable def law22_LocksApart_r4 (k j1 j2 : Nat) (l : (Sl TCall)) (key : ByteArray) (x6 : Int) (b0_0 : Sl TLock) (b0_1 : Sl TLock) (x15 : Int) (κ : AV → Heap → Option ρ) (v : AV) : Option ρ := resAt ctx k n_law22_LocksApart 0 [.r, .r, .r, .l, .r, .into j1, .r, .l, .r, .r, .r, .r, .r, .r, .r, .r, .r, .into j2, .r, .l, .l] 7 [] ⟨(envOf 203 [(0, .sl 6 l.n (rowOf eCall l.w) l.u), (1, .str key), (5, .ref 0 0), (6, .int .i64 x6), (15, .int .i64 x15), (132, .bool (decide (x15 < (b0_1.n : Int)))), (135, .agg (eLocks ⟨⟨b0_0.n, b0_0.w, false⟩, ⟨b0_1.n, b0_1.w, false⟩⟩)), (136, .ref 0 1), (137, .sl 5 b0_1.n (rowOf eLock b0_1.w) false), (138, .int .i64 x15), (139, .rref [.int .u64 ((b0_1.w ((x15).toNat)).Tx), .str (((b0_1.w ((x15).toNat)).R).From), .str (((b0_1.w ((x15).toNat)).R).To), .bool (((b0_1.w ((x15).toNat)).R).End), .bool ((b0_1.w ((x15).toNat)).X)] 0), (140, .rref [.int .u64 ((b0_1.w ((x15).toNat)).Tx), .str (((b0_1.w ((x15).toNat)).R).From), .str (((b0_1.w ((x15).toNat)).R).To), .bool (((b0_1.w ((x15).toNat)).R).End), .bool ((b0_1.w ((x15).toNat)).X)] 0), (141, .int .u64 ((b0_1.w ((x15).toNat)).Tx)), (142, v)]), [some (.box [.sl 5 b0_0.n (rowOf eLock b0_0.w) false, .sl 5 b0_1.n (rowOf eLock b0_1.w) false])]⟩ κ
noncomputable def law22_LocksApart_r5 (k j1 : Nat) (l : (Sl TCall)) (key : ByteArray) (x6 : Int) (b0_0 : Sl TLock) (b0_1 : Sl TLock) (κ : AV → Heap → Option ρ) (v : AV) : Option ρ := resAt ctx k n_law22_LocksApart 0 [.r, .r, .r, .l, .r, .into j1, .r, .l, .r, .l, .l] 2 [] ⟨(envOf 203 [(0, .sl 6 l.n (rowOf eCall l.w) l.u), (1, .str key), (5, .ref 0 0), (6, .int .i64 x6), (7, .ref 1 0), (38, .ref 1 1), (39, .agg (eLock ⟨(((l.w ((x6).toNat)).K).Tx), ⟨((((l.w ((x6).toNat)).K).R).From), ((((l.w ((x6).toNat)).K).R).To), ((((l.w ((x6).toNat)).K).R).End)⟩, (((l.w ((x6).toNat)).K).X)⟩)), (40, v)]), [some (.box [.sl 5 b0_0.n (rowOf eLock b0_0.w) false, .sl 5 b0_1.n (rowOf eLock b0_1.w) false]), some (.box (eCall ⟨((l.w ((x6).toNat)).Go), ⟨(((l.w ((x6).toNat)).K).Tx), ⟨((((l.w ((x6).toNat)).K).R).From), ((((l.w ((x6).toNat)).K).R).To), ((((l.w ((x6).toNat)).K).R).End)⟩, (((l.w ((x6).toNat)).K).X)⟩⟩))]⟩ κ
noncomputable def law22_LocksApart_r6 (k j1 : Nat) (b0_0 : Sl TLock) (b0_1 : Sl TLock) (x16 : Int) (κ : AV → Heap → Option ρ) (v : AV) : Option ρ := resAt ctx k n_law22_LocksApart 0 [.r, .r, .r, .r, .l, .r, .into j1, .r, .l, .r, .l] 6 [] ⟨(envOf 203 [(5, .ref 0 0), (16, .int .i64 x16), (162, .bool (decide ((b0_0.n : Int) = 0))), (164, .agg (eLocks ⟨⟨b0_0.n, b0_0.w, false⟩, ⟨b0_1.n, b0_1.w, false⟩⟩)), (165, .ref 0 0), (166, .sl 5 b0_0.n (rowOf eLock b0_0.w) false), (167, .rref [.int .u64 ((b0_0.w 0).Tx), .str (((b0_0.w 0).R).From), .str (((b0_0.w 0).R).To), .bool (((b0_0.w 0).R).End), .bool ((b0_0.w 0).X)] 0), (168, .rref [.int .u64 ((b0_0.w 0).Tx), .str (((b0_0.w 0).R).From), .str (((b0_0.w 0).R).To), .bool (((b0_0.w 0).R).End), .bool ((b0_0.w 0).X)] 0), (169, .int .u64 ((b0_0.w 0).Tx)), (170, v)]), [some (.box [.sl 5 b0_0.n (rowOf eLock b0_0.w) false, .sl 5 b0_1.n (rowOf eLock b0_1.w) false])]⟩ κ
noncomputable def law22_LocksApart_r7 (k : Nat) (b0_0 : Sl TLock) (b0_1 : Sl TLock) (x16 : Int) (κ : AV → Heap → Option ρ) (v : AV) : Option ρ := resAt ctx k n_law22_LocksApart 0 [.r, .r, .r, .r, .r, .l] 0 [] ⟨(envOf 203 [(5, .ref 0 0), (16, .int .i64 x16), (152, .bool (decide (0 < wi64 ((b0_0.n : Int) + (b0_1.n : Int))))), (202, v)]), [some (.box [.sl 5 b0_0.n (rowOf eLock b0_0.w) false, .sl 5 b0_1.n (rowOf eLock b0_1.w) false])]⟩ κ
noncomputable def law22_LocksApart_r8 (k j1 : Nat) (l : (Sl TCall)) (key : ByteArray) (r1 : Bool) (x6 : Int) (κ : AV → Heap → Option ρ) (v : AV) : Option ρ := resAt ctx k n_law22_LocksApart 0 [.r, .r, .r, .l, .r, .into j1, .r, .l, .r, .l, .r, .l, .l] 0 [] ⟨(envOf 203 [(0, .sl 6 l.n (rowOf eCall l.w) l.u), (1, .str key), (5, .ref 0 0), (6, .int .i64 x6), (7, .ref 1 0), (40, .bool r1), (41, v)]), [some (.box [.sl 5 0 (rowOf eLock (fun _ => zLock)) true, .sl 5 0 (rowOf eLock (fun _ => zLock)) true]), some (.box (eCall ⟨((l.w ((x6).toNat)).Go), ⟨(((l.w ((x6).toNat)).K).Tx), ⟨((((l.w ((x6).toNat)).K).R).From), ((((l.w ((x6).toNat)).K).R).To), ((((l.w ((x6).toNat)).K).R).End)⟩, (((l.w ((x6).toNat)).K).X)⟩⟩))]⟩ κ
noncomputable def law22_LocksApart_r9 (k j1 : Nat) (l : (Sl TCall)) (key : ByteArray) (x6 : Int) (κ : AV → Heap → Option ρ) (v : AV) : Option ρ := resAt ctx k n_law22_LocksApart 0 [.r, .r, .r, .l, .r, .into j1, .r, .l, .r, .r, .r, .l, .r, .l, .l] 4 [] ⟨(envOf 203 [(0, .sl 6 l.n (rowOf eCall l.w) l.u), (1, .str key), (5, .ref 0 0), (6, .int .i64 x6), (7, .ref 1 0), (8, .ref 2 0), (43, .ref 1 0), (44, .bool ((l.w ((x6).toNat)).Go)), (46, .agg (eLocks zLocks)), (47, .ref 1 1), (48, .ref 1 1), (49, .int .u64 (((l.w ((x6).toNat)).K).Tx)), (50, v)]), [some (.box [.sl 5 0 (rowOf eLock (fun _ => zLock)) true, .sl 5 0 (rowOf eLock (fun _ => zLock)) true]), some (.box (eCall ⟨((l.w ((x6).toNat)).Go), ⟨(((l.w ((x6).toNat)).K).Tx), ⟨((((l.w ((x6).toNat)).K).R).From), ((((l.w ((x6).toNat)).K).R).To), ((((l.w ((x6).toNat)).K).R).End)⟩, (((l.w ((x6).toNat)).K).X)⟩⟩)), some (.box [.sl 5 0 (rowOf eLock (fun _ => zLock)) true, .sl 5 0 (rowOf eLock (fun _ => zLock)) true])]⟩ κ
noncomputable def law22_LocksApart_r10 (k j1 : Nat) (l : (Sl TCall)) (key : ByteArray) (x6 : Int) (κ : AV → Heap → Option ρ) (v : AV) : Option ρ := resAt ctx k n_law22_LocksApart 0 [.r, .r, .r, .l, .r, .into j1, .r, .l, .r, .r, .r, .l, .r, .r] 3 [] ⟨(envOf 203 [(0, .sl 6 l.n (rowOf eCall l.w) l.u), (1, .str key), (5, .ref 0 0), (6, .int .i64 x6), (7, .ref 1 0), (8, .ref 2 0), (43, .ref 1 0), (44, .bool ((l.w ((x6).toNat)).Go)), (67, .agg (eLocks zLocks)), (68, .ref 1 1), (69, .agg (eLock ⟨(((l.w ((x6).toNat)).K).Tx), ⟨((((l.w ((x6).toNat)).K).R).From), ((((l.w ((x6).toNat)).K).R).To), ((((l.w ((x6).toNat)).K).R).End)⟩, (((l.w ((x6).toNat)).K).X)⟩)), (70, v)]), [some (.box [.sl 5 0 (rowOf eLock (fun _ => zLock)) true, .sl 5 0 (rowOf eLock (fun _ => zLock)) true]), some (.box (eCall ⟨((l.w ((x6).toNat)).Go), ⟨(((l.w ((x6).toNat)).K).Tx), ⟨((((l.w ((x6).toNat)).K).R).From), ((((l.w ((x6).toNat)).K).R).To), ((((l.w ((x6).toNat)).K).R).End)⟩, (((l.w ((x6).toNat)).K).X)⟩⟩)), some (.box [.sl 5 0 (rowOf eLock (fun _ => zLock)) true, .sl 5 0 (rowOf eLock (fun _ => zLock)) true])]⟩ κ
noncomputable def law22_LocksApart_r11 (k j1 j2 j3 : Nat) (l : (Sl TCall)) (key : ByteArray) (x6 : Int) (b0_0 : Sl TLock) (b0_1 : Sl TLock) (x10 : Int) (r3 : Bool) (x11 : Int) (κ : AV → Heap → Option ρ) (v : AV) : Option ρ := resAt ctx k n_law22_LocksApart 0 [.r, .r, .r, .l, .r, .into j1, .r, .l, .r, .r, .r, .r, .r, .r, .r, .l, .r, .into j2, .r, .l, .r, .into j3, .r, .l, .r, .l] 8 [(106, true)] ⟨(envOf 203 [(0, .sl 6 l.n (rowOf eCall l.w) l.u), (1, .str key), (5, .ref 0 0), (6, .int .i64 x6), (10, .int .i64 x10), (11, .int .i64 x11), (12, .ref 1 0), (13, .ref 2 0), (102, .ref 1 1), (103, .agg (eRange ⟨(((b0_0.w ((x10).toNat)).R).From), (((b0_0.w ((x10).toNat)).R).To), (((b0_0.w ((x10).toNat)).R).End)⟩)), (104, .str key), (105, .bool r3), (106, .bool r3), (107, .ref 2 1), (108, .agg (eRange ⟨(((b0_0.w ((x11).toNat)).R).From), (((b0_0.w ((x11).toNat)).R).To), (((b0_0.w ((x11).toNat)).R).End)⟩)), (109, .str key), (110, v)]), [some (.box [.sl 5 b0_0.n (rowOf eLock b0_0.w) false, .sl 5 b0_1.n (rowOf eLock b0_1.w) false]), some (.box (eLock ⟨((b0_0.w ((x10).toNat)).Tx), ⟨(((b0_0.w ((x10).toNat)).R).From), (((b0_0.w ((x10).toNat)).R).To), (((b0_0.w ((x10).toNat)).R).End)⟩, ((b0_0.w ((x10).toNat)).X)⟩)), some (.box (eLock ⟨((b0_0.w ((x11).toNat)).Tx), ⟨(((b0_0.w ((x11).toNat)).R).From), (((b0_0.w ((x11).toNat)).R).To), (((b0_0.w ((x11).toNat)).R).End)⟩, ((b0_0.w ((x11).toNat)).X)⟩))]⟩ κ
noncomputable def law22_LocksApart_r12 (k j1 : Nat) (l : (Sl TCall)) (key : ByteArray) (x6 : Int) (r5 : Bool) (b0_0 : Sl TLock) (b0_1 : Sl TLock) (κ : AV → Heap → Option ρ) (v : AV) : Option ρ := resAt ctx k n_law22_LocksApart 0 [.r, .r, .r, .l, .r, .into j1, .r, .l, .r, .l, .r, .l, .l] 0 [] ⟨(envOf 203 [(0, .sl 6 l.n (rowOf eCall l.w) l.u), (1, .str key), (5, .ref 0 0), (6, .int .i64 x6), (7, .ref 1 0), (40, .bool r5), (41, v)]), [some (.box [.sl 5 b0_0.n (rowOf eLock b0_0.w) false, .sl 5 b0_1.n (rowOf eLock b0_1.w) false]), some (.box (eCall ⟨((l.w ((x6).toNat)).Go), ⟨(((l.w ((x6).toNat)).K).Tx), ⟨((((l.w ((x6).toNat)).K).R).From), ((((l.w ((x6).toNat)).K).R).To), ((((l.w ((x6).toNat)).K).R).End)⟩, (((l.w ((x6).toNat)).K).X)⟩⟩))]⟩ κ
noncomputable def law22_LocksApart_r13 (k j1 : Nat) (l : (Sl TCall)) (key : ByteArray) (x6 : Int) (b0_0 : Sl TLock) (b0_1 : Sl TLock) (κ : AV → Heap → Option ρ) (v : AV) : Option ρ := resAt ctx k n_law22_LocksApart 0 [.r, .r, .r, .l, .r, .into j1, .r, .l, .r, .r, .r, .l, .r, .l, .l] 4 [] ⟨(envOf 203 [(0, .sl 6 l.n (rowOf eCall l.w) l.u), (1, .str key), (5, .ref 0 0), (6, .int .i64 x6), (7, .ref 1 0), (8, .ref 2 0), (43, .ref 1 0), (44, .bool ((l.w ((x6).toNat)).Go)), (46, .agg (eLocks ⟨⟨b0_0.n, b0_0.w, false⟩, ⟨b0_1.n, b0_1.w, false⟩⟩)), (47, .ref 1 1), (48, .ref 1 1), (49, .int .u64 (((l.w ((x6).toNat)).K).Tx)), (50, v)]), [some (.box [.sl 5 b0_0.n (rowOf eLock b0_0.w) false, .sl 5 b0_1.n (rowOf eLock b0_1.w) false]), some (.box (eCall ⟨((l.w ((x6).toNat)).Go), ⟨(((l.w ((x6).toNat)).K).Tx), ⟨((((l.w ((x6).toNat)).K).R).From), ((((l.w ((x6).toNat)).K).R).To), ((((l.w ((x6).toNat)).K).R).End)⟩, (((l.w ((x6).toNat)).K).X)⟩⟩)), some (.box [.sl 5 b0_0.n (rowOf eLock b0_0.w) false, .sl 5 b0_1.n (rowOf eLock b0_1.w) false])]⟩ κ
noncomputable def law22_LocksApart_r14 (k j1 : Nat) (l : (Sl TCall)) (key : ByteArray) (x6 : Int) (b0_0 : Sl TLock) (b0_1 : Sl TLock) (κ : AV → Heap → Option ρ) (v : AV) : Option ρ := resAt ctx k n_law22_LocksApart 0 [.r, .r, .r, .l, .r, .into j1, .r, .l, .r, .r, .r, .l, .r, .r] 3 [] ⟨(envOf 203 [(0, .sl 6 l.n (rowOf eCall l.w) l.u), (1, .str key), (5, .ref 0 0), (6, .int .i64 x6), (7, .ref 1 0), (8, .ref 2 0), (43, .ref 1 0), (44, .bool ((l.w ((x6).toNat)).Go)), (67, .agg (eLocks ⟨⟨b0_0.n, b0_0.w, false⟩, ⟨b0_1.n, b0_1.w, false⟩⟩)), (68, .ref 1 1), (69, .agg (eLock ⟨(((l.w ((x6).toNat)).K).Tx), ⟨((((l.w ((x6).toNat)).K).R).From), ((((l.w ((x6).toNat)).K).R).To), ((((l.w ((x6).toNat)).K).R).End)⟩, (((l.w ((x6).toNat)).K).X)⟩)), (70, v)]), [some (.box [.sl 5 b0_0.n (rowOf eLock b0_0.w) false, .sl 5 b0_1.n (rowOf eLock b0_1.w) false]), some (.box (eCall ⟨((l.w ((x6).toNat)).Go), ⟨(((l.w ((x6).toNat)).K).Tx), ⟨((((l.w ((x6).toNat)).K).R).From), ((((l.w ((x6).toNat)).K).R).To), ((((l.w ((x6).toNat)).K).R).End)⟩, (((l.w ((x6).toNat)).K).X)⟩⟩)), some (.box [.sl 5 b0_0.n (rowOf eLock b0_0.w) false, .sl 5 b0_1.n (rowOf eLock b0_1.w) false])]⟩ κ
noncomputable def law22_LocksApart_r15 (k j1 : Nat) (l : (Sl TCall)) (key : ByteArray) (x6 : Int) (r9a : TLocks) (r9c : Int) (κ : AV → Heap → Option ρ) (v : AV) : Option ρ := resAt ctx k n_law22_LocksApart 0 [.r, .r, .r, .l, .r, .into j1, .r, .l, .r, .r, .r, .l, .r, .l, .r, .r, .l] 4 [] ⟨(envOf 203 [(0, .sl 6 l.n (rowOf eCall l.w) l.u), (1, .str key), (5, .ref 0 0), (6, .int .i64 x6), (7, .ref 1 0), (8, .ref 2 0), (9, .int .i64 r9c), (56, .bool (((l.w ((x6).toNat)).K).X)), (58, .agg (eLocks zLocks)), (59, .ref 1 1), (60, .ref 1 1), (61, .int .u64 (((l.w ((x6).toNat)).K).Tx)), (62, v)]), [some (.box [.sl 5 0 (rowOf eLock (fun _ => zLock)) true, .sl 5 0 (rowOf eLock (fun _ => zLock)) true]), some (.box (eCall ⟨((l.w ((x6).toNat)).Go), ⟨(((l.w ((x6).toNat)).K).Tx), ⟨((((l.w ((x6).toNat)).K).R).From), ((((l.w ((x6).toNat)).K).R).To), ((((l.w ((x6).toNat)).K).R).End)⟩, (((l.w ((x6).toNat)).K).X)⟩⟩)), some (.box [.sl 5 r9a.Held.n (rowOf eLock r9a.Held.w) false, .sl 5 r9a.Waits.n (rowOf eLock r9a.Waits.w) false])]⟩ κ
noncomputable def law22_LocksApart_r16 (k j1 : Nat) (l : (Sl TCall)) (key : ByteArray) (x6 : Int) (r9a : TLocks) (r9c : Int) (κ : AV → Heap → Option ρ) (v : AV) : Option ρ := resAt ctx k n_law22_LocksApart 0 [.r, .r, .r, .l, .r, .into j1, .r, .l, .r, .r, .r, .r, .r, .l, .l] 1 [] ⟨(envOf 203 [(0, .sl 6 l.n (rowOf eCall l.w) l.u), (1, .str key), (5, .ref 0 0), (6, .int .i64 x6), (7, .ref 1 0), (8, .ref 2 0), (9, .int .i64 r9c), (56, .bool (((l.w ((x6).toNat)).K).X)), (74, .int .i64 r9c), (75, .bool (!decide (r9c = 0))), (76, .agg (eLocks ⟨⟨r9a.Held.n, r9a.Held.w, false⟩, ⟨r9a.Waits.n, r9a.Waits.w, false⟩⟩)), (77, v)]), [some (.box [.sl 5 0 (rowOf eLock (fun _ => zLock)) true, .sl 5 0 (rowOf eLock (fun _ => zLock)) true]), some (.box (eCall ⟨((l.w ((x6).toNat)).Go), ⟨(((l.w ((x6).toNat)).K).Tx), ⟨((((l.w ((x6).toNat)).K).R).From), ((((l.w ((x6).toNat)).K).R).To), ((((l.w ((x6).toNat)).K).R).End)⟩, (((l.w ((x6).toNat)).K).X)⟩⟩)), some (.box [.sl 5 r9a.Held.n (rowOf eLock r9a.Held.w) false, .sl 5 r9a.Waits.n (rowOf eLock r9a.Waits.w) false])]⟩ κ
noncomputable def law22_LocksApart_r17 (k j1 : Nat) (l : (Sl TCall)) (key : ByteArray) (x6 : Int) (x9 : Int) (x74 : Int) (x75 : Bool) (x76_0 : Sl TLock) (x76_1 : Sl TLock) (b1_0 : Sl TLock) (b1_1 : Sl TLock) (xa0_0 : Sl TLock) (xa0_1 : Sl TLock) (κ : AV → Heap → Option ρ) (v : AV) : Option ρ := resAt ctx k n_law22_LocksApart 0 [.r, .r, .r, .l, .r, .into j1, .r, .l, .r, .r, .r, .r, .r, .l, .l] 1 [] ⟨(envOf 203 [(0, .sl 6 l.n (rowOf eCall l.w) l.u), (1, .str key), (5, .ref 0 0), (6, .int .i64 x6), (8, .ref 1 0), (9, .int .i64 x9), (74, .int .i64 x74), (75, .bool x75), (76, .agg (eLocks ⟨⟨x76_0.n, x76_0.w, false⟩, ⟨x76_1.n, x76_1.w, false⟩⟩)), (77, v)]), [some (.box [.sl 5 0 (rowOf eLock (fun _ => zLock)) true, .sl 5 0 (rowOf eLock (fun _ => zLock)) true]), some (.box [.sl 5 b1_0.n (rowOf eLock b1_0.w) false, .sl 5 b1_1.n (rowOf eLock b1_1.w) false])]⟩ κ
noncomputable def law22_LocksApart_r18 (k j1 : Nat) (l : (Sl TCall)) (key : ByteArray) (x6 : Int) (b0_0 : Sl TLock) (b0_1 : Sl TLock) (r13a : TLocks) (r13c : Int) (κ : AV → Heap → Option ρ) (v : AV) : Option ρ := resAt ctx k n_law22_LocksApart 0 [.r, .r, .r, .l, .r, .into j1, .r, .l, .r, .r, .r, .l, .r, .l, .r, .r, .l] 4 [] ⟨(envOf 203 [(0, .sl 6 l.n (rowOf eCall l.w) l.u), (1, .str key), (5, .ref 0 0), (6, .int .i64 x6), (7, .ref 1 0), (8, .ref 2 0), (9, .int .i64 r13c), (56, .bool (((l.w ((x6).toNat)).K).X)), (58, .agg (eLocks ⟨⟨b0_0.n, b0_0.w, false⟩, ⟨b0_1.n, b0_1.w, false⟩⟩)), (59, .ref 1 1), (60, .ref 1 1), (61, .int .u64 (((l.w ((x6).toNat)).K).Tx)), (62, v)]), [some (.box [.sl 5 b0_0.n (rowOf eLock b0_0.w) false, .sl 5 b0_1.n (rowOf eLock b0_1.w) false]), some (.box (eCall ⟨((l.w ((x6).toNat)).Go), ⟨(((l.w ((x6).toNat)).K).Tx), ⟨((((l.w ((x6).toNat)).K).R).From), ((((l.w ((x6).toNat)).K).R).To), ((((l.w ((x6).toNat)).K).R).End)⟩, (((l.w ((x6).toNat)).K).X)⟩⟩)), some (.box [.sl 5 r13a.Held.n (rowOf eLock r13a.Held.w) false, .sl 5 r13a.Waits.n (rowOf eLock r13a.Waits.w) false])]⟩ κ
noncomputable def law22_LocksApart_r19 (k j1 : Nat) (l : (Sl TCall)) (key : ByteArray) (x6 : Int) (b0_0 : Sl TLock) (b0_1 : Sl TLock) (r13a : TLocks) (r13c : Int) (κ : AV → Heap → Option ρ) (v : AV) : Option ρ := resAt ctx k n_law22_LocksApart 0 [.r, .r, .r, .l, .r, .into j1, .r, .l, .r, .r, .r, .r, .r, .l, .l] 1 [] ⟨(envOf 203 [(0, .sl 6 l.n (rowOf eCall l.w) l.u), (1, .str key), (5, .ref 0 0), (6, .int .i64 x6), (7, .ref 1 0), (8, .ref 2 0), (9, .int .i64 r13c), (56, .bool (((l.w ((x6).toNat)).K).X)), (74, .int .i64 r13c), (75, .bool (!decide (r13c = 0))), (76, .agg (eLocks ⟨⟨r13a.Held.n, r13a.Held.w, false⟩, ⟨r13a.Waits.n, r13a.Waits.w, false⟩⟩)), (77, v)]), [some (.box [.sl 5 b0_0.n (rowOf eLock b0_0.w) false, .sl 5 b0_1.n (rowOf eLock b0_1.w) false]), some (.box (eCall ⟨((l.w ((x6).toNat)).Go), ⟨(((l.w ((x6).toNat)).K).Tx), ⟨((((l.w ((x6).toNat)).K).R).From), ((((l.w ((x6).toNat)).K).R).To), ((((l.w ((x6).toNat)).K).R).End)⟩, (((l.w ((x6).toNat)).K).X)⟩⟩)), some (.box [.sl 5 r13a.Held.n (rowOf eLock r13a.Held.w) false, .sl 5 r13a.Waits.n (rowOf eLock r13a.Waits.w) false])]⟩ κ
noncomputable def law22_LocksApart_r20 (k j1 : Nat) (l : (Sl TCall)) (key : ByteArray) (x6 : Int) (b0_0 : Sl TLock) (b0_1 : Sl TLock) (x9 : Int) (x74 : Int) (x75 : Bool) (x76_0 : Sl TLock) (x76_1 : Sl TLock) (b1_0 : Sl TLock) (b1_1 : Sl TLock) (xa0_0 : Sl TLock) (xa0_1 : Sl TLock) (κ : AV → Heap → Option ρ) (v : AV) : Option ρ := resAt ctx k n_law22_LocksApart 0 [.r, .r, .r, .l, .r, .into j1, .r, .l, .r, .r, .r, .r, .r, .l, .l] 1 [] ⟨(envOf 203 [(0, .sl 6 l.n (rowOf eCall l.w) l.u), (1, .str key), (5, .ref 0 0), (6, .int .i64 x6), (8, .ref 1 0), (9, .int .i64 x9), (74, .int .i64 x74), (75, .bool x75), (76, .agg (eLocks ⟨⟨x76_0.n, x76_0.w, false⟩, ⟨x76_1.n, x76_1.w, false⟩⟩)), (77, v)]), [some (.box [.sl 5 b0_0.n (rowOf eLock b0_0.w) false, .sl 5 b0_1.n (rowOf eLock b0_1.w) false]), some (.box [.sl 5 b1_0.n (rowOf eLock b1_0.w) false, .sl 5 b1_1.n (rowOf eLock b1_1.w) false])]⟩ κ
theorem law22_LocksApart_h0_s (k j : Nat) (l : (Sl TCall)) (key : ByteArray) (x6 : Int) (κ : AV → Heap → Option ρ) : law22_LocksApart_h0 k (j + 1) l key x6 κ =
  (bif decide (x6 < (l.n : Int)) then
   (bif decide (x6 < 60) then
    (bif idxOK x6 l.n then
     callP ctx k n_law22_great [.agg (eLock ⟨(((l.w ((x6).toNat)).K).Tx), ⟨((((l.w ((x6).toNat)).K).R).From), ((((l.w ((x6).toNat)).K).R).To), ((((l.w ((x6).toNat)).K).R).End)⟩, (((l.w ((x6).toNat)).K).X)⟩)] (law22_LocksApart_r1 k j l key x6 κ)
    else none)
   else law22_LocksApart_h1 k k κ)
  else law22_LocksApart_h1 k k κ) := by kernel_rfl
theorem law22_LocksApart_h1_s (k j : Nat) (κ : AV → Heap → Option ρ) : law22_LocksApart_h1 k (j + 1) κ =
  callP ctx k n_law22_head [] (law22_LocksApart_r2 k κ) := by kernel_rfl
theorem law22_LocksApart_h2_s (k j1 j : Nat) (l : (Sl TCall)) (key : ByteArray) (b0_0 : Sl TLock) (b0_1 : Sl TLock) (x10 : Int) (x6 : Int) (κ : AV → Heap → Option ρ) : law22_LocksApart_h2 k j1 (j + 1) l key b0_0 b0_1 x10 x6 κ =
  (bif decide (x10 < (b0_0.n : Int)) then
   law22_LocksApart_h3 k j1 j k l key b0_0 b0_1 x6 x10 0 κ
  else law22_LocksApart_h4 k j1 k l key b0_0 b0_1 0 x6 κ) := by kernel_rfl
theorem law22_LocksApart_h3_s (k j1 j2 j : Nat) (l : (Sl TCall)) (key : ByteArray) (b0_0 : Sl TLock) (b0_1 : Sl TLock) (x6 : Int) (x10 : Int) (x11 : Int) (κ : AV → Heap → Option ρ) : law22_LocksApart_h3 k j1 j2 (j + 1) l key b0_0 b0_1 x6 x10 x11 κ =
  (bif decide (x11 < x10) then
   (bif idxOK x10 b0_0.n then
    (bif idxOK x11 b0_0.n then
     callP ctx k n_r03_Has [.agg (eRange ⟨(((b0_0.w ((x10).toNat)).R).From), (((b0_0.w ((x10).toNat)).R).To), (((b0_0.w ((x10).toNat)).R).End)⟩), .str key] (law22_LocksApart_r3 k j1 j2 j l key x6 b0_0 b0_1 x10 x11 κ)
    else none)
   else none)
  else law22_LocksApart_h2 k j1 j2 l key ⟨b0_0.n, b0_0.w, false⟩ ⟨b0_1.n, b0_1.w, false⟩ (wi64 (x10 + 1)) x6 κ) := by kernel_rfl
theorem law22_LocksApart_h4_s (k j1 j : Nat) (l : (Sl TCall)) (key : ByteArray) (b0_0 : Sl TLock) (b0_1 : Sl TLock) (x15 : Int) (x6 : Int) (κ : AV → Heap → Option ρ) : law22_LocksApart_h4 k j1 (j + 1) l key b0_0 b0_1 x15 x6 κ =
  (bif decide (x15 < (b0_1.n : Int)) then
   (bif idxOK x15 b0_1.n then
    callP ctx k n_locks_Blockers [.agg (eLocks ⟨⟨b0_0.n, b0_0.w, false⟩, ⟨b0_1.n, b0_1.w, false⟩⟩), .int .u64 ((b0_1.w ((x15).toNat)).Tx)] (law22_LocksApart_r4 k j1 j l key x6 b0_0 b0_1 x15 κ)
   else none)
  else law22_LocksApart_h5 k j1 l key b0_0 b0_1 (wi64 (x6 + 1)) κ) := by kernel_rfl
theorem law22_LocksApart_h5_s (k j : Nat) (l : (Sl TCall)) (key : ByteArray) (b0_0 : Sl TLock) (b0_1 : Sl TLock) (x6 : Int) (κ : AV → Heap → Option ρ) : law22_LocksApart_h5 k (j + 1) l key b0_0 b0_1 x6 κ =
  (bif decide (x6 < (l.n : Int)) then
   (bif decide (x6 < 60) then
    (bif idxOK x6 l.n then
     callP ctx k n_law22_great [.agg (eLock ⟨(((l.w ((x6).toNat)).K).Tx), ⟨((((l.w ((x6).toNat)).K).R).From), ((((l.w ((x6).toNat)).K).R).To), ((((l.w ((x6).toNat)).K).R).End)⟩, (((l.w ((x6).toNat)).K).X)⟩)] (law22_LocksApart_r5 k j l key x6 b0_0 b0_1 κ)
    else none)
   else law22_LocksApart_h6 k k 0 ⟨b0_0.n, b0_0.w, false⟩ ⟨b0_1.n, b0_1.w, false⟩ κ)
  else law22_LocksApart_h6 k k 0 ⟨b0_0.n, b0_0.w, false⟩ ⟨b0_1.n, b0_1.w, false⟩ κ) := by kernel_rfl
theorem law22_LocksApart_h6_s (k j : Nat) (x16 : Int) (b0_0 : Sl TLock) (b0_1 : Sl TLock) (κ : AV → Heap → Option ρ) : law22_LocksApart_h6 k (j + 1) x16 b0_0 b0_1 κ =
  (bif decide (0 < wi64 ((b0_0.n : Int) + (b0_1.n : Int))) then
   (bif decide (200 < x16) then
    κ (.bool false) [some (.box [.sl 5 b0_0.n (rowOf eLock b0_0.w) false, .sl 5 b0_1.n (rowOf eLock b0_1.w) false])]
   else (bif decide ((b0_0.n : Int) = 0) then
     κ (.bool false) [some (.box [.sl 5 b0_0.n (rowOf eLock b0_0.w) false, .sl 5 b0_1.n (rowOf eLock b0_1.w) false])]
    else (bif idxOK 0 b0_0.n then
      callP ctx k n_locks_Release [.agg (eLocks ⟨⟨b0_0.n, b0_0.w, false⟩, ⟨b0_1.n, b0_1.w, false⟩⟩), .int .u64 ((b0_0.w 0).Tx)] (law22_LocksApart_r6 k j b0_0 b0_1 x16 κ)
     else none)))
  else callP ctx k n_law22_head [] (law22_LocksApart_r7 k b0_0 b0_1 x16 κ)) := by kernel_rfl
theorem law22_LocksApart_r0_s (k : Nat) (l : (Sl TCall)) (key : ByteArray) (r0 : Bool) (κ : AV → Heap → Option ρ) : law22_LocksApart_r0 k l key κ (.bool r0) =
  κ (.bool r0) [] := by kernel_rfl
theorem law22_LocksApart_r1_s (k j1 : Nat) (l : (Sl TCall)) (key : ByteArray) (x6 : Int) (r1 : Bool) (κ : AV → Heap → Option ρ) : law22_LocksApart_r1 k j1 l key x6 κ (.bool r1) =
  (bif r1 then
   callP ctx k n_law22_head [] (law22_LocksApart_r8 k j1 l key r1 x6 κ)
  else (bif ((l.w ((x6).toNat)).Go) then
    callP ctx k n_locks_Release [.agg (eLocks zLocks), .int .u64 (((l.w ((x6).toNat)).K).Tx)] (law22_LocksApart_r9 k j1 l key x6 κ)
   else callP ctx k n_locks_Ask [.agg (eLocks zLocks), .agg (eLock ⟨(((l.w ((x6).toNat)).K).Tx), ⟨((((l.w ((x6).toNat)).K).R).From), ((((l.w ((x6).toNat)).K).R).To), ((((l.w ((x6).toNat)).K).R).End)⟩, (((l.w ((x6).toNat)).K).X)⟩)] (law22_LocksApart_r10 k j1 l key x6 κ))) := by kernel_rfl
theorem law22_LocksApart_r2_s (k : Nat) (r2 : Bool) (κ : AV → Heap → Option ρ) : law22_LocksApart_r2 k κ (.bool r2) =
  κ (.bool r2) [some (.box [.sl 5 0 (rowOf eLock (fun _ => zLock)) true, .sl 5 0 (rowOf eLock (fun _ => zLock)) true])] := by kernel_rfl
theorem law22_LocksApart_r3_s (k j1 j2 j3 : Nat) (l : (Sl TCall)) (key : ByteArray) (x6 : Int) (b0_0 : Sl TLock) (b0_1 : Sl TLock) (x10 : Int) (x11 : Int) (r3 : Bool) (κ : AV → Heap → Option ρ) : law22_LocksApart_r3 k j1 j2 j3 l key x6 b0_0 b0_1 x10 x11 κ (.bool r3) =
  (bif r3 then
   callP ctx k n_r03_Has [.agg (eRange ⟨(((b0_0.w ((x11).toNat)).R).From), (((b0_0.w ((x11).toNat)).R).To), (((b0_0.w ((x11).toNat)).R).End)⟩), .str key] (law22_LocksApart_r11 k j1 j2 j3 l key x6 b0_0 b0_1 x10 r3 x11 κ)
  else law22_LocksApart_h3 k j1 j2 j3 l key b0_0 b0_1 x6 x10 (wi64 (x11 + 1)) κ) := by kernel_rfl
theorem law22_LocksApart_r4_s (k j1 j2 : Nat) (l : (Sl TCall)) (key : ByteArray) (x6 : Int) (b0_0 : Sl TLock) (b0_1 : Sl TLock) (x15 : Int) (r4 : Sl Int) (κ : AV → Heap → Option ρ) : law22_LocksApart_r4 k j1 j2 l key x6 b0_0 b0_1 x15 κ (.sl 1 r4.n (rowOf (eI .u64) r4.w) false) =
  (bif decide ((r4.n : Int) = 0) then
   κ (.bool false) [some (.box [.sl 5 b0_0.n (rowOf eLock b0_0.w) false, .sl 5 b0_1.n (rowOf eLock b0_1.w) false])]
  else law22_LocksApart_h4 k j1 j2 l key b0_0 b0_1 (wi64 (x15 + 1)) x6 κ) := by kernel_rfl
theorem law22_LocksApart_r5_s (k j1 : Nat) (l : (Sl TCall)) (key : ByteArray) (x6 : Int) (b0_0 : Sl TLock) (b0_1 : Sl TLock) (r5 : Bool) (κ : AV → Heap → Option ρ) : law22_LocksApart_r5 k j1 l key x6 b0_0 b0_1 κ (.bool r5) =
  (bif r5 then
   callP ctx k n_law22_head [] (law22_LocksApart_r12 k j1 l key x6 r5 b0_0 b0_1 κ)
  else (bif ((l.w ((x6).toNat)).Go) then
    callP ctx k n_locks_Release [.agg (eLocks ⟨⟨b0_0.n, b0_0.w, false⟩, ⟨b0_1.n, b0_1.w, false⟩⟩), .int .u64 (((l.w ((x6).toNat)).K).Tx)] (law22_LocksApart_r13 k j1 l key x6 b0_0 b0_1 κ)
   else callP ctx k n_locks_Ask [.agg (eLocks ⟨⟨b0_0.n, b0_0.w, false⟩, ⟨b0_1.n, b0_1.w, false⟩⟩), .agg (eLock ⟨(((l.w ((x6).toNat)).K).Tx), ⟨((((l.w ((x6).toNat)).K).R).From), ((((l.w ((x6).toNat)).K).R).To), ((((l.w ((x6).toNat)).K).R).End)⟩, (((l.w ((x6).toNat)).K).X)⟩)] (law22_LocksApart_r14 k j1 l key x6 b0_0 b0_1 κ))) := by kernel_rfl
theorem law22_LocksApart_r6_s (k j1 : Nat) (b0_0 : Sl TLock) (b0_1 : Sl TLock) (x16 : Int) (r6a : TLocks) (r6b : Sl Int) (r6c : Int) (κ : AV → Heap → Option ρ) : law22_LocksApart_r6 k j1 b0_0 b0_1 x16 κ (.tup [.agg (eLocks ⟨⟨r6a.Held.n, r6a.Held.w, false⟩, ⟨r6a.Waits.n, r6a.Waits.w, false⟩⟩), .sl 1 r6b.n (rowOf (eI .u64) r6b.w) false, .int .i64 r6c]) =
  (bif !decide (r6c = 0) then
   κ (.bool false) [some (.box [.sl 5 b0_0.n (rowOf eLock b0_0.w) false, .sl 5 b0_1.n (rowOf eLock b0_1.w) false]), some (.box [.sl 5 r6a.Held.n (rowOf eLock r6a.Held.w) false, .sl 5 r6a.Waits.n (rowOf eLock r6a.Waits.w) false])]
  else (bif decide (wi64 ((b0_0.n : Int) + (b0_1.n : Int)) ≤ wi64 ((r6a.Held.n : Int) + (r6a.Waits.n : Int))) then
    κ (.bool false) [some (.box [.sl 5 b0_0.n (rowOf eLock b0_0.w) false, .sl 5 b0_1.n (rowOf eLock b0_1.w) false]), some (.box [.sl 5 r6a.Held.n (rowOf eLock r6a.Held.w) false, .sl 5 r6a.Waits.n (rowOf eLock r6a.Waits.w) false])]
   else (bif decide ((b0_1.n : Int) < (r6b.n : Int)) then
     κ (.bool false) [some (.box [.sl 5 b0_0.n (rowOf eLock b0_0.w) false, .sl 5 b0_1.n (rowOf eLock b0_1.w) false]), some (.box [.sl 5 r6a.Held.n (rowOf eLock r6a.Held.w) false, .sl 5 r6a.Waits.n (rowOf eLock r6a.Waits.w) false])]
    else law22_LocksApart_h6 k j1 (wi64 (x16 + 1)) ⟨r6a.Held.n, r6a.Held.w, false⟩ ⟨r6a.Waits.n, r6a.Waits.w, false⟩ κ))) := by kernel_rfl
theorem law22_LocksApart_r7_s (k : Nat) (b0_0 : Sl TLock) (b0_1 : Sl TLock) (x16 : Int) (r7 : Bool) (κ : AV → Heap → Option ρ) : law22_LocksApart_r7 k b0_0 b0_1 x16 κ (.bool r7) =
  κ (.bool r7) [some (.box [.sl 5 b0_0.n (rowOf eLock b0_0.w) false, .sl 5 b0_1.n (rowOf eLock b0_1.w) false])] := by kernel_rfl
theorem law22_LocksApart_r8_s (k j1 : Nat) (l : (Sl TCall)) (key : ByteArray) (r1 : Bool) (x6 : Int) (r8 : Bool) (κ : AV → Heap → Option ρ) : law22_LocksApart_r8 k j1 l key r1 x6 κ (.bool r8) =
  κ (.bool r8) [some (.box [.sl 5 0 (rowOf eLock (fun _ => zLock)) true, .sl 5 0 (rowOf eLock (fun _ => zLock)) true]), some (.box (eCall ⟨((l.w ((x6).toNat)).Go), ⟨(((l.w ((x6).toNat)).K).Tx), ⟨((((l.w ((x6).toNat)).K).R).From), ((((l.w ((x6).toNat)).K).R).To), ((((l.w ((x6).toNat)).K).R).End)⟩, (((l.w ((x6).toNat)).K).X)⟩⟩))] := by kernel_rfl
theorem law22_LocksApart_r9_s (k j1 : Nat) (l : (Sl TCall)) (key : ByteArray) (x6 : Int) (r9a : TLocks) (r9b : Sl Int) (r9c : Int) (κ : AV → Heap → Option ρ) : law22_LocksApart_r9 k j1 l key x6 κ (.tup [.agg (eLocks ⟨⟨r9a.Held.n, r9a.Held.w, false⟩, ⟨r9a.Waits.n, r9a.Waits.w, false⟩⟩), .sl 1 r9b.n (rowOf (eI .u64) r9b.w) false, .int .i64 r9c]) =
  (bif (((l.w ((x6).toNat)).K).X) then
   callP ctx k n_locks_Withdraw [.agg (eLocks zLocks), .int .u64 (((l.w ((x6).toNat)).K).Tx)] (law22_LocksApart_r15 k j1 l key x6 r9a r9c κ)
  else (bif !decide (r9c = 0) then
    law22_LocksApart_h0 k j1 l key (wi64 (x6 + 1)) κ
   else callP ctx k n_locks_Check [.agg (eLocks ⟨⟨r9a.Held.n, r9a.Held.w, false⟩, ⟨r9a.Waits.n, r9a.Waits.w, false⟩⟩)] (law22_LocksApart_r16 k j1 l key x6 r9a r9c κ))) := by kernel_rfl
theorem law22_LocksApart_r10_s (k j1 : Nat) (l : (Sl TCall)) (key : ByteArray) (x6 : Int) (r10a : TLocks) (r10b : Bool) (r10c : Int) (κ : AV → Heap → Option ρ) : law22_LocksApart_r10 k j1 l key x6 κ (.tup [.agg (eLocks ⟨⟨r10a.Held.n, r10a.Held.w, false⟩, ⟨r10a.Waits.n, r10a.Waits.w, false⟩⟩), .bool r10b, .int .i64 r10c]) =
  (bif !decide (r10c = 0) then
   law22_LocksApart_h0 k j1 l key (wi64 (x6 + 1)) κ
  else callP ctx k n_locks_Check [.agg (eLocks ⟨⟨r10a.Held.n, r10a.Held.w, false⟩, ⟨r10a.Waits.n, r10a.Waits.w, false⟩⟩)] (law22_LocksApart_r17 k j1 l key x6 r10c r10c (!decide (r10c = 0)) ⟨r10a.Held.n, r10a.Held.w, false⟩ ⟨r10a.Waits.n, r10a.Waits.w, false⟩ ⟨r10a.Held.n, r10a.Held.w, false⟩ ⟨r10a.Waits.n, r10a.Waits.w, false⟩ ⟨r10a.Held.n, r10a.Held.w, false⟩ ⟨r10a.Waits.n, r10a.Waits.w, false⟩ κ)) := by kernel_rfl
theorem law22_LocksApart_r11_s (k j1 j2 j3 : Nat) (l : (Sl TCall)) (key : ByteArray) (x6 : Int) (b0_0 : Sl TLock) (b0_1 : Sl TLock) (x10 : Int) (r3 : Bool) (x11 : Int) (r11 : Bool) (κ : AV → Heap → Option ρ) : law22_LocksApart_r11 k j1 j2 j3 l key x6 b0_0 b0_1 x10 r3 x11 κ (.bool r11) =
  (bif r11 then
   (bif !decide (((b0_0.w ((x10).toNat)).Tx) = ((b0_0.w ((x11).toNat)).Tx)) then
    (bif ((b0_0.w ((x10).toNat)).X) then
     κ (.bool false) [some (.box [.sl 5 b0_0.n (rowOf eLock b0_0.w) false, .sl 5 b0_1.n (rowOf eLock b0_1.w) false])]
    else (bif ((b0_0.w ((x11).toNat)).X) then
      κ (.bool false) [some (.box [.sl 5 b0_0.n (rowOf eLock b0_0.w) false, .sl 5 b0_1.n (rowOf eLock b0_1.w) false])]
     else law22_LocksApart_h3 k j1 j2 j3 l key b0_0 b0_1 x6 x10 (wi64 (x11 + 1)) κ))
   else law22_LocksApart_h3 k j1 j2 j3 l key b0_0 b0_1 x6 x10 (wi64 (x11 + 1)) κ)
  else law22_LocksApart_h3 k j1 j2 j3 l key b0_0 b0_1 x6 x10 (wi64 (x11 + 1)) κ) := by kernel_rfl
theorem law22_LocksApart_r12_s (k j1 : Nat) (l : (Sl TCall)) (key : ByteArray) (x6 : Int) (r5 : Bool) (b0_0 : Sl TLock) (b0_1 : Sl TLock) (r12 : Bool) (κ : AV → Heap → Option ρ) : law22_LocksApart_r12 k j1 l key x6 r5 b0_0 b0_1 κ (.bool r12) =
  κ (.bool r12) [some (.box [.sl 5 b0_0.n (rowOf eLock b0_0.w) false, .sl 5 b0_1.n (rowOf eLock b0_1.w) false]), some (.box (eCall ⟨((l.w ((x6).toNat)).Go), ⟨(((l.w ((x6).toNat)).K).Tx), ⟨((((l.w ((x6).toNat)).K).R).From), ((((l.w ((x6).toNat)).K).R).To), ((((l.w ((x6).toNat)).K).R).End)⟩, (((l.w ((x6).toNat)).K).X)⟩⟩))] := by kernel_rfl
theorem law22_LocksApart_r13_s (k j1 : Nat) (l : (Sl TCall)) (key : ByteArray) (x6 : Int) (b0_0 : Sl TLock) (b0_1 : Sl TLock) (r13a : TLocks) (r13b : Sl Int) (r13c : Int) (κ : AV → Heap → Option ρ) : law22_LocksApart_r13 k j1 l key x6 b0_0 b0_1 κ (.tup [.agg (eLocks ⟨⟨r13a.Held.n, r13a.Held.w, false⟩, ⟨r13a.Waits.n, r13a.Waits.w, false⟩⟩), .sl 1 r13b.n (rowOf (eI .u64) r13b.w) false, .int .i64 r13c]) =
  (bif (((l.w ((x6).toNat)).K).X) then
   callP ctx k n_locks_Withdraw [.agg (eLocks ⟨⟨b0_0.n, b0_0.w, false⟩, ⟨b0_1.n, b0_1.w, false⟩⟩), .int .u64 (((l.w ((x6).toNat)).K).Tx)] (law22_LocksApart_r18 k j1 l key x6 b0_0 b0_1 r13a r13c κ)
  else (bif !decide (r13c = 0) then
    law22_LocksApart_h5 k j1 l key b0_0 b0_1 (wi64 (x6 + 1)) κ
   else callP ctx k n_locks_Check [.agg (eLocks ⟨⟨r13a.Held.n, r13a.Held.w, false⟩, ⟨r13a.Waits.n, r13a.Waits.w, false⟩⟩)] (law22_LocksApart_r19 k j1 l key x6 b0_0 b0_1 r13a r13c κ))) := by kernel_rfl
theorem law22_LocksApart_r14_s (k j1 : Nat) (l : (Sl TCall)) (key : ByteArray) (x6 : Int) (b0_0 : Sl TLock) (b0_1 : Sl TLock) (r14a : TLocks) (r14b : Bool) (r14c : Int) (κ : AV → Heap → Option ρ) : law22_LocksApart_r14 k j1 l key x6 b0_0 b0_1 κ (.tup [.agg (eLocks ⟨⟨r14a.Held.n, r14a.Held.w, false⟩, ⟨r14a.Waits.n, r14a.Waits.w, false⟩⟩), .bool r14b, .int .i64 r14c]) =
  (bif !decide (r14c = 0) then
   law22_LocksApart_h5 k j1 l key b0_0 b0_1 (wi64 (x6 + 1)) κ
  else callP ctx k n_locks_Check [.agg (eLocks ⟨⟨r14a.Held.n, r14a.Held.w, false⟩, ⟨r14a.Waits.n, r14a.Waits.w, false⟩⟩)] (law22_LocksApart_r20 k j1 l key x6 b0_0 b0_1 r14c r14c (!decide (r14c = 0)) ⟨r14a.Held.n, r14a.Held.w, false⟩ ⟨r14a.Waits.n, r14a.Waits.w, false⟩ ⟨r14a.Held.n, r14a.Held.w, false⟩ ⟨r14a.Waits.n, r14a.Waits.w, false⟩ ⟨r14a.Held.n, r14a.Held.w, false⟩ ⟨r14a.Waits.n, r14a.Waits.w, false⟩ κ)) := by kernel_rfl
theorem law22_LocksApart_r15_s (k j1 : Nat) (l : (Sl TCall)) (key : ByteArray) (x6 : Int) (r9a : TLocks) (r9c : Int) (r15a : TLocks) (r15b : Sl Int) (r15c : Int) (κ : AV → Heap → Option ρ) : law22_LocksApart_r15 k j1 l key x6 r9a r9c κ (.tup [.agg (eLocks ⟨⟨r15a.Held.n, r15a.Held.w, false⟩, ⟨r15a.Waits.n, r15a.Waits.w, false⟩⟩), .sl 1 r15b.n (rowOf (eI .u64) r15b.w) false, .int .i64 r15c]) =
  (bif !decide (r15c = 0) then
   law22_LocksApart_h0 k j1 l key (wi64 (x6 + 1)) κ
  else callP ctx k n_locks_Check [.agg (eLocks ⟨⟨r15a.Held.n, r15a.Held.w, false⟩, ⟨r15a.Waits.n, r15a.Waits.w, false⟩⟩)] (law22_LocksApart_r17 k j1 l key x6 r15c r15c (!decide (r15c = 0)) ⟨r15a.Held.n, r15a.Held.w, false⟩ ⟨r15a.Waits.n, r15a.Waits.w, false⟩ ⟨r15a.Held.n, r15a.Held.w, false⟩ ⟨r15a.Waits.n, r15a.Waits.w, false⟩ ⟨r15a.Held.n, r15a.Held.w, false⟩ ⟨r15a.Waits.n, r15a.Waits.w, false⟩ κ)) := by kernel_rfl
theorem law22_LocksApart_r16_s (k j1 : Nat) (l : (Sl TCall)) (key : ByteArray) (x6 : Int) (r9a : TLocks) (r9c : Int) (r16 : Int) (κ : AV → Heap → Option ρ) : law22_LocksApart_r16 k j1 l key x6 r9a r9c κ (.int .i64 r16) =
  (bif !decide (r16 = 0) then
   κ (.bool false) [some (.box [.sl 5 0 (rowOf eLock (fun _ => zLock)) true, .sl 5 0 (rowOf eLock (fun _ => zLock)) true]), some (.box [.sl 5 r9a.Held.n (rowOf eLock r9a.Held.w) false, .sl 5 r9a.Waits.n (rowOf eLock r9a.Waits.w) false])]
  else law22_LocksApart_h2 k j1 k l key ⟨r9a.Held.n, r9a.Held.w, false⟩ ⟨r9a.Waits.n, r9a.Waits.w, false⟩ 0 x6 κ) := by kernel_rfl
theorem law22_LocksApart_r17_s (k j1 : Nat) (l : (Sl TCall)) (key : ByteArray) (x6 : Int) (x9 : Int) (x74 : Int) (x75 : Bool) (x76_0 : Sl TLock) (x76_1 : Sl TLock) (b1_0 : Sl TLock) (b1_1 : Sl TLock) (xa0_0 : Sl TLock) (xa0_1 : Sl TLock) (r17 : Int) (κ : AV → Heap → Option ρ) : law22_LocksApart_r17 k j1 l key x6 x9 x74 x75 x76_0 x76_1 b1_0 b1_1 xa0_0 xa0_1 κ (.int .i64 r17) =
  (bif !decide (r17 = 0) then
   κ (.bool false) [some (.box [.sl 5 0 (rowOf eLock (fun _ => zLock)) true, .sl 5 0 (rowOf eLock (fun _ => zLock)) true]), some (.box [.sl 5 b1_0.n (rowOf eLock b1_0.w) false, .sl 5 b1_1.n (rowOf eLock b1_1.w) false])]
  else law22_LocksApart_h2 k j1 k l key ⟨b1_0.n, b1_0.w, false⟩ ⟨b1_1.n, b1_1.w, false⟩ 0 x6 κ) := by kernel_rfl
theorem law22_LocksApart_r18_s (k j1 : Nat) (l : (Sl TCall)) (key : ByteArray) (x6 : Int) (b0_0 : Sl TLock) (b0_1 : Sl TLock) (r13a : TLocks) (r13c : Int) (r18a : TLocks) (r18b : Sl Int) (r18c : Int) (κ : AV → Heap → Option ρ) : law22_LocksApart_r18 k j1 l key x6 b0_0 b0_1 r13a r13c κ (.tup [.agg (eLocks ⟨⟨r18a.Held.n, r18a.Held.w, false⟩, ⟨r18a.Waits.n, r18a.Waits.w, false⟩⟩), .sl 1 r18b.n (rowOf (eI .u64) r18b.w) false, .int .i64 r18c]) =
  (bif !decide (r18c = 0) then
   law22_LocksApart_h5 k j1 l key b0_0 b0_1 (wi64 (x6 + 1)) κ
  else callP ctx k n_locks_Check [.agg (eLocks ⟨⟨r18a.Held.n, r18a.Held.w, false⟩, ⟨r18a.Waits.n, r18a.Waits.w, false⟩⟩)] (law22_LocksApart_r20 k j1 l key x6 b0_0 b0_1 r18c r18c (!decide (r18c = 0)) ⟨r18a.Held.n, r18a.Held.w, false⟩ ⟨r18a.Waits.n, r18a.Waits.w, false⟩ ⟨r18a.Held.n, r18a.Held.w, false⟩ ⟨r18a.Waits.n, r18a.Waits.w, false⟩ ⟨r18a.Held.n, r18a.Held.w, false⟩ ⟨r18a.Waits.n, r18a.Waits.w, false⟩ κ)) := by kernel_rfl
theorem law22_LocksApart_r19_s (k j1 : Nat) (l : (Sl TCall)) (key : ByteArray) (x6 : Int) (b0_0 : Sl TLock) (b0_1 : Sl TLock) (r13a : TLocks) (r13c : Int) (r19 : Int) (κ : AV → Heap → Option ρ) : law22_LocksApart_r19 k j1 l key x6 b0_0 b0_1 r13a r13c κ (.int .i64 r19) =
  (bif !decide (r19 = 0) then
   κ (.bool false) [some (.box [.sl 5 b0_0.n (rowOf eLock b0_0.w) false, .sl 5 b0_1.n (rowOf eLock b0_1.w) false]), some (.box [.sl 5 r13a.Held.n (rowOf eLock r13a.Held.w) false, .sl 5 r13a.Waits.n (rowOf eLock r13a.Waits.w) false])]
  else law22_LocksApart_h2 k j1 k l key ⟨r13a.Held.n, r13a.Held.w, false⟩ ⟨r13a.Waits.n, r13a.Waits.w, false⟩ 0 x6 κ) := by kernel_rfl
theorem law22_LocksApart_r20_s (k j1 : Nat) (l : (Sl TCall)) (key : ByteArray) (x6 : Int) (b0_0 : Sl TLock) (b0_1 : Sl TLock) (x9 : Int) (x74 : Int) (x75 : Bool) (x76_0 : Sl TLock) (x76_1 : Sl TLock) (b1_0 : Sl TLock) (b1_1 : Sl TLock) (xa0_0 : Sl TLock) (xa0_1 : Sl TLock) (r20 : Int) (κ : AV → Heap → Option ρ) : law22_LocksApart_r20 k j1 l key x6 b0_0 b0_1 x9 x74 x75 x76_0 x76_1 b1_0 b1_1 xa0_0 xa0_1 κ (.int .i64 r20) =
  (bif !decide (r20 = 0) then
   κ (.bool false) [some (.box [.sl 5 b0_0.n (rowOf eLock b0_0.w) false, .sl 5 b0_1.n (rowOf eLock b0_1.w) false]), some (.box [.sl 5 b1_0.n (rowOf eLock b1_0.w) false, .sl 5 b1_1.n (rowOf eLock b1_1.w) false])]
  else law22_LocksApart_h2 k j1 k l key ⟨b1_0.n, b1_0.w, false⟩ ⟨b1_1.n, b1_1.w, false⟩ 0 x6 κ) := by kernel_rfl
theorem law22_LocksApart_e (k : Nat) (l : (Sl TCall)) (key : ByteArray) (κ : AV → Heap → Option ρ) : evalF ctx (k + 1) n_law22_LocksApart [.sl 6 l.n (rowOf eCall l.w) l.u, .str key] [] κ =
  (bif decide (600 < (key.size : Int)) then
   callP ctx k n_law22_head [] (law22_LocksApart_r0 k l key κ)
  else law22_LocksApart_h0 k k l key 0 κ) := by kernel_rfl
end Go.Proofs.YticcbbcgboddpaaC

set_option linter.unusedVariables false
set_option linter.unusedSimpArgs false
set_option maxRecDepth 20000
namespace Go.Proofs.YticcbbcgboddpaaC
open Go Go.Ev Go.Proofs
abbrev tbl (n : Nat) (v : Nat → TLock) (m : Nat) (w : Nat → TLock) : TLocks := ⟨⟨n, v, false⟩, ⟨m, w, false⟩⟩
theorem tbl_tab {n m : Nat} {v w : Nat → TLock} : checkB (tbl n v m w) = true ↔ Tab (lst n v) (lst m w) := check_tab (tbl n v m w)
theorem tbl_fit {n m : Nat} {v w : Nat → TLock} (h : checkB (tbl n v m w) = true) : n + m ≤ 200 ∧ TabP (lst n v) (lst m w) := by
  obtain ⟨h1, h2⟩ := tab_iff.1 (tbl_tab.1 h)
  rw [lst_len, lst_len] at h1
  exact ⟨h1, h2⟩
theorem tbl_of {n m : Nat} {v w : Nat → TLock} (h1 : n + m ≤ 200) (h2 : TabP (lst n v) (lst m w)) : checkB (tbl n v m w) = true := tbl_tab.2 (tab_iff.2 ⟨by rw [lst_len, lst_len]; exact h1, h2⟩)
theorem checkE_of {s : TLocks} (h : checkB s = true) : checkE' s = 0 := by unfold checkE'; rw [if_pos h]
theorem ask_tab {s : TLocks} {a : TLock} (hc : checkB s = true) (he : askE s a = 0) : Tab (askH s a) (askW s a) := by
  obtain ⟨hz, hp⟩ := tab_iff.1 ((check_tab s).1 hc)
  have hm : mayB a = true := by
    cases h : mayB a with
    | true => rfl
    | false => unfold askE at he; rw [hc, h, if_neg (by decide), if_pos rfl] at he; cases he
  have hw : waitL s.Waits.l a.Tx = false := by
    cases h : waitL s.Waits.l a.Tx with
    | false => rfl
    | true => unfold askE at he; rw [hc, hm, waitL_eq, h, if_neg (by decide), if_neg (by decide), if_pos rfl] at he; cases he
  unfold askH askW
  have hne : ¬ (askE s a ≠ 0) := fun h => h he
  rw [if_neg hne, if_neg hne]
  cases hv : coveredB s a with
  | true =>
    rw [if_neg (by simp), if_pos (by simp)]
    exact tab_iff.2 ⟨hz, hp⟩
  | false =>
    have h200 : s.Held.n + s.Waits.n ≠ 200 := by
      intro h
      unfold askE at he
      rw [hc, hm, waitL_eq, hw, hv, if_neg (by decide), if_neg (by decide), if_neg (by decide), if_neg (by decide), if_pos h] at he
      cases he
    have l1 : s.Held.l.length = s.Held.n := lst_len _ _
    have l2 : s.Waits.l.length = s.Waits.n := lst_len _ _
    cases ho : okB s a with
    | true =>
      rw [if_pos (by simp), if_pos (by simp)]
      rw [okL_eq] at ho
      exact tab_iff.2 ⟨by rw [List.length_append, List.length_singleton]; omega, hp.grant hm (grants_true ho).1⟩
    | false =>
      rw [if_neg (by simp), if_neg (by simp)]
      rw [okL_eq] at ho
      exact tab_iff.2 ⟨by rw [List.length_append, List.length_singleton]; omega, hp.queue hm (waitL_false hw) ho⟩
theorem serve_len (A R : List TLock) : (A ++ (serveF A [] [] R).1).length + (serveF A [] [] R).2.length = A.length + R.length := by
  have := serveF_len A R [] []
  simp only [List.length_nil, List.length_append] at *
  omega
/-- Release of a right table gives a right one -/
theorem rel_fit {s : TLocks} (hc : checkB s = true) (tx : Int) : checkB ⟨lsl (othL s.Held.l tx ++ (serveF (othL s.Held.l tx) [] [] (othL s.Waits.l tx)).1), lsl (serveF (othL s.Held.l tx) [] [] (othL s.Waits.l tx)).2⟩ = true := by
  obtain ⟨hz, hp⟩ := tab_iff.1 ((check_tab s).1 hc)
  refine (check_tab _).2 (tab_iff.2 ⟨?_, ?_⟩)
  · show (lst _ (gd zLock _)).length + (lst _ (gd zLock _)).length ≤ 200
    rw [gd_lst, gd_lst, serve_len]
    have := oth_le s.Held.l tx; have := oth_le s.Waits.l tx; omega
  · show TabP (lst _ (gd zLock _)) (lst _ (gd zLock _))
    rw [gd_lst, gd_lst]
    exact serve_tab0 hp (oth_sub _ _) (oth_sub _ _)
theorem wit_fit {s : TLocks} (hc : checkB s = true) (tx : Int) {n : Nat} {v : Nat → TLock} (hv : lst n v = s.Held.l ++ (serveF s.Held.l [] [] (othL s.Waits.l tx)).1) : checkB ⟨⟨n, v, false⟩, lsl (serveF s.Held.l [] [] (othL s.Waits.l tx)).2⟩ = true := by
  obtain ⟨hz, hp⟩ := tab_iff.1 ((check_tab s).1 hc)
  refine (check_tab _).2 (tab_iff.2 ⟨?_, ?_⟩)
  · show (lst n v).length + (lst _ (gd zLock _)).length ≤ 200
    rw [gd_lst, hv, serve_len]
    have := oth_le s.Waits.l tx; omega
  · show TabP (lst n v) (lst _ (gd zLock _))
    rw [gd_lst, hv]
    exact serve_tab0 hp (List.Sublist.refl _) (oth_sub _ _)
theorem locksApart_pure (l : Sl TCall) (key : ByteArray) (h0 : (SSl 64 SCall) l) (h1 : SStr key) : ∃ k, evalF ctx k n_law22_LocksApart [.sl 6 l.n (rowOf eCall l.w) l.u, .str key] [] (fun v _ => some v) = some (.bool true) := by
  suffices h : ∀ K, l.n + 3000 ≤ K → ∀ (κ : AV → Heap → Option Bool), (∀ b H, κ (.bool b) H = some b) → evalF ctx (K + 1) n_law22_LocksApart [.sl 6 l.n (rowOf eCall l.w) l.u, .str key] [] κ = some true by
    exact ⟨l.n + 3000 + 1, told_true (h (l.n + 3000) (Nat.le_refl _))⟩
  intro K hK κ hκ
  have hh : ∀ κ : AV → Option Bool, callP ctx K n_law22_head [] κ = κ (.bool true) := by
    intro κ
    obtain ⟨K0, rfl⟩ : ∃ K0, K = K0 + 300 := ⟨K - 300, by omega⟩
    exact head_ok K0 κ
  -- all released, one by one
  have last : ∀ (N j x n m : Nat) (v w : Nat → TLock), n + m ≤ N → N + x ≤ 200 → N < j → checkB (tbl n v m w) = true → law22_LocksApart_h6 K j (x : Int) ⟨n, v, false⟩ ⟨m, w, false⟩ κ = some true := by
    intro N
    induction N with
    | zero =>
      intro j x n m v w h1 h2 h3 hc
      obtain ⟨j, rfl⟩ : ∃ j', j = j' + 1 := ⟨j - 1, by omega⟩
      rw [law22_LocksApart_h6_s]
      dsimp only
      rw [wi64_in (by omega) (by omega), dec_f (by omega), cond_false, hh, law22_LocksApart_r7_s, hκ]
    | succ N ih =>
      intro j x n m v w h1 h2 h3 hc
      obtain ⟨j, rfl⟩ : ∃ j', j = j' + 1 := ⟨j - 1, by omega⟩
      rw [law22_LocksApart_h6_s]
      dsimp only
      rw [wi64_in (by omega) (by omega)]
      by_cases h0 : n + m = 0
      · rw [dec_f (by omega), cond_false, hh, law22_LocksApart_r7_s, hκ]
      · obtain ⟨hz, hp⟩ := tbl_fit hc
        have hn : 0 < n := by
          have := held_some hp (by rw [lst_len, lst_len]; omega)
          rwa [lst_len] at this
        rw [dec_t (by omega), cond_true, dec_f (by omega), cond_false, dec_f (by omega), cond_false, idx_ok (by omega) (by omega), cond_true]
        rw [rel_ok K (tbl n v m w) (v 0).Tx hc (by dsimp only; omega)]
        have hA := oth_lt (v := v) hn
        have hR : (othL (lst m w) (v 0).Tx).length ≤ m := by have := oth_le (lst m w) (v 0).Tx; rwa [lst_len] at this
        have hs := serve_len (othL (lst n v) (v 0).Tx) (othL (lst m w) (v 0).Tx)
        have hf := rel_fit hc (v 0).Tx
        have hg := serveF_len (othL (lst n v) (v 0).Tx) (othL (lst m w) (v 0).Tx) [] []
        simp only [List.length_nil] at hg
        unfold svT tabT
        show law22_LocksApart_r6 K j ⟨n, v, false⟩ ⟨m, w, false⟩ (x : Int) κ (.tup [.agg (eLocks ⟨lsl (othL (lst n v) (v 0).Tx ++ (serveF (othL (lst n v) (v 0).Tx) [] [] (othL (lst m w) (v 0).Tx)).1), lsl (serveF (othL (lst n v) (v 0).Tx) [] [] (othL (lst m w) (v 0).Tx)).2⟩), .sl 1 (txs (serveF (othL (lst n v) (v 0).Tx) [] [] (othL (lst m w) (v 0).Tx)).1).length (rowOf (eI .u64) (gd 0 (txs (serveF (othL (lst n v) (v 0).Tx) [] [] (othL (lst m w) (v 0).Tx)).1))) false, .int .i64 0]) = _
        change checkB ⟨lsl (othL (lst n v) (v 0).Tx ++ (serveF (othL (lst n v) (v 0).Tx) [] [] (othL (lst m w) (v 0).Tx)).1), lsl (serveF (othL (lst n v) (v 0).Tx) [] [] (othL (lst m w) (v 0).Tx)).2⟩ = true at hf
        generalize serveF (othL (lst n v) (v 0).Tx) [] [] (othL (lst m w) (v 0).Tx) = S at *
        obtain ⟨G, W'⟩ := S
        dsimp only at *
        refine (law22_LocksApart_r6_s K j ⟨n, v, false⟩ ⟨m, w, false⟩ (x : Int) ⟨lsl (othL (lst n v) (v 0).Tx ++ G), lsl W'⟩ ⟨(txs G).length, gd 0 (txs G), false⟩ 0 κ).trans ?_
        dsimp only
        rw [dec_int, Bool.not_true, cond_false, len_tx, wi64_in (n := (n : Int) + (m : Int)) (by omega) (by omega), wi64_in (n := ((othL (lst n v) (v 0).Tx ++ G).length : Int) + (W'.length : Int)) (by omega) (by omega), dec_f (by omega), cond_false, dec_f (by omega), cond_false, wi64_succ (by omega)]
        exact ih j (x + 1) _ _ _ _ (by omega) (by omega) (by omega) hf
  -- behind a call
  have aft : ∀ (j1 i n m : Nat) (v w : Nat → TLock), checkB (tbl n v m w) = true → law22_LocksApart_h2 K j1 K l key ⟨n, v, false⟩ ⟨m, w, false⟩ 0 (i : Int) κ = law22_LocksApart_h5 K j1 l key ⟨n, v, false⟩ ⟨m, w, false⟩ (wi64 ((i : Int) + 1)) κ := by
    intro j1 i n m v w hc
    obtain ⟨hz, hp⟩ := tbl_fit hc
    have has : ∀ (a : Nat) (κ' : AV → Option Bool), callP ctx K n_r03_Has [.agg (eRange ⟨(((v (((a : Nat) : Int)).toNat).R).From), (((v (((a : Nat) : Int)).toNat).R).To), (((v (((a : Nat) : Int)).toNat).R).End)⟩), .str key] κ' = κ' (.bool (rHas (v a).R key)) := fun a κ' => r03_Has_ok' K (v a).R key (by omega) κ'
    have wait : ∀ (j c : Nat), c ≤ m → m < c + j → law22_LocksApart_h4 K j1 j l key ⟨n, v, false⟩ ⟨m, w, false⟩ (c : Int) (i : Int) κ = law22_LocksApart_h5 K j1 l key ⟨n, v, false⟩ ⟨m, w, false⟩ (wi64 ((i : Int) + 1)) κ := by
      intro j
      induction j with
      | zero => intro c h1 h2; omega
      | succ j ih =>
        intro c h1 h2
        rw [law22_LocksApart_h4_s]
        dsimp only
        by_cases hcm : c < m
        · obtain ⟨q, u, f1, f2, f3⟩ := Blockers_ok (ρ := Bool) K (tbl n v m w) c hc hcm (fun j hj e => by
            have := List.pairwise_iff_getElem.1 hp.one j c (by rw [lst_len]; omega) (by rw [lst_len]; omega) hj
            rw [lst_get, lst_get] at this
            exact this e) (by omega)
          have hq : q ≠ 0 := by
            intro e
            subst e
            have := blk_some hp hcm
            obtain ⟨t, ht⟩ := List.exists_mem_of_ne_nil _ this
            have := (f2 t).2 ht
            simp [lst] at this
          have f3' : ∀ κ' : AV → Option Bool, callP ctx K n_locks_Blockers [.agg (eLocks ⟨⟨n, v, false⟩, ⟨m, w, false⟩⟩), .int .u64 ((w (((c : Nat) : Int)).toNat).Tx)] κ' = κ' (.sl 1 q (rowOf (eI .u64) u) false) := f3
          rw [dec_t (by omega), cond_true, idx_ok (by omega) (by omega), cond_true, f3']
          refine (law22_LocksApart_r4_s K j1 j l key (i : Int) ⟨n, v, false⟩ ⟨m, w, false⟩ (c : Int) ⟨q, u, false⟩ κ).trans ?_
          dsimp only
          rw [dec_f (by omega), cond_false, wi64_succ (by omega)]
          exact ih (c + 1) (by omega) (by omega)
        · rw [dec_f (by omega), cond_false]
    have held : ∀ (j2 a : Nat), a ≤ n → n < a + j2 → law22_LocksApart_h2 K j1 j2 l key ⟨n, v, false⟩ ⟨m, w, false⟩ (a : Int) (i : Int) κ = law22_LocksApart_h4 K j1 K l key ⟨n, v, false⟩ ⟨m, w, false⟩ 0 (i : Int) κ := by
      intro j2
      induction j2 with
      | zero => intro a h1 h2; omega
      | succ j2 ih =>
        intro a h1 h2
        rw [law22_LocksApart_h2_s]
        dsimp only
        by_cases han : a < n
        · rw [dec_t (by omega), cond_true]
          have row : ∀ (j3 b : Nat), b ≤ a → a < b + j3 → law22_LocksApart_h3 K j1 j2 j3 l key ⟨n, v, false⟩ ⟨m, w, false⟩ (i : Int) (a : Int) (b : Int) κ = law22_LocksApart_h2 K j1 j2 l key ⟨n, v, false⟩ ⟨m, w, false⟩ (wi64 ((a : Int) + 1)) (i : Int) κ := by
            intro j3
            induction j3 with
            | zero => intro b h1 h2; omega
            | succ j3 ih3 =>
              intro b g1 g2
              rw [law22_LocksApart_h3_s]
              dsimp only
              by_cases hba : b < a
              · have hag := held_apart hp han hba
                have next := ih3 (b + 1) (by omega) (by omega)
                rw [dec_t (by omega), cond_true, idx_ok (i := (a : Int)) (by omega) (by omega), cond_true, idx_ok (by omega) (by omega), cond_true, has, law22_LocksApart_r3_s]
                dsimp only
                rw [wi64_succ (i := b) (by omega)]
                cases ha : rHas (v a).R key with
                | false => exact next
                | true =>
                  rw [cond_true, has, law22_LocksApart_r11_s]
                  dsimp only
                  rw [wi64_succ (i := b) (by omega), Int.toNat_natCast, Int.toNat_natCast]
                  cases hb : rHas (v b).R key with
                  | false => exact next
                  | true =>
                    rw [cond_true]
                    by_cases ht : (v a).Tx = (v b).Tx
                    · rw [dec_t ht, Bool.not_true, cond_false]; exact next
                    · unfold againstB at hag
                      rw [decide_eq_false ht, both_meet ha hb, Bool.not_false, Bool.true_and, Bool.and_true, Bool.or_eq_false_iff] at hag
                      rw [dec_f ht, Bool.not_false, cond_true, hag.1, hag.2, cond_false, cond_false]; exact next
              · rw [dec_f (by omega), cond_false]
          have := row K 0 (by omega) (by omega)
          refine this.trans ?_
          rw [wi64_succ (by omega)]
          exact ih (a + 1) (by omega) (by omega)
        · rw [dec_f (by omega), cond_false]
    have := held K 0 (by omega) (by omega)
    refine this.trans ?_
    exact wait K 0 (by omega) (by omega)
  have hchk : ∀ (n m : Nat) (v w : Nat → TLock) (κ' : AV → Option Bool), checkB (tbl n v m w) = true → callP ctx K n_locks_Check [.agg (eLocks ⟨⟨n, v, false⟩, ⟨m, w, false⟩⟩)] κ' = κ' (.int .i64 0) := by
    intro n m v w κ' hc
    obtain ⟨hz, hp⟩ := tbl_fit hc
    rw [locks_Check_ok K (tbl n v m w) (by dsimp only; omega) (by dsimp only; omega) (by dsimp only; omega), checkE_of hc]
  have gr : ∀ (i : Nat) (κ' : AV → Option Bool), callP ctx K n_law22_great [.agg (eLock ⟨(((l.w (((i : Nat) : Int)).toNat).K).Tx), ⟨((((l.w (((i : Nat) : Int)).toNat).K).R).From), ((((l.w (((i : Nat) : Int)).toNat).K).R).To), ((((l.w (((i : Nat) : Int)).toNat).K).R).End)⟩, (((l.w (((i : Nat) : Int)).toNat).K).X)⟩)] κ' = κ' (.bool (decide (2000 < (l.w i).K.R.From.size) || decide (2000 < (l.w i).K.R.To.size))) := fun i κ' => great_ok K (l.w i).K (by omega) κ'
  have more : ∀ (j i n m : Nat) (v w : Nat → TLock), i ≤ l.n → l.n < i + j → checkB (tbl n v m w) = true → law22_LocksApart_h5 K j l key ⟨n, v, false⟩ ⟨m, w, false⟩ (i : Int) κ = some true := by
    intro j
    induction j with
    | zero => intro i n m v w h1 h2; omega
    | succ j ih =>
      intro i n m v w h1 h2 hc
      obtain ⟨hz, hp⟩ := tbl_fit hc
      rw [law22_LocksApart_h5_s]
      dsimp only
      have hend := last (n + m) K 0 n m v w (Nat.le_refl _) (by omega) (by omega) hc
      by_cases hi : i < l.n
      · rw [dec_t (show (i : Int) < (l.n : Int) by omega), cond_true]
        by_cases h60 : i < 60
        · rw [dec_t (show (i : Int) < 60 by omega), cond_true, idx_ok (by omega) (by omega), cond_true, gr, law22_LocksApart_r5_s]
          cases (decide (2000 < (l.w i).K.R.From.size) || decide (2000 < (l.w i).K.R.To.size)) with
          | true => rw [cond_true, hh, law22_LocksApart_r12_s, hκ]
          | false =>
            rw [cond_false, Int.toNat_natCast]
            dsimp only
            cases hgo : (l.w i).Go with
            | true =>
              rw [cond_true, rel_ok K (tbl n v m w) (l.w i).K.Tx hc (by dsimp only; omega)]
              refine (law22_LocksApart_r13_s K j l key (i : Int) ⟨n, v, false⟩ ⟨m, w, false⟩ ⟨lsl (othL (lst n v) (l.w i).K.Tx ++ (serveF (othL (lst n v) (l.w i).K.Tx) [] [] (othL (lst m w) (l.w i).K.Tx)).1), lsl (serveF (othL (lst n v) (l.w i).K.Tx) [] [] (othL (lst m w) (l.w i).K.Tx)).2⟩ ⟨_, gd 0 (txs (serveF (othL (lst n v) (l.w i).K.Tx) [] [] (othL (lst m w) (l.w i).K.Tx)).1), false⟩ 0 κ).trans ?_
              rw [Int.toNat_natCast]
              dsimp only
              cases hx : (l.w i).K.X with
              | true =>
                obtain ⟨n', v', hv', c'⟩ := wit_ok (ρ := Bool) K (tbl n v m w) (l.w i).K.Tx hc (by dsimp only; omega)
                rw [cond_true, c']
                have hf := wit_fit hc (l.w i).K.Tx hv'
                generalize serveF (tbl n v m w).Held.l [] [] (othL (tbl n v m w).Waits.l (l.w i).K.Tx) = S at *
                refine (law22_LocksApart_r18_s K j l key (i : Int) ⟨n, v, false⟩ ⟨m, w, false⟩ _ 0 ⟨⟨n', v', false⟩, lsl S.2⟩ ⟨_, gd 0 (txs S.1), false⟩ 0 κ).trans ?_
                rw [dec_int, Bool.not_true, cond_false]
                dsimp only
                rw [hchk _ _ _ _ _ hf, law22_LocksApart_r20_s, dec_int, Bool.not_true, cond_false]
                refine (aft j i _ _ _ _ hf).trans ?_
                rw [wi64_succ (by omega)]
                exact ih (i + 1) _ _ _ _ (by omega) (by omega) hf
              | false =>
                have hf := rel_fit hc (l.w i).K.Tx
                rw [cond_false, dec_int, Bool.not_true, cond_false]
                refine (hchk _ _ _ _ _ hf).trans ?_
                rw [law22_LocksApart_r19_s, dec_int, Bool.not_true, cond_false]
                refine (aft j i _ _ _ _ hf).trans ?_
                rw [wi64_succ (by omega)]
                exact ih (i + 1) _ _ _ _ (by omega) (by omega) hf
            | false =>
              rw [cond_false]
              obtain ⟨n', v', m', w', q1, q2, q3⟩ := Ask_ok (ρ := Bool) K (tbl n v m w) (l.w i).K (by dsimp only; omega) (by dsimp only; omega) (by dsimp only; omega)
              refine (q3 _).trans ?_
              refine (law22_LocksApart_r14_s K j l key (i : Int) ⟨n, v, false⟩ ⟨m, w, false⟩ ⟨⟨n', v', false⟩, ⟨m', w', false⟩⟩ _ _ κ).trans ?_
              by_cases he : askE (tbl n v m w) (l.w i).K = 0
              · have hf : checkB (tbl n' v' m' w') = true := by
                  refine tbl_tab.2 ?_
                  rw [q1, q2]; exact ask_tab hc he
                rw [dec_t he, Bool.not_true, cond_false, hchk _ _ _ _ _ hf, law22_LocksApart_r20_s, dec_int, Bool.not_true, cond_false]
                refine (aft j i _ _ _ _ hf).trans ?_
                rw [wi64_succ (by omega)]
                exact ih (i + 1) _ _ _ _ (by omega) (by omega) hf
              · rw [dec_f he, Bool.not_false, cond_true, wi64_succ (by omega)]
                exact ih (i + 1) _ _ _ _ (by omega) (by omega) hc
        · rw [dec_f (show ¬ (i : Int) < 60 by omega), cond_false]; exact hend
      · rw [dec_f (by omega), cond_false]; exact hend
  have hz0 : checkB zLocks = true := (check_tab zLocks).2 tab_nil
  have first : ∀ (j i : Nat), i ≤ l.n → l.n < i + j → law22_LocksApart_h0 K j l key (i : Int) κ = some true := by
    intro j
    induction j with
    | zero => intro i h1 h2; omega
    | succ j ih =>
      intro i h1 h2
      rw [law22_LocksApart_h0_s]
      have hend : law22_LocksApart_h1 K K κ = some true := by
        obtain ⟨K', rfl⟩ : ∃ K', K = K' + 1 := ⟨K - 1, by omega⟩
        rw [law22_LocksApart_h1_s, hh, law22_LocksApart_r2_s, hκ]
      by_cases hi : i < l.n
      · rw [dec_t (show (i : Int) < (l.n : Int) by omega), cond_true]
        by_cases h60 : i < 60
        · rw [dec_t (show (i : Int) < 60 by omega), cond_true, idx_ok (by omega) (by omega), cond_true, gr, law22_LocksApart_r1_s]
          cases (decide (2000 < (l.w i).K.R.From.size) || decide (2000 < (l.w i).K.R.To.size)) with
          | true => rw [cond_true, hh, law22_LocksApart_r8_s, hκ]
          | false =>
            rw [cond_false, Int.toNat_natCast]
            cases hgo : (l.w i).Go with
            | true =>
              rw [cond_true, rel_ok K zLocks (l.w i).K.Tx hz0 (by show 0 + 0 + 100 ≤ K; omega)]
              refine (law22_LocksApart_r9_s K j l key (i : Int) ⟨lsl (othL zLocks.Held.l (l.w i).K.Tx ++ (serveF (othL zLocks.Held.l (l.w i).K.Tx) [] [] (othL zLocks.Waits.l (l.w i).K.Tx)).1), lsl (serveF (othL zLocks.Held.l (l.w i).K.Tx) [] [] (othL zLocks.Waits.l (l.w i).K.Tx)).2⟩ ⟨_, gd 0 (txs (serveF (othL zLocks.Held.l (l.w i).K.Tx) [] [] (othL zLocks.Waits.l (l.w i).K.Tx)).1), false⟩ 0 κ).trans ?_
              rw [Int.toNat_natCast]
              dsimp only
              cases hx : (l.w i).K.X with
              | true =>
                obtain ⟨n', v', hv', c'⟩ := wit_ok (ρ := Bool) K zLocks (l.w i).K.Tx hz0 (by show 0 + 0 + 100 ≤ K; omega)
                rw [cond_true, c']
                have hf := wit_fit hz0 (l.w i).K.Tx hv'
                generalize serveF zLocks.Held.l [] [] (othL zLocks.Waits.l (l.w i).K.Tx) = S at *
                refine (law22_LocksApart_r15_s K j l key (i : Int) _ 0 ⟨⟨n', v', false⟩, lsl S.2⟩ ⟨_, gd 0 (txs S.1), false⟩ 0 κ).trans ?_
                rw [dec_int, Bool.not_true, cond_false]
                dsimp only
                rw [hchk _ _ _ _ _ hf, law22_LocksApart_r17_s, dec_int, Bool.not_true, cond_false]
                refine (aft j i _ _ _ _ hf).trans ?_
                rw [wi64_succ (by omega)]
                exact more j (i + 1) _ _ _ _ (by omega) (by omega) hf
              | false =>
                have hf := rel_fit hz0 (l.w i).K.Tx
                rw [cond_false, dec_int, Bool.not_true, cond_false]
                refine (hchk _ _ _ _ _ hf).trans ?_
                rw [law22_LocksApart_r16_s, dec_int, Bool.not_true, cond_false]
                refine (aft j i _ _ _ _ hf).trans ?_
                rw [wi64_succ (by omega)]
                exact more j (i + 1) _ _ _ _ (by omega) (by omega) hf
            | false =>
              rw [cond_false]
              obtain ⟨n', v', m', w', q1, q2, q3⟩ := Ask_ok (ρ := Bool) K zLocks (l.w i).K (by show 0 ≤ _; omega) (by show 0 ≤ _; omega) (by show 0 + 0 + 80 ≤ K; omega)
              refine (q3 _).trans ?_
              refine (law22_LocksApart_r10_s K j l key (i : Int) ⟨⟨n', v', false⟩, ⟨m', w', false⟩⟩ _ _ κ).trans ?_
              by_cases he : askE zLocks (l.w i).K = 0
              · have hf : checkB (tbl n' v' m' w') = true := by
                  refine tbl_tab.2 ?_
                  rw [q1, q2]; exact ask_tab hz0 he
                rw [dec_t he, Bool.not_true, cond_false, hchk _ _ _ _ _ hf, law22_LocksApart_r17_s, dec_int, Bool.not_true, cond_false]
                refine (aft j i _ _ _ _ hf).trans ?_
                rw [wi64_succ (by omega)]
                exact more j (i + 1) _ _ _ _ (by omega) (by omega) hf
              · rw [dec_f he, Bool.not_false, cond_true, wi64_succ (by omega)]
                exact ih (i + 1) (by omega) (by omega)
        · rw [dec_f (show ¬ (i : Int) < 60 by omega), cond_false]; exact hend
      · rw [dec_f (by omega), cond_false]; exact hend
  refine (law22_LocksApart_e K l key κ).trans ?_
  by_cases hkey : 600 < key.size
  · rw [dec_t (by omega), cond_true, hh, law22_LocksApart_r0_s, hκ]
  · rw [dec_f (by omega), cond_false]
    exact first K 0 (by omega) (by omega)
end Go.Proofs.YticcbbcgboddpaaC

namespace Go.Proofs.Yticcbbcgboddpaa.locksApart
open Go Go.ChangeShapes Go.WideShapes Go.ChangeAt Go.RowKit Go.Ev Go.Proofs.YticcbbcgboddpaaC
open Go.ChangeMaps (open_string shut_string)
set_option linter.unusedVariables false
theorem own : ownKnob Try.prog.godebug = none := by kernel_rfl
theorem laidOut : laidOutB Try.prog = true := by kernel_rfl
set_option maxRecDepth 100000 in
theorem lifted (os : Os) (started : os.Started) (H : Type) (enc : TypeId × Value → H) :
    ReturnsInHanded {} Try.checked os 7 .any (Rows.locksApartSpec.pre6 enc Try.prog Try.f7 Rows.locksApartRow.domain false) (Rows.locksApartSpec.post enc Try.prog Try.f7 false true false false) := by
  refine returnsInHanded_of_change_sized (C := Try.checked) own started (by kernel_rfl) Try.func7
    (ChangeSpec.witness6 (enc := enc) (C := Try.checked) false ⟨#[], #[.slice none 0 0, .string ByteArray.empty], []⟩ 8 (by kernel_rfl) (by kernel_rfl) (by kernel_rfl) (by kernel_rfl)) ?_
  intro W base args ds gs before hval0 hW hcnd hsz0 _
  have hsz : (DataW.weightsEach Try.prog (Try.f7.params.toList ++ Rows.locksApartSpec.plain.varTypes Try.prog) (ds ++ gs)).all (· ≤ reachBytes) = true := hsz0
  have hval : ∀ (j : Nat) t v, Try.f7.params[j]? = some t → args[j]? = some v → Value.okWide Try.prog W .any base t v := hval0
  have hW' := hW
  obtain ⟨p, q, hA0, hV, rfl, hfz, hnd⟩ := hW
  have hA : DataW.TrodAll enc Try.prog W 0 (fun _ => true) true Try.f7.params.toList args.toList ds p := hA0
  rw [Try.params7] at hA hval hsz
  obtain ⟨v0, vs0, d0, ds0, p0, q0, hargs, rfl, rfl, h0, r0⟩ := trodAll_cons hA
  obtain ⟨v1, vs1, d1, ds1, p1, q1, rfl, rfl, rfl, h1, r1⟩ := trodAll_cons r0
  obtain ⟨rfl, rfl, rfl⟩ := trodAll_nil r1
  obtain rfl : args = #[v0, v1] := by cases args; simp_all
  obtain ⟨rfl, rfl⟩ := trodVars_none hV
  have k0 := h0
  have lt0 : ∀ x ∈ p0, x.block < W.heap.size := by obtain ⟨m, hm⟩ := k0; exact DataW.trod_lt m _ _ _ hm
  obtain ⟨a0, hK0, hS0⟩ := opened (j := 0) (t := 43) (Opens.eL Try.underlying43 rfl rfl (by decide) opens45) hsz rfl rfl h0
  obtain ⟨a1, rfl, rfl, rfl, y1⟩ := open_string Try.underlying9 (hval 1 9 v1 rfl rfl) h1
  have hS1 : a1.size ≤ 140737488351232 := by
    have z := sized_string hsz (j := 1) (t := 9) rfl rfl
    rw [Array.length_toList] at z
    exact z
  clear hA0 hval0 hsz0
  obtain ⟨k, h⟩ := locksApart_pure a0 a1 hS0 hS1
  refine (top ((arg_slice Try.underlying43 (hval 0 43 v0 rfl rfl) hK0).append ((Cells.one (@R.str free _ _ _ a1)))) h).mono fun e W' ⟨he, bel⟩ => ?_
  subst he
  exact ⟨_, rfl, _, _, _, [], _, [], hW', trodAll_mk1 (shut_bool Try.underlying4 _), (trodAll_cons_mk (Below.trod laidOut (by kernel_rfl) (of_decide_eq_true (by kernel_rfl)) k0 bel lt0) (trodAll_cons_mk (shut_string Try.underlying9 y1) trodAll_mk0)), rfl, bel.frame _, fun h => by cases h⟩
theorem over : Rows.locksApartRow.holds Try.pinned (OpenSpec.ofChange Rows.locksApartSpec) :=
  OpenClaim.holds_of_wide 7 Try.f7 rfl rfl rfl rfl rfl rfl rfl ⟨rfl, rfl, rfl, rfl, rfl⟩ rfl rfl rfl rfl rfl (by kernel_rfl) Try.func7 (by kernel_rfl)
    (of_decide_eq_true (by kernel_rfl)) (by unfold Func.isWrapper; first | (rw [if_pos (by decide +kernel)]; kernel_rfl) | (rw [if_neg (by decide +kernel)]; exact ⟨rfl, rfl⟩))
    (fun os started H enc _ => lifted os started H enc)
theorem proved : Rows.LocksApartSaid := over
end Go.Proofs.Yticcbbcgboddpaa.locksApart
namespace Go.Proofs.Yticcbbcgboddpaa
/-- The row, under a short name, for the claim. -/
theorem locksApart_holds : Rows.LocksApartSaid := locksApart.proved
#print axioms locksApart_holds
end Go.Proofs.Yticcbbcgboddpaa
