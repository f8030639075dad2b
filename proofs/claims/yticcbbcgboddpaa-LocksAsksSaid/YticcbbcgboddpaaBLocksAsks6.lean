/- For every two tables and every lock Check, Conflict, Same, Blockers and Holds tell what the document says: the law's function hands back true and leaves what it was handed. No conditions. -/
import Derived.Test.YticcbbcgboddpaaBLocksAsks5
import Derived.KernelRfl
import Derived.Test.YticcbbcgboddpaaRows
import Derived.WalkKit
import Derived.ProofKit
import Derived.OpenShut
import Derived.ShutString
import Derived.ChangeOld
import Derived.Below
import Derived.SizedLaws
import Derived.Carry
set_option linter.unusedVariables false
set_option linter.unusedSimpArgs false
set_option maxRecDepth 20000
namespace Go.Proofs.YticcbbcgboddpaaC
open Go Go.Ev Go.Proofs
variable {ρ : Type}
theorem cat0 {α : Type} (f : α → List AV) (v w : Nat → α) : catRow 0 (rowOf f v) (rowOf f w) = rowOf f w := by
  rw [cat_row]; apply row_ext; funext i; unfold catW; rw [if_neg (by omega)]; rfl
theorem room56 {n : Nat} (h : n ≤ 100000) : roomOf (0 + n) 56 = true := by
  have h1 : (0 + n) * 56 ≤ 100000 * 56 := Nat.mul_le_mul (by omega) (Nat.le_refl _)
  exact room_of (Nat.le_trans h1 (by decide)) (by omega)
theorem room8 {n : Nat} (h : n ≤ 100000) : roomOf n 8 = true := by
  have h1 : n * 8 ≤ 100000 * 8 := Nat.mul_le_mul (by omega) (Nat.le_refl _)
  exact room_of (Nat.le_trans h1 (by decide)) (by omega)
theorem r22_Copy_ok (k : Nat) (s : TLocks) (hn : s.Held.n ≤ 10000) (hm : s.Waits.n ≤ 10000) (hk : 1 ≤ k) :
    ∃ v w : Nat → TLock, (∀ i, i < s.Held.n → v i = s.Held.w i) ∧ (∀ i, i < s.Waits.n → w i = s.Waits.w i) ∧ ∀ κ : AV → Option ρ, callP ctx k n_r22_Copy [.agg (eLocks s)] κ = κ (.agg (eLocks ⟨⟨s.Held.n, v, false⟩, ⟨s.Waits.n, w, false⟩⟩)) := by
  obtain ⟨k, rfl⟩ : ∃ k', k = k' + 1 := ⟨k - 1, by omega⟩
  by_cases h1 : s.Held.n = 0
  · by_cases h2 : s.Waits.n = 0
    · refine ⟨fun _ => zLock, fun _ => zLock, fun i hi => by omega, fun i hi => by omega, fun κ => ?_⟩
      rw [callP_eq]
      refine (r22_Copy_e k s (pk κ)).trans ?_
      rw [dec_t h1, cond_true, dec_t h2, cond_true, h1, h2]; rfl
    · refine ⟨fun _ => zLock, s.Waits.w, fun i hi => by omega, fun i hi => rfl, fun κ => ?_⟩
      rw [callP_eq]
      refine (r22_Copy_e k s (pk κ)).trans ?_
      rw [dec_t h1, cond_true, dec_f h2, cond_false, room56 (by omega), cond_true, cat0]
      show κ (.agg [.sl 5 0 (rowOf eLock (fun _ => zLock)) false, .sl 5 (0 + s.Waits.n) (fun i => rowOf eLock s.Waits.w (0 + i)) false]) = _
      rw [zrow, Nat.zero_add, h1]; rfl
  · by_cases h2 : s.Waits.n = 0
    · refine ⟨s.Held.w, fun _ => zLock, fun i hi => rfl, fun i hi => by omega, fun κ => ?_⟩
      rw [callP_eq]
      refine (r22_Copy_e k s (pk κ)).trans ?_
      rw [dec_f h1, cond_false, room56 (by omega), cond_true, dec_t h2, cond_true, cat0]
      show κ (.agg [.sl 5 (0 + s.Held.n) (fun i => rowOf eLock s.Held.w (0 + i)) false, .sl 5 0 (rowOf eLock (fun _ => zLock)) false]) = _
      rw [zrow, Nat.zero_add, h2]; rfl
    · refine ⟨s.Held.w, s.Waits.w, fun i hi => rfl, fun i hi => rfl, fun κ => ?_⟩
      rw [callP_eq]
      refine (r22_Copy_e k s (pk κ)).trans ?_
      rw [dec_f h1, cond_false, room56 (by omega), cond_true, dec_f h2, cond_false, room56 (by omega), cond_true, cat0, cat0]
      show κ (.agg [.sl 5 (0 + s.Held.n) (fun i => rowOf eLock s.Held.w (0 + i)) false, .sl 5 (0 + s.Waits.n) (fun i => rowOf eLock s.Waits.w (0 + i)) false]) = _
      rw [zrow, zrow, Nat.zero_add, Nat.zero_add]; rfl
/-! ### Blockers of a table that is not right -/
theorem Blockers_bad (k : Nat) (s : TLocks) (tx : Int) (i : Nat) (hn : s.Held.n ≤ 10000) (hm : s.Waits.n ≤ 10000) (hf : firstI s.Waits.n (fun j => decide ((s.Waits.w j).Tx = tx)) = (i : Int)) (hc : checkB s = false) (hk : s.Held.n + s.Waits.n + 60 ≤ k) (κ : AV → Option ρ) : callP ctx k n_locks_Blockers [.agg (eLocks s), .int .u64 tx] κ = κ (.sl 1 0 (rowOf (eI .u64) (fun _ => 0)) false) := by
  obtain ⟨k, rfl⟩ : ∃ k', k = k' + 1 := ⟨k - 1, by omega⟩
  rw [callP_eq]
  refine (locks_Blockers_e k s _ (pk κ)).trans ?_
  rw [index_Blk_ok k _ _ _ _ (by omega) (by omega), hf, locks_Blockers_r0_s, dec_f (by omega), cond_false, locks_Check_ok k s (by omega) (by omega) (by omega)]
  unfold checkE'
  rw [if_neg (by rw [hc]; decide), locks_Blockers_r5_s, dec_f (by decide), Bool.not_false, cond_true]; rfl
/-! ### the document's Blockers -/
def insU (t : Int) : List Int → List Int
  | [] => [t]
  | b :: B => if b < t then b :: insU t B else if b = t then b :: B else t :: b :: B
theorem insU_take {t : Int} : ∀ {P Q : List Int}, (∀ x ∈ P, x < t) → insU t (P ++ Q) = P ++ insU t Q
  | [], Q, h => rfl
  | p :: P, Q, h => by
    show (if p < t then p :: insU t (P ++ Q) else _) = _
    rw [if_pos (h p (by simp)), insU_take (fun x hx => h x (by simp [hx]))]; rfl
theorem insU_mem (t : Int) : ∀ (L : List Int) (x : Int), x ∈ insU t L ↔ x = t ∨ x ∈ L
  | [], x => by simp [insU]
  | b :: B, x => by
    unfold insU
    by_cases h1 : b < t
    · rw [if_pos h1, List.mem_cons, insU_mem t B x, List.mem_cons]
      constructor
      · rintro (h | h | h)
        · exact .inr (.inl h)
        · exact .inl h
        · exact .inr (.inr h)
      · rintro (h | h | h)
        · exact .inr (.inl h)
        · exact .inl h
        · exact .inr (.inr h)
    · rw [if_neg h1]
      by_cases h2 : b = t
      · rw [if_pos h2]
        constructor
        · exact fun h => .inr h
        · rintro (h | h)
          · rw [h, ← h2]; simp
          · exact h
      · rw [if_neg h2, List.mem_cons]
theorem insU_asc (t : Int) : ∀ (L : List Int), L.Pairwise (· < ·) → (insU t L).Pairwise (· < ·)
  | [], _ => by simp [insU]
  | b :: B, h => by
    obtain ⟨h1, h2⟩ := List.pairwise_cons.1 h
    unfold insU
    by_cases hb : b < t
    · rw [if_pos hb, List.pairwise_cons]
      refine ⟨fun x hx => ?_, insU_asc t B h2⟩
      rcases (insU_mem t B x).1 hx with e | e
      · rw [e]; exact hb
      · exact h1 x e
    · rw [if_neg hb]
      by_cases h3 : b = t
      · rw [if_pos h3]; exact h
      · rw [if_neg h3, List.pairwise_cons]
        refine ⟨fun x hx => ?_, h⟩
        rcases List.mem_cons.1 hx with e | e
        · rw [e]; omega
        · have := h1 x e; omega
theorem insU_len (t : Int) : ∀ (L : List Int), (insU t L).length ≤ L.length + 1
  | [] => by simp [insU]
  | b :: B => by
    unfold insU
    have := insU_len t B
    split
    · simp only [List.length_cons]; omega
    · split <;> simp
theorem insU_ne (t : Int) (L : List Int) : insU t L ≠ [] := by
  intro e
  have := (insU_mem t L t).2 (.inl rfl)
  rw [e] at this; cases this
def foldD (o : TLock) : List TLock → List Int → List Int
  | [], L => L
  | x :: X, L => foldD o X (if againstB o x = true then insU x.Tx L else L)
theorem foldD_mem (o : TLock) : ∀ (X : List TLock) (L : List Int) (t : Int), t ∈ foldD o X L ↔ t ∈ L ∨ t ∈ (X.filter (againstB o)).map (·.Tx)
  | [], L, t => by simp [foldD]
  | x :: X, L, t => by
    unfold foldD
    rw [foldD_mem o X _ t, List.filter_cons]
    by_cases h : againstB o x = true
    · rw [if_pos h, if_pos h, insU_mem, List.map_cons, List.mem_cons]
      constructor
      · rintro ((h | h) | h)
        · exact .inr (.inl h)
        · exact .inl h
        · exact .inr (.inr h)
      · rintro (h | h | h)
        · exact .inl (.inr h)
        · exact .inl (.inl h)
        · exact .inr h
    · rw [if_neg h, if_neg h]
theorem foldD_asc (o : TLock) : ∀ (X : List TLock) (L : List Int), L.Pairwise (· < ·) → (foldD o X L).Pairwise (· < ·)
  | [], L, h => h
  | x :: X, L, h => by
    unfold foldD
    refine foldD_asc o X _ ?_
    split
    · exact insU_asc _ _ h
    · exact h
theorem foldD_len (o : TLock) : ∀ (X : List TLock) (L : List Int), (foldD o X L).length ≤ L.length + X.length
  | [], L => by simp [foldD]
  | x :: X, L => by
    unfold foldD
    have h1 := foldD_len o X (if againstB o x = true then insU x.Tx L else L)
    have h2 := insU_len x.Tx L
    split at h1 <;> simp_all <;> omega
theorem asc_ext : ∀ (A B : List Int), A.Pairwise (· < ·) → B.Pairwise (· < ·) → (∀ t, t ∈ A ↔ t ∈ B) → A = B
  | [], [], _, _, _ => rfl
  | [], b :: B, _, _, h => by have := (h b).2 (by simp); cases this
  | a :: A, [], _, _, h => by have := (h a).1 (by simp); cases this
  | a :: A, b :: B, hA, hB, h => by
    obtain ⟨a1, a2⟩ := List.pairwise_cons.1 hA
    obtain ⟨b1, b2⟩ := List.pairwise_cons.1 hB
    have hab : a = b := by
      rcases List.mem_cons.1 ((h a).1 (by simp)) with e | e
      · exact e
      · rcases List.mem_cons.1 ((h b).2 (by simp)) with f | f
        · exact f.symm
        · have := b1 a e; have := a1 b f; omega
    subst hab
    rw [asc_ext A B a2 b2 fun t => ⟨fun ht => ?_, fun ht => ?_⟩]
    · rcases List.mem_cons.1 ((h t).1 (by simp [ht])) with e | e
      · have := a1 t ht; omega
      · exact e
    · rcases List.mem_cons.1 ((h t).2 (by simp [ht])) with e | e
      · have := b1 t ht; omega
      · exact e
theorem cat_gd {v w : Nat → Int} {A B : List Int} {n : Nat} (hn : n = A.length) (hv : ∀ i, i < n → v i = gd 0 A i) (hw : ∀ i, w i = gd 0 B i) : catRow n (rowOf (eI .u64) v) (rowOf (eI .u64) w) = rowOf (eI .u64) (gd 0 (A ++ B)) := by
  rw [cat_row]; apply row_ext; funext i; unfold catW
  split
  · rename_i h
    rw [hv i h]; unfold gd
    rw [List.getD_eq_getElem?_getD, List.getD_eq_getElem?_getD, List.getElem?_append_left (by omega)]
  · rename_i h
    rw [hw]; unfold gd
    rw [List.getD_eq_getElem?_getD, List.getD_eq_getElem?_getD, List.getElem?_append_right (by omega), hn]
theorem lit_gd (t : Int) : litRow (eI .u64) [t] 0 = rowOf (eI .u64) (gd 0 [t]) := lit_row ..
theorem gd_take (L : List Int) (c i : Nat) (h : i < c) : gd 0 L i = gd 0 (L.take c) i := by
  unfold gd
  rw [List.getD_eq_getElem?_getD, List.getD_eq_getElem?_getD, List.getElem?_take_of_lt h]
theorem gd_drop (L : List Int) (c i : Nat) : gd 0 L (c + i) = gd 0 (L.drop c) i := by
  unfold gd
  rw [List.getD_eq_getElem?_getD, List.getD_eq_getElem?_getD, List.getElem?_drop]
section
variable (k : Nat) (s : TLocks) (r0 : Int) (w1 : Nat → TLock) (C : Nat) (κ : AV → Heap → Option ρ)
noncomputable def hdD (j i : Nat) : List Int → Option ρ
  | [] => r22_Blockers_h1 k j s r0 (rowOf eLock w1) C C (i : Int) κ
  | b :: B => r22_Blockers_h3 k j s r0 w1 C C (rowOf (eI .u64) (gd 0 (b :: B))) (i : Int) (B.length + 1) (B.length + 1) κ
theorem hdD_ne (j i : Nat) (L : List Int) (n : Nat) (h : L ≠ []) (hn : n = L.length) : hdD k s r0 w1 C κ j i L = r22_Blockers_h3 k j s r0 w1 C C (rowOf (eI .u64) (gd 0 L)) (i : Int) n n κ := by
  subst hn
  cases L with
  | nil => exact absurd rfl h
  | cons b B => rfl
theorem put_end (j1 i c : Nat) (L : List Int) (t : Int) (hi : i < C) (hC : C ≤ 50000) (row : Nat → List AV) (n : Nat) (h1 : row = rowOf (eI .u64) (gd 0 (L.take c ++ t :: L.drop c))) (h2 : n = (L.take c ++ t :: L.drop c).length) :
    r22_Blockers_h3 k j1 s r0 w1 C C row (wi64 ((i : Int) + 1)) n n κ = hdD k s r0 w1 C κ j1 (i + 1) (L.take c ++ t :: L.drop c) := by
  rw [h1, wi64_succ (by omega), hdD_ne k s r0 w1 C κ j1 (i + 1) _ n (by simp) h2]
theorem ins_loop (j1 i : Nat) (L : List Int) (hne : L ≠ []) (hi : i < C) (hC : C ≤ 50000) (hL : L.length ≤ 50000) : ∀ (jf c : Nat), c ≤ L.length → L.length < c + jf → (∀ x ∈ L.take c, x < (w1 i).Tx) →
    r22_Blockers_h4 k j1 jf s r0 w1 C C (gd 0 L) (c : Int) L.length (i : Int) L.length κ = hdD k s r0 w1 C κ j1 (i + 1) (insU (w1 i).Tx L)
  | 0, c, h1, h2, h3 => by omega
  | jf + 1, c, h1, h2, h3 => by
    have hlen : 0 < L.length := List.length_pos_iff.2 hne
    have hins : insU (w1 i).Tx L = L.take c ++ insU (w1 i).Tx (L.drop c) := by
      rw [← insU_take h3, List.take_append_drop]
    have fin := put_end k s r0 w1 C κ j1 i c L (w1 i).Tx hi hC
    have k1 : cutOK L.length 0 (c : Int) (L.length : Int) = true := cut_ok (by omega) (by omega) (by omega) (by omega)
    have k2 : cutOK L.length (c : Int) (L.length : Int) (L.length : Int) = true := cut_ok (by omega) (by omega) (by omega) (by omega)
    have k3 : roomOf c 8 = true := room8 (by omega)
    have k4 : roomOf (c + 1) 8 = true := room8 (by omega)
    have k5 : roomOf (1 + (L.length - c)) 8 = true := room8 (by omega)
    have k6 : roomOf (c + 1 + (L.length - c)) 8 = true := room8 (by omega)
    have k7 : decide (c + 1 ≤ c) = false := dec_f (by omega)
    have k8 : decide (c = c) = true := dec_t rfl
    have k9 : decide (c + 1 = c + 1) = true := dec_t rfl
    have f4 : idxOK (i : Int) C = true := idx_ok (by omega) (by omega)
    have f5 : decide (i < C) = true := dec_t hi
    have htl : (L.take c ++ (w1 i).Tx :: L.drop c).length = L.length + 1 := by simp; omega
    rw [r22_Blockers_h4_s]
    simp only [Int.toNat_natCast, Nat.zero_add, f4, f5, k1, k2, k3, k4, k5, k6, k7, k8, k9, Bool.and_true, Bool.true_and, cond_true, cond_false]
    by_cases hc : c < L.length
    · have f1 : decide ((c : Int) < (L.length : Int)) = true := dec_t (by omega)
      have f2 : idxOK (c : Int) L.length = true := idx_ok (by omega) (by omega)
      have f3 : decide (c < L.length) = true := dec_t hc
      have f6 : decide (L.length - c = 0) = false := dec_f (by omega)
      have f7 : decide (1 + (L.length - c) ≤ 1) = false := dec_f (by omega)
      have f8 : decide (c + 1 + (L.length - c) ≤ c + 1) = false := dec_f (by omega)
      have hd : L.drop c = L[c] :: L.drop (c + 1) := List.drop_eq_getElem_cons hc
      have hg : gd 0 L c = L[c] := by unfold gd; rw [List.getD_eq_getElem?_getD, List.getElem?_eq_getElem hc]; rfl
      simp only [f1, f2, f3, f6, f7, f8, cond_true, cond_false]
      rw [hg]
      by_cases h4 : L[c] < (w1 i).Tx
      · rw [dec_t h4, cond_true, wi64_succ (by omega)]
        refine ins_loop j1 i L hne hi hC hL jf (c + 1) (by omega) (by omega) fun x hx => ?_
        rw [List.take_succ_eq_append_getElem hc] at hx
        rcases List.mem_append.1 hx with e | e
        · exact h3 x e
        · rw [List.mem_singleton.1 e]; exact h4
      · rw [dec_f h4, cond_false]
        by_cases h5 : L[c] = (w1 i).Tx
        · rw [dec_t h5, cond_true, wi64_succ (by omega), hins, hd]
          have : insU (w1 i).Tx (L[c] :: L.drop (c + 1)) = L[c] :: L.drop (c + 1) := by
            show (if L[c] < (w1 i).Tx then _ else if L[c] = (w1 i).Tx then _ else _) = _
            rw [if_neg h4, if_pos h5]
          rw [this, ← hd, List.take_append_drop, hdD_ne k s r0 w1 C κ j1 (i + 1) L L.length hne rfl]
        · have hq : insU (w1 i).Tx L = L.take c ++ (w1 i).Tx :: L.drop c := by
            rw [hins, hd]
            show L.take c ++ (if L[c] < (w1 i).Tx then _ else if L[c] = (w1 i).Tx then _ else _) = _
            rw [if_neg h4, if_neg h5]
          rw [dec_f h5, cond_false, hq]
          by_cases hc0 : c = 0
          · rw [dec_t hc0, cond_true]
            refine fin _ _ ?_ (by rw [htl]; omega)
            rw [row_first, cat_gd (n := 1) (A := [(w1 i).Tx]) (B := L.drop c) rfl (fun _ _ => rfl) (fun i => gd_drop L c i), show L.take c = [] by rw [hc0]; rfl]; rfl
          · rw [dec_f hc0, cond_false]
            refine fin _ _ ?_ (by rw [htl]; omega)
            show catRow (c + 1) (catRow c (catRow 0 (rowOf (eI .u64) (fun _ => 0)) (rowOf (eI .u64) (gd 0 L))) (litRow (eI .u64) [(w1 i).Tx] 0)) (rowOf (eI .u64) (fun i => gd 0 L (c + i))) = _
            rw [cat0, lit_gd, cat_gd (n := c) (A := L.take c) (B := [(w1 i).Tx]) (by simp; omega) (fun i hi => gd_take L c i hi) (fun _ => rfl),
              cat_gd (n := c + 1) (A := L.take c ++ [(w1 i).Tx]) (B := L.drop c) (by simp; omega) (fun _ _ => rfl) (fun i => gd_drop L c i), List.append_assoc]; rfl
    · have f1 : decide ((c : Int) < (L.length : Int)) = false := dec_f (by omega)
      have f6 : decide (L.length - c = 0) = true := dec_t (by omega)
      have hdn : L.drop c = [] := List.drop_eq_nil_of_le (by omega)
      have hq : insU (w1 i).Tx L = L.take c ++ (w1 i).Tx :: L.drop c := by rw [hins, hdn]; rfl
      have hc0 : decide (c = 0) = false := dec_f (by omega)
      simp only [f1, f6, hc0, cond_true, cond_false]
      rw [hq]
      refine fin _ _ ?_ (by rw [htl]; omega)
      show catRow c (catRow 0 (rowOf (eI .u64) (fun _ => 0)) (rowOf (eI .u64) (gd 0 L))) (litRow (eI .u64) [(w1 i).Tx] 0) = _
      rw [cat0, lit_gd, cat_gd (n := c) (A := L.take c) (B := [(w1 i).Tx]) (by simp; omega) (fun i hi => gd_take L c i hi) (fun _ => rfl), hdn]
theorem hdD_step (j i : Nat) (L : List Int) (r : Nat) (hr0 : r0 = (r : Int)) (hr : r < s.Waits.n) (hi : i < C) (hC : C ≤ 40000) (hL : L.length ≤ 50000) (hk : L.length + 20 ≤ k) :
    hdD k s r0 w1 C κ (j + 1) i L = hdD k s r0 w1 C κ j (i + 1) (if againstB (s.Waits.w r) (w1 i) = true then insU (w1 i).Tx L else L) := by
  subst hr0
  have ht : (0 + ((i : Nat) : Int).toNat) = i := by rw [Int.toNat_natCast, Nat.zero_add]
  have hag : ∀ κ' : AV → Option ρ, callP ctx k n_r22_Against [.agg (eLock ⟨((s.Waits.w (((r : Nat) : Int).toNat)).Tx), ⟨(((s.Waits.w (((r : Nat) : Int).toNat)).R).From), (((s.Waits.w (((r : Nat) : Int).toNat)).R).To), (((s.Waits.w (((r : Nat) : Int).toNat)).R).End)⟩, ((s.Waits.w (((r : Nat) : Int).toNat)).X)⟩), .agg (eLock ⟨((w1 i).Tx), ⟨(((w1 i).R).From), (((w1 i).R).To), (((w1 i).R).End)⟩, ((w1 i).X)⟩)] κ' = κ' (.bool (againstB (s.Waits.w r) (w1 i))) := fun κ' => r22_Against_ok k (s.Waits.w r) (w1 i) (by omega) κ'
  cases L with
  | nil =>
    show r22_Blockers_h1 k (j + 1) s (r : Int) (rowOf eLock w1) C C (i : Int) κ = _
    rw [r22_Blockers_h1_s, dec_t (show (i : Int) < (C : Int) by omega), cond_true, idx_ok (by omega) (by omega), cond_true, idx_ok (by omega) (by omega), cond_true, ht, dec_t hi, cond_true, hag, r22_Blockers_r1_s, wi64_succ (by omega)]
    cases againstB (s.Waits.w r) (w1 i) with
    | false => rfl
    | true =>
      obtain ⟨k', rfl⟩ : ∃ k', k = k' + 1 := ⟨k - 1, by omega⟩
      rw [Bool.not_true, cond_false, if_pos rfl, r22_Blockers_h2_s, idx_ok (by omega) (by omega), cond_true, ht, dec_t hi, cond_true, row_first, wi64_succ (by omega)]
      rfl
  | cons b B =>
    show r22_Blockers_h3 k (j + 1) s (r : Int) w1 C C (rowOf (eI .u64) (gd 0 (b :: B))) (i : Int) (B.length + 1) (B.length + 1) κ = _
    rw [r22_Blockers_h3_s, dec_t (show (i : Int) < (C : Int) by omega), cond_true, idx_ok (by omega) (by omega), cond_true, idx_ok (by omega) (by omega), cond_true, ht, dec_t hi, cond_true, hag, r22_Blockers_r2_s, wi64_succ (by omega)]
    cases againstB (s.Waits.w r) (w1 i) with
    | false => rfl
    | true =>
      rw [Bool.not_true, cond_false, if_pos rfl]
      exact ins_loop k s (r : Int) w1 C κ j i (b :: B) (by simp) hi (by omega) hL k 0 (by omega) (by simp only [List.length_cons] at hk ⊢; omega) (fun x hx => by simp at hx)
end
theorem hdD_all (k : Nat) (s : TLocks) (r : Nat) (hr : r < s.Waits.n) (w1 : Nat → TLock) (C : Nat) (κ : AV → Option ρ) (hC : C ≤ 40000) (hk : C + 30 ≤ k) : ∀ (j i : Nat) (L : List Int), i ≤ C → C < i + j → L.length ≤ i →
    hdD k s (r : Int) w1 C (pk κ) j i L = κ (.sl 1 (foldD (s.Waits.w r) ((lst C w1).drop i) L).length (rowOf (eI .u64) (gd 0 (foldD (s.Waits.w r) ((lst C w1).drop i) L))) false)
  | 0, i, L, h1, h2, h3 => by omega
  | j + 1, i, L, h1, h2, h3 => by
    by_cases hi : i < C
    · have hlen : (if againstB (s.Waits.w r) (w1 i) = true then insU (w1 i).Tx L else L).length ≤ i + 1 := by
        have := insU_len (w1 i).Tx L
        split <;> omega
      rw [hdD_step k s (r : Int) w1 C (pk κ) j i L r rfl hr hi hC (by omega) (by omega), hdD_all k s r hr w1 C κ hC hk j (i + 1) _ (by omega) (by omega) hlen, drop_lst C i w1 hi]
      rfl
    · have : i = C := by omega
      subst this
      rw [drop_end]
      cases L with
      | nil =>
        show r22_Blockers_h1 k (j + 1) s (r : Int) (rowOf eLock w1) i i (i : Int) (pk κ) = _
        rw [r22_Blockers_h1_s, dec_f (by omega), cond_false]; rfl
      | cons b B =>
        show r22_Blockers_h3 k (j + 1) s (r : Int) w1 i i (rowOf (eI .u64) (gd 0 (b :: B))) (i : Int) (B.length + 1) (B.length + 1) (pk κ) = _
        rw [r22_Blockers_h3_s, dec_f (by omega), cond_false]
        show κ (.sl 1 (B.length + 1) (fun i => rowOf (eI .u64) (gd 0 (b :: B)) (0 + i)) false) = _
        rw [zrow]; rfl
theorem r22_Blockers_ok (k : Nat) (s : TLocks) (tx : Int) (r : Nat) (hT : Tx0 s) (hc : checkB s = true) (hr : r < s.Waits.n) (hf : firstI s.Waits.n (fun j => decide ((s.Waits.w j).Tx = tx)) = (r : Int)) (hk : 1000 ≤ k) (κ : AV → Option ρ) :
    callP ctx k n_r22_Blockers [.agg (eLocks s), .int .u64 tx] κ = κ (.sl 1 (foldD (s.Waits.w r) (s.Held.l ++ s.Waits.l.take r) []).length (rowOf (eI .u64) (gd 0 (foldD (s.Waits.w r) (s.Held.l ++ s.Waits.l.take r) []))) false) := by
  have h200 : s.Held.n + s.Waits.n ≤ 200 := by
    unfold checkB at hc
    simp only [Bool.and_eq_true, decide_eq_true_eq] at hc
    exact hc.1
  obtain ⟨k, rfl⟩ : ∃ k', k = k' + 1 := ⟨k - 1, by omega⟩
  have htk : s.Waits.l.take r = lst r s.Waits.w := lst_take _ _ _ (by omega)
  rw [callP_eq]
  refine (r22_Blockers_e k s tx (pk κ)).trans ?_
  rw [r22_waits_ok k s tx (by omega) (by omega), hf, r22_Blockers_r0_s, dec_f (by omega), cond_false, r22_Check_ok k s hT (by omega) (by omega) (by omega)]
  unfold checkE'
  rw [if_pos hc, r22_Blockers_r3_s, dec_int, Bool.not_true, cond_false, htk]
  have go : ∀ (C : Nat) (w1 : Nat → TLock), C ≤ 300 → lst C w1 = s.Held.l ++ lst r s.Waits.w → r22_Blockers_h1 k k s (r : Int) (rowOf eLock w1) C C 0 (pk κ) = κ (.sl 1 (foldD (s.Waits.w r) (s.Held.l ++ lst r s.Waits.w) []).length (rowOf (eI .u64) (gd 0 (foldD (s.Waits.w r) (s.Held.l ++ lst r s.Waits.w) []))) false) := by
    intro C w1 hC hw
    rw [← hw]
    exact hdD_all k s r hr w1 C κ (by omega) (by omega) k 0 [] (by omega) (by omega) (by simp)
  by_cases h1 : s.Held.n = 0
  · have hl : s.Held.l = [] := by
      show lst s.Held.n s.Held.w = []
      rw [h1]; rfl
    rw [dec_t h1, cond_true, cut_ok (by omega) (by omega) (by omega) (by omega), cond_true, Int.toNat_natCast]
    by_cases h2 : r = 0
    · obtain ⟨k, rfl⟩ : ∃ k', k = k' + 1 := ⟨k - 1, by omega⟩
      rw [dec_t h2, cond_true, r22_Blockers_h0_s, hl, h2]; rfl
    · rw [dec_f h2, cond_false, room56 (by omega), cond_true, zrow, cat0, Nat.zero_add]
      exact go r s.Waits.w (by omega) (by rw [hl]; rfl)
  · rw [dec_f h1, cond_false, room56 (by omega), cond_true, cat0, cut_ok (by omega) (by omega) (by omega) (by omega), cond_true, Int.toNat_natCast]
    by_cases h2 : r = 0
    · rw [dec_t h2, cond_true, Nat.zero_add]
      exact go s.Held.n s.Held.w (by omega) (by rw [h2]; exact (List.append_nil _).symm)
    · have hrm := room56 (n := s.Held.n + r) (by omega)
      rw [Nat.zero_add] at hrm
      rw [dec_f h2, cond_false, dec_f (by omega), cond_false, dec_t rfl, Nat.zero_add, hrm, Bool.and_true, cond_true, zrow, cat_row]
      exact go (s.Held.n + r) _ (by omega) (l_cat s.Held.n r s.Held.w s.Waits.w false)
theorem r22_Blockers_none (k : Nat) (s : TLocks) (tx : Int) (hm : s.Waits.n ≤ 10000) (hf : firstI s.Waits.n (fun j => decide ((s.Waits.w j).Tx = tx)) = -1) (hk : s.Waits.n + 30 ≤ k) (κ : AV → Option ρ) : callP ctx k n_r22_Blockers [.agg (eLocks s), .int .u64 tx] κ = κ (.sl 1 0 (rowOf (eI .u64) (fun _ => 0)) false) := by
  obtain ⟨k, rfl⟩ : ∃ k', k = k' + 1 := ⟨k - 1, by omega⟩
  rw [callP_eq]
  refine (r22_Blockers_e k s tx (pk κ)).trans ?_
  rw [r22_waits_ok k s tx hm (by omega), hf, r22_Blockers_r0_s, dec_t (by decide), cond_true]; rfl
theorem r22_Blockers_bad (k : Nat) (s : TLocks) (tx : Int) (r : Nat) (hT : Tx0 s) (hn : s.Held.n ≤ 10000) (hm : s.Waits.n ≤ 10000) (hc : checkB s = false) (hf : firstI s.Waits.n (fun j => decide ((s.Waits.w j).Tx = tx)) = (r : Int)) (hk : s.Held.n + s.Waits.n + 60 ≤ k) (κ : AV → Option ρ) : callP ctx k n_r22_Blockers [.agg (eLocks s), .int .u64 tx] κ = κ (.sl 1 0 (rowOf (eI .u64) (fun _ => 0)) false) := by
  obtain ⟨k, rfl⟩ : ∃ k', k = k' + 1 := ⟨k - 1, by omega⟩
  rw [callP_eq]
  refine (r22_Blockers_e k s tx (pk κ)).trans ?_
  rw [r22_waits_ok k s tx hm (by omega), hf, r22_Blockers_r0_s, dec_f (by omega), cond_false, r22_Check_ok k s hT hn hm (by omega)]
  unfold checkE'
  rw [if_neg (by rw [hc]; decide), r22_Blockers_r3_s, dec_f (by decide), Bool.not_false, cond_true]; rfl
/-- both tell the same -/
theorem Blockers_both (k : Nat) (s : TLocks) (tx : Int) (hT : Tx0 s) (hn : s.Held.n ≤ 10000) (hm : s.Waits.n ≤ 10000) (hk : s.Held.n + s.Waits.n + 1000 ≤ k) :
    ∃ (n m : Nat) (v w : Nat → Int), n ≤ 400 ∧ lst n v = lst m w ∧ (∀ κ : AV → Option ρ, callP ctx k n_locks_Blockers [.agg (eLocks s), .int .u64 tx] κ = κ (.sl 1 n (rowOf (eI .u64) v) false)) ∧ (∀ κ : AV → Option ρ, callP ctx k n_r22_Blockers [.agg (eLocks s), .int .u64 tx] κ = κ (.sl 1 m (rowOf (eI .u64) w) false)) := by
  cases hfi : (List.range s.Waits.n).find? (fun j => decide ((s.Waits.w j).Tx = tx)) with
  | none =>
    have hf : firstI s.Waits.n (fun j => decide ((s.Waits.w j).Tx = tx)) = -1 := by unfold firstI; rw [hfi]
    have hno : ∀ i, i < s.Waits.n → (s.Waits.w i).Tx ≠ tx := by
      rw [List.find?_eq_none] at hfi
      intro i hi
      have := hfi i (List.mem_range.2 hi)
      simpa using this
    exact ⟨0, 0, fun _ => 0, fun _ => 0, by omega, rfl, fun κ => Blockers_none k s tx hm hno (by omega) κ, fun κ => r22_Blockers_none k s tx hm hf (by omega) κ⟩
  | some r =>
    have hf : firstI s.Waits.n (fun j => decide ((s.Waits.w j).Tx = tx)) = (r : Int) := by unfold firstI; rw [hfi]
    rw [List.find?_range_eq_some] at hfi
    obtain ⟨f1, f2, f3⟩ := hfi
    have hr : r < s.Waits.n := by simpa using f2
    have htx : (s.Waits.w r).Tx = tx := by simpa using f1
    have hu : ∀ j, j < r → (s.Waits.w j).Tx ≠ (s.Waits.w r).Tx := by
      intro j hj
      have := f3 j hj
      rw [htx]; simpa using this
    cases hc : checkB s with
    | false => exact ⟨0, 0, fun _ => 0, fun _ => 0, by omega, rfl, fun κ => Blockers_bad k s tx r hn hm hf hc (by omega) κ, fun κ => r22_Blockers_bad k s tx r hT hn hm hc hf (by omega) κ⟩
    | true =>
      obtain ⟨m, v, g1, g2, g3⟩ := Blockers_ok (ρ := ρ) k s r hc hr hu (by omega)
      rw [htx] at g3
      have hlist : lst m v = foldD (s.Waits.w r) (s.Held.l ++ s.Waits.l.take r) [] := by
        refine asc_ext _ _ g1 (foldD_asc _ _ _ .nil) fun t => ?_
        rw [g2 t, foldD_mem]
        unfold blkL
        simp
      have hlen := foldD_len (s.Waits.w r) (s.Held.l ++ s.Waits.l.take r) []
      refine ⟨m, _, v, _, ?_, ?_, g3, fun κ => r22_Blockers_ok k s tx r hT hc hr hf (by omega) κ⟩
      · have := congrArg List.length hlist
        rw [lst_len] at this
        rw [List.length_append, List.length_take] at hlen
        have h1 : s.Held.l.length = s.Held.n := lst_len _ _
        have h2 : s.Waits.l.length = s.Waits.n := lst_len _ _
        have h200 : s.Held.n + s.Waits.n ≤ 200 := by
          unfold checkB at hc
          simp only [Bool.and_eq_true, decide_eq_true_eq] at hc
          exact hc.1
        simp only [List.length_nil] at hlen
        omega
      · rw [gd_lst]; exact hlist
end Go.Proofs.YticcbbcgboddpaaC

set_option linter.unusedVariables false
set_option maxRecDepth 20000
namespace Go.Proofs.YticcbbcgboddpaaC
open Go Go.Ev Go.Proofs
variable {ρ : Type}
noncomputable def law22_LocksAsks_h0 (k j : Nat) (l : TLocks) (m : TLocks) (o : TLock) (x7 : Int) (κ : AV → Heap → Option ρ) : Option ρ := headAt ctx k n_law22_LocksAsks 0 [.r, .r, .l, .r] j ⟨(envOf 90 [(3, .ref 0 0), (4, .ref 1 0), (5, .ref 2 0), (7, .int .i64 x7)]), [some (.box [.sl 5 l.Held.n (rowOf eLock l.Held.w) l.Held.u, .sl 5 l.Waits.n (rowOf eLock l.Waits.w) l.Waits.u]), some (.box [.sl 5 m.Held.n (rowOf eLock m.Held.w) m.Held.u, .sl 5 m.Waits.n (rowOf eLock m.Waits.w) m.Waits.u]), some (.box (eLock o))]⟩ κ
noncomputable def law22_LocksAsks_r0 (k : Nat) (l : TLocks) (m : TLocks) (o : TLock) (κ : AV → Heap → Option ρ) (v : AV) : Option ρ := resAt ctx k n_law22_LocksAsks 0 [.r, .l, .l] 1 [] ⟨(envOf 90 [(3, .ref 0 0), (4, .ref 1 0), (5, .ref 2 0), (8, .agg (eLocks l)), (9, v)]), [some (.box [.sl 5 l.Held.n (rowOf eLock l.Held.w) l.Held.u, .sl 5 l.Waits.n (rowOf eLock l.Waits.w) l.Waits.u]), some (.box [.sl 5 m.Held.n (rowOf eLock m.Held.w) m.Held.u, .sl 5 m.Waits.n (rowOf eLock m.Waits.w) m.Waits.u]), some (.box (eLock o))]⟩ κ
noncomputable def law22_LocksAsks_r1 (k j1 : Nat) (l : TLocks) (m : TLocks) (o : TLock) (x7 : Int) (κ : AV → Heap → Option ρ) (v : AV) : Option ρ := resAt ctx k n_law22_LocksAsks 0 [.r, .r, .l, .r, .into j1, .r, .l, .l] 6 [] ⟨(envOf 90 [(3, .ref 0 0), (4, .ref 1 0), (5, .ref 2 0), (7, .int .i64 x7), (29, .bool (decide (x7 < 10))), (32, .ref 0 0), (33, .sl 5 l.Held.n (rowOf eLock l.Held.w) l.Held.u), (34, .int .i64 x7), (35, .rref [.int .u64 ((l.Held.w ((x7).toNat)).Tx), .str (((l.Held.w ((x7).toNat)).R).From), .str (((l.Held.w ((x7).toNat)).R).To), .bool (((l.Held.w ((x7).toNat)).R).End), .bool ((l.Held.w ((x7).toNat)).X)] 0), (36, .agg (eLock ⟨((l.Held.w ((x7).toNat)).Tx), ⟨(((l.Held.w ((x7).toNat)).R).From), (((l.Held.w ((x7).toNat)).R).To), (((l.Held.w ((x7).toNat)).R).End)⟩, ((l.Held.w ((x7).toNat)).X)⟩)), (37, .agg (eLock o)), (38, v)]), [some (.box [.sl 5 l.Held.n (rowOf eLock l.Held.w) l.Held.u, .sl 5 l.Waits.n (rowOf eLock l.Waits.w) l.Waits.u]), some (.box [.sl 5 m.Held.n (rowOf eLock m.Held.w) m.Held.u, .sl 5 m.Waits.n (rowOf eLock m.Waits.w) m.Waits.u]), some (.box (eLock o))]⟩ κ
noncomputable def law22_LocksAsks_r2 (k : Nat) (l : TLocks) (m : TLocks) (o : TLock) (x7 : Int) (x29 : Bool) (κ : AV → Heap → Option ρ) (v : AV) : Option ρ := resAt ctx k n_law22_LocksAsks 0 [.r, .r, .r, .l] 1 [] ⟨(envOf 90 [(3, .ref 0 0), (4, .ref 1 0), (5, .ref 2 0), (7, .int .i64 x7), (29, .bool x29), (47, .agg (eLocks l)), (48, v)]), [some (.box [.sl 5 l.Held.n (rowOf eLock l.Held.w) l.Held.u, .sl 5 l.Waits.n (rowOf eLock l.Waits.w) l.Waits.u]), some (.box [.sl 5 m.Held.n (rowOf eLock m.Held.w) m.Held.u, .sl 5 m.Waits.n (rowOf eLock m.Waits.w) m.Waits.u]), some (.box (eLock o))]⟩ κ
noncomputable def law22_LocksAsks_r3 (k : Nat) (l : TLocks) (m : TLocks) (o : TLock) (x19 : Bool) (κ : AV → Heap → Option ρ) (v : AV) : Option ρ := resAt ctx k n_law22_LocksAsks 0 [.r, .l, .r, .l, .l] 0 [] ⟨(envOf 90 [(3, .ref 0 0), (4, .ref 1 0), (5, .ref 2 0), (19, .bool x19), (20, v)]), [some (.box [.sl 5 l.Held.n (rowOf eLock l.Held.w) l.Held.u, .sl 5 l.Waits.n (rowOf eLock l.Waits.w) l.Waits.u]), some (.box [.sl 5 m.Held.n (rowOf eLock m.Held.w) m.Held.u, .sl 5 m.Waits.n (rowOf eLock m.Waits.w) m.Waits.u]), some (.box (eLock o))]⟩ κ
noncomputable def law22_LocksAsks_r4 (k : Nat) (l : TLocks) (m : TLocks) (o : TLock) (r0 : Bool) (κ : AV → Heap → Option ρ) (v : AV) : Option ρ := resAt ctx k n_law22_LocksAsks 0 [.r, .l, .l] 5 [(11, false)] ⟨(envOf 90 [(3, .ref 0 0), (4, .ref 1 0), (5, .ref 2 0), (8, .agg (eLocks l)), (9, .bool r0), (10, .bool (!r0)), (11, .bool (!r0)), (12, .agg (eLocks m)), (13, v)]), [some (.box [.sl 5 l.Held.n (rowOf eLock l.Held.w) l.Held.u, .sl 5 l.Waits.n (rowOf eLock l.Waits.w) l.Waits.u]), some (.box [.sl 5 m.Held.n (rowOf eLock m.Held.w) m.Held.u, .sl 5 m.Waits.n (rowOf eLock m.Waits.w) m.Waits.u]), some (.box (eLock o))]⟩ κ
noncomputable def law22_LocksAsks_r5 (k j1 : Nat) (l : TLocks) (m : TLocks) (o : TLock) (r1 : Bool) (x7 : Int) (κ : AV → Heap → Option ρ) (v : AV) : Option ρ := resAt ctx k n_law22_LocksAsks 0 [.r, .r, .l, .r, .into j1, .r, .l, .l] 13 [] ⟨(envOf 90 [(3, .ref 0 0), (4, .ref 1 0), (5, .ref 2 0), (7, .int .i64 x7), (29, .bool (decide (x7 < 10))), (32, .ref 0 0), (33, .sl 5 l.Held.n (rowOf eLock l.Held.w) l.Held.u), (34, .int .i64 x7), (35, .rref [.int .u64 ((l.Held.w ((x7).toNat)).Tx), .str (((l.Held.w ((x7).toNat)).R).From), .str (((l.Held.w ((x7).toNat)).R).To), .bool (((l.Held.w ((x7).toNat)).R).End), .bool ((l.Held.w ((x7).toNat)).X)] 0), (36, .agg (eLock ⟨((l.Held.w ((x7).toNat)).Tx), ⟨(((l.Held.w ((x7).toNat)).R).From), (((l.Held.w ((x7).toNat)).R).To), (((l.Held.w ((x7).toNat)).R).End)⟩, ((l.Held.w ((x7).toNat)).X)⟩)), (37, .agg (eLock o)), (38, .bool r1), (39, .ref 0 0), (40, .sl 5 l.Held.n (rowOf eLock l.Held.w) l.Held.u), (41, .int .i64 x7), (42, .rref [.int .u64 ((l.Held.w ((x7).toNat)).Tx), .str (((l.Held.w ((x7).toNat)).R).From), .str (((l.Held.w ((x7).toNat)).R).To), .bool (((l.Held.w ((x7).toNat)).R).End), .bool ((l.Held.w ((x7).toNat)).X)] 0), (43, .agg (eLock ⟨((l.Held.w ((x7).toNat)).Tx), ⟨(((l.Held.w ((x7).toNat)).R).From), (((l.Held.w ((x7).toNat)).R).To), (((l.Held.w ((x7).toNat)).R).End)⟩, ((l.Held.w ((x7).toNat)).X)⟩)), (44, .agg (eLock o)), (45, v)]), [some (.box [.sl 5 l.Held.n (rowOf eLock l.Held.w) l.Held.u, .sl 5 l.Waits.n (rowOf eLock l.Waits.w) l.Waits.u]), some (.box [.sl 5 m.Held.n (rowOf eLock m.Held.w) m.Held.u, .sl 5 m.Waits.n (rowOf eLock m.Waits.w) m.Waits.u]), some (.box (eLock o))]⟩ κ
noncomputable def law22_LocksAsks_r6 (k : Nat) (l : TLocks) (m : TLocks) (o : TLock) (r2 : Int) (x7 : Int) (x29 : Bool) (κ : AV → Heap → Option ρ) (v : AV) : Option ρ := resAt ctx k n_law22_LocksAsks 0 [.r, .r, .r, .l] 3 [] ⟨(envOf 90 [(3, .ref 0 0), (4, .ref 1 0), (5, .ref 2 0), (7, .int .i64 x7), (29, .bool x29), (47, .agg (eLocks l)), (48, .int .i64 r2), (49, .agg (eLocks l)), (50, v)]), [some (.box [.sl 5 l.Held.n (rowOf eLock l.Held.w) l.Held.u, .sl 5 l.Waits.n (rowOf eLock l.Waits.w) l.Waits.u]), some (.box [.sl 5 m.Held.n (rowOf eLock m.Held.w) m.Held.u, .sl 5 m.Waits.n (rowOf eLock m.Waits.w) m.Waits.u]), some (.box (eLock o))]⟩ κ
noncomputable def law22_LocksAsks_r7 (k : Nat) (l : TLocks) (m : TLocks) (o : TLock) (r0 : Bool) (r4 : Bool) (κ : AV → Heap → Option ρ) (v : AV) : Option ρ := resAt ctx k n_law22_LocksAsks 0 [.r, .l, .l] 10 [(16, false), (11, false)] ⟨(envOf 90 [(3, .ref 0 0), (4, .ref 1 0), (5, .ref 2 0), (8, .agg (eLocks l)), (9, .bool r0), (10, .bool (!r0)), (11, .bool (!r0)), (12, .agg (eLocks m)), (13, .bool r4), (14, .bool (!r4)), (15, .bool (!r4)), (16, .bool (!r4)), (17, .agg (eLock o)), (18, v)]), [some (.box [.sl 5 l.Held.n (rowOf eLock l.Held.w) l.Held.u, .sl 5 l.Waits.n (rowOf eLock l.Waits.w) l.Waits.u]), some (.box [.sl 5 m.Held.n (rowOf eLock m.Held.w) m.Held.u, .sl 5 m.Waits.n (rowOf eLock m.Waits.w) m.Waits.u]), some (.box (eLock o))]⟩ κ
noncomputable def law22_LocksAsks_r8 (k : Nat) (l : TLocks) (m : TLocks) (o : TLock) (r2 : Int) (r6 : Int) (x7 : Int) (x29 : Bool) (κ : AV → Heap → Option ρ) (v : AV) : Option ρ := resAt ctx k n_law22_LocksAsks 0 [.r, .r, .r, .l] 8 [(52, true)] ⟨(envOf 90 [(3, .ref 0 0), (4, .ref 1 0), (5, .ref 2 0), (7, .int .i64 x7), (29, .bool x29), (47, .agg (eLocks l)), (48, .int .i64 r2), (49, .agg (eLocks l)), (50, .int .i64 r6), (51, .bool (decide (r2 = r6))), (52, .bool (decide (r2 = r6))), (53, .agg (eLocks l)), (54, .agg (eLocks m)), (55, v)]), [some (.box [.sl 5 l.Held.n (rowOf eLock l.Held.w) l.Held.u, .sl 5 l.Waits.n (rowOf eLock l.Waits.w) l.Waits.u]), some (.box [.sl 5 m.Held.n (rowOf eLock m.Held.w) m.Held.u, .sl 5 m.Waits.n (rowOf eLock m.Waits.w) m.Waits.u]), some (.box (eLock o))]⟩ κ
noncomputable def law22_LocksAsks_r9 (k : Nat) (l : TLocks) (m : TLocks) (o : TLock) (r2 : Int) (r6 : Int) (x7 : Int) (r8 : Bool) (x29 : Bool) (κ : AV → Heap → Option ρ) (v : AV) : Option ρ := resAt ctx k n_law22_LocksAsks 0 [.r, .r, .r, .l] 11 [(52, true)] ⟨(envOf 90 [(3, .ref 0 0), (4, .ref 1 0), (5, .ref 2 0), (7, .int .i64 x7), (29, .bool x29), (47, .agg (eLocks l)), (48, .int .i64 r2), (49, .agg (eLocks l)), (50, .int .i64 r6), (51, .bool (decide (r2 = r6))), (52, .bool (decide (r2 = r6))), (53, .agg (eLocks l)), (54, .agg (eLocks m)), (55, .bool r8), (56, .agg (eLocks l)), (57, .agg (eLocks m)), (58, v)]), [some (.box [.sl 5 l.Held.n (rowOf eLock l.Held.w) l.Held.u, .sl 5 l.Waits.n (rowOf eLock l.Waits.w) l.Waits.u]), some (.box [.sl 5 m.Held.n (rowOf eLock m.Held.w) m.Held.u, .sl 5 m.Waits.n (rowOf eLock m.Waits.w) m.Waits.u]), some (.box (eLock o))]⟩ κ
noncomputable def law22_LocksAsks_r10 (k : Nat) (l : TLocks) (m : TLocks) (o : TLock) (r2 : Int) (r6 : Int) (x7 : Int) (r8 : Bool) (r9 : Bool) (x29 : Bool) (κ : AV → Heap → Option ρ) (v : AV) : Option ρ := resAt ctx k n_law22_LocksAsks 0 [.r, .r, .r, .l] 17 [(61, true), (52, true)] ⟨(envOf 90 [(3, .ref 0 0), (4, .ref 1 0), (5, .ref 2 0), (7, .int .i64 x7), (29, .bool x29), (47, .agg (eLocks l)), (48, .int .i64 r2), (49, .agg (eLocks l)), (50, .int .i64 r6), (51, .bool (decide (r2 = r6))), (52, .bool (decide (r2 = r6))), (53, .agg (eLocks l)), (54, .agg (eLocks m)), (55, .bool r8), (56, .agg (eLocks l)), (57, .agg (eLocks m)), (58, .bool r9), (59, .bool (r8 == r9)), (60, .bool (r8 == r9)), (61, .bool (r8 == r9)), (62, .agg (eLocks l)), (63, .agg (eLocks l)), (64, v)]), [some (.box [.sl 5 l.Held.n (rowOf eLock l.Held.w) l.Held.u, .sl 5 l.Waits.n (rowOf eLock l.Waits.w) l.Waits.u]), some (.box [.sl 5 m.Held.n (rowOf eLock m.Held.w) m.Held.u, .sl 5 m.Waits.n (rowOf eLock m.Waits.w) m.Waits.u]), some (.box (eLock o))]⟩ κ
noncomputable def law22_LocksAsks_r11 (k : Nat) (l : TLocks) (m : TLocks) (o : TLock) (r2 : Int) (r6 : Int) (x7 : Int) (r8 : Bool) (r9 : Bool) (r10 : TLocks) (x29 : Bool) (κ : AV → Heap → Option ρ) (v : AV) : Option ρ := resAt ctx k n_law22_LocksAsks 0 [.r, .r, .r, .l] 18 [(61, true), (52, true)] ⟨(envOf 90 [(3, .ref 0 0), (4, .ref 1 0), (5, .ref 2 0), (7, .int .i64 x7), (29, .bool x29), (47, .agg (eLocks l)), (48, .int .i64 r2), (49, .agg (eLocks l)), (50, .int .i64 r6), (51, .bool (decide (r2 = r6))), (52, .bool (decide (r2 = r6))), (53, .agg (eLocks l)), (54, .agg (eLocks m)), (55, .bool r8), (56, .agg (eLocks l)), (57, .agg (eLocks m)), (58, .bool r9), (59, .bool (r8 == r9)), (60, .bool (r8 == r9)), (61, .bool (r8 == r9)), (62, .agg (eLocks l)), (63, .agg (eLocks l)), (64, .agg (eLocks ⟨⟨r10.Held.n, r10.Held.w, false⟩, ⟨r10.Waits.n, r10.Waits.w, false⟩⟩)), (65, v)]), [some (.box [.sl 5 l.Held.n (rowOf eLock l.Held.w) l.Held.u, .sl 5 l.Waits.n (rowOf eLock l.Waits.w) l.Waits.u]), some (.box [.sl 5 m.Held.n (rowOf eLock m.Held.w) m.Held.u, .sl 5 m.Waits.n (rowOf eLock m.Waits.w) m.Waits.u]), some (.box (eLock o))]⟩ κ
noncomputable def law22_LocksAsks_r12 (k : Nat) (l : TLocks) (m : TLocks) (o : TLock) (r2 : Int) (r6 : Int) (x7 : Int) (r8 : Bool) (r9 : Bool) (r10 : TLocks) (r11 : Bool) (x29 : Bool) (κ : AV → Heap → Option ρ) (v : AV) : Option ρ := resAt ctx k n_law22_LocksAsks 0 [.r, .r, .r, .l] 24 [(67, true), (61, true), (52, true)] ⟨(envOf 90 [(3, .ref 0 0), (4, .ref 1 0), (5, .ref 2 0), (7, .int .i64 x7), (29, .bool x29), (47, .agg (eLocks l)), (48, .int .i64 r2), (49, .agg (eLocks l)), (50, .int .i64 r6), (51, .bool (decide (r2 = r6))), (52, .bool (decide (r2 = r6))), (53, .agg (eLocks l)), (54, .agg (eLocks m)), (55, .bool r8), (56, .agg (eLocks l)), (57, .agg (eLocks m)), (58, .bool r9), (59, .bool (r8 == r9)), (60, .bool (r8 == r9)), (61, .bool (r8 == r9)), (62, .agg (eLocks l)), (63, .agg (eLocks l)), (64, .agg (eLocks ⟨⟨r10.Held.n, r10.Held.w, false⟩, ⟨r10.Waits.n, r10.Waits.w, false⟩⟩)), (65, .bool r11), (66, .bool r11), (67, .bool r11), (68, .agg (eLocks l)), (69, .ref 2 0), (70, .int .u64 o.Tx), (71, v)]), [some (.box [.sl 5 l.Held.n (rowOf eLock l.Held.w) l.Held.u, .sl 5 l.Waits.n (rowOf eLock l.Waits.w) l.Waits.u]), some (.box [.sl 5 m.Held.n (rowOf eLock m.Held.w) m.Held.u, .sl 5 m.Waits.n (rowOf eLock m.Waits.w) m.Waits.u]), some (.box (eLock o))]⟩ κ
noncomputable def law22_LocksAsks_r13 (k : Nat) (l : TLocks) (m : TLocks) (o : TLock) (r2 : Int) (r6 : Int) (x7 : Int) (r8 : Bool) (r9 : Bool) (r10 : TLocks) (r11 : Bool) (r12 : Sl Int) (x29 : Bool) (κ : AV → Heap → Option ρ) (v : AV) : Option ρ := resAt ctx k n_law22_LocksAsks 0 [.r, .r, .r, .l] 28 [(67, true), (61, true), (52, true)] ⟨(envOf 90 [(3, .ref 0 0), (4, .ref 1 0), (5, .ref 2 0), (7, .int .i64 x7), (29, .bool x29), (47, .agg (eLocks l)), (48, .int .i64 r2), (49, .agg (eLocks l)), (50, .int .i64 r6), (51, .bool (decide (r2 = r6))), (52, .bool (decide (r2 = r6))), (53, .agg (eLocks l)), (54, .agg (eLocks m)), (55, .bool r8), (56, .agg (eLocks l)), (57, .agg (eLocks m)), (58, .bool r9), (59, .bool (r8 == r9)), (60, .bool (r8 == r9)), (61, .bool (r8 == r9)), (62, .agg (eLocks l)), (63, .agg (eLocks l)), (64, .agg (eLocks ⟨⟨r10.Held.n, r10.Held.w, false⟩, ⟨r10.Waits.n, r10.Waits.w, false⟩⟩)), (65, .bool r11), (66, .bool r11), (67, .bool r11), (68, .agg (eLocks l)), (69, .ref 2 0), (70, .int .u64 o.Tx), (71, .sl 1 r12.n (rowOf (eI .u64) r12.w) false), (72, .agg (eLocks l)), (73, .ref 2 0), (74, .int .u64 o.Tx), (75, v)]), [some (.box [.sl 5 l.Held.n (rowOf eLock l.Held.w) l.Held.u, .sl 5 l.Waits.n (rowOf eLock l.Waits.w) l.Waits.u]), some (.box [.sl 5 m.Held.n (rowOf eLock m.Held.w) m.Held.u, .sl 5 m.Waits.n (rowOf eLock m.Waits.w) m.Waits.u]), some (.box (eLock o))]⟩ κ
noncomputable def law22_LocksAsks_r14 (k : Nat) (l : TLocks) (m : TLocks) (o : TLock) (r2 : Int) (r6 : Int) (x7 : Int) (r8 : Bool) (r9 : Bool) (r10 : TLocks) (r11 : Bool) (r12 : Sl Int) (r13 : Sl Int) (x29 : Bool) (κ : AV → Heap → Option ρ) (v : AV) : Option ρ := resAt ctx k n_law22_LocksAsks 0 [.r, .r, .r, .l] 29 [(67, true), (61, true), (52, true)] ⟨(envOf 90 [(3, .ref 0 0), (4, .ref 1 0), (5, .ref 2 0), (7, .int .i64 x7), (29, .bool x29), (47, .agg (eLocks l)), (48, .int .i64 r2), (49, .agg (eLocks l)), (50, .int .i64 r6), (51, .bool (decide (r2 = r6))), (52, .bool (decide (r2 = r6))), (53, .agg (eLocks l)), (54, .agg (eLocks m)), (55, .bool r8), (56, .agg (eLocks l)), (57, .agg (eLocks m)), (58, .bool r9), (59, .bool (r8 == r9)), (60, .bool (r8 == r9)), (61, .bool (r8 == r9)), (62, .agg (eLocks l)), (63, .agg (eLocks l)), (64, .agg (eLocks ⟨⟨r10.Held.n, r10.Held.w, false⟩, ⟨r10.Waits.n, r10.Waits.w, false⟩⟩)), (65, .bool r11), (66, .bool r11), (67, .bool r11), (68, .agg (eLocks l)), (69, .ref 2 0), (70, .int .u64 o.Tx), (71, .sl 1 r12.n (rowOf (eI .u64) r12.w) false), (72, .agg (eLocks l)), (73, .ref 2 0), (74, .int .u64 o.Tx), (75, .sl 1 r13.n (rowOf (eI .u64) r13.w) false), (76, v)]), [some (.box [.sl 5 l.Held.n (rowOf eLock l.Held.w) l.Held.u, .sl 5 l.Waits.n (rowOf eLock l.Waits.w) l.Waits.u]), some (.box [.sl 5 m.Held.n (rowOf eLock m.Held.w) m.Held.u, .sl 5 m.Waits.n (rowOf eLock m.Waits.w) m.Waits.u]), some (.box (eLock o))]⟩ κ
noncomputable def law22_LocksAsks_r15 (k : Nat) (l : TLocks) (m : TLocks) (o : TLock) (r2 : Int) (r6 : Int) (x7 : Int) (r8 : Bool) (r9 : Bool) (r10 : TLocks) (r11 : Bool) (r12 : Sl Int) (r13 : Sl Int) (r14 : Bool) (x29 : Bool) (κ : AV → Heap → Option ρ) (v : AV) : Option ρ := resAt ctx k n_law22_LocksAsks 0 [.r, .r, .r, .l] 34 [(78, true), (67, true), (61, true), (52, true)] ⟨(envOf 90 [(3, .ref 0 0), (4, .ref 1 0), (5, .ref 2 0), (7, .int .i64 x7), (29, .bool x29), (47, .agg (eLocks l)), (48, .int .i64 r2), (49, .agg (eLocks l)), (50, .int .i64 r6), (51, .bool (decide (r2 = r6))), (52, .bool (decide (r2 = r6))), (53, .agg (eLocks l)), (54, .agg (eLocks m)), (55, .bool r8), (56, .agg (eLocks l)), (57, .agg (eLocks m)), (58, .bool r9), (59, .bool (r8 == r9)), (60, .bool (r8 == r9)), (61, .bool (r8 == r9)), (62, .agg (eLocks l)), (63, .agg (eLocks l)), (64, .agg (eLocks ⟨⟨r10.Held.n, r10.Held.w, false⟩, ⟨r10.Waits.n, r10.Waits.w, false⟩⟩)), (65, .bool r11), (66, .bool r11), (67, .bool r11), (68, .agg (eLocks l)), (69, .ref 2 0), (70, .int .u64 o.Tx), (71, .sl 1 r12.n (rowOf (eI .u64) r12.w) false), (72, .agg (eLocks l)), (73, .ref 2 0), (74, .int .u64 o.Tx), (75, .sl 1 r13.n (rowOf (eI .u64) r13.w) false), (76, .bool r14), (77, .bool r14), (78, .bool r14), (79, .agg (eLocks l)), (80, .agg (eLock o)), (81, v)]), [some (.box [.sl 5 l.Held.n (rowOf eLock l.Held.w) l.Held.u, .sl 5 l.Waits.n (rowOf eLock l.Waits.w) l.Waits.u]), some (.box [.sl 5 m.Held.n (rowOf eLock m.Held.w) m.Held.u, .sl 5 m.Waits.n (rowOf eLock m.Waits.w) m.Waits.u]), some (.box (eLock o))]⟩ κ
noncomputable def law22_LocksAsks_r16 (k : Nat) (l : TLocks) (m : TLocks) (o : TLock) (r2 : Int) (r6 : Int) (x7 : Int) (r8 : Bool) (r9 : Bool) (r10 : TLocks) (r11 : Bool) (r12 : Sl Int) (r13 : Sl Int) (r14 : Bool) (r15 : Bool) (x29 : Bool) (κ : AV → Heap → Option ρ) (v : AV) : Option ρ := resAt ctx k n_law22_LocksAsks 0 [.r, .r, .r, .l] 37 [(78, true), (67, true), (61, true), (52, true)] ⟨(envOf 90 [(3, .ref 0 0), (4, .ref 1 0), (5, .ref 2 0), (7, .int .i64 x7), (29, .bool x29), (47, .agg (eLocks l)), (48, .int .i64 r2), (49, .agg (eLocks l)), (50, .int .i64 r6), (51, .bool (decide (r2 = r6))), (52, .bool (decide (r2 = r6))), (53, .agg (eLocks l)), (54, .agg (eLocks m)), (55, .bool r8), (56, .agg (eLocks l)), (57, .agg (eLocks m)), (58, .bool r9), (59, .bool (r8 == r9)), (60, .bool (r8 == r9)), (61, .bool (r8 == r9)), (62, .agg (eLocks l)), (63, .agg (eLocks l)), (64, .agg (eLocks ⟨⟨r10.Held.n, r10.Held.w, false⟩, ⟨r10.Waits.n, r10.Waits.w, false⟩⟩)), (65, .bool r11), (66, .bool r11), (67, .bool r11), (68, .agg (eLocks l)), (69, .ref 2 0), (70, .int .u64 o.Tx), (71, .sl 1 r12.n (rowOf (eI .u64) r12.w) false), (72, .agg (eLocks l)), (73, .ref 2 0), (74, .int .u64 o.Tx), (75, .sl 1 r13.n (rowOf (eI .u64) r13.w) false), (76, .bool r14), (77, .bool r14), (78, .bool r14), (79, .agg (eLocks l)), (80, .agg (eLock o)), (81, .bool r15), (82, .agg (eLocks l)), (83, .agg (eLock o)), (84, v)]), [some (.box [.sl 5 l.Held.n (rowOf eLock l.Held.w) l.Held.u, .sl 5 l.Waits.n (rowOf eLock l.Waits.w) l.Waits.u]), some (.box [.sl 5 m.Held.n (rowOf eLock m.Held.w) m.Held.u, .sl 5 m.Waits.n (rowOf eLock m.Waits.w) m.Waits.u]), some (.box (eLock o))]⟩ κ
noncomputable def law22_LocksAsks_r17 (k : Nat) (l : TLocks) (m : TLocks) (o : TLock) (r2 : Int) (r6 : Int) (x7 : Int) (r8 : Bool) (r9 : Bool) (r10 : TLocks) (r11 : Bool) (r12 : Sl Int) (r13 : Sl Int) (r14 : Bool) (r15 : Bool) (r16 : Bool) (x29 : Bool) (κ : AV → Heap → Option ρ) (v : AV) : Option ρ := resAt ctx k n_law22_LocksAsks 0 [.r, .r, .r, .l] 41 [(87, true), (78, true), (67, true), (61, true), (52, true)] ⟨(envOf 90 [(3, .ref 0 0), (4, .ref 1 0), (5, .ref 2 0), (7, .int .i64 x7), (29, .bool x29), (47, .agg (eLocks l)), (48, .int .i64 r2), (49, .agg (eLocks l)), (50, .int .i64 r6), (51, .bool (decide (r2 = r6))), (52, .bool (decide (r2 = r6))), (53, .agg (eLocks l)), (54, .agg (eLocks m)), (55, .bool r8), (56, .agg (eLocks l)), (57, .agg (eLocks m)), (58, .bool r9), (59, .bool (r8 == r9)), (60, .bool (r8 == r9)), (61, .bool (r8 == r9)), (62, .agg (eLocks l)), (63, .agg (eLocks l)), (64, .agg (eLocks ⟨⟨r10.Held.n, r10.Held.w, false⟩, ⟨r10.Waits.n, r10.Waits.w, false⟩⟩)), (65, .bool r11), (66, .bool r11), (67, .bool r11), (68, .agg (eLocks l)), (69, .ref 2 0), (70, .int .u64 o.Tx), (71, .sl 1 r12.n (rowOf (eI .u64) r12.w) false), (72, .agg (eLocks l)), (73, .ref 2 0), (74, .int .u64 o.Tx), (75, .sl 1 r13.n (rowOf (eI .u64) r13.w) false), (76, .bool r14), (77, .bool r14), (78, .bool r14), (79, .agg (eLocks l)), (80, .agg (eLock o)), (81, .bool r15), (82, .agg (eLocks l)), (83, .agg (eLock o)), (84, .bool r16), (85, .bool (r15 == r16)), (86, .bool (r15 == r16)), (87, .bool (r15 == r16)), (88, v)]), [some (.box [.sl 5 l.Held.n (rowOf eLock l.Held.w) l.Held.u, .sl 5 l.Waits.n (rowOf eLock l.Waits.w) l.Waits.u]), some (.box [.sl 5 m.Held.n (rowOf eLock m.Held.w) m.Held.u, .sl 5 m.Waits.n (rowOf eLock m.Waits.w) m.Waits.u]), some (.box (eLock o))]⟩ κ
theorem law22_LocksAsks_h0_s (k j : Nat) (l : TLocks) (m : TLocks) (o : TLock) (x7 : Int) (κ : AV → Heap → Option ρ) : law22_LocksAsks_h0 k (j + 1) l m o x7 κ =
  (bif decide (x7 < (l.Held.n : Int)) then
   (bif decide (x7 < 10) then
    (bif idxOK x7 l.Held.n then
     callP ctx k n_locks_Conflict [.agg (eLock ⟨((l.Held.w ((x7).toNat)).Tx), ⟨(((l.Held.w ((x7).toNat)).R).From), (((l.Held.w ((x7).toNat)).R).To), (((l.Held.w ((x7).toNat)).R).End)⟩, ((l.Held.w ((x7).toNat)).X)⟩), .agg (eLock o)] (law22_LocksAsks_r1 k j l m o x7 κ)
    else none)
   else callP ctx k n_locks_Check [.agg (eLocks l)] (law22_LocksAsks_r2 k l m o x7 (decide (x7 < 10)) κ))
  else callP ctx k n_locks_Check [.agg (eLocks l)] (law22_LocksAsks_r2 k l m o x7 false κ)) := by kernel_rfl
theorem law22_LocksAsks_r0_s (k : Nat) (l : TLocks) (m : TLocks) (o : TLock) (r0 : Bool) (κ : AV → Heap → Option ρ) : law22_LocksAsks_r0 k l m o κ (.bool r0) =
  (bif !r0 then
   callP ctx k n_law22_head [] (law22_LocksAsks_r3 k l m o true κ)
  else callP ctx k n_r22_Small [.agg (eLocks m)] (law22_LocksAsks_r4 k l m o r0 κ)) := by kernel_rfl
theorem law22_LocksAsks_r1_s (k j1 : Nat) (l : TLocks) (m : TLocks) (o : TLock) (x7 : Int) (r1 : Bool) (κ : AV → Heap → Option ρ) : law22_LocksAsks_r1 k j1 l m o x7 κ (.bool r1) =
  (bif idxOK x7 l.Held.n then
   callP ctx k n_r22_Conflict [.agg (eLock ⟨((l.Held.w ((x7).toNat)).Tx), ⟨(((l.Held.w ((x7).toNat)).R).From), (((l.Held.w ((x7).toNat)).R).To), (((l.Held.w ((x7).toNat)).R).End)⟩, ((l.Held.w ((x7).toNat)).X)⟩), .agg (eLock o)] (law22_LocksAsks_r5 k j1 l m o r1 x7 κ)
  else none) := by kernel_rfl
theorem law22_LocksAsks_r2_s (k : Nat) (l : TLocks) (m : TLocks) (o : TLock) (x7 : Int) (x29 : Bool) (r2 : Int) (κ : AV → Heap → Option ρ) : law22_LocksAsks_r2 k l m o x7 x29 κ (.int .i64 r2) =
  callP ctx k n_r22_Check [.agg (eLocks l)] (law22_LocksAsks_r6 k l m o r2 x7 x29 κ) := by kernel_rfl
theorem law22_LocksAsks_r3_s (k : Nat) (l : TLocks) (m : TLocks) (o : TLock) (x19 : Bool) (r3 : Bool) (κ : AV → Heap → Option ρ) : law22_LocksAsks_r3 k l m o x19 κ (.bool r3) =
  κ (.bool r3) [some (.box [.sl 5 l.Held.n (rowOf eLock l.Held.w) l.Held.u, .sl 5 l.Waits.n (rowOf eLock l.Waits.w) l.Waits.u]), some (.box [.sl 5 m.Held.n (rowOf eLock m.Held.w) m.Held.u, .sl 5 m.Waits.n (rowOf eLock m.Waits.w) m.Waits.u]), some (.box (eLock o))] := by kernel_rfl
theorem law22_LocksAsks_r4_s (k : Nat) (l : TLocks) (m : TLocks) (o : TLock) (r0 : Bool) (r4 : Bool) (κ : AV → Heap → Option ρ) : law22_LocksAsks_r4 k l m o r0 κ (.bool r4) =
  (bif !r4 then
   callP ctx k n_law22_head [] (law22_LocksAsks_r3 k l m o true κ)
  else callP ctx k n_law22_great [.agg (eLock o)] (law22_LocksAsks_r7 k l m o r0 r4 κ)) := by kernel_rfl
theorem law22_LocksAsks_r5_s (k j1 : Nat) (l : TLocks) (m : TLocks) (o : TLock) (r1 : Bool) (x7 : Int) (r5 : Bool) (κ : AV → Heap → Option ρ) : law22_LocksAsks_r5 k j1 l m o r1 x7 κ (.bool r5) =
  (bif !(r1 == r5) then
   κ (.bool false) [some (.box [.sl 5 l.Held.n (rowOf eLock l.Held.w) l.Held.u, .sl 5 l.Waits.n (rowOf eLock l.Waits.w) l.Waits.u]), some (.box [.sl 5 m.Held.n (rowOf eLock m.Held.w) m.Held.u, .sl 5 m.Waits.n (rowOf eLock m.Waits.w) m.Waits.u]), some (.box (eLock o))]
  else law22_LocksAsks_h0 k j1 l m o (wi64 (x7 + 1)) κ) := by kernel_rfl
theorem law22_LocksAsks_r6_s (k : Nat) (l : TLocks) (m : TLocks) (o : TLock) (r2 : Int) (x7 : Int) (x29 : Bool) (r6 : Int) (κ : AV → Heap → Option ρ) : law22_LocksAsks_r6 k l m o r2 x7 x29 κ (.int .i64 r6) =
  (bif decide (r2 = r6) then
   callP ctx k n_locks_Same [.agg (eLocks l), .agg (eLocks m)] (law22_LocksAsks_r8 k l m o r2 r6 x7 x29 κ)
  else κ (.bool false) []) := by kernel_rfl
theorem law22_LocksAsks_r7_s (k : Nat) (l : TLocks) (m : TLocks) (o : TLock) (r0 : Bool) (r4 : Bool) (r7 : Bool) (κ : AV → Heap → Option ρ) : law22_LocksAsks_r7 k l m o r0 r4 κ (.bool r7) =
  (bif r7 then
   callP ctx k n_law22_head [] (law22_LocksAsks_r3 k l m o r7 κ)
  else law22_LocksAsks_h0 k k l m o 0 κ) := by kernel_rfl
theorem law22_LocksAsks_r8_s (k : Nat) (l : TLocks) (m : TLocks) (o : TLock) (r2 : Int) (r6 : Int) (x7 : Int) (x29 : Bool) (r8 : Bool) (κ : AV → Heap → Option ρ) : law22_LocksAsks_r8 k l m o r2 r6 x7 x29 κ (.bool r8) =
  callP ctx k n_r22_Same [.agg (eLocks l), .agg (eLocks m)] (law22_LocksAsks_r9 k l m o r2 r6 x7 r8 x29 κ) := by kernel_rfl
theorem law22_LocksAsks_r9_s (k : Nat) (l : TLocks) (m : TLocks) (o : TLock) (r2 : Int) (r6 : Int) (x7 : Int) (r8 : Bool) (x29 : Bool) (r9 : Bool) (κ : AV → Heap → Option ρ) : law22_LocksAsks_r9 k l m o r2 r6 x7 r8 x29 κ (.bool r9) =
  (bif (r8 == r9) then
   callP ctx k n_r22_Copy [.agg (eLocks l)] (law22_LocksAsks_r10 k l m o r2 r6 x7 r8 r9 x29 κ)
  else κ (.bool false) []) := by kernel_rfl
theorem law22_LocksAsks_r10_s (k : Nat) (l : TLocks) (m : TLocks) (o : TLock) (r2 : Int) (r6 : Int) (x7 : Int) (r8 : Bool) (r9 : Bool) (x29 : Bool) (r10 : TLocks) (κ : AV → Heap → Option ρ) : law22_LocksAsks_r10 k l m o r2 r6 x7 r8 r9 x29 κ (.agg (eLocks ⟨⟨r10.Held.n, r10.Held.w, false⟩, ⟨r10.Waits.n, r10.Waits.w, false⟩⟩)) =
  callP ctx k n_locks_Same [.agg (eLocks l), .agg (eLocks ⟨⟨r10.Held.n, r10.Held.w, false⟩, ⟨r10.Waits.n, r10.Waits.w, false⟩⟩)] (law22_LocksAsks_r11 k l m o r2 r6 x7 r8 r9 r10 x29 κ) := by kernel_rfl
theorem law22_LocksAsks_r11_s (k : Nat) (l : TLocks) (m : TLocks) (o : TLock) (r2 : Int) (r6 : Int) (x7 : Int) (r8 : Bool) (r9 : Bool) (r10 : TLocks) (x29 : Bool) (r11 : Bool) (κ : AV → Heap → Option ρ) : law22_LocksAsks_r11 k l m o r2 r6 x7 r8 r9 r10 x29 κ (.bool r11) =
  (bif r11 then
   callP ctx k n_locks_Blockers [.agg (eLocks l), .int .u64 o.Tx] (law22_LocksAsks_r12 k l m o r2 r6 x7 r8 r9 r10 r11 x29 κ)
  else κ (.bool false) []) := by kernel_rfl
theorem law22_LocksAsks_r12_s (k : Nat) (l : TLocks) (m : TLocks) (o : TLock) (r2 : Int) (r6 : Int) (x7 : Int) (r8 : Bool) (r9 : Bool) (r10 : TLocks) (r11 : Bool) (x29 : Bool) (r12 : Sl Int) (κ : AV → Heap → Option ρ) : law22_LocksAsks_r12 k l m o r2 r6 x7 r8 r9 r10 r11 x29 κ (.sl 1 r12.n (rowOf (eI .u64) r12.w) false) =
  callP ctx k n_r22_Blockers [.agg (eLocks l), .int .u64 o.Tx] (law22_LocksAsks_r13 k l m o r2 r6 x7 r8 r9 r10 r11 r12 x29 κ) := by kernel_rfl
theorem law22_LocksAsks_r13_s (k : Nat) (l : TLocks) (m : TLocks) (o : TLock) (r2 : Int) (r6 : Int) (x7 : Int) (r8 : Bool) (r9 : Bool) (r10 : TLocks) (r11 : Bool) (r12 : Sl Int) (x29 : Bool) (r13 : Sl Int) (κ : AV → Heap → Option ρ) : law22_LocksAsks_r13 k l m o r2 r6 x7 r8 r9 r10 r11 r12 x29 κ (.sl 1 r13.n (rowOf (eI .u64) r13.w) false) =
  callP ctx k n_r12_SameIds [.sl 1 r12.n (rowOf (eI .u64) r12.w) false, .sl 1 r13.n (rowOf (eI .u64) r13.w) false] (law22_LocksAsks_r14 k l m o r2 r6 x7 r8 r9 r10 r11 r12 r13 x29 κ) := by kernel_rfl
theorem law22_LocksAsks_r14_s (k : Nat) (l : TLocks) (m : TLocks) (o : TLock) (r2 : Int) (r6 : Int) (x7 : Int) (r8 : Bool) (r9 : Bool) (r10 : TLocks) (r11 : Bool) (r12 : Sl Int) (r13 : Sl Int) (x29 : Bool) (r14 : Bool) (κ : AV → Heap → Option ρ) : law22_LocksAsks_r14 k l m o r2 r6 x7 r8 r9 r10 r11 r12 r13 x29 κ (.bool r14) =
  (bif r14 then
   callP ctx k n_locks_Holds [.agg (eLocks l), .agg (eLock o)] (law22_LocksAsks_r15 k l m o r2 r6 x7 r8 r9 r10 r11 r12 r13 r14 x29 κ)
  else κ (.bool false) []) := by kernel_rfl
theorem law22_LocksAsks_r15_s (k : Nat) (l : TLocks) (m : TLocks) (o : TLock) (r2 : Int) (r6 : Int) (x7 : Int) (r8 : Bool) (r9 : Bool) (r10 : TLocks) (r11 : Bool) (r12 : Sl Int) (r13 : Sl Int) (r14 : Bool) (x29 : Bool) (r15 : Bool) (κ : AV → Heap → Option ρ) : law22_LocksAsks_r15 k l m o r2 r6 x7 r8 r9 r10 r11 r12 r13 r14 x29 κ (.bool r15) =
  callP ctx k n_r22_Holds [.agg (eLocks l), .agg (eLock o)] (law22_LocksAsks_r16 k l m o r2 r6 x7 r8 r9 r10 r11 r12 r13 r14 r15 x29 κ) := by kernel_rfl
theorem law22_LocksAsks_r16_s (k : Nat) (l : TLocks) (m : TLocks) (o : TLock) (r2 : Int) (r6 : Int) (x7 : Int) (r8 : Bool) (r9 : Bool) (r10 : TLocks) (r11 : Bool) (r12 : Sl Int) (r13 : Sl Int) (r14 : Bool) (r15 : Bool) (x29 : Bool) (r16 : Bool) (κ : AV → Heap → Option ρ) : law22_LocksAsks_r16 k l m o r2 r6 x7 r8 r9 r10 r11 r12 r13 r14 r15 x29 κ (.bool r16) =
  (bif (r15 == r16) then
   callP ctx k n_law22_head [] (law22_LocksAsks_r17 k l m o r2 r6 x7 r8 r9 r10 r11 r12 r13 r14 r15 r16 x29 κ)
  else κ (.bool false) []) := by kernel_rfl
theorem law22_LocksAsks_r17_s (k : Nat) (l : TLocks) (m : TLocks) (o : TLock) (r2 : Int) (r6 : Int) (x7 : Int) (r8 : Bool) (r9 : Bool) (r10 : TLocks) (r11 : Bool) (r12 : Sl Int) (r13 : Sl Int) (r14 : Bool) (r15 : Bool) (r16 : Bool) (x29 : Bool) (r17 : Bool) (κ : AV → Heap → Option ρ) : law22_LocksAsks_r17 k l m o r2 r6 x7 r8 r9 r10 r11 r12 r13 r14 r15 r16 x29 κ (.bool r17) =
  κ (.bool r17) [] := by kernel_rfl
theorem law22_LocksAsks_e (k : Nat) (l : TLocks) (m : TLocks) (o : TLock) (κ : AV → Heap → Option ρ) : evalF ctx (k + 1) n_law22_LocksAsks [.agg (eLocks l), .agg (eLocks m), .agg (eLock o)] [] κ =
  callP ctx k n_r22_Small [.agg (eLocks l)] (law22_LocksAsks_r0 k l m o κ) := by kernel_rfl
end Go.Proofs.YticcbbcgboddpaaC

set_option linter.unusedVariables false
set_option linter.unusedSimpArgs false
set_option maxRecDepth 20000
namespace Go.Proofs.YticcbbcgboddpaaC
open Go Go.Ev Go.Proofs
theorem tx0 {x : TLock} (h : SLock x) : 0 ≤ x.Tx := h.1.1
theorem tx0s {s : TLocks} (h : SLocks s) : Tx0 s := ⟨fun i hi => tx0 (h.1.2 i hi), fun i hi => tx0 (h.2.2 i hi)⟩
theorem same_copy {n : Nat} {v w : Nat → TLock} (h : ∀ i, i < n → w i = v i) : sameB n n v w = true := by
  unfold sameB
  rw [dec_t rfl, Bool.true_and, allN_true]
  intro i hi
  rw [h i hi]; exact eqB_self _
theorem locksAsks_pure (l m : TLocks) (o : TLock) (h0 : SLocks l) (h1 : SLocks m) (h2 : SLock o) : ∃ k, evalF ctx k n_law22_LocksAsks [.agg (eLocks l), .agg (eLocks m), .agg (eLock o)] [] (fun v _ => some v) = some (.bool true) := by
  suffices h : ∀ K, 3000 ≤ K → ∀ (κ : AV → Heap → Option Bool), (∀ b H, κ (.bool b) H = some b) → evalF ctx (K + 1) n_law22_LocksAsks [.agg (eLocks l), .agg (eLocks m), .agg (eLock o)] [] κ = some true by
    exact ⟨3000 + 1, told_true (h 3000 (Nat.le_refl _))⟩
  intro K hK κ hκ
  have hh : ∀ κ : AV → Option Bool, callP ctx K n_law22_head [] κ = κ (.bool true) := by
    intro κ
    obtain ⟨K0, rfl⟩ : ∃ K0, K = K0 + 300 := ⟨K - 300, by omega⟩
    exact head_ok K0 κ
  have hT := tx0s h0
  have ho := tx0 h2
  obtain ⟨b, sb, sm⟩ := r22_Small_ok (ρ := Bool) K l (by omega)
  refine (law22_LocksAsks_e K l m o κ).trans ?_
  rw [sm, law22_LocksAsks_r0_s]
  cases b with
  | false => rw [Bool.not_false, cond_true, hh, law22_LocksAsks_r3_s, hκ]
  | true =>
  obtain ⟨hn, hm⟩ := sb rfl
  obtain ⟨b', sb', sm'⟩ := r22_Small_ok (ρ := Bool) K m (by omega)
  rw [Bool.not_true, cond_false, sm', law22_LocksAsks_r4_s]
  cases b' with
  | false => rw [Bool.not_false, cond_true, hh, law22_LocksAsks_r3_s, hκ]
  | true =>
  rw [Bool.not_true, cond_false, great_ok K o (by omega), law22_LocksAsks_r7_s]
  cases (decide (2000 < o.R.From.size) || decide (2000 < o.R.To.size)) with
  | true => rw [cond_true, hh, law22_LocksAsks_r3_s, hκ]
  | false =>
  rw [cond_false]
  have last : ∀ (x7 : Int) (x29 : Bool), callP ctx K n_locks_Check [.agg (eLocks l)] (law22_LocksAsks_r2 K l m o x7 x29 κ) = some true := by
    intro x7 x29
    obtain ⟨v, w, c1, c2, c3⟩ := r22_Copy_ok (ρ := Bool) K l (by omega) (by omega) (by omega)
    obtain ⟨n1, n2, u1, u2, g1, g2, g3, g4⟩ := Blockers_both (ρ := Bool) K l o.Tx hT (by omega) (by omega) (by omega)
    rw [locks_Check_ok K l (by omega) (by omega) (by omega), law22_LocksAsks_r2_s, r22_Check_ok K l hT (by omega) (by omega) (by omega), law22_LocksAsks_r6_s, dec_int, cond_true,
      locks_Same_ok K l m (by omega) (by omega) (by omega), law22_LocksAsks_r8_s, r22_Same_ok K l m (by omega) (by omega) (by omega), law22_LocksAsks_r9_s, beq_b, cond_true, c3]
    refine (law22_LocksAsks_r10_s K l m o _ _ x7 _ _ x29 ⟨⟨l.Held.n, v, false⟩, ⟨l.Waits.n, w, false⟩⟩ κ).trans ?_
    refine (locks_Same_ok K l ⟨⟨l.Held.n, v, false⟩, ⟨l.Waits.n, w, false⟩⟩ (by omega) (by omega) (by omega) _).trans ?_
    have hs : sameT l ⟨⟨l.Held.n, v, false⟩, ⟨l.Waits.n, w, false⟩⟩ = true := by
      unfold sameT
      dsimp only
      rw [same_copy c1, same_copy c2]; rfl
    rw [hs, law22_LocksAsks_r11_s, cond_true, g3]
    refine (law22_LocksAsks_r12_s K l m o _ _ x7 _ _ _ _ x29 ⟨n1, u1, false⟩ κ).trans ?_
    rw [g4]
    refine (law22_LocksAsks_r13_s K l m o _ _ x7 _ _ _ _ _ x29 ⟨n2, u2, false⟩ κ).trans ?_
    dsimp only
    rw [SameIds_ok K n1 n2 u1 u2 _ _ (by omega) (by omega), sameI_of g2, law22_LocksAsks_r14_s, cond_true, locks_Holds_ok K l o (by omega) (by omega) (by omega), law22_LocksAsks_r15_s,
      r22_Holds_ok K l o hT ho (by omega) (by omega) (by omega), law22_LocksAsks_r16_s, beq_b, cond_true, hh, law22_LocksAsks_r17_s, hκ]
  have loop : ∀ (j i : Nat), i ≤ 10 → 10 < i + j → law22_LocksAsks_h0 K j l m o (i : Int) κ = some true := by
    intro j
    induction j with
    | zero => intro i a1 a2; omega
    | succ j ih =>
      intro i a1 a2
      rw [law22_LocksAsks_h0_s]
      by_cases hi : i < l.Held.n
      · rw [dec_t (show (i : Int) < (l.Held.n : Int) by omega), cond_true]
        by_cases h10 : i < 10
        · rw [dec_t (show (i : Int) < 10 by omega), cond_true, idx_ok (by omega) (by omega), cond_true, Int.toNat_natCast]
          refine (Conflict_ok K (l.Held.w i) o (by omega) _).trans ?_
          rw [law22_LocksAsks_r1_s, idx_ok (by omega) (by omega), cond_true, Int.toNat_natCast]
          refine (r22_Conflict_ok K (l.Held.w i) o (hT.1 i hi) ho (by omega) _).trans ?_
          rw [law22_LocksAsks_r5_s, beq_b, Bool.not_true, cond_false, wi64_succ (by omega)]
          exact ih (i + 1) (by omega) (by omega)
        · rw [dec_f (show ¬ (i : Int) < 10 by omega), cond_false]; exact last _ _
      · rw [dec_f (by omega), cond_false]; exact last _ _
  exact loop K 0 (by omega) (by omega)
end Go.Proofs.YticcbbcgboddpaaC

namespace Go.Proofs.Yticcbbcgboddpaa.locksAsks
open Go Go.ChangeShapes Go.WideShapes Go.ChangeAt Go.RowKit Go.Ev Go.Proofs.YticcbbcgboddpaaC
open Go.ChangeMaps (open_string shut_string)
set_option linter.unusedVariables false
theorem own : ownKnob Try.prog.godebug = none := by kernel_rfl
theorem laidOut : laidOutB Try.prog = true := by kernel_rfl
set_option maxRecDepth 100000 in
theorem lifted (os : Os) (started : os.Started) (H : Type) (enc : TypeId × Value → H) :
    ReturnsInHanded {} Try.checked os 8 .any (Rows.locksAsksSpec.pre6 enc Try.prog Try.f8 Rows.locksAsksRow.domain false) (Rows.locksAsksSpec.post enc Try.prog Try.f8 false true false false) := by
  refine returnsInHanded_of_change_sized (C := Try.checked) own started (by kernel_rfl) Try.func8
    (ChangeSpec.witness6 (enc := enc) (C := Try.checked) false ⟨#[], #[.agg #[.slice none 0 0, .slice none 0 0], .agg #[.slice none 0 0, .slice none 0 0], .agg #[.int .u64 0, .string ByteArray.empty, .string ByteArray.empty, .bool false, .bool false]], []⟩ 8 (by kernel_rfl) (by kernel_rfl) (by kernel_rfl) (by kernel_rfl)) ?_
  intro W base args ds gs before hval0 hW hcnd hsz0 _
  have hsz : (DataW.weightsEach Try.prog (Try.f8.params.toList ++ Rows.locksAsksSpec.plain.varTypes Try.prog) (ds ++ gs)).all (· ≤ reachBytes) = true := hsz0
  have hval : ∀ (j : Nat) t v, Try.f8.params[j]? = some t → args[j]? = some v → Value.okWide Try.prog W .any base t v := hval0
  have hW' := hW
  obtain ⟨p, q, hA0, hV, rfl, hfz, hnd⟩ := hW
  have hA : DataW.TrodAll enc Try.prog W 0 (fun _ => true) true Try.f8.params.toList args.toList ds p := hA0
  rw [Try.params8] at hA hval hsz
  obtain ⟨v0, vs0, d0, ds0, p0, q0, hargs, rfl, rfl, h0, r0⟩ := trodAll_cons hA
  obtain ⟨v1, vs1, d1, ds1, p1, q1, rfl, rfl, rfl, h1, r1⟩ := trodAll_cons r0
  obtain ⟨v2, vs2, d2, ds2, p2, q2, rfl, rfl, rfl, h2, r2⟩ := trodAll_cons r1
  obtain ⟨rfl, rfl, rfl⟩ := trodAll_nil r2
  obtain rfl : args = #[v0, v1, v2] := by cases args; simp_all
  obtain ⟨rfl, rfl⟩ := trodVars_none hV
  have k0 := h0
  have lt0 : ∀ x ∈ p0, x.block < W.heap.size := by obtain ⟨m, hm⟩ := k0; exact DataW.trod_lt m _ _ _ hm
  obtain ⟨a0, hK0, hS0⟩ := opened (j := 0) (t := 28) opens28 hsz rfl rfl h0
  have k1 := h1
  have lt1 : ∀ x ∈ p1, x.block < W.heap.size := by obtain ⟨m, hm⟩ := k1; exact DataW.trod_lt m _ _ _ hm
  obtain ⟨a1, hK1, hS1⟩ := opened (j := 1) (t := 28) opens28 hsz rfl rfl h1
  have k2 := h2
  have lt2 : ∀ x ∈ p2, x.block < W.heap.size := by obtain ⟨m, hm⟩ := k2; exact DataW.trod_lt m _ _ _ hm
  obtain ⟨a2, hK2, hS2⟩ := opened (j := 2) (t := 34) opens34 hsz rfl rfl h2
  clear hA0 hval0 hsz0
  obtain ⟨k, h⟩ := locksAsks_pure a0 a1 a2 hS0 hS1 hS2
  refine (top ((arg_agg Try.underlying28 (hval 0 28 v0 rfl rfl) opens28.2.1 hK0).append ((arg_agg Try.underlying28 (hval 1 28 v1 rfl rfl) opens28.2.1 hK1).append ((arg_agg Try.underlying34 (hval 2 34 v2 rfl rfl) opens34.2.1 hK2)))) h).mono fun e W' ⟨he, bel⟩ => ?_
  subst he
  exact ⟨_, rfl, _, _, _, [], _, [], hW', trodAll_mk1 (shut_bool Try.underlying4 _), (trodAll_cons_mk (Below.trod laidOut (by kernel_rfl) (of_decide_eq_true (by kernel_rfl)) k0 bel lt0) (trodAll_cons_mk (Below.trod laidOut (by kernel_rfl) (of_decide_eq_true (by kernel_rfl)) k1 bel lt1) (trodAll_cons_mk (Below.trod laidOut (by kernel_rfl) (of_decide_eq_true (by kernel_rfl)) k2 bel lt2) trodAll_mk0))), rfl, bel.frame _, fun h => by cases h⟩
theorem over : Rows.locksAsksRow.holds Try.pinned (OpenSpec.ofChange Rows.locksAsksSpec) :=
  OpenClaim.holds_of_wide 8 Try.f8 rfl rfl rfl rfl rfl rfl rfl ⟨rfl, rfl, rfl, rfl, rfl⟩ rfl rfl rfl rfl rfl (by kernel_rfl) Try.func8 (by kernel_rfl)
    (of_decide_eq_true (by kernel_rfl)) (by unfold Func.isWrapper; first | (rw [if_pos (by decide +kernel)]; kernel_rfl) | (rw [if_neg (by decide +kernel)]; exact ⟨rfl, rfl⟩))
    (fun os started H enc _ => lifted os started H enc)
theorem proved : Rows.LocksAsksSaid := over
end Go.Proofs.Yticcbbcgboddpaa.locksAsks
namespace Go.Proofs.Yticcbbcgboddpaa
/-- The row, under a short name, for the claim. -/
theorem locksAsks_holds : Rows.LocksAsksSaid := locksAsks.proved
#print axioms locksAsks_holds
end Go.Proofs.Yticcbbcgboddpaa
