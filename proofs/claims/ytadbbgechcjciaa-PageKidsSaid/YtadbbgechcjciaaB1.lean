/- A page's number and its child. No conditions. -/
import Derived.Test.YtadbbgechcjciaaK1
import Derived.Test.YtadbbgechcjciaaH11
import Derived.Test.YtadbbgechcjciaaGlk
set_option linter.unusedVariables false
set_option linter.unusedSimpArgs false
namespace Go.Proofs.YtadbbgechcjciaaC
open Go Go.Ev Go.Proofs
theorem id_of_kid {id : Int} (h : isId id = true) : idV (kidT id) = id ∧ idE (kidT id) = 0 := by
  have hb : 1 ≤ id ∧ id ≤ 400 := by simpa [isId] using h
  have e1 : (kidT id).size = 8 := by rw [kidT, if_pos h, numB_size]
  have e2 : valF (bytesW (kidT id)) 8 = id := by
    rw [kidT, if_pos h, valF_congr fun i hi => bytesW_numB 8 id i hi, val_num8 (by omega) (by omega)]
  unfold idV idE
  rw [e1, e2, if_pos ⟨rfl, h⟩, if_pos ⟨rfl, h⟩]
  exact ⟨rfl, rfl⟩
theorem kid_of_id {s : ByteArray} (h : idE s = 0) : kidT (idV s) = s ∧ kidE (idV s) = 0 := by
  unfold idE at h
  split at h
  · rename_i hc
    unfold idV
    rw [if_pos hc]
    unfold kidT kidE
    rw [if_pos hc.2, if_pos hc.2]
    exact ⟨num_val8 hc.1, rfl⟩
  · cases h
theorem id_zero {s : ByteArray} (h : ¬ idE s = 0) : idV s = 0 := by
  unfold idE at h
  unfold idV
  split at h
  · exact absurd rfl h
  · rename_i hc; rw [if_neg hc]
theorem kidT_size (id : Int) : (kidT id).size ≤ 8 := by
  unfold kidT
  split
  · rw [numB_size]; exact Nat.le_refl _
  · exact Nat.zero_le _
theorem pageKids_pure (id : Int) (s : ByteArray) (h0 : SInt .u64 id) (h1 : SStr s) : ∃ k, evalF ctx k n_law11_PageKids [.int .u64 id, .str s] [] (fun v _ => some v) = some (.bool true) := by
  refine ⟨201, ?_⟩
  have hs : s.size ≤ 140737488351232 := h1
  have hk := kidT_size id
  refine (law11_PageKids_e 200 id s _).trans ?_
  rw [page_Kid_ok 200 id (by omega), law11_PageKids_r0_s]
  have fin : law11_PageKids_e2 200 true (fun v _ => some v) = some (.bool true) := rfl
  have last : ∀ (x45 : Bool), law11_PageKids_e1 200 s false (fun v _ => some v) = some (.bool true) := by
    intro x45
    rw [law11_PageKids_e1_s, cond_false, page_Id_ok 200 s (by omega) (by omega), law11_PageKids_r5_s]
    by_cases h : idE s = 0
    · obtain ⟨e1, e2⟩ := kid_of_id h
      rw [decide_eq_true h, Bool.not_true, cond_false, page_Kid_ok 200 _ (by omega), law11_PageKids_r4_s, e1, e2, dec_int, dec_str, cond_true, cond_true, head_ok 120, law11_PageKids_r6_s]
      rfl
    · rw [decide_eq_false h, Bool.not_false, cond_true, id_zero h, dec_int, cond_true, head_ok 120, law11_PageKids_r3_s]
      rfl
  have last2 : callP ctx 200 n_page_Id [.str s] (law11_PageKids_r2 200 id s (kidT id) (kidE id) false (fun v _ => some v)) = some (.bool true) := by
    rw [page_Id_ok 200 s (by omega) (by omega), law11_PageKids_r2_s]
    by_cases h : idE s = 0
    · obtain ⟨e1, e2⟩ := kid_of_id h
      rw [decide_eq_true h, Bool.not_true, cond_false, page_Kid_ok 200 _ (by omega), law11_PageKids_r4_s, e1, e2, dec_int, dec_str, cond_true, cond_true, head_ok 120, law11_PageKids_r6_s]
      rfl
    · rw [decide_eq_false h, Bool.not_false, cond_true, id_zero h, dec_int, cond_true, head_ok 120, law11_PageKids_r3_s]
      rfl
  have go : law11_PageKids_e0 200 id s (kidT id) (kidE id) false (fun v _ => some v) = some (.bool true) := by
    rw [law11_PageKids_e0_s, cond_false]
    cases hi : isId id with
    | true =>
      have e : kidE id = 0 := by rw [kidE, if_pos hi]
      rw [e, dec_int, cond_true, page_Id_ok 200 _ (by omega) (by omega), law11_PageKids_r1_s]
      obtain ⟨e1, e2⟩ := id_of_kid hi
      have e3 : (kidT id).size = 8 := by rw [kidT, if_pos hi, numB_size]
      rw [e1, e2, e3, dec_int, dec_int]
      exact last false
    | false =>
      have e : kidE id = 110 := by rw [kidE, if_neg (by rw [hi]; decide)]
      rw [e] at last2 ⊢
      exact last2
  by_cases h1 : 1 ≤ id
  · by_cases h2 : id ≤ 400
    · have e : kidE id = 0 := by rw [kidE, if_pos (by simp [isId, h1, h2])]
      rw [decide_eq_true h1, decide_eq_true h2]
      have e' : (!(decide (kidE id = 0) == true)) = false := by rw [e]; rfl
      rw [e', cond_true]
      exact go
    · have e : kidE id = 110 := by rw [kidE, if_neg (by simp [isId, h1, h2])]
      rw [decide_eq_true h1, decide_eq_false h2]
      have e' : (!(decide (kidE id = 0) == false)) = false := by rw [e]; rfl
      rw [e', cond_true]
      exact go
  · have e : kidE id = 110 := by rw [kidE, if_neg (by simp [isId, h1])]
    rw [decide_eq_false h1]
    have e' : (!(decide (kidE id = 0) == false)) = false := by rw [e]; rfl
    rw [e', cond_false]
    exact go
end Go.Proofs.YtadbbgechcjciaaC
