/- Texts out of bytes. No conditions. -/
import Derived.Test.YtadbbgechcjciaaL0
set_option linter.unusedVariables false
set_option linter.unusedSimpArgs false
namespace Go.Ev
open Go
/-- bytes as a text -/
def mkB (L : List Int) : ByteArray := ⟨(L.map fun n => UInt8.ofNat n.toNat).toArray⟩
theorem mkB_size (L : List Int) : (mkB L).size = L.length := by simp [mkB, ByteArray.size]
theorem mkB_app (A B : List Int) : mkB (A ++ B) = mkB A ++ mkB B := by
  apply ByteArray.ext
  rw [ByteArray.data_append]
  simp [mkB]
theorem mkB_nil : mkB [] = (⟨#[]⟩ : ByteArray) := rfl
theorem bytesOf_mk (n : Nat) (w : Nat → Int) : bytesOf n (rowOf (eI .u8) w) = mkB (lst n w) := by
  unfold bytesOf mkB lst rowOf eI u8Of
  simp [List.map_map]
theorem allU8_mk (w : Nat → Int) : ∀ n, allU8 (rowOf (eI .u8) w) n = true
  | 0 => rfl
  | n + 1 => by unfold allU8; rw [allU8_mk w n]; rfl
theorem mkB_str (s : ByteArray) : mkB (lst s.size (bytesW s)) = s := by
  apply ByteArray.ext
  unfold mkB lst
  apply Array.ext
  · simp only [List.size_toArray, List.length_map, List.length_range]; rfl
  · intro i h1 h2
    rw [List.getElem_toArray, List.getElem_map, List.getElem_map, List.getElem_range]
    unfold bytesW
    rw [Array.getD_eq_getD_getElem?, Array.getElem?_eq_getElem h2, Option.getD_some, Int.toNat_natCast, UInt8.ofNat_toNat]
/-- a text's bytes, one by one -/
theorem byte_lt (s : ByteArray) (i : Nat) : 0 ≤ bytesW s i ∧ bytesW s i ≤ 255 := by
  unfold bytesW
  have := (s.data.getD i 0).toNat_lt
  omega
theorem mkB_inj {A B : List Int} (hA : ∀ x ∈ A, 0 ≤ x ∧ x ≤ 255) (hB : ∀ x ∈ B, 0 ≤ x ∧ x ≤ 255) (h : mkB A = mkB B) : A = B := by
  have h1 : (A.map fun n => UInt8.ofNat n.toNat) = B.map fun n => UInt8.ofNat n.toNat := by
    have := congrArg (fun b : ByteArray => b.data.toList) h
    simpa [mkB] using this
  clear h
  induction A generalizing B with
  | nil => cases B with
    | nil => rfl
    | cons b B => simp at h1
  | cons a A ih => cases B with
    | nil => simp at h1
    | cons b B =>
      simp only [List.map_cons, List.cons.injEq] at h1
      have ha := hA a List.mem_cons_self
      have hb := hB b List.mem_cons_self
      have e := congrArg UInt8.toNat h1.1
      simp only [UInt8.toNat_ofNat'] at e
      have : a = b := by omega
      rw [this, ih (fun x hx => hA x (List.mem_cons_of_mem _ hx)) (fun x hx => hB x (List.mem_cons_of_mem _ hx)) h1.2]
end Go.Ev
