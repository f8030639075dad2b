/- Words of mine for the printed texts of this seat: comparisons, max and min of strings. No conditions. -/
import Derived.WalkKit
import Derived.Laws.Strings
namespace Go.Proofs.YtmekkbhgeijndaaW.XWords
open Go
theorem u8_lt_irrefl (a : UInt8) : ¬ a < a := UInt8.lt_irrefl a
theorem u8_trich (a b : UInt8) (h1 : ¬ a < b) (h2 : ¬ a = b) : b < a := by
  rw [UInt8.lt_iff_toNat_lt] at *
  have : ¬ a.toNat = b.toNat := fun h => h2 (UInt8.toNat_inj.1 h)
  omega
theorem u8_asymm (a b : UInt8) (h1 : a < b) : ¬ b < a := by
  rw [UInt8.lt_iff_toNat_lt] at *
  omega
theorem bl_or_eq : ∀ (x y : List UInt8), (Op.bytesLess x y || x == y) = !Op.bytesLess y x
  | [], [] => rfl
  | [], _ :: _ => rfl
  | _ :: _, [] => rfl
  | a :: x, b :: y => by
    have ih := bl_or_eq x y
    simp only [Op.bytesLess]
    by_cases h : a < b
    · have h2 : ¬ b < a := u8_asymm a b h
      have h3 : ¬ b = a := fun e => by subst e; exact u8_lt_irrefl _ h
      simp [h, h2, h3]
    · by_cases he : a = b
      · subst he
        simp only [u8_lt_irrefl, decide_false, Bool.false_or, BEq.rfl, Bool.true_and, List.cons_beq_cons]
        exact ih
      · have h2 : b < a := u8_trich a b h he
        simp [h, he, h2]
def smx (x y : ByteArray) : ByteArray := if Op.bytesLess x.toList y.toList then y else x
def smn (x y : ByteArray) : ByteArray := if Op.bytesLess y.toList x.toList then y else x
theorem xw_geq (t : TypeId) (a b : ByteArray) : binOp .geq t (.string a) (.string b) = pure (.bool !(Op.bytesLess a.toList b.toList)) := by simp [binOp, Op.stringOp]
theorem xw_leq (t : TypeId) (a b : ByteArray) : binOp .leq t (.string a) (.string b) = pure (.bool !(Op.bytesLess b.toList a.toList)) := by
  rw [← bl_or_eq]; simp [binOp, Op.stringOp]
theorem xw_gtr (t : TypeId) (a b : ByteArray) : binOp .gtr t (.string a) (.string b) = pure (.bool (Op.bytesLess b.toList a.toList)) := by
  rw [← Bool.not_not (b := Op.bytesLess b.toList a.toList), ← bl_or_eq]; simp [binOp, Op.stringOp]
theorem xw_max2 (x y : ByteArray) : Builtin.max2 (.string x) (.string y) = pure (.string (smx x y)) := by
  unfold smx
  cases h : Op.bytesLess x.toList y.toList <;> simp [Builtin.max2, Op.stringOp, asBool, h]
theorem xw_min2 (x y : ByteArray) : Builtin.min2 (.string x) (.string y) = pure (.string (smn x y)) := by
  unfold smn
  have := bl_or_eq x.toList y.toList
  cases h : Op.bytesLess y.toList x.toList <;> rw [h] at this <;> simp [Builtin.min2, Op.stringOp, asBool, this]
theorem xw_cell_self (w : World) (a : Addr) (v : Value) : (w.setCell a v).cell? a = (w.cell? a).map fun _ => v := by
  unfold World.setCell World.cell?
  simp only [Array.getElem?_modify, if_true]
  cases h : w.heap[a.block]? with
  | none => simp
  | some o =>
    cases o with
    | cells c e f =>
      simp only [Option.map_some]
      by_cases hs : a.spot.isSome = true
      · simp [hs]
      · simp only [hs, Bool.false_eq_true, if_false]
        rw [Array.getElem?_setIfInBounds]
        by_cases hl : a.off < c.size
        · simp [hl]
        · simp [hl]
    | _ => simp
end Go.Proofs.YtmekkbhgeijndaaW.XWords
