/- The reckoner's operations tell the truth, the sixth: arithmetic, comparisons, conversions. No conditions. -/
import Derived.Test.YtadbbgechcjciaaEv8
import Derived.Laws.Strings
set_option linter.unusedVariables false
set_option linter.unusedSimpArgs false
set_option linter.unusedSectionVars false
namespace Go.Ev
open Go

def valOf : AV → Value
  | .int k n => .int k n
  | .bool b => .bool b
  | .str s => .string s
  | _ => undef
/-- structs of a type are compared leaf by leaf -/
def CmpOK (P : Program) (t : Nat) (ks : List TK) : Prop := ∀ (x y : Operand) (as bs : List AV) (r : Bool) (w : World), leavesEq ks as bs = some r →
  ((do eqGuard .eql t x y (.agg (as.map valOf).toArray) (.agg (bs.map valOf).toArray); binOp .eql t (.agg (as.map valOf).toArray) (.agg (bs.map valOf).toArray) : Sem Value)).run P w = .ok (.bool r) w ∧
  ((do eqGuard .neq t x y (.agg (as.map valOf).toArray) (.agg (bs.map valOf).toArray); binOp .neq t (.agg (as.map valOf).toArray) (.agg (bs.map valOf).toArray) : Sem Value)).run P w = .ok (.bool (!r)) w
def CmpAll (c : Ctx) (P : Program) : Prop := ∀ t ty ks, c.tyOf t = some ty → ty.cmp = some ks → CmpOK P t ks
variable [Gh]

theorem leafEq_vals {β : Nat → Nat} {H : Heap} {W : Array Obj} {k : TK} {a b : AV} {r : Bool} (h : leafEq k a b = some r) {u v : Value} (hu : R β H W u a) (hv : R β H W v b) : u = valOf a ∧ v = valOf b := by
  unfold leafEq at h
  split at h
  · have := hu.inv_int; have := hv.inv_int; subst_vars; exact ⟨rfl, rfl⟩
  · have := hu.inv_bool; have := hv.inv_bool; subst_vars; exact ⟨rfl, rfl⟩
  · have := hu.inv_str; have := hv.inv_str; subst_vars; exact ⟨rfl, rfl⟩
  · cases h
theorem leavesEq_vals {β : Nat → Nat} {H : Heap} {W : Array Obj} : ∀ {ks : List TK} {as bs : List AV} {r : Bool}, leavesEq ks as bs = some r → ∀ {us vs : List Value}, us.length = as.length → vs.length = bs.length →
    (∀ j, j < as.length → R β H W (us.getD j undef) (as.getD j .und)) → (∀ j, j < bs.length → R β H W (vs.getD j undef) (bs.getD j .und)) → us = as.map valOf ∧ vs = bs.map valOf
  | [], as, bs, r, h, us, vs, h1, h2, h3, h4 => by
    unfold leavesEq at h
    split at h
    · rename_i e1 e2
      have : us = [] := List.length_eq_zero_iff.1 (by simpa using h1)
      have : vs = [] := List.length_eq_zero_iff.1 (by simpa using h2)
      subst_vars; exact ⟨rfl, rfl⟩
    · rename_i e; cases e
    · cases h
  | k :: ks, as, bs, r, h, us, vs, h1, h2, h3, h4 => by
    cases as with
    | nil => simp [leavesEq] at h
    | cons a as =>
      cases bs with
      | nil => simp [leavesEq] at h
      | cons b bs =>
        cases us with
        | nil => simp at h1
        | cons u us =>
          cases vs with
          | nil => simp at h2
          | cons v vs =>
            simp only [leavesEq] at h
            split at h
            · rename_i x y e1 e2
              obtain ⟨i1, i2⟩ := leafEq_vals e1 (by simpa using h3 0 (by simp)) (by simpa using h4 0 (by simp))
              obtain ⟨j1, j2⟩ := leavesEq_vals e2 (us := us) (vs := vs) (by simpa using h1) (by simpa using h2) (fun j hj => by simpa using h3 (j + 1) (by simpa using hj)) (fun j hj => by simpa using h4 (j + 1) (by simpa using hj))
              simp [i1, i2, j1, j2]
            · cases h

theorem bl_le : ∀ (x y : List UInt8), (Op.bytesLess x y || x == y) = !Op.bytesLess y x
  | [], [] => rfl
  | [], _ :: _ => rfl
  | _ :: _, [] => rfl
  | a :: x, b :: y => by
    have ih := bl_le x y
    simp only [Op.bytesLess]
    by_cases h : a < b
    · have h2 : ¬ b < a := fun h' => by rw [UInt8.lt_iff_toNat_lt] at *; omega
      have h3 : ¬ b = a := fun e => by subst e; rw [UInt8.lt_iff_toNat_lt] at h; omega
      simp [h, h2, h3]
    · by_cases he : a = b
      · subst he
        have h4 : ¬ a < a := h
        simp only [h4, decide_false, Bool.false_or, BEq.rfl, Bool.true_and, List.cons_beq_cons]
        exact ih
      · have h2 : b < a := by
          rw [UInt8.lt_iff_toNat_lt] at *
          have : ¬ a.toNat = b.toNat := fun h => he (UInt8.toNat_inj.1 h)
          omega
        simp [h, h2, he]
theorem toList_inj {x y : ByteArray} : (x.toList == y.toList) = decide (x = y) := by
  rw [Bool.eq_iff_iff]
  simp only [beq_iff_eq, decide_eq_true_eq]
  constructor
  · intro h
    rw [ByteArray.toList_eq, ByteArray.toList_eq] at h
    rcases x with ⟨⟨x⟩⟩; rcases y with ⟨⟨y⟩⟩
    simpa using h
  · rintro rfl; rfl

section
variable {ρ : Type} {P : Program} {o : Oper} {a : Act} {w : World} {Q : Exit → Act → World → Prop} {κ : Option AV → Heap → Option ρ} {x : ρ} {β : Nat → Nat} {H : Heap} {e : List (Option AV)} {c : Ctx}

theorem guard_run {op : BinOp} {t : Nat} {y z : Operand} {u v : Value} (h : (match u with | .agg _ | .nilIface => False | _ => True)) : (eqGuard op t y z u v).run P w = .ok () w := by
  unfold eqGuard
  cases op <;> simp <;> (cases u <;> first | exact h.elim | (cases v <;> rfl))

theorem intBin_ok {op : BinOp} {t : Nat} {k : IntKind} {n m : Int} {r : AV} (hs : op ≠ .shl) (hs2 : op ≠ .shr) (h : intBin op k n m = some (true, r)) :
    ∃ v, (binOp op t (.int k n) (.int k m)).run P w = .ok v w ∧ R β H w.heap v r := by
  cases op <;> simp only [intBin, bits, Option.map_some, Option.some.injEq, Prod.mk.injEq, reduceCtorEq, Option.map_none] at h
  all_goals (obtain ⟨h1, rfl⟩ := h)
  case add => exact ⟨.int k (k.wrap (n + m)), by simp [binOp, Op.intArith], .int _ _⟩
  case sub => exact ⟨.int k (k.wrap (n - m)), by simp [binOp, Op.intArith], .int _ _⟩
  case mul => exact ⟨.int k (k.wrap (n * m)), by simp [binOp, Op.intArith], .int _ _⟩
  case quo =>
    have h0 : ¬ m = 0 := by simpa using h1
    exact ⟨.int k (k.wrap (n.tdiv m)), by simp [binOp, Op.intDiv, h0], .int _ _⟩
  case rem =>
    have h0 : ¬ m = 0 := by simpa using h1
    exact ⟨.int k (n.tmod m), by simp [binOp, Op.intDiv, h0], .int _ _⟩
  case and => exact ⟨.int k (k.wrap (BitVec.ofInt k.bits n &&& BitVec.ofInt k.bits m).toNat), by simp only [binOp, Op.intBits]; rw [if_neg (by simp)]; rfl, .int _ _⟩
  case or => exact ⟨.int k (k.wrap (BitVec.ofInt k.bits n ||| BitVec.ofInt k.bits m).toNat), by simp only [binOp, Op.intBits]; rw [if_neg (by simp)]; rfl, .int _ _⟩
  case xor => exact ⟨.int k (k.wrap (BitVec.ofInt k.bits n ^^^ BitVec.ofInt k.bits m).toNat), by simp only [binOp, Op.intBits]; rw [if_neg (by simp)]; rfl, .int _ _⟩
  case andNot => exact ⟨.int k (k.wrap (BitVec.ofInt k.bits n &&& ~~~BitVec.ofInt k.bits m).toNat), by simp only [binOp, Op.intBits]; rw [if_neg (by simp)]; rfl, .int _ _⟩
  case eql => exact ⟨.bool (decide (n = m)), by simp only [binOp, Op.intCmp]; rw [if_neg (by simp)]; rfl, .bool _⟩
  case neq => exact ⟨.bool (!decide (n = m)), by simp only [binOp, Op.intCmp]; rw [if_neg (by simp)]; rfl, .bool _⟩
  case lss => exact ⟨.bool (decide (n < m)), by simp only [binOp, Op.intCmp]; rw [if_neg (by simp)]; rfl, .bool _⟩
  case leq => exact ⟨.bool (decide (n ≤ m)), by simp only [binOp, Op.intCmp]; rw [if_neg (by simp)]; rfl, .bool _⟩
  case gtr => exact ⟨.bool (decide (m < n)), by simp only [binOp, Op.intCmp]; rw [if_neg (by simp)]; rfl, .bool _⟩
  case geq => exact ⟨.bool (decide (m ≤ n)), by simp only [binOp, Op.intCmp]; rw [if_neg (by simp)]; rfl, .bool _⟩

theorem strBin_ok {op : BinOp} {t : Nat} {n m : ByteArray} {r : AV} (h : strBin op n m = some (true, r)) :
    ∃ v, (binOp op t (.string n) (.string m)).run P w = .ok v w ∧ R β H w.heap v r := by
  cases op <;> simp only [strBin, Option.some.injEq, Prod.mk.injEq, reduceCtorEq] at h
  all_goals (obtain ⟨h1, rfl⟩ := h)
  case add =>
    have h0 : n.size + m.size ≤ 9223372036854775807 := by simpa using h1
    have h2 : ¬ (((n.size + m.size : Nat) : Int) > IntKind.i64.max) := by
      have : IntKind.i64.max = 9223372036854775807 := by decide
      omega
    exact ⟨.string (n ++ m), by simp only [binOp, Op.stringOp]; rw [if_neg h2]; rfl, .str _⟩
  case eql => exact ⟨.bool (n.toList == m.toList), by simp [binOp, Op.stringOp], by rw [toList_inj]; exact .bool _⟩
  case neq => exact ⟨.bool (!(n.toList == m.toList)), by simp [binOp, Op.stringOp], by rw [toList_inj]; exact .bool _⟩
  case lss => exact ⟨.bool (Op.bytesLess n.toList m.toList), by simp [binOp, Op.stringOp], .bool _⟩
  case leq => exact ⟨.bool (Op.bytesLess n.toList m.toList || n.toList == m.toList), by simp [binOp, Op.stringOp], by rw [bl_le]; exact .bool _⟩
  case gtr => exact ⟨.bool !(Op.bytesLess n.toList m.toList || n.toList == m.toList), by simp [binOp, Op.stringOp], by rw [bl_le, Bool.not_not]; exact .bool _⟩
  case geq => exact ⟨.bool !(Op.bytesLess n.toList m.toList), by simp [binOp, Op.stringOp], .bool _⟩

theorem equal_bool {t : Nat} (hd : P.underlying t = some .bool) (n m : Bool) : (Op.equal t (.bool n) (.bool m)).run P w = .ok (n == m) w := by
  show (Op.equalIn (9999 + 1) t _ _).run P w = _
  rw [Op.equalIn]
  simp only [Sem.run_bind, run_underlying hd w, Result.andThen_ok]
  rfl
theorem equal_nn {t et : Nat} (hd : P.underlying t = some (.pointer et)) : (Op.equal t (.pointer none) (.pointer none)).run P w = .ok true w := by
  show (Op.equalIn (9999 + 1) t _ _).run P w = _
  rw [Op.equalIn]
  simp only [Sem.run_bind, run_underlying hd w, Result.andThen_ok]
  rfl
theorem equal_sn {t et : Nat} (hd : P.underlying t = some (.pointer et)) (a : Addr) : (Op.equal t (.pointer (some a)) (.pointer none)).run P w = .ok false w := by
  show (Op.equalIn (9999 + 1) t _ _).run P w = _
  rw [Op.equalIn]
  simp only [Sem.run_bind, run_underlying hd w, Result.andThen_ok]
  rfl
theorem equal_ns {t et : Nat} (hd : P.underlying t = some (.pointer et)) (a : Addr) : (Op.equal t (.pointer none) (.pointer (some a))).run P w = .ok false w := by
  show (Op.equalIn (9999 + 1) t _ _).run P w = _
  rw [Op.equalIn]
  simp only [Sem.run_bind, run_underlying hd w, Result.andThen_ok]
  rfl
theorem eq_run {t : Nat} {u v : Value} {b : Bool} (h : (Op.equal t u v).run P w = .ok b w) (hb : binOp .eql t u v = (do pure (.bool (← Op.equal t u v)))) : (binOp .eql t u v).run P w = .ok (.bool b) w := by
  rw [hb]; simp only [Sem.run_bind, h, Result.andThen_ok]; rfl
theorem ne_run {t : Nat} {u v : Value} {b : Bool} (h : (Op.equal t u v).run P w = .ok b w) (hb : binOp .neq t u v = (do pure (.bool (!(← Op.equal t u v))))) : (binOp .neq t u v).run P w = .ok (.bool (!b)) w := by
  rw [hb]; simp only [Sem.run_bind, h, Result.andThen_ok]; rfl

theorem binAV_ok (hC : CtxOK c P) (hM : CmpAll c P) {op : BinOp} {t : Nat} {y z : Operand} {u v : Value} {p q r : AV} (hu : R β H w.heap u p) (hv : R β H w.heap v q) (h : binAV c op t p q = some (true, r)) :
    ∃ cv, ((do eqGuard op t y z u v; binOp op t u v : Sem Value)).run P w = .ok cv w ∧ R β H w.heap cv r := by
  unfold binAV at h
  split at h
  · -- numbers
    rename_i k n k' m
    have := hu.inv_int; have := hv.inv_int; subst_vars
    have hg : (eqGuard op t y z (.int k n) (.int k' m)).run P w = .ok () w := guard_run trivial
    split at h
    · have h := Option.some.inj h
      obtain ⟨h1, rfl⟩ := Prod.mk.inj h
      have h0 : ¬ m < 0 := by simpa using h1
      refine ⟨.int k (k.wrap (n * 2 ^ (min m.toNat k.bits))), ?_, .int _ _⟩
      simp only [Sem.run_bind, hg, Result.andThen_ok]
      simp [binOp, Op.shift, h0]
    · have h := Option.some.inj h
      obtain ⟨h1, rfl⟩ := Prod.mk.inj h
      have h0 : ¬ m < 0 := by simpa using h1
      refine ⟨.int k (n.fdiv (2 ^ (min m.toNat k.bits))), ?_, .int _ _⟩
      simp only [Sem.run_bind, hg, Result.andThen_ok]
      simp [binOp, Op.shift, h0]
    · rename_i n1 n2
      split at h
      · rename_i hk
        subst hk
        obtain ⟨cv, h1, h2⟩ := intBin_ok (P := P) (w := w) (β := β) (H := H) (t := t) (by intro hh; exact n1 hh) (by intro hh; exact n2 hh) h
        exact ⟨cv, by simp only [Sem.run_bind, hg, Result.andThen_ok, h1], h2⟩
      · cases h
  · -- texts
    rename_i n m
    have := hu.inv_str; have := hv.inv_str; subst_vars
    have hg : (eqGuard op t y z (.string n) (.string m)).run P w = .ok () w := guard_run trivial
    obtain ⟨cv, h1, h2⟩ := strBin_ok (P := P) (w := w) (β := β) (H := H) (t := t) h
    exact ⟨cv, by simp only [Sem.run_bind, hg, Result.andThen_ok, h1], h2⟩
  · -- truths
    rename_i n m
    have := hu.inv_bool; have := hv.inv_bool; subst_vars
    have hg : (eqGuard op t y z (.bool n) (.bool m)).run P w = .ok () w := guard_run trivial
    split at h
    · rename_i hk
      have hd : P.underlying t = some .bool := kOf_desc hC hk
      have h := Option.some.inj h
      obtain ⟨h1, rfl⟩ := Prod.mk.inj h
      refine ⟨.bool (n == m), ?_, .bool _⟩
      simp only [Sem.run_bind, hg, Result.andThen_ok]
      exact eq_run (equal_bool hd n m) rfl
    · rename_i hk
      have hd : P.underlying t = some .bool := kOf_desc hC hk
      have h := Option.some.inj h
      obtain ⟨h1, rfl⟩ := Prod.mk.inj h
      refine ⟨.bool (!(n == m)), ?_, .bool _⟩
      simp only [Sem.run_bind, hg, Result.andThen_ok]
      exact ne_run (equal_bool hd n m) rfl
    · cases h
  · -- structs
    rename_i xs ys
    split at h
    case h_2 => cases h
    rename_i fs z1 z2 z3 ks hty
    have hcmp := hM t _ ks hty rfl
    cases hu with
    | agg us _ hus hl1 hR1 =>
    cases hv with
    | agg vs _ hvs hl2 hR2 =>
    have vals : ∀ r', leavesEq ks xs ys = some r' → us = (xs.map valOf).toArray ∧ vs = (ys.map valOf).toArray := by
      intro r' hr'
      obtain ⟨i1, i2⟩ := leavesEq_vals (β := β) (H := H) (W := w.heap) hr' (us := us.toList) (vs := vs.toList) (by simpa using hus) (by simpa using hvs)
        (fun j hj => by have := hR1 j hj; simpa [Array.getD_eq_getD_getElem?, List.getD_eq_getElem?_getD] using this) (fun j hj => by have := hR2 j hj; simpa [Array.getD_eq_getD_getElem?, List.getD_eq_getElem?_getD] using this)
      exact ⟨by rw [← i1], by rw [← i2]⟩
    split at h
    · rename_i r' hr'
      obtain ⟨rfl, rfl⟩ := vals r' hr'
      have h := Option.some.inj h
      obtain ⟨_, rfl⟩ := Prod.mk.inj h
      exact ⟨_, (hcmp y z xs ys r' w hr').1, .bool _⟩
    · rename_i r' hr'
      obtain ⟨rfl, rfl⟩ := vals r' hr'
      have h := Option.some.inj h
      obtain ⟨_, rfl⟩ := Prod.mk.inj h
      exact ⟨_, (hcmp y z xs ys r' w hr').2, .bool _⟩
    · cases h
  · -- no pointer, twice
    cases hu; cases hv
    have hg : (eqGuard op t y z (.pointer none) (.pointer none)).run P w = .ok () w := guard_run trivial
    split at h
    · rename_i et hk
      have hd : P.underlying t = some (.pointer et) := kOf_desc hC hk
      have h := Option.some.inj h
      obtain ⟨h1, rfl⟩ := Prod.mk.inj h
      refine ⟨.bool true, ?_, .bool _⟩
      simp only [Sem.run_bind, hg, Result.andThen_ok]
      exact eq_run (equal_nn hd) rfl
    · rename_i et hk
      have hd : P.underlying t = some (.pointer et) := kOf_desc hC hk
      have h := Option.some.inj h
      obtain ⟨h1, rfl⟩ := Prod.mk.inj h
      refine ⟨.bool false, ?_, .bool _⟩
      simp only [Sem.run_bind, hg, Result.andThen_ok]
      exact ne_run (equal_nn hd) rfl
    · cases h
  · -- a pointer against none
    cases hu with
    | ref r' off cs hH =>
    cases hv
    have hg : ∀ ad, (eqGuard op t y z (.pointer (some ad)) (.pointer none)).run P w = .ok () w := fun ad => guard_run trivial
    split at h
    · rename_i et hk
      have hd : P.underlying t = some (.pointer et) := kOf_desc hC hk
      have h := Option.some.inj h
      obtain ⟨h1, rfl⟩ := Prod.mk.inj h
      refine ⟨.bool false, ?_, .bool _⟩
      simp only [Sem.run_bind, hg, Result.andThen_ok]
      exact eq_run (equal_sn hd _) rfl
    · rename_i et hk
      have hd : P.underlying t = some (.pointer et) := kOf_desc hC hk
      have h := Option.some.inj h
      obtain ⟨h1, rfl⟩ := Prod.mk.inj h
      refine ⟨.bool true, ?_, .bool _⟩
      simp only [Sem.run_bind, hg, Result.andThen_ok]
      exact ne_run (equal_sn hd _) rfl
    · cases h
  · cases hu
    cases hv with
    | ref r' off cs hH =>
    have hg : ∀ ad, (eqGuard op t y z (.pointer none) (.pointer (some ad))).run P w = .ok () w := fun ad => guard_run trivial
    split at h
    · rename_i et hk
      have hd : P.underlying t = some (.pointer et) := kOf_desc hC hk
      have h := Option.some.inj h
      obtain ⟨h1, rfl⟩ := Prod.mk.inj h
      refine ⟨.bool false, ?_, .bool _⟩
      simp only [Sem.run_bind, hg, Result.andThen_ok]
      exact eq_run (equal_ns hd _) rfl
    · rename_i et hk
      have hd : P.underlying t = some (.pointer et) := kOf_desc hC hk
      have h := Option.some.inj h
      obtain ⟨h1, rfl⟩ := Prod.mk.inj h
      refine ⟨.bool true, ?_, .bool _⟩
      simp only [Sem.run_bind, hg, Result.andThen_ok]
      exact ne_run (equal_ns hd _) rfl
    · cases h
  · cases h

theorem op_binOp (hC : CtxOK c P) (hM : CmpAll c P) {op : BinOp} {t t2 : Nat} {y z : Operand} (ho : o.op = .binOp op t y z t2) (hR : HR β H w.heap) (hE : ER β H w.heap a.tmps e)
    (h : opt (opd e y) (fun u => opt (opd e z) fun v => chk (binAV c op t u v) fun v => κ (some v) H) = some x) : Goal P o a w Q κ x β H := by
  obtain ⟨u, hu, h1⟩ := opt_some h
  obtain ⟨v, hv, h2⟩ := opt_some h1
  obtain ⟨r, hr, hk⟩ := chk_some h2
  obtain ⟨cv, hrun, hcv⟩ := binAV_ok (P := P) (y := y) (z := z) hC hM (opd_ok hE hu) (opd_ok hE hv) hr
  refine Goal.value hR ?_ hcv hk
  unfold execOp
  rw [ho]
  simp only [Sem.run_bind] at hrun ⊢
  rw [hrun]
  rfl

theorem op_unOp {op : UnOp} {t : Nat} {y : Operand} (ho : o.op = .unOp op t y) (hR : HR β H w.heap) (hE : ER β H w.heap a.tmps e)
    (h : opt (opd e y) (fun u => opt (unAV op u) fun v => κ (some v) H) = some x) : Goal P o a w Q κ x β H := by
  obtain ⟨u, hu, h1⟩ := opt_some h
  obtain ⟨r, hr, hk⟩ := opt_some h1
  have ru := opd_ok hE hu
  have key : ∃ cv, (Op.unary op (a.eval y)).run P w = .ok cv w ∧ R β H w.heap cv r := by
    unfold unAV at hr
    split at hr <;> cases hr
    · rw [ru.inv_bool]; exact ⟨_, rfl, .bool _⟩
    · rw [ru.inv_int]; exact ⟨_, rfl, .int _ _⟩
  obtain ⟨cv, hrun, hcv⟩ := key
  refine Goal.value hR ?_ hcv hk
  unfold execOp
  rw [ho]
  simp [hrun]
end
end Go.Ev
