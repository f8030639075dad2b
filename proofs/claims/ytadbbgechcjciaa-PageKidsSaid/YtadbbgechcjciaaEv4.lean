/- The reckoner's operations tell the truth, the first: copies, choices, new variables, loads, addresses. No conditions. -/
import Derived.Test.YtadbbgechcjciaaEv3
import Derived.Laws.IdiomCopy
import Derived.Laws.Append
import Derived.Laws.Tables
set_option linter.unusedVariables false
set_option linter.unusedSimpArgs false
set_option linter.unusedSectionVars false
namespace Go.Ev
open Go

theorem R.inv_bool [Gh] {β : Nat → Nat} {H : Heap} {W : Array Obj} {v : Value} {b : Bool} (h : R β H W v (.bool b)) : v = .bool b := by cases h; rfl
theorem R.inv_int [Gh] {β : Nat → Nat} {H : Heap} {W : Array Obj} {v : Value} {k : IntKind} {n : Int} (h : R β H W v (.int k n)) : v = .int k n := by cases h; rfl
theorem R.inv_str [Gh] {β : Nat → Nat} {H : Heap} {W : Array Obj} {v : Value} {s : ByteArray} (h : R β H W v (.str s)) : v = .string s := by cases h; rfl

def TKOK (P : Program) (t : Nat) : TK → Prop
  | .int k => P.underlying t = some (.int k)
  | .bool => P.underlying t = some .bool
  | .str => P.underlying t = some .string
  | .slice e => P.underlying t = some (.slice e)
  | .ptr e => P.underlying t = some (.pointer e)
  | .struct fs => ∃ fields : Array Field, P.underlying t = some (.struct fields) ∧ fields.toList.map (fun f => (f.offset, f.type)) = fs
  | .arr n e => P.underlying t = some (.array n e)
  | .fn => ∃ a b v, P.underlying t = some (.func a b v)
  | .other => False
/-- what must be known of a type -/
structure TyOK (P : Program) (t : Nat) (ty : Ty) : Prop where
  desc : TKOK P t ty.k
  info : ∃ i, P.info? t = some i ∧ i.size = ty.size ∧ i.bytes = ty.bytes ∧ ∃ z, i.zero = some z ∧ z.cells.size = ty.size ∧ ∀ [Gh] β H W j, j < ty.zero.length → R β H W (z.cells.getD j undef) (ty.zero.getD j .und)
  len : ty.zero.length = ty.size
  leaf : allLeaf ty.zero = true
  pure : pureL ty.zero = true
structure CtxOK (c : Ctx) (P : Program) : Prop where
  ty : ∀ t ty, c.tyOf t = some ty → TyOK P t ty

def Same (w w' : World) : Prop := w'.os = w.os ∧ w'.tape = w.tape ∧ w'.output = w.output
theorem Same.refl (w : World) : Same w w := ⟨rfl, rfl, rfl⟩
theorem Same.trans {a b c : World} (h : Same a b) (k : Same b c) : Same a c := ⟨k.1.trans h.1, k.2.1.trans h.2.1, k.2.2.trans h.2.2⟩

variable [Gh]
def VR (β : Nat → Nat) (H : Heap) (W : Array Obj) (cv : Value) : Option AV → Prop
  | some av => R β H W cv av
  | none => cv = undef
/-- the temporaries are as told -/
def ER (β : Nat → Nat) (H : Heap) (W : Array Obj) (tmps : Array Value) (e : List (Option AV)) : Prop :=
  e.length ≤ tmps.size ∧ ∀ t av, e.getD t none = some av → ∃ v, tmps[t]? = some v ∧ R β H W v av
theorem ER.stays {β β' : Nat → Nat} {H H' : Heap} {W W' : Array Obj} (k : Evo β H W β' H' W') {tmps : Array Value} {e : List (Option AV)} (h : ER β H W tmps e) : ER β' H' W' tmps e :=
  ⟨h.1, fun t av ht => let ⟨v, hv, hr⟩ := h.2 t av ht; ⟨v, hv, hr.stays k⟩⟩

variable {ρ : Type}
/-- an operation does what the reckoner says -/
def Goal (P : Program) (o : Oper) (a : Act) (w : World) (Q : Exit → Act → World → Prop) (κ : Option AV → Heap → Option ρ) (x : ρ) (β : Nat → Nat) (H : Heap) : Prop :=
  ∀ next : Act → World → Prop, (∀ cv ov β' H' w', κ ov H' = some x → VR β' H' w'.heap cv ov → HR β' H' w'.heap → Evo β H w.heap β' H' w'.heap → Same w w' → next (a.put o.dst cv) w') → o.wp P a w next Q

section
variable {P : Program} {o : Oper} {a : Act} {w : World} {Q : Exit → Act → World → Prop} {κ : Option AV → Heap → Option ρ} {x : ρ} {β : Nat → Nat} {H : Heap} {e : List (Option AV)} {c : Ctx}

theorem Goal.value (hR : HR β H w.heap) {cv : Value} {av : AV} (hrun : (execOp a.eval o).run P w = .ok (.value cv) w) (hv : R β H w.heap cv av) (hk : κ (some av) H = some x) : Goal P o a w Q κ x β H := by
  intro next hn
  unfold Oper.wp
  rw [hrun]
  exact hn cv (some av) β H w hk hv hR (Evo.refl _ _ _) (Same.refl _)
theorem Goal.moved {w' : World} {β' : Nat → Nat} {H' : Heap} (hR : HR β' H' w'.heap) (hE : Evo β H w.heap β' H' w'.heap) (hS : Same w w') {cv : Value} {ov : Option AV}
    (hrun : (execOp a.eval o).run P w = .ok (.value cv) w') (hv : VR β' H' w'.heap cv ov) (hk : κ ov H' = some x) : Goal P o a w Q κ x β H := by
  intro next hn
  unfold Oper.wp
  rw [hrun]
  exact hn cv ov β' H' w' hk hv hR hE hS
theorem Goal.skip {w' : World} {β' : Nat → Nat} {H' : Heap} (hR : HR β' H' w'.heap) (hE : Evo β H w.heap β' H' w'.heap) (hS : Same w w')
    (hrun : (execOp a.eval o).run P w = .ok .skip w') (hk : κ none H' = some x) : Goal P o a w Q κ x β H := by
  intro next hn
  unfold Oper.wp
  rw [hrun]
  exact hn undef none β' H' w' hk rfl hR hE hS

omit [Gh] in
theorem opt_some {α : Type} {x : Option α} {κ : α → Option ρ} {r : ρ} (h : opt x κ = some r) : ∃ v, x = some v ∧ κ v = some r := by
  cases x with
  | none => cases h
  | some v => exact ⟨v, rfl, h⟩
omit [Gh] in
theorem chk_some {x : Option (Bool × AV)} {κ : AV → Option ρ} {r : ρ} (h : chk x κ = some r) : ∃ v, x = some (true, v) ∧ κ v = some r := by
  rcases x with _ | ⟨b, v⟩
  · cases h
  · cases b with
    | true => exact ⟨v, rfl, h⟩
    | false => cases h
omit [Gh] in
theorem bif_some {b : Bool} {A : Option ρ} {r : ρ} (h : (bif b then A else none) = some r) : b = true ∧ A = some r := by
  cases b with
  | true => exact ⟨rfl, h⟩
  | false => cases h
omit [Gh] in
theorem ite_some {p : Prop} [Decidable p] {A : Option ρ} {r : ρ} (h : (if p then A else none) = some r) : p ∧ A = some r := by
  split at h
  · exact ⟨‹_›, h⟩
  · cases h

/-! ### constants and operands -/
theorem constLeaf_ok {v : Value} {av : AV} (h : constLeaf v = some av) (β : Nat → Nat) (H : Heap) (W : Array Obj) : R β H W v av ∧ av.leaf = true := by
  unfold constLeaf at h
  split at h <;> cases h
  · exact ⟨.int _ _, rfl⟩
  · exact ⟨.bool _, rfl⟩
  · exact ⟨.str _, rfl⟩
  · exact ⟨.nilp, rfl⟩
  · exact ⟨.nilfn, rfl⟩
theorem constLeaves_ok : ∀ {vs : List Value} {as : List AV}, constLeaves vs = some as → ∀ (β : Nat → Nat) (H : Heap) (W : Array Obj), vs.length = as.length ∧ allLeaf as = true ∧ ∀ j, j < as.length → R β H W (vs.getD j undef) (as.getD j .und)
  | [], as, h, β, H, W => by cases h; exact ⟨rfl, rfl, fun j hj => by simp at hj⟩
  | v :: vs, as, h, β, H, W => by
    unfold constLeaves at h
    split at h
    · rename_i a as' h1 h2
      cases h
      obtain ⟨i1, i2, i3⟩ := constLeaves_ok h2 β H W
      obtain ⟨j1, j2⟩ := constLeaf_ok h1 β H W
      refine ⟨by simp [i1], by simp [allLeaf, j2, i2], fun j hj => ?_⟩
      cases j with
      | zero => simpa using j1
      | succ j => simpa using i3 j (by simpa using hj)
    · cases h
theorem constAV_ok {v : Value} {av : AV} (h : constAV v = some av) (β : Nat → Nat) (H : Heap) (W : Array Obj) : R β H W v av := by
  unfold constAV at h
  split at h
  · rename_i cs
    cases hc : constLeaves cs.toList with
    | none => rw [hc] at h; cases h
    | some as =>
      rw [hc] at h; cases h
      obtain ⟨i1, i2, i3⟩ := constLeaves_ok hc β H W
      refine .agg cs as (by simpa using i1) i2 fun j hj => ?_
      have := i3 j hj
      simpa [Array.getD_eq_getD_getElem?, List.getD_eq_getElem?_getD] using this
  · exact (constLeaf_ok h β H W).1
theorem constT_ok {t : Nat} {v : Value} {av : AV} (h : c.constT t v = some av) (β : Nat → Nat) (H : Heap) (W : Array Obj) : R β H W v av := by
  unfold Ctx.constT at h
  split at h
  · split at h
    · split at h
      · cases h; exact .sl0 _ _ _ _ _ (fun _ => rfl)
      · cases h
    · cases h
  · exact constAV_ok h β H W
theorem eval_tmp {t : Nat} {av : AV} (hE : ER β H w.heap a.tmps e) (h : e.getD t none = some av) : R β H w.heap (a.eval (.tmp t)) av := by
  obtain ⟨v, hv, hr⟩ := hE.2 t av h
  show R β H w.heap (a.tmps.getD t undef) av
  rw [Array.getD_eq_getD_getElem?, hv]
  exact hr
theorem opd_ok {y : Operand} {av : AV} (hE : ER β H w.heap a.tmps e) (h : opd e y = some av) : R β H w.heap (a.eval y) av := by
  cases y with
  | tmp t => exact eval_tmp hE h
  | const v => exact constAV_ok h _ _ _
  | global g => cases h
  | func f =>
    cases h
    exact .fn f #[] #[] [] [] rfl rfl (fun j hj => by simp at hj) (fun j hj => by simp at hj)
theorem opdT_ok {t : Nat} {y : Operand} {av : AV} (hE : ER β H w.heap a.tmps e) (h : c.opdT t e y = some av) : R β H w.heap (a.eval y) av := by
  cases y with
  | tmp t => exact eval_tmp hE h
  | const v => exact constT_ok h _ _ _
  | global g => cases h
  | func f =>
    cases h
    exact .fn f #[] #[] [] [] rfl rfl (fun j hj => by simp at hj) (fun j hj => by simp at hj)

/-! ### copies and choices -/
theorem op_move {y : Operand} (ho : o.op = .move y ∨ o.op = .assign y) (hR : HR β H w.heap) (hE : ER β H w.heap a.tmps e)
    (h : opt (c.opdT o.type e y) (fun v => κ (some v) H) = some x) : Goal P o a w Q κ x β H := by
  obtain ⟨v, hv, hk⟩ := opt_some h
  refine Goal.value hR (cv := a.eval y) ?_ (opdT_ok hE hv) hk
  rcases ho with ho | ho <;> (unfold execOp; rw [ho]; rfl)

def KnOK (kn : Kn) (tmps : Array Value) : Prop := ∀ t b, find1 t kn = some b → tmps[t]? = some (.bool b)

theorem op_pick {kn : Kn} {y p q : Operand} (ho : o.op = .pick y p q) (hR : HR β H w.heap) (hE : ER β H w.heap a.tmps e) (hK : KnOK kn a.tmps)
    (h : pickE kn y (opd e y) (c.opdT o.type e p) (c.opdT o.type e q) (fun v => κ (some v) H) = some x) : Goal P o a w Q κ x β H := by
  have run : ∀ b, a.eval y = .bool b → (execOp a.eval o).run P w = .ok (.value (if b = true then a.eval p else a.eval q)) w := by
    intro b hb
    unfold execOp
    rw [ho]
    simp [hb, asBool]
  unfold pickE at h
  split at h
  · rename_i hb
    have hy : a.eval y = .bool true := by
      cases y with
      | tmp u =>
        have := hK u true hb
        show a.tmps.getD u undef = _
        rw [Array.getD_eq_getD_getElem?, this]; rfl
      | _ => cases hb
    split at h
    · rename_i v hv
      exact Goal.value hR (run true hy) (opdT_ok hE hv) h
    · cases h
  · rename_i hb
    have hy : a.eval y = .bool false := by
      cases y with
      | tmp u =>
        have := hK u false hb
        show a.tmps.getD u undef = _
        rw [Array.getD_eq_getD_getElem?, this]; rfl
      | _ => cases hb
    split at h
    · rename_i v hv
      exact Goal.value hR (run false hy) (opdT_ok hE hv) h
    · cases h
  · split at h
    · rename_i b u v hb hu hv
      have ry := opd_ok hE hb
      have hy : a.eval y = .bool b := ry.inv_bool
      have rp := opdT_ok hE hu
      have rq := opdT_ok hE hv
      have ep : a.eval p = .bool u := rp.inv_bool
      have eq : a.eval q = .bool v := rq.inv_bool
      refine Goal.value hR (run b hy) ?_ h
      cases b
      · simp only [Bool.false_eq_true, if_false, cond_false, eq]; exact .bool _
      · simp only [if_true, cond_true, ep]; exact .bool _
    · rename_i b hb _
      have ry := opd_ok hE hb
      have hy : a.eval y = .bool b := ry.inv_bool
      cases b with
      | true =>
        simp only [cond_true] at h
        split at h
        · rename_i v hv
          exact Goal.value hR (run true hy) (opdT_ok hE hv) h
        · cases h
      | false =>
        simp only [cond_false] at h
        split at h
        · rename_i v hv
          exact Goal.value hR (run false hy) (opdT_ok hE hv) h
        · cases h
    · cases h
end
end Go.Ev
