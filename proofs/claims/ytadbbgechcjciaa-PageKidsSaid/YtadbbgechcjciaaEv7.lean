/- The reckoner's operations tell the truth, the fourth: addresses, parts, cuts, numbers. No conditions. -/
import Derived.Test.YtadbbgechcjciaaEv6
import Derived.Test.YtadbbgechcjciaaEvB
set_option linter.unusedVariables false
set_option linter.unusedSimpArgs false
set_option linter.unusedSectionVars false
namespace Go.Ev
open Go
variable [Gh]

section
variable {ρ : Type} {P : Program} {o : Oper} {a : Act} {w : World} {Q : Exit → Act → World → Prop} {κ : Option AV → Heap → Option ρ} {x : ρ} {β : Nat → Nat} {H : Heap} {e : List (Option AV)} {c : Ctx}

theorem struct_field {s : Nat} {ty : Ty} (hT : TyOK P s ty) {fs : List (Nat × Nat)} (hk : ty.k = .struct fs) {f off t : Nat} (hf : fs[f]? = some (off, t)) :
    ∃ (fields : Array Field) (fld : Field), P.underlying s = some (.struct fields) ∧ fields[f]? = some fld ∧ fld.offset = off ∧ fld.type = t := by
  have hd := hT.desc
  rw [hk] at hd
  obtain ⟨fields, hu, hm⟩ := hd
  rw [← hm] at hf
  simp only [List.getElem?_map, Array.getElem?_toList] at hf
  cases hq : fields[f]? with
  | none => rw [hq] at hf; cases hf
  | some fld =>
    rw [hq] at hf
    simp at hf
    exact ⟨fields, fld, hu, hq, hf.1, hf.2⟩

theorem op_nilCheck {y : Operand} (ho : o.op = .nilCheck y) (hR : HR β H w.heap) (hE : ER β H w.heap a.tmps e)
    (h : opt (opd e y) (fun p => match p with
    | .ref .. => κ (some p) H
    | .eref .. => κ (some p) H
    | .rref .. => κ (some p) H
    | .lref .. => κ (some p) H
    | .fn .. => κ (some p) H
    | _ => none) = some x) : Goal P o a w Q κ x β H := by
  obtain ⟨p, hp, h⟩ := opt_some h
  have rp := opd_ok hE hp
  have run : ∀ v, a.eval y = v → (match v with | .pointer none | .nilIface | .nilFunc => False | .func (.method _) _ _ => False | _ => True) → (execOp a.eval o).run P w = .ok (.value v) w := by
    intro v hv hn
    unfold execOp
    rw [ho]
    simp only [hv]
    split at hn <;> first | exact hn.elim | (split <;> first | rfl | simp_all)
  generalize hv : a.eval y = v at rp
  cases rp with
  | ref r off cs hH => exact Goal.value hR (run _ hv trivial) (.ref r off cs hH) h
  | eref r i off sz N row hH hi => exact Goal.value hR (run _ hv trivial) (.eref r i off sz N row hH hi) h
  | erefd r i off ad hr hH => exact Goal.value hR (run _ hv trivial) (.erefd r i off ad hr hH) h
  | rref b o' off as cs et fz vf hi hW hl hv' hRr => exact Goal.value hR (run _ hv trivial) (.rref b o' off as cs et fz vf hi hW hl hv' hRr) h
  | lref b o' off as cs et fz vf hi hW hl hv' hRr => exact Goal.value hR (run _ hv trivial) (.lref b o' off as cs et fz vf hi hW hl hv' hRr) h
  | fn f vs us as bs h1 h2 h3 h4 => exact Goal.value hR (run _ hv trivial) (.fn f vs us as bs h1 h2 h3 h4) h
  | _ => cases h

theorem fieldPtr_ok {off : Nat} {pv : Value} {p q : AV} (hp : R β H w.heap pv p) (h : fieldPtr off p = some q) :
    ∃ ad, pv = .pointer (some ad) ∧ R β H w.heap (.pointer (some (ad.add off))) q := by
  cases hp with
  | ref r o' cs hH =>
    cases h
    exact ⟨_, rfl, by rw [Addr.add_lit]; exact .ref r (o' + off) cs hH⟩
  | eref r i o' sz N row hH hi =>
    cases h
    exact ⟨_, rfl, by rw [Addr.add_lit, Nat.add_assoc]; exact .eref r i (o' + off) sz N row hH hi⟩
  | erefd r i o' ad hr hH =>
    cases h
    exact ⟨_, rfl, .erefd r i (o' + off) _ hr hH⟩
  | rref b o' off' as cs et fz vf hi hW hl hv hRr =>
    cases h
    exact ⟨_, rfl, by rw [Addr.add_lit, Nat.add_assoc]; exact .rref b o' (off' + off) as cs et fz vf hi hW hl hv hRr⟩
  | lref b o' off' as cs et fz vf hi hW hl hv hRr =>
    cases h
    exact ⟨_, rfl, by rw [Addr.add_lit, Nat.add_assoc]; exact .lref b o' (off' + off) as cs et fz vf hi hW hl hv hRr⟩
  | _ => cases h

theorem op_fieldAddr (hC : CtxOK c P) {s f : Nat} {y : Operand} (ho : o.op = .fieldAddr s y f) (hR : HR β H w.heap) (hE : ER β H w.heap a.tmps e)
    (h : opt (opd e y) (fun p => match c.tyOf s with
    | some ⟨.struct fs, _, _, _, _⟩ => opt fs[f]? fun (off, t) => opt (c.tyOf t) fun ty => if ty.size = 0 then none else opt (fieldPtr off p) fun v => κ (some v) H
    | _ => none) = some x) : Goal P o a w Q κ x β H := by
  obtain ⟨p, hp, h⟩ := opt_some h
  split at h
  · rename_i fs z1 z2 z3 z4 hty
    obtain ⟨⟨off, t⟩, hf, h⟩ := opt_some h
    obtain ⟨ty, ht, h⟩ := opt_some h
    split at h
    · cases h
    rename_i hz
    obtain ⟨q, hq, hk⟩ := opt_some h
    obtain ⟨fields, fld, hu, hfl, ho1, ho2⟩ := struct_field (hC.ty s _ hty) rfl hf
    obtain ⟨ad, had, hq2⟩ := fieldPtr_ok (opd_ok hE hp) hq
    refine Goal.value hR (cv := .pointer (some (ad.add off))) ?_ hq2 hk
    have hT := hC.ty t ty ht
    unfold execOp
    rw [ho]
    simp [Instr.fieldAt, run_underlying hu w, hfl, had, Instr.sureAddr, fieldPlace, ho1, ho2, hT.sizeOf, hz]
  · cases h

theorem op_field (hC : CtxOK c P) {s f : Nat} {y : Operand} (ho : o.op = .field s y f) (hR : HR β H w.heap) (hE : ER β H w.heap a.tmps e)
    (h : opt (opd e y) (fun p => match c.tyOf s, p with
    | some ⟨.struct fs, _, _, _, _⟩, .agg cs => opt fs[f]? fun (off, t) => opt (c.tyOf t) fun ty => opt (ldCells ty cs off) fun v => κ (some v) H
    | _, _ => none) = some x) : Goal P o a w Q κ x β H := by
  obtain ⟨p, hp, h⟩ := opt_some h
  have rp := opd_ok hE hp
  split at h
  · rename_i fs z1 z2 z3 z4 cs hty
    obtain ⟨⟨off, t⟩, hf, h⟩ := opt_some h
    obtain ⟨ty, ht, h⟩ := opt_some h
    obtain ⟨av, hav, hk⟩ := opt_some h
    obtain ⟨fields, fld, hu, hfl, ho1, ho2⟩ := struct_field (hC.ty s _ hty) rfl hf
    have hT := hC.ty t ty ht
    generalize hv : a.eval y = v at rp
    cases rp with
    | agg vs as hvs hl hRr =>
    unfold ldCells at hav
    split at hav
    · rename_i hg
      obtain ⟨hle, he⟩ := ite_some hav
      cases he
      refine Goal.value hR (cv := .agg (vs.extract off (off + ty.size))) ?_ ?_ hk
      · unfold execOp
        rw [ho]
        simp [Instr.field, run_underlying hu w, hfl, hv, asAgg, part, ho1, ho2, hT.isAgg, hg, hT.sizeOf]
      · refine .agg _ _ (by simp; omega) (allLeaf_take hl _ _) fun j hj => ?_
        have hj' : j < ty.size := by simp at hj; omega
        rw [getD_cut hj']
        rw [getD_extract (by omega) hj']
        exact hRr (off + j) (by omega)
    · rename_i hg
      have hlt : off < cs.length := by
        rcases Nat.lt_or_ge off cs.length with hh | hh
        · exact hh
        · rw [List.getElem?_eq_none hh] at hav; cases hav
      have he : cs.getD off .und = av := by rw [List.getD_eq_getElem?_getD, hav]; rfl
      have hg' : ty.k.agg = false := by simpa using hg
      obtain ⟨u, hu1, hu2⟩ := getD_ex (vs := vs) (j := off) (by omega)
      refine Goal.value hR (cv := u) ?_ (he ▸ hu2 ▸ hRr off hlt) hk
      unfold execOp
      rw [ho]
      simp [Instr.field, run_underlying hu w, hfl, hv, asAgg, part, ho1, ho2, hT.isAgg, hg', hu1]
  · cases h

theorem op_extract {y : Operand} {i : Nat} (ho : o.op = .extract y i) (hR : HR β H w.heap) (hE : ER β H w.heap a.tmps e)
    (h : opt (opd e y) (fun p => match p with
    | .tup vs => opt vs[i]? fun v => κ (some v) H
    | _ => none) = some x) : Goal P o a w Q κ x β H := by
  obtain ⟨p, hp, h⟩ := opt_some h
  have rp := opd_ok hE hp
  split at h
  · rename_i as
    obtain ⟨av, hav, hk⟩ := opt_some h
    generalize hv : a.eval y = v at rp
    cases rp with
    | tup vs as hvs hRr =>
    have hlt : i < as.length := by
      rcases Nat.lt_or_ge i as.length with hh | hh
      · exact hh
      · rw [List.getElem?_eq_none hh] at hav; cases hav
    have he : as.getD i .und = av := by rw [List.getD_eq_getElem?_getD, hav]; rfl
    obtain ⟨u, hu1, hu2⟩ := getD_ex (vs := vs) (j := i) (by omega)
    refine Goal.value hR (cv := u) ?_ (he ▸ hu2 ▸ hRr i hlt) hk
    unfold execOp
    rw [ho]
    simp [Instr.extract, hv, hu1]
  · cases h

theorem opds_ok (hE : ER β H w.heap a.tmps e) : ∀ {ys : List Operand} {as : List AV}, opds e ys = some as → ys.length = as.length ∧ ∀ j, j < as.length → R β H w.heap ((ys.map a.eval).getD j undef) (as.getD j .und)
  | [], as, h => by cases h; exact ⟨rfl, fun j hj => by simp at hj⟩
  | y :: ys, as, h => by
    unfold opds at h
    split at h
    · rename_i v vs h1 h2
      cases h
      obtain ⟨i1, i2⟩ := opds_ok hE h2
      refine ⟨by simp [i1], fun j hj => ?_⟩
      cases j with
      | zero => simpa using opd_ok hE h1
      | succ j => simpa using i2 j (by simpa using hj)
    · cases h
theorem opdsT_ok (hE : ER β H w.heap a.tmps e) : ∀ {ys : List Operand} {ts : List Nat} {as : List AV}, c.opdsT e ys ts = some as → ys.length = as.length ∧ ∀ j, j < as.length → R β H w.heap ((ys.map a.eval).getD j undef) (as.getD j .und)
  | [], ts, as, h => by cases h; exact ⟨rfl, fun j hj => by simp at hj⟩
  | y :: ys, ts, as, h => by
    unfold Ctx.opdsT at h
    split at h
    · rename_i v vs h1 h2
      cases h
      obtain ⟨i1, i2⟩ := opdsT_ok hE h2
      refine ⟨by simp [i1], fun j hj => ?_⟩
      cases j with
      | zero => simpa using opdT_ok hE h1
      | succ j => simpa using i2 j (by simpa using hj)
    · cases h

theorem op_makeFunc {f : Nat} {first caps : Array Operand} (ho : o.op = .makeFunc (.func f) first caps) (hR : HR β H w.heap) (hE : ER β H w.heap a.tmps e)
    (h : opt (opds e first.toList) (fun as => opt (opds e caps.toList) fun bs => κ (some (.fn f as bs)) H) = some x) : Goal P o a w Q κ x β H := by
  obtain ⟨as, has, h⟩ := opt_some h
  obtain ⟨bs, hbs, hk⟩ := opt_some h
  obtain ⟨a1, a2⟩ := opds_ok hE has
  obtain ⟨b1, b2⟩ := opds_ok hE hbs
  refine Goal.value hR (cv := .func (.func f) (first.map a.eval) (caps.map a.eval)) ?_ (.fn f _ _ as bs (by simpa using a1) (by simpa using b1) (fun j hj => ?_) fun j hj => ?_) hk
  · unfold execOp
    rw [ho]
    simp [Instr.makeFunc]
  · have := a2 j hj
    simpa [Array.getD_eq_getD_getElem?, List.getD_eq_getElem?_getD] using this
  · have := b2 j hj
    simpa [Array.getD_eq_getD_getElem?, List.getD_eq_getElem?_getD] using this

theorem op_index {t : Nat} {y z : Operand} (ho : o.op = .index t y z) (hC : CtxOK c P) (hR : HR β H w.heap) (hE : ER β H w.heap a.tmps e)
    (h : opt (opd e y) (fun u => opt (opd e z) fun v => match c.kOf t, u, v with
    | some .str, .str s, .int _ i => bif idxOK i s.size then κ (some (.int .u8 ((s.data.getD i.toNat 0).toNat : Int))) H else none
    | _, _, _ => none) = some x) : Goal P o a w Q κ x β H := by
  obtain ⟨u, hu, h1⟩ := opt_some h
  obtain ⟨v, hv, h2⟩ := opt_some h1
  clear h h1
  split at h2
  · rename_i s k i hkt
    obtain ⟨hb, hk⟩ := bif_some h2
    have eu := (opd_ok hE hu).inv_str
    have ev := (opd_ok hE hv).inv_int
    simp only [idxOK, Bool.and_eq_true, decide_eq_true_eq] at hb
    have hund : P.underlying t = some .string := kOf_desc hC hkt
    have hlt : i.toNat < s.size := by omega
    refine Goal.value hR (cv := .int .u8 ((s.data.getD i.toNat 0).toNat : Int)) ?_ (.int _ _) hk
    unfold execOp
    rw [ho]
    have hs : s[i.toNat]? = some (s.data.getD i.toNat 0) := by
      rw [getElem?_pos s i.toNat hlt]
      congr 1
      show s.data[i.toNat] = _
      rw [Array.getD_eq_getD_getElem?, Array.getElem?_eq_getElem hlt]; rfl
    simp [Instr.index, eu, ev, asIntOf, run_underlying hund w, hb.1, hs]
  · cases h2
end
end Go.Ev
