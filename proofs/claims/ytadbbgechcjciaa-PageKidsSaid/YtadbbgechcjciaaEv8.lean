/- The reckoner's operations tell the truth, the fifth: elements' addresses and cuts. No conditions. -/
import Derived.Test.YtadbbgechcjciaaEv7
set_option linter.unusedVariables false
set_option linter.unusedSimpArgs false
set_option linter.unusedSectionVars false
namespace Go.Ev
open Go
variable [Gh]

section
variable {ρ : Type} {P : Program} {o : Oper} {a : Act} {w : World} {Q : Exit → Act → World → Prop} {κ : Option AV → Heap → Option ρ} {x : ρ} {β : Nat → Nat} {H : Heap} {e : List (Option AV)} {c : Ctx}

theorem indexAt_run {t et : Nat} {ey : Ty} (hu : P.underlying t = some (.slice et)) (hT : TyOK P et ey) {ad : Addr} {len cap : Nat} {k : IntKind} {i : Int} (h0 : 0 ≤ i) (h1 : i < (len : Int)) :
    (Instr.indexAt t (.slice (some ad) len cap) (.int k i)).run P w = .ok (.pointer (some (ad.add (i.toNat * ey.size)))) w := by
  simp [Instr.indexAt, asIntOf, run_underlying hu w, h0, h1, hT.sizeOf]

theorem op_indexAddr (hC : CtxOK c P) {t : Nat} {y z : Operand} (ho : o.op = .indexAddr t y z) (hR : HR β H w.heap) (hE : ER β H w.heap a.tmps e)
    (h : opt (opd e y) (fun u => opt (opd e z) fun v => match c.tyOf t, v with
    | some ⟨.slice et, _, _, _, _⟩, .int _ i => opt (c.tyOf et) fun ey => chk (indexPtr ey.size u i) fun v => κ (some v) H
    | _, _ => none) = some x) : Goal P o a w Q κ x β H := by
  obtain ⟨u, hu, h1⟩ := opt_some h
  obtain ⟨v, hv, h2⟩ := opt_some h1
  clear h h1
  split at h2
  case h_2 => cases h2
  rename_i et z1 z2 z3 z4 k i hty
  obtain ⟨ey, hey, h3⟩ := opt_some h2
  obtain ⟨p, hp, hk⟩ := chk_some h3
  have hund : P.underlying t = some (.slice et) := (hC.ty t _ hty).desc
  have hT := hC.ty et ey hey
  have ev := (opd_ok hE hv).inv_int
  have ru := opd_ok hE hu
  have run : ∀ cv, (Instr.indexAt t (a.eval y) (.int k i)).run P w = .ok cv w → (execOp a.eval o).run P w = .ok (.value cv) w := by
    intro cv hcv
    unfold execOp
    rw [ho]
    simp [ev, hcv]
  generalize hyv : a.eval y = yv at ru run
  unfold indexPtr at hp
  cases ru with
  | sl0 ad c' sz row full hf =>
    obtain ⟨hs, he⟩ := ite_some hp
    have he := Option.some.inj he
    have hb : idxOK i 0 = true := congrArg Prod.fst he
    simp only [idxOK, Bool.and_eq_true, decide_eq_true_eq] at hb
    omega
  | sl b o' n c' sz row full cs et' fz vf hi hW hc hf hl hv' hRr =>
    obtain ⟨hs, he⟩ := ite_some hp
    have he := Option.some.inj he
    have hb : idxOK i n = true := congrArg Prod.fst he
    have hpp : AV.rref (row i.toNat) 0 = p := congrArg Prod.snd he
    simp only [idxOK, Bool.and_eq_true, decide_eq_true_eq] at hb
    have hlt : i.toNat < n := by omega
    obtain ⟨l1, l2, l3⟩ := hl i.toNat hlt
    refine Goal.value hR (run _ (indexAt_run hund hT hb.1 hb.2)) ?_ hk
    rw [← hpp, Addr.add_lit, ← hs]
    exact .rref b (o' + i.toNat * sz) 0 (row i.toNat) cs et' fz (fun j => vf i.toNat j) hi hW ⟨l2, l3⟩ (fun j hj => hv' _ _ hlt (by omega)) fun j hj => hRr _ _ hlt (by omega)
  | lsl b o' n sz as cs et' fz vf hi hW hl hn hv' hRr =>
    obtain ⟨hs, he⟩ := ite_some hp
    have he := Option.some.inj he
    have hb : idxOK i n = true := congrArg Prod.fst he
    have hpp : AV.lref as (i.toNat * sz) = p := congrArg Prod.snd he
    simp only [idxOK, Bool.and_eq_true, decide_eq_true_eq] at hb
    refine Goal.value hR (run _ (indexAt_run hund hT hb.1 hb.2)) ?_ hk
    rw [← hpp, Addr.add_lit, ← hs]
    exact .lref b o' (i.toNat * sz) as cs et' fz vf hi hW hl hv' hRr
  | osl r off len c' sz N m row full ad ha hH hW hn hc hf hs' hu' =>
    obtain ⟨hs, he⟩ := ite_some hp
    have he := Option.some.inj he
    have hb : idxOK i len = true := congrArg Prod.fst he
    have hpp : AV.eref r (off + i.toNat) 0 = p := congrArg Prod.snd he
    simp only [idxOK, Bool.and_eq_true, decide_eq_true_eq] at hb
    have had := ha (by omega)
    subst had
    refine Goal.value hR (run _ (indexAt_run hund hT hb.1 hb.2)) ?_ hk
    rw [← hpp, Addr.add_lit, ← hs, show off * sz + i.toNat * sz = (off + i.toNat) * sz + 0 by rw [Nat.add_mul]; rfl]
    exact .eref r (off + i.toNat) 0 sz N row hH (by omega)
  | osld sz r off len c' b o' full ad ha hc hf hr hH =>
    obtain ⟨hs, he⟩ := ite_some hp
    have he := Option.some.inj he
    have hb : idxOK i len = true := congrArg Prod.fst he
    have hpp : AV.eref r (off + i.toNat) 0 = p := congrArg Prod.snd he
    simp only [idxOK, Bool.and_eq_true, decide_eq_true_eq] at hb
    have had := ha (by omega)
    subst had
    refine Goal.value hR (run _ (indexAt_run hund hT hb.1 hb.2)) ?_ hk
    rw [← hpp]
    exact .erefd r (off + i.toNat) 0 _ hr hH
  | _ => cases hp

/-! ### cuts -/
/-- an operand that may be absent, and its value -/
def OR (β : Nat → Nat) (H : Heap) (W : Array Obj) : Option Value → Option AV → Prop
  | none, none => True
  | some v, some av => R β H W v av
  | _, _ => False

theorem bound_run {v : Value} {av : AV} (hr : R β H w.heap v av) {n i : Int} (hi : intOpt n (some av) = some i) {y : Nat} (h0 : 0 ≤ i) (h1 : i ≤ (y : Int)) (code : BoundsCode) :
    (Instr.sliceBound v y code).run P w = .ok i.toNat w := by
  cases av <;> simp only [intOpt] at hi <;> cases hi
  have := hr.inv_int
  subst this
  simp [Instr.sliceBound, asIntOf, h0, h1]

theorem bounds_run (isS : Bool) {n cap : Nat} (hcap : n ≤ cap) {lo hi mx : Option AV} {vlo vhi vmx : Option Value} (rl : OR β H w.heap vlo lo) (rh : OR β H w.heap vhi hi) (rm : OR β H w.heap vmx mx)
    {l h m : Int} (hl : intOpt 0 lo = some l) (hh : intOpt n hi = some h) (hm : intOpt n mx = some m) (hmh : mx.isSome = true → hi.isSome = true) (hc : cutOK n l h m = true) :
    (Instr.sliceBounds isS n cap vlo vhi vmx).run P w = .ok (l.toNat, h.toNat, if mx.isSome = true then m.toNat else cap) w := by
  simp only [cutOK, Bool.and_eq_true, decide_eq_true_eq] at hc
  obtain ⟨c1, c2, c3, c4, c5, c6⟩ := hc
  have one : ∀ {q : Option AV} {vq : Option Value} {d i : Int}, OR β H w.heap vq q → intOpt d q = some i → 0 ≤ i → (vq = none ∧ q = none ∧ d = i) ∨ ∃ v aq, vq = some v ∧ q = some aq ∧ ∀ (y : Nat) code, i ≤ (y : Int) → (Instr.sliceBound v y code).run P w = .ok i.toNat w := by
    intro q vq d i hr hi h0
    cases q with
    | none =>
      cases vq with
      | none => exact .inl ⟨rfl, rfl, Option.some.inj hi⟩
      | some v => exact hr.elim
    | some aq =>
      cases vq with
      | none => exact hr.elim
      | some v => exact .inr ⟨v, aq, rfl, rfl, fun y code hy => bound_run hr hi h0 hy code⟩
  rcases one rm hm c1 with ⟨rfl, rfl, em⟩ | ⟨vm, am, rfl, rfl, bm⟩
  · rcases one rh hh c3 with ⟨rfl, rfl, eh⟩ | ⟨vh, ah, rfl, rfl, bh⟩
    · rcases one rl hl c5 with ⟨rfl, rfl, el⟩ | ⟨vl, al, rfl, rfl, bl⟩
      · subst eh; subst el; simp [Instr.sliceBounds]
      · subst eh; simp [Instr.sliceBounds, bl n _ (by omega)]
    · rcases one rl hl c5 with ⟨rfl, rfl, el⟩ | ⟨vl, al, rfl, rfl, bl⟩
      · subst el; simp [Instr.sliceBounds, bh cap _ (by omega)]
      · simp [Instr.sliceBounds, bh cap _ (by omega), bl h.toNat _ (by omega)]
  · rcases one rh hh c3 with ⟨rfl, rfl, eh⟩ | ⟨vh, ah, rfl, rfl, bh⟩
    · exact absurd (hmh rfl) (by simp)
    · rcases one rl hl c5 with ⟨rfl, rfl, el⟩ | ⟨vl, al, rfl, rfl, bl⟩
      · subst el; simp [Instr.sliceBounds, bm cap _ (by omega), bh m.toNat _ (by omega)]
      · simp [Instr.sliceBounds, bm cap _ (by omega), bh m.toNat _ (by omega), bl h.toNat _ (by omega)]

theorem elemSize_ty {et es : Nat} (h : c.elemSize (.slice et) = some es) : ∃ ey, c.tyOf et = some ey ∧ ey.size = es := by
  simp only [Ctx.elemSize] at h
  cases hq : c.tyOf et with
  | none => rw [hq] at h; cases h
  | some ty => rw [hq] at h; exact ⟨ty, rfl, Option.some.inj h⟩
theorem optOpd_ok (hE : ER β H w.heap a.tmps e) {y : Option Operand} (h : y.map (opd e) ≠ some none) : OR β H w.heap (y.map a.eval) (y.map (opd e)).join := by
  cases y with
  | none => trivial
  | some z =>
    simp only [Option.map_some] at *
    cases hz : opd e z with
    | none => rw [hz] at h; exact absurd rfl h
    | some av => exact opd_ok hE hz

theorem op_slice (hC : CtxOK c P) {t : Nat} {y : Operand} {lo hi mx : Option Operand} (ho : o.op = .slice t y lo hi mx) (hR : HR β H w.heap) (hE : ER β H w.heap a.tmps e)
    (h : opt (opd e y) (fun u => opt (c.kOf t) fun k => opt (c.elemSize k) fun sz => match lo.map (opd e), hi.map (opd e), mx.map (opd e) with
    | some none, _, _ => none
    | _, some none, _ => none
    | _, _, some none => none
    | lo, hi, mx => chk (sliceAV k sz u lo.join hi.join mx.join) fun v => κ (some v) H) = some x) : Goal P o a w Q κ x β H := by
  obtain ⟨u, hu, h1⟩ := opt_some h
  obtain ⟨k, hkt, h2⟩ := opt_some h1
  obtain ⟨es, hes, h3⟩ := opt_some h2
  clear h h1 h2
  have ne1 : lo.map (opd e) ≠ some none := by intro hh; rw [hh] at h3; cases h3
  have ne2 : hi.map (opd e) ≠ some none := by
    intro hh; rw [hh] at h3
    split at h3 <;> first | cases h3 | simp_all
  have ne3 : mx.map (opd e) ≠ some none := by
    intro hh; rw [hh] at h3
    split at h3 <;> first | cases h3 | simp_all
  have rl := optOpd_ok hE ne1
  have rh := optOpd_ok hE ne2
  have rm := optOpd_ok hE ne3
  have h4 : chk (sliceAV k es u (lo.map (opd e)).join (hi.map (opd e)).join (mx.map (opd e)).join) (fun v => κ (some v) H) = some x := by
    split at h3 <;> first | cases h3 | exact h3
  obtain ⟨p, hp, hk⟩ := chk_some h4
  clear h3 h4
  have hd := kOf_desc hC hkt
  have ru := opd_ok hE hu
  have run : ∀ cv, (Instr.sliceAt t (a.eval y) (lo.map a.eval) (hi.map a.eval) (mx.map a.eval)).run P w = .ok cv w → (execOp a.eval o).run P w = .ok (.value cv) w := by
    intro cv hcv
    unfold execOp
    rw [ho]
    simp [hcv]
  generalize hyv : a.eval y = yv at ru run
  generalize (lo.map (opd e)).join = alo at *
  generalize (hi.map (opd e)).join = ahi at *
  generalize (mx.map (opd e)).join = amx at *
  generalize lo.map a.eval = vlo at *
  generalize hi.map a.eval = vhi at *
  generalize mx.map a.eval = vmx at *
  unfold sliceAV at hp
  split at hp
  · -- a text
    rename_i s
    split at hp
    · rename_i l hh hl hh'
      have he := Option.some.inj hp
      have hb : cutOK s.size l hh s.size = true := congrArg Prod.fst he
      have hpp : AV.str (s.extract l.toNat hh.toNat) = p := congrArg Prod.snd he
      have hb2 := bounds_run (P := P) false (Nat.le_refl s.size) rl rh rm hl hh' (by rfl : intOpt (s.size : Int) none = some (s.size : Int)) (by simp) hb
      have eu := ru.inv_str
      subst eu
      have vn : vmx = none := by cases vmx with | none => rfl | some v => exact rm.elim
      subst vn
      refine Goal.value hR (run (.string (s.extract l.toNat hh.toNat)) ?_) (hpp ▸ .str _) hk
      simp only [Instr.sliceAt, Instr.slice, Sem.run_bind, run_underlying hd w, Result.andThen_ok]
      simp [hb2]
    · cases hp
  · -- rows that are not written
    rename_i et sz n row full
    split at hp
    · rename_i l hh m hl hh' hm
      obtain ⟨⟨hs, hmh⟩, he⟩ := ite_some hp
      have he := Option.some.inj he
      obtain ⟨hb, hpp⟩ := Prod.mk.inj he
      have hb0 := hb
      simp only [cutOK, Bool.and_eq_true, decide_eq_true_eq] at hb0
      obtain ⟨c1, c2, c3, c4, c5, c6⟩ := hb0
      obtain ⟨ey, hey, hesz⟩ := elemSize_ty hes
      have hT := hC.ty et ey hey
      have main : ∀ (ad : Option Addr) (cap : Nat), n ≤ cap → (full = true → cap = n) → yv = .slice ad n cap →
          (∀ cv, (0 < hh.toNat - l.toNat → ∃ bb, ad = some bb ∧ cv = .slice (some (bb.add (l.toNat * sz))) (hh.toNat - l.toNat) ((if amx.isSome = true then m.toNat else cap) - l.toNat)) →
            (hh.toNat - l.toNat = 0 → ∃ a2, cv = .slice a2 0 ((if amx.isSome = true then m.toNat else cap) - l.toNat)) → R β H w.heap cv p) → Goal P o a w Q κ x β H := by
        intro ad cap hcap hfull hyv2 hfin
        subst hyv2
        have hb2 := bounds_run (P := P) true hcap rl rh rm hl hh' hm hmh hb
        refine Goal.value hR (run (.slice (if (if amx.isSome = true then m.toNat else cap) = l.toNat then ad else ad.map (·.add (l.toNat * ey.size))) (hh.toNat - l.toNat) ((if amx.isSome = true then m.toNat else cap) - l.toNat)) ?_) (hfin _ ?_ ?_) hk
        · simp only [Instr.sliceAt, Instr.slice, Sem.run_bind, run_underlying hd w, Result.andThen_ok]
          simp [hb2, hT.sizeOf]
        · intro hpos
          have hne : ¬ (if amx.isSome = true then m.toNat else cap) = l.toNat := by split <;> omega
          rw [if_neg hne]
          cases ad with
          | some bb => exact ⟨bb, rfl, by rw [hs, hesz]; rfl⟩
          | none =>
            exfalso
            generalize hq : AV.sl sz n row full = q at ru
            cases ru <;> cases hq
            omega
        · intro hz; rw [hz]; exact ⟨_, rfl⟩
      generalize hq : AV.sl sz n row full = q at ru
      cases ru with
      | sl0 ad cap sz' row' full' hf =>
        cases hq
        refine main ad cap (Nat.zero_le _) (fun hf2 => hf hf2) rfl ?_
        intro cv _ h2
        obtain ⟨a2, rfl⟩ := h2 (by omega)
        rw [← hpp]
        have hz : hh.toNat - l.toNat = 0 := by omega
        rw [hz]
        refine .sl0 _ _ _ _ _ fun hff => ?_
        cases amx with
        | some am => simp; omega
        | none =>
          simp only [Bool.and_eq_true] at hff
          have := hf hff.1
          simp; omega
      | sl b o' n' c' sz' row' full' cs et' fz vf hi hW hc hf hl' hv' hRr =>
        cases hq
        refine main _ c' hc hf rfl ?_
        intro cv h1 h2
        rw [← hpp]
        have hfull' : (match amx with | some _ => decide (m = hh) | none => full && decide (hh = (n : Int))) = true → (if amx.isSome = true then m.toNat else c') - l.toNat = hh.toNat - l.toNat := by
          intro hff
          cases amx with
          | some am => simp only [decide_eq_true_eq] at hff; simp; omega
          | none =>
            simp only [Bool.and_eq_true, decide_eq_true_eq] at hff
            have := hf hff.1
            simp; omega
        by_cases hz : hh.toNat - l.toNat = 0
        · obtain ⟨a2, rfl⟩ := h2 hz
          rw [hz]
          exact .sl0 _ _ _ _ _ fun hff => by rw [hfull' hff, hz]
        · obtain ⟨bb, hbb, rfl⟩ := h1 (by omega)
          cases hbb
          rw [Addr.add_lit]
          have hcap2 : hh.toNat - l.toNat ≤ (if amx.isSome = true then m.toNat else c') - l.toNat := by split <;> omega
          refine .sl b _ _ _ sz _ _ cs et' fz (fun i j => vf (l.toNat + i) j) hi hW hcap2 hfull' (fun i hi2 => hl' _ (by omega)) (fun i j hi2 hj => ?_) fun i j hi2 hj => hRr _ _ (by omega) hj
          have := hv' (l.toNat + i) j (by omega) hj
          rw [Nat.add_mul] at this
          rw [show o' + l.toNat * sz + i * sz + j = o' + (l.toNat * sz + i * sz) + j by omega]
          exact this
      | _ => cases hq
    · cases hp
  · -- rows of the call's own
    rename_i et sz r off len full
    split at hp
    · rename_i l hh m hl hh' hm
      obtain ⟨⟨hs, hmh⟩, he⟩ := ite_some hp
      have he := Option.some.inj he
      obtain ⟨hbb, hpp⟩ := Prod.mk.inj he
      simp only [Bool.and_eq_true] at hbb
      obtain ⟨hb, hb3⟩ := hbb
      have hb0 := hb
      simp only [cutOK, Bool.and_eq_true, decide_eq_true_eq] at hb0
      obtain ⟨c1, c2, c3, c4, c5, c6⟩ := hb0
      obtain ⟨ey, hey, hesz⟩ := elemSize_ty hes
      have hT := hC.ty et ey hey
      have main : ∀ (ad : Option Addr) (cap : Nat), len ≤ cap → yv = .slice ad len cap →
          R β H w.heap (.slice (if (if amx.isSome = true then m.toNat else cap) = l.toNat then ad else ad.map (·.add (l.toNat * sz))) (hh.toNat - l.toNat) ((if amx.isSome = true then m.toNat else cap) - l.toNat)) p → Goal P o a w Q κ x β H := by
        intro ad cap hcap hyv2 hfin
        subst hyv2
        have hb2 := bounds_run (P := P) true hcap rl rh rm hl hh' hm hmh hb
        refine Goal.value hR (run _ ?_) hfin hk
        simp only [Instr.sliceAt, Instr.slice, Sem.run_bind, run_underlying hd w, Result.andThen_ok]
        simp [hb2, hT.sizeOf, hs, hesz]
      generalize hq : AV.osl sz r off len full = q at ru
      cases ru with
      | osl r' off' len' c' sz' N mm row full' ad ha hH hW hn hc hf hs' hu' =>
        cases hq
        refine main ad c' hc rfl ?_
        rw [← hpp]
        have key : (if amx.isSome = true then m.toNat else c') ≤ c' ∧ hh.toNat ≤ (if amx.isSome = true then m.toNat else c') := by split <;> omega
        have hle : (off + l.toNat + ((if amx.isSome = true then m.toNat else c') - l.toNat)) * sz ≤ (off + c') * sz := Nat.mul_le_mul_right sz (by omega)
        refine .osl r (off + l.toNat) _ _ sz N mm row _ _ (fun hpos => ?_) hH hW (by omega) (by omega) (fun hff => ?_) (Nat.le_trans hle hs') fun hff => ?_
        · rw [if_neg (by omega), ha (by omega)]
          simp only [Option.map_some, Addr.add_lit, Nat.add_mul]
        · cases amx with
          | some am => simp only [decide_eq_true_eq] at hb3; simp; omega
          | none =>
            have hff' : full = true := hff
            simp [hff'] at hb3
            have := hf hff'
            simp; omega
        · cases amx with
          | some am => cases hff
          | none => have := hu' hff; simp; omega
      | osld sz' r' off' len' c' b o' full' ad ha hc hf hr hH =>
        cases hq
        refine main ad c' hc rfl ?_
        rw [← hpp]
        have key : (if amx.isSome = true then m.toNat else c') ≤ c' ∧ hh.toNat ≤ (if amx.isSome = true then m.toNat else c') := by split <;> omega
        refine .osld sz r _ _ _ b (o' + l.toNat * sz) _ _ (fun hpos => ?_) (by omega) (fun hff => ?_) hr hH
        · rw [if_neg (by omega), ha (by omega)]
          simp only [Option.map_some, Addr.add_lit]
        · cases amx with
          | some am => simp only [decide_eq_true_eq] at hb3; simp; omega
          | none =>
            have hff' : full = true := hff
            simp [hff'] at hb3
            have := hf hff'
            simp; omega
      | _ => cases hq
    · cases hp
  · cases hp
end
end Go.Ev
