/- A slice's copy, as the library makes it: told outright, and that it is so. No conditions. -/
import Derived.Test.YtadbbgechcjciaaEvX
set_option linter.unusedVariables false
set_option linter.unusedSimpArgs false
set_option linter.unusedSectionVars false
namespace Go.Ev
open Go

/-- what is known of an empty row, whichever -/
def cloneE (sz bytes : Nat) (zero : List AV) (as : List AV) (H : Heap) : Option (AV × Heap) :=
  match as with
  | [.sl s n row _] => if s = sz then (if n = 0 then some (.sl sz 0 (fun _ => zero) true, H) else if roomOf n bytes = true then some (.osl sz H.length 0 n false, H ++ [some (.arr sz n row)]) else none) else none
  | _ => none
theorem equal_nil {P : Program} {w : World} {t et : Nat} (hd : P.underlying t = some (.slice et)) (a : Option Addr) (n c : Nat) : (Op.equal t (.slice a n c) (.slice none 0 0)).run P w = .ok a.isNone w := by
  show (Op.equalIn (9999 + 1) t _ _).run P w = _
  rw [Op.equalIn]
  simp only [Sem.run_bind, run_underlying hd w, Result.andThen_ok]
  cases a <;> rfl
/-- the code of the library's copy -/
structure CloneCode (t : Nat) (fn : Func) where
  (i0 i1 i2 i3 : Nat)
  (o0 o1 o2 o3 o4 o5 o6 o7 : Oper)
  body : fn.body = some (.seq (.region i0 #[o0] false) (.seq (.seq (.region i1 #[o1, o2] false) (.cond (.tmp 4) (.seq (.region i2 #[o3] false) .ret) .skip)) (.seq (.region i3 #[o4, o5, o6, o7] false) .ret)))
  n : fn.ntmps = 8
  res : fn.results = #[.tmp 2]
  h0 : o0.op = .assign (.const (.slice none 0 0)) ∧ o0.type = t ∧ o0.dst = some 2 ∧ o0.guard = none
  h1 : o1.op = .move (.tmp 0) ∧ o1.type = t ∧ o1.dst = some 3 ∧ o1.guard = none
  h2 : o2.op = .binOp .eql t (.tmp 3) (.const (.slice none 0 0)) t ∧ o2.dst = some 4 ∧ o2.guard = none
  h3 : o3.op = .assign (.const (.slice none 0 0)) ∧ o3.type = t ∧ o3.dst = some 2 ∧ o3.guard = none
  h4 : o4.op = .buildSlice t 0 #[] ∧ o4.dst = some 5 ∧ o4.guard = none
  h5 : o5.op = .move (.tmp 0) ∧ o5.type = t ∧ o5.dst = some 6 ∧ o5.guard = none
  h6 : (∃ cl, o6.op = .call cl ∧ cl.callee = .builtin .append ∧ cl.args = #[.tmp 5, .tmp 6] ∧ cl.argTypes = #[t, t]) ∧ o6.dst = some 7 ∧ o6.guard = none
  h7 : o7.op = .assign (.tmp 7) ∧ o7.type = t ∧ o7.dst = some 2 ∧ o7.guard = none
theorem find1_mem {α : Type} {k : Nat} {a : α} : ∀ {l : List (Nat × α)}, find1 k l = some a → (k, a) ∈ l
  | [], h => by cases h
  | (j, b) :: l, h => by
    unfold find1 at h
    split at h
    · rename_i hj; cases h; subst hj; exact List.mem_cons_self
    · exact List.mem_cons_of_mem _ (find1_mem h)
def ExtOne (P : Program) (f : Nat) (e : List AV → Heap → Option (AV × Heap)) : Prop := ∀ as H av H', e as H = some (av, H') → (∃ fn, P.funcs[f]? = some fn ∧ (fn.name == "runtime.NumGoroutine") = false ∧ fn.body.isNone = false) ∧
    ∀ [Gh] β vs w, HR β H w.heap → AR β H w.heap vs as → Calls P f vs w (CEnd (fun a H => some (a, H)) (av, H') β H w)
theorem extAll_of {c : Ctx} {P : Program} {l : List (Nat × (List AV → Heap → Option (AV × Heap)))} (hl : c.ext = l) (h : ∀ p ∈ l, ExtOne P p.1 p.2) : ExtAll c P := fun f e he => h (f, e) (hl ▸ find1_mem he)
theorem clone_ev {ρ : Type} (c : Ctx) {f sz by_ : Nat} {z : List AV} (hx : find1 f c.ext = some (cloneE sz by_ z)) (k n : Nat) (row : Nat → List AV) (u : Bool) (κ : AV → Heap → Option ρ) :
    evalF c (k + 1) f [.sl sz n row u] [] κ = if n = 0 then κ (.sl sz 0 (fun _ => z) true) [] else if roomOf n by_ = true then κ (.osl sz 0 0 n false) [some (.arr sz n row)] else none := by
  simp only [evalF, hx, cloneE, if_true, List.length_nil, List.nil_append]
  split
  · rfl
  · split <;> rfl
def noCall : Call1 := fun _ _ _ => none
section
variable {P : Program} {c : Ctx}
theorem clone_ok (hC : CtxOK c P) (hM : CmpAll c P) (hm : P.follows .mixedOrders = true) {f t et : Nat} {fn : Func} {ty ey : Ty} (hf : P.funcs[f]? = some fn) (hname : (fn.name == "runtime.NumGoroutine") = false) (K : CloneCode t fn)
    (hty : c.tyOf t = some ty) (hk : ty.k = .slice et) (hey : c.tyOf et = some ey) :
    ∀ as H av H', cloneE ey.size ey.bytes ey.zero as H = some (av, H') → (∃ fn, P.funcs[f]? = some fn ∧ (fn.name == "runtime.NumGoroutine") = false ∧ fn.body.isNone = false) ∧
      ∀ [Gh] β vs w, HR β H w.heap → AR β H w.heap vs as → Calls P f vs w (CEnd (fun a H => some (a, H)) (av, H') β H w) := by
  intro as H av H' h
  refine ⟨⟨fn, hf, hname, by rw [K.body]; rfl⟩, ?_⟩
  intro G β vs w hR hA
  match as, h with
  | [.sl s n row u], h =>
  unfold cloneE at h
  simp only at h
  split at h
  case isFalse => cases h
  rename_i hs
  subst hs
  have KK : Known P c (fun _ => noCall) := ⟨hC, hM, fun d f as H av H' h => (by cases h), fun f as H av H' h => (by cases h), hm⟩
  refine calls_of_wp hf K.body ?_
  have A0 : At β H w { tmps := vs ++ Array.replicate (fn.ntmps - vs.size) undef, defers := [] } ⟨[some (.sl ey.size n row u), none, none, none, none, none, none, none], H⟩ { tmps := vs ++ Array.replicate (fn.ntmps - vs.size) undef, defers := [] } w β := by
    refine ⟨hR, ?_, Evo.refl _ _ _, Same.refl _, rfl⟩
    have := start_er hA fn.ntmps
    rw [K.n] at this ⊢
    exact this
  generalize ha0 : ({ tmps := vs ++ Array.replicate (fn.ntmps - vs.size) undef, defers := [] } : Act) = a0 at A0 ⊢
  obtain ⟨k0, sz0, by0, z0, cm0⟩ := ty
  simp only at hk
  subst hk
  obtain ⟨a1, a2, a3, a4⟩ := K.h0
  obtain ⟨b1, b2, b3, b4⟩ := K.h1
  obtain ⟨c1, c2, c3⟩ := K.h2
  obtain ⟨d1, d2, d3, d4⟩ := K.h3
  obtain ⟨f1, f2, f3⟩ := K.h4
  obtain ⟨g1, g2, g3, g4⟩ := K.h5
  obtain ⟨⟨cl, m1, m2, m3, m4⟩, m5, m6⟩ := K.h6
  obtain ⟨n1, n2, n3, n4⟩ := K.h7
  -- the first region
  refine wp_seq (codeE_ok KK (lv := []) (k := 0) (.region K.i0 #[K.o0] false) rfl (κ := fun ex s => some (ex, s)) (x := (Ex.normal, ⟨[some (.sl ey.size n row u), none, some (.sl ey.size 0 (fun _ => ey.zero) true), none, none, none, none, none], H⟩)) ?_ A0 ?_)
  · simp [codeE, opsE, contO, putK_eq, putE, opE, endR, find1, a1, a2, a3, a4, Ctx.opdT, Ctx.constT, hty, hey, opt]
  intro ex s1 q1 w1 β1 hk1 A1
  cases hk1
  -- the comparison
  have hu : P.underlying t = some (.slice et) := (hC.ty t _ hty).desc
  refine wp_seq (wp_seq ?_)
  refine wp_region ?_
  rw [show List.range (#[K.o1, K.o2] : Array Oper).size = [0, 1] from rfl]
  have w1' : ∀ tm, Region.wanted K.o1 (yielded #[K.o1, K.o2] tm) = true := fun tm => by unfold Region.wanted; rw [b4]
  have w2' : ∀ tm, Region.wanted K.o2 (yielded #[K.o1, K.o2] tm) = true := fun tm => by unfold Region.wanted; rw [c3]
  simp only [wpOps, List.getElem?_toArray, List.getElem?_cons_zero, List.getElem?_cons_succ, w1', w2', if_true]
  refine .inl (opE_ok hC hM (KK.call false).on A1.hr A1.er (kn := []) (KnEnv.nil.ok A1.er) (κ := fun v H => some (v, H)) (x := (some (.sl ey.size n row u), H)) ?_ _ ?_)
  · simp [opE, b1, b2, Ctx.opdT, opt]
  intro cv ov β2 H2 w2 hk2 hv2 hR2 hE2 hS2
  cases hk2
  have er2 := ER.put (A1.er.stays hE2) (dst := K.o1.dst) (v := some (.sl ey.size n row u)) hv2
  rw [b3] at er2
  have hv3 : R β2 H w2.heap ((q1.put K.o1.dst cv).eval (.tmp 3)) (.sl ey.size n row u) := by
    rw [b3]
    exact opd_ok er2 (by simp [opd, putE])
  obtain ⟨ad, ln, cp, hval⟩ : ∃ ad ln cp, (q1.put K.o1.dst cv).eval (.tmp 3) = .slice ad ln cp := by
    revert hv3
    generalize (q1.put K.o1.dst cv).eval (.tmp 3) = vv
    intro hv3
    cases hv3 <;> exact ⟨_, _, _, rfl⟩
  refine .inl (Goal.value (κ := fun v H => some (v, H)) (x := (some (.bool ad.isNone), H)) (β := β2) hR2 (cv := .bool ad.isNone) ?_ (.bool _) rfl _ ?_)
  · unfold execOp
    rw [c1]
    have hg : (eqGuard .eql t (.tmp 3) (.const (.slice none 0 0)) (.slice ad ln cp) (.slice none 0 0)).run P w2 = .ok () w2 := guard_run trivial
    have hq := eq_run (equal_nil (w := w2) hu ad ln cp) rfl
    have hrun : ((do eqGuard .eql t (.tmp 3) (.const (.slice none 0 0)) (.slice ad ln cp) (.slice none 0 0); binOp .eql t (.slice ad ln cp) (.slice none 0 0) : Sem Value)).run P w2 = .ok (.bool ad.isNone) w2 := by
      simp only [Sem.run_bind, hg, Result.andThen_ok]
      exact hq
    simp only [hval, Sem.run_bind] at hrun ⊢
    have hce : (q1.put K.o1.dst cv).eval (.const (.slice none 0 0)) = .slice none 0 0 := rfl
    rw [hce, hrun]
    rfl
  intro cv3 ov3 β3 H3 w3 hk3 hv4 hR3 hE3 hS3
  cases hk3
  have er3 := ER.put (er2.stays hE3) (a := q1.put (some 3) cv) (dst := K.o2.dst) (v := some (.bool ad.isNone)) hv4
  rw [c2] at er3
  have A2 : At β H w a0 ⟨[some (.sl ey.size n row u), none, some (.sl ey.size 0 (fun _ => ey.zero) true), some (.sl ey.size n row u), some (.bool ad.isNone), none, none, none], H⟩ ((q1.put K.o1.dst cv).put K.o2.dst cv3) w3 β3 := by
    refine ⟨hR3, ?_, (A1.evo.trans hE2).trans hE3, (A1.same.trans hS2).trans hS3, ?_⟩
    · rw [b3, c2]; exact er3
    · rw [put_defers, put_defers]; exact A1.defs
  generalize (q1.put K.o1.dst cv).put K.o2.dst cv3 = q3 at A2
  have fin : ∀ (s' : St) (a' : Act) (w' : World) (β' : Nat → Nat), s'.env.getD 2 none = some av → s'.heap = H' → At β H w a0 s' a' w' β' → bodyPost P fn (CEnd (fun a H => some (a, H)) (av, H') β H w) .ret a' w' := by
    intro s' a' w' β' h1 h2 hA'
    have hus : resE c s' fn.results.toList = some [av] := by
      rw [K.res]
      simp only [resE, h1]
    obtain ⟨v, r1, r2⟩ := results_ok hC hA'.hr hA'.er hus
    have hd : a'.defers = [] := by rw [hA'.defs, ← ha0]
    subst h2
    exact ⟨hd, v, r1, CEnd.of r2 hA'.hr hA'.evo hA'.same⟩
  show (Code.cond (.tmp 4) (.seq (.region K.i2 #[K.o3] false) .ret) .skip).wp P _ q3 w3
  have hb4 : q3.eval (.tmp 4) = .bool ad.isNone := (opd_ok A2.er (y := .tmp 4) (by simp [opd])).inv_bool
  refine wp_cond hb4 ?_
  cases hnil : ad.isNone with
  | true =>
    have hn0 : n = 0 := by
      cases ad with
      | some a => cases hnil
      | none =>
        rw [hval] at hv3
        cases hv3; rfl
    subst hn0
    simp only [if_true] at h
    cases h
    refine codeE_ok KK (lv := []) (k := 0) (.seq (.region K.i2 #[K.o3] false) .ret) rfl (κ := fun ex s => some (ex, s)) (x := (Ex.ret, ⟨[some (.sl ey.size 0 row u), none, some (.sl ey.size 0 (fun _ => ey.zero) true), some (.sl ey.size 0 row u), some (.bool ad.isNone), none, none, none], H⟩)) ?_ A2 ?_
    · simp [codeE, opsE, contO, putK_eq, putE, opE, endR, find1, d1, d2, d3, d4, Ctx.opdT, Ctx.constT, hty, hey, opt]
    intro ex s' a' w' β' hk hA'
    cases hk
    exact fin _ _ _ _ rfl rfl hA'
  | false =>
    refine wp_skip ?_
    show (Code.seq (.region K.i3 #[K.o4, K.o5, K.o6, K.o7] false) .ret).wp P _ q3 w3
    refine codeE_ok KK (lv := []) (k := 0) (.seq (.region K.i3 #[K.o4, K.o5, K.o6, K.o7] false) .ret) rfl (κ := fun ex s => match ex with | .ret => opt (s.env.getD 2 none) fun r => some (r, s.heap) | _ => none) (x := (av, H')) ?_ A2 ?_
    · by_cases hn0 : n = 0
      · subst hn0
        simp only [if_true] at h
        cases h
        simp [codeE, opsE, contO, putK_eq, putE, opE, endR, find1, f1, f2, f3, g1, g2, g3, g4, m1, m2, m3, m4, m5, m6, n1, n2, n3, n4, Ctx.opdT, Ctx.opdsT, Ctx.constT, hty, hey, opt, partsOf, litAV, litRows, builtinE, srcOf, appendE, noInt, Ctx.kOf]
      · rw [if_neg hn0] at h
        split at h
        case isFalse => cases h
        rename_i hroom
        cases h
        simp [codeE, opsE, contO, putK_eq, putE, opE, endR, find1, f1, f2, f3, g1, g2, g3, g4, m1, m2, m3, m4, m5, m6, n1, n2, n3, n4, Ctx.opdT, Ctx.opdsT, Ctx.constT, hty, hey, opt, partsOf, litAV, litRows, builtinE, srcOf, appendE, noInt, Ctx.kOf, hn0, hroom]
        funext i; simp [catRow]
    intro ex s' a' w' β' hk hA'
    cases ex with
    | ret =>
      obtain ⟨r, hr, hk⟩ := opt_some hk
      cases hk
      exact fin _ _ _ _ hr rfl hA'
    | normal => cases hk
    | exit id => cases hk
end
end Go.Ev
