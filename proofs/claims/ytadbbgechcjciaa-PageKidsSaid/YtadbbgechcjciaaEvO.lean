/- The reckoner's regions tell the truth in every order that the code leaves open: the walk. No conditions. -/
import Derived.Test.YtadbbgechcjciaaEvN
set_option linter.unusedVariables false
set_option linter.unusedSimpArgs false
set_option linter.unusedSectionVars false
namespace Go.Ev
open Go

theorem inList_iff {t : Nat} : ∀ {l : List Nat}, inList t l = true ↔ t ∈ l
  | [] => by simp [inList]
  | x :: xs => by
    unfold inList
    by_cases h : x = t
    · simp [h]
    · rw [if_neg h, inList_iff]
      simp [Ne.symm h]
theorem keep_length {ts : List Nat} : ∀ {i : Nat} {e : List (Option AV)}, (keep ts i e).length = e.length
  | i, [] => rfl
  | i, a :: e => by simp [keep, keep_length]
theorem keep_getD {ts : List Nat} : ∀ {i : Nat} {e : List (Option AV)} {t : Nat}, (keep ts i e).getD t none = if inList (i + t) ts = true then e.getD t none else none
  | i, [], t => by simp [keep]
  | i, a :: e, 0 => by simp [keep]
  | i, a :: e, t + 1 => by
    have := keep_getD (ts := ts) (i := i + 1) (e := e) (t := t)
    rw [show i + 1 + t = i + (t + 1) by omega] at this
    simpa [keep] using this
theorem find1_key {α : Type} {p : Nat → Bool} {t : Nat} : ∀ {kn : List (Nat × α)}, find1 t (kn.filter fun q => p q.1) = if p t = true then find1 t kn else none
  | [] => by simp [find1]
  | (u, a) :: kn => by
    rw [List.filter_cons]
    have ih := find1_key (p := p) (t := t) (kn := kn)
    by_cases hu : u = t
    · subst hu
      by_cases hp : p u = true
      · simp [hp, find1]
      · simp only [hp, if_false, Bool.false_eq_true] at ih ⊢
        exact ih
    · by_cases hp : p u = true
      · simp only [hp, if_true, find1, if_neg hu]; exact ih
      · simp only [hp, if_false, find1, if_neg hu, Bool.false_eq_true]; exact ih
theorem cls_le (o : Oper) : cls o ≤ 2 := by
  unfold cls
  split <;> (try split) <;> omega

variable [Gh]
section
variable {P : Program} {c : Ctx} {g : Call1} {ops : Array Oper} {Q : Exit → Act → World → Prop} {st : Nat → St} {rc : Nat → Rec}

theorem st_len (hst : States c g ops st rc) : ∀ k, k ≤ ops.size → (st k).env.length = (st 0).env.length
  | 0, _ => rfl
  | k + 1, h => by
    obtain ⟨_, _, h3⟩ := hst k ops[k] (Array.getElem?_eq_getElem (by omega))
    rw [h3, putE_length]; exact st_len hst k (by omega)
theorem st_env (hst : States c g ops st rc) {t : Nat} {i : Nat} : ∀ d, i + d ≤ ops.size → (∀ k o, i ≤ k → k < i + d → ops[k]? = some o → o.dst ≠ some t) → (st (i + d)).env.getD t none = (st i).env.getD t none
  | 0, _, _ => rfl
  | d + 1, h, hn => by
    have ho := Array.getElem?_eq_getElem (show i + d < ops.size by omega)
    obtain ⟨_, _, h3⟩ := hst (i + d) _ ho
    rw [← Nat.add_assoc, h3, putE_getD (fun d' hd' hh => hn (i + d) _ (by omega) (by omega) ho (by rw [hd', hh]))]
    exact st_env hst d (by omega) fun k o h1 h2 => hn k o h1 (by omega)
theorem st_heap1 (hg : g.Quiet) (hst : States c g ops st rc) {k : Nat} {o : Oper} (ho : ops[k]? = some o) (h : cls o ≠ 2) : (st (k + 1)).heap = (st k).heap := by
  obtain ⟨h1, ⟨_, _, h2⟩, h3⟩ := hst k o ho
  rw [h3]
  simp only
  have hc := cls_le o
  split at h2
  · rw [h1] at h2
    rcases (show cls o = 0 ∨ cls o = 1 by omega) with h0 | h0
    · exact (opE_zero (H2 := []) h0 h2).2
    · exact opE_one hg h0 h2
  · rw [h2.2, h1]
theorem st_heap (hg : g.Quiet) (hst : States c g ops st rc) {i : Nat} : ∀ d, i + d ≤ ops.size → (∀ k o, i ≤ k → k < i + d → ops[k]? = some o → cls o ≠ 2) → (st (i + d)).heap = (st i).heap
  | 0, _, _ => rfl
  | d + 1, h, hn => by
    have ho := Array.getElem?_eq_getElem (show i + d < ops.size by omega)
    rw [← Nat.add_assoc, st_heap1 hg hst ho (hn (i + d) _ (by omega) (by omega) ho)]
    exact st_heap hg hst d (by omega) fun k o h1 h2 => hn k o h1 (by omega)

def Cov (ops : Array Oper) (listed : Array Bool) (t i : Nat) : Prop := ∀ k o, ops[k]? = some o → o.dst = some t → (On listed k ↔ k < i)
def CovH (ops : Array Oper) (listed : Array Bool) (i : Nat) : Prop := ∀ k o, ops[k]? = some o → cls o = 2 → (On listed k ↔ k < i)
structure Inv (ops : Array Oper) (st : Nat → St) (a0 : Act) (β0 : Nat → Nat) (H0 : Heap) (w0 : World) (listed : Array Bool) (a : Act) (w : World) : Prop where
  size : listed.size = ops.size
  closed : Closed ops listed
  len : (st 0).env.length ≤ a.tmps.size
  defs : a.defers = a0.defers
  same : Same w0 w
  ex : ∃ Hc β, HR β Hc w.heap ∧ Evo β0 H0 w0.heap β Hc w.heap ∧ (∀ i, i ≤ ops.size → CovH ops listed i → Hc = (st i).heap) ∧
    ∀ t i, i ≤ ops.size → Cov ops listed t i → ∀ av, (st i).env.getD t none = some av → ∃ v, a.tmps[t]? = some v ∧ R β Hc w.heap v av

theorem on_set {listed : Array Bool} {j k : Nat} (hj : j < listed.size) : On (listed.setIfInBounds j true) k ↔ k = j ∨ On listed k := by
  unfold On
  by_cases h : k = j
  · subst h; simp [hj]
  · rw [getD_set_ne false (Ne.symm h)]; simp [h]

theorem drawn_step (hC : CtxOK c P) (hM : CmpAll c P) (hg : Call1OK P g) (hq : g.Quiet) (hreg : regOk ops = true) (hst : States c g ops st rc) {a0 : Act} {β0 : Nat → Nat} {H0 : Heap} {w0 : World} {listed : Array Bool} {a : Act} {w : World}
    (hI : Inv ops st a0 β0 H0 w0 listed a w) {j : Nat} (hj : j ∈ Region.ready .any ops listed) {K : Act → World → Prop}
    (hK : ∀ a' w', Inv ops st a0 β0 H0 w0 (listed.setIfInBounds j true) a' w' → K a' w') : wpOp P ops Q j K a w := by
  obtain ⟨hun, o, ho, hp⟩ := mem_ready.1 hj
  obtain ⟨hsz, hcl, hlen, hdef, hsame, Hc, β, hR, hEv, hH, hEnv⟩ := hI
  have hjn : j < ops.size := (Array.getElem?_eq_some_iff.1 ho).1
  have hjl : j < listed.size := by omega
  have hnot : ¬ On listed j := by
    intro h
    unfold On at h
    simp [hjl] at hun h
    rw [hun] at h; cases h
  obtain ⟨hns, hreg⟩ := regOk_spec hreg
  have hb : ∀ k x, ops[k]? = some x → k < j → On listed k ∨ indep ops x o = true := fun k x hx hk =>
    ((hreg j o ho).2 k x hk hx).imp (before_on hcl j o ho hp k) id
  have ha : ∀ k x, ops[k]? = some x → j < k → ¬ On listed k ∨ indep ops o x = true := fun k x hx hk =>
    ((hreg k x hx).2 j o hk ho).imp (fun hbit hon => hnot (before_on hcl k x hx (fun e he hb => hcl k x hx hon e he hb) j hbit)) id
  have apart : ∀ {x y}, indep ops x y = true → x.apart ops y = true ∧ cls x + cls y ≤ 2 := fun h => by
    simp only [indep, Bool.and_eq_true, decide_eq_true_eq] at h; exact h
  have covj : ∀ t, t ∈ o.looksAt ops → Cov ops listed t j := by
    intro t ht k x hx hd
    rcases Nat.lt_trichotomy k j with hk | hk | hk
    · refine ⟨fun _ => hk, fun _ => (hb k x hx hk).resolve_right fun hi => ?_⟩
      exact (Oper.apart_spec (apart hi).1).1 t hd ht
    · subst hk; exact ⟨fun h => absurd h hnot, fun h => absurd h (Nat.lt_irrefl _)⟩
    · refine ⟨fun h => ?_, fun h => by omega⟩
      rcases ha k x hx hk with h' | h'
      · exact absurd h h'
      · exact absurd ht ((Oper.apart_spec (apart h').1).2.2 t hd)
  have covHj : 1 ≤ cls o → CovH ops listed j := by
    intro hc k x hx hd
    rcases Nat.lt_trichotomy k j with hk | hk | hk
    · refine ⟨fun _ => hk, fun _ => (hb k x hx hk).resolve_right fun hi => ?_⟩
      have := (apart hi).2; omega
    · subst hk; exact ⟨fun h => absurd h hnot, fun h => absurd h (Nat.lt_irrefl _)⟩
    · refine ⟨fun h => ?_, fun h => by omega⟩
      rcases ha k x hx hk with h' | h'
      · exact absurd h h'
      · have := (apart h').2; omega
  obtain ⟨hrs, ⟨hKn, hG, hx⟩, hnext⟩ := hst j o ho
  rw [hrs] at hKn hG hx
  -- what is known of the temporaries that are looked at
  have hsee : ∀ t, t ∈ o.looksAt ops → ∀ av, (st j).env.getD t none = some av → ∃ v, a.tmps[t]? = some v ∧ R β Hc w.heap v av := fun t ht av hav => hEnv t j (by omega) (covj t ht) av hav
  -- the rest of the invariant
  have hcl' : Closed ops (listed.setIfInBounds j true) := by
    intro k x hxk hk e he hbe
    rw [on_set hjl] at hk ⊢
    rcases hk with rfl | hk
    · rw [ho] at hxk; cases hxk; exact .inr (hp e he hbe)
    · exact .inr (hcl k x hxk hk e he hbe)
  have fin : ∀ (cv : Value) (H2 : Heap) (β' : Nat → Nat) (w' : World), (∀ i, i ≤ ops.size → CovH ops (listed.setIfInBounds j true) i → H2 = (st i).heap) → VR β' H2 w'.heap cv (rc j).v → HR β' H2 w'.heap → Evo β Hc w.heap β' H2 w'.heap → Same w w' → K (a.put o.dst cv) w' := by
    intro cv H2 β' w' hH2 hv hR' hE' hS
    refine hK _ _ ⟨by simpa using hsz, hcl', by rw [put_size]; exact hlen, by rw [put_defers]; exact hdef, hsame.trans hS, H2, β', hR', hEv.trans hE', hH2, fun t i hi hcov av hav => ?_⟩
    by_cases hd : o.dst = some t
    · have hji : j < i := (hcov j o ho hd).1 ((on_set hjl).2 (.inl rfl))
      have hsame : (st i).env.getD t none = (st (j + 1)).env.getD t none := by
        have := st_env hst (t := t) (i := j + 1) (i - (j + 1)) (by omega) (fun k x h1 h2 hx hdx => by
          have hon := (on_set hjl).1 ((hcov k x hx hdx).2 (by omega))
          rcases hon with h | h
          · omega
          · rcases ha k x hx (by omega) with h' | h'
            · exact h' h
            · exact (Oper.apart_spec (apart h').1).2.1 t hd hdx)
        rwa [show j + 1 + (i - (j + 1)) = i by omega] at this
      rw [hsame, hnext] at hav
      simp only at hav
      rw [hd] at hav ⊢
      by_cases hl : t < (st j).env.length
      · rw [putE_eq hl] at hav
        cases hav
        rw [st_len hst j (by omega)] at hl
        exact ⟨cv, put_get_eq (Nat.lt_of_lt_of_le hl hlen), hv.getD⟩
      · rw [List.getD_eq_getElem?_getD, List.getElem?_eq_none (by rw [putE_length]; omega)] at hav
        cases hav
    · have hcov' : Cov ops listed t i := by
        intro k x hxk hdx
        rw [← hcov k x hxk hdx, on_set hjl]
        refine ⟨.inr, fun h => h.resolve_left ?_⟩
        rintro rfl
        rw [ho] at hxk; cases hxk; exact hd hdx
      obtain ⟨v, hv1, hv2⟩ := hEnv t i hi hcov' av hav
      exact ⟨v, by rw [put_get (by rintro d hd' rfl; exact hd hd')]; exact hv1, hv2.stays hE'⟩
  -- memory behind it
  have heaps : ∀ H2, (cls o ≠ 2 → H2 = Hc) → (cls o = 2 → H2 = (st (j + 1)).heap) → ∀ i, i ≤ ops.size → CovH ops (listed.setIfInBounds j true) i → H2 = (st i).heap := by
    intro H2 h1 h2 i hi hcov
    by_cases hc : cls o = 2
    · have hji : j < i := (hcov j o ho hc).1 ((on_set hjl).2 (.inl rfl))
      rw [h2 hc]
      have := st_heap hq hst (i := j + 1) (i - (j + 1)) (by omega) (fun k x h1 h2 hx hcx => by
        have hon := (on_set hjl).1 ((hcov k x hx hcx).2 (by omega))
        rcases hon with h | h
        · omega
        · have := (covHj (by omega) k x hx hcx).1 h; omega)
      rw [show j + 1 + (i - (j + 1)) = i by omega] at this
      exact this.symm
    · rw [h1 hc]
      refine hH i hi fun k x hxk hcx => ?_
      rw [← hcov k x hxk hcx, on_set hjl]
      refine ⟨.inr, fun h => h.resolve_left ?_⟩
      rintro rfl
      rw [ho] at hxk; cases hxk; exact hc hcx
  have hwant : Region.wanted o (yielded ops a.tmps) = (rc j).ex := wanted_on hG fun j' want t hgd ht av hav => hsee t (by simp [Oper.looksAt, hgd, ht]) av hav
  unfold wpOp
  simp only [ho, hwant]
  cases hex : (rc j).ex with
  | false =>
    rw [hex] at hx
    simp only [Bool.false_eq_true, if_false] at hx ⊢
    obtain ⟨hv, hHH⟩ := hx
    refine fin undef Hc β w (heaps Hc (fun _ => rfl) fun hc => ?_) (by rw [hv]; rfl) hR (Evo.refl _ _ _) (Same.refl _)
    rw [hnext]
    simp only
    rw [hHH]
    exact hH j (by omega) (covHj (by omega))
  | true =>
    rw [hex, if_pos rfl] at hx
    simp only [if_true]
    refine .inl ?_
    have hlk : ∀ y ∈ o.op.operands, ∀ t, y = .tmp t → inList t (o.looksAt ops) = true := by
      rintro y hy t rfl
      rw [inList_iff]
      exact List.mem_append_left _ (List.mem_filterMap.2 ⟨.tmp t, by simpa using hy, rfl⟩)
    have hal : ∀ y ∈ o.op.operands, Alike (st j).env (keep (o.looksAt ops) 0 (st j).env) (rc j).kn ((rc j).kn.filter fun q => inList q.1 (o.looksAt ops)) y := by
      intro y hy t ht
      have := hlk y hy t ht
      rw [keep_getD, find1_key (p := fun u => inList u (o.looksAt ops)), Nat.zero_add, if_pos this, if_pos this]
      exact ⟨rfl, rfl⟩
    rw [opE_congr hal] at hx
    have hER : ER β Hc w.heap a.tmps (keep (o.looksAt ops) 0 (st j).env) := by
      refine ⟨by rw [keep_length, st_len hst j (by omega)]; exact hlen, fun t av hav => ?_⟩
      rw [keep_getD, Nat.zero_add] at hav
      split at hav
      · rename_i hin; exact hsee t (inList_iff.1 hin) av hav
      · cases hav
    have hKE : KnEnv ((rc j).kn.filter fun q => inList q.1 (o.looksAt ops)) (keep (o.looksAt ops) 0 (st j).env) := by
      intro t b ht
      rw [find1_key (p := fun u => inList u (o.looksAt ops))] at ht
      split at ht
      · rename_i hin; rw [keep_getD, Nat.zero_add, if_pos hin]; exact hKn t b ht
      · cases ht
    have hopE : ∃ H2, opE c g.on o ((rc j).kn.filter fun q => inList q.1 (o.looksAt ops)) (keep (o.looksAt ops) 0 (st j).env) Hc (fun v H => some (v, H)) = some ((rc j).v, H2) ∧ (cls o ≠ 2 → H2 = Hc) ∧ (cls o = 2 → H2 = (st (j + 1)).heap) := by
      by_cases h0 : cls o = 0
      · exact ⟨Hc, (opE_zero h0 hx).1, fun _ => rfl, fun h => by omega⟩
      · have hHj : Hc = (st j).heap := hH j (by omega) (covHj (by omega))
        rw [← hHj] at hx
        refine ⟨(rc j).H, hx, fun h2 => ?_, fun _ => by rw [hnext]⟩
        exact opE_one hq (by have := cls_le o; omega) hx
    obtain ⟨H2, hx2, q1, q2⟩ := hopE
    refine opE_ok hC hM hg.on hR hER (hKE.ok hER) hx2 _ ?_
    intro cv ov β' H' w' hk hv hR' hE' hS
    cases hk
    exact fin cv H2 β' w' (heaps H2 q1 q2) hv hR' hE' hS

/-! ### to the end -/
def left (listed : Array Bool) : Nat := listed.toList.countP (· == false)
theorem left_set {listed : Array Bool} {j : Nat} (hj : j < listed.size) (h : listed.getD j true = false) : left (listed.setIfInBounds j true) + 1 = left listed := by
  unfold left
  have : listed[j] = false := by simpa [hj] using h
  rw [Array.toList_setIfInBounds]
  obtain ⟨l⟩ := listed
  simp only at *
  clear h
  induction l generalizing j with
  | nil => simp at hj
  | cons b l ih =>
    cases j with
    | zero => simp at this; subst this; simp
    | succ j =>
      have := ih (j := j) (by simpa using hj) (by simpa using this)
      rw [List.set_cons_succ, List.countP_cons, List.countP_cons]
      omega
theorem ready_nil {listed : Array Bool} (hsz : listed.size = ops.size) (hreg : regOk ops = true) (h : Region.ready .any ops listed = []) : ∀ j, j < ops.size → On listed j := by
  obtain ⟨_, hr⟩ := regOk_spec hreg
  intro j
  induction j using Nat.strongRecOn with
  | ind j ih =>
    intro hj
    apply Classical.byContradiction
    intro hn
    have hmem : j ∈ Region.ready .any ops listed := by
      rw [mem_ready]
      have ho := Array.getElem?_eq_getElem hj
      refine ⟨?_, ops[j], ho, fun e he hb => ?_⟩
      · have hjl : j < listed.size := by omega
        unfold On at hn
        simp [hjl] at hn ⊢
        exact hn
      · have hlt := (hr j _ ho).1 e he hb
        exact ih e.on hlt (by omega)
    rw [h] at hmem; cases hmem
theorem left_zero {listed : Array Bool} (h : left listed = 0) : Region.ready .any ops listed = [] := by
  rw [List.eq_nil_iff_forall_not_mem]
  intro j hj
  obtain ⟨hun, o, ho, _⟩ := mem_ready.1 hj
  unfold left at h
  rw [List.countP_eq_zero] at h
  by_cases hl : j < listed.size
  · have hh := h listed[j] (by simp)
    simp [hl] at hun
    rw [hun] at hh; simp at hh
  · simp [Array.getElem?_eq_none (Nat.le_of_not_lt hl)] at hun

theorem drawn_any (hC : CtxOK c P) (hM : CmpAll c P) (hg : Call1OK P g) (hq : g.Quiet) (hreg : regOk ops = true) (hst : States c g ops st rc) {a0 : Act} {β0 : Nat → Nat} {H0 : Heap} {w0 : World}
    (hQ : ∀ a w β, HR β (st ops.size).heap w.heap → ER β (st ops.size).heap w.heap a.tmps (st ops.size).env → Evo β0 H0 w0.heap β (st ops.size).heap w.heap → Same w0 w → a.defers = a0.defers → Q .normal a w) :
    ∀ fuel {listed : Array Bool} {a : Act} {w : World}, left listed ≤ fuel → Inv ops st a0 β0 H0 w0 listed a w → wpAny P .any ops Q fuel listed a w := by
  have done : ∀ {listed : Array Bool} {a : Act} {w : World}, Inv ops st a0 β0 H0 w0 listed a w → Region.ready .any ops listed = [] → Q .normal a w := by
    intro listed a w hI h0
    have hall := ready_nil hI.size hreg h0
    obtain ⟨Hc, β, hR, hEv, hH, hEnv⟩ := hI.ex
    have lt : ∀ {k o}, ops[k]? = some o → k < ops.size := fun hk => (Array.getElem?_eq_some_iff.1 hk).1
    have e := hH ops.size (Nat.le_refl _) fun k o hk _ => ⟨fun _ => lt hk, fun h => hall k h⟩
    subst e
    refine hQ a w β hR ⟨by rw [st_len hst _ (Nat.le_refl _)]; exact hI.len, fun t av hav => ?_⟩ hEv hI.same hI.defs
    exact hEnv t ops.size (Nat.le_refl _) (fun k o hk _ => ⟨fun _ => lt hk, fun h => hall k h⟩) av hav
  intro fuel
  induction fuel with
  | zero =>
    intro listed a w hl hI
    have h0 : Region.ready .any ops listed = [] := left_zero (by omega)
    exact ⟨h0, done hI h0⟩
  | succ fuel ih =>
    intro listed a w hl hI
    refine ⟨done hI, fun j hj => ?_⟩
    refine drawn_step hC hM hg hq hreg hst hI hj fun a' w' hI' => ih ?_ hI'
    obtain ⟨hun, o, ho, _⟩ := mem_ready.1 hj
    have := left_set (by rw [hI.size]; exact (Array.getElem?_eq_some_iff.1 ho).1) hun
    omega

theorem drawn_wp (hC : CtxOK c P) (hM : CmpAll c P) (hg : Call1OK P g) (hq : g.Quiet) (hreg : regOk ops = true) (hm : P.follows .mixedOrders = true) {s s' : St} {rs : List Rec} (h : Run c g ops.toList ops.toList s rs s') {id : Nat} {a : Act} {w : World} {β : Nat → Nat}
    (hR : HR β s.heap w.heap) (hE : ER β s.heap w.heap a.tmps s.env)
    (hQ : ∀ a' w' β', HR β' s'.heap w'.heap → ER β' s'.heap w'.heap a'.tmps s'.env → Evo β s.heap w.heap β' s'.heap w'.heap → Same w w' → a'.defers = a.defers → Q .normal a' w') : (Code.region id ops true).wp P Q a w := by
  obtain ⟨st, rc, h1, h2, h3⟩ := run_states h
  have hst : States c g ops st rc := fun k o hk => h3 k o (by simpa using hk)
  rw [Array.length_toList] at h2
  refine wp_region_any hm (drawn_any (a0 := a) (β0 := β) (H0 := s.heap) (w0 := w) hC hM hg hq hreg hst ?_ _ ?_ ?_)
  · rw [h2]
    exact fun a' w' β' q1 q2 q3 q4 q5 => hQ a' w' β' q1 q2 q3 q4 q5
  · unfold left
    refine Nat.le_trans List.countP_le_length ?_
    simp
  · have hoff : ∀ k, ¬ On (Array.replicate ops.size false) k := by
      intro k h
      unfold On at h
      by_cases hk : k < ops.size <;> simp [hk] at h
    refine ⟨by simp, fun j o _ h => absurd h (hoff j), by rw [h1]; exact hE.1, rfl, Same.refl _, s.heap, β, hR, Evo.refl _ _ _, fun i hi hcov => ?_, fun t i hi hcov av hav => ?_⟩
    · have := st_heap hq hst (i := 0) i (by omega) (fun k o _ hk ho hc => hoff k ((hcov k o ho hc).2 (by omega)))
      rw [Nat.zero_add] at this
      rw [this, h1]
    · have := st_env hst (t := t) (i := 0) i (by omega) (fun k o _ hk ho hd => hoff k ((hcov k o ho hd).2 (by omega)))
      rw [Nat.zero_add] at this
      rw [this, h1] at hav
      exact hE.2 t av hav
end
end Go.Ev
