/- The reckoner tells the truth: calls and whole functions. No conditions. -/
import Derived.Test.YtadbbgechcjciaaEvU
set_option linter.unusedVariables false
set_option linter.unusedSimpArgs false
set_option linter.unusedSectionVars false
namespace Go.Ev
open Go

theorem on_some {g : Call1} {ρ : Type} {f : Nat} {as : List AV} {H : Heap} {κ : AV → Heap → Option ρ} {x : ρ} (h : g.on f as H κ = some x) : ∃ r H1, g f as H = some (r, H1) ∧ κ r H1 = some x := by
  unfold Call1.on at h
  cases hg : g f as H with
  | none => rw [hg] at h; cases h
  | some p => rw [hg] at h; exact ⟨p.1, p.2, rfl, h⟩

section
variable {P : Program} {c : Ctx} {g : Call1}

theorem callE_pur (hg : Call1OK P g) {u dr : Bool} {f : Nat} {as : List AV} {H : Heap} {av : AV} {H' : Heap}
    (h : opt (frzL H true as) (fun as' => g.on f as' [] fun r H' => opt (frzA H' u r) fun r =>
      if pureL as = true ∨ flatA r = true then some (r, H) else if dr = true then none else some (r, sealAll H (refsL as))) = some (av, H')) :
    (∃ fn, P.funcs[f]? = some fn ∧ (fn.name == "runtime.NumGoroutine") = false ∧ fn.body.isNone = false) ∧
    ∀ [Gh] β vs w, HR β H w.heap → AR β H w.heap vs as → Calls P f vs w (CEnd (fun a H => some (a, H)) (av, H') β H w) := by
  obtain ⟨as', has, h⟩ := opt_some h
  obtain ⟨r, H1, hr, h⟩ := on_some h
  obtain ⟨r', hr', h⟩ := opt_some h
  refine ⟨(hg f as' [] r H1 hr).1, ?_⟩
  intro G β vs w hR hA
  refine plain_call hg hR hA has hr ?_
  intro G' v β1 w' hG' q1 q2 q3 q4
  obtain ⟨hS, hSE, hSl, hSlive⟩ := sealAll_ok (rs := refsL as) hR
  have hnil : ∀ q, ¬ Live ([] : Heap) q := fun q hq => by
    rcases hq with ⟨_, hq⟩ | ⟨_, _, _, hq⟩ <;> simp [Heap.at] at hq
  have hsz : w.heap.size ≤ w'.heap.size := @Evo.size G' _ _ _ _ _ _ q3
  have hold : ∀ b, b < w.heap.size → w'.heap[b]? = w.heap[b]? := fun b hb => by
    by_cases hgb : G'.g b
    · exact @Evo.gh G' _ _ _ _ _ _ q3 b hgb hb
    · exact (@Evo.imm G' _ _ _ _ _ _ q3 b ⟨hb, fun q hq => absurd hq (hnil q), hgb⟩).1
  have himm : ∀ b, @Imm G' β1 H1 w'.heap b → @Imm G β (sealAll H (refsL as)) w'.heap b := fun b hb =>
    ⟨hb.1, fun q hq he => hb.2.2 ((hG' b).2 (.inr ⟨q, hq, by simp, he⟩)), fun hgb => hb.2.2 ((hG' b).2 (.inl hgb))⟩
  have hv : @R G β (sealAll H (refsL as)) w'.heap v r' := by
    refine R.frz q2 himm q1 hr' fun r0 _ sz n row ho => ?_
    rcases ho with ho | ho
    · have hl : Live H1 r0 := .inr ⟨_, _, _, ho⟩
      exact ⟨@HR.lt G' _ _ _ q2 _ hl, fun q hq he => (@HR.gh G' _ _ _ q2 _ ((hG' _).2 (.inr ⟨q, hq, by simp, rfl⟩))).2 r0 hl he.symm, fun hgb => (@HR.gh G' _ _ _ q2 _ ((hG' _).2 (.inl hgb))).2 r0 hl rfl⟩
    · obtain ⟨_, _, _, hi, _⟩ := @HR.fro G' _ _ _ q2 r0 sz n row ho
      exact himm _ hi
  split at h
  · rename_i hc
    cases h
    obtain ⟨g1, g2⟩ := grow_ok hR hsz hold
    refine CEnd.of (β' := β) ?_ g1 g2 q4
    rcases hc with hp | hf
    · rw [refsL_pure hp] at hv; exact hv
    · exact R.flat hv hf
  · split at h
    · cases h
    · cases h
      obtain ⟨g1, g2⟩ := grow_ok hS hsz hold
      exact CEnd.of hv g1 (@Evo.trans G _ _ _ _ _ _ _ _ _ hSE g2) q4

theorem callE_fresh (hg : Call1OK P g) {f : Nat} {as : List AV} {H : Heap} {av : AV} {H' : Heap}
    (h : opt (frzL H true as) (fun as' => g.on f as' [] fun r H' => opt (close H' 200 (refsA r) []) fun ks =>
      opt (renA (fun i => (idxIn i ks 0).map fun j => H.length + j) r) fun r => opt (renObs (fun i => (idxIn i ks 0).map fun j => H.length + j) H' ks) fun os => some (r, sealAll H (refsL as) ++ os)) = some (av, H')) :
    (∃ fn, P.funcs[f]? = some fn ∧ (fn.name == "runtime.NumGoroutine") = false ∧ fn.body.isNone = false) ∧
    ∀ [Gh] β vs w, HR β H w.heap → AR β H w.heap vs as → Calls P f vs w (CEnd (fun a H => some (a, H)) (av, H') β H w) := by
  obtain ⟨as', has, h⟩ := opt_some h
  obtain ⟨r, H1, hr, h⟩ := on_some h
  obtain ⟨ks, hks, h⟩ := opt_some h
  obtain ⟨r', hr', h⟩ := opt_some h
  obtain ⟨os, hos, h⟩ := opt_some h
  cases h
  refine ⟨(hg f as' [] r H1 hr).1, ?_⟩
  intro G β vs w hR hA
  refine plain_call hg hR hA has hr ?_
  intro G' v β1 w' hG' q1 q2 q3 q4
  obtain ⟨hS, hSE, hSl, hSlive⟩ := sealAll_ok (rs := refsL as) hR
  obtain ⟨hn, _, _⟩ := close_ok hks
  obtain ⟨β2, k⟩ := back_of (rs := []) (ks := ks) (H := sealAll H (refsL as)) (H1 := H1) (os := os) (β := β) (β1 := β1) (f := fun i => (idxIn i ks 0).map fun j => H.length + j) (by simp) (by simp) hn (by simp) (by simp)
    (by funext i; simp [hSl]) hos
  have k0 : Sub (fun _ => none) [] β (sealAll H (refsL as)) β [] := ⟨by simp, rfl, fun _ _ h => (by cases h), fun _ _ h => (by simp at h)⟩
  have he : setAll (sealAll H (refsL as)) [] (List.take ([] : List Nat).length os) ++ List.drop ([] : List Nat).length os = sealAll H (refsL as) ++ os := by simp [setAll]
  rw [he] at k
  exact CEnd.of (R.ren (k.ren (fun b hb => (hG' b).2 (.inl hb)) fun q h1 h2 => (hG' _).2 (.inr ⟨q, h1, h2, rfl⟩)) q1 hr') (k.hr k0 hS hG' q3 q2) (@Evo.trans G _ _ _ _ _ _ _ _ _ hSE (k.evo k0 hS hG' q3)) q4

theorem callE_heap (hg : Call1OK P g) {f : Nat} {as : List AV} {H : Heap} {av : AV} {H' : Heap}
    (h : opt (subHeap H as) (fun (rs, as, H0) => if allLt H.length rs = true then g.on f as H0 fun r H' => opt (close H' 200 (List.range rs.length ++ refsA r) []) fun ks =>
      opt (renA (fun i => if i < rs.length then rs[i]? else (idxIn i ks 0).map fun j => H.length + (j - rs.length)) r) fun r => opt (renObs (fun i => if i < rs.length then rs[i]? else (idxIn i ks 0).map fun j => H.length + (j - rs.length)) H' ks) fun os =>
      some (r, setAll H rs (os.take rs.length) ++ os.drop rs.length) else none) = some (av, H')) :
    (∃ fn, P.funcs[f]? = some fn ∧ (fn.name == "runtime.NumGoroutine") = false ∧ fn.body.isNone = false) ∧
    ∀ [Gh] β vs w, HR β H w.heap → AR β H w.heap vs as → Calls P f vs w (CEnd (fun a H => some (a, H)) (av, H') β H w) := by
  obtain ⟨⟨rs, as', H0⟩, hsub, h⟩ := opt_some h
  simp only at h
  obtain ⟨hlt, h⟩ := ite_some h
  have hlt := allLt_iff.1 hlt
  obtain ⟨r, H1, hr, h⟩ := on_some h
  obtain ⟨ks, hks, h⟩ := opt_some h
  obtain ⟨r', hr', h⟩ := opt_some h
  obtain ⟨os, hos, h⟩ := opt_some h
  cases h
  unfold subHeap at hsub
  split at hsub
  · cases hsub
  rename_i rs' hrs
  split at hsub
  case h_2 => cases hsub
  rename_i as2 H2 hren hobs
  cases hsub
  refine ⟨(hg f as' H0 r H1 hr).1, ?_⟩
  intro G β vs w hR hA
  obtain ⟨hn, _, _⟩ := close_ok hrs
  have k0 : Sub (fun r => idxIn r rs 0) rs β H (fun i => β (rs.getD i 0)) H0 := by
    refine ⟨hn, hobs, fun r r' hf => ?_, fun i r hi => ?_⟩
    · have := (idxIn_some hf).2
      rwa [Nat.sub_zero] at this
    · simp only [List.getD_eq_getElem?_getD, hi, Option.getD_some]
  let G' : Gh := ⟨fun b => G.g b ∨ ∃ q, Live H q ∧ q ∉ rs ∧ β q = b⟩
  have hG : ∀ b, G'.g b → G.g b ∨ ∃ q, Live H q ∧ β q = b := fun b hb => hb.imp id fun ⟨q, h1, _, h2⟩ => ⟨q, h1, h2⟩
  have hHR : @HR G' (fun i => β (rs.getD i 0)) H0 w.heap := by
    refine k0.HR hR hG fun b hb i hi => ?_
    obtain ⟨q, h1, h2, h3⟩ := k0.live hi
    rw [h3]
    rcases hb with hb | ⟨p, p1, p2, p3⟩
    · exact (@HR.gh G _ _ _ hR b hb).2 q h2
    · rintro rfl
      have := @HR.inj G _ _ _ hR p q p1 h2 p3
      subst this
      exact p2 (List.mem_of_getElem? h1)
  have hAR : @AR G' (fun i => β (rs.getD i 0)) H0 w.heap vs as' := by
    obtain ⟨l1, l2⟩ := renL_get hren
    exact ⟨by rw [hA.1]; omega, fun j hj => R.ren (k0.ren hG) (hA.2 j (by omega)) (l2 j (by omega))⟩
  refine Calls.mono (hg.run hr G' _ vs w hHR hAR) ?_
  rintro en w' ⟨v, av2, β1, H3, rfl, hk, q1, q2, q3, q4⟩
  cases hk
  obtain ⟨kn, _, _⟩ := close_ok hks
  obtain ⟨kl, ki⟩ := close_range hks
  obtain ⟨β2, k⟩ := back_of (β := β) (β1 := β1) hn hlt kn kl ki rfl hos
  have hG' : ∀ b, G'.g b ↔ G.g b ∨ ∃ q, Live H q ∧ q ∉ rs ∧ β q = b := fun b => Iff.rfl
  exact CEnd.of (R.ren (k.ren (fun b hb => (hG' b).2 (.inl hb)) fun q h1 h2 => (hG' _).2 (.inr ⟨q, h1, h2, rfl⟩)) q1 hr') (k.hr k0 hR hG' q3 q2) (k.evo k0 hR hG' q3) q4

theorem callE_ok (hg : Call1OK P g) (dr : Bool) : Call1OK P (fun f as H => callE c dr g.on f as H fun v H => some (v, H)) := by
  intro f as H av H' h
  simp only [callE] at h
  split at h
  · exact callE_pur hg h
  · exact callE_pur hg h
  · split at h
    · cases h
    · exact callE_fresh hg h
  · split at h
    · cases h
    · exact callE_heap hg h
theorem callE_quiet : Call1.Quiet (fun f as H => callE c true g.on f as H fun v H => some (v, H)) := by
  intro f as H av H' h
  simp only [callE] at h
  split at h
  · obtain ⟨as', has, h⟩ := opt_some h
    obtain ⟨r, H1, hr, h⟩ := on_some h
    obtain ⟨r', hr', h⟩ := opt_some h
    split at h
    · cases h; rfl
    · cases h
  · obtain ⟨as', has, h⟩ := opt_some h
    obtain ⟨r, H1, hr, h⟩ := on_some h
    obtain ⟨r', hr', h⟩ := opt_some h
    split at h
    · cases h; rfl
    · cases h
  · cases h
  · cases h
end
end Go.Ev
