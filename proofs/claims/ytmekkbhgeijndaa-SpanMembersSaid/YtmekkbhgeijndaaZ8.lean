-- PRINTED by print.py (a twelfth state) out of the translation. Not trusted: Lean checks it.
import Derived.Test.YtmekkbhgeijndaaZ0
import Derived.Test.YtmekkbhgeijndaaZ2
import Derived.Test.YtmekkbhgeijndaaZ3
import Derived.Test.YtmekkbhgeijndaaZ4
import Derived.Test.YtmekkbhgeijndaaZ6
namespace Go.Proofs.Ytmekkbhgeijndaa.Z
open Go.RowKit Go.Proofs.YtmekkbhgeijndaaW.PrintWords Go.Proofs.YtmekkbhgeijndaaW.PrintLast Go.Proofs.YtmekkbhgeijndaaW.PrintMore Go.Proofs.YtmekkbhgeijndaaW.XWords
attribute [local go_sem] xw_geq xw_leq xw_gtr xw_max2 xw_min2 xw_cell_self
attribute [local go_sem] max2_int min2_int max_two min_two max_three min_three max_four min_four   -- for this text's walks alone
set_option linter.unusedVariables false
set_option linter.unusedSimpArgs false
/-! ### k3_SM: function 6 -/
mutual
def k3_SM.j0 : Nat → ByteArray → Bool → ByteArray → ByteArray → Bool → ByteArray → ByteArray → Bool → Option (Bool)
 | 0, _, _, _, _, _, _, _, _ => none
 | k + 1, x2, x22, x219000, x219001, x219002, x220000, x220001, x220002 => if x22 = true then ((span_Meets.f k x219000 x219001 x219002 x220000 x220001 x220002).bind fun t224 => (if t224 = true then (none) else ((span_Within.f k x219000 x219001 x219002 x220000 x220001 x220002).bind fun t225 => (if t225 = true then (none) else ((k3_head.f k).bind fun t226 => (some t226)))))) else ((span_Both.f k x219000 x219001 x219002 x220000 x220001 x220002).bind fun bt227 => ((span_Has.f k x219000 x219001 x219002 x220000).bind fun t232 => (if t232 = true then (if bt227.2.2.2 = true then ((span_Meets.f k x219000 x219001 x219002 x220000 x220001 x220002).bind fun t233 => (if (t233 != bt227.2.2.2) = true then (k3_SM.j1 k x2 bt227.2.2.2 true x219000 x219001 x219002 x220000 x220001 x220002 bt227.1 bt227.2.1 bt227.2.2.1) else ((span_Meets.f k x220000 x220001 x220002 x219000 x219001 x219002).bind fun t234 => (k3_SM.j1 k x2 bt227.2.2.2 (t234 != bt227.2.2.2) x219000 x219001 x219002 x220000 x220001 x220002 bt227.1 bt227.2.1 bt227.2.2.1)))) else (k3_SM.j1 k x2 bt227.2.2.2 true x219000 x219001 x219002 x220000 x220001 x220002 bt227.1 bt227.2.1 bt227.2.2.1)) else ((span_Has.f k x220000 x220001 x220002 x219000).bind fun t235 => (if (bt227.2.2.2 != t235) = true then (k3_SM.j1 k x2 bt227.2.2.2 true x219000 x219001 x219002 x220000 x220001 x220002 bt227.1 bt227.2.1 bt227.2.2.1) else ((span_Meets.f k x219000 x219001 x219002 x220000 x220001 x220002).bind fun t236 => (if (t236 != bt227.2.2.2) = true then (k3_SM.j1 k x2 bt227.2.2.2 true x219000 x219001 x219002 x220000 x220001 x220002 bt227.1 bt227.2.1 bt227.2.2.1) else ((span_Meets.f k x220000 x220001 x220002 x219000 x219001 x219002).bind fun t237 => (k3_SM.j1 k x2 bt227.2.2.2 (t237 != bt227.2.2.2) x219000 x219001 x219002 x220000 x220001 x220002 bt227.1 bt227.2.1 bt227.2.2.1)))))))))
def k3_SM.j1 : Nat → ByteArray → Bool → Bool → ByteArray → ByteArray → Bool → ByteArray → ByteArray → Bool → ByteArray → ByteArray → Bool → Option (Bool)
 | 0, _, _, _, _, _, _, _, _, _, _, _, _ => none
 | k + 1, x2, x8, x67, x219000, x219001, x219002, x220000, x220001, x220002, x232000, x232001, x232002 => if x67 = true then (none) else (if x8 = true then ((span_Has.f k x232000 x232001 x232002 x2).bind fun t238 => ((span_Has.f k x219000 x219001 x219002 x2).bind fun t239 => (if t239 = true then ((span_Has.f k x220000 x220001 x220002 x2).bind fun t240 => (k3_SM.j2 k x2 (t238 != t240) x219000 x219001 x219002 x220000 x220001 x220002)) else (k3_SM.j2 k x2 t238 x219000 x219001 x219002 x220000 x220001 x220002)))) else ((span_Has.f k x219000 x219001 x219002 x2).bind fun t241 => (if t241 = true then ((span_Has.f k x220000 x220001 x220002 x2).bind fun t242 => (k3_SM.j2 k x2 t242 x219000 x219001 x219002 x220000 x220001 x220002)) else (k3_SM.j2 k x2 false x219000 x219001 x219002 x220000 x220001 x220002))))
def k3_SM.j2 : Nat → ByteArray → Bool → ByteArray → ByteArray → Bool → ByteArray → ByteArray → Bool → Option (Bool)
 | 0, _, _, _, _, _, _, _, _ => none
 | k + 1, x2, x82, x219000, x219001, x219002, x220000, x220001, x220002 => if x82 = true then (none) else ((span_Within.f k x219000 x219001 x219002 x220000 x220001 x220002).bind fun t243 => (if t243 = true then ((span_Has.f k x220000 x220001 x220002 x219000).bind fun t244 => (if t244 = true then ((span_Has.f k x219000 x219001 x219002 x2).bind fun t245 => (if t245 = true then ((span_Has.f k x220000 x220001 x220002 x2).bind fun t246 => (k3_SM.j3 k x2 (!t246) x219000 x219001 x219002)) else (k3_SM.j3 k x2 false x219000 x219001 x219002))) else (k3_SM.j3 k x2 true x219000 x219001 x219002))) else (k3_SM.j3 k x2 false x219000 x219001 x219002)))
def k3_SM.j3 : Nat → ByteArray → Bool → ByteArray → ByteArray → Bool → Option (Bool)
 | 0, _, _, _, _, _ => none
 | k + 1, x2, x103, x219000, x219001, x219002 => if x103 = true then (none) else (if (x2.size : Int) > 512 then ((k3_head.f k).bind fun t247 => (some t247)) else ((span_Point.f x2).bind fun bt248 => ((span_Right.f k bt248.1 bt248.2.1 bt248.2.2).bind fun t252 => (if t252 = true then ((span_Has.f k bt248.1 bt248.2.1 bt248.2.2 x2).bind fun t253 => (if t253 = true then (if x2.size + 1 ≤ 9223372036854775807 then ((span_Has.f k bt248.1 bt248.2.1 bt248.2.2 (x2 ++ (⟨#[0]⟩ : ByteArray))).bind fun t254 => (if t254 = true then (none) else ((span_Within.f k bt248.1 bt248.2.1 bt248.2.2 x219000 x219001 x219002).bind fun t255 => ((span_Has.f k x219000 x219001 x219002 x2).bind fun t256 => (if (t255 == t256) = true then ((k3_head.f k).bind fun t257 => (some t257)) else (none)))))) else (none)) else (none))) else (none)))))
end
def k3_SM.f (k : Nat) (a0_0 : ByteArray) (a0_1 : ByteArray) (a0_2 : Bool) (a1_0 : ByteArray) (a1_1 : ByteArray) (a1_2 : Bool) (a2 : ByteArray) : Option (Bool) := (k3_great.f a0_0 a0_1 a0_2 a1_0 a1_1 a1_2 a2).bind fun t220 => (if t220 = true then ((k3_head.f k).bind fun t221 => (some t221)) else ((span_Right.f k a0_0 a0_1 a0_2).bind fun t222 => (if t222 = true then ((span_Right.f k a1_0 a1_1 a1_2).bind fun t223 => (k3_SM.j0 k a2 (!t223) a0_0 a0_1 a0_2 a1_0 a1_1 a1_2)) else (k3_SM.j0 k a2 true a0_0 a0_1 a0_2 a1_0 a1_1 a1_2))))
theorem k3_SM.mono_l : ∀ k, (∀ y0 y1 y2 y3 y4 y5 y6 y7, LeO (k3_SM.j0 k y0 y1 y2 y3 y4 y5 y6 y7) (k3_SM.j0 (k + 1) y0 y1 y2 y3 y4 y5 y6 y7)) ∧ (∀ y0 y1 y2 y3 y4 y5 y6 y7 y8 y9 y10 y11, LeO (k3_SM.j1 k y0 y1 y2 y3 y4 y5 y6 y7 y8 y9 y10 y11) (k3_SM.j1 (k + 1) y0 y1 y2 y3 y4 y5 y6 y7 y8 y9 y10 y11)) ∧ (∀ y0 y1 y2 y3 y4 y5 y6 y7, LeO (k3_SM.j2 k y0 y1 y2 y3 y4 y5 y6 y7) (k3_SM.j2 (k + 1) y0 y1 y2 y3 y4 y5 y6 y7)) ∧ (∀ y0 y1 y2 y3 y4, LeO (k3_SM.j3 k y0 y1 y2 y3 y4) (k3_SM.j3 (k + 1) y0 y1 y2 y3 y4))
 | 0 => ⟨fun _ _ _ _ _ _ _ _ r h => by simp [k3_SM.j0] at h, fun _ _ _ _ _ _ _ _ _ _ _ _ r h => by simp [k3_SM.j1] at h, fun _ _ _ _ _ _ _ _ r h => by simp [k3_SM.j2] at h, fun _ _ _ _ _ r h => by simp [k3_SM.j3] at h⟩
 | k + 1 => by
  obtain ⟨ih0, ih1, ih2, ih3⟩ := k3_SM.mono_l k
  refine ⟨?_, ?_, ?_, ?_⟩
  ·intro y0 y1 y2 y3 y4 y5 y6 y7
   unfold k3_SM.j0
   repeat' first
   | (with_reducible exact ih0 _ _ _ _ _ _ _ _)
   | (with_reducible exact ih1 _ _ _ _ _ _ _ _ _ _ _ _)
   | (with_reducible exact ih2 _ _ _ _ _ _ _ _)
   | (with_reducible exact ih3 _ _ _ _ _)
   | (with_reducible exact k3_head.mono _)
   | (with_reducible exact span_Both.mono _ _ _ _ _ _ _)
   | (with_reducible exact span_Has.mono _ _ _ _ _)
   | (with_reducible exact span_Meets.mono _ _ _ _ _ _ _)
   | (with_reducible exact span_Right.mono _ _ _ _)
   | (with_reducible exact span_Within.mono _ _ _ _ _ _ _)
   | (with_reducible exact LeO.refl _)
   | (with_reducible exact LeO.none _)
   | (with_reducible refine LeO.ite ?_ ?_)
   | (with_reducible refine LeO.bind ?_ (fun _ => ?_))
   | exact ih0 _ _ _ _ _ _ _ _
   | exact ih1 _ _ _ _ _ _ _ _ _ _ _ _
   | exact ih2 _ _ _ _ _ _ _ _
   | exact ih3 _ _ _ _ _
   | exact k3_head.mono _
   | exact span_Both.mono _ _ _ _ _ _ _
   | exact span_Has.mono _ _ _ _ _
   | exact span_Meets.mono _ _ _ _ _ _ _
   | exact span_Right.mono _ _ _ _
   | exact span_Within.mono _ _ _ _ _ _ _
   | exact LeO.none _
   | refine LeO.ite ?_ ?_
   | refine LeO.bind ?_ (fun _ => ?_)
  ·intro y0 y1 y2 y3 y4 y5 y6 y7 y8 y9 y10 y11
   unfold k3_SM.j1
   repeat' first
   | (with_reducible exact ih0 _ _ _ _ _ _ _ _)
   | (with_reducible exact ih1 _ _ _ _ _ _ _ _ _ _ _ _)
   | (with_reducible exact ih2 _ _ _ _ _ _ _ _)
   | (with_reducible exact ih3 _ _ _ _ _)
   | (with_reducible exact k3_head.mono _)
   | (with_reducible exact span_Both.mono _ _ _ _ _ _ _)
   | (with_reducible exact span_Has.mono _ _ _ _ _)
   | (with_reducible exact span_Meets.mono _ _ _ _ _ _ _)
   | (with_reducible exact span_Right.mono _ _ _ _)
   | (with_reducible exact span_Within.mono _ _ _ _ _ _ _)
   | (with_reducible exact LeO.refl _)
   | (with_reducible exact LeO.none _)
   | (with_reducible refine LeO.ite ?_ ?_)
   | (with_reducible refine LeO.bind ?_ (fun _ => ?_))
   | exact ih0 _ _ _ _ _ _ _ _
   | exact ih1 _ _ _ _ _ _ _ _ _ _ _ _
   | exact ih2 _ _ _ _ _ _ _ _
   | exact ih3 _ _ _ _ _
   | exact k3_head.mono _
   | exact span_Both.mono _ _ _ _ _ _ _
   | exact span_Has.mono _ _ _ _ _
   | exact span_Meets.mono _ _ _ _ _ _ _
   | exact span_Right.mono _ _ _ _
   | exact span_Within.mono _ _ _ _ _ _ _
   | exact LeO.none _
   | refine LeO.ite ?_ ?_
   | refine LeO.bind ?_ (fun _ => ?_)
  ·intro y0 y1 y2 y3 y4 y5 y6 y7
   unfold k3_SM.j2
   repeat' first
   | (with_reducible exact ih0 _ _ _ _ _ _ _ _)
   | (with_reducible exact ih1 _ _ _ _ _ _ _ _ _ _ _ _)
   | (with_reducible exact ih2 _ _ _ _ _ _ _ _)
   | (with_reducible exact ih3 _ _ _ _ _)
   | (with_reducible exact k3_head.mono _)
   | (with_reducible exact span_Both.mono _ _ _ _ _ _ _)
   | (with_reducible exact span_Has.mono _ _ _ _ _)
   | (with_reducible exact span_Meets.mono _ _ _ _ _ _ _)
   | (with_reducible exact span_Right.mono _ _ _ _)
   | (with_reducible exact span_Within.mono _ _ _ _ _ _ _)
   | (with_reducible exact LeO.refl _)
   | (with_reducible exact LeO.none _)
   | (with_reducible refine LeO.ite ?_ ?_)
   | (with_reducible refine LeO.bind ?_ (fun _ => ?_))
   | exact ih0 _ _ _ _ _ _ _ _
   | exact ih1 _ _ _ _ _ _ _ _ _ _ _ _
   | exact ih2 _ _ _ _ _ _ _ _
   | exact ih3 _ _ _ _ _
   | exact k3_head.mono _
   | exact span_Both.mono _ _ _ _ _ _ _
   | exact span_Has.mono _ _ _ _ _
   | exact span_Meets.mono _ _ _ _ _ _ _
   | exact span_Right.mono _ _ _ _
   | exact span_Within.mono _ _ _ _ _ _ _
   | exact LeO.none _
   | refine LeO.ite ?_ ?_
   | refine LeO.bind ?_ (fun _ => ?_)
  ·intro y0 y1 y2 y3 y4
   unfold k3_SM.j3
   repeat' first
   | (with_reducible exact ih0 _ _ _ _ _ _ _ _)
   | (with_reducible exact ih1 _ _ _ _ _ _ _ _ _ _ _ _)
   | (with_reducible exact ih2 _ _ _ _ _ _ _ _)
   | (with_reducible exact ih3 _ _ _ _ _)
   | (with_reducible exact k3_head.mono _)
   | (with_reducible exact span_Both.mono _ _ _ _ _ _ _)
   | (with_reducible exact span_Has.mono _ _ _ _ _)
   | (with_reducible exact span_Meets.mono _ _ _ _ _ _ _)
   | (with_reducible exact span_Right.mono _ _ _ _)
   | (with_reducible exact span_Within.mono _ _ _ _ _ _ _)
   | (with_reducible exact LeO.refl _)
   | (with_reducible exact LeO.none _)
   | (with_reducible refine LeO.ite ?_ ?_)
   | (with_reducible refine LeO.bind ?_ (fun _ => ?_))
   | exact ih0 _ _ _ _ _ _ _ _
   | exact ih1 _ _ _ _ _ _ _ _ _ _ _ _
   | exact ih2 _ _ _ _ _ _ _ _
   | exact ih3 _ _ _ _ _
   | exact k3_head.mono _
   | exact span_Both.mono _ _ _ _ _ _ _
   | exact span_Has.mono _ _ _ _ _
   | exact span_Meets.mono _ _ _ _ _ _ _
   | exact span_Right.mono _ _ _ _
   | exact span_Within.mono _ _ _ _ _ _ _
   | exact LeO.none _
   | refine LeO.ite ?_ ?_
   | refine LeO.bind ?_ (fun _ => ?_)
theorem k3_SM.mono : ∀ a0 a1 a2 a3 a4 a5 a6 k, LeO (k3_SM.f k a0 a1 a2 a3 a4 a5 a6) (k3_SM.f (k + 1) a0 a1 a2 a3 a4 a5 a6) := by
 intro a0 a1 a2 a3 a4 a5 a6 k
 obtain ⟨ih0, ih1, ih2, ih3⟩ := k3_SM.mono_l k
 unfold k3_SM.f
 repeat' first
   | (with_reducible exact ih0 _ _ _ _ _ _ _ _)
   | (with_reducible exact ih1 _ _ _ _ _ _ _ _ _ _ _ _)
   | (with_reducible exact ih2 _ _ _ _ _ _ _ _)
   | (with_reducible exact ih3 _ _ _ _ _)
   | (with_reducible exact k3_head.mono _)
   | (with_reducible exact span_Both.mono _ _ _ _ _ _ _)
   | (with_reducible exact span_Has.mono _ _ _ _ _)
   | (with_reducible exact span_Meets.mono _ _ _ _ _ _ _)
   | (with_reducible exact span_Right.mono _ _ _ _)
   | (with_reducible exact span_Within.mono _ _ _ _ _ _ _)
   | (with_reducible exact LeO.refl _)
   | (with_reducible exact LeO.none _)
   | (with_reducible refine LeO.ite ?_ ?_)
   | (with_reducible refine LeO.bind ?_ (fun _ => ?_))
   | exact ih0 _ _ _ _ _ _ _ _
   | exact ih1 _ _ _ _ _ _ _ _ _ _ _ _
   | exact ih2 _ _ _ _ _ _ _ _
   | exact ih3 _ _ _ _ _
   | exact k3_head.mono _
   | exact span_Both.mono _ _ _ _ _ _ _
   | exact span_Has.mono _ _ _ _ _
   | exact span_Meets.mono _ _ _ _ _ _ _
   | exact span_Right.mono _ _ _ _
   | exact span_Within.mono _ _ _ _ _ _ _
   | exact LeO.none _
   | refine LeO.ite ?_ ?_
   | refine LeO.bind ?_ (fun _ => ?_)
def k3_SM.T8 : Bool × List (List Nat × List Nat) := (true, [([], []), ([0], [0]), ([1], [1]), ([1], [1]), ([2, 3, 1, 1], [1, 2, 3]), ([1, 4], [1, 4]), ([], []), ([], []), ([6, 7, 4], [6, 7]), ([8, 8], [8]), ([9], [9]), ([9], [9]), ([10, 11, 9, 9], [9, 10, 11]), ([9, 12], [9, 12]), ([5, 13], [5, 13])])
def k3_SM.B8 : List Nat := [0, 1, 3, 3, 15, 31, 0, 0, 223, 479, 991, 991, 4063, 8159, 16383]
theorem k3_SM.tab8 : rtab .any (opsOf Try.f6 8) = k3_SM.T8 := by kernel_rfl
theorem k3_SM.bits8 : waitsOk k3_SM.T8.2 k3_SM.B8 = true := by kernel_rfl
def k3_SM.T15 : Bool × List (List Nat × List Nat) := (true, [([], []), ([0], [0]), ([1, 1], [1]), ([2], [2]), ([2], [2]), ([3, 4, 2, 2], [2, 3, 4]), ([2, 5], [2, 5]), ([6, 5], [6]), ([7], [7]), ([7], [7]), ([9, 7], [7, 9]), ([8, 10, 7, 7], [7, 8, 10]), ([11, 7], [7, 11]), ([7, 12], [7, 12]), ([13, 11], [13]), ([14], [14]), ([14], [14]), ([15, 16, 14, 14], [14, 15, 16]), ([14], [14]), ([14], [14]), ([18, 19, 17, 14], [14, 18, 19]), ([17, 20, 14], [14, 17, 20]), ([14, 21], [14, 21]), ([22, 20], [22]), ([23, 23], [23]), ([23, 24], [23, 24]), ([25, 24, 0, 1, 2, 3, 4, 5, 6, 7, 8, 9, 10, 11, 12, 13, 14, 15, 16, 17, 18, 19, 20, 21, 22, 23, 24, 25], [25])])
def k3_SM.B15 : List Nat := [0, 1, 3, 7, 7, 31, 63, 127, 255, 255, 767, 2047, 4095, 8191, 16383, 32767, 32767, 131071, 32767, 32767, 1048575, 2097151, 4194303, 8388607, 16777215, 33554431, 67108863]
theorem k3_SM.tab15 : rtab .any (opsOf Try.f6 15) = k3_SM.T15 := by kernel_rfl
theorem k3_SM.bits15 : waitsOk k3_SM.T15.2 k3_SM.B15 = true := by kernel_rfl
set_option maxHeartbeats 8000000 in
set_option maxRecDepth 100000 in
theorem k3_SM.calls (k : Nat) (a0_0 : ByteArray) (a0_1 : ByteArray) (a0_2 : Bool) (a1_0 : ByteArray) (a1_1 : ByteArray) (a1_2 : Bool) (a2 : ByteArray) (r : Bool) (w : World) (h : k3_SM.f k a0_0 a0_1 a0_2 a1_0 a1_1 a1_2 a2 = some r) :
  Calls Try.prog 6 #[.agg #[.string a0_0, .string a0_1, .bool a0_2], .agg #[.string a1_0, .string a1_1, .bool a1_2], .string a2] w fun e w' => e = .returned (.bool r) ∧ Below w.heap.size w w' := by
 have hu31 := Try.underlying31
 have HB := Aside0.mk (Below.refl w.heap.size w)
 have H : ((k3_great.f a0_0 a0_1 a0_2 a1_0 a1_1 a1_2 a2).bind fun t220 => (if t220 = true then ((k3_head.f k).bind fun t221 => (some t221)) else ((span_Right.f k a0_0 a0_1 a0_2).bind fun t222 => (if t222 = true then ((span_Right.f k a1_0 a1_1 a1_2).bind fun t223 => (k3_SM.j0 k a2 (!t223) a0_0 a0_1 a0_2 a1_0 a1_1 a1_2)) else (k3_SM.j0 k a2 true a0_0 a0_1 a0_2 a1_0 a1_1 a1_2))))) = some r := h
 clear h
 replace H := Option.bind_eq_some_iff.mp H
 obtain ⟨t220, A40, H⟩ := H
 replace H : (if t220 = true then ((k3_head.f k).bind fun t221 => (some t221)) else ((span_Right.f k a0_0 a0_1 a0_2).bind fun t222 => (if t222 = true then ((span_Right.f k a1_0 a1_1 a1_2).bind fun t223 => (k3_SM.j0 k a2 (!t223) a0_0 a0_1 a0_2 a1_0 a1_1 a1_2)) else (k3_SM.j0 k a2 true a0_0 a0_1 a0_2 a1_0 a1_1 a1_2)))) = some r := H
 have A4 := Aside0.mk A40
 clear A40
 by_cases c5 : t220 = true
 ·subst c5
  have H1 : ((k3_head.f k).bind fun t221 => (some t221)) = some r := by rw [if_pos rfl] at H; exact H
  clear H
  have H := H1
  clear H1
  replace H := Option.bind_eq_some_iff.mp H
  obtain ⟨t221, A60, H⟩ := H
  replace H : (some t221) = some r := H
  have A6 := Aside0.mk A60
  clear A60
  obtain rfl := Option.some.inj H
  go_enter Try.func6, Try.ntmps6
  go_wp2_with (first | ((with_reducible refine gate_dst (N := 3) rfl ?_); refine box_event ?hg (N := 3) ?hd (cs := #[.string a0_0, .string a0_1, .bool a0_2]) (t := 31) ?hr ?_; (case hd => rfl); (case hg => rfl); (case hr => first | (go_simp; done) | (go_simp; rfl)); intro gb218 hg w7 hbox hb; have n0_ := Aside0.mk (below_step (by repeat (first | (with_reducible first | exact HB.out | apply below_alloc | apply pw_below_drewN | apply below_drew1) | exact HB.out)) hb); have n1_ := Aside0.mk (hbox); have n2_ := Aside0.mk ((by rw [hg]; exact (below_size (by repeat (first | (with_reducible first | exact HB.out | apply below_alloc | apply pw_below_drewN | apply below_drew1) | exact HB.out))) : w.heap.size ≤ gb218)); have n3_ := Aside0.mk ((by rw [hg]; exact (below_size (by repeat (first | (with_reducible first | exact HB.out | apply below_alloc | apply pw_below_drewN | apply below_drew1) | exact HB.out))) : w.heap.size ≤ gb218)); clear HB; have HB := n0_; have BK218 := n1_; have GW218 := n2_; have GE218 := n3_; clear n0_ n1_ n2_ n3_; clear hb hbox hg) | ((with_reducible refine gate_dst (N := 4) rfl ?_); refine box_event ?hg (N := 4) ?hd (cs := #[.string a1_0, .string a1_1, .bool a1_2]) (t := 31) ?hr ?_; (case hd => rfl); (case hg => rfl); (case hr => first | (go_simp; done) | (go_simp; rfl)); intro gb219 hg w8 hbox hb; have n0_ := Aside0.mk (blk_below (g := gb218) (o := .cells #[.string a0_0, .string a0_1, .bool a0_2] 31 (0, 0)) (by (with_reducible repeat (first | refine blk_drewN ?_ _ | refine blk_drew ?_ | refine blk_alloc ?_ _)); exact BK218.out) hb); have n1_ := Aside0.mk (below_step (by repeat (first | (with_reducible first | exact HB.out | apply below_alloc | apply pw_below_drewN | apply below_drew1 | refine below_set ?_ GE218.out) | exact HB.out)) hb); have n2_ := Aside0.mk (hbox); have n3_ := Aside0.mk ((by rw [hg]; exact (below_size (by repeat (first | (with_reducible first | exact HB.out | apply below_alloc | apply pw_below_drewN | apply below_drew1 | refine below_set ?_ GE218.out) | exact HB.out))) : w.heap.size ≤ gb219)); have n4_ := Aside0.mk ((by rw [hg]; exact (below_size (by repeat (first | (with_reducible first | exact HB.out | apply below_alloc | apply pw_below_drewN | apply below_drew1 | refine below_set ?_ GE218.out) | exact HB.out))) : w.heap.size ≤ gb219)); have n5_ := Aside0.mk ((by rw [hg]; exact Nat.ne_of_lt (blk_lt (g := gb218) (o := .cells #[.string a0_0, .string a0_1, .bool a0_2] 31 (0, 0)) (by (with_reducible repeat (first | refine blk_drewN ?_ _ | refine blk_drew ?_ | refine blk_alloc ?_ _)); exact BK218.out)) : gb218 ≠ gb219)); have n6_ := Aside0.mk ((by rw [hg]; exact Nat.ne_of_gt (blk_lt (g := gb218) (o := .cells #[.string a0_0, .string a0_1, .bool a0_2] 31 (0, 0)) (by (with_reducible repeat (first | refine blk_drewN ?_ _ | refine blk_drew ?_ | refine blk_alloc ?_ _)); exact BK218.out)) : gb219 ≠ gb218)); clear BK218; clear HB; have BK218 := n0_; have HB := n1_; have BK219 := n2_; have GW219 := n3_; have GE219 := n4_; have NB218_219 := n5_; have NB219_218 := n6_; clear n0_ n1_ n2_ n3_ n4_ n5_ n6_; clear hb hbox hg; have hnb9 := NB218_219.out; have hnc9 := NB219_218.out; have hcz10_0 : w8.cell? ⟨gb218, 0, none⟩ = some (.string a0_0) := (blk_cell BK218.out 0).trans rfl; have hcz10_1 : w8.cell? ⟨gb218, 1, none⟩ = some (.string a0_1) := (blk_cell BK218.out 1).trans rfl; have hcz10_2 : w8.cell? ⟨gb218, 2, none⟩ = some (.bool a0_2) := (blk_cell BK218.out 2).trans rfl; have hfz10_0 := blk_frozen BK218.out 0; have hfz10_1 := blk_frozen BK218.out 1; have hfz10_2 := blk_frozen BK218.out 2; have hcz11_0 : w8.cell? ⟨gb219, 0, none⟩ = some (.string a1_0) := (blk_cell BK219.out 0).trans rfl; have hcz11_1 : w8.cell? ⟨gb219, 1, none⟩ = some (.string a1_1) := (blk_cell BK219.out 1).trans rfl; have hcz11_2 : w8.cell? ⟨gb219, 2, none⟩ = some (.bool a1_2) := (blk_cell BK219.out 2).trans rfl; have hfz11_0 := blk_frozen BK219.out 0; have hfz11_1 := blk_frozen BK219.out 1; have hfz11_2 := blk_frozen BK219.out 2) | ((with_reducible refine gate_callee (f := 14) rfl ?_); refine goesL_ (some 13) rfl rfl Try.func14 (by kernel_rfl) rfl #[.agg #[.string a0_0, .string a0_1, .bool a0_2], .agg #[.string a1_0, .string a1_1, .bool a1_2], .string a2] rfl (by (try simp only [List.map_toArray, List.map_cons, List.map_nil]); first | done | rfl | (simp only [List.length_drop, List.length_take]; rfl)) ?_; (with_reducible refine (k3_great.calls a0_0 a0_1 a0_2 a1_0 a1_1 a1_2 a2 true _ A4.out).mono ?_); rintro e w12 ⟨rfl, hb⟩; refine ⟨_, rfl, ?_⟩; have n0_ := Aside0.mk (blk_below (g := gb218) (o := .cells #[.string a0_0, .string a0_1, .bool a0_2] 31 (0, 0)) (by (with_reducible repeat (first | refine blk_drewN ?_ _ | refine blk_drew ?_ | refine blk_alloc ?_ _)); exact BK218.out) hb); have n1_ := Aside0.mk (blk_below (g := gb219) (o := .cells #[.string a1_0, .string a1_1, .bool a1_2] 31 (0, 0)) (by (with_reducible repeat (first | refine blk_drewN ?_ _ | refine blk_drew ?_ | refine blk_alloc ?_ _)); exact BK219.out) hb); have n2_ := Aside0.mk (below_step (by repeat (first | (with_reducible first | exact HB.out | apply below_alloc | apply pw_below_drewN | apply below_drew1 | refine below_set ?_ GE218.out | refine below_set ?_ GE219.out) | exact HB.out)) hb); clear BK218; clear BK219; clear HB; have BK218 := n0_; have BK219 := n1_; have HB := n2_; clear n0_ n1_ n2_; (try clear hb); (try clear hb2); (try clear hk); (try clear hi)) | ((with_reducible refine gate_callee (f := 8) rfl ?_); refine goesL_ (some 14) rfl rfl Try.func8 (by kernel_rfl) rfl #[] rfl (by (try simp only [List.map_toArray, List.map_cons, List.map_nil]); first | done | rfl | (simp only [List.length_drop, List.length_take]; rfl)) ?_; (with_reducible refine (k3_head.calls k  t221 _ A6.out).mono ?_); rintro e w13 ⟨rfl, hb⟩; refine ⟨_, rfl, ?_⟩; have n0_ := Aside0.mk (blk_below (g := gb218) (o := .cells #[.string a0_0, .string a0_1, .bool a0_2] 31 (0, 0)) (by (with_reducible repeat (first | refine blk_drewN ?_ _ | refine blk_drew ?_ | refine blk_alloc ?_ _)); exact BK218.out) hb); have n1_ := Aside0.mk (blk_below (g := gb219) (o := .cells #[.string a1_0, .string a1_1, .bool a1_2] 31 (0, 0)) (by (with_reducible repeat (first | refine blk_drewN ?_ _ | refine blk_drew ?_ | refine blk_alloc ?_ _)); exact BK219.out) hb); have n2_ := Aside0.mk (below_step (by repeat (first | (with_reducible first | exact HB.out | apply below_alloc | apply pw_below_drewN | apply below_drew1 | refine below_set ?_ GE218.out | refine below_set ?_ GE219.out) | exact HB.out)) hb); clear BK218; clear BK219; clear HB; have BK218 := n0_; have BK219 := n1_; have HB := n2_; clear n0_ n1_ n2_; (try clear hb); (try clear hb2); (try clear hk); (try clear hi)))
  go_ret
  exact ⟨by first | rfl | (simp [errW_none, errW_some] <;> rfl) | (simp [*, errW_none, errW_some] <;> rfl), by repeat (first | (with_reducible first | exact HB.out | apply below_alloc | apply pw_below_drewN | apply below_drew1 | refine below_set ?_ GE218.out | refine below_set ?_ GE219.out) | exact HB.out)⟩
 ·replace c5 := Bool.eq_false_iff.mpr c5
  subst c5
  have H1 : ((span_Right.f k a0_0 a0_1 a0_2).bind fun t222 => (if t222 = true then ((span_Right.f k a1_0 a1_1 a1_2).bind fun t223 => (k3_SM.j0 k a2 (!t223) a0_0 a0_1 a0_2 a1_0 a1_1 a1_2)) else (k3_SM.j0 k a2 true a0_0 a0_1 a0_2 a1_0 a1_1 a1_2))) = some r := by rw [if_neg (show ¬ (false = true) by decide)] at H; exact H
  clear H
  have H := H1
  clear H1
  have HC14 := Aside0.mk H
  clear H
  go_enter Try.func6, Try.ntmps6
  go_upto_region 3 with (first | ((with_reducible refine gate_dst (N := 3) rfl ?_); refine box_event ?hg (N := 3) ?hd (cs := #[.string a0_0, .string a0_1, .bool a0_2]) (t := 31) ?hr ?_; (case hd => rfl); (case hg => rfl); (case hr => first | (go_simp; done) | (go_simp; rfl)); intro gb218 hg w15 hbox hb; have n0_ := Aside0.mk (below_step (by repeat (first | (with_reducible first | exact HB.out | apply below_alloc | apply pw_below_drewN | apply below_drew1) | exact HB.out)) hb); have n1_ := Aside0.mk (hbox); have n2_ := Aside0.mk ((by rw [hg]; exact (below_size (by repeat (first | (with_reducible first | exact HB.out | apply below_alloc | apply pw_below_drewN | apply below_drew1) | exact HB.out))) : w.heap.size ≤ gb218)); have n3_ := Aside0.mk ((by rw [hg]; exact (below_size (by repeat (first | (with_reducible first | exact HB.out | apply below_alloc | apply pw_below_drewN | apply below_drew1) | exact HB.out))) : w.heap.size ≤ gb218)); clear HB; have HB := n0_; have BK218 := n1_; have GW218 := n2_; have GE218 := n3_; clear n0_ n1_ n2_ n3_; clear hb hbox hg) | ((with_reducible refine gate_dst (N := 4) rfl ?_); refine box_event ?hg (N := 4) ?hd (cs := #[.string a1_0, .string a1_1, .bool a1_2]) (t := 31) ?hr ?_; (case hd => rfl); (case hg => rfl); (case hr => first | (go_simp; done) | (go_simp; rfl)); intro gb219 hg w16 hbox hb; have n0_ := Aside0.mk (blk_below (g := gb218) (o := .cells #[.string a0_0, .string a0_1, .bool a0_2] 31 (0, 0)) (by (with_reducible repeat (first | refine blk_drewN ?_ _ | refine blk_drew ?_ | refine blk_alloc ?_ _)); exact BK218.out) hb); have n1_ := Aside0.mk (below_step (by repeat (first | (with_reducible first | exact HB.out | apply below_alloc | apply pw_below_drewN | apply below_drew1 | refine below_set ?_ GE218.out) | exact HB.out)) hb); have n2_ := Aside0.mk (hbox); have n3_ := Aside0.mk ((by rw [hg]; exact (below_size (by repeat (first | (with_reducible first | exact HB.out | apply below_alloc | apply pw_below_drewN | apply below_drew1 | refine below_set ?_ GE218.out) | exact HB.out))) : w.heap.size ≤ gb219)); have n4_ := Aside0.mk ((by rw [hg]; exact (below_size (by repeat (first | (with_reducible first | exact HB.out | apply below_alloc | apply pw_below_drewN | apply below_drew1 | refine below_set ?_ GE218.out) | exact HB.out))) : w.heap.size ≤ gb219)); have n5_ := Aside0.mk ((by rw [hg]; exact Nat.ne_of_lt (blk_lt (g := gb218) (o := .cells #[.string a0_0, .string a0_1, .bool a0_2] 31 (0, 0)) (by (with_reducible repeat (first | refine blk_drewN ?_ _ | refine blk_drew ?_ | refine blk_alloc ?_ _)); exact BK218.out)) : gb218 ≠ gb219)); have n6_ := Aside0.mk ((by rw [hg]; exact Nat.ne_of_gt (blk_lt (g := gb218) (o := .cells #[.string a0_0, .string a0_1, .bool a0_2] 31 (0, 0)) (by (with_reducible repeat (first | refine blk_drewN ?_ _ | refine blk_drew ?_ | refine blk_alloc ?_ _)); exact BK218.out)) : gb219 ≠ gb218)); clear BK218; clear HB; have BK218 := n0_; have HB := n1_; have BK219 := n2_; have GW219 := n3_; have GE219 := n4_; have NB218_219 := n5_; have NB219_218 := n6_; clear n0_ n1_ n2_ n3_ n4_ n5_ n6_; clear hb hbox hg; have hnb17 := NB218_219.out; have hnc17 := NB219_218.out; have hcz18_0 : w16.cell? ⟨gb218, 0, none⟩ = some (.string a0_0) := (blk_cell BK218.out 0).trans rfl; have hcz18_1 : w16.cell? ⟨gb218, 1, none⟩ = some (.string a0_1) := (blk_cell BK218.out 1).trans rfl; have hcz18_2 : w16.cell? ⟨gb218, 2, none⟩ = some (.bool a0_2) := (blk_cell BK218.out 2).trans rfl; have hfz18_0 := blk_frozen BK218.out 0; have hfz18_1 := blk_frozen BK218.out 1; have hfz18_2 := blk_frozen BK218.out 2; have hcz19_0 : w16.cell? ⟨gb219, 0, none⟩ = some (.string a1_0) := (blk_cell BK219.out 0).trans rfl; have hcz19_1 : w16.cell? ⟨gb219, 1, none⟩ = some (.string a1_1) := (blk_cell BK219.out 1).trans rfl; have hcz19_2 : w16.cell? ⟨gb219, 2, none⟩ = some (.bool a1_2) := (blk_cell BK219.out 2).trans rfl; have hfz19_0 := blk_frozen BK219.out 0; have hfz19_1 := blk_frozen BK219.out 1; have hfz19_2 := blk_frozen BK219.out 2) | ((with_reducible refine gate_callee (f := 14) rfl ?_); refine goesL_ (some 13) rfl rfl Try.func14 (by kernel_rfl) rfl #[.agg #[.string a0_0, .string a0_1, .bool a0_2], .agg #[.string a1_0, .string a1_1, .bool a1_2], .string a2] rfl (by (try simp only [List.map_toArray, List.map_cons, List.map_nil]); first | done | rfl | (simp only [List.length_drop, List.length_take]; rfl)) ?_; (with_reducible refine (k3_great.calls a0_0 a0_1 a0_2 a1_0 a1_1 a1_2 a2 false _ A4.out).mono ?_); rintro e w20 ⟨rfl, hb⟩; refine ⟨_, rfl, ?_⟩; have n0_ := Aside0.mk (blk_below (g := gb218) (o := .cells #[.string a0_0, .string a0_1, .bool a0_2] 31 (0, 0)) (by (with_reducible repeat (first | refine blk_drewN ?_ _ | refine blk_drew ?_ | refine blk_alloc ?_ _)); exact BK218.out) hb); have n1_ := Aside0.mk (blk_below (g := gb219) (o := .cells #[.string a1_0, .string a1_1, .bool a1_2] 31 (0, 0)) (by (with_reducible repeat (first | refine blk_drewN ?_ _ | refine blk_drew ?_ | refine blk_alloc ?_ _)); exact BK219.out) hb); have n2_ := Aside0.mk (below_step (by repeat (first | (with_reducible first | exact HB.out | apply below_alloc | apply pw_below_drewN | apply below_drew1 | refine below_set ?_ GE218.out | refine below_set ?_ GE219.out) | exact HB.out)) hb); clear BK218; clear BK219; clear HB; have BK218 := n0_; have BK219 := n1_; have HB := n2_; clear n0_ n1_ n2_; (try clear hb); (try clear hb2); (try clear hk); (try clear hi)))
  (try simp only [Act.put, List.setIfInBounds_toArray, List.set_cons_zero, List.set_cons_succ])
  go_cut [22] (fun v22 wc => ∃ (kq : Nat) (x22_13 : Bool), v22 = .bool x22_13 ∧ Aside0 (k3_SM.j0 kq a2 x22_13 a0_0 a0_1 a0_2 a1_0 a1_1 a1_2 = some r) ∧ Aside0 (kq ≤ k) ∧ Aside0 (wc.heap[gb218]? = some (.cells #[.string a0_0, .string a0_1, .bool a0_2] 31 (0, 0))) ∧ Aside0 (wc.heap[gb219]? = some (.cells #[.string a1_0, .string a1_1, .bool a1_2] 31 (0, 0))) ∧ Aside0 (Below w.heap.size w wc))
  case first =>
   have H := HC14.out
   clear HC14
   replace H := Option.bind_eq_some_iff.mp H
   obtain ⟨t222, A210, H⟩ := H
   replace H : (if t222 = true then ((span_Right.f k a1_0 a1_1 a1_2).bind fun t223 => (k3_SM.j0 k a2 (!t223) a0_0 a0_1 a0_2 a1_0 a1_1 a1_2)) else (k3_SM.j0 k a2 true a0_0 a0_1 a0_2 a1_0 a1_1 a1_2)) = some r := H
   have A21 := Aside0.mk A210
   clear A210
   by_cases c22 : t222 = true
   ·subst c22
    have H1 : ((span_Right.f k a1_0 a1_1 a1_2).bind fun t223 => (k3_SM.j0 k a2 (!t223) a0_0 a0_1 a0_2 a1_0 a1_1 a1_2)) = some r := by rw [if_pos rfl] at H; exact H
    clear H
    have H := H1
    clear H1
    replace H := Option.bind_eq_some_iff.mp H
    obtain ⟨t223, A230, H⟩ := H
    replace H : (k3_SM.j0 k a2 (!t223) a0_0 a0_1 a0_2 a1_0 a1_1 a1_2) = some r := H
    have A23 := Aside0.mk A230
    clear A230
    have H' := Aside0.mk H
    clear H
    have hnb24 := NB218_219.out
    have hnc24 := NB219_218.out
    have hcz25_0 : w20.cell? ⟨gb218, 0, none⟩ = some (.string a0_0) := (blk_cell BK218.out 0).trans rfl
    have hcz25_1 : w20.cell? ⟨gb218, 1, none⟩ = some (.string a0_1) := (blk_cell BK218.out 1).trans rfl
    have hcz25_2 : w20.cell? ⟨gb218, 2, none⟩ = some (.bool a0_2) := (blk_cell BK218.out 2).trans rfl
    have hfz25_0 := blk_frozen BK218.out 0
    have hfz25_1 := blk_frozen BK218.out 1
    have hfz25_2 := blk_frozen BK218.out 2
    go_wp2_with (first | ((with_reducible refine gate_callee (f := 17) rfl ?_); refine goesL_ (some 16) rfl rfl Try.func17 (by kernel_rfl) rfl #[.agg #[.string a0_0, .string a0_1, .bool a0_2]] rfl (by (try simp only [List.map_toArray, List.map_cons, List.map_nil]); first | done | rfl | (simp only [List.length_drop, List.length_take]; rfl)) ?_; (with_reducible refine (span_Right.calls k a0_0 a0_1 a0_2 true _ A21.out).mono ?_); rintro e w26 ⟨rfl, hb⟩; refine ⟨_, rfl, ?_⟩; have n0_ := Aside0.mk (blk_below (g := gb218) (o := .cells #[.string a0_0, .string a0_1, .bool a0_2] 31 (0, 0)) (by (with_reducible repeat (first | refine blk_drewN ?_ _ | refine blk_drew ?_ | refine blk_alloc ?_ _)); exact BK218.out) hb); have n1_ := Aside0.mk (blk_below (g := gb219) (o := .cells #[.string a1_0, .string a1_1, .bool a1_2] 31 (0, 0)) (by (with_reducible repeat (first | refine blk_drewN ?_ _ | refine blk_drew ?_ | refine blk_alloc ?_ _)); exact BK219.out) hb); have n2_ := Aside0.mk (below_step (by repeat (first | (with_reducible first | exact HB.out | apply below_alloc | apply pw_below_drewN | apply below_drew1 | refine below_set ?_ GE218.out | refine below_set ?_ GE219.out) | exact HB.out)) hb); clear BK218; clear BK219; clear HB; have BK218 := n0_; have BK219 := n1_; have HB := n2_; clear n0_ n1_ n2_; (try clear hb); (try clear hb2); (try clear hk); (try clear hi); have hcz27_0 : w26.cell? ⟨gb219, 0, none⟩ = some (.string a1_0) := (blk_cell BK219.out 0).trans rfl; have hcz27_1 : w26.cell? ⟨gb219, 1, none⟩ = some (.string a1_1) := (blk_cell BK219.out 1).trans rfl; have hcz27_2 : w26.cell? ⟨gb219, 2, none⟩ = some (.bool a1_2) := (blk_cell BK219.out 2).trans rfl; have hfz27_0 := blk_frozen BK219.out 0; have hfz27_1 := blk_frozen BK219.out 1; have hfz27_2 := blk_frozen BK219.out 2) | (go_at_call 17; (with_reducible refine (span_Right.calls k a1_0 a1_1 a1_2 t223 _ A23.out).mono ?_); rintro e w28 ⟨rfl, hb⟩; have n0_ := Aside0.mk (blk_below (g := gb218) (o := .cells #[.string a0_0, .string a0_1, .bool a0_2] 31 (0, 0)) (by (with_reducible repeat (first | refine blk_drewN ?_ _ | refine blk_drew ?_ | refine blk_alloc ?_ _)); exact BK218.out) hb); have n1_ := Aside0.mk (blk_below (g := gb219) (o := .cells #[.string a1_0, .string a1_1, .bool a1_2] 31 (0, 0)) (by (with_reducible repeat (first | refine blk_drewN ?_ _ | refine blk_drew ?_ | refine blk_alloc ?_ _)); exact BK219.out) hb); have n2_ := Aside0.mk (below_step (by repeat (first | (with_reducible first | exact HB.out | apply below_alloc | apply pw_below_drewN | apply below_drew1 | refine below_set ?_ GE218.out | refine below_set ?_ GE219.out) | exact HB.out)) hb); clear BK218; clear BK219; clear HB; have BK218 := n0_; have BK219 := n1_; have HB := n2_; clear n0_ n1_ n2_; (try clear hb); (try clear hb2); (try clear hk); (try clear hi)))
    go_meet
    case rel => exact ⟨_, (!t223), (by first | rfl | (simp; done) | (simp [*]; done)), H', ⟨by first | omega | exact Nat.le_refl _⟩, ⟨by (with_reducible repeat (first | refine blk_drewN ?_ _ | refine blk_drew ?_ | refine blk_alloc ?_ _)); exact BK218.out⟩, ⟨by (with_reducible repeat (first | refine blk_drewN ?_ _ | refine blk_drew ?_ | refine blk_alloc ?_ _)); exact BK219.out⟩, ⟨by repeat (first | (with_reducible first | exact HB.out | apply below_alloc | apply pw_below_drewN | apply below_drew1 | refine below_set ?_ GE218.out | refine below_set ?_ GE219.out) | exact HB.out)⟩⟩
   ·replace c22 := Bool.eq_false_iff.mpr c22
    subst c22
    have H1 : (k3_SM.j0 k a2 true a0_0 a0_1 a0_2 a1_0 a1_1 a1_2) = some r := by rw [if_neg (show ¬ (false = true) by decide)] at H; exact H
    clear H
    have H := H1
    clear H1
    have H' := Aside0.mk H
    clear H
    have hnb29 := NB218_219.out
    have hnc29 := NB219_218.out
    have hcz30_0 : w20.cell? ⟨gb218, 0, none⟩ = some (.string a0_0) := (blk_cell BK218.out 0).trans rfl
    have hcz30_1 : w20.cell? ⟨gb218, 1, none⟩ = some (.string a0_1) := (blk_cell BK218.out 1).trans rfl
    have hcz30_2 : w20.cell? ⟨gb218, 2, none⟩ = some (.bool a0_2) := (blk_cell BK218.out 2).trans rfl
    have hfz30_0 := blk_frozen BK218.out 0
    have hfz30_1 := blk_frozen BK218.out 1
    have hfz30_2 := blk_frozen BK218.out 2
    go_wp2_with (first | ((with_reducible refine gate_callee (f := 17) rfl ?_); refine goesL_ (some 16) rfl rfl Try.func17 (by kernel_rfl) rfl #[.agg #[.string a0_0, .string a0_1, .bool a0_2]] rfl (by (try simp only [List.map_toArray, List.map_cons, List.map_nil]); first | done | rfl | (simp only [List.length_drop, List.length_take]; rfl)) ?_; (with_reducible refine (span_Right.calls k a0_0 a0_1 a0_2 false _ A21.out).mono ?_); rintro e w31 ⟨rfl, hb⟩; refine ⟨_, rfl, ?_⟩; have n0_ := Aside0.mk (blk_below (g := gb218) (o := .cells #[.string a0_0, .string a0_1, .bool a0_2] 31 (0, 0)) (by (with_reducible repeat (first | refine blk_drewN ?_ _ | refine blk_drew ?_ | refine blk_alloc ?_ _)); exact BK218.out) hb); have n1_ := Aside0.mk (blk_below (g := gb219) (o := .cells #[.string a1_0, .string a1_1, .bool a1_2] 31 (0, 0)) (by (with_reducible repeat (first | refine blk_drewN ?_ _ | refine blk_drew ?_ | refine blk_alloc ?_ _)); exact BK219.out) hb); have n2_ := Aside0.mk (below_step (by repeat (first | (with_reducible first | exact HB.out | apply below_alloc | apply pw_below_drewN | apply below_drew1 | refine below_set ?_ GE218.out | refine below_set ?_ GE219.out) | exact HB.out)) hb); clear BK218; clear BK219; clear HB; have BK218 := n0_; have BK219 := n1_; have HB := n2_; clear n0_ n1_ n2_; (try clear hb); (try clear hb2); (try clear hk); (try clear hi)))
    go_meet
    case rel => exact ⟨_, (true), (by first | rfl | (simp; done) | (simp [*]; done)), H', ⟨by first | omega | exact Nat.le_refl _⟩, ⟨by (with_reducible repeat (first | refine blk_drewN ?_ _ | refine blk_drew ?_ | refine blk_alloc ?_ _)); exact BK218.out⟩, ⟨by (with_reducible repeat (first | refine blk_drewN ?_ _ | refine blk_drew ?_ | refine blk_alloc ?_ _)); exact BK219.out⟩, ⟨by repeat (first | (with_reducible first | exact HB.out | apply below_alloc | apply pw_below_drewN | apply below_drew1 | refine below_set ?_ GE218.out | refine below_set ?_ GE219.out) | exact HB.out)⟩⟩
  case rest =>
   clear HC14
   try clear c1
   try clear c2
   try clear p2
   try clear c5
   try clear c6
   try clear c8
   try clear c9
   try clear c14
   try clear c17
   try clear c22
   try clear c24
   try clear c29
   try clear hcz10_0
   try clear hcz10_1
   try clear hcz10_2
   try clear hcz11_0
   try clear hcz11_1
   try clear hcz11_2
   try clear hcz18_0
   try clear hcz18_1
   try clear hcz18_2
   try clear hcz19_0
   try clear hcz19_1
   try clear hcz19_2
   try clear hcz25_0
   try clear hcz25_1
   try clear hcz25_2
   try clear hcz27_0
   try clear hcz27_1
   try clear hcz27_2
   try clear hcz30_0
   try clear hcz30_1
   try clear hcz30_2
   try clear hfz10_0
   try clear hfz10_1
   try clear hfz10_2
   try clear hfz11_0
   try clear hfz11_1
   try clear hfz11_2
   try clear hfz18_0
   try clear hfz18_1
   try clear hfz18_2
   try clear hfz19_0
   try clear hfz19_1
   try clear hfz19_2
   try clear hfz25_0
   try clear hfz25_1
   try clear hfz25_2
   try clear hfz27_0
   try clear hfz27_1
   try clear hfz27_2
   try clear hfz30_0
   try clear hfz30_1
   try clear hfz30_2
   obtain ⟨kq, x22_13, rfl, HA, HJ13, BK218, BK219, HB⟩ := hcut
   cases kq with
   | zero => exact absurd HA.out (by simp [k3_SM.j0])
   | succ kj13 =>
    have H := HA.out
    clear HA
    simp only [k3_SM.j0] at H
    by_cases c32 : x22_13 = true
    ·subst c32
     have H1 : ((span_Meets.f kj13 a0_0 a0_1 a0_2 a1_0 a1_1 a1_2).bind fun t224 => (if t224 = true then (none) else ((span_Within.f kj13 a0_0 a0_1 a0_2 a1_0 a1_1 a1_2).bind fun t225 => (if t225 = true then (none) else ((k3_head.f kj13).bind fun t226 => (some t226)))))) = some r := by rw [if_pos rfl] at H; exact H
     clear H
     have H := H1
     clear H1
     replace H := Option.bind_eq_some_iff.mp H
     obtain ⟨t224, A330, H⟩ := H
     replace H : (if t224 = true then (none) else ((span_Within.f kj13 a0_0 a0_1 a0_2 a1_0 a1_1 a1_2).bind fun t225 => (if t225 = true then (none) else ((k3_head.f kj13).bind fun t226 => (some t226))))) = some r := H
     have A33 := Aside0.mk A330
     clear A330
     by_cases c34 : t224 = true
     ·subst c34
      have H1 : (none) = some r := by rw [if_pos rfl] at H; exact H
      clear H
      have H := H1
      clear H1
      exact absurd H (by simp)
     ·replace c34 := Bool.eq_false_iff.mpr c34
      subst c34
      have H1 : ((span_Within.f kj13 a0_0 a0_1 a0_2 a1_0 a1_1 a1_2).bind fun t225 => (if t225 = true then (none) else ((k3_head.f kj13).bind fun t226 => (some t226)))) = some r := by rw [if_neg (show ¬ (false = true) by decide)] at H; exact H
      clear H
      have H := H1
      clear H1
      replace H := Option.bind_eq_some_iff.mp H
      obtain ⟨t225, A350, H⟩ := H
      replace H : (if t225 = true then (none) else ((k3_head.f kj13).bind fun t226 => (some t226))) = some r := H
      have A35 := Aside0.mk A350
      clear A350
      by_cases c36 : t225 = true
      ·subst c36
       have H1 : (none) = some r := by rw [if_pos rfl] at H; exact H
       clear H
       have H := H1
       clear H1
       exact absurd H (by simp)
      ·replace c36 := Bool.eq_false_iff.mpr c36
       subst c36
       have H1 : ((k3_head.f kj13).bind fun t226 => (some t226)) = some r := by rw [if_neg (show ¬ (false = true) by decide)] at H; exact H
       clear H
       have H := H1
       clear H1
       replace H := Option.bind_eq_some_iff.mp H
       obtain ⟨t226, A370, H⟩ := H
       replace H : (some t226) = some r := H
       have A37 := Aside0.mk A370
       clear A370
       obtain rfl := Option.some.inj H
       have hnb38 := NB218_219.out
       have hnc38 := NB219_218.out
       have hcz39_0 : wc.cell? ⟨gb218, 0, none⟩ = some (.string a0_0) := (blk_cell BK218.out 0).trans rfl
       have hcz39_1 : wc.cell? ⟨gb218, 1, none⟩ = some (.string a0_1) := (blk_cell BK218.out 1).trans rfl
       have hcz39_2 : wc.cell? ⟨gb218, 2, none⟩ = some (.bool a0_2) := (blk_cell BK218.out 2).trans rfl
       have hfz39_0 := blk_frozen BK218.out 0
       have hfz39_1 := blk_frozen BK218.out 1
       have hfz39_2 := blk_frozen BK218.out 2
       have hcz40_0 : wc.cell? ⟨gb219, 0, none⟩ = some (.string a1_0) := (blk_cell BK219.out 0).trans rfl
       have hcz40_1 : wc.cell? ⟨gb219, 1, none⟩ = some (.string a1_1) := (blk_cell BK219.out 1).trans rfl
       have hcz40_2 : wc.cell? ⟨gb219, 2, none⟩ = some (.bool a1_2) := (blk_cell BK219.out 2).trans rfl
       have hfz40_0 := blk_frozen BK219.out 0
       have hfz40_1 := blk_frozen BK219.out 1
       have hfz40_2 := blk_frozen BK219.out 2
       go_wp2_with (first | ((with_reducible refine gate_callee (f := 11) rfl ?_); refine goesL_ (some 25) rfl rfl Try.func11 (by kernel_rfl) rfl #[.agg #[.string a0_0, .string a0_1, .bool a0_2], .agg #[.string a1_0, .string a1_1, .bool a1_2]] rfl (by (try simp only [List.map_toArray, List.map_cons, List.map_nil]); first | done | rfl | (simp only [List.length_drop, List.length_take]; rfl)) ?_; (with_reducible refine (span_Meets.calls kj13 a0_0 a0_1 a0_2 a1_0 a1_1 a1_2 false _ A33.out).mono ?_); rintro e w41 ⟨rfl, hb⟩; refine ⟨_, rfl, ?_⟩; have n0_ := Aside0.mk (blk_below (g := gb218) (o := .cells #[.string a0_0, .string a0_1, .bool a0_2] 31 (0, 0)) (by (with_reducible repeat (first | refine blk_drewN ?_ _ | refine blk_drew ?_ | refine blk_alloc ?_ _)); exact BK218.out) hb); have n1_ := Aside0.mk (blk_below (g := gb219) (o := .cells #[.string a1_0, .string a1_1, .bool a1_2] 31 (0, 0)) (by (with_reducible repeat (first | refine blk_drewN ?_ _ | refine blk_drew ?_ | refine blk_alloc ?_ _)); exact BK219.out) hb); have n2_ := Aside0.mk (below_step (by repeat (first | (with_reducible first | exact HB.out | apply below_alloc | apply pw_below_drewN | apply below_drew1 | refine below_set ?_ GE218.out | refine below_set ?_ GE219.out) | exact HB.out)) hb); clear BK218; clear BK219; clear HB; have BK218 := n0_; have BK219 := n1_; have HB := n2_; clear n0_ n1_ n2_; (try clear hb); (try clear hb2); (try clear hk); (try clear hi); have hcz42_0 : w41.cell? ⟨gb218, 0, none⟩ = some (.string a0_0) := (blk_cell BK218.out 0).trans rfl; have hcz42_1 : w41.cell? ⟨gb218, 1, none⟩ = some (.string a0_1) := (blk_cell BK218.out 1).trans rfl; have hcz42_2 : w41.cell? ⟨gb218, 2, none⟩ = some (.bool a0_2) := (blk_cell BK218.out 2).trans rfl; have hfz42_0 := blk_frozen BK218.out 0; have hfz42_1 := blk_frozen BK218.out 1; have hfz42_2 := blk_frozen BK218.out 2; have hcz43_0 : w41.cell? ⟨gb219, 0, none⟩ = some (.string a1_0) := (blk_cell BK219.out 0).trans rfl; have hcz43_1 : w41.cell? ⟨gb219, 1, none⟩ = some (.string a1_1) := (blk_cell BK219.out 1).trans rfl; have hcz43_2 : w41.cell? ⟨gb219, 2, none⟩ = some (.bool a1_2) := (blk_cell BK219.out 2).trans rfl; have hfz43_0 := blk_frozen BK219.out 0; have hfz43_1 := blk_frozen BK219.out 1; have hfz43_2 := blk_frozen BK219.out 2) | (go_at_call 20; (with_reducible refine (span_Within.calls kj13 a0_0 a0_1 a0_2 a1_0 a1_1 a1_2 false _ A35.out).mono ?_); rintro e w44 ⟨rfl, hb⟩; have n0_ := Aside0.mk (blk_below (g := gb218) (o := .cells #[.string a0_0, .string a0_1, .bool a0_2] 31 (0, 0)) (by (with_reducible repeat (first | refine blk_drewN ?_ _ | refine blk_drew ?_ | refine blk_alloc ?_ _)); exact BK218.out) hb); have n1_ := Aside0.mk (blk_below (g := gb219) (o := .cells #[.string a1_0, .string a1_1, .bool a1_2] 31 (0, 0)) (by (with_reducible repeat (first | refine blk_drewN ?_ _ | refine blk_drew ?_ | refine blk_alloc ?_ _)); exact BK219.out) hb); have n2_ := Aside0.mk (below_step (by repeat (first | (with_reducible first | exact HB.out | apply below_alloc | apply pw_below_drewN | apply below_drew1 | refine below_set ?_ GE218.out | refine below_set ?_ GE219.out) | exact HB.out)) hb); clear BK218; clear BK219; clear HB; have BK218 := n0_; have BK219 := n1_; have HB := n2_; clear n0_ n1_ n2_; (try clear hb); (try clear hb2); (try clear hk); (try clear hi)) | (go_at_call 8; (with_reducible refine (k3_head.calls kj13  t226 _ A37.out).mono ?_); rintro e w45 ⟨rfl, hb⟩; have n0_ := Aside0.mk (blk_below (g := gb218) (o := .cells #[.string a0_0, .string a0_1, .bool a0_2] 31 (0, 0)) (by (with_reducible repeat (first | refine blk_drewN ?_ _ | refine blk_drew ?_ | refine blk_alloc ?_ _)); exact BK218.out) hb); have n1_ := Aside0.mk (blk_below (g := gb219) (o := .cells #[.string a1_0, .string a1_1, .bool a1_2] 31 (0, 0)) (by (with_reducible repeat (first | refine blk_drewN ?_ _ | refine blk_drew ?_ | refine blk_alloc ?_ _)); exact BK219.out) hb); have n2_ := Aside0.mk (below_step (by repeat (first | (with_reducible first | exact HB.out | apply below_alloc | apply pw_below_drewN | apply below_drew1 | refine below_set ?_ GE218.out | refine below_set ?_ GE219.out) | exact HB.out)) hb); clear BK218; clear BK219; clear HB; have BK218 := n0_; have BK219 := n1_; have HB := n2_; clear n0_ n1_ n2_; (try clear hb); (try clear hb2); (try clear hk); (try clear hi)))
       go_ret
       exact ⟨by first | rfl | (simp [errW_none, errW_some] <;> rfl) | (simp [*, errW_none, errW_some] <;> rfl), by repeat (first | (with_reducible first | exact HB.out | apply below_alloc | apply pw_below_drewN | apply below_drew1 | refine below_set ?_ GE218.out | refine below_set ?_ GE219.out) | exact HB.out)⟩
    ·replace c32 := Bool.eq_false_iff.mpr c32
     subst c32
     have H1 : ((span_Both.f kj13 a0_0 a0_1 a0_2 a1_0 a1_1 a1_2).bind fun bt227 => ((span_Has.f kj13 a0_0 a0_1 a0_2 a1_0).bind fun t232 => (if t232 = true then (if bt227.2.2.2 = true then ((span_Meets.f kj13 a0_0 a0_1 a0_2 a1_0 a1_1 a1_2).bind fun t233 => (if (t233 != bt227.2.2.2) = true then (k3_SM.j1 kj13 a2 bt227.2.2.2 true a0_0 a0_1 a0_2 a1_0 a1_1 a1_2 bt227.1 bt227.2.1 bt227.2.2.1) else ((span_Meets.f kj13 a1_0 a1_1 a1_2 a0_0 a0_1 a0_2).bind fun t234 => (k3_SM.j1 kj13 a2 bt227.2.2.2 (t234 != bt227.2.2.2) a0_0 a0_1 a0_2 a1_0 a1_1 a1_2 bt227.1 bt227.2.1 bt227.2.2.1)))) else (k3_SM.j1 kj13 a2 bt227.2.2.2 true a0_0 a0_1 a0_2 a1_0 a1_1 a1_2 bt227.1 bt227.2.1 bt227.2.2.1)) else ((span_Has.f kj13 a1_0 a1_1 a1_2 a0_0).bind fun t235 => (if (bt227.2.2.2 != t235) = true then (k3_SM.j1 kj13 a2 bt227.2.2.2 true a0_0 a0_1 a0_2 a1_0 a1_1 a1_2 bt227.1 bt227.2.1 bt227.2.2.1) else ((span_Meets.f kj13 a0_0 a0_1 a0_2 a1_0 a1_1 a1_2).bind fun t236 => (if (t236 != bt227.2.2.2) = true then (k3_SM.j1 kj13 a2 bt227.2.2.2 true a0_0 a0_1 a0_2 a1_0 a1_1 a1_2 bt227.1 bt227.2.1 bt227.2.2.1) else ((span_Meets.f kj13 a1_0 a1_1 a1_2 a0_0 a0_1 a0_2).bind fun t237 => (k3_SM.j1 kj13 a2 bt227.2.2.2 (t237 != bt227.2.2.2) a0_0 a0_1 a0_2 a1_0 a1_1 a1_2 bt227.1 bt227.2.1 bt227.2.2.1))))))))) = some r := by rw [if_neg (show ¬ (false = true) by decide)] at H; exact H
     clear H
     have H := H1
     clear H1
     replace H := Option.bind_eq_some_iff.mp H
     obtain ⟨⟨t227, t228, t229, t230⟩, A460, H⟩ := H
     replace H : ((span_Has.f kj13 a0_0 a0_1 a0_2 a1_0).bind fun t232 => (if t232 = true then (if t230 = true then ((span_Meets.f kj13 a0_0 a0_1 a0_2 a1_0 a1_1 a1_2).bind fun t233 => (if (t233 != t230) = true then (k3_SM.j1 kj13 a2 t230 true a0_0 a0_1 a0_2 a1_0 a1_1 a1_2 t227 t228 t229) else ((span_Meets.f kj13 a1_0 a1_1 a1_2 a0_0 a0_1 a0_2).bind fun t234 => (k3_SM.j1 kj13 a2 t230 (t234 != t230) a0_0 a0_1 a0_2 a1_0 a1_1 a1_2 t227 t228 t229)))) else (k3_SM.j1 kj13 a2 t230 true a0_0 a0_1 a0_2 a1_0 a1_1 a1_2 t227 t228 t229)) else ((span_Has.f kj13 a1_0 a1_1 a1_2 a0_0).bind fun t235 => (if (t230 != t235) = true then (k3_SM.j1 kj13 a2 t230 true a0_0 a0_1 a0_2 a1_0 a1_1 a1_2 t227 t228 t229) else ((span_Meets.f kj13 a0_0 a0_1 a0_2 a1_0 a1_1 a1_2).bind fun t236 => (if (t236 != t230) = true then (k3_SM.j1 kj13 a2 t230 true a0_0 a0_1 a0_2 a1_0 a1_1 a1_2 t227 t228 t229) else ((span_Meets.f kj13 a1_0 a1_1 a1_2 a0_0 a0_1 a0_2).bind fun t237 => (k3_SM.j1 kj13 a2 t230 (t237 != t230) a0_0 a0_1 a0_2 a1_0 a1_1 a1_2 t227 t228 t229)))))))) = some r := H
     have A46 := Aside0.mk A460
     clear A460
     have HC47 := Aside0.mk H
     clear H
     have hnb48 := NB218_219.out
     have hnc48 := NB219_218.out
     have hcz49_0 : wc.cell? ⟨gb218, 0, none⟩ = some (.string a0_0) := (blk_cell BK218.out 0).trans rfl
     have hcz49_1 : wc.cell? ⟨gb218, 1, none⟩ = some (.string a0_1) := (blk_cell BK218.out 1).trans rfl
     have hcz49_2 : wc.cell? ⟨gb218, 2, none⟩ = some (.bool a0_2) := (blk_cell BK218.out 2).trans rfl
     have hfz49_0 := blk_frozen BK218.out 0
     have hfz49_1 := blk_frozen BK218.out 1
     have hfz49_2 := blk_frozen BK218.out 2
     have hcz50_0 : wc.cell? ⟨gb219, 0, none⟩ = some (.string a1_0) := (blk_cell BK219.out 0).trans rfl
     have hcz50_1 : wc.cell? ⟨gb219, 1, none⟩ = some (.string a1_1) := (blk_cell BK219.out 1).trans rfl
     have hcz50_2 : wc.cell? ⟨gb219, 2, none⟩ = some (.bool a1_2) := (blk_cell BK219.out 2).trans rfl
     have hfz50_0 := blk_frozen BK219.out 0
     have hfz50_1 := blk_frozen BK219.out 1
     have hfz50_2 := blk_frozen BK219.out 2
     go_upto_region 6 with (first | ((with_reducible refine gate_callee (f := 15) rfl ?_); refine goesL_ (some 39) rfl rfl Try.func15 (by kernel_rfl) rfl #[.agg #[.string a0_0, .string a0_1, .bool a0_2], .agg #[.string a1_0, .string a1_1, .bool a1_2]] rfl (by (try simp only [List.map_toArray, List.map_cons, List.map_nil]); first | done | rfl | (simp only [List.length_drop, List.length_take]; rfl)) ?_; (with_reducible refine (span_Both.calls kj13 a0_0 a0_1 a0_2 a1_0 a1_1 a1_2 t227 t228 t229 t230 _ A46.out).mono ?_); rintro e w51 ⟨rfl, hb⟩; refine ⟨_, rfl, ?_⟩; have n0_ := Aside0.mk (blk_below (g := gb218) (o := .cells #[.string a0_0, .string a0_1, .bool a0_2] 31 (0, 0)) (by (with_reducible repeat (first | refine blk_drewN ?_ _ | refine blk_drew ?_ | refine blk_alloc ?_ _)); exact BK218.out) hb); have n1_ := Aside0.mk (blk_below (g := gb219) (o := .cells #[.string a1_0, .string a1_1, .bool a1_2] 31 (0, 0)) (by (with_reducible repeat (first | refine blk_drewN ?_ _ | refine blk_drew ?_ | refine blk_alloc ?_ _)); exact BK219.out) hb); have n2_ := Aside0.mk (below_step (by repeat (first | (with_reducible first | exact HB.out | apply below_alloc | apply pw_below_drewN | apply below_drew1 | refine below_set ?_ GE218.out | refine below_set ?_ GE219.out) | exact HB.out)) hb); clear BK218; clear BK219; clear HB; have BK218 := n0_; have BK219 := n1_; have HB := n2_; clear n0_ n1_ n2_; (try clear hb); (try clear hb2); (try clear hk); (try clear hi)) | ((with_reducible refine gate_dst (N := 7) rfl ?_); refine box_event ?hg (N := 7) ?hd (cs := #[.string (⟨#[]⟩ : ByteArray), .string (⟨#[]⟩ : ByteArray), .bool false]) (t := 31) ?hr ?_; (case hd => rfl); (case hg => rfl); (case hr => first | (go_simp; done) | (go_simp; rfl)); intro gb231 hg w52 hbox hb; have n0_ := Aside0.mk (blk_below (g := gb218) (o := .cells #[.string a0_0, .string a0_1, .bool a0_2] 31 (0, 0)) (by (with_reducible repeat (first | refine blk_drewN ?_ _ | refine blk_drew ?_ | refine blk_alloc ?_ _)); exact BK218.out) hb); have n1_ := Aside0.mk (blk_below (g := gb219) (o := .cells #[.string a1_0, .string a1_1, .bool a1_2] 31 (0, 0)) (by (with_reducible repeat (first | refine blk_drewN ?_ _ | refine blk_drew ?_ | refine blk_alloc ?_ _)); exact BK219.out) hb); have n2_ := Aside0.mk (below_step (by repeat (first | (with_reducible first | exact HB.out | apply below_alloc | apply pw_below_drewN | apply below_drew1 | refine below_set ?_ GE218.out | refine below_set ?_ GE219.out) | exact HB.out)) hb); have n3_ := Aside0.mk (hbox); have n4_ := Aside0.mk ((by rw [hg]; exact (below_size (by repeat (first | (with_reducible first | exact HB.out | apply below_alloc | apply pw_below_drewN | apply below_drew1 | refine below_set ?_ GE218.out | refine below_set ?_ GE219.out) | exact HB.out))) : w.heap.size ≤ gb231)); have n5_ := Aside0.mk ((by rw [hg]; exact (below_size (by repeat (first | (with_reducible first | exact HB.out | apply below_alloc | apply pw_below_drewN | apply below_drew1 | refine below_set ?_ GE218.out | refine below_set ?_ GE219.out) | exact HB.out))) : w.heap.size ≤ gb231)); have n6_ := Aside0.mk ((by rw [hg]; exact Nat.ne_of_lt (blk_lt (g := gb218) (o := .cells #[.string a0_0, .string a0_1, .bool a0_2] 31 (0, 0)) (by (with_reducible repeat (first | refine blk_drewN ?_ _ | refine blk_drew ?_ | refine blk_alloc ?_ _)); exact BK218.out)) : gb218 ≠ gb231)); have n7_ := Aside0.mk ((by rw [hg]; exact Nat.ne_of_gt (blk_lt (g := gb218) (o := .cells #[.string a0_0, .string a0_1, .bool a0_2] 31 (0, 0)) (by (with_reducible repeat (first | refine blk_drewN ?_ _ | refine blk_drew ?_ | refine blk_alloc ?_ _)); exact BK218.out)) : gb231 ≠ gb218)); have n8_ := Aside0.mk ((by rw [hg]; exact Nat.ne_of_lt (blk_lt (g := gb219) (o := .cells #[.string a1_0, .string a1_1, .bool a1_2] 31 (0, 0)) (by (with_reducible repeat (first | refine blk_drewN ?_ _ | refine blk_drew ?_ | refine blk_alloc ?_ _)); exact BK219.out)) : gb219 ≠ gb231)); have n9_ := Aside0.mk ((by rw [hg]; exact Nat.ne_of_gt (blk_lt (g := gb219) (o := .cells #[.string a1_0, .string a1_1, .bool a1_2] 31 (0, 0)) (by (with_reducible repeat (first | refine blk_drewN ?_ _ | refine blk_drew ?_ | refine blk_alloc ?_ _)); exact BK219.out)) : gb231 ≠ gb219)); clear BK218; clear BK219; clear HB; have BK218 := n0_; have BK219 := n1_; have HB := n2_; have BK231 := n3_; have GW231 := n4_; have GE231 := n5_; have NB218_231 := n6_; have NB231_218 := n7_; have NB219_231 := n8_; have NB231_219 := n9_; clear n0_ n1_ n2_ n3_ n4_ n5_ n6_ n7_ n8_ n9_; clear hb hbox hg; have hnb53 := NB231_218.out; have hnc53 := NB218_231.out; have hnb54 := NB231_219.out; have hnc54 := NB219_231.out; have hcz55_0 : w52.cell? ⟨gb231, 0, none⟩ = some (.string (⟨#[]⟩ : ByteArray)) := (blk_cell BK231.out 0).trans rfl; have hcz55_1 : w52.cell? ⟨gb231, 1, none⟩ = some (.string (⟨#[]⟩ : ByteArray)) := (blk_cell BK231.out 1).trans rfl; have hcz55_2 : w52.cell? ⟨gb231, 2, none⟩ = some (.bool false) := (blk_cell BK231.out 2).trans rfl; have hfz55_0 := blk_frozen BK231.out 0; have hfz55_1 := blk_frozen BK231.out 1; have hfz55_2 := blk_frozen BK231.out 2))
     (try simp only [Act.put, List.setIfInBounds_toArray, List.set_cons_zero, List.set_cons_succ])
     go_cut [67] (fun v67 wc => ∃ (kq : Nat) (x67_46 : Bool), v67 = .bool x67_46 ∧ Aside0 (k3_SM.j1 kq a2 t230 x67_46 a0_0 a0_1 a0_2 a1_0 a1_1 a1_2 t227 t228 t229 = some r) ∧ Aside0 (kq ≤ kj13) ∧ Aside0 (wc.heap[gb218]? = some (.cells #[.string a0_0, .string a0_1, .bool a0_2] 31 (0, 0))) ∧ Aside0 (wc.heap[gb219]? = some (.cells #[.string a1_0, .string a1_1, .bool a1_2] 31 (0, 0))) ∧ Aside0 (wc.heap[gb231]? = some (.cells #[.string t227, .string t228, .bool t229] 31 (0, 0))) ∧ Aside0 (Below w.heap.size w wc))
     case first =>
      have H := HC47.out
      clear HC47
      replace H := Option.bind_eq_some_iff.mp H
      obtain ⟨t232, A560, H⟩ := H
      replace H : (if t232 = true then (if t230 = true then ((span_Meets.f kj13 a0_0 a0_1 a0_2 a1_0 a1_1 a1_2).bind fun t233 => (if (t233 != t230) = true then (k3_SM.j1 kj13 a2 t230 true a0_0 a0_1 a0_2 a1_0 a1_1 a1_2 t227 t228 t229) else ((span_Meets.f kj13 a1_0 a1_1 a1_2 a0_0 a0_1 a0_2).bind fun t234 => (k3_SM.j1 kj13 a2 t230 (t234 != t230) a0_0 a0_1 a0_2 a1_0 a1_1 a1_2 t227 t228 t229)))) else (k3_SM.j1 kj13 a2 t230 true a0_0 a0_1 a0_2 a1_0 a1_1 a1_2 t227 t228 t229)) else ((span_Has.f kj13 a1_0 a1_1 a1_2 a0_0).bind fun t235 => (if (t230 != t235) = true then (k3_SM.j1 kj13 a2 t230 true a0_0 a0_1 a0_2 a1_0 a1_1 a1_2 t227 t228 t229) else ((span_Meets.f kj13 a0_0 a0_1 a0_2 a1_0 a1_1 a1_2).bind fun t236 => (if (t236 != t230) = true then (k3_SM.j1 kj13 a2 t230 true a0_0 a0_1 a0_2 a1_0 a1_1 a1_2 t227 t228 t229) else ((span_Meets.f kj13 a1_0 a1_1 a1_2 a0_0 a0_1 a0_2).bind fun t237 => (k3_SM.j1 kj13 a2 t230 (t237 != t230) a0_0 a0_1 a0_2 a1_0 a1_1 a1_2 t227 t228 t229))))))) = some r := H
      have A56 := Aside0.mk A560
      clear A560
      by_cases c57 : t232 = true
      ·subst c57
       have H1 : (if t230 = true then ((span_Meets.f kj13 a0_0 a0_1 a0_2 a1_0 a1_1 a1_2).bind fun t233 => (if (t233 != t230) = true then (k3_SM.j1 kj13 a2 t230 true a0_0 a0_1 a0_2 a1_0 a1_1 a1_2 t227 t228 t229) else ((span_Meets.f kj13 a1_0 a1_1 a1_2 a0_0 a0_1 a0_2).bind fun t234 => (k3_SM.j1 kj13 a2 t230 (t234 != t230) a0_0 a0_1 a0_2 a1_0 a1_1 a1_2 t227 t228 t229)))) else (k3_SM.j1 kj13 a2 t230 true a0_0 a0_1 a0_2 a1_0 a1_1 a1_2 t227 t228 t229)) = some r := by rw [if_pos rfl] at H; exact H
       clear H
       have H := H1
       clear H1
       by_cases c58 : t230 = true
       ·subst c58
        have H1 : ((span_Meets.f kj13 a0_0 a0_1 a0_2 a1_0 a1_1 a1_2).bind fun t233 => (if (t233 != true) = true then (k3_SM.j1 kj13 a2 true true a0_0 a0_1 a0_2 a1_0 a1_1 a1_2 t227 t228 t229) else ((span_Meets.f kj13 a1_0 a1_1 a1_2 a0_0 a0_1 a0_2).bind fun t234 => (k3_SM.j1 kj13 a2 true (t234 != true) a0_0 a0_1 a0_2 a1_0 a1_1 a1_2 t227 t228 t229)))) = some r := by rw [if_pos rfl] at H; exact H
        clear H
        have H := H1
        clear H1
        replace H := Option.bind_eq_some_iff.mp H
        obtain ⟨t233, A590, H⟩ := H
        replace H : (if (t233 != true) = true then (k3_SM.j1 kj13 a2 true true a0_0 a0_1 a0_2 a1_0 a1_1 a1_2 t227 t228 t229) else ((span_Meets.f kj13 a1_0 a1_1 a1_2 a0_0 a0_1 a0_2).bind fun t234 => (k3_SM.j1 kj13 a2 true (t234 != true) a0_0 a0_1 a0_2 a1_0 a1_1 a1_2 t227 t228 t229))) = some r := H
        have A59 := Aside0.mk A590
        clear A590
        by_cases c60 : (t233 != true) = true
        ·rw [if_pos c60] at H
         have c60b0 : (t233 != true) = true := c60
         (try (have c60b1 : decide (t233 = true) = false := by simpa using c60))
         (try (have c60b2 : (t233 == true) = false := by simpa using c60))
         (try (have c60b3 : ¬ (t233 = true) := by simpa using c60))
         clear c60
         (first | rw [c60b0] | (simp only [i64_w, i32_w]; rw [c60b0]) | skip)
         have H' := Aside0.mk H
         clear H
         have hnb61 := NB218_219.out
         have hnc61 := NB219_218.out
         have hnb62 := NB218_231.out
         have hnc62 := NB231_218.out
         have hcz63_0 : w52.cell? ⟨gb218, 0, none⟩ = some (.string a0_0) := (blk_cell BK218.out 0).trans rfl
         have hcz63_1 : w52.cell? ⟨gb218, 1, none⟩ = some (.string a0_1) := (blk_cell BK218.out 1).trans rfl
         have hcz63_2 : w52.cell? ⟨gb218, 2, none⟩ = some (.bool a0_2) := (blk_cell BK218.out 2).trans rfl
         have hfz63_0 := blk_frozen BK218.out 0
         have hfz63_1 := blk_frozen BK218.out 1
         have hfz63_2 := blk_frozen BK218.out 2
         have hnb64 := NB219_231.out
         have hnc64 := NB231_219.out
         have hcz65_0 : w52.cell? ⟨gb219, 0, none⟩ = some (.string a1_0) := (blk_cell BK219.out 0).trans rfl
         have hcz65_1 : w52.cell? ⟨gb219, 1, none⟩ = some (.string a1_1) := (blk_cell BK219.out 1).trans rfl
         have hcz65_2 : w52.cell? ⟨gb219, 2, none⟩ = some (.bool a1_2) := (blk_cell BK219.out 2).trans rfl
         have hfz65_0 := blk_frozen BK219.out 0
         have hfz65_1 := blk_frozen BK219.out 1
         have hfz65_2 := blk_frozen BK219.out 2
         go_wp2_with (first | ((with_reducible refine gate_callee (f := 13) rfl ?_); refine goesL_ (some 46) rfl rfl Try.func13 (by kernel_rfl) rfl #[.agg #[.string a0_0, .string a0_1, .bool a0_2], .string a1_0] rfl (by (try simp only [List.map_toArray, List.map_cons, List.map_nil]); first | done | rfl | (simp only [List.length_drop, List.length_take]; rfl)) ?_; (with_reducible refine (span_Has.calls kj13 a0_0 a0_1 a0_2 a1_0 true _ A56.out).mono ?_); rintro e w66 ⟨rfl, hb⟩; refine ⟨_, rfl, ?_⟩; have n0_ := Aside0.mk (blk_below (g := gb218) (o := .cells #[.string a0_0, .string a0_1, .bool a0_2] 31 (0, 0)) (by (with_reducible repeat (first | refine blk_drewN ?_ _ | refine blk_drew ?_ | refine blk_alloc ?_ _)); refine blk_far ?_ NB218_231.out _; (with_reducible repeat (first | refine blk_drewN ?_ _ | refine blk_drew ?_ | refine blk_alloc ?_ _)); refine blk_far ?_ NB218_231.out _; (with_reducible repeat (first | refine blk_drewN ?_ _ | refine blk_drew ?_ | refine blk_alloc ?_ _)); refine blk_far ?_ NB218_231.out _; (with_reducible repeat (first | refine blk_drewN ?_ _ | refine blk_drew ?_ | refine blk_alloc ?_ _)); exact BK218.out) hb); have n1_ := Aside0.mk (blk_below (g := gb219) (o := .cells #[.string a1_0, .string a1_1, .bool a1_2] 31 (0, 0)) (by (with_reducible repeat (first | refine blk_drewN ?_ _ | refine blk_drew ?_ | refine blk_alloc ?_ _)); refine blk_far ?_ NB219_231.out _; (with_reducible repeat (first | refine blk_drewN ?_ _ | refine blk_drew ?_ | refine blk_alloc ?_ _)); refine blk_far ?_ NB219_231.out _; (with_reducible repeat (first | refine blk_drewN ?_ _ | refine blk_drew ?_ | refine blk_alloc ?_ _)); refine blk_far ?_ NB219_231.out _; (with_reducible repeat (first | refine blk_drewN ?_ _ | refine blk_drew ?_ | refine blk_alloc ?_ _)); exact BK219.out) hb); have n2_ := Aside0.mk (blk_below (g := gb231) (o := .cells #[.string t227, .string t228, .bool t229] 31 (0, 0)) (by (with_reducible repeat (first | refine blk_drewN ?_ _ | refine blk_drew ?_ | refine blk_alloc ?_ _)); refine blk_put (cs := #[.string t227, .string t228, .bool false]) ?_ 2 _ rfl; (with_reducible repeat (first | refine blk_drewN ?_ _ | refine blk_drew ?_ | refine blk_alloc ?_ _)); refine blk_put (cs := #[.string t227, .string (⟨#[]⟩ : ByteArray), .bool false]) ?_ 1 _ rfl; (with_reducible repeat (first | refine blk_drewN ?_ _ | refine blk_drew ?_ | refine blk_alloc ?_ _)); refine blk_put (cs := #[.string (⟨#[]⟩ : ByteArray), .string (⟨#[]⟩ : ByteArray), .bool false]) ?_ 0 _ rfl; (with_reducible repeat (first | refine blk_drewN ?_ _ | refine blk_drew ?_ | refine blk_alloc ?_ _)); exact BK231.out) hb); have n3_ := Aside0.mk (below_step (by repeat (first | (with_reducible first | exact HB.out | apply below_alloc | apply pw_below_drewN | apply below_drew1 | refine below_set ?_ GE218.out | refine below_set ?_ GE219.out | refine below_set ?_ GE231.out) | exact HB.out)) hb); clear BK218; clear BK219; clear BK231; clear HB; have BK218 := n0_; have BK219 := n1_; have BK231 := n2_; have HB := n3_; clear n0_ n1_ n2_ n3_; (try clear hb); (try clear hb2); (try clear hk); (try clear hi); have hcz67_0 : w66.cell? ⟨gb218, 0, none⟩ = some (.string a0_0) := (blk_cell BK218.out 0).trans rfl; have hcz67_1 : w66.cell? ⟨gb218, 1, none⟩ = some (.string a0_1) := (blk_cell BK218.out 1).trans rfl; have hcz67_2 : w66.cell? ⟨gb218, 2, none⟩ = some (.bool a0_2) := (blk_cell BK218.out 2).trans rfl; have hfz67_0 := blk_frozen BK218.out 0; have hfz67_1 := blk_frozen BK218.out 1; have hfz67_2 := blk_frozen BK218.out 2; have hcz68_0 : w66.cell? ⟨gb219, 0, none⟩ = some (.string a1_0) := (blk_cell BK219.out 0).trans rfl; have hcz68_1 : w66.cell? ⟨gb219, 1, none⟩ = some (.string a1_1) := (blk_cell BK219.out 1).trans rfl; have hcz68_2 : w66.cell? ⟨gb219, 2, none⟩ = some (.bool a1_2) := (blk_cell BK219.out 2).trans rfl; have hfz68_0 := blk_frozen BK219.out 0; have hfz68_1 := blk_frozen BK219.out 1; have hfz68_2 := blk_frozen BK219.out 2) | (go_at_call 11; (with_reducible refine (span_Meets.calls kj13 a0_0 a0_1 a0_2 a1_0 a1_1 a1_2 t233 _ A59.out).mono ?_); rintro e w69 ⟨rfl, hb⟩; have n0_ := Aside0.mk (blk_below (g := gb218) (o := .cells #[.string a0_0, .string a0_1, .bool a0_2] 31 (0, 0)) (by (with_reducible repeat (first | refine blk_drewN ?_ _ | refine blk_drew ?_ | refine blk_alloc ?_ _)); exact BK218.out) hb); have n1_ := Aside0.mk (blk_below (g := gb219) (o := .cells #[.string a1_0, .string a1_1, .bool a1_2] 31 (0, 0)) (by (with_reducible repeat (first | refine blk_drewN ?_ _ | refine blk_drew ?_ | refine blk_alloc ?_ _)); exact BK219.out) hb); have n2_ := Aside0.mk (blk_below (g := gb231) (o := .cells #[.string t227, .string t228, .bool t229] 31 (0, 0)) (by (with_reducible repeat (first | refine blk_drewN ?_ _ | refine blk_drew ?_ | refine blk_alloc ?_ _)); exact BK231.out) hb); have n3_ := Aside0.mk (below_step (by repeat (first | (with_reducible first | exact HB.out | apply below_alloc | apply pw_below_drewN | apply below_drew1 | refine below_set ?_ GE218.out | refine below_set ?_ GE219.out | refine below_set ?_ GE231.out) | exact HB.out)) hb); clear BK218; clear BK219; clear BK231; clear HB; have BK218 := n0_; have BK219 := n1_; have BK231 := n2_; have HB := n3_; clear n0_ n1_ n2_ n3_; (try clear hb); (try clear hb2); (try clear hk); (try clear hi)))
         go_meet
         case rel => exact ⟨_, (true), (by first | rfl | (simp; done) | (simp [*]; done)), H', ⟨by have := HJ13.out; first | omega | exact Nat.le_refl _⟩, ⟨by (with_reducible repeat (first | refine blk_drewN ?_ _ | refine blk_drew ?_ | refine blk_alloc ?_ _)); exact BK218.out⟩, ⟨by (with_reducible repeat (first | refine blk_drewN ?_ _ | refine blk_drew ?_ | refine blk_alloc ?_ _)); exact BK219.out⟩, ⟨by (with_reducible repeat (first | refine blk_drewN ?_ _ | refine blk_drew ?_ | refine blk_alloc ?_ _)); exact BK231.out⟩, ⟨by repeat (first | (with_reducible first | exact HB.out | apply below_alloc | apply pw_below_drewN | apply below_drew1 | refine below_set ?_ GE218.out | refine below_set ?_ GE219.out | refine below_set ?_ GE231.out) | exact HB.out)⟩⟩
        ·rw [if_neg c60] at H
         have c60b0 : (t233 != true) = false := by simpa using c60
         (try (have c60b1 : decide (t233 = true) = true := by simpa using c60))
         (try (have c60b2 : (t233 == true) = true := by simpa using c60))
         clear c60
         (first | rw [c60b0] | (simp only [i64_w, i32_w]; rw [c60b0]) | skip)
         replace H := Option.bind_eq_some_iff.mp H
         obtain ⟨t234, A700, H⟩ := H
         replace H : (k3_SM.j1 kj13 a2 true (t234 != true) a0_0 a0_1 a0_2 a1_0 a1_1 a1_2 t227 t228 t229) = some r := H
         have A70 := Aside0.mk A700
         clear A700
         have H' := Aside0.mk H
         clear H
         have hnb71 := NB218_219.out
         have hnc71 := NB219_218.out
         have hnb72 := NB218_231.out
         have hnc72 := NB231_218.out
         have hcz73_0 : w52.cell? ⟨gb218, 0, none⟩ = some (.string a0_0) := (blk_cell BK218.out 0).trans rfl
         have hcz73_1 : w52.cell? ⟨gb218, 1, none⟩ = some (.string a0_1) := (blk_cell BK218.out 1).trans rfl
         have hcz73_2 : w52.cell? ⟨gb218, 2, none⟩ = some (.bool a0_2) := (blk_cell BK218.out 2).trans rfl
         have hfz73_0 := blk_frozen BK218.out 0
         have hfz73_1 := blk_frozen BK218.out 1
         have hfz73_2 := blk_frozen BK218.out 2
         have hnb74 := NB219_231.out
         have hnc74 := NB231_219.out
         have hcz75_0 : w52.cell? ⟨gb219, 0, none⟩ = some (.string a1_0) := (blk_cell BK219.out 0).trans rfl
         have hcz75_1 : w52.cell? ⟨gb219, 1, none⟩ = some (.string a1_1) := (blk_cell BK219.out 1).trans rfl
         have hcz75_2 : w52.cell? ⟨gb219, 2, none⟩ = some (.bool a1_2) := (blk_cell BK219.out 2).trans rfl
         have hfz75_0 := blk_frozen BK219.out 0
         have hfz75_1 := blk_frozen BK219.out 1
         have hfz75_2 := blk_frozen BK219.out 2
         go_wp2_with (first | ((with_reducible refine gate_callee (f := 13) rfl ?_); refine goesL_ (some 46) rfl rfl Try.func13 (by kernel_rfl) rfl #[.agg #[.string a0_0, .string a0_1, .bool a0_2], .string a1_0] rfl (by (try simp only [List.map_toArray, List.map_cons, List.map_nil]); first | done | rfl | (simp only [List.length_drop, List.length_take]; rfl)) ?_; (with_reducible refine (span_Has.calls kj13 a0_0 a0_1 a0_2 a1_0 true _ A56.out).mono ?_); rintro e w76 ⟨rfl, hb⟩; refine ⟨_, rfl, ?_⟩; have n0_ := Aside0.mk (blk_below (g := gb218) (o := .cells #[.string a0_0, .string a0_1, .bool a0_2] 31 (0, 0)) (by (with_reducible repeat (first | refine blk_drewN ?_ _ | refine blk_drew ?_ | refine blk_alloc ?_ _)); refine blk_far ?_ NB218_231.out _; (with_reducible repeat (first | refine blk_drewN ?_ _ | refine blk_drew ?_ | refine blk_alloc ?_ _)); refine blk_far ?_ NB218_231.out _; (with_reducible repeat (first | refine blk_drewN ?_ _ | refine blk_drew ?_ | refine blk_alloc ?_ _)); refine blk_far ?_ NB218_231.out _; (with_reducible repeat (first | refine blk_drewN ?_ _ | refine blk_drew ?_ | refine blk_alloc ?_ _)); exact BK218.out) hb); have n1_ := Aside0.mk (blk_below (g := gb219) (o := .cells #[.string a1_0, .string a1_1, .bool a1_2] 31 (0, 0)) (by (with_reducible repeat (first | refine blk_drewN ?_ _ | refine blk_drew ?_ | refine blk_alloc ?_ _)); refine blk_far ?_ NB219_231.out _; (with_reducible repeat (first | refine blk_drewN ?_ _ | refine blk_drew ?_ | refine blk_alloc ?_ _)); refine blk_far ?_ NB219_231.out _; (with_reducible repeat (first | refine blk_drewN ?_ _ | refine blk_drew ?_ | refine blk_alloc ?_ _)); refine blk_far ?_ NB219_231.out _; (with_reducible repeat (first | refine blk_drewN ?_ _ | refine blk_drew ?_ | refine blk_alloc ?_ _)); exact BK219.out) hb); have n2_ := Aside0.mk (blk_below (g := gb231) (o := .cells #[.string t227, .string t228, .bool t229] 31 (0, 0)) (by (with_reducible repeat (first | refine blk_drewN ?_ _ | refine blk_drew ?_ | refine blk_alloc ?_ _)); refine blk_put (cs := #[.string t227, .string t228, .bool false]) ?_ 2 _ rfl; (with_reducible repeat (first | refine blk_drewN ?_ _ | refine blk_drew ?_ | refine blk_alloc ?_ _)); refine blk_put (cs := #[.string t227, .string (⟨#[]⟩ : ByteArray), .bool false]) ?_ 1 _ rfl; (with_reducible repeat (first | refine blk_drewN ?_ _ | refine blk_drew ?_ | refine blk_alloc ?_ _)); refine blk_put (cs := #[.string (⟨#[]⟩ : ByteArray), .string (⟨#[]⟩ : ByteArray), .bool false]) ?_ 0 _ rfl; (with_reducible repeat (first | refine blk_drewN ?_ _ | refine blk_drew ?_ | refine blk_alloc ?_ _)); exact BK231.out) hb); have n3_ := Aside0.mk (below_step (by repeat (first | (with_reducible first | exact HB.out | apply below_alloc | apply pw_below_drewN | apply below_drew1 | refine below_set ?_ GE218.out | refine below_set ?_ GE219.out | refine below_set ?_ GE231.out) | exact HB.out)) hb); clear BK218; clear BK219; clear BK231; clear HB; have BK218 := n0_; have BK219 := n1_; have BK231 := n2_; have HB := n3_; clear n0_ n1_ n2_ n3_; (try clear hb); (try clear hb2); (try clear hk); (try clear hi); have hcz77_0 : w76.cell? ⟨gb218, 0, none⟩ = some (.string a0_0) := (blk_cell BK218.out 0).trans rfl; have hcz77_1 : w76.cell? ⟨gb218, 1, none⟩ = some (.string a0_1) := (blk_cell BK218.out 1).trans rfl; have hcz77_2 : w76.cell? ⟨gb218, 2, none⟩ = some (.bool a0_2) := (blk_cell BK218.out 2).trans rfl; have hfz77_0 := blk_frozen BK218.out 0; have hfz77_1 := blk_frozen BK218.out 1; have hfz77_2 := blk_frozen BK218.out 2; have hcz78_0 : w76.cell? ⟨gb219, 0, none⟩ = some (.string a1_0) := (blk_cell BK219.out 0).trans rfl; have hcz78_1 : w76.cell? ⟨gb219, 1, none⟩ = some (.string a1_1) := (blk_cell BK219.out 1).trans rfl; have hcz78_2 : w76.cell? ⟨gb219, 2, none⟩ = some (.bool a1_2) := (blk_cell BK219.out 2).trans rfl; have hfz78_0 := blk_frozen BK219.out 0; have hfz78_1 := blk_frozen BK219.out 1; have hfz78_2 := blk_frozen BK219.out 2) | (go_at_call 11; (with_reducible refine (span_Meets.calls kj13 a0_0 a0_1 a0_2 a1_0 a1_1 a1_2 t233 _ A59.out).mono ?_); rintro e w79 ⟨rfl, hb⟩; have n0_ := Aside0.mk (blk_below (g := gb218) (o := .cells #[.string a0_0, .string a0_1, .bool a0_2] 31 (0, 0)) (by (with_reducible repeat (first | refine blk_drewN ?_ _ | refine blk_drew ?_ | refine blk_alloc ?_ _)); exact BK218.out) hb); have n1_ := Aside0.mk (blk_below (g := gb219) (o := .cells #[.string a1_0, .string a1_1, .bool a1_2] 31 (0, 0)) (by (with_reducible repeat (first | refine blk_drewN ?_ _ | refine blk_drew ?_ | refine blk_alloc ?_ _)); exact BK219.out) hb); have n2_ := Aside0.mk (blk_below (g := gb231) (o := .cells #[.string t227, .string t228, .bool t229] 31 (0, 0)) (by (with_reducible repeat (first | refine blk_drewN ?_ _ | refine blk_drew ?_ | refine blk_alloc ?_ _)); exact BK231.out) hb); have n3_ := Aside0.mk (below_step (by repeat (first | (with_reducible first | exact HB.out | apply below_alloc | apply pw_below_drewN | apply below_drew1 | refine below_set ?_ GE218.out | refine below_set ?_ GE219.out | refine below_set ?_ GE231.out) | exact HB.out)) hb); clear BK218; clear BK219; clear BK231; clear HB; have BK218 := n0_; have BK219 := n1_; have BK231 := n2_; have HB := n3_; clear n0_ n1_ n2_ n3_; (try clear hb); (try clear hb2); (try clear hk); (try clear hi); have hcz80_0 : w79.cell? ⟨gb219, 0, none⟩ = some (.string a1_0) := (blk_cell BK219.out 0).trans rfl; have hcz80_1 : w79.cell? ⟨gb219, 1, none⟩ = some (.string a1_1) := (blk_cell BK219.out 1).trans rfl; have hcz80_2 : w79.cell? ⟨gb219, 2, none⟩ = some (.bool a1_2) := (blk_cell BK219.out 2).trans rfl; have hfz80_0 := blk_frozen BK219.out 0; have hfz80_1 := blk_frozen BK219.out 1; have hfz80_2 := blk_frozen BK219.out 2; have hcz81_0 : w79.cell? ⟨gb218, 0, none⟩ = some (.string a0_0) := (blk_cell BK218.out 0).trans rfl; have hcz81_1 : w79.cell? ⟨gb218, 1, none⟩ = some (.string a0_1) := (blk_cell BK218.out 1).trans rfl; have hcz81_2 : w79.cell? ⟨gb218, 2, none⟩ = some (.bool a0_2) := (blk_cell BK218.out 2).trans rfl; have hfz81_0 := blk_frozen BK218.out 0; have hfz81_1 := blk_frozen BK218.out 1; have hfz81_2 := blk_frozen BK218.out 2) | (go_at_call 11; (with_reducible refine (span_Meets.calls kj13 a1_0 a1_1 a1_2 a0_0 a0_1 a0_2 t234 _ A70.out).mono ?_); rintro e w82 ⟨rfl, hb⟩; have n0_ := Aside0.mk (blk_below (g := gb218) (o := .cells #[.string a0_0, .string a0_1, .bool a0_2] 31 (0, 0)) (by (with_reducible repeat (first | refine blk_drewN ?_ _ | refine blk_drew ?_ | refine blk_alloc ?_ _)); exact BK218.out) hb); have n1_ := Aside0.mk (blk_below (g := gb219) (o := .cells #[.string a1_0, .string a1_1, .bool a1_2] 31 (0, 0)) (by (with_reducible repeat (first | refine blk_drewN ?_ _ | refine blk_drew ?_ | refine blk_alloc ?_ _)); exact BK219.out) hb); have n2_ := Aside0.mk (blk_below (g := gb231) (o := .cells #[.string t227, .string t228, .bool t229] 31 (0, 0)) (by (with_reducible repeat (first | refine blk_drewN ?_ _ | refine blk_drew ?_ | refine blk_alloc ?_ _)); exact BK231.out) hb); have n3_ := Aside0.mk (below_step (by repeat (first | (with_reducible first | exact HB.out | apply below_alloc | apply pw_below_drewN | apply below_drew1 | refine below_set ?_ GE218.out | refine below_set ?_ GE219.out | refine below_set ?_ GE231.out) | exact HB.out)) hb); clear BK218; clear BK219; clear BK231; clear HB; have BK218 := n0_; have BK219 := n1_; have BK231 := n2_; have HB := n3_; clear n0_ n1_ n2_ n3_; (try clear hb); (try clear hb2); (try clear hk); (try clear hi)))
         go_meet
         case rel => exact ⟨_, ((t234 != true)), (by first | rfl | (simp; done) | (simp [*]; done)), H', ⟨by have := HJ13.out; first | omega | exact Nat.le_refl _⟩, ⟨by (with_reducible repeat (first | refine blk_drewN ?_ _ | refine blk_drew ?_ | refine blk_alloc ?_ _)); exact BK218.out⟩, ⟨by (with_reducible repeat (first | refine blk_drewN ?_ _ | refine blk_drew ?_ | refine blk_alloc ?_ _)); exact BK219.out⟩, ⟨by (with_reducible repeat (first | refine blk_drewN ?_ _ | refine blk_drew ?_ | refine blk_alloc ?_ _)); exact BK231.out⟩, ⟨by repeat (first | (with_reducible first | exact HB.out | apply below_alloc | apply pw_below_drewN | apply below_drew1 | refine below_set ?_ GE218.out | refine below_set ?_ GE219.out | refine below_set ?_ GE231.out) | exact HB.out)⟩⟩
       ·replace c58 := Bool.eq_false_iff.mpr c58
        subst c58
        have H1 : (k3_SM.j1 kj13 a2 false true a0_0 a0_1 a0_2 a1_0 a1_1 a1_2 t227 t228 t229) = some r := by rw [if_neg (show ¬ (false = true) by decide)] at H; exact H
        clear H
        have H := H1
        clear H1
        have H' := Aside0.mk H
        clear H
        have hnb83 := NB218_219.out
        have hnc83 := NB219_218.out
        have hnb84 := NB218_231.out
        have hnc84 := NB231_218.out
        have hcz85_0 : w52.cell? ⟨gb218, 0, none⟩ = some (.string a0_0) := (blk_cell BK218.out 0).trans rfl
        have hcz85_1 : w52.cell? ⟨gb218, 1, none⟩ = some (.string a0_1) := (blk_cell BK218.out 1).trans rfl
        have hcz85_2 : w52.cell? ⟨gb218, 2, none⟩ = some (.bool a0_2) := (blk_cell BK218.out 2).trans rfl
        have hfz85_0 := blk_frozen BK218.out 0
        have hfz85_1 := blk_frozen BK218.out 1
        have hfz85_2 := blk_frozen BK218.out 2
        have hnb86 := NB219_231.out
        have hnc86 := NB231_219.out
        have hcz87_0 : w52.cell? ⟨gb219, 0, none⟩ = some (.string a1_0) := (blk_cell BK219.out 0).trans rfl
        have hcz87_1 : w52.cell? ⟨gb219, 1, none⟩ = some (.string a1_1) := (blk_cell BK219.out 1).trans rfl
        have hcz87_2 : w52.cell? ⟨gb219, 2, none⟩ = some (.bool a1_2) := (blk_cell BK219.out 2).trans rfl
        have hfz87_0 := blk_frozen BK219.out 0
        have hfz87_1 := blk_frozen BK219.out 1
        have hfz87_2 := blk_frozen BK219.out 2
        go_wp2_with (first | ((with_reducible refine gate_callee (f := 13) rfl ?_); refine goesL_ (some 46) rfl rfl Try.func13 (by kernel_rfl) rfl #[.agg #[.string a0_0, .string a0_1, .bool a0_2], .string a1_0] rfl (by (try simp only [List.map_toArray, List.map_cons, List.map_nil]); first | done | rfl | (simp only [List.length_drop, List.length_take]; rfl)) ?_; (with_reducible refine (span_Has.calls kj13 a0_0 a0_1 a0_2 a1_0 true _ A56.out).mono ?_); rintro e w88 ⟨rfl, hb⟩; refine ⟨_, rfl, ?_⟩; have n0_ := Aside0.mk (blk_below (g := gb218) (o := .cells #[.string a0_0, .string a0_1, .bool a0_2] 31 (0, 0)) (by (with_reducible repeat (first | refine blk_drewN ?_ _ | refine blk_drew ?_ | refine blk_alloc ?_ _)); refine blk_far ?_ NB218_231.out _; (with_reducible repeat (first | refine blk_drewN ?_ _ | refine blk_drew ?_ | refine blk_alloc ?_ _)); refine blk_far ?_ NB218_231.out _; (with_reducible repeat (first | refine blk_drewN ?_ _ | refine blk_drew ?_ | refine blk_alloc ?_ _)); refine blk_far ?_ NB218_231.out _; (with_reducible repeat (first | refine blk_drewN ?_ _ | refine blk_drew ?_ | refine blk_alloc ?_ _)); exact BK218.out) hb); have n1_ := Aside0.mk (blk_below (g := gb219) (o := .cells #[.string a1_0, .string a1_1, .bool a1_2] 31 (0, 0)) (by (with_reducible repeat (first | refine blk_drewN ?_ _ | refine blk_drew ?_ | refine blk_alloc ?_ _)); refine blk_far ?_ NB219_231.out _; (with_reducible repeat (first | refine blk_drewN ?_ _ | refine blk_drew ?_ | refine blk_alloc ?_ _)); refine blk_far ?_ NB219_231.out _; (with_reducible repeat (first | refine blk_drewN ?_ _ | refine blk_drew ?_ | refine blk_alloc ?_ _)); refine blk_far ?_ NB219_231.out _; (with_reducible repeat (first | refine blk_drewN ?_ _ | refine blk_drew ?_ | refine blk_alloc ?_ _)); exact BK219.out) hb); have n2_ := Aside0.mk (blk_below (g := gb231) (o := .cells #[.string t227, .string t228, .bool t229] 31 (0, 0)) (by (with_reducible repeat (first | refine blk_drewN ?_ _ | refine blk_drew ?_ | refine blk_alloc ?_ _)); refine blk_put (cs := #[.string t227, .string t228, .bool false]) ?_ 2 _ rfl; (with_reducible repeat (first | refine blk_drewN ?_ _ | refine blk_drew ?_ | refine blk_alloc ?_ _)); refine blk_put (cs := #[.string t227, .string (⟨#[]⟩ : ByteArray), .bool false]) ?_ 1 _ rfl; (with_reducible repeat (first | refine blk_drewN ?_ _ | refine blk_drew ?_ | refine blk_alloc ?_ _)); refine blk_put (cs := #[.string (⟨#[]⟩ : ByteArray), .string (⟨#[]⟩ : ByteArray), .bool false]) ?_ 0 _ rfl; (with_reducible repeat (first | refine blk_drewN ?_ _ | refine blk_drew ?_ | refine blk_alloc ?_ _)); exact BK231.out) hb); have n3_ := Aside0.mk (below_step (by repeat (first | (with_reducible first | exact HB.out | apply below_alloc | apply pw_below_drewN | apply below_drew1 | refine below_set ?_ GE218.out | refine below_set ?_ GE219.out | refine below_set ?_ GE231.out) | exact HB.out)) hb); clear BK218; clear BK219; clear BK231; clear HB; have BK218 := n0_; have BK219 := n1_; have BK231 := n2_; have HB := n3_; clear n0_ n1_ n2_ n3_; (try clear hb); (try clear hb2); (try clear hk); (try clear hi)))
        go_meet
        case rel => exact ⟨_, (true), (by first | rfl | (simp; done) | (simp [*]; done)), H', ⟨by have := HJ13.out; first | omega | exact Nat.le_refl _⟩, ⟨by (with_reducible repeat (first | refine blk_drewN ?_ _ | refine blk_drew ?_ | refine blk_alloc ?_ _)); exact BK218.out⟩, ⟨by (with_reducible repeat (first | refine blk_drewN ?_ _ | refine blk_drew ?_ | refine blk_alloc ?_ _)); exact BK219.out⟩, ⟨by (with_reducible repeat (first | refine blk_drewN ?_ _ | refine blk_drew ?_ | refine blk_alloc ?_ _)); exact BK231.out⟩, ⟨by repeat (first | (with_reducible first | exact HB.out | apply below_alloc | apply pw_below_drewN | apply below_drew1 | refine below_set ?_ GE218.out | refine below_set ?_ GE219.out | refine below_set ?_ GE231.out) | exact HB.out)⟩⟩
      ·replace c57 := Bool.eq_false_iff.mpr c57
       subst c57
       have H1 : ((span_Has.f kj13 a1_0 a1_1 a1_2 a0_0).bind fun t235 => (if (t230 != t235) = true then (k3_SM.j1 kj13 a2 t230 true a0_0 a0_1 a0_2 a1_0 a1_1 a1_2 t227 t228 t229) else ((span_Meets.f kj13 a0_0 a0_1 a0_2 a1_0 a1_1 a1_2).bind fun t236 => (if (t236 != t230) = true then (k3_SM.j1 kj13 a2 t230 true a0_0 a0_1 a0_2 a1_0 a1_1 a1_2 t227 t228 t229) else ((span_Meets.f kj13 a1_0 a1_1 a1_2 a0_0 a0_1 a0_2).bind fun t237 => (k3_SM.j1 kj13 a2 t230 (t237 != t230) a0_0 a0_1 a0_2 a1_0 a1_1 a1_2 t227 t228 t229)))))) = some r := by rw [if_neg (show ¬ (false = true) by decide)] at H; exact H
       clear H
       have H := H1
       clear H1
       replace H := Option.bind_eq_some_iff.mp H
       obtain ⟨t235, A890, H⟩ := H
       replace H : (if (t230 != t235) = true then (k3_SM.j1 kj13 a2 t230 true a0_0 a0_1 a0_2 a1_0 a1_1 a1_2 t227 t228 t229) else ((span_Meets.f kj13 a0_0 a0_1 a0_2 a1_0 a1_1 a1_2).bind fun t236 => (if (t236 != t230) = true then (k3_SM.j1 kj13 a2 t230 true a0_0 a0_1 a0_2 a1_0 a1_1 a1_2 t227 t228 t229) else ((span_Meets.f kj13 a1_0 a1_1 a1_2 a0_0 a0_1 a0_2).bind fun t237 => (k3_SM.j1 kj13 a2 t230 (t237 != t230) a0_0 a0_1 a0_2 a1_0 a1_1 a1_2 t227 t228 t229))))) = some r := H
       have A89 := Aside0.mk A890
       clear A890
       by_cases c90 : (t230 != t235) = true
       ·rw [if_pos c90] at H
        have c90b0 : (t230 != t235) = true := c90
        (try (have c90b1 : decide (t230 = t235) = false := by simpa using c90))
        (try (have c90b2 : (t230 == t235) = false := by simpa using c90))
        (try (have c90b3 : ¬ (t230 = t235) := by simpa using c90))
        clear c90
        have H' := Aside0.mk H
        clear H
        have hnb91 := NB218_219.out
        have hnc91 := NB219_218.out
        have hnb92 := NB218_231.out
        have hnc92 := NB231_218.out
        have hcz93_0 : w52.cell? ⟨gb218, 0, none⟩ = some (.string a0_0) := (blk_cell BK218.out 0).trans rfl
        have hcz93_1 : w52.cell? ⟨gb218, 1, none⟩ = some (.string a0_1) := (blk_cell BK218.out 1).trans rfl
        have hcz93_2 : w52.cell? ⟨gb218, 2, none⟩ = some (.bool a0_2) := (blk_cell BK218.out 2).trans rfl
        have hfz93_0 := blk_frozen BK218.out 0
        have hfz93_1 := blk_frozen BK218.out 1
        have hfz93_2 := blk_frozen BK218.out 2
        have hnb94 := NB219_231.out
        have hnc94 := NB231_219.out
        have hcz95_0 : w52.cell? ⟨gb219, 0, none⟩ = some (.string a1_0) := (blk_cell BK219.out 0).trans rfl
        have hcz95_1 : w52.cell? ⟨gb219, 1, none⟩ = some (.string a1_1) := (blk_cell BK219.out 1).trans rfl
        have hcz95_2 : w52.cell? ⟨gb219, 2, none⟩ = some (.bool a1_2) := (blk_cell BK219.out 2).trans rfl
        have hfz95_0 := blk_frozen BK219.out 0
        have hfz95_1 := blk_frozen BK219.out 1
        have hfz95_2 := blk_frozen BK219.out 2
        go_wp2_with (first | ((with_reducible refine gate_callee (f := 13) rfl ?_); refine goesL_ (some 46) rfl rfl Try.func13 (by kernel_rfl) rfl #[.agg #[.string a0_0, .string a0_1, .bool a0_2], .string a1_0] rfl (by (try simp only [List.map_toArray, List.map_cons, List.map_nil]); first | done | rfl | (simp only [List.length_drop, List.length_take]; rfl)) ?_; (with_reducible refine (span_Has.calls kj13 a0_0 a0_1 a0_2 a1_0 false _ A56.out).mono ?_); rintro e w96 ⟨rfl, hb⟩; refine ⟨_, rfl, ?_⟩; have n0_ := Aside0.mk (blk_below (g := gb218) (o := .cells #[.string a0_0, .string a0_1, .bool a0_2] 31 (0, 0)) (by (with_reducible repeat (first | refine blk_drewN ?_ _ | refine blk_drew ?_ | refine blk_alloc ?_ _)); refine blk_far ?_ NB218_231.out _; (with_reducible repeat (first | refine blk_drewN ?_ _ | refine blk_drew ?_ | refine blk_alloc ?_ _)); refine blk_far ?_ NB218_231.out _; (with_reducible repeat (first | refine blk_drewN ?_ _ | refine blk_drew ?_ | refine blk_alloc ?_ _)); refine blk_far ?_ NB218_231.out _; (with_reducible repeat (first | refine blk_drewN ?_ _ | refine blk_drew ?_ | refine blk_alloc ?_ _)); exact BK218.out) hb); have n1_ := Aside0.mk (blk_below (g := gb219) (o := .cells #[.string a1_0, .string a1_1, .bool a1_2] 31 (0, 0)) (by (with_reducible repeat (first | refine blk_drewN ?_ _ | refine blk_drew ?_ | refine blk_alloc ?_ _)); refine blk_far ?_ NB219_231.out _; (with_reducible repeat (first | refine blk_drewN ?_ _ | refine blk_drew ?_ | refine blk_alloc ?_ _)); refine blk_far ?_ NB219_231.out _; (with_reducible repeat (first | refine blk_drewN ?_ _ | refine blk_drew ?_ | refine blk_alloc ?_ _)); refine blk_far ?_ NB219_231.out _; (with_reducible repeat (first | refine blk_drewN ?_ _ | refine blk_drew ?_ | refine blk_alloc ?_ _)); exact BK219.out) hb); have n2_ := Aside0.mk (blk_below (g := gb231) (o := .cells #[.string t227, .string t228, .bool t229] 31 (0, 0)) (by (with_reducible repeat (first | refine blk_drewN ?_ _ | refine blk_drew ?_ | refine blk_alloc ?_ _)); refine blk_put (cs := #[.string t227, .string t228, .bool false]) ?_ 2 _ rfl; (with_reducible repeat (first | refine blk_drewN ?_ _ | refine blk_drew ?_ | refine blk_alloc ?_ _)); refine blk_put (cs := #[.string t227, .string (⟨#[]⟩ : ByteArray), .bool false]) ?_ 1 _ rfl; (with_reducible repeat (first | refine blk_drewN ?_ _ | refine blk_drew ?_ | refine blk_alloc ?_ _)); refine blk_put (cs := #[.string (⟨#[]⟩ : ByteArray), .string (⟨#[]⟩ : ByteArray), .bool false]) ?_ 0 _ rfl; (with_reducible repeat (first | refine blk_drewN ?_ _ | refine blk_drew ?_ | refine blk_alloc ?_ _)); exact BK231.out) hb); have n3_ := Aside0.mk (below_step (by repeat (first | (with_reducible first | exact HB.out | apply below_alloc | apply pw_below_drewN | apply below_drew1 | refine below_set ?_ GE218.out | refine below_set ?_ GE219.out | refine below_set ?_ GE231.out) | exact HB.out)) hb); clear BK218; clear BK219; clear BK231; clear HB; have BK218 := n0_; have BK219 := n1_; have BK231 := n2_; have HB := n3_; clear n0_ n1_ n2_ n3_; (try clear hb); (try clear hb2); (try clear hk); (try clear hi); have hcz97_0 : w96.cell? ⟨gb219, 0, none⟩ = some (.string a1_0) := (blk_cell BK219.out 0).trans rfl; have hcz97_1 : w96.cell? ⟨gb219, 1, none⟩ = some (.string a1_1) := (blk_cell BK219.out 1).trans rfl; have hcz97_2 : w96.cell? ⟨gb219, 2, none⟩ = some (.bool a1_2) := (blk_cell BK219.out 2).trans rfl; have hfz97_0 := blk_frozen BK219.out 0; have hfz97_1 := blk_frozen BK219.out 1; have hfz97_2 := blk_frozen BK219.out 2; have hcz98_0 : w96.cell? ⟨gb218, 0, none⟩ = some (.string a0_0) := (blk_cell BK218.out 0).trans rfl; have hcz98_1 : w96.cell? ⟨gb218, 1, none⟩ = some (.string a0_1) := (blk_cell BK218.out 1).trans rfl; have hcz98_2 : w96.cell? ⟨gb218, 2, none⟩ = some (.bool a0_2) := (blk_cell BK218.out 2).trans rfl; have hfz98_0 := blk_frozen BK218.out 0; have hfz98_1 := blk_frozen BK218.out 1; have hfz98_2 := blk_frozen BK218.out 2) | (go_at_call 13; (with_reducible refine (span_Has.calls kj13 a1_0 a1_1 a1_2 a0_0 t235 _ A89.out).mono ?_); rintro e w99 ⟨rfl, hb⟩; have n0_ := Aside0.mk (blk_below (g := gb218) (o := .cells #[.string a0_0, .string a0_1, .bool a0_2] 31 (0, 0)) (by (with_reducible repeat (first | refine blk_drewN ?_ _ | refine blk_drew ?_ | refine blk_alloc ?_ _)); exact BK218.out) hb); have n1_ := Aside0.mk (blk_below (g := gb219) (o := .cells #[.string a1_0, .string a1_1, .bool a1_2] 31 (0, 0)) (by (with_reducible repeat (first | refine blk_drewN ?_ _ | refine blk_drew ?_ | refine blk_alloc ?_ _)); exact BK219.out) hb); have n2_ := Aside0.mk (blk_below (g := gb231) (o := .cells #[.string t227, .string t228, .bool t229] 31 (0, 0)) (by (with_reducible repeat (first | refine blk_drewN ?_ _ | refine blk_drew ?_ | refine blk_alloc ?_ _)); exact BK231.out) hb); have n3_ := Aside0.mk (below_step (by repeat (first | (with_reducible first | exact HB.out | apply below_alloc | apply pw_below_drewN | apply below_drew1 | refine below_set ?_ GE218.out | refine below_set ?_ GE219.out | refine below_set ?_ GE231.out) | exact HB.out)) hb); clear BK218; clear BK219; clear BK231; clear HB; have BK218 := n0_; have BK219 := n1_; have BK231 := n2_; have HB := n3_; clear n0_ n1_ n2_ n3_; (try clear hb); (try clear hb2); (try clear hk); (try clear hi)))
        go_meet
        case rel => exact ⟨_, (true), (by first | rfl | (simp; done) | (simp [*]; done)), H', ⟨by have := HJ13.out; first | omega | exact Nat.le_refl _⟩, ⟨by (with_reducible repeat (first | refine blk_drewN ?_ _ | refine blk_drew ?_ | refine blk_alloc ?_ _)); exact BK218.out⟩, ⟨by (with_reducible repeat (first | refine blk_drewN ?_ _ | refine blk_drew ?_ | refine blk_alloc ?_ _)); exact BK219.out⟩, ⟨by (with_reducible repeat (first | refine blk_drewN ?_ _ | refine blk_drew ?_ | refine blk_alloc ?_ _)); exact BK231.out⟩, ⟨by repeat (first | (with_reducible first | exact HB.out | apply below_alloc | apply pw_below_drewN | apply below_drew1 | refine below_set ?_ GE218.out | refine below_set ?_ GE219.out | refine below_set ?_ GE231.out) | exact HB.out)⟩⟩
       ·rw [if_neg c90] at H
        have c90b0 : (t230 != t235) = false := by simpa using c90
        (try (have c90b1 : decide (t230 = t235) = true := by simpa using c90))
        (try (have c90b2 : (t230 == t235) = true := by simpa using c90))
        clear c90
        replace H := Option.bind_eq_some_iff.mp H
        obtain ⟨t236, A1000, H⟩ := H
        replace H : (if (t236 != t230) = true then (k3_SM.j1 kj13 a2 t230 true a0_0 a0_1 a0_2 a1_0 a1_1 a1_2 t227 t228 t229) else ((span_Meets.f kj13 a1_0 a1_1 a1_2 a0_0 a0_1 a0_2).bind fun t237 => (k3_SM.j1 kj13 a2 t230 (t237 != t230) a0_0 a0_1 a0_2 a1_0 a1_1 a1_2 t227 t228 t229))) = some r := H
        have A100 := Aside0.mk A1000
        clear A1000
        by_cases c101 : (t236 != t230) = true
        ·rw [if_pos c101] at H
         have c101b0 : (t236 != t230) = true := c101
         (try (have c101b1 : decide (t236 = t230) = false := by simpa using c101))
         (try (have c101b2 : (t236 == t230) = false := by simpa using c101))
         (try (have c101b3 : ¬ (t236 = t230) := by simpa using c101))
         clear c101
         have H' := Aside0.mk H
         clear H
         have hnb102 := NB218_219.out
         have hnc102 := NB219_218.out
         have hnb103 := NB218_231.out
         have hnc103 := NB231_218.out
         have hcz104_0 : w52.cell? ⟨gb218, 0, none⟩ = some (.string a0_0) := (blk_cell BK218.out 0).trans rfl
         have hcz104_1 : w52.cell? ⟨gb218, 1, none⟩ = some (.string a0_1) := (blk_cell BK218.out 1).trans rfl
         have hcz104_2 : w52.cell? ⟨gb218, 2, none⟩ = some (.bool a0_2) := (blk_cell BK218.out 2).trans rfl
         have hfz104_0 := blk_frozen BK218.out 0
         have hfz104_1 := blk_frozen BK218.out 1
         have hfz104_2 := blk_frozen BK218.out 2
         have hnb105 := NB219_231.out
         have hnc105 := NB231_219.out
         have hcz106_0 : w52.cell? ⟨gb219, 0, none⟩ = some (.string a1_0) := (blk_cell BK219.out 0).trans rfl
         have hcz106_1 : w52.cell? ⟨gb219, 1, none⟩ = some (.string a1_1) := (blk_cell BK219.out 1).trans rfl
         have hcz106_2 : w52.cell? ⟨gb219, 2, none⟩ = some (.bool a1_2) := (blk_cell BK219.out 2).trans rfl
         have hfz106_0 := blk_frozen BK219.out 0
         have hfz106_1 := blk_frozen BK219.out 1
         have hfz106_2 := blk_frozen BK219.out 2
         go_wp2_with (first | ((with_reducible refine gate_callee (f := 13) rfl ?_); refine goesL_ (some 46) rfl rfl Try.func13 (by kernel_rfl) rfl #[.agg #[.string a0_0, .string a0_1, .bool a0_2], .string a1_0] rfl (by (try simp only [List.map_toArray, List.map_cons, List.map_nil]); first | done | rfl | (simp only [List.length_drop, List.length_take]; rfl)) ?_; (with_reducible refine (span_Has.calls kj13 a0_0 a0_1 a0_2 a1_0 false _ A56.out).mono ?_); rintro e w107 ⟨rfl, hb⟩; refine ⟨_, rfl, ?_⟩; have n0_ := Aside0.mk (blk_below (g := gb218) (o := .cells #[.string a0_0, .string a0_1, .bool a0_2] 31 (0, 0)) (by (with_reducible repeat (first | refine blk_drewN ?_ _ | refine blk_drew ?_ | refine blk_alloc ?_ _)); refine blk_far ?_ NB218_231.out _; (with_reducible repeat (first | refine blk_drewN ?_ _ | refine blk_drew ?_ | refine blk_alloc ?_ _)); refine blk_far ?_ NB218_231.out _; (with_reducible repeat (first | refine blk_drewN ?_ _ | refine blk_drew ?_ | refine blk_alloc ?_ _)); refine blk_far ?_ NB218_231.out _; (with_reducible repeat (first | refine blk_drewN ?_ _ | refine blk_drew ?_ | refine blk_alloc ?_ _)); exact BK218.out) hb); have n1_ := Aside0.mk (blk_below (g := gb219) (o := .cells #[.string a1_0, .string a1_1, .bool a1_2] 31 (0, 0)) (by (with_reducible repeat (first | refine blk_drewN ?_ _ | refine blk_drew ?_ | refine blk_alloc ?_ _)); refine blk_far ?_ NB219_231.out _; (with_reducible repeat (first | refine blk_drewN ?_ _ | refine blk_drew ?_ | refine blk_alloc ?_ _)); refine blk_far ?_ NB219_231.out _; (with_reducible repeat (first | refine blk_drewN ?_ _ | refine blk_drew ?_ | refine blk_alloc ?_ _)); refine blk_far ?_ NB219_231.out _; (with_reducible repeat (first | refine blk_drewN ?_ _ | refine blk_drew ?_ | refine blk_alloc ?_ _)); exact BK219.out) hb); have n2_ := Aside0.mk (blk_below (g := gb231) (o := .cells #[.string t227, .string t228, .bool t229] 31 (0, 0)) (by (with_reducible repeat (first | refine blk_drewN ?_ _ | refine blk_drew ?_ | refine blk_alloc ?_ _)); refine blk_put (cs := #[.string t227, .string t228, .bool false]) ?_ 2 _ rfl; (with_reducible repeat (first | refine blk_drewN ?_ _ | refine blk_drew ?_ | refine blk_alloc ?_ _)); refine blk_put (cs := #[.string t227, .string (⟨#[]⟩ : ByteArray), .bool false]) ?_ 1 _ rfl; (with_reducible repeat (first | refine blk_drewN ?_ _ | refine blk_drew ?_ | refine blk_alloc ?_ _)); refine blk_put (cs := #[.string (⟨#[]⟩ : ByteArray), .string (⟨#[]⟩ : ByteArray), .bool false]) ?_ 0 _ rfl; (with_reducible repeat (first | refine blk_drewN ?_ _ | refine blk_drew ?_ | refine blk_alloc ?_ _)); exact BK231.out) hb); have n3_ := Aside0.mk (below_step (by repeat (first | (with_reducible first | exact HB.out | apply below_alloc | apply pw_below_drewN | apply below_drew1 | refine below_set ?_ GE218.out | refine below_set ?_ GE219.out | refine below_set ?_ GE231.out) | exact HB.out)) hb); clear BK218; clear BK219; clear BK231; clear HB; have BK218 := n0_; have BK219 := n1_; have BK231 := n2_; have HB := n3_; clear n0_ n1_ n2_ n3_; (try clear hb); (try clear hb2); (try clear hk); (try clear hi); have hcz108_0 : w107.cell? ⟨gb219, 0, none⟩ = some (.string a1_0) := (blk_cell BK219.out 0).trans rfl; have hcz108_1 : w107.cell? ⟨gb219, 1, none⟩ = some (.string a1_1) := (blk_cell BK219.out 1).trans rfl; have hcz108_2 : w107.cell? ⟨gb219, 2, none⟩ = some (.bool a1_2) := (blk_cell BK219.out 2).trans rfl; have hfz108_0 := blk_frozen BK219.out 0; have hfz108_1 := blk_frozen BK219.out 1; have hfz108_2 := blk_frozen BK219.out 2; have hcz109_0 : w107.cell? ⟨gb218, 0, none⟩ = some (.string a0_0) := (blk_cell BK218.out 0).trans rfl; have hcz109_1 : w107.cell? ⟨gb218, 1, none⟩ = some (.string a0_1) := (blk_cell BK218.out 1).trans rfl; have hcz109_2 : w107.cell? ⟨gb218, 2, none⟩ = some (.bool a0_2) := (blk_cell BK218.out 2).trans rfl; have hfz109_0 := blk_frozen BK218.out 0; have hfz109_1 := blk_frozen BK218.out 1; have hfz109_2 := blk_frozen BK218.out 2) | (go_at_call 13; (with_reducible refine (span_Has.calls kj13 a1_0 a1_1 a1_2 a0_0 t235 _ A89.out).mono ?_); rintro e w110 ⟨rfl, hb⟩; have n0_ := Aside0.mk (blk_below (g := gb218) (o := .cells #[.string a0_0, .string a0_1, .bool a0_2] 31 (0, 0)) (by (with_reducible repeat (first | refine blk_drewN ?_ _ | refine blk_drew ?_ | refine blk_alloc ?_ _)); exact BK218.out) hb); have n1_ := Aside0.mk (blk_below (g := gb219) (o := .cells #[.string a1_0, .string a1_1, .bool a1_2] 31 (0, 0)) (by (with_reducible repeat (first | refine blk_drewN ?_ _ | refine blk_drew ?_ | refine blk_alloc ?_ _)); exact BK219.out) hb); have n2_ := Aside0.mk (blk_below (g := gb231) (o := .cells #[.string t227, .string t228, .bool t229] 31 (0, 0)) (by (with_reducible repeat (first | refine blk_drewN ?_ _ | refine blk_drew ?_ | refine blk_alloc ?_ _)); exact BK231.out) hb); have n3_ := Aside0.mk (below_step (by repeat (first | (with_reducible first | exact HB.out | apply below_alloc | apply pw_below_drewN | apply below_drew1 | refine below_set ?_ GE218.out | refine below_set ?_ GE219.out | refine below_set ?_ GE231.out) | exact HB.out)) hb); clear BK218; clear BK219; clear BK231; clear HB; have BK218 := n0_; have BK219 := n1_; have BK231 := n2_; have HB := n3_; clear n0_ n1_ n2_ n3_; (try clear hb); (try clear hb2); (try clear hk); (try clear hi); have hcz111_0 : w110.cell? ⟨gb218, 0, none⟩ = some (.string a0_0) := (blk_cell BK218.out 0).trans rfl; have hcz111_1 : w110.cell? ⟨gb218, 1, none⟩ = some (.string a0_1) := (blk_cell BK218.out 1).trans rfl; have hcz111_2 : w110.cell? ⟨gb218, 2, none⟩ = some (.bool a0_2) := (blk_cell BK218.out 2).trans rfl; have hfz111_0 := blk_frozen BK218.out 0; have hfz111_1 := blk_frozen BK218.out 1; have hfz111_2 := blk_frozen BK218.out 2; have hcz112_0 : w110.cell? ⟨gb219, 0, none⟩ = some (.string a1_0) := (blk_cell BK219.out 0).trans rfl; have hcz112_1 : w110.cell? ⟨gb219, 1, none⟩ = some (.string a1_1) := (blk_cell BK219.out 1).trans rfl; have hcz112_2 : w110.cell? ⟨gb219, 2, none⟩ = some (.bool a1_2) := (blk_cell BK219.out 2).trans rfl; have hfz112_0 := blk_frozen BK219.out 0; have hfz112_1 := blk_frozen BK219.out 1; have hfz112_2 := blk_frozen BK219.out 2) | (go_at_call 11; (with_reducible refine (span_Meets.calls kj13 a0_0 a0_1 a0_2 a1_0 a1_1 a1_2 t236 _ A100.out).mono ?_); rintro e w113 ⟨rfl, hb⟩; have n0_ := Aside0.mk (blk_below (g := gb218) (o := .cells #[.string a0_0, .string a0_1, .bool a0_2] 31 (0, 0)) (by (with_reducible repeat (first | refine blk_drewN ?_ _ | refine blk_drew ?_ | refine blk_alloc ?_ _)); exact BK218.out) hb); have n1_ := Aside0.mk (blk_below (g := gb219) (o := .cells #[.string a1_0, .string a1_1, .bool a1_2] 31 (0, 0)) (by (with_reducible repeat (first | refine blk_drewN ?_ _ | refine blk_drew ?_ | refine blk_alloc ?_ _)); exact BK219.out) hb); have n2_ := Aside0.mk (blk_below (g := gb231) (o := .cells #[.string t227, .string t228, .bool t229] 31 (0, 0)) (by (with_reducible repeat (first | refine blk_drewN ?_ _ | refine blk_drew ?_ | refine blk_alloc ?_ _)); exact BK231.out) hb); have n3_ := Aside0.mk (below_step (by repeat (first | (with_reducible first | exact HB.out | apply below_alloc | apply pw_below_drewN | apply below_drew1 | refine below_set ?_ GE218.out | refine below_set ?_ GE219.out | refine below_set ?_ GE231.out) | exact HB.out)) hb); clear BK218; clear BK219; clear BK231; clear HB; have BK218 := n0_; have BK219 := n1_; have BK231 := n2_; have HB := n3_; clear n0_ n1_ n2_ n3_; (try clear hb); (try clear hb2); (try clear hk); (try clear hi)))
         go_meet
         case rel => exact ⟨_, (true), (by first | rfl | (simp; done) | (simp [*]; done)), H', ⟨by have := HJ13.out; first | omega | exact Nat.le_refl _⟩, ⟨by (with_reducible repeat (first | refine blk_drewN ?_ _ | refine blk_drew ?_ | refine blk_alloc ?_ _)); exact BK218.out⟩, ⟨by (with_reducible repeat (first | refine blk_drewN ?_ _ | refine blk_drew ?_ | refine blk_alloc ?_ _)); exact BK219.out⟩, ⟨by (with_reducible repeat (first | refine blk_drewN ?_ _ | refine blk_drew ?_ | refine blk_alloc ?_ _)); exact BK231.out⟩, ⟨by repeat (first | (with_reducible first | exact HB.out | apply below_alloc | apply pw_below_drewN | apply below_drew1 | refine below_set ?_ GE218.out | refine below_set ?_ GE219.out | refine below_set ?_ GE231.out) | exact HB.out)⟩⟩
        ·rw [if_neg c101] at H
         have c101b0 : (t236 != t230) = false := by simpa using c101
         (try (have c101b1 : decide (t236 = t230) = true := by simpa using c101))
         (try (have c101b2 : (t236 == t230) = true := by simpa using c101))
         clear c101
         replace H := Option.bind_eq_some_iff.mp H
         obtain ⟨t237, A1140, H⟩ := H
         replace H : (k3_SM.j1 kj13 a2 t230 (t237 != t230) a0_0 a0_1 a0_2 a1_0 a1_1 a1_2 t227 t228 t229) = some r := H
         have A114 := Aside0.mk A1140
         clear A1140
         have H' := Aside0.mk H
         clear H
         have hnb115 := NB218_219.out
         have hnc115 := NB219_218.out
         have hnb116 := NB218_231.out
         have hnc116 := NB231_218.out
         have hcz117_0 : w52.cell? ⟨gb218, 0, none⟩ = some (.string a0_0) := (blk_cell BK218.out 0).trans rfl
         have hcz117_1 : w52.cell? ⟨gb218, 1, none⟩ = some (.string a0_1) := (blk_cell BK218.out 1).trans rfl
         have hcz117_2 : w52.cell? ⟨gb218, 2, none⟩ = some (.bool a0_2) := (blk_cell BK218.out 2).trans rfl
         have hfz117_0 := blk_frozen BK218.out 0
         have hfz117_1 := blk_frozen BK218.out 1
         have hfz117_2 := blk_frozen BK218.out 2
         have hnb118 := NB219_231.out
         have hnc118 := NB231_219.out
         have hcz119_0 : w52.cell? ⟨gb219, 0, none⟩ = some (.string a1_0) := (blk_cell BK219.out 0).trans rfl
         have hcz119_1 : w52.cell? ⟨gb219, 1, none⟩ = some (.string a1_1) := (blk_cell BK219.out 1).trans rfl
         have hcz119_2 : w52.cell? ⟨gb219, 2, none⟩ = some (.bool a1_2) := (blk_cell BK219.out 2).trans rfl
         have hfz119_0 := blk_frozen BK219.out 0
         have hfz119_1 := blk_frozen BK219.out 1
         have hfz119_2 := blk_frozen BK219.out 2
         go_wp2_with (first | ((with_reducible refine gate_callee (f := 13) rfl ?_); refine goesL_ (some 46) rfl rfl Try.func13 (by kernel_rfl) rfl #[.agg #[.string a0_0, .string a0_1, .bool a0_2], .string a1_0] rfl (by (try simp only [List.map_toArray, List.map_cons, List.map_nil]); first | done | rfl | (simp only [List.length_drop, List.length_take]; rfl)) ?_; (with_reducible refine (span_Has.calls kj13 a0_0 a0_1 a0_2 a1_0 false _ A56.out).mono ?_); rintro e w120 ⟨rfl, hb⟩; refine ⟨_, rfl, ?_⟩; have n0_ := Aside0.mk (blk_below (g := gb218) (o := .cells #[.string a0_0, .string a0_1, .bool a0_2] 31 (0, 0)) (by (with_reducible repeat (first | refine blk_drewN ?_ _ | refine blk_drew ?_ | refine blk_alloc ?_ _)); refine blk_far ?_ NB218_231.out _; (with_reducible repeat (first | refine blk_drewN ?_ _ | refine blk_drew ?_ | refine blk_alloc ?_ _)); refine blk_far ?_ NB218_231.out _; (with_reducible repeat (first | refine blk_drewN ?_ _ | refine blk_drew ?_ | refine blk_alloc ?_ _)); refine blk_far ?_ NB218_231.out _; (with_reducible repeat (first | refine blk_drewN ?_ _ | refine blk_drew ?_ | refine blk_alloc ?_ _)); exact BK218.out) hb); have n1_ := Aside0.mk (blk_below (g := gb219) (o := .cells #[.string a1_0, .string a1_1, .bool a1_2] 31 (0, 0)) (by (with_reducible repeat (first | refine blk_drewN ?_ _ | refine blk_drew ?_ | refine blk_alloc ?_ _)); refine blk_far ?_ NB219_231.out _; (with_reducible repeat (first | refine blk_drewN ?_ _ | refine blk_drew ?_ | refine blk_alloc ?_ _)); refine blk_far ?_ NB219_231.out _; (with_reducible repeat (first | refine blk_drewN ?_ _ | refine blk_drew ?_ | refine blk_alloc ?_ _)); refine blk_far ?_ NB219_231.out _; (with_reducible repeat (first | refine blk_drewN ?_ _ | refine blk_drew ?_ | refine blk_alloc ?_ _)); exact BK219.out) hb); have n2_ := Aside0.mk (blk_below (g := gb231) (o := .cells #[.string t227, .string t228, .bool t229] 31 (0, 0)) (by (with_reducible repeat (first | refine blk_drewN ?_ _ | refine blk_drew ?_ | refine blk_alloc ?_ _)); refine blk_put (cs := #[.string t227, .string t228, .bool false]) ?_ 2 _ rfl; (with_reducible repeat (first | refine blk_drewN ?_ _ | refine blk_drew ?_ | refine blk_alloc ?_ _)); refine blk_put (cs := #[.string t227, .string (⟨#[]⟩ : ByteArray), .bool false]) ?_ 1 _ rfl; (with_reducible repeat (first | refine blk_drewN ?_ _ | refine blk_drew ?_ | refine blk_alloc ?_ _)); refine blk_put (cs := #[.string (⟨#[]⟩ : ByteArray), .string (⟨#[]⟩ : ByteArray), .bool false]) ?_ 0 _ rfl; (with_reducible repeat (first | refine blk_drewN ?_ _ | refine blk_drew ?_ | refine blk_alloc ?_ _)); exact BK231.out) hb); have n3_ := Aside0.mk (below_step (by repeat (first | (with_reducible first | exact HB.out | apply below_alloc | apply pw_below_drewN | apply below_drew1 | refine below_set ?_ GE218.out | refine below_set ?_ GE219.out | refine below_set ?_ GE231.out) | exact HB.out)) hb); clear BK218; clear BK219; clear BK231; clear HB; have BK218 := n0_; have BK219 := n1_; have BK231 := n2_; have HB := n3_; clear n0_ n1_ n2_ n3_; (try clear hb); (try clear hb2); (try clear hk); (try clear hi); have hcz121_0 : w120.cell? ⟨gb219, 0, none⟩ = some (.string a1_0) := (blk_cell BK219.out 0).trans rfl; have hcz121_1 : w120.cell? ⟨gb219, 1, none⟩ = some (.string a1_1) := (blk_cell BK219.out 1).trans rfl; have hcz121_2 : w120.cell? ⟨gb219, 2, none⟩ = some (.bool a1_2) := (blk_cell BK219.out 2).trans rfl; have hfz121_0 := blk_frozen BK219.out 0; have hfz121_1 := blk_frozen BK219.out 1; have hfz121_2 := blk_frozen BK219.out 2; have hcz122_0 : w120.cell? ⟨gb218, 0, none⟩ = some (.string a0_0) := (blk_cell BK218.out 0).trans rfl; have hcz122_1 : w120.cell? ⟨gb218, 1, none⟩ = some (.string a0_1) := (blk_cell BK218.out 1).trans rfl; have hcz122_2 : w120.cell? ⟨gb218, 2, none⟩ = some (.bool a0_2) := (blk_cell BK218.out 2).trans rfl; have hfz122_0 := blk_frozen BK218.out 0; have hfz122_1 := blk_frozen BK218.out 1; have hfz122_2 := blk_frozen BK218.out 2) | (go_at_call 13; (with_reducible refine (span_Has.calls kj13 a1_0 a1_1 a1_2 a0_0 t235 _ A89.out).mono ?_); rintro e w123 ⟨rfl, hb⟩; have n0_ := Aside0.mk (blk_below (g := gb218) (o := .cells #[.string a0_0, .string a0_1, .bool a0_2] 31 (0, 0)) (by (with_reducible repeat (first | refine blk_drewN ?_ _ | refine blk_drew ?_ | refine blk_alloc ?_ _)); exact BK218.out) hb); have n1_ := Aside0.mk (blk_below (g := gb219) (o := .cells #[.string a1_0, .string a1_1, .bool a1_2] 31 (0, 0)) (by (with_reducible repeat (first | refine blk_drewN ?_ _ | refine blk_drew ?_ | refine blk_alloc ?_ _)); exact BK219.out) hb); have n2_ := Aside0.mk (blk_below (g := gb231) (o := .cells #[.string t227, .string t228, .bool t229] 31 (0, 0)) (by (with_reducible repeat (first | refine blk_drewN ?_ _ | refine blk_drew ?_ | refine blk_alloc ?_ _)); exact BK231.out) hb); have n3_ := Aside0.mk (below_step (by repeat (first | (with_reducible first | exact HB.out | apply below_alloc | apply pw_below_drewN | apply below_drew1 | refine below_set ?_ GE218.out | refine below_set ?_ GE219.out | refine below_set ?_ GE231.out) | exact HB.out)) hb); clear BK218; clear BK219; clear BK231; clear HB; have BK218 := n0_; have BK219 := n1_; have BK231 := n2_; have HB := n3_; clear n0_ n1_ n2_ n3_; (try clear hb); (try clear hb2); (try clear hk); (try clear hi); have hcz124_0 : w123.cell? ⟨gb218, 0, none⟩ = some (.string a0_0) := (blk_cell BK218.out 0).trans rfl; have hcz124_1 : w123.cell? ⟨gb218, 1, none⟩ = some (.string a0_1) := (blk_cell BK218.out 1).trans rfl; have hcz124_2 : w123.cell? ⟨gb218, 2, none⟩ = some (.bool a0_2) := (blk_cell BK218.out 2).trans rfl; have hfz124_0 := blk_frozen BK218.out 0; have hfz124_1 := blk_frozen BK218.out 1; have hfz124_2 := blk_frozen BK218.out 2; have hcz125_0 : w123.cell? ⟨gb219, 0, none⟩ = some (.string a1_0) := (blk_cell BK219.out 0).trans rfl; have hcz125_1 : w123.cell? ⟨gb219, 1, none⟩ = some (.string a1_1) := (blk_cell BK219.out 1).trans rfl; have hcz125_2 : w123.cell? ⟨gb219, 2, none⟩ = some (.bool a1_2) := (blk_cell BK219.out 2).trans rfl; have hfz125_0 := blk_frozen BK219.out 0; have hfz125_1 := blk_frozen BK219.out 1; have hfz125_2 := blk_frozen BK219.out 2) | (go_at_call 11; (with_reducible refine (span_Meets.calls kj13 a0_0 a0_1 a0_2 a1_0 a1_1 a1_2 t236 _ A100.out).mono ?_); rintro e w126 ⟨rfl, hb⟩; have n0_ := Aside0.mk (blk_below (g := gb218) (o := .cells #[.string a0_0, .string a0_1, .bool a0_2] 31 (0, 0)) (by (with_reducible repeat (first | refine blk_drewN ?_ _ | refine blk_drew ?_ | refine blk_alloc ?_ _)); exact BK218.out) hb); have n1_ := Aside0.mk (blk_below (g := gb219) (o := .cells #[.string a1_0, .string a1_1, .bool a1_2] 31 (0, 0)) (by (with_reducible repeat (first | refine blk_drewN ?_ _ | refine blk_drew ?_ | refine blk_alloc ?_ _)); exact BK219.out) hb); have n2_ := Aside0.mk (blk_below (g := gb231) (o := .cells #[.string t227, .string t228, .bool t229] 31 (0, 0)) (by (with_reducible repeat (first | refine blk_drewN ?_ _ | refine blk_drew ?_ | refine blk_alloc ?_ _)); exact BK231.out) hb); have n3_ := Aside0.mk (below_step (by repeat (first | (with_reducible first | exact HB.out | apply below_alloc | apply pw_below_drewN | apply below_drew1 | refine below_set ?_ GE218.out | refine below_set ?_ GE219.out | refine below_set ?_ GE231.out) | exact HB.out)) hb); clear BK218; clear BK219; clear BK231; clear HB; have BK218 := n0_; have BK219 := n1_; have BK231 := n2_; have HB := n3_; clear n0_ n1_ n2_ n3_; (try clear hb); (try clear hb2); (try clear hk); (try clear hi); have hcz127_0 : w126.cell? ⟨gb219, 0, none⟩ = some (.string a1_0) := (blk_cell BK219.out 0).trans rfl; have hcz127_1 : w126.cell? ⟨gb219, 1, none⟩ = some (.string a1_1) := (blk_cell BK219.out 1).trans rfl; have hcz127_2 : w126.cell? ⟨gb219, 2, none⟩ = some (.bool a1_2) := (blk_cell BK219.out 2).trans rfl; have hfz127_0 := blk_frozen BK219.out 0; have hfz127_1 := blk_frozen BK219.out 1; have hfz127_2 := blk_frozen BK219.out 2; have hcz128_0 : w126.cell? ⟨gb218, 0, none⟩ = some (.string a0_0) := (blk_cell BK218.out 0).trans rfl; have hcz128_1 : w126.cell? ⟨gb218, 1, none⟩ = some (.string a0_1) := (blk_cell BK218.out 1).trans rfl; have hcz128_2 : w126.cell? ⟨gb218, 2, none⟩ = some (.bool a0_2) := (blk_cell BK218.out 2).trans rfl; have hfz128_0 := blk_frozen BK218.out 0; have hfz128_1 := blk_frozen BK218.out 1; have hfz128_2 := blk_frozen BK218.out 2) | (go_at_call 11; (with_reducible refine (span_Meets.calls kj13 a1_0 a1_1 a1_2 a0_0 a0_1 a0_2 t237 _ A114.out).mono ?_); rintro e w129 ⟨rfl, hb⟩; have n0_ := Aside0.mk (blk_below (g := gb218) (o := .cells #[.string a0_0, .string a0_1, .bool a0_2] 31 (0, 0)) (by (with_reducible repeat (first | refine blk_drewN ?_ _ | refine blk_drew ?_ | refine blk_alloc ?_ _)); exact BK218.out) hb); have n1_ := Aside0.mk (blk_below (g := gb219) (o := .cells #[.string a1_0, .string a1_1, .bool a1_2] 31 (0, 0)) (by (with_reducible repeat (first | refine blk_drewN ?_ _ | refine blk_drew ?_ | refine blk_alloc ?_ _)); exact BK219.out) hb); have n2_ := Aside0.mk (blk_below (g := gb231) (o := .cells #[.string t227, .string t228, .bool t229] 31 (0, 0)) (by (with_reducible repeat (first | refine blk_drewN ?_ _ | refine blk_drew ?_ | refine blk_alloc ?_ _)); exact BK231.out) hb); have n3_ := Aside0.mk (below_step (by repeat (first | (with_reducible first | exact HB.out | apply below_alloc | apply pw_below_drewN | apply below_drew1 | refine below_set ?_ GE218.out | refine below_set ?_ GE219.out | refine below_set ?_ GE231.out) | exact HB.out)) hb); clear BK218; clear BK219; clear BK231; clear HB; have BK218 := n0_; have BK219 := n1_; have BK231 := n2_; have HB := n3_; clear n0_ n1_ n2_ n3_; (try clear hb); (try clear hb2); (try clear hk); (try clear hi)))
         go_meet
         case rel => exact ⟨_, ((t237 != t230)), (by first | rfl | (simp; done) | (simp [*]; done)), H', ⟨by have := HJ13.out; first | omega | exact Nat.le_refl _⟩, ⟨by (with_reducible repeat (first | refine blk_drewN ?_ _ | refine blk_drew ?_ | refine blk_alloc ?_ _)); exact BK218.out⟩, ⟨by (with_reducible repeat (first | refine blk_drewN ?_ _ | refine blk_drew ?_ | refine blk_alloc ?_ _)); exact BK219.out⟩, ⟨by (with_reducible repeat (first | refine blk_drewN ?_ _ | refine blk_drew ?_ | refine blk_alloc ?_ _)); exact BK231.out⟩, ⟨by repeat (first | (with_reducible first | exact HB.out | apply below_alloc | apply pw_below_drewN | apply below_drew1 | refine below_set ?_ GE218.out | refine below_set ?_ GE219.out | refine below_set ?_ GE231.out) | exact HB.out)⟩⟩
     case rest =>
      clear HC47
      try clear c1
      try clear c2
      try clear p2
      try clear c3
      try clear c4
      try clear c5
      try clear c6
      try clear c7
      try clear c8
      try clear c9
      try clear c10
      try clear c11
      try clear c13
      try clear c14
      try clear c15
      try clear c17
      try clear c22
      try clear c24
      try clear c29
      try clear c32
      try clear c34
      try clear c36
      try clear c38
      try clear c48
      try clear c53
      try clear c54
      try clear c57
      try clear c58
      try clear c60
      try clear c60b0
      try clear c60b1
      try clear c60b2
      try clear c61
      try clear c62
      try clear c64
      try clear c71
      try clear c72
      try clear c74
      try clear c83
      try clear c84
      try clear c86
      try clear c90
      try clear c90b0
      try clear c90b1
      try clear c90b2
      try clear c91
      try clear c92
      try clear c94
      try clear c101
      try clear c101b0
      try clear c101b1
      try clear c101b2
      try clear c102
      try clear c103
      try clear c105
      try clear c115
      try clear c116
      try clear c118
      try clear hcz104_0
      try clear hcz104_1
      try clear hcz104_2
      try clear hcz106_0
      try clear hcz106_1
      try clear hcz106_2
      try clear hcz108_0
      try clear hcz108_1
      try clear hcz108_2
      try clear hcz109_0
      try clear hcz109_1
      try clear hcz109_2
      try clear hcz10_0
      try clear hcz10_1
      try clear hcz10_2
      try clear hcz111_0
      try clear hcz111_1
      try clear hcz111_2
      try clear hcz112_0
      try clear hcz112_1
      try clear hcz112_2
      try clear hcz117_0
      try clear hcz117_1
      try clear hcz117_2
      try clear hcz119_0
      try clear hcz119_1
      try clear hcz119_2
      try clear hcz11_0
      try clear hcz11_1
      try clear hcz11_2
      try clear hcz121_0
      try clear hcz121_1
      try clear hcz121_2
      try clear hcz122_0
      try clear hcz122_1
      try clear hcz122_2
      try clear hcz124_0
      try clear hcz124_1
      try clear hcz124_2
      try clear hcz125_0
      try clear hcz125_1
      try clear hcz125_2
      try clear hcz127_0
      try clear hcz127_1
      try clear hcz127_2
      try clear hcz128_0
      try clear hcz128_1
      try clear hcz128_2
      try clear hcz18_0
      try clear hcz18_1
      try clear hcz18_2
      try clear hcz19_0
      try clear hcz19_1
      try clear hcz19_2
      try clear hcz25_0
      try clear hcz25_1
      try clear hcz25_2
      try clear hcz27_0
      try clear hcz27_1
      try clear hcz27_2
      try clear hcz30_0
      try clear hcz30_1
      try clear hcz30_2
      try clear hcz39_0
      try clear hcz39_1
      try clear hcz39_2
      try clear hcz40_0
      try clear hcz40_1
      try clear hcz40_2
      try clear hcz42_0
      try clear hcz42_1
      try clear hcz42_2
      try clear hcz43_0
      try clear hcz43_1
      try clear hcz43_2
      try clear hcz49_0
      try clear hcz49_1
      try clear hcz49_2
      try clear hcz50_0
      try clear hcz50_1
      try clear hcz50_2
      try clear hcz55_0
      try clear hcz55_1
      try clear hcz55_2
      try clear hcz63_0
      try clear hcz63_1
      try clear hcz63_2
      try clear hcz65_0
      try clear hcz65_1
      try clear hcz65_2
      try clear hcz67_0
      try clear hcz67_1
      try clear hcz67_2
      try clear hcz68_0
      try clear hcz68_1
      try clear hcz68_2
      try clear hcz73_0
      try clear hcz73_1
      try clear hcz73_2
      try clear hcz75_0
      try clear hcz75_1
      try clear hcz75_2
      try clear hcz77_0
      try clear hcz77_1
      try clear hcz77_2
      try clear hcz78_0
      try clear hcz78_1
      try clear hcz78_2
      try clear hcz80_0
      try clear hcz80_1
      try clear hcz80_2
      try clear hcz81_0
      try clear hcz81_1
      try clear hcz81_2
      try clear hcz85_0
      try clear hcz85_1
      try clear hcz85_2
      try clear hcz87_0
      try clear hcz87_1
      try clear hcz87_2
      try clear hcz93_0
      try clear hcz93_1
      try clear hcz93_2
      try clear hcz95_0
      try clear hcz95_1
      try clear hcz95_2
      try clear hcz97_0
      try clear hcz97_1
      try clear hcz97_2
      try clear hcz98_0
      try clear hcz98_1
      try clear hcz98_2
      try clear hfz104_0
      try clear hfz104_1
      try clear hfz104_2
      try clear hfz106_0
      try clear hfz106_1
      try clear hfz106_2
      try clear hfz108_0
      try clear hfz108_1
      try clear hfz108_2
      try clear hfz109_0
      try clear hfz109_1
      try clear hfz109_2
      try clear hfz10_0
      try clear hfz10_1
      try clear hfz10_2
      try clear hfz111_0
      try clear hfz111_1
      try clear hfz111_2
      try clear hfz112_0
      try clear hfz112_1
      try clear hfz112_2
      try clear hfz117_0
      try clear hfz117_1
      try clear hfz117_2
      try clear hfz119_0
      try clear hfz119_1
      try clear hfz119_2
      try clear hfz11_0
      try clear hfz11_1
      try clear hfz11_2
      try clear hfz121_0
      try clear hfz121_1
      try clear hfz121_2
      try clear hfz122_0
      try clear hfz122_1
      try clear hfz122_2
      try clear hfz124_0
      try clear hfz124_1
      try clear hfz124_2
      try clear hfz125_0
      try clear hfz125_1
      try clear hfz125_2
      try clear hfz127_0
      try clear hfz127_1
      try clear hfz127_2
      try clear hfz128_0
      try clear hfz128_1
      try clear hfz128_2
      try clear hfz18_0
      try clear hfz18_1
      try clear hfz18_2
      try clear hfz19_0
      try clear hfz19_1
      try clear hfz19_2
      try clear hfz25_0
      try clear hfz25_1
      try clear hfz25_2
      try clear hfz27_0
      try clear hfz27_1
      try clear hfz27_2
      try clear hfz30_0
      try clear hfz30_1
      try clear hfz30_2
      try clear hfz39_0
      try clear hfz39_1
      try clear hfz39_2
      try clear hfz40_0
      try clear hfz40_1
      try clear hfz40_2
      try clear hfz42_0
      try clear hfz42_1
      try clear hfz42_2
      try clear hfz43_0
      try clear hfz43_1
      try clear hfz43_2
      try clear hfz49_0
      try clear hfz49_1
      try clear hfz49_2
      try clear hfz50_0
      try clear hfz50_1
      try clear hfz50_2
      try clear hfz55_0
      try clear hfz55_1
      try clear hfz55_2
      try clear hfz63_0
      try clear hfz63_1
      try clear hfz63_2
      try clear hfz65_0
      try clear hfz65_1
      try clear hfz65_2
      try clear hfz67_0
      try clear hfz67_1
      try clear hfz67_2
      try clear hfz68_0
      try clear hfz68_1
      try clear hfz68_2
      try clear hfz73_0
      try clear hfz73_1
      try clear hfz73_2
      try clear hfz75_0
      try clear hfz75_1
      try clear hfz75_2
      try clear hfz77_0
      try clear hfz77_1
      try clear hfz77_2
      try clear hfz78_0
      try clear hfz78_1
      try clear hfz78_2
      try clear hfz80_0
      try clear hfz80_1
      try clear hfz80_2
      try clear hfz81_0
      try clear hfz81_1
      try clear hfz81_2
      try clear hfz85_0
      try clear hfz85_1
      try clear hfz85_2
      try clear hfz87_0
      try clear hfz87_1
      try clear hfz87_2
      try clear hfz93_0
      try clear hfz93_1
      try clear hfz93_2
      try clear hfz95_0
      try clear hfz95_1
      try clear hfz95_2
      try clear hfz97_0
      try clear hfz97_1
      try clear hfz97_2
      try clear hfz98_0
      try clear hfz98_1
      try clear hfz98_2
      try clear p2
      obtain ⟨kq, x67_46, rfl, HA, HJ46, BK218, BK219, BK231, HB⟩ := hcut
      cases kq with
      | zero => exact absurd HA.out (by simp [k3_SM.j1])
      | succ kj46 =>
       have H := HA.out
       clear HA
       simp only [k3_SM.j1] at H
       by_cases c130 : x67_46 = true
       ·subst c130
        have H1 : (none) = some r := by rw [if_pos rfl] at H; exact H
        clear H
        have H := H1
        clear H1
        exact absurd H (by simp)
       ·replace c130 := Bool.eq_false_iff.mpr c130
        subst c130
        have H1 : (if t230 = true then ((span_Has.f kj46 t227 t228 t229 a2).bind fun t238 => ((span_Has.f kj46 a0_0 a0_1 a0_2 a2).bind fun t239 => (if t239 = true then ((span_Has.f kj46 a1_0 a1_1 a1_2 a2).bind fun t240 => (k3_SM.j2 kj46 a2 (t238 != t240) a0_0 a0_1 a0_2 a1_0 a1_1 a1_2)) else (k3_SM.j2 kj46 a2 t238 a0_0 a0_1 a0_2 a1_0 a1_1 a1_2)))) else ((span_Has.f kj46 a0_0 a0_1 a0_2 a2).bind fun t241 => (if t241 = true then ((span_Has.f kj46 a1_0 a1_1 a1_2 a2).bind fun t242 => (k3_SM.j2 kj46 a2 t242 a0_0 a0_1 a0_2 a1_0 a1_1 a1_2)) else (k3_SM.j2 kj46 a2 false a0_0 a0_1 a0_2 a1_0 a1_1 a1_2)))) = some r := by rw [if_neg (show ¬ (false = true) by decide)] at H; exact H
        clear H
        have H := H1
        clear H1
        have HC131 := Aside0.mk H
        clear H
        go_upto_region 8 with (fail)
        go_cut [82] (fun v82 wc => ∃ (kq : Nat) (x82_130 : Bool), v82 = .bool x82_130 ∧ Aside0 (k3_SM.j2 kq a2 x82_130 a0_0 a0_1 a0_2 a1_0 a1_1 a1_2 = some r) ∧ Aside0 (kq ≤ kj46) ∧ Aside0 (wc.heap[gb218]? = some (.cells #[.string a0_0, .string a0_1, .bool a0_2] 31 (0, 0))) ∧ Aside0 (wc.heap[gb219]? = some (.cells #[.string a1_0, .string a1_1, .bool a1_2] 31 (0, 0))) ∧ Aside0 (wc.heap[gb231]? = some (.cells #[.string t227, .string t228, .bool t229] 31 (0, 0))) ∧ Aside0 (Below w.heap.size w wc))
        case first =>
         have H := HC131.out
         clear HC131
         by_cases c132 : t230 = true
         ·subst c132
          have H1 : ((span_Has.f kj46 t227 t228 t229 a2).bind fun t238 => ((span_Has.f kj46 a0_0 a0_1 a0_2 a2).bind fun t239 => (if t239 = true then ((span_Has.f kj46 a1_0 a1_1 a1_2 a2).bind fun t240 => (k3_SM.j2 kj46 a2 (t238 != t240) a0_0 a0_1 a0_2 a1_0 a1_1 a1_2)) else (k3_SM.j2 kj46 a2 t238 a0_0 a0_1 a0_2 a1_0 a1_1 a1_2)))) = some r := by rw [if_pos rfl] at H; exact H
          clear H
          have H := H1
          clear H1
          replace H := Option.bind_eq_some_iff.mp H
          obtain ⟨t238, A1330, H⟩ := H
          replace H : ((span_Has.f kj46 a0_0 a0_1 a0_2 a2).bind fun t239 => (if t239 = true then ((span_Has.f kj46 a1_0 a1_1 a1_2 a2).bind fun t240 => (k3_SM.j2 kj46 a2 (t238 != t240) a0_0 a0_1 a0_2 a1_0 a1_1 a1_2)) else (k3_SM.j2 kj46 a2 t238 a0_0 a0_1 a0_2 a1_0 a1_1 a1_2))) = some r := H
          have A133 := Aside0.mk A1330
          clear A1330
          replace H := Option.bind_eq_some_iff.mp H
          obtain ⟨t239, A1340, H⟩ := H
          replace H : (if t239 = true then ((span_Has.f kj46 a1_0 a1_1 a1_2 a2).bind fun t240 => (k3_SM.j2 kj46 a2 (t238 != t240) a0_0 a0_1 a0_2 a1_0 a1_1 a1_2)) else (k3_SM.j2 kj46 a2 t238 a0_0 a0_1 a0_2 a1_0 a1_1 a1_2)) = some r := H
          have A134 := Aside0.mk A1340
          clear A1340
          by_cases c135 : t239 = true
          ·subst c135
           have H1 : ((span_Has.f kj46 a1_0 a1_1 a1_2 a2).bind fun t240 => (k3_SM.j2 kj46 a2 (t238 != t240) a0_0 a0_1 a0_2 a1_0 a1_1 a1_2)) = some r := by rw [if_pos rfl] at H; exact H
           clear H
           have H := H1
           clear H1
           replace H := Option.bind_eq_some_iff.mp H
           obtain ⟨t240, A1360, H⟩ := H
           replace H : (k3_SM.j2 kj46 a2 (t238 != t240) a0_0 a0_1 a0_2 a1_0 a1_1 a1_2) = some r := H
           have A136 := Aside0.mk A1360
           clear A1360
           have H' := Aside0.mk H
           clear H
           try go_wp2
           have n0_ := Aside0.mk (blk_drew BK218.out)
           have n1_ := Aside0.mk (blk_drew BK219.out)
           have n2_ := Aside0.mk (blk_drew BK231.out)
           have n3_ := Aside0.mk (below_drew1 HB.out)
           clear BK218
           clear BK219
           clear BK231
           clear HB
           have BK218 := n0_
           have BK219 := n1_
           have BK231 := n2_
           have HB := n3_
           clear n0_ n1_ n2_ n3_
           refine start_ (n := 15) (S := fun w' => w'.cell? ⟨gb231, 0, none⟩ = some (.string t227) ∧ w'.cell? ⟨gb231, 1, none⟩ = some (.string t228) ∧ w'.cell? ⟨gb231, 2, none⟩ = some (.bool t229) ∧ w'.cell? ⟨gb218, 0, none⟩ = some (.string a0_0) ∧ w'.cell? ⟨gb218, 1, none⟩ = some (.string a0_1) ∧ w'.cell? ⟨gb218, 2, none⟩ = some (.bool a0_2) ∧ w'.cell? ⟨gb219, 0, none⟩ = some (.string a1_0) ∧ w'.cell? ⟨gb219, 1, none⟩ = some (.string a1_1) ∧ w'.cell? ⟨gb219, 2, none⟩ = some (.bool a1_2)) (ds := []) #[false, false, false, false, false, false, false, false, false, false, false, false, false, false, false] (by kernel_rfl) rfl rfl ⟨(blk_cell BK231.out 0).trans rfl, (blk_cell BK231.out 1).trans rfl, (blk_cell BK231.out 2).trans rfl, (blk_cell BK218.out 0).trans rfl, (blk_cell BK218.out 1).trans rfl, (blk_cell BK218.out 2).trans rfl, (blk_cell BK219.out 0).trans rfl, (blk_cell BK219.out 1).trans rfl, (blk_cell BK219.out 2).trans rfl⟩ (fun hHeld => ?_); refine with_tabW k3_SM.tab8 k3_SM.bits8 (fun HT_ HW_ => ?_)
           generalize wc.drew = w137 at BK218 BK219 BK231 HB hHeld ⊢
           refine pure_ (i := 0) (N := some 68) (v := ?_) (a' := ?_) #[true, false, false, false, false, false, false, false, false, false, false, false, false, false, false] rfl rfl (any_of HT_.out (by kernel_rfl)) (fun _ _ _ h => h) (Or.inl ⟨by rfl, ?_⟩) ?_ ?_
           rotate_left
           ·intro w'
            go_simp
            with_reducible rfl
           rotate_left
           ·simp only [Act.put, List.setIfInBounds_toArray, List.set_cons_zero, List.set_cons_succ, i64_w, i32_w]
            rfl
           refine pure_ (i := 1) (N := some 69) (v := ?_) (a' := ?_) #[true, true, false, false, false, false, false, false, false, false, false, false, false, false, false] rfl rfl (any_of HT_.out (by kernel_rfl)) (fun _ _ _ h => h) (Or.inl ⟨by rfl, ?_⟩) ?_ ?_
           rotate_left
           ·intro w'
            go_simp
            with_reducible rfl
           rotate_left
           ·simp only [Act.put, List.setIfInBounds_toArray, List.set_cons_zero, List.set_cons_succ, i64_w, i32_w]
            rfl
           refine pure_ (i := 3) (N := some 71) (v := ?_) (a' := ?_) #[true, true, false, true, false, false, false, false, false, false, false, false, false, false, false] rfl rfl (any_of HT_.out (by kernel_rfl)) (fun _ _ _ h => h) (Or.inl ⟨by rfl, ?_⟩) ?_ ?_
           rotate_left
           ·intro w'
            go_simp
            with_reducible rfl
           rotate_left
           ·simp only [Act.put, List.setIfInBounds_toArray, List.set_cons_zero, List.set_cons_succ, i64_w, i32_w]
            rfl
           refine pure_ (i := 7) (N := some 75) (v := ?_) (a' := ?_) #[true, true, false, true, false, false, false, true, false, false, false, false, false, false, false] rfl rfl (any_of HT_.out (by kernel_rfl)) (fun _ _ _ h => h) (Or.inl ⟨by rfl, ?_⟩) ?_ ?_
           rotate_left
           ·intro w'
            go_simp
            with_reducible rfl
           rotate_left
           ·simp only [Act.put, List.setIfInBounds_toArray, List.set_cons_zero, List.set_cons_succ, i64_w, i32_w]
            rfl
           refine take_ (i := 2) (N := some 70) (v := ?_) (a' := ?_) #[true, true, true, true, false, false, false, true, false, false, false, false, false, false, false] rfl rfl (take_ofW HT_.out HW_.out (by kernel_rfl)) (fun _ _ _ h => h) (Or.inl ⟨by rfl, ?_⟩) hHeld ?_ ?_
           rotate_left
           ·rintro w' ⟨s0, s1, s2, s3, s4, s5, s6, s7, s8⟩
            go_simp
            with_reducible rfl
           rotate_left
           ·simp only [Act.put, List.setIfInBounds_toArray, List.set_cons_zero, List.set_cons_succ, i64_w, i32_w]
            rfl
           refine take_ (i := 6) (N := some 74) (v := ?_) (a' := ?_) #[true, true, true, true, false, false, true, true, false, false, false, false, false, false, false] rfl rfl (take_ofW HT_.out HW_.out (by kernel_rfl)) (fun _ _ _ h => h) (Or.inl ⟨by rfl, ?_⟩) hHeld ?_ ?_
           rotate_left
           ·rintro w' ⟨s0, s1, s2, s3, s4, s5, s6, s7, s8⟩
            go_simp
            with_reducible rfl
           rotate_left
           ·simp only [Act.put, List.setIfInBounds_toArray, List.set_cons_zero, List.set_cons_succ, i64_w, i32_w]
            rfl
           refine one_ (i := 4) (N := some 72) #[true, true, true, true, true, false, true, true, false, false, false, false, false, false, false] rfl rfl (one_of HT_.out (by kernel_rfl)) (by decide) (fun K hK => ?_)
           refine goes_ Try.func13 (by kernel_rfl) rfl #[.agg #[.string t227, .string t228, .bool t229], .string a2] (by rfl) rfl rfl (by (try simp only [List.map_toArray, List.map_cons, List.map_nil]); first | done | rfl | (simp only [List.length_drop, List.length_take]; rfl)) ?_
           with_reducible refine (span_Has.calls kj46 t227 t228 t229 a2 t238 _ A133.out).mono ?_
           rintro e w138 ⟨rfl, hb⟩
           refine ⟨_, rfl, ?_⟩
           have n0_ := Aside0.mk (blk_below (g := gb218) (o := .cells #[.string a0_0, .string a0_1, .bool a0_2] 31 (0, 0)) (by (with_reducible repeat (first | refine blk_drewN ?_ _ | refine blk_drew ?_ | refine blk_alloc ?_ _)); exact BK218.out) hb)
           have n1_ := Aside0.mk (blk_below (g := gb219) (o := .cells #[.string a1_0, .string a1_1, .bool a1_2] 31 (0, 0)) (by (with_reducible repeat (first | refine blk_drewN ?_ _ | refine blk_drew ?_ | refine blk_alloc ?_ _)); exact BK219.out) hb)
           have n2_ := Aside0.mk (blk_below (g := gb231) (o := .cells #[.string t227, .string t228, .bool t229] 31 (0, 0)) (by (with_reducible repeat (first | refine blk_drewN ?_ _ | refine blk_drew ?_ | refine blk_alloc ?_ _)); exact BK231.out) hb)
           have n3_ := Aside0.mk (below_step (by repeat (first | (with_reducible first | exact HB.out | apply below_alloc | apply pw_below_drewN | apply below_drew1 | refine below_set ?_ GE218.out | refine below_set ?_ GE219.out | refine below_set ?_ GE231.out) | exact HB.out)) hb)
           clear BK218
           clear BK219
           clear BK231
           clear HB
           have BK218 := n0_
           have BK219 := n1_
           have BK231 := n2_
           have HB := n3_
           clear n0_ n1_ n2_ n3_
           (try clear hb)
           (try clear hb2)
           (try clear hk)
           (try clear hi)
           refine hK.out _ _ ⟨(blk_cell BK231.out 0).trans rfl, (blk_cell BK231.out 1).trans rfl, (blk_cell BK231.out 2).trans rfl, (blk_cell BK218.out 0).trans rfl, (blk_cell BK218.out 1).trans rfl, (blk_cell BK218.out 2).trans rfl, (blk_cell BK219.out 0).trans rfl, (blk_cell BK219.out 1).trans rfl, (blk_cell BK219.out 2).trans rfl⟩ (fun hHeld => ?_)
           clear hK K
           refine norm_ (a' := ?_) ?_ ?_
           rotate_left
           ·show Act.put _ (some 72) _ = _
            simp only [Act.put, List.setIfInBounds_toArray, List.set_cons_zero, List.set_cons_succ, i64_w, i32_w]
            rfl
           refine pure_ (i := 5) (N := some 73) (v := ?_) (a' := ?_) #[true, true, true, true, true, true, true, true, false, false, false, false, false, false, false] rfl rfl (any_of HT_.out (by kernel_rfl)) (fun _ _ _ h => h) (Or.inl ⟨by rfl, ?_⟩) ?_ ?_
           rotate_left
           ·intro w'
            go_simp
            with_reducible rfl
           rotate_left
           ·simp only [Act.put, List.setIfInBounds_toArray, List.set_cons_zero, List.set_cons_succ, i64_w, i32_w]
            rfl
           refine one_ (i := 8) (N := some 76) #[true, true, true, true, true, true, true, true, true, false, false, false, false, false, false] rfl rfl (one_of HT_.out (by kernel_rfl)) (by decide) (fun K hK => ?_)
           refine goes_ Try.func13 (by kernel_rfl) rfl #[.agg #[.string a0_0, .string a0_1, .bool a0_2], .string a2] (by rfl) rfl rfl (by (try simp only [List.map_toArray, List.map_cons, List.map_nil]); first | done | rfl | (simp only [List.length_drop, List.length_take]; rfl)) ?_
           with_reducible refine (span_Has.calls kj46 a0_0 a0_1 a0_2 a2 true _ A134.out).mono ?_
           rintro e w139 ⟨rfl, hb⟩
           refine ⟨_, rfl, ?_⟩
           have n0_ := Aside0.mk (blk_below (g := gb218) (o := .cells #[.string a0_0, .string a0_1, .bool a0_2] 31 (0, 0)) (by (with_reducible repeat (first | refine blk_drewN ?_ _ | refine blk_drew ?_ | refine blk_alloc ?_ _)); exact BK218.out) hb)
           have n1_ := Aside0.mk (blk_below (g := gb219) (o := .cells #[.string a1_0, .string a1_1, .bool a1_2] 31 (0, 0)) (by (with_reducible repeat (first | refine blk_drewN ?_ _ | refine blk_drew ?_ | refine blk_alloc ?_ _)); exact BK219.out) hb)
           have n2_ := Aside0.mk (blk_below (g := gb231) (o := .cells #[.string t227, .string t228, .bool t229] 31 (0, 0)) (by (with_reducible repeat (first | refine blk_drewN ?_ _ | refine blk_drew ?_ | refine blk_alloc ?_ _)); exact BK231.out) hb)
           have n3_ := Aside0.mk (below_step (by repeat (first | (with_reducible first | exact HB.out | apply below_alloc | apply pw_below_drewN | apply below_drew1 | refine below_set ?_ GE218.out | refine below_set ?_ GE219.out | refine below_set ?_ GE231.out) | exact HB.out)) hb)
           clear BK218
           clear BK219
           clear BK231
           clear HB
           have BK218 := n0_
           have BK219 := n1_
           have BK231 := n2_
           have HB := n3_
           clear n0_ n1_ n2_ n3_
           (try clear hb)
           (try clear hb2)
           (try clear hk)
           (try clear hi)
           refine hK.out _ _ ⟨(blk_cell BK231.out 0).trans rfl, (blk_cell BK231.out 1).trans rfl, (blk_cell BK231.out 2).trans rfl, (blk_cell BK218.out 0).trans rfl, (blk_cell BK218.out 1).trans rfl, (blk_cell BK218.out 2).trans rfl, (blk_cell BK219.out 0).trans rfl, (blk_cell BK219.out 1).trans rfl, (blk_cell BK219.out 2).trans rfl⟩ (fun hHeld => ?_)
           clear hK K
           refine norm_ (a' := ?_) ?_ ?_
           rotate_left
           ·show Act.put _ (some 76) _ = _
            simp only [Act.put, List.setIfInBounds_toArray, List.set_cons_zero, List.set_cons_succ, i64_w, i32_w]
            rfl
           refine pure_ (i := 9) (N := some 77) (v := ?_) (a' := ?_) #[true, true, true, true, true, true, true, true, true, true, false, false, false, false, false] rfl rfl (any_of HT_.out (by kernel_rfl)) (fun _ _ _ h => h) (Or.inl ⟨by rfl, ?_⟩) ?_ ?_
           rotate_left
           ·intro w'
            go_simp
            with_reducible rfl
           rotate_left
           ·simp only [Act.put, List.setIfInBounds_toArray, List.set_cons_zero, List.set_cons_succ, i64_w, i32_w]
            rfl
           refine pure_ (i := 11) (N := some 79) (v := ?_) (a' := ?_) #[true, true, true, true, true, true, true, true, true, true, false, true, false, false, false] rfl rfl (any_of HT_.out (by kernel_rfl)) (fun _ _ _ h => h) (Or.inl ⟨by rfl, ?_⟩) ?_ ?_
           rotate_left
           ·intro w'
            go_simp
            with_reducible rfl
           rotate_left
           ·simp only [Act.put, List.setIfInBounds_toArray, List.set_cons_zero, List.set_cons_succ, i64_w, i32_w]
            rfl
           refine take_ (i := 10) (N := some 78) (v := ?_) (a' := ?_) #[true, true, true, true, true, true, true, true, true, true, true, true, false, false, false] rfl rfl (take_ofW HT_.out HW_.out (by kernel_rfl)) (fun _ _ _ h => h) (Or.inl ⟨by rfl, ?_⟩) hHeld ?_ ?_
           rotate_left
           ·rintro w' ⟨s0, s1, s2, s3, s4, s5, s6, s7, s8⟩
            go_simp
            with_reducible rfl
           rotate_left
           ·simp only [Act.put, List.setIfInBounds_toArray, List.set_cons_zero, List.set_cons_succ, i64_w, i32_w]
            rfl
           refine one_ (i := 12) (N := some 80) #[true, true, true, true, true, true, true, true, true, true, true, true, true, false, false] rfl rfl (one_of HT_.out (by kernel_rfl)) (by decide) (fun K hK => ?_)
           refine goes_ Try.func13 (by kernel_rfl) rfl #[.agg #[.string a1_0, .string a1_1, .bool a1_2], .string a2] (by rfl) rfl rfl (by (try simp only [List.map_toArray, List.map_cons, List.map_nil]); first | done | rfl | (simp only [List.length_drop, List.length_take]; rfl)) ?_
           with_reducible refine (span_Has.calls kj46 a1_0 a1_1 a1_2 a2 t240 _ A136.out).mono ?_
           rintro e w140 ⟨rfl, hb⟩
           refine ⟨_, rfl, ?_⟩
           have n0_ := Aside0.mk (blk_below (g := gb218) (o := .cells #[.string a0_0, .string a0_1, .bool a0_2] 31 (0, 0)) (by (with_reducible repeat (first | refine blk_drewN ?_ _ | refine blk_drew ?_ | refine blk_alloc ?_ _)); exact BK218.out) hb)
           have n1_ := Aside0.mk (blk_below (g := gb219) (o := .cells #[.string a1_0, .string a1_1, .bool a1_2] 31 (0, 0)) (by (with_reducible repeat (first | refine blk_drewN ?_ _ | refine blk_drew ?_ | refine blk_alloc ?_ _)); exact BK219.out) hb)
           have n2_ := Aside0.mk (blk_below (g := gb231) (o := .cells #[.string t227, .string t228, .bool t229] 31 (0, 0)) (by (with_reducible repeat (first | refine blk_drewN ?_ _ | refine blk_drew ?_ | refine blk_alloc ?_ _)); exact BK231.out) hb)
           have n3_ := Aside0.mk (below_step (by repeat (first | (with_reducible first | exact HB.out | apply below_alloc | apply pw_below_drewN | apply below_drew1 | refine below_set ?_ GE218.out | refine below_set ?_ GE219.out | refine below_set ?_ GE231.out) | exact HB.out)) hb)
           clear BK218
           clear BK219
           clear BK231
           clear HB
           have BK218 := n0_
           have BK219 := n1_
           have BK231 := n2_
           have HB := n3_
           clear n0_ n1_ n2_ n3_
           (try clear hb)
           (try clear hb2)
           (try clear hk)
           (try clear hi)
           refine hK.out _ _ ⟨(blk_cell BK231.out 0).trans rfl, (blk_cell BK231.out 1).trans rfl, (blk_cell BK231.out 2).trans rfl, (blk_cell BK218.out 0).trans rfl, (blk_cell BK218.out 1).trans rfl, (blk_cell BK218.out 2).trans rfl, (blk_cell BK219.out 0).trans rfl, (blk_cell BK219.out 1).trans rfl, (blk_cell BK219.out 2).trans rfl⟩ (fun hHeld => ?_)
           clear hK K
           refine norm_ (a' := ?_) ?_ ?_
           rotate_left
           ·show Act.put _ (some 80) _ = _
            simp only [Act.put, List.setIfInBounds_toArray, List.set_cons_zero, List.set_cons_succ, i64_w, i32_w]
            rfl
           refine pure_ (i := 13) (N := some 81) (v := ?_) (a' := ?_) #[true, true, true, true, true, true, true, true, true, true, true, true, true, true, false] rfl rfl (any_of HT_.out (by kernel_rfl)) (fun _ _ _ h => h) (Or.inl ⟨by rfl, ?_⟩) ?_ ?_
           rotate_left
           ·intro w'
            go_simp
            with_reducible rfl
           rotate_left
           ·simp only [Act.put, List.setIfInBounds_toArray, List.set_cons_zero, List.set_cons_succ, i64_w, i32_w]
            rfl
           refine pure_ (i := 14) (N := some 82) (v := ?_) (a' := ?_) #[true, true, true, true, true, true, true, true, true, true, true, true, true, true, true] rfl rfl (any_of HT_.out (by kernel_rfl)) (fun _ _ _ h => h) (Or.inl ⟨by rfl, ?_⟩) ?_ ?_
           rotate_left
           ·intro w'
            go_simp
            with_reducible rfl
           rotate_left
           ·simp only [Act.put, List.setIfInBounds_toArray, List.set_cons_zero, List.set_cons_succ, i64_w, i32_w]
            rfl
           refine done_ (done_of HT_.out (by kernel_rfl)) ?_
           try go_wp2
           go_meet
           case rel => exact ⟨_, ((t238 != t240)), (by first | rfl | (simp; done) | (simp [*]; done)), H', ⟨by have := HJ13.out; have := HJ46.out; first | omega | exact Nat.le_refl _⟩, ⟨by (with_reducible repeat (first | refine blk_drewN ?_ _ | refine blk_drew ?_ | refine blk_alloc ?_ _)); exact BK218.out⟩, ⟨by (with_reducible repeat (first | refine blk_drewN ?_ _ | refine blk_drew ?_ | refine blk_alloc ?_ _)); exact BK219.out⟩, ⟨by (with_reducible repeat (first | refine blk_drewN ?_ _ | refine blk_drew ?_ | refine blk_alloc ?_ _)); exact BK231.out⟩, ⟨by repeat (first | (with_reducible first | exact HB.out | apply below_alloc | apply pw_below_drewN | apply below_drew1 | refine below_set ?_ GE218.out | refine below_set ?_ GE219.out | refine below_set ?_ GE231.out) | exact HB.out)⟩⟩
          ·replace c135 := Bool.eq_false_iff.mpr c135
           subst c135
           have H1 : (k3_SM.j2 kj46 a2 t238 a0_0 a0_1 a0_2 a1_0 a1_1 a1_2) = some r := by rw [if_neg (show ¬ (false = true) by decide)] at H; exact H
           clear H
           have H := H1
           clear H1
           have H' := Aside0.mk H
           clear H
           try go_wp2
           have n0_ := Aside0.mk (blk_drew BK218.out)
           have n1_ := Aside0.mk (blk_drew BK219.out)
           have n2_ := Aside0.mk (blk_drew BK231.out)
           have n3_ := Aside0.mk (below_drew1 HB.out)
           clear BK218
           clear BK219
           clear BK231
           clear HB
           have BK218 := n0_
           have BK219 := n1_
           have BK231 := n2_
           have HB := n3_
           clear n0_ n1_ n2_ n3_
           refine start_ (n := 15) (S := fun w' => w'.cell? ⟨gb231, 0, none⟩ = some (.string t227) ∧ w'.cell? ⟨gb231, 1, none⟩ = some (.string t228) ∧ w'.cell? ⟨gb231, 2, none⟩ = some (.bool t229) ∧ w'.cell? ⟨gb218, 0, none⟩ = some (.string a0_0) ∧ w'.cell? ⟨gb218, 1, none⟩ = some (.string a0_1) ∧ w'.cell? ⟨gb218, 2, none⟩ = some (.bool a0_2)) (ds := []) #[false, false, false, false, false, false, false, false, false, false, false, false, false, false, false] (by kernel_rfl) rfl rfl ⟨(blk_cell BK231.out 0).trans rfl, (blk_cell BK231.out 1).trans rfl, (blk_cell BK231.out 2).trans rfl, (blk_cell BK218.out 0).trans rfl, (blk_cell BK218.out 1).trans rfl, (blk_cell BK218.out 2).trans rfl⟩ (fun hHeld => ?_); refine with_tabW k3_SM.tab8 k3_SM.bits8 (fun HT_ HW_ => ?_)
           generalize wc.drew = w141 at BK218 BK219 BK231 HB hHeld ⊢
           refine pure_ (i := 0) (N := some 68) (v := ?_) (a' := ?_) #[true, false, false, false, false, false, false, false, false, false, false, false, false, false, false] rfl rfl (any_of HT_.out (by kernel_rfl)) (fun _ _ _ h => h) (Or.inl ⟨by rfl, ?_⟩) ?_ ?_
           rotate_left
           ·intro w'
            go_simp
            with_reducible rfl
           rotate_left
           ·simp only [Act.put, List.setIfInBounds_toArray, List.set_cons_zero, List.set_cons_succ, i64_w, i32_w]
            rfl
           refine pure_ (i := 1) (N := some 69) (v := ?_) (a' := ?_) #[true, true, false, false, false, false, false, false, false, false, false, false, false, false, false] rfl rfl (any_of HT_.out (by kernel_rfl)) (fun _ _ _ h => h) (Or.inl ⟨by rfl, ?_⟩) ?_ ?_
           rotate_left
           ·intro w'
            go_simp
            with_reducible rfl
           rotate_left
           ·simp only [Act.put, List.setIfInBounds_toArray, List.set_cons_zero, List.set_cons_succ, i64_w, i32_w]
            rfl
           refine pure_ (i := 3) (N := some 71) (v := ?_) (a' := ?_) #[true, true, false, true, false, false, false, false, false, false, false, false, false, false, false] rfl rfl (any_of HT_.out (by kernel_rfl)) (fun _ _ _ h => h) (Or.inl ⟨by rfl, ?_⟩) ?_ ?_
           rotate_left
           ·intro w'
            go_simp
            with_reducible rfl
           rotate_left
           ·simp only [Act.put, List.setIfInBounds_toArray, List.set_cons_zero, List.set_cons_succ, i64_w, i32_w]
            rfl
           refine pure_ (i := 7) (N := some 75) (v := ?_) (a' := ?_) #[true, true, false, true, false, false, false, true, false, false, false, false, false, false, false] rfl rfl (any_of HT_.out (by kernel_rfl)) (fun _ _ _ h => h) (Or.inl ⟨by rfl, ?_⟩) ?_ ?_
           rotate_left
           ·intro w'
            go_simp
            with_reducible rfl
           rotate_left
           ·simp only [Act.put, List.setIfInBounds_toArray, List.set_cons_zero, List.set_cons_succ, i64_w, i32_w]
            rfl
           refine take_ (i := 2) (N := some 70) (v := ?_) (a' := ?_) #[true, true, true, true, false, false, false, true, false, false, false, false, false, false, false] rfl rfl (take_ofW HT_.out HW_.out (by kernel_rfl)) (fun _ _ _ h => h) (Or.inl ⟨by rfl, ?_⟩) hHeld ?_ ?_
           rotate_left
           ·rintro w' ⟨s0, s1, s2, s3, s4, s5⟩
            go_simp
            with_reducible rfl
           rotate_left
           ·simp only [Act.put, List.setIfInBounds_toArray, List.set_cons_zero, List.set_cons_succ, i64_w, i32_w]
            rfl
           refine take_ (i := 6) (N := some 74) (v := ?_) (a' := ?_) #[true, true, true, true, false, false, true, true, false, false, false, false, false, false, false] rfl rfl (take_ofW HT_.out HW_.out (by kernel_rfl)) (fun _ _ _ h => h) (Or.inl ⟨by rfl, ?_⟩) hHeld ?_ ?_
           rotate_left
           ·rintro w' ⟨s0, s1, s2, s3, s4, s5⟩
            go_simp
            with_reducible rfl
           rotate_left
           ·simp only [Act.put, List.setIfInBounds_toArray, List.set_cons_zero, List.set_cons_succ, i64_w, i32_w]
            rfl
           refine one_ (i := 4) (N := some 72) #[true, true, true, true, true, false, true, true, false, false, false, false, false, false, false] rfl rfl (one_of HT_.out (by kernel_rfl)) (by decide) (fun K hK => ?_)
           refine goes_ Try.func13 (by kernel_rfl) rfl #[.agg #[.string t227, .string t228, .bool t229], .string a2] (by rfl) rfl rfl (by (try simp only [List.map_toArray, List.map_cons, List.map_nil]); first | done | rfl | (simp only [List.length_drop, List.length_take]; rfl)) ?_
           with_reducible refine (span_Has.calls kj46 t227 t228 t229 a2 t238 _ A133.out).mono ?_
           rintro e w142 ⟨rfl, hb⟩
           refine ⟨_, rfl, ?_⟩
           have n0_ := Aside0.mk (blk_below (g := gb218) (o := .cells #[.string a0_0, .string a0_1, .bool a0_2] 31 (0, 0)) (by (with_reducible repeat (first | refine blk_drewN ?_ _ | refine blk_drew ?_ | refine blk_alloc ?_ _)); exact BK218.out) hb)
           have n1_ := Aside0.mk (blk_below (g := gb219) (o := .cells #[.string a1_0, .string a1_1, .bool a1_2] 31 (0, 0)) (by (with_reducible repeat (first | refine blk_drewN ?_ _ | refine blk_drew ?_ | refine blk_alloc ?_ _)); exact BK219.out) hb)
           have n2_ := Aside0.mk (blk_below (g := gb231) (o := .cells #[.string t227, .string t228, .bool t229] 31 (0, 0)) (by (with_reducible repeat (first | refine blk_drewN ?_ _ | refine blk_drew ?_ | refine blk_alloc ?_ _)); exact BK231.out) hb)
           have n3_ := Aside0.mk (below_step (by repeat (first | (with_reducible first | exact HB.out | apply below_alloc | apply pw_below_drewN | apply below_drew1 | refine below_set ?_ GE218.out | refine below_set ?_ GE219.out | refine below_set ?_ GE231.out) | exact HB.out)) hb)
           clear BK218
           clear BK219
           clear BK231
           clear HB
           have BK218 := n0_
           have BK219 := n1_
           have BK231 := n2_
           have HB := n3_
           clear n0_ n1_ n2_ n3_
           (try clear hb)
           (try clear hb2)
           (try clear hk)
           (try clear hi)
           refine hK.out _ _ ⟨(blk_cell BK231.out 0).trans rfl, (blk_cell BK231.out 1).trans rfl, (blk_cell BK231.out 2).trans rfl, (blk_cell BK218.out 0).trans rfl, (blk_cell BK218.out 1).trans rfl, (blk_cell BK218.out 2).trans rfl⟩ (fun hHeld => ?_)
           clear hK K
           refine norm_ (a' := ?_) ?_ ?_
           rotate_left
           ·show Act.put _ (some 72) _ = _
            simp only [Act.put, List.setIfInBounds_toArray, List.set_cons_zero, List.set_cons_succ, i64_w, i32_w]
            rfl
           refine pure_ (i := 5) (N := some 73) (v := ?_) (a' := ?_) #[true, true, true, true, true, true, true, true, false, false, false, false, false, false, false] rfl rfl (any_of HT_.out (by kernel_rfl)) (fun _ _ _ h => h) (Or.inl ⟨by rfl, ?_⟩) ?_ ?_
           rotate_left
           ·intro w'
            go_simp
            with_reducible rfl
           rotate_left
           ·simp only [Act.put, List.setIfInBounds_toArray, List.set_cons_zero, List.set_cons_succ, i64_w, i32_w]
            rfl
           refine one_ (i := 8) (N := some 76) #[true, true, true, true, true, true, true, true, true, false, false, false, false, false, false] rfl rfl (one_of HT_.out (by kernel_rfl)) (by decide) (fun K hK => ?_)
           refine goes_ Try.func13 (by kernel_rfl) rfl #[.agg #[.string a0_0, .string a0_1, .bool a0_2], .string a2] (by rfl) rfl rfl (by (try simp only [List.map_toArray, List.map_cons, List.map_nil]); first | done | rfl | (simp only [List.length_drop, List.length_take]; rfl)) ?_
           with_reducible refine (span_Has.calls kj46 a0_0 a0_1 a0_2 a2 false _ A134.out).mono ?_
           rintro e w143 ⟨rfl, hb⟩
           refine ⟨_, rfl, ?_⟩
           have n0_ := Aside0.mk (blk_below (g := gb218) (o := .cells #[.string a0_0, .string a0_1, .bool a0_2] 31 (0, 0)) (by (with_reducible repeat (first | refine blk_drewN ?_ _ | refine blk_drew ?_ | refine blk_alloc ?_ _)); exact BK218.out) hb)
           have n1_ := Aside0.mk (blk_below (g := gb219) (o := .cells #[.string a1_0, .string a1_1, .bool a1_2] 31 (0, 0)) (by (with_reducible repeat (first | refine blk_drewN ?_ _ | refine blk_drew ?_ | refine blk_alloc ?_ _)); exact BK219.out) hb)
           have n2_ := Aside0.mk (blk_below (g := gb231) (o := .cells #[.string t227, .string t228, .bool t229] 31 (0, 0)) (by (with_reducible repeat (first | refine blk_drewN ?_ _ | refine blk_drew ?_ | refine blk_alloc ?_ _)); exact BK231.out) hb)
           have n3_ := Aside0.mk (below_step (by repeat (first | (with_reducible first | exact HB.out | apply below_alloc | apply pw_below_drewN | apply below_drew1 | refine below_set ?_ GE218.out | refine below_set ?_ GE219.out | refine below_set ?_ GE231.out) | exact HB.out)) hb)
           clear BK218
           clear BK219
           clear BK231
           clear HB
           have BK218 := n0_
           have BK219 := n1_
           have BK231 := n2_
           have HB := n3_
           clear n0_ n1_ n2_ n3_
           (try clear hb)
           (try clear hb2)
           (try clear hk)
           (try clear hi)
           refine hK.out _ _ ⟨(blk_cell BK231.out 0).trans rfl, (blk_cell BK231.out 1).trans rfl, (blk_cell BK231.out 2).trans rfl, (blk_cell BK218.out 0).trans rfl, (blk_cell BK218.out 1).trans rfl, (blk_cell BK218.out 2).trans rfl⟩ (fun hHeld => ?_)
           clear hK K
           refine norm_ (a' := ?_) ?_ ?_
           rotate_left
           ·show Act.put _ (some 76) _ = _
            simp only [Act.put, List.setIfInBounds_toArray, List.set_cons_zero, List.set_cons_succ, i64_w, i32_w]
            rfl
           refine pure_ (i := 9) (N := some 77) (v := ?_) (a' := ?_) #[true, true, true, true, true, true, true, true, true, true, false, false, false, false, false] rfl rfl (any_of HT_.out (by kernel_rfl)) (fun _ _ _ h => h) (Or.inl ⟨by rfl, ?_⟩) ?_ ?_
           rotate_left
           ·intro w'
            go_simp
            with_reducible rfl
           rotate_left
           ·simp only [Act.put, List.setIfInBounds_toArray, List.set_cons_zero, List.set_cons_succ, i64_w, i32_w]
            rfl
           refine pure_ (i := 10) (N := some 78) (v := undef) (a' := ?_) #[true, true, true, true, true, true, true, true, true, true, true, false, false, false, false] rfl rfl (any_of HT_.out (by kernel_rfl)) (fun _ _ _ h => h) (Or.inr ⟨by rfl, rfl⟩) ?_ ?_
           rotate_left
           ·simp only [Act.put, List.setIfInBounds_toArray, List.set_cons_zero, List.set_cons_succ, i64_w, i32_w]
            rfl
           refine pure_ (i := 11) (N := some 79) (v := undef) (a' := ?_) #[true, true, true, true, true, true, true, true, true, true, true, true, false, false, false] rfl rfl (any_of HT_.out (by kernel_rfl)) (fun _ _ _ h => h) (Or.inr ⟨by rfl, rfl⟩) ?_ ?_
           rotate_left
           ·simp only [Act.put, List.setIfInBounds_toArray, List.set_cons_zero, List.set_cons_succ, i64_w, i32_w]
            rfl
           refine pure_ (i := 12) (N := some 80) (v := undef) (a' := ?_) #[true, true, true, true, true, true, true, true, true, true, true, true, true, false, false] rfl rfl (any_of HT_.out (by kernel_rfl)) (fun _ _ _ h => h) (Or.inr ⟨by rfl, rfl⟩) ?_ ?_
           rotate_left
           ·simp only [Act.put, List.setIfInBounds_toArray, List.set_cons_zero, List.set_cons_succ, i64_w, i32_w]
            rfl
           refine pure_ (i := 13) (N := some 81) (v := ?_) (a' := ?_) #[true, true, true, true, true, true, true, true, true, true, true, true, true, true, false] rfl rfl (any_of HT_.out (by kernel_rfl)) (fun _ _ _ h => h) (Or.inl ⟨by rfl, ?_⟩) ?_ ?_
           rotate_left
           ·intro w'
            go_simp
            with_reducible rfl
           rotate_left
           ·simp only [Act.put, List.setIfInBounds_toArray, List.set_cons_zero, List.set_cons_succ, i64_w, i32_w]
            rfl
           refine pure_ (i := 14) (N := some 82) (v := ?_) (a' := ?_) #[true, true, true, true, true, true, true, true, true, true, true, true, true, true, true] rfl rfl (any_of HT_.out (by kernel_rfl)) (fun _ _ _ h => h) (Or.inl ⟨by rfl, ?_⟩) ?_ ?_
           rotate_left
           ·intro w'
            go_simp
            with_reducible rfl
           rotate_left
           ·simp only [Act.put, List.setIfInBounds_toArray, List.set_cons_zero, List.set_cons_succ, i64_w, i32_w]
            rfl
           refine done_ (done_of HT_.out (by kernel_rfl)) ?_
           try go_wp2
           go_meet
           case rel => exact ⟨_, (t238), (by first | rfl | (simp; done) | (simp [*]; done)), H', ⟨by have := HJ13.out; have := HJ46.out; first | omega | exact Nat.le_refl _⟩, ⟨by (with_reducible repeat (first | refine blk_drewN ?_ _ | refine blk_drew ?_ | refine blk_alloc ?_ _)); exact BK218.out⟩, ⟨by (with_reducible repeat (first | refine blk_drewN ?_ _ | refine blk_drew ?_ | refine blk_alloc ?_ _)); exact BK219.out⟩, ⟨by (with_reducible repeat (first | refine blk_drewN ?_ _ | refine blk_drew ?_ | refine blk_alloc ?_ _)); exact BK231.out⟩, ⟨by repeat (first | (with_reducible first | exact HB.out | apply below_alloc | apply pw_below_drewN | apply below_drew1 | refine below_set ?_ GE218.out | refine below_set ?_ GE219.out | refine below_set ?_ GE231.out) | exact HB.out)⟩⟩
         ·replace c132 := Bool.eq_false_iff.mpr c132
          subst c132
          have H1 : ((span_Has.f kj46 a0_0 a0_1 a0_2 a2).bind fun t241 => (if t241 = true then ((span_Has.f kj46 a1_0 a1_1 a1_2 a2).bind fun t242 => (k3_SM.j2 kj46 a2 t242 a0_0 a0_1 a0_2 a1_0 a1_1 a1_2)) else (k3_SM.j2 kj46 a2 false a0_0 a0_1 a0_2 a1_0 a1_1 a1_2))) = some r := by rw [if_neg (show ¬ (false = true) by decide)] at H; exact H
          clear H
          have H := H1
          clear H1
          replace H := Option.bind_eq_some_iff.mp H
          obtain ⟨t241, A1440, H⟩ := H
          replace H : (if t241 = true then ((span_Has.f kj46 a1_0 a1_1 a1_2 a2).bind fun t242 => (k3_SM.j2 kj46 a2 t242 a0_0 a0_1 a0_2 a1_0 a1_1 a1_2)) else (k3_SM.j2 kj46 a2 false a0_0 a0_1 a0_2 a1_0 a1_1 a1_2)) = some r := H
          have A144 := Aside0.mk A1440
          clear A1440
          by_cases c145 : t241 = true
          ·subst c145
           have H1 : ((span_Has.f kj46 a1_0 a1_1 a1_2 a2).bind fun t242 => (k3_SM.j2 kj46 a2 t242 a0_0 a0_1 a0_2 a1_0 a1_1 a1_2)) = some r := by rw [if_pos rfl] at H; exact H
           clear H
           have H := H1
           clear H1
           replace H := Option.bind_eq_some_iff.mp H
           obtain ⟨t242, A1460, H⟩ := H
           replace H : (k3_SM.j2 kj46 a2 t242 a0_0 a0_1 a0_2 a1_0 a1_1 a1_2) = some r := H
           have A146 := Aside0.mk A1460
           clear A1460
           have H' := Aside0.mk H
           clear H
           try go_wp2
           have n0_ := Aside0.mk (blk_drew BK218.out)
           have n1_ := Aside0.mk (blk_drew BK219.out)
           have n2_ := Aside0.mk (blk_drew BK231.out)
           have n3_ := Aside0.mk (below_drew1 HB.out)
           clear BK218
           clear BK219
           clear BK231
           clear HB
           have BK218 := n0_
           have BK219 := n1_
           have BK231 := n2_
           have HB := n3_
           clear n0_ n1_ n2_ n3_
           refine start_ (n := 15) (S := fun w' => w'.cell? ⟨gb218, 0, none⟩ = some (.string a0_0) ∧ w'.cell? ⟨gb218, 1, none⟩ = some (.string a0_1) ∧ w'.cell? ⟨gb218, 2, none⟩ = some (.bool a0_2) ∧ w'.cell? ⟨gb219, 0, none⟩ = some (.string a1_0) ∧ w'.cell? ⟨gb219, 1, none⟩ = some (.string a1_1) ∧ w'.cell? ⟨gb219, 2, none⟩ = some (.bool a1_2)) (ds := []) #[false, false, false, false, false, false, false, false, false, false, false, false, false, false, false] (by kernel_rfl) rfl rfl ⟨(blk_cell BK218.out 0).trans rfl, (blk_cell BK218.out 1).trans rfl, (blk_cell BK218.out 2).trans rfl, (blk_cell BK219.out 0).trans rfl, (blk_cell BK219.out 1).trans rfl, (blk_cell BK219.out 2).trans rfl⟩ (fun hHeld => ?_); refine with_tabW k3_SM.tab8 k3_SM.bits8 (fun HT_ HW_ => ?_)
           generalize wc.drew = w147 at BK218 BK219 BK231 HB hHeld ⊢
           refine pure_ (i := 0) (N := some 68) (v := ?_) (a' := ?_) #[true, false, false, false, false, false, false, false, false, false, false, false, false, false, false] rfl rfl (any_of HT_.out (by kernel_rfl)) (fun _ _ _ h => h) (Or.inl ⟨by rfl, ?_⟩) ?_ ?_
           rotate_left
           ·intro w'
            go_simp
            with_reducible rfl
           rotate_left
           ·simp only [Act.put, List.setIfInBounds_toArray, List.set_cons_zero, List.set_cons_succ, i64_w, i32_w]
            rfl
           refine pure_ (i := 1) (N := some 69) (v := ?_) (a' := ?_) #[true, true, false, false, false, false, false, false, false, false, false, false, false, false, false] rfl rfl (any_of HT_.out (by kernel_rfl)) (fun _ _ _ h => h) (Or.inl ⟨by rfl, ?_⟩) ?_ ?_
           rotate_left
           ·intro w'
            go_simp
            with_reducible rfl
           rotate_left
           ·simp only [Act.put, List.setIfInBounds_toArray, List.set_cons_zero, List.set_cons_succ, i64_w, i32_w]
            rfl
           refine pure_ (i := 2) (N := some 70) (v := undef) (a' := ?_) #[true, true, true, false, false, false, false, false, false, false, false, false, false, false, false] rfl rfl (any_of HT_.out (by kernel_rfl)) (fun _ _ _ h => h) (Or.inr ⟨by rfl, rfl⟩) ?_ ?_
           rotate_left
           ·simp only [Act.put, List.setIfInBounds_toArray, List.set_cons_zero, List.set_cons_succ, i64_w, i32_w]
            rfl
           refine pure_ (i := 3) (N := some 71) (v := undef) (a' := ?_) #[true, true, true, true, false, false, false, false, false, false, false, false, false, false, false] rfl rfl (any_of HT_.out (by kernel_rfl)) (fun _ _ _ h => h) (Or.inr ⟨by rfl, rfl⟩) ?_ ?_
           rotate_left
           ·simp only [Act.put, List.setIfInBounds_toArray, List.set_cons_zero, List.set_cons_succ, i64_w, i32_w]
            rfl
           refine pure_ (i := 4) (N := some 72) (v := undef) (a' := ?_) #[true, true, true, true, true, false, false, false, false, false, false, false, false, false, false] rfl rfl (any_of HT_.out (by kernel_rfl)) (fun _ _ _ h => h) (Or.inr ⟨by rfl, rfl⟩) ?_ ?_
           rotate_left
           ·simp only [Act.put, List.setIfInBounds_toArray, List.set_cons_zero, List.set_cons_succ, i64_w, i32_w]
            rfl
           refine pure_ (i := 5) (N := some 73) (v := ?_) (a' := ?_) #[true, true, true, true, true, true, false, false, false, false, false, false, false, false, false] rfl rfl (any_of HT_.out (by kernel_rfl)) (fun _ _ _ h => h) (Or.inl ⟨by rfl, ?_⟩) ?_ ?_
           rotate_left
           ·intro w'
            go_simp
            with_reducible rfl
           rotate_left
           ·simp only [Act.put, List.setIfInBounds_toArray, List.set_cons_zero, List.set_cons_succ, i64_w, i32_w]
            rfl
           refine pure_ (i := 7) (N := some 75) (v := ?_) (a' := ?_) #[true, true, true, true, true, true, false, true, false, false, false, false, false, false, false] rfl rfl (any_of HT_.out (by kernel_rfl)) (fun _ _ _ h => h) (Or.inl ⟨by rfl, ?_⟩) ?_ ?_
           rotate_left
           ·intro w'
            go_simp
            with_reducible rfl
           rotate_left
           ·simp only [Act.put, List.setIfInBounds_toArray, List.set_cons_zero, List.set_cons_succ, i64_w, i32_w]
            rfl
           refine take_ (i := 6) (N := some 74) (v := ?_) (a' := ?_) #[true, true, true, true, true, true, true, true, false, false, false, false, false, false, false] rfl rfl (take_ofW HT_.out HW_.out (by kernel_rfl)) (fun _ _ _ h => h) (Or.inl ⟨by rfl, ?_⟩) hHeld ?_ ?_
           rotate_left
           ·rintro w' ⟨s0, s1, s2, s3, s4, s5⟩
            go_simp
            with_reducible rfl
           rotate_left
           ·simp only [Act.put, List.setIfInBounds_toArray, List.set_cons_zero, List.set_cons_succ, i64_w, i32_w]
            rfl
           refine one_ (i := 8) (N := some 76) #[true, true, true, true, true, true, true, true, true, false, false, false, false, false, false] rfl rfl (one_of HT_.out (by kernel_rfl)) (by decide) (fun K hK => ?_)
           refine goes_ Try.func13 (by kernel_rfl) rfl #[.agg #[.string a0_0, .string a0_1, .bool a0_2], .string a2] (by rfl) rfl rfl (by (try simp only [List.map_toArray, List.map_cons, List.map_nil]); first | done | rfl | (simp only [List.length_drop, List.length_take]; rfl)) ?_
           with_reducible refine (span_Has.calls kj46 a0_0 a0_1 a0_2 a2 true _ A144.out).mono ?_
           rintro e w148 ⟨rfl, hb⟩
           refine ⟨_, rfl, ?_⟩
           have n0_ := Aside0.mk (blk_below (g := gb218) (o := .cells #[.string a0_0, .string a0_1, .bool a0_2] 31 (0, 0)) (by (with_reducible repeat (first | refine blk_drewN ?_ _ | refine blk_drew ?_ | refine blk_alloc ?_ _)); exact BK218.out) hb)
           have n1_ := Aside0.mk (blk_below (g := gb219) (o := .cells #[.string a1_0, .string a1_1, .bool a1_2] 31 (0, 0)) (by (with_reducible repeat (first | refine blk_drewN ?_ _ | refine blk_drew ?_ | refine blk_alloc ?_ _)); exact BK219.out) hb)
           have n2_ := Aside0.mk (blk_below (g := gb231) (o := .cells #[.string t227, .string t228, .bool t229] 31 (0, 0)) (by (with_reducible repeat (first | refine blk_drewN ?_ _ | refine blk_drew ?_ | refine blk_alloc ?_ _)); exact BK231.out) hb)
           have n3_ := Aside0.mk (below_step (by repeat (first | (with_reducible first | exact HB.out | apply below_alloc | apply pw_below_drewN | apply below_drew1 | refine below_set ?_ GE218.out | refine below_set ?_ GE219.out | refine below_set ?_ GE231.out) | exact HB.out)) hb)
           clear BK218
           clear BK219
           clear BK231
           clear HB
           have BK218 := n0_
           have BK219 := n1_
           have BK231 := n2_
           have HB := n3_
           clear n0_ n1_ n2_ n3_
           (try clear hb)
           (try clear hb2)
           (try clear hk)
           (try clear hi)
           refine hK.out _ _ ⟨(blk_cell BK218.out 0).trans rfl, (blk_cell BK218.out 1).trans rfl, (blk_cell BK218.out 2).trans rfl, (blk_cell BK219.out 0).trans rfl, (blk_cell BK219.out 1).trans rfl, (blk_cell BK219.out 2).trans rfl⟩ (fun hHeld => ?_)
           clear hK K
           refine norm_ (a' := ?_) ?_ ?_
           rotate_left
           ·show Act.put _ (some 76) _ = _
            simp only [Act.put, List.setIfInBounds_toArray, List.set_cons_zero, List.set_cons_succ, i64_w, i32_w]
            rfl
           refine pure_ (i := 9) (N := some 77) (v := ?_) (a' := ?_) #[true, true, true, true, true, true, true, true, true, true, false, false, false, false, false] rfl rfl (any_of HT_.out (by kernel_rfl)) (fun _ _ _ h => h) (Or.inl ⟨by rfl, ?_⟩) ?_ ?_
           rotate_left
           ·intro w'
            go_simp
            with_reducible rfl
           rotate_left
           ·simp only [Act.put, List.setIfInBounds_toArray, List.set_cons_zero, List.set_cons_succ, i64_w, i32_w]
            rfl
           refine pure_ (i := 11) (N := some 79) (v := ?_) (a' := ?_) #[true, true, true, true, true, true, true, true, true, true, false, true, false, false, false] rfl rfl (any_of HT_.out (by kernel_rfl)) (fun _ _ _ h => h) (Or.inl ⟨by rfl, ?_⟩) ?_ ?_
           rotate_left
           ·intro w'
            go_simp
            with_reducible rfl
           rotate_left
           ·simp only [Act.put, List.setIfInBounds_toArray, List.set_cons_zero, List.set_cons_succ, i64_w, i32_w]
            rfl
           refine take_ (i := 10) (N := some 78) (v := ?_) (a' := ?_) #[true, true, true, true, true, true, true, true, true, true, true, true, false, false, false] rfl rfl (take_ofW HT_.out HW_.out (by kernel_rfl)) (fun _ _ _ h => h) (Or.inl ⟨by rfl, ?_⟩) hHeld ?_ ?_
           rotate_left
           ·rintro w' ⟨s0, s1, s2, s3, s4, s5⟩
            go_simp
            with_reducible rfl
           rotate_left
           ·simp only [Act.put, List.setIfInBounds_toArray, List.set_cons_zero, List.set_cons_succ, i64_w, i32_w]
            rfl
           refine one_ (i := 12) (N := some 80) #[true, true, true, true, true, true, true, true, true, true, true, true, true, false, false] rfl rfl (one_of HT_.out (by kernel_rfl)) (by decide) (fun K hK => ?_)
           refine goes_ Try.func13 (by kernel_rfl) rfl #[.agg #[.string a1_0, .string a1_1, .bool a1_2], .string a2] (by rfl) rfl rfl (by (try simp only [List.map_toArray, List.map_cons, List.map_nil]); first | done | rfl | (simp only [List.length_drop, List.length_take]; rfl)) ?_
           with_reducible refine (span_Has.calls kj46 a1_0 a1_1 a1_2 a2 t242 _ A146.out).mono ?_
           rintro e w149 ⟨rfl, hb⟩
           refine ⟨_, rfl, ?_⟩
           have n0_ := Aside0.mk (blk_below (g := gb218) (o := .cells #[.string a0_0, .string a0_1, .bool a0_2] 31 (0, 0)) (by (with_reducible repeat (first | refine blk_drewN ?_ _ | refine blk_drew ?_ | refine blk_alloc ?_ _)); exact BK218.out) hb)
           have n1_ := Aside0.mk (blk_below (g := gb219) (o := .cells #[.string a1_0, .string a1_1, .bool a1_2] 31 (0, 0)) (by (with_reducible repeat (first | refine blk_drewN ?_ _ | refine blk_drew ?_ | refine blk_alloc ?_ _)); exact BK219.out) hb)
           have n2_ := Aside0.mk (blk_below (g := gb231) (o := .cells #[.string t227, .string t228, .bool t229] 31 (0, 0)) (by (with_reducible repeat (first | refine blk_drewN ?_ _ | refine blk_drew ?_ | refine blk_alloc ?_ _)); exact BK231.out) hb)
           have n3_ := Aside0.mk (below_step (by repeat (first | (with_reducible first | exact HB.out | apply below_alloc | apply pw_below_drewN | apply below_drew1 | refine below_set ?_ GE218.out | refine below_set ?_ GE219.out | refine below_set ?_ GE231.out) | exact HB.out)) hb)
           clear BK218
           clear BK219
           clear BK231
           clear HB
           have BK218 := n0_
           have BK219 := n1_
           have BK231 := n2_
           have HB := n3_
           clear n0_ n1_ n2_ n3_
           (try clear hb)
           (try clear hb2)
           (try clear hk)
           (try clear hi)
           refine hK.out _ _ ⟨(blk_cell BK218.out 0).trans rfl, (blk_cell BK218.out 1).trans rfl, (blk_cell BK218.out 2).trans rfl, (blk_cell BK219.out 0).trans rfl, (blk_cell BK219.out 1).trans rfl, (blk_cell BK219.out 2).trans rfl⟩ (fun hHeld => ?_)
           clear hK K
           refine norm_ (a' := ?_) ?_ ?_
           rotate_left
           ·show Act.put _ (some 80) _ = _
            simp only [Act.put, List.setIfInBounds_toArray, List.set_cons_zero, List.set_cons_succ, i64_w, i32_w]
            rfl
           refine pure_ (i := 13) (N := some 81) (v := ?_) (a' := ?_) #[true, true, true, true, true, true, true, true, true, true, true, true, true, true, false] rfl rfl (any_of HT_.out (by kernel_rfl)) (fun _ _ _ h => h) (Or.inl ⟨by rfl, ?_⟩) ?_ ?_
           rotate_left
           ·intro w'
            go_simp
            with_reducible rfl
           rotate_left
           ·simp only [Act.put, List.setIfInBounds_toArray, List.set_cons_zero, List.set_cons_succ, i64_w, i32_w]
            rfl
           refine pure_ (i := 14) (N := some 82) (v := ?_) (a' := ?_) #[true, true, true, true, true, true, true, true, true, true, true, true, true, true, true] rfl rfl (any_of HT_.out (by kernel_rfl)) (fun _ _ _ h => h) (Or.inl ⟨by rfl, ?_⟩) ?_ ?_
           rotate_left
           ·intro w'
            go_simp
            with_reducible rfl
           rotate_left
           ·simp only [Act.put, List.setIfInBounds_toArray, List.set_cons_zero, List.set_cons_succ, i64_w, i32_w]
            rfl
           refine done_ (done_of HT_.out (by kernel_rfl)) ?_
           try go_wp2
           go_meet
           case rel => exact ⟨_, (t242), (by first | rfl | (simp; done) | (simp [*]; done)), H', ⟨by have := HJ13.out; have := HJ46.out; first | omega | exact Nat.le_refl _⟩, ⟨by (with_reducible repeat (first | refine blk_drewN ?_ _ | refine blk_drew ?_ | refine blk_alloc ?_ _)); exact BK218.out⟩, ⟨by (with_reducible repeat (first | refine blk_drewN ?_ _ | refine blk_drew ?_ | refine blk_alloc ?_ _)); exact BK219.out⟩, ⟨by (with_reducible repeat (first | refine blk_drewN ?_ _ | refine blk_drew ?_ | refine blk_alloc ?_ _)); exact BK231.out⟩, ⟨by repeat (first | (with_reducible first | exact HB.out | apply below_alloc | apply pw_below_drewN | apply below_drew1 | refine below_set ?_ GE218.out | refine below_set ?_ GE219.out | refine below_set ?_ GE231.out) | exact HB.out)⟩⟩
          ·replace c145 := Bool.eq_false_iff.mpr c145
           subst c145
           have H1 : (k3_SM.j2 kj46 a2 false a0_0 a0_1 a0_2 a1_0 a1_1 a1_2) = some r := by rw [if_neg (show ¬ (false = true) by decide)] at H; exact H
           clear H
           have H := H1
           clear H1
           have H' := Aside0.mk H
           clear H
           try go_wp2
           have n0_ := Aside0.mk (blk_drew BK218.out)
           have n1_ := Aside0.mk (blk_drew BK219.out)
           have n2_ := Aside0.mk (blk_drew BK231.out)
           have n3_ := Aside0.mk (below_drew1 HB.out)
           clear BK218
           clear BK219
           clear BK231
           clear HB
           have BK218 := n0_
           have BK219 := n1_
           have BK231 := n2_
           have HB := n3_
           clear n0_ n1_ n2_ n3_
           refine start_ (n := 15) (S := fun w' => w'.cell? ⟨gb218, 0, none⟩ = some (.string a0_0) ∧ w'.cell? ⟨gb218, 1, none⟩ = some (.string a0_1) ∧ w'.cell? ⟨gb218, 2, none⟩ = some (.bool a0_2)) (ds := []) #[false, false, false, false, false, false, false, false, false, false, false, false, false, false, false] (by kernel_rfl) rfl rfl ⟨(blk_cell BK218.out 0).trans rfl, (blk_cell BK218.out 1).trans rfl, (blk_cell BK218.out 2).trans rfl⟩ (fun hHeld => ?_); refine with_tabW k3_SM.tab8 k3_SM.bits8 (fun HT_ HW_ => ?_)
           generalize wc.drew = w150 at BK218 BK219 BK231 HB hHeld ⊢
           refine pure_ (i := 0) (N := some 68) (v := ?_) (a' := ?_) #[true, false, false, false, false, false, false, false, false, false, false, false, false, false, false] rfl rfl (any_of HT_.out (by kernel_rfl)) (fun _ _ _ h => h) (Or.inl ⟨by rfl, ?_⟩) ?_ ?_
           rotate_left
           ·intro w'
            go_simp
            with_reducible rfl
           rotate_left
           ·simp only [Act.put, List.setIfInBounds_toArray, List.set_cons_zero, List.set_cons_succ, i64_w, i32_w]
            rfl
           refine pure_ (i := 1) (N := some 69) (v := ?_) (a' := ?_) #[true, true, false, false, false, false, false, false, false, false, false, false, false, false, false] rfl rfl (any_of HT_.out (by kernel_rfl)) (fun _ _ _ h => h) (Or.inl ⟨by rfl, ?_⟩) ?_ ?_
           rotate_left
           ·intro w'
            go_simp
            with_reducible rfl
           rotate_left
           ·simp only [Act.put, List.setIfInBounds_toArray, List.set_cons_zero, List.set_cons_succ, i64_w, i32_w]
            rfl
           refine pure_ (i := 2) (N := some 70) (v := undef) (a' := ?_) #[true, true, true, false, false, false, false, false, false, false, false, false, false, false, false] rfl rfl (any_of HT_.out (by kernel_rfl)) (fun _ _ _ h => h) (Or.inr ⟨by rfl, rfl⟩) ?_ ?_
           rotate_left
           ·simp only [Act.put, List.setIfInBounds_toArray, List.set_cons_zero, List.set_cons_succ, i64_w, i32_w]
            rfl
           refine pure_ (i := 3) (N := some 71) (v := undef) (a' := ?_) #[true, true, true, true, false, false, false, false, false, false, false, false, false, false, false] rfl rfl (any_of HT_.out (by kernel_rfl)) (fun _ _ _ h => h) (Or.inr ⟨by rfl, rfl⟩) ?_ ?_
           rotate_left
           ·simp only [Act.put, List.setIfInBounds_toArray, List.set_cons_zero, List.set_cons_succ, i64_w, i32_w]
            rfl
           refine pure_ (i := 4) (N := some 72) (v := undef) (a' := ?_) #[true, true, true, true, true, false, false, false, false, false, false, false, false, false, false] rfl rfl (any_of HT_.out (by kernel_rfl)) (fun _ _ _ h => h) (Or.inr ⟨by rfl, rfl⟩) ?_ ?_
           rotate_left
           ·simp only [Act.put, List.setIfInBounds_toArray, List.set_cons_zero, List.set_cons_succ, i64_w, i32_w]
            rfl
           refine pure_ (i := 5) (N := some 73) (v := ?_) (a' := ?_) #[true, true, true, true, true, true, false, false, false, false, false, false, false, false, false] rfl rfl (any_of HT_.out (by kernel_rfl)) (fun _ _ _ h => h) (Or.inl ⟨by rfl, ?_⟩) ?_ ?_
           rotate_left
           ·intro w'
            go_simp
            with_reducible rfl
           rotate_left
           ·simp only [Act.put, List.setIfInBounds_toArray, List.set_cons_zero, List.set_cons_succ, i64_w, i32_w]
            rfl
           refine pure_ (i := 7) (N := some 75) (v := ?_) (a' := ?_) #[true, true, true, true, true, true, false, true, false, false, false, false, false, false, false] rfl rfl (any_of HT_.out (by kernel_rfl)) (fun _ _ _ h => h) (Or.inl ⟨by rfl, ?_⟩) ?_ ?_
           rotate_left
           ·intro w'
            go_simp
            with_reducible rfl
           rotate_left
           ·simp only [Act.put, List.setIfInBounds_toArray, List.set_cons_zero, List.set_cons_succ, i64_w, i32_w]
            rfl
           refine take_ (i := 6) (N := some 74) (v := ?_) (a' := ?_) #[true, true, true, true, true, true, true, true, false, false, false, false, false, false, false] rfl rfl (take_ofW HT_.out HW_.out (by kernel_rfl)) (fun _ _ _ h => h) (Or.inl ⟨by rfl, ?_⟩) hHeld ?_ ?_
           rotate_left
           ·rintro w' ⟨s0, s1, s2⟩
            go_simp
            with_reducible rfl
           rotate_left
           ·simp only [Act.put, List.setIfInBounds_toArray, List.set_cons_zero, List.set_cons_succ, i64_w, i32_w]
            rfl
           refine one_ (i := 8) (N := some 76) #[true, true, true, true, true, true, true, true, true, false, false, false, false, false, false] rfl rfl (one_of HT_.out (by kernel_rfl)) (by decide) (fun K hK => ?_)
           refine goes_ Try.func13 (by kernel_rfl) rfl #[.agg #[.string a0_0, .string a0_1, .bool a0_2], .string a2] (by rfl) rfl rfl (by (try simp only [List.map_toArray, List.map_cons, List.map_nil]); first | done | rfl | (simp only [List.length_drop, List.length_take]; rfl)) ?_
           with_reducible refine (span_Has.calls kj46 a0_0 a0_1 a0_2 a2 false _ A144.out).mono ?_
           rintro e w151 ⟨rfl, hb⟩
           refine ⟨_, rfl, ?_⟩
           have n0_ := Aside0.mk (blk_below (g := gb218) (o := .cells #[.string a0_0, .string a0_1, .bool a0_2] 31 (0, 0)) (by (with_reducible repeat (first | refine blk_drewN ?_ _ | refine blk_drew ?_ | refine blk_alloc ?_ _)); exact BK218.out) hb)
           have n1_ := Aside0.mk (blk_below (g := gb219) (o := .cells #[.string a1_0, .string a1_1, .bool a1_2] 31 (0, 0)) (by (with_reducible repeat (first | refine blk_drewN ?_ _ | refine blk_drew ?_ | refine blk_alloc ?_ _)); exact BK219.out) hb)
           have n2_ := Aside0.mk (blk_below (g := gb231) (o := .cells #[.string t227, .string t228, .bool t229] 31 (0, 0)) (by (with_reducible repeat (first | refine blk_drewN ?_ _ | refine blk_drew ?_ | refine blk_alloc ?_ _)); exact BK231.out) hb)
           have n3_ := Aside0.mk (below_step (by repeat (first | (with_reducible first | exact HB.out | apply below_alloc | apply pw_below_drewN | apply below_drew1 | refine below_set ?_ GE218.out | refine below_set ?_ GE219.out | refine below_set ?_ GE231.out) | exact HB.out)) hb)
           clear BK218
           clear BK219
           clear BK231
           clear HB
           have BK218 := n0_
           have BK219 := n1_
           have BK231 := n2_
           have HB := n3_
           clear n0_ n1_ n2_ n3_
           (try clear hb)
           (try clear hb2)
           (try clear hk)
           (try clear hi)
           refine hK.out _ _ ⟨(blk_cell BK218.out 0).trans rfl, (blk_cell BK218.out 1).trans rfl, (blk_cell BK218.out 2).trans rfl⟩ (fun hHeld => ?_)
           clear hK K
           refine norm_ (a' := ?_) ?_ ?_
           rotate_left
           ·show Act.put _ (some 76) _ = _
            simp only [Act.put, List.setIfInBounds_toArray, List.set_cons_zero, List.set_cons_succ, i64_w, i32_w]
            rfl
           refine pure_ (i := 9) (N := some 77) (v := ?_) (a' := ?_) #[true, true, true, true, true, true, true, true, true, true, false, false, false, false, false] rfl rfl (any_of HT_.out (by kernel_rfl)) (fun _ _ _ h => h) (Or.inl ⟨by rfl, ?_⟩) ?_ ?_
           rotate_left
           ·intro w'
            go_simp
            with_reducible rfl
           rotate_left
           ·simp only [Act.put, List.setIfInBounds_toArray, List.set_cons_zero, List.set_cons_succ, i64_w, i32_w]
            rfl
           refine pure_ (i := 10) (N := some 78) (v := undef) (a' := ?_) #[true, true, true, true, true, true, true, true, true, true, true, false, false, false, false] rfl rfl (any_of HT_.out (by kernel_rfl)) (fun _ _ _ h => h) (Or.inr ⟨by rfl, rfl⟩) ?_ ?_
           rotate_left
           ·simp only [Act.put, List.setIfInBounds_toArray, List.set_cons_zero, List.set_cons_succ, i64_w, i32_w]
            rfl
           refine pure_ (i := 11) (N := some 79) (v := undef) (a' := ?_) #[true, true, true, true, true, true, true, true, true, true, true, true, false, false, false] rfl rfl (any_of HT_.out (by kernel_rfl)) (fun _ _ _ h => h) (Or.inr ⟨by rfl, rfl⟩) ?_ ?_
           rotate_left
           ·simp only [Act.put, List.setIfInBounds_toArray, List.set_cons_zero, List.set_cons_succ, i64_w, i32_w]
            rfl
           refine pure_ (i := 12) (N := some 80) (v := undef) (a' := ?_) #[true, true, true, true, true, true, true, true, true, true, true, true, true, false, false] rfl rfl (any_of HT_.out (by kernel_rfl)) (fun _ _ _ h => h) (Or.inr ⟨by rfl, rfl⟩) ?_ ?_
           rotate_left
           ·simp only [Act.put, List.setIfInBounds_toArray, List.set_cons_zero, List.set_cons_succ, i64_w, i32_w]
            rfl
           refine pure_ (i := 13) (N := some 81) (v := ?_) (a' := ?_) #[true, true, true, true, true, true, true, true, true, true, true, true, true, true, false] rfl rfl (any_of HT_.out (by kernel_rfl)) (fun _ _ _ h => h) (Or.inl ⟨by rfl, ?_⟩) ?_ ?_
           rotate_left
           ·intro w'
            go_simp
            with_reducible rfl
           rotate_left
           ·simp only [Act.put, List.setIfInBounds_toArray, List.set_cons_zero, List.set_cons_succ, i64_w, i32_w]
            rfl
           refine pure_ (i := 14) (N := some 82) (v := ?_) (a' := ?_) #[true, true, true, true, true, true, true, true, true, true, true, true, true, true, true] rfl rfl (any_of HT_.out (by kernel_rfl)) (fun _ _ _ h => h) (Or.inl ⟨by rfl, ?_⟩) ?_ ?_
           rotate_left
           ·intro w'
            go_simp
            with_reducible rfl
           rotate_left
           ·simp only [Act.put, List.setIfInBounds_toArray, List.set_cons_zero, List.set_cons_succ, i64_w, i32_w]
            rfl
           refine done_ (done_of HT_.out (by kernel_rfl)) ?_
           try go_wp2
           go_meet
           case rel => exact ⟨_, (false), (by first | rfl | (simp; done) | (simp [*]; done)), H', ⟨by have := HJ13.out; have := HJ46.out; first | omega | exact Nat.le_refl _⟩, ⟨by (with_reducible repeat (first | refine blk_drewN ?_ _ | refine blk_drew ?_ | refine blk_alloc ?_ _)); exact BK218.out⟩, ⟨by (with_reducible repeat (first | refine blk_drewN ?_ _ | refine blk_drew ?_ | refine blk_alloc ?_ _)); exact BK219.out⟩, ⟨by (with_reducible repeat (first | refine blk_drewN ?_ _ | refine blk_drew ?_ | refine blk_alloc ?_ _)); exact BK231.out⟩, ⟨by repeat (first | (with_reducible first | exact HB.out | apply below_alloc | apply pw_below_drewN | apply below_drew1 | refine below_set ?_ GE218.out | refine below_set ?_ GE219.out | refine below_set ?_ GE231.out) | exact HB.out)⟩⟩
        case rest =>
         clear HC131
         try clear c1
         try clear p2
         try clear c13
         try clear c14
         try clear c132
         try clear c135
         try clear c145
         obtain ⟨kq, x82_130, rfl, HA, HJ130, BK218, BK219, BK231, HB⟩ := hcut
         cases kq with
         | zero => exact absurd HA.out (by simp [k3_SM.j2])
         | succ kj130 =>
          have H := HA.out
          clear HA
          simp only [k3_SM.j2] at H
          by_cases c152 : x82_130 = true
          ·subst c152
           have H1 : (none) = some r := by rw [if_pos rfl] at H; exact H
           clear H
           have H := H1
           clear H1
           exact absurd H (by simp)
          ·replace c152 := Bool.eq_false_iff.mpr c152
           subst c152
           have H1 : ((span_Within.f kj130 a0_0 a0_1 a0_2 a1_0 a1_1 a1_2).bind fun t243 => (if t243 = true then ((span_Has.f kj130 a1_0 a1_1 a1_2 a0_0).bind fun t244 => (if t244 = true then ((span_Has.f kj130 a0_0 a0_1 a0_2 a2).bind fun t245 => (if t245 = true then ((span_Has.f kj130 a1_0 a1_1 a1_2 a2).bind fun t246 => (k3_SM.j3 kj130 a2 (!t246) a0_0 a0_1 a0_2)) else (k3_SM.j3 kj130 a2 false a0_0 a0_1 a0_2))) else (k3_SM.j3 kj130 a2 true a0_0 a0_1 a0_2))) else (k3_SM.j3 kj130 a2 false a0_0 a0_1 a0_2))) = some r := by rw [if_neg (show ¬ (false = true) by decide)] at H; exact H
           clear H
           have H := H1
           clear H1
           have HC153 := Aside0.mk H
           clear H
           go_upto_region 10 with (fail)
           go_cut [103] (fun v103 wc => ∃ (kq : Nat) (x103_152 : Bool), v103 = .bool x103_152 ∧ Aside0 (k3_SM.j3 kq a2 x103_152 a0_0 a0_1 a0_2 = some r) ∧ Aside0 (kq ≤ kj130) ∧ Aside0 (wc.heap[gb218]? = some (.cells #[.string a0_0, .string a0_1, .bool a0_2] 31 (0, 0))) ∧ Aside0 (wc.heap[gb219]? = some (.cells #[.string a1_0, .string a1_1, .bool a1_2] 31 (0, 0))) ∧ Aside0 (wc.heap[gb231]? = some (.cells #[.string t227, .string t228, .bool t229] 31 (0, 0))) ∧ Aside0 (Below w.heap.size w wc))
           case first =>
            have H := HC153.out
            clear HC153
            replace H := Option.bind_eq_some_iff.mp H
            obtain ⟨t243, A1540, H⟩ := H
            replace H : (if t243 = true then ((span_Has.f kj130 a1_0 a1_1 a1_2 a0_0).bind fun t244 => (if t244 = true then ((span_Has.f kj130 a0_0 a0_1 a0_2 a2).bind fun t245 => (if t245 = true then ((span_Has.f kj130 a1_0 a1_1 a1_2 a2).bind fun t246 => (k3_SM.j3 kj130 a2 (!t246) a0_0 a0_1 a0_2)) else (k3_SM.j3 kj130 a2 false a0_0 a0_1 a0_2))) else (k3_SM.j3 kj130 a2 true a0_0 a0_1 a0_2))) else (k3_SM.j3 kj130 a2 false a0_0 a0_1 a0_2)) = some r := H
            have A154 := Aside0.mk A1540
            clear A1540
            by_cases c155 : t243 = true
            ·subst c155
             have H1 : ((span_Has.f kj130 a1_0 a1_1 a1_2 a0_0).bind fun t244 => (if t244 = true then ((span_Has.f kj130 a0_0 a0_1 a0_2 a2).bind fun t245 => (if t245 = true then ((span_Has.f kj130 a1_0 a1_1 a1_2 a2).bind fun t246 => (k3_SM.j3 kj130 a2 (!t246) a0_0 a0_1 a0_2)) else (k3_SM.j3 kj130 a2 false a0_0 a0_1 a0_2))) else (k3_SM.j3 kj130 a2 true a0_0 a0_1 a0_2))) = some r := by rw [if_pos rfl] at H; exact H
             clear H
             have H := H1
             clear H1
             replace H := Option.bind_eq_some_iff.mp H
             obtain ⟨t244, A1560, H⟩ := H
             replace H : (if t244 = true then ((span_Has.f kj130 a0_0 a0_1 a0_2 a2).bind fun t245 => (if t245 = true then ((span_Has.f kj130 a1_0 a1_1 a1_2 a2).bind fun t246 => (k3_SM.j3 kj130 a2 (!t246) a0_0 a0_1 a0_2)) else (k3_SM.j3 kj130 a2 false a0_0 a0_1 a0_2))) else (k3_SM.j3 kj130 a2 true a0_0 a0_1 a0_2)) = some r := H
             have A156 := Aside0.mk A1560
             clear A1560
             by_cases c157 : t244 = true
             ·subst c157
              have H1 : ((span_Has.f kj130 a0_0 a0_1 a0_2 a2).bind fun t245 => (if t245 = true then ((span_Has.f kj130 a1_0 a1_1 a1_2 a2).bind fun t246 => (k3_SM.j3 kj130 a2 (!t246) a0_0 a0_1 a0_2)) else (k3_SM.j3 kj130 a2 false a0_0 a0_1 a0_2))) = some r := by rw [if_pos rfl] at H; exact H
              clear H
              have H := H1
              clear H1
              replace H := Option.bind_eq_some_iff.mp H
              obtain ⟨t245, A1580, H⟩ := H
              replace H : (if t245 = true then ((span_Has.f kj130 a1_0 a1_1 a1_2 a2).bind fun t246 => (k3_SM.j3 kj130 a2 (!t246) a0_0 a0_1 a0_2)) else (k3_SM.j3 kj130 a2 false a0_0 a0_1 a0_2)) = some r := H
              have A158 := Aside0.mk A1580
              clear A1580
              by_cases c159 : t245 = true
              ·subst c159
               have H1 : ((span_Has.f kj130 a1_0 a1_1 a1_2 a2).bind fun t246 => (k3_SM.j3 kj130 a2 (!t246) a0_0 a0_1 a0_2)) = some r := by rw [if_pos rfl] at H; exact H
               clear H
               have H := H1
               clear H1
               replace H := Option.bind_eq_some_iff.mp H
               obtain ⟨t246, A1600, H⟩ := H
               replace H : (k3_SM.j3 kj130 a2 (!t246) a0_0 a0_1 a0_2) = some r := H
               have A160 := Aside0.mk A1600
               clear A1600
               have H' := Aside0.mk H
               clear H
               have hnb161 := NB218_219.out
               have hnc161 := NB219_218.out
               have hnb162 := NB218_231.out
               have hnc162 := NB231_218.out
               have hcz163_0 : wc.cell? ⟨gb218, 0, none⟩ = some (.string a0_0) := (blk_cell BK218.out 0).trans rfl
               have hcz163_1 : wc.cell? ⟨gb218, 1, none⟩ = some (.string a0_1) := (blk_cell BK218.out 1).trans rfl
               have hcz163_2 : wc.cell? ⟨gb218, 2, none⟩ = some (.bool a0_2) := (blk_cell BK218.out 2).trans rfl
               have hfz163_0 := blk_frozen BK218.out 0
               have hfz163_1 := blk_frozen BK218.out 1
               have hfz163_2 := blk_frozen BK218.out 2
               have hnb164 := NB219_231.out
               have hnc164 := NB231_219.out
               have hcz165_0 : wc.cell? ⟨gb219, 0, none⟩ = some (.string a1_0) := (blk_cell BK219.out 0).trans rfl
               have hcz165_1 : wc.cell? ⟨gb219, 1, none⟩ = some (.string a1_1) := (blk_cell BK219.out 1).trans rfl
               have hcz165_2 : wc.cell? ⟨gb219, 2, none⟩ = some (.bool a1_2) := (blk_cell BK219.out 2).trans rfl
               have hfz165_0 := blk_frozen BK219.out 0
               have hfz165_1 := blk_frozen BK219.out 1
               have hfz165_2 := blk_frozen BK219.out 2
               go_wp2_with (first | ((with_reducible refine gate_callee (f := 20) rfl ?_); refine goesL_ (some 85) rfl rfl Try.func20 (by kernel_rfl) rfl #[.agg #[.string a0_0, .string a0_1, .bool a0_2], .agg #[.string a1_0, .string a1_1, .bool a1_2]] rfl (by (try simp only [List.map_toArray, List.map_cons, List.map_nil]); first | done | rfl | (simp only [List.length_drop, List.length_take]; rfl)) ?_; (with_reducible refine (span_Within.calls kj130 a0_0 a0_1 a0_2 a1_0 a1_1 a1_2 true _ A154.out).mono ?_); rintro e w166 ⟨rfl, hb⟩; refine ⟨_, rfl, ?_⟩; have n0_ := Aside0.mk (blk_below (g := gb218) (o := .cells #[.string a0_0, .string a0_1, .bool a0_2] 31 (0, 0)) (by (with_reducible repeat (first | refine blk_drewN ?_ _ | refine blk_drew ?_ | refine blk_alloc ?_ _)); exact BK218.out) hb); have n1_ := Aside0.mk (blk_below (g := gb219) (o := .cells #[.string a1_0, .string a1_1, .bool a1_2] 31 (0, 0)) (by (with_reducible repeat (first | refine blk_drewN ?_ _ | refine blk_drew ?_ | refine blk_alloc ?_ _)); exact BK219.out) hb); have n2_ := Aside0.mk (blk_below (g := gb231) (o := .cells #[.string t227, .string t228, .bool t229] 31 (0, 0)) (by (with_reducible repeat (first | refine blk_drewN ?_ _ | refine blk_drew ?_ | refine blk_alloc ?_ _)); exact BK231.out) hb); have n3_ := Aside0.mk (below_step (by repeat (first | (with_reducible first | exact HB.out | apply below_alloc | apply pw_below_drewN | apply below_drew1 | refine below_set ?_ GE218.out | refine below_set ?_ GE219.out | refine below_set ?_ GE231.out) | exact HB.out)) hb); clear BK218; clear BK219; clear BK231; clear HB; have BK218 := n0_; have BK219 := n1_; have BK231 := n2_; have HB := n3_; clear n0_ n1_ n2_ n3_; (try clear hb); (try clear hb2); (try clear hk); (try clear hi); have hcz167_0 : w166.cell? ⟨gb219, 0, none⟩ = some (.string a1_0) := (blk_cell BK219.out 0).trans rfl; have hcz167_1 : w166.cell? ⟨gb219, 1, none⟩ = some (.string a1_1) := (blk_cell BK219.out 1).trans rfl; have hcz167_2 : w166.cell? ⟨gb219, 2, none⟩ = some (.bool a1_2) := (blk_cell BK219.out 2).trans rfl; have hfz167_0 := blk_frozen BK219.out 0; have hfz167_1 := blk_frozen BK219.out 1; have hfz167_2 := blk_frozen BK219.out 2; have hcz168_0 : w166.cell? ⟨gb218, 0, none⟩ = some (.string a0_0) := (blk_cell BK218.out 0).trans rfl; have hcz168_1 : w166.cell? ⟨gb218, 1, none⟩ = some (.string a0_1) := (blk_cell BK218.out 1).trans rfl; have hcz168_2 : w166.cell? ⟨gb218, 2, none⟩ = some (.bool a0_2) := (blk_cell BK218.out 2).trans rfl; have hfz168_0 := blk_frozen BK218.out 0; have hfz168_1 := blk_frozen BK218.out 1; have hfz168_2 := blk_frozen BK218.out 2) | (go_at_call 13; (with_reducible refine (span_Has.calls kj130 a1_0 a1_1 a1_2 a0_0 true _ A156.out).mono ?_); rintro e w169 ⟨rfl, hb⟩; have n0_ := Aside0.mk (blk_below (g := gb218) (o := .cells #[.string a0_0, .string a0_1, .bool a0_2] 31 (0, 0)) (by (with_reducible repeat (first | refine blk_drewN ?_ _ | refine blk_drew ?_ | refine blk_alloc ?_ _)); exact BK218.out) hb); have n1_ := Aside0.mk (blk_below (g := gb219) (o := .cells #[.string a1_0, .string a1_1, .bool a1_2] 31 (0, 0)) (by (with_reducible repeat (first | refine blk_drewN ?_ _ | refine blk_drew ?_ | refine blk_alloc ?_ _)); exact BK219.out) hb); have n2_ := Aside0.mk (blk_below (g := gb231) (o := .cells #[.string t227, .string t228, .bool t229] 31 (0, 0)) (by (with_reducible repeat (first | refine blk_drewN ?_ _ | refine blk_drew ?_ | refine blk_alloc ?_ _)); exact BK231.out) hb); have n3_ := Aside0.mk (below_step (by repeat (first | (with_reducible first | exact HB.out | apply below_alloc | apply pw_below_drewN | apply below_drew1 | refine below_set ?_ GE218.out | refine below_set ?_ GE219.out | refine below_set ?_ GE231.out) | exact HB.out)) hb); clear BK218; clear BK219; clear BK231; clear HB; have BK218 := n0_; have BK219 := n1_; have BK231 := n2_; have HB := n3_; clear n0_ n1_ n2_ n3_; (try clear hb); (try clear hb2); (try clear hk); (try clear hi); have hcz170_0 : w169.cell? ⟨gb218, 0, none⟩ = some (.string a0_0) := (blk_cell BK218.out 0).trans rfl; have hcz170_1 : w169.cell? ⟨gb218, 1, none⟩ = some (.string a0_1) := (blk_cell BK218.out 1).trans rfl; have hcz170_2 : w169.cell? ⟨gb218, 2, none⟩ = some (.bool a0_2) := (blk_cell BK218.out 2).trans rfl; have hfz170_0 := blk_frozen BK218.out 0; have hfz170_1 := blk_frozen BK218.out 1; have hfz170_2 := blk_frozen BK218.out 2) | (go_at_call 13; (with_reducible refine (span_Has.calls kj130 a0_0 a0_1 a0_2 a2 true _ A158.out).mono ?_); rintro e w171 ⟨rfl, hb⟩; have n0_ := Aside0.mk (blk_below (g := gb218) (o := .cells #[.string a0_0, .string a0_1, .bool a0_2] 31 (0, 0)) (by (with_reducible repeat (first | refine blk_drewN ?_ _ | refine blk_drew ?_ | refine blk_alloc ?_ _)); exact BK218.out) hb); have n1_ := Aside0.mk (blk_below (g := gb219) (o := .cells #[.string a1_0, .string a1_1, .bool a1_2] 31 (0, 0)) (by (with_reducible repeat (first | refine blk_drewN ?_ _ | refine blk_drew ?_ | refine blk_alloc ?_ _)); exact BK219.out) hb); have n2_ := Aside0.mk (blk_below (g := gb231) (o := .cells #[.string t227, .string t228, .bool t229] 31 (0, 0)) (by (with_reducible repeat (first | refine blk_drewN ?_ _ | refine blk_drew ?_ | refine blk_alloc ?_ _)); exact BK231.out) hb); have n3_ := Aside0.mk (below_step (by repeat (first | (with_reducible first | exact HB.out | apply below_alloc | apply pw_below_drewN | apply below_drew1 | refine below_set ?_ GE218.out | refine below_set ?_ GE219.out | refine below_set ?_ GE231.out) | exact HB.out)) hb); clear BK218; clear BK219; clear BK231; clear HB; have BK218 := n0_; have BK219 := n1_; have BK231 := n2_; have HB := n3_; clear n0_ n1_ n2_ n3_; (try clear hb); (try clear hb2); (try clear hk); (try clear hi); have hcz172_0 : w171.cell? ⟨gb219, 0, none⟩ = some (.string a1_0) := (blk_cell BK219.out 0).trans rfl; have hcz172_1 : w171.cell? ⟨gb219, 1, none⟩ = some (.string a1_1) := (blk_cell BK219.out 1).trans rfl; have hcz172_2 : w171.cell? ⟨gb219, 2, none⟩ = some (.bool a1_2) := (blk_cell BK219.out 2).trans rfl; have hfz172_0 := blk_frozen BK219.out 0; have hfz172_1 := blk_frozen BK219.out 1; have hfz172_2 := blk_frozen BK219.out 2) | (go_at_call 13; (with_reducible refine (span_Has.calls kj130 a1_0 a1_1 a1_2 a2 t246 _ A160.out).mono ?_); rintro e w173 ⟨rfl, hb⟩; have n0_ := Aside0.mk (blk_below (g := gb218) (o := .cells #[.string a0_0, .string a0_1, .bool a0_2] 31 (0, 0)) (by (with_reducible repeat (first | refine blk_drewN ?_ _ | refine blk_drew ?_ | refine blk_alloc ?_ _)); exact BK218.out) hb); have n1_ := Aside0.mk (blk_below (g := gb219) (o := .cells #[.string a1_0, .string a1_1, .bool a1_2] 31 (0, 0)) (by (with_reducible repeat (first | refine blk_drewN ?_ _ | refine blk_drew ?_ | refine blk_alloc ?_ _)); exact BK219.out) hb); have n2_ := Aside0.mk (blk_below (g := gb231) (o := .cells #[.string t227, .string t228, .bool t229] 31 (0, 0)) (by (with_reducible repeat (first | refine blk_drewN ?_ _ | refine blk_drew ?_ | refine blk_alloc ?_ _)); exact BK231.out) hb); have n3_ := Aside0.mk (below_step (by repeat (first | (with_reducible first | exact HB.out | apply below_alloc | apply pw_below_drewN | apply below_drew1 | refine below_set ?_ GE218.out | refine below_set ?_ GE219.out | refine below_set ?_ GE231.out) | exact HB.out)) hb); clear BK218; clear BK219; clear BK231; clear HB; have BK218 := n0_; have BK219 := n1_; have BK231 := n2_; have HB := n3_; clear n0_ n1_ n2_ n3_; (try clear hb); (try clear hb2); (try clear hk); (try clear hi)))
               go_meet
               case rel => exact ⟨_, (!t246), (by first | rfl | (simp; done) | (simp [*]; done)), H', ⟨by have := HJ13.out; have := HJ46.out; have := HJ130.out; first | omega | exact Nat.le_refl _⟩, ⟨by (with_reducible repeat (first | refine blk_drewN ?_ _ | refine blk_drew ?_ | refine blk_alloc ?_ _)); exact BK218.out⟩, ⟨by (with_reducible repeat (first | refine blk_drewN ?_ _ | refine blk_drew ?_ | refine blk_alloc ?_ _)); exact BK219.out⟩, ⟨by (with_reducible repeat (first | refine blk_drewN ?_ _ | refine blk_drew ?_ | refine blk_alloc ?_ _)); exact BK231.out⟩, ⟨by repeat (first | (with_reducible first | exact HB.out | apply below_alloc | apply pw_below_drewN | apply below_drew1 | refine below_set ?_ GE218.out | refine below_set ?_ GE219.out | refine below_set ?_ GE231.out) | exact HB.out)⟩⟩
              ·replace c159 := Bool.eq_false_iff.mpr c159
               subst c159
               have H1 : (k3_SM.j3 kj130 a2 false a0_0 a0_1 a0_2) = some r := by rw [if_neg (show ¬ (false = true) by decide)] at H; exact H
               clear H
               have H := H1
               clear H1
               have H' := Aside0.mk H
               clear H
               have hnb174 := NB218_219.out
               have hnc174 := NB219_218.out
               have hnb175 := NB218_231.out
               have hnc175 := NB231_218.out
               have hcz176_0 : wc.cell? ⟨gb218, 0, none⟩ = some (.string a0_0) := (blk_cell BK218.out 0).trans rfl
               have hcz176_1 : wc.cell? ⟨gb218, 1, none⟩ = some (.string a0_1) := (blk_cell BK218.out 1).trans rfl
               have hcz176_2 : wc.cell? ⟨gb218, 2, none⟩ = some (.bool a0_2) := (blk_cell BK218.out 2).trans rfl
               have hfz176_0 := blk_frozen BK218.out 0
               have hfz176_1 := blk_frozen BK218.out 1
               have hfz176_2 := blk_frozen BK218.out 2
               have hnb177 := NB219_231.out
               have hnc177 := NB231_219.out
               have hcz178_0 : wc.cell? ⟨gb219, 0, none⟩ = some (.string a1_0) := (blk_cell BK219.out 0).trans rfl
               have hcz178_1 : wc.cell? ⟨gb219, 1, none⟩ = some (.string a1_1) := (blk_cell BK219.out 1).trans rfl
               have hcz178_2 : wc.cell? ⟨gb219, 2, none⟩ = some (.bool a1_2) := (blk_cell BK219.out 2).trans rfl
               have hfz178_0 := blk_frozen BK219.out 0
               have hfz178_1 := blk_frozen BK219.out 1
               have hfz178_2 := blk_frozen BK219.out 2
               go_wp2_with (first | ((with_reducible refine gate_callee (f := 20) rfl ?_); refine goesL_ (some 85) rfl rfl Try.func20 (by kernel_rfl) rfl #[.agg #[.string a0_0, .string a0_1, .bool a0_2], .agg #[.string a1_0, .string a1_1, .bool a1_2]] rfl (by (try simp only [List.map_toArray, List.map_cons, List.map_nil]); first | done | rfl | (simp only [List.length_drop, List.length_take]; rfl)) ?_; (with_reducible refine (span_Within.calls kj130 a0_0 a0_1 a0_2 a1_0 a1_1 a1_2 true _ A154.out).mono ?_); rintro e w179 ⟨rfl, hb⟩; refine ⟨_, rfl, ?_⟩; have n0_ := Aside0.mk (blk_below (g := gb218) (o := .cells #[.string a0_0, .string a0_1, .bool a0_2] 31 (0, 0)) (by (with_reducible repeat (first | refine blk_drewN ?_ _ | refine blk_drew ?_ | refine blk_alloc ?_ _)); exact BK218.out) hb); have n1_ := Aside0.mk (blk_below (g := gb219) (o := .cells #[.string a1_0, .string a1_1, .bool a1_2] 31 (0, 0)) (by (with_reducible repeat (first | refine blk_drewN ?_ _ | refine blk_drew ?_ | refine blk_alloc ?_ _)); exact BK219.out) hb); have n2_ := Aside0.mk (blk_below (g := gb231) (o := .cells #[.string t227, .string t228, .bool t229] 31 (0, 0)) (by (with_reducible repeat (first | refine blk_drewN ?_ _ | refine blk_drew ?_ | refine blk_alloc ?_ _)); exact BK231.out) hb); have n3_ := Aside0.mk (below_step (by repeat (first | (with_reducible first | exact HB.out | apply below_alloc | apply pw_below_drewN | apply below_drew1 | refine below_set ?_ GE218.out | refine below_set ?_ GE219.out | refine below_set ?_ GE231.out) | exact HB.out)) hb); clear BK218; clear BK219; clear BK231; clear HB; have BK218 := n0_; have BK219 := n1_; have BK231 := n2_; have HB := n3_; clear n0_ n1_ n2_ n3_; (try clear hb); (try clear hb2); (try clear hk); (try clear hi); have hcz180_0 : w179.cell? ⟨gb219, 0, none⟩ = some (.string a1_0) := (blk_cell BK219.out 0).trans rfl; have hcz180_1 : w179.cell? ⟨gb219, 1, none⟩ = some (.string a1_1) := (blk_cell BK219.out 1).trans rfl; have hcz180_2 : w179.cell? ⟨gb219, 2, none⟩ = some (.bool a1_2) := (blk_cell BK219.out 2).trans rfl; have hfz180_0 := blk_frozen BK219.out 0; have hfz180_1 := blk_frozen BK219.out 1; have hfz180_2 := blk_frozen BK219.out 2; have hcz181_0 : w179.cell? ⟨gb218, 0, none⟩ = some (.string a0_0) := (blk_cell BK218.out 0).trans rfl; have hcz181_1 : w179.cell? ⟨gb218, 1, none⟩ = some (.string a0_1) := (blk_cell BK218.out 1).trans rfl; have hcz181_2 : w179.cell? ⟨gb218, 2, none⟩ = some (.bool a0_2) := (blk_cell BK218.out 2).trans rfl; have hfz181_0 := blk_frozen BK218.out 0; have hfz181_1 := blk_frozen BK218.out 1; have hfz181_2 := blk_frozen BK218.out 2) | (go_at_call 13; (with_reducible refine (span_Has.calls kj130 a1_0 a1_1 a1_2 a0_0 true _ A156.out).mono ?_); rintro e w182 ⟨rfl, hb⟩; have n0_ := Aside0.mk (blk_below (g := gb218) (o := .cells #[.string a0_0, .string a0_1, .bool a0_2] 31 (0, 0)) (by (with_reducible repeat (first | refine blk_drewN ?_ _ | refine blk_drew ?_ | refine blk_alloc ?_ _)); exact BK218.out) hb); have n1_ := Aside0.mk (blk_below (g := gb219) (o := .cells #[.string a1_0, .string a1_1, .bool a1_2] 31 (0, 0)) (by (with_reducible repeat (first | refine blk_drewN ?_ _ | refine blk_drew ?_ | refine blk_alloc ?_ _)); exact BK219.out) hb); have n2_ := Aside0.mk (blk_below (g := gb231) (o := .cells #[.string t227, .string t228, .bool t229] 31 (0, 0)) (by (with_reducible repeat (first | refine blk_drewN ?_ _ | refine blk_drew ?_ | refine blk_alloc ?_ _)); exact BK231.out) hb); have n3_ := Aside0.mk (below_step (by repeat (first | (with_reducible first | exact HB.out | apply below_alloc | apply pw_below_drewN | apply below_drew1 | refine below_set ?_ GE218.out | refine below_set ?_ GE219.out | refine below_set ?_ GE231.out) | exact HB.out)) hb); clear BK218; clear BK219; clear BK231; clear HB; have BK218 := n0_; have BK219 := n1_; have BK231 := n2_; have HB := n3_; clear n0_ n1_ n2_ n3_; (try clear hb); (try clear hb2); (try clear hk); (try clear hi); have hcz183_0 : w182.cell? ⟨gb218, 0, none⟩ = some (.string a0_0) := (blk_cell BK218.out 0).trans rfl; have hcz183_1 : w182.cell? ⟨gb218, 1, none⟩ = some (.string a0_1) := (blk_cell BK218.out 1).trans rfl; have hcz183_2 : w182.cell? ⟨gb218, 2, none⟩ = some (.bool a0_2) := (blk_cell BK218.out 2).trans rfl; have hfz183_0 := blk_frozen BK218.out 0; have hfz183_1 := blk_frozen BK218.out 1; have hfz183_2 := blk_frozen BK218.out 2) | (go_at_call 13; (with_reducible refine (span_Has.calls kj130 a0_0 a0_1 a0_2 a2 false _ A158.out).mono ?_); rintro e w184 ⟨rfl, hb⟩; have n0_ := Aside0.mk (blk_below (g := gb218) (o := .cells #[.string a0_0, .string a0_1, .bool a0_2] 31 (0, 0)) (by (with_reducible repeat (first | refine blk_drewN ?_ _ | refine blk_drew ?_ | refine blk_alloc ?_ _)); exact BK218.out) hb); have n1_ := Aside0.mk (blk_below (g := gb219) (o := .cells #[.string a1_0, .string a1_1, .bool a1_2] 31 (0, 0)) (by (with_reducible repeat (first | refine blk_drewN ?_ _ | refine blk_drew ?_ | refine blk_alloc ?_ _)); exact BK219.out) hb); have n2_ := Aside0.mk (blk_below (g := gb231) (o := .cells #[.string t227, .string t228, .bool t229] 31 (0, 0)) (by (with_reducible repeat (first | refine blk_drewN ?_ _ | refine blk_drew ?_ | refine blk_alloc ?_ _)); exact BK231.out) hb); have n3_ := Aside0.mk (below_step (by repeat (first | (with_reducible first | exact HB.out | apply below_alloc | apply pw_below_drewN | apply below_drew1 | refine below_set ?_ GE218.out | refine below_set ?_ GE219.out | refine below_set ?_ GE231.out) | exact HB.out)) hb); clear BK218; clear BK219; clear BK231; clear HB; have BK218 := n0_; have BK219 := n1_; have BK231 := n2_; have HB := n3_; clear n0_ n1_ n2_ n3_; (try clear hb); (try clear hb2); (try clear hk); (try clear hi)))
               go_meet
               case rel => exact ⟨_, (false), (by first | rfl | (simp; done) | (simp [*]; done)), H', ⟨by have := HJ13.out; have := HJ46.out; have := HJ130.out; first | omega | exact Nat.le_refl _⟩, ⟨by (with_reducible repeat (first | refine blk_drewN ?_ _ | refine blk_drew ?_ | refine blk_alloc ?_ _)); exact BK218.out⟩, ⟨by (with_reducible repeat (first | refine blk_drewN ?_ _ | refine blk_drew ?_ | refine blk_alloc ?_ _)); exact BK219.out⟩, ⟨by (with_reducible repeat (first | refine blk_drewN ?_ _ | refine blk_drew ?_ | refine blk_alloc ?_ _)); exact BK231.out⟩, ⟨by repeat (first | (with_reducible first | exact HB.out | apply below_alloc | apply pw_below_drewN | apply below_drew1 | refine below_set ?_ GE218.out | refine below_set ?_ GE219.out | refine below_set ?_ GE231.out) | exact HB.out)⟩⟩
             ·replace c157 := Bool.eq_false_iff.mpr c157
              subst c157
              have H1 : (k3_SM.j3 kj130 a2 true a0_0 a0_1 a0_2) = some r := by rw [if_neg (show ¬ (false = true) by decide)] at H; exact H
              clear H
              have H := H1
              clear H1
              have H' := Aside0.mk H
              clear H
              have hnb185 := NB218_219.out
              have hnc185 := NB219_218.out
              have hnb186 := NB218_231.out
              have hnc186 := NB231_218.out
              have hcz187_0 : wc.cell? ⟨gb218, 0, none⟩ = some (.string a0_0) := (blk_cell BK218.out 0).trans rfl
              have hcz187_1 : wc.cell? ⟨gb218, 1, none⟩ = some (.string a0_1) := (blk_cell BK218.out 1).trans rfl
              have hcz187_2 : wc.cell? ⟨gb218, 2, none⟩ = some (.bool a0_2) := (blk_cell BK218.out 2).trans rfl
              have hfz187_0 := blk_frozen BK218.out 0
              have hfz187_1 := blk_frozen BK218.out 1
              have hfz187_2 := blk_frozen BK218.out 2
              have hnb188 := NB219_231.out
              have hnc188 := NB231_219.out
              have hcz189_0 : wc.cell? ⟨gb219, 0, none⟩ = some (.string a1_0) := (blk_cell BK219.out 0).trans rfl
              have hcz189_1 : wc.cell? ⟨gb219, 1, none⟩ = some (.string a1_1) := (blk_cell BK219.out 1).trans rfl
              have hcz189_2 : wc.cell? ⟨gb219, 2, none⟩ = some (.bool a1_2) := (blk_cell BK219.out 2).trans rfl
              have hfz189_0 := blk_frozen BK219.out 0
              have hfz189_1 := blk_frozen BK219.out 1
              have hfz189_2 := blk_frozen BK219.out 2
              go_wp2_with (first | ((with_reducible refine gate_callee (f := 20) rfl ?_); refine goesL_ (some 85) rfl rfl Try.func20 (by kernel_rfl) rfl #[.agg #[.string a0_0, .string a0_1, .bool a0_2], .agg #[.string a1_0, .string a1_1, .bool a1_2]] rfl (by (try simp only [List.map_toArray, List.map_cons, List.map_nil]); first | done | rfl | (simp only [List.length_drop, List.length_take]; rfl)) ?_; (with_reducible refine (span_Within.calls kj130 a0_0 a0_1 a0_2 a1_0 a1_1 a1_2 true _ A154.out).mono ?_); rintro e w190 ⟨rfl, hb⟩; refine ⟨_, rfl, ?_⟩; have n0_ := Aside0.mk (blk_below (g := gb218) (o := .cells #[.string a0_0, .string a0_1, .bool a0_2] 31 (0, 0)) (by (with_reducible repeat (first | refine blk_drewN ?_ _ | refine blk_drew ?_ | refine blk_alloc ?_ _)); exact BK218.out) hb); have n1_ := Aside0.mk (blk_below (g := gb219) (o := .cells #[.string a1_0, .string a1_1, .bool a1_2] 31 (0, 0)) (by (with_reducible repeat (first | refine blk_drewN ?_ _ | refine blk_drew ?_ | refine blk_alloc ?_ _)); exact BK219.out) hb); have n2_ := Aside0.mk (blk_below (g := gb231) (o := .cells #[.string t227, .string t228, .bool t229] 31 (0, 0)) (by (with_reducible repeat (first | refine blk_drewN ?_ _ | refine blk_drew ?_ | refine blk_alloc ?_ _)); exact BK231.out) hb); have n3_ := Aside0.mk (below_step (by repeat (first | (with_reducible first | exact HB.out | apply below_alloc | apply pw_below_drewN | apply below_drew1 | refine below_set ?_ GE218.out | refine below_set ?_ GE219.out | refine below_set ?_ GE231.out) | exact HB.out)) hb); clear BK218; clear BK219; clear BK231; clear HB; have BK218 := n0_; have BK219 := n1_; have BK231 := n2_; have HB := n3_; clear n0_ n1_ n2_ n3_; (try clear hb); (try clear hb2); (try clear hk); (try clear hi); have hcz191_0 : w190.cell? ⟨gb219, 0, none⟩ = some (.string a1_0) := (blk_cell BK219.out 0).trans rfl; have hcz191_1 : w190.cell? ⟨gb219, 1, none⟩ = some (.string a1_1) := (blk_cell BK219.out 1).trans rfl; have hcz191_2 : w190.cell? ⟨gb219, 2, none⟩ = some (.bool a1_2) := (blk_cell BK219.out 2).trans rfl; have hfz191_0 := blk_frozen BK219.out 0; have hfz191_1 := blk_frozen BK219.out 1; have hfz191_2 := blk_frozen BK219.out 2; have hcz192_0 : w190.cell? ⟨gb218, 0, none⟩ = some (.string a0_0) := (blk_cell BK218.out 0).trans rfl; have hcz192_1 : w190.cell? ⟨gb218, 1, none⟩ = some (.string a0_1) := (blk_cell BK218.out 1).trans rfl; have hcz192_2 : w190.cell? ⟨gb218, 2, none⟩ = some (.bool a0_2) := (blk_cell BK218.out 2).trans rfl; have hfz192_0 := blk_frozen BK218.out 0; have hfz192_1 := blk_frozen BK218.out 1; have hfz192_2 := blk_frozen BK218.out 2) | (go_at_call 13; (with_reducible refine (span_Has.calls kj130 a1_0 a1_1 a1_2 a0_0 false _ A156.out).mono ?_); rintro e w193 ⟨rfl, hb⟩; have n0_ := Aside0.mk (blk_below (g := gb218) (o := .cells #[.string a0_0, .string a0_1, .bool a0_2] 31 (0, 0)) (by (with_reducible repeat (first | refine blk_drewN ?_ _ | refine blk_drew ?_ | refine blk_alloc ?_ _)); exact BK218.out) hb); have n1_ := Aside0.mk (blk_below (g := gb219) (o := .cells #[.string a1_0, .string a1_1, .bool a1_2] 31 (0, 0)) (by (with_reducible repeat (first | refine blk_drewN ?_ _ | refine blk_drew ?_ | refine blk_alloc ?_ _)); exact BK219.out) hb); have n2_ := Aside0.mk (blk_below (g := gb231) (o := .cells #[.string t227, .string t228, .bool t229] 31 (0, 0)) (by (with_reducible repeat (first | refine blk_drewN ?_ _ | refine blk_drew ?_ | refine blk_alloc ?_ _)); exact BK231.out) hb); have n3_ := Aside0.mk (below_step (by repeat (first | (with_reducible first | exact HB.out | apply below_alloc | apply pw_below_drewN | apply below_drew1 | refine below_set ?_ GE218.out | refine below_set ?_ GE219.out | refine below_set ?_ GE231.out) | exact HB.out)) hb); clear BK218; clear BK219; clear BK231; clear HB; have BK218 := n0_; have BK219 := n1_; have BK231 := n2_; have HB := n3_; clear n0_ n1_ n2_ n3_; (try clear hb); (try clear hb2); (try clear hk); (try clear hi)))
              go_meet
              case rel => exact ⟨_, (true), (by first | rfl | (simp; done) | (simp [*]; done)), H', ⟨by have := HJ13.out; have := HJ46.out; have := HJ130.out; first | omega | exact Nat.le_refl _⟩, ⟨by (with_reducible repeat (first | refine blk_drewN ?_ _ | refine blk_drew ?_ | refine blk_alloc ?_ _)); exact BK218.out⟩, ⟨by (with_reducible repeat (first | refine blk_drewN ?_ _ | refine blk_drew ?_ | refine blk_alloc ?_ _)); exact BK219.out⟩, ⟨by (with_reducible repeat (first | refine blk_drewN ?_ _ | refine blk_drew ?_ | refine blk_alloc ?_ _)); exact BK231.out⟩, ⟨by repeat (first | (with_reducible first | exact HB.out | apply below_alloc | apply pw_below_drewN | apply below_drew1 | refine below_set ?_ GE218.out | refine below_set ?_ GE219.out | refine below_set ?_ GE231.out) | exact HB.out)⟩⟩
            ·replace c155 := Bool.eq_false_iff.mpr c155
             subst c155
             have H1 : (k3_SM.j3 kj130 a2 false a0_0 a0_1 a0_2) = some r := by rw [if_neg (show ¬ (false = true) by decide)] at H; exact H
             clear H
             have H := H1
             clear H1
             have H' := Aside0.mk H
             clear H
             have hnb194 := NB218_219.out
             have hnc194 := NB219_218.out
             have hnb195 := NB218_231.out
             have hnc195 := NB231_218.out
             have hcz196_0 : wc.cell? ⟨gb218, 0, none⟩ = some (.string a0_0) := (blk_cell BK218.out 0).trans rfl
             have hcz196_1 : wc.cell? ⟨gb218, 1, none⟩ = some (.string a0_1) := (blk_cell BK218.out 1).trans rfl
             have hcz196_2 : wc.cell? ⟨gb218, 2, none⟩ = some (.bool a0_2) := (blk_cell BK218.out 2).trans rfl
             have hfz196_0 := blk_frozen BK218.out 0
             have hfz196_1 := blk_frozen BK218.out 1
             have hfz196_2 := blk_frozen BK218.out 2
             have hnb197 := NB219_231.out
             have hnc197 := NB231_219.out
             have hcz198_0 : wc.cell? ⟨gb219, 0, none⟩ = some (.string a1_0) := (blk_cell BK219.out 0).trans rfl
             have hcz198_1 : wc.cell? ⟨gb219, 1, none⟩ = some (.string a1_1) := (blk_cell BK219.out 1).trans rfl
             have hcz198_2 : wc.cell? ⟨gb219, 2, none⟩ = some (.bool a1_2) := (blk_cell BK219.out 2).trans rfl
             have hfz198_0 := blk_frozen BK219.out 0
             have hfz198_1 := blk_frozen BK219.out 1
             have hfz198_2 := blk_frozen BK219.out 2
             go_wp2_with (first | ((with_reducible refine gate_callee (f := 20) rfl ?_); refine goesL_ (some 85) rfl rfl Try.func20 (by kernel_rfl) rfl #[.agg #[.string a0_0, .string a0_1, .bool a0_2], .agg #[.string a1_0, .string a1_1, .bool a1_2]] rfl (by (try simp only [List.map_toArray, List.map_cons, List.map_nil]); first | done | rfl | (simp only [List.length_drop, List.length_take]; rfl)) ?_; (with_reducible refine (span_Within.calls kj130 a0_0 a0_1 a0_2 a1_0 a1_1 a1_2 false _ A154.out).mono ?_); rintro e w199 ⟨rfl, hb⟩; refine ⟨_, rfl, ?_⟩; have n0_ := Aside0.mk (blk_below (g := gb218) (o := .cells #[.string a0_0, .string a0_1, .bool a0_2] 31 (0, 0)) (by (with_reducible repeat (first | refine blk_drewN ?_ _ | refine blk_drew ?_ | refine blk_alloc ?_ _)); exact BK218.out) hb); have n1_ := Aside0.mk (blk_below (g := gb219) (o := .cells #[.string a1_0, .string a1_1, .bool a1_2] 31 (0, 0)) (by (with_reducible repeat (first | refine blk_drewN ?_ _ | refine blk_drew ?_ | refine blk_alloc ?_ _)); exact BK219.out) hb); have n2_ := Aside0.mk (blk_below (g := gb231) (o := .cells #[.string t227, .string t228, .bool t229] 31 (0, 0)) (by (with_reducible repeat (first | refine blk_drewN ?_ _ | refine blk_drew ?_ | refine blk_alloc ?_ _)); exact BK231.out) hb); have n3_ := Aside0.mk (below_step (by repeat (first | (with_reducible first | exact HB.out | apply below_alloc | apply pw_below_drewN | apply below_drew1 | refine below_set ?_ GE218.out | refine below_set ?_ GE219.out | refine below_set ?_ GE231.out) | exact HB.out)) hb); clear BK218; clear BK219; clear BK231; clear HB; have BK218 := n0_; have BK219 := n1_; have BK231 := n2_; have HB := n3_; clear n0_ n1_ n2_ n3_; (try clear hb); (try clear hb2); (try clear hk); (try clear hi)))
             go_meet
             case rel => exact ⟨_, (false), (by first | rfl | (simp; done) | (simp [*]; done)), H', ⟨by have := HJ13.out; have := HJ46.out; have := HJ130.out; first | omega | exact Nat.le_refl _⟩, ⟨by (with_reducible repeat (first | refine blk_drewN ?_ _ | refine blk_drew ?_ | refine blk_alloc ?_ _)); exact BK218.out⟩, ⟨by (with_reducible repeat (first | refine blk_drewN ?_ _ | refine blk_drew ?_ | refine blk_alloc ?_ _)); exact BK219.out⟩, ⟨by (with_reducible repeat (first | refine blk_drewN ?_ _ | refine blk_drew ?_ | refine blk_alloc ?_ _)); exact BK231.out⟩, ⟨by repeat (first | (with_reducible first | exact HB.out | apply below_alloc | apply pw_below_drewN | apply below_drew1 | refine below_set ?_ GE218.out | refine below_set ?_ GE219.out | refine below_set ?_ GE231.out) | exact HB.out)⟩⟩
           case rest =>
            clear HC153
            try clear c1
            try clear c2
            try clear p2
            try clear c13
            try clear c14
            try clear c15
            try clear c16
            try clear c17
            try clear c18
            try clear c19
            try clear c20
            try clear c132
            try clear c135
            try clear c145
            try clear c152
            try clear c155
            try clear c157
            try clear c159
            try clear c161
            try clear c162
            try clear c164
            try clear c174
            try clear c175
            try clear c177
            try clear c185
            try clear c186
            try clear c188
            try clear c194
            try clear c195
            try clear c197
            try clear hcz163_0
            try clear hcz163_1
            try clear hcz163_2
            try clear hcz165_0
            try clear hcz165_1
            try clear hcz165_2
            try clear hcz167_0
            try clear hcz167_1
            try clear hcz167_2
            try clear hcz168_0
            try clear hcz168_1
            try clear hcz168_2
            try clear hcz170_0
            try clear hcz170_1
            try clear hcz170_2
            try clear hcz172_0
            try clear hcz172_1
            try clear hcz172_2
            try clear hcz176_0
            try clear hcz176_1
            try clear hcz176_2
            try clear hcz178_0
            try clear hcz178_1
            try clear hcz178_2
            try clear hcz180_0
            try clear hcz180_1
            try clear hcz180_2
            try clear hcz181_0
            try clear hcz181_1
            try clear hcz181_2
            try clear hcz183_0
            try clear hcz183_1
            try clear hcz183_2
            try clear hcz187_0
            try clear hcz187_1
            try clear hcz187_2
            try clear hcz189_0
            try clear hcz189_1
            try clear hcz189_2
            try clear hcz191_0
            try clear hcz191_1
            try clear hcz191_2
            try clear hcz192_0
            try clear hcz192_1
            try clear hcz192_2
            try clear hcz196_0
            try clear hcz196_1
            try clear hcz196_2
            try clear hcz198_0
            try clear hcz198_1
            try clear hcz198_2
            try clear hfz163_0
            try clear hfz163_1
            try clear hfz163_2
            try clear hfz165_0
            try clear hfz165_1
            try clear hfz165_2
            try clear hfz167_0
            try clear hfz167_1
            try clear hfz167_2
            try clear hfz168_0
            try clear hfz168_1
            try clear hfz168_2
            try clear hfz170_0
            try clear hfz170_1
            try clear hfz170_2
            try clear hfz172_0
            try clear hfz172_1
            try clear hfz172_2
            try clear hfz176_0
            try clear hfz176_1
            try clear hfz176_2
            try clear hfz178_0
            try clear hfz178_1
            try clear hfz178_2
            try clear hfz180_0
            try clear hfz180_1
            try clear hfz180_2
            try clear hfz181_0
            try clear hfz181_1
            try clear hfz181_2
            try clear hfz183_0
            try clear hfz183_1
            try clear hfz183_2
            try clear hfz187_0
            try clear hfz187_1
            try clear hfz187_2
            try clear hfz189_0
            try clear hfz189_1
            try clear hfz189_2
            try clear hfz191_0
            try clear hfz191_1
            try clear hfz191_2
            try clear hfz192_0
            try clear hfz192_1
            try clear hfz192_2
            try clear hfz196_0
            try clear hfz196_1
            try clear hfz196_2
            try clear hfz198_0
            try clear hfz198_1
            try clear hfz198_2
            try clear p2
            obtain ⟨kq, x103_152, rfl, HA, HJ152, BK218, BK219, BK231, HB⟩ := hcut
            cases kq with
            | zero => exact absurd HA.out (by simp [k3_SM.j3])
            | succ kj152 =>
             have H := HA.out
             clear HA
             simp only [k3_SM.j3] at H
             by_cases c200 : x103_152 = true
             ·subst c200
              have H1 : (none) = some r := by rw [if_pos rfl] at H; exact H
              clear H
              have H := H1
              clear H1
              exact absurd H (by simp)
             ·replace c200 := Bool.eq_false_iff.mpr c200
              subst c200
              have H1 : (if (a2.size : Int) > 512 then ((k3_head.f kj152).bind fun t247 => (some t247)) else ((span_Point.f a2).bind fun bt248 => ((span_Right.f kj152 bt248.1 bt248.2.1 bt248.2.2).bind fun t252 => (if t252 = true then ((span_Has.f kj152 bt248.1 bt248.2.1 bt248.2.2 a2).bind fun t253 => (if t253 = true then (if a2.size + 1 ≤ 9223372036854775807 then ((span_Has.f kj152 bt248.1 bt248.2.1 bt248.2.2 (a2 ++ (⟨#[0]⟩ : ByteArray))).bind fun t254 => (if t254 = true then (none) else ((span_Within.f kj152 bt248.1 bt248.2.1 bt248.2.2 a0_0 a0_1 a0_2).bind fun t255 => ((span_Has.f kj152 a0_0 a0_1 a0_2 a2).bind fun t256 => (if (t255 == t256) = true then ((k3_head.f kj152).bind fun t257 => (some t257)) else (none)))))) else (none)) else (none))) else (none))))) = some r := by rw [if_neg (show ¬ (false = true) by decide)] at H; exact H
              clear H
              have H := H1
              clear H1
              by_cases c201 : (a2.size : Int) > 512
              ·rw [if_pos c201] at H
               have c201b0 : decide (512 < (a2.size : Int)) = true := decide_eq_true c201
               have c201b1 : decide (512 < a2.size) = true := decide_eq_true (by omega)
               clear c201
               replace H := Option.bind_eq_some_iff.mp H
               obtain ⟨t247, A2020, H⟩ := H
               replace H : (some t247) = some r := H
               have A202 := Aside0.mk A2020
               clear A2020
               obtain rfl := Option.some.inj H
               go_wp2_with (first | ((with_reducible refine gate_callee (f := 8) rfl ?_); refine goesL_ (some 107) rfl rfl Try.func8 (by kernel_rfl) rfl #[] rfl (by (try simp only [List.map_toArray, List.map_cons, List.map_nil]); first | done | rfl | (simp only [List.length_drop, List.length_take]; rfl)) ?_; (with_reducible refine (k3_head.calls kj152  t247 _ A202.out).mono ?_); rintro e w203 ⟨rfl, hb⟩; refine ⟨_, rfl, ?_⟩; have n0_ := Aside0.mk (blk_below (g := gb218) (o := .cells #[.string a0_0, .string a0_1, .bool a0_2] 31 (0, 0)) (by (with_reducible repeat (first | refine blk_drewN ?_ _ | refine blk_drew ?_ | refine blk_alloc ?_ _)); exact BK218.out) hb); have n1_ := Aside0.mk (blk_below (g := gb219) (o := .cells #[.string a1_0, .string a1_1, .bool a1_2] 31 (0, 0)) (by (with_reducible repeat (first | refine blk_drewN ?_ _ | refine blk_drew ?_ | refine blk_alloc ?_ _)); exact BK219.out) hb); have n2_ := Aside0.mk (blk_below (g := gb231) (o := .cells #[.string t227, .string t228, .bool t229] 31 (0, 0)) (by (with_reducible repeat (first | refine blk_drewN ?_ _ | refine blk_drew ?_ | refine blk_alloc ?_ _)); exact BK231.out) hb); have n3_ := Aside0.mk (below_step (by repeat (first | (with_reducible first | exact HB.out | apply below_alloc | apply pw_below_drewN | apply below_drew1 | refine below_set ?_ GE218.out | refine below_set ?_ GE219.out | refine below_set ?_ GE231.out) | exact HB.out)) hb); clear BK218; clear BK219; clear BK231; clear HB; have BK218 := n0_; have BK219 := n1_; have BK231 := n2_; have HB := n3_; clear n0_ n1_ n2_ n3_; (try clear hb); (try clear hb2); (try clear hk); (try clear hi)))
               go_ret
               exact ⟨by first | rfl | (simp [errW_none, errW_some] <;> rfl) | (simp [*, errW_none, errW_some] <;> rfl), by repeat (first | (with_reducible first | exact HB.out | apply below_alloc | apply pw_below_drewN | apply below_drew1 | refine below_set ?_ GE218.out | refine below_set ?_ GE219.out | refine below_set ?_ GE231.out) | exact HB.out)⟩
              ·rw [if_neg c201] at H
               have c201b0 : decide (512 < (a2.size : Int)) = false := decide_eq_false c201
               have c201b1 : decide (512 < a2.size) = false := decide_eq_false (by omega)
               clear c201
               replace H := Option.bind_eq_some_iff.mp H
               obtain ⟨⟨t248, t249, t250⟩, A2040, H⟩ := H
               replace H : ((span_Right.f kj152 t248 t249 t250).bind fun t252 => (if t252 = true then ((span_Has.f kj152 t248 t249 t250 a2).bind fun t253 => (if t253 = true then (if a2.size + 1 ≤ 9223372036854775807 then ((span_Has.f kj152 t248 t249 t250 (a2 ++ (⟨#[0]⟩ : ByteArray))).bind fun t254 => (if t254 = true then (none) else ((span_Within.f kj152 t248 t249 t250 a0_0 a0_1 a0_2).bind fun t255 => ((span_Has.f kj152 a0_0 a0_1 a0_2 a2).bind fun t256 => (if (t255 == t256) = true then ((k3_head.f kj152).bind fun t257 => (some t257)) else (none)))))) else (none)) else (none))) else (none))) = some r := H
               have A204 := Aside0.mk A2040
               clear A2040
               replace H := Option.bind_eq_some_iff.mp H
               obtain ⟨t252, A2050, H⟩ := H
               replace H : (if t252 = true then ((span_Has.f kj152 t248 t249 t250 a2).bind fun t253 => (if t253 = true then (if a2.size + 1 ≤ 9223372036854775807 then ((span_Has.f kj152 t248 t249 t250 (a2 ++ (⟨#[0]⟩ : ByteArray))).bind fun t254 => (if t254 = true then (none) else ((span_Within.f kj152 t248 t249 t250 a0_0 a0_1 a0_2).bind fun t255 => ((span_Has.f kj152 a0_0 a0_1 a0_2 a2).bind fun t256 => (if (t255 == t256) = true then ((k3_head.f kj152).bind fun t257 => (some t257)) else (none)))))) else (none)) else (none))) else (none)) = some r := H
               have A205 := Aside0.mk A2050
               clear A2050
               by_cases c206 : t252 = true
               ·subst c206
                have H1 : ((span_Has.f kj152 t248 t249 t250 a2).bind fun t253 => (if t253 = true then (if a2.size + 1 ≤ 9223372036854775807 then ((span_Has.f kj152 t248 t249 t250 (a2 ++ (⟨#[0]⟩ : ByteArray))).bind fun t254 => (if t254 = true then (none) else ((span_Within.f kj152 t248 t249 t250 a0_0 a0_1 a0_2).bind fun t255 => ((span_Has.f kj152 a0_0 a0_1 a0_2 a2).bind fun t256 => (if (t255 == t256) = true then ((k3_head.f kj152).bind fun t257 => (some t257)) else (none)))))) else (none)) else (none))) = some r := by rw [if_pos rfl] at H; exact H
                clear H
                have H := H1
                clear H1
                replace H := Option.bind_eq_some_iff.mp H
                obtain ⟨t253, A2070, H⟩ := H
                replace H : (if t253 = true then (if a2.size + 1 ≤ 9223372036854775807 then ((span_Has.f kj152 t248 t249 t250 (a2 ++ (⟨#[0]⟩ : ByteArray))).bind fun t254 => (if t254 = true then (none) else ((span_Within.f kj152 t248 t249 t250 a0_0 a0_1 a0_2).bind fun t255 => ((span_Has.f kj152 a0_0 a0_1 a0_2 a2).bind fun t256 => (if (t255 == t256) = true then ((k3_head.f kj152).bind fun t257 => (some t257)) else (none)))))) else (none)) else (none)) = some r := H
                have A207 := Aside0.mk A2070
                clear A2070
                by_cases c208 : t253 = true
                ·subst c208
                 have H1 : (if a2.size + 1 ≤ 9223372036854775807 then ((span_Has.f kj152 t248 t249 t250 (a2 ++ (⟨#[0]⟩ : ByteArray))).bind fun t254 => (if t254 = true then (none) else ((span_Within.f kj152 t248 t249 t250 a0_0 a0_1 a0_2).bind fun t255 => ((span_Has.f kj152 a0_0 a0_1 a0_2 a2).bind fun t256 => (if (t255 == t256) = true then ((k3_head.f kj152).bind fun t257 => (some t257)) else (none)))))) else (none)) = some r := by rw [if_pos rfl] at H; exact H
                 clear H
                 have H := H1
                 clear H1
                 by_cases c209 : a2.size + 1 ≤ 9223372036854775807
                 ·rw [if_pos c209] at H
                  have c209b0 := eq_true c209
                  have c209b1 : decide (a2.size + 1 ≤ 9223372036854775807) = true := decide_eq_true c209
                  try have c209b2 : (9223372036854775807 < a2.size + 1) = False := eq_false (Nat.not_lt.2 c209)
                  replace H := Option.bind_eq_some_iff.mp H
                  obtain ⟨t254, A2100, H⟩ := H
                  replace H : (if t254 = true then (none) else ((span_Within.f kj152 t248 t249 t250 a0_0 a0_1 a0_2).bind fun t255 => ((span_Has.f kj152 a0_0 a0_1 a0_2 a2).bind fun t256 => (if (t255 == t256) = true then ((k3_head.f kj152).bind fun t257 => (some t257)) else (none))))) = some r := H
                  have A210 := Aside0.mk A2100
                  clear A2100
                  by_cases c211 : t254 = true
                  ·subst c211
                   have H1 : (none) = some r := by rw [if_pos rfl] at H; exact H
                   clear H
                   have H := H1
                   clear H1
                   exact absurd H (by simp)
                  ·replace c211 := Bool.eq_false_iff.mpr c211
                   subst c211
                   have H1 : ((span_Within.f kj152 t248 t249 t250 a0_0 a0_1 a0_2).bind fun t255 => ((span_Has.f kj152 a0_0 a0_1 a0_2 a2).bind fun t256 => (if (t255 == t256) = true then ((k3_head.f kj152).bind fun t257 => (some t257)) else (none)))) = some r := by rw [if_neg (show ¬ (false = true) by decide)] at H; exact H
                   clear H
                   have H := H1
                   clear H1
                   replace H := Option.bind_eq_some_iff.mp H
                   obtain ⟨t255, A2120, H⟩ := H
                   replace H : ((span_Has.f kj152 a0_0 a0_1 a0_2 a2).bind fun t256 => (if (t255 == t256) = true then ((k3_head.f kj152).bind fun t257 => (some t257)) else (none))) = some r := H
                   have A212 := Aside0.mk A2120
                   clear A2120
                   replace H := Option.bind_eq_some_iff.mp H
                   obtain ⟨t256, A2130, H⟩ := H
                   replace H : (if (t255 == t256) = true then ((k3_head.f kj152).bind fun t257 => (some t257)) else (none)) = some r := H
                   have A213 := Aside0.mk A2130
                   clear A2130
                   by_cases c214 : (t255 == t256) = true
                   ·rw [if_pos c214] at H
                    have c214b0 : (t255 == t256) = true := c214
                    (try (have c214b1 : decide (t255 = t256) = true := by simpa using c214))
                    (try (have c214b2 : (t255 == t256) = true := by simpa using c214))
                    clear c214
                    replace H := Option.bind_eq_some_iff.mp H
                    obtain ⟨t257, A2150, H⟩ := H
                    replace H : (some t257) = some r := H
                    have A215 := Aside0.mk A2150
                    clear A2150
                    obtain rfl := Option.some.inj H
                    try go_wp2_with (first | ((with_reducible refine gate_callee (f := 12) rfl ?_); refine goesL_ (some 109) rfl rfl Try.func12 (by kernel_rfl) rfl #[.string a2] rfl (by (try simp only [List.map_toArray, List.map_cons, List.map_nil]); first | done | rfl | (simp only [List.length_drop, List.length_take]; rfl)) ?_; (with_reducible refine (span_Point.calls a2 t248 t249 t250 _ A204.out).mono ?_); rintro e w216 ⟨rfl, hb⟩; refine ⟨_, rfl, ?_⟩; have n0_ := Aside0.mk (blk_below (g := gb218) (o := .cells #[.string a0_0, .string a0_1, .bool a0_2] 31 (0, 0)) (by (with_reducible repeat (first | refine blk_drewN ?_ _ | refine blk_drew ?_ | refine blk_alloc ?_ _)); exact BK218.out) hb); have n1_ := Aside0.mk (blk_below (g := gb219) (o := .cells #[.string a1_0, .string a1_1, .bool a1_2] 31 (0, 0)) (by (with_reducible repeat (first | refine blk_drewN ?_ _ | refine blk_drew ?_ | refine blk_alloc ?_ _)); exact BK219.out) hb); have n2_ := Aside0.mk (blk_below (g := gb231) (o := .cells #[.string t227, .string t228, .bool t229] 31 (0, 0)) (by (with_reducible repeat (first | refine blk_drewN ?_ _ | refine blk_drew ?_ | refine blk_alloc ?_ _)); exact BK231.out) hb); have n3_ := Aside0.mk (below_step (by repeat (first | (with_reducible first | exact HB.out | apply below_alloc | apply pw_below_drewN | apply below_drew1 | refine below_set ?_ GE218.out | refine below_set ?_ GE219.out | refine below_set ?_ GE231.out) | exact HB.out)) hb); clear BK218; clear BK219; clear BK231; clear HB; have BK218 := n0_; have BK219 := n1_; have BK231 := n2_; have HB := n3_; clear n0_ n1_ n2_ n3_; (try clear hb); (try clear hb2); (try clear hk); (try clear hi)) | ((with_reducible refine gate_dst (N := 9) rfl ?_); refine box_event ?hg (N := 9) ?hd (cs := #[.string (⟨#[]⟩ : ByteArray), .string (⟨#[]⟩ : ByteArray), .bool false]) (t := 31) ?hr ?_; (case hd => rfl); (case hg => rfl); (case hr => first | (go_simp; done) | (go_simp; rfl)); intro gb251 hg w217 hbox hb; have n0_ := Aside0.mk (blk_below (g := gb218) (o := .cells #[.string a0_0, .string a0_1, .bool a0_2] 31 (0, 0)) (by (with_reducible repeat (first | refine blk_drewN ?_ _ | refine blk_drew ?_ | refine blk_alloc ?_ _)); exact BK218.out) hb); have n1_ := Aside0.mk (blk_below (g := gb219) (o := .cells #[.string a1_0, .string a1_1, .bool a1_2] 31 (0, 0)) (by (with_reducible repeat (first | refine blk_drewN ?_ _ | refine blk_drew ?_ | refine blk_alloc ?_ _)); exact BK219.out) hb); have n2_ := Aside0.mk (blk_below (g := gb231) (o := .cells #[.string t227, .string t228, .bool t229] 31 (0, 0)) (by (with_reducible repeat (first | refine blk_drewN ?_ _ | refine blk_drew ?_ | refine blk_alloc ?_ _)); exact BK231.out) hb); have n3_ := Aside0.mk (below_step (by repeat (first | (with_reducible first | exact HB.out | apply below_alloc | apply pw_below_drewN | apply below_drew1 | refine below_set ?_ GE218.out | refine below_set ?_ GE219.out | refine below_set ?_ GE231.out) | exact HB.out)) hb); have n4_ := Aside0.mk (hbox); have n5_ := Aside0.mk ((by rw [hg]; exact (below_size (by repeat (first | (with_reducible first | exact HB.out | apply below_alloc | apply pw_below_drewN | apply below_drew1 | refine below_set ?_ GE218.out | refine below_set ?_ GE219.out | refine below_set ?_ GE231.out) | exact HB.out))) : w.heap.size ≤ gb251)); have n6_ := Aside0.mk ((by rw [hg]; exact (below_size (by repeat (first | (with_reducible first | exact HB.out | apply below_alloc | apply pw_below_drewN | apply below_drew1 | refine below_set ?_ GE218.out | refine below_set ?_ GE219.out | refine below_set ?_ GE231.out) | exact HB.out))) : w.heap.size ≤ gb251)); have n7_ := Aside0.mk ((by rw [hg]; exact Nat.ne_of_lt (blk_lt (g := gb218) (o := .cells #[.string a0_0, .string a0_1, .bool a0_2] 31 (0, 0)) (by (with_reducible repeat (first | refine blk_drewN ?_ _ | refine blk_drew ?_ | refine blk_alloc ?_ _)); exact BK218.out)) : gb218 ≠ gb251)); have n8_ := Aside0.mk ((by rw [hg]; exact Nat.ne_of_gt (blk_lt (g := gb218) (o := .cells #[.string a0_0, .string a0_1, .bool a0_2] 31 (0, 0)) (by (with_reducible repeat (first | refine blk_drewN ?_ _ | refine blk_drew ?_ | refine blk_alloc ?_ _)); exact BK218.out)) : gb251 ≠ gb218)); have n9_ := Aside0.mk ((by rw [hg]; exact Nat.ne_of_lt (blk_lt (g := gb219) (o := .cells #[.string a1_0, .string a1_1, .bool a1_2] 31 (0, 0)) (by (with_reducible repeat (first | refine blk_drewN ?_ _ | refine blk_drew ?_ | refine blk_alloc ?_ _)); exact BK219.out)) : gb219 ≠ gb251)); have n10_ := Aside0.mk ((by rw [hg]; exact Nat.ne_of_gt (blk_lt (g := gb219) (o := .cells #[.string a1_0, .string a1_1, .bool a1_2] 31 (0, 0)) (by (with_reducible repeat (first | refine blk_drewN ?_ _ | refine blk_drew ?_ | refine blk_alloc ?_ _)); exact BK219.out)) : gb251 ≠ gb219)); have n11_ := Aside0.mk ((by rw [hg]; exact Nat.ne_of_lt (blk_lt (g := gb231) (o := .cells #[.string t227, .string t228, .bool t229] 31 (0, 0)) (by (with_reducible repeat (first | refine blk_drewN ?_ _ | refine blk_drew ?_ | refine blk_alloc ?_ _)); exact BK231.out)) : gb231 ≠ gb251)); have n12_ := Aside0.mk ((by rw [hg]; exact Nat.ne_of_gt (blk_lt (g := gb231) (o := .cells #[.string t227, .string t228, .bool t229] 31 (0, 0)) (by (with_reducible repeat (first | refine blk_drewN ?_ _ | refine blk_drew ?_ | refine blk_alloc ?_ _)); exact BK231.out)) : gb251 ≠ gb231)); clear BK218; clear BK219; clear BK231; clear HB; have BK218 := n0_; have BK219 := n1_; have BK231 := n2_; have HB := n3_; have BK251 := n4_; have GW251 := n5_; have GE251 := n6_; have NB218_251 := n7_; have NB251_218 := n8_; have NB219_251 := n9_; have NB251_219 := n10_; have NB231_251 := n11_; have NB251_231 := n12_; clear n0_ n1_ n2_ n3_ n4_ n5_ n6_ n7_ n8_ n9_ n10_ n11_ n12_; clear hb hbox hg; have hnb218 := NB251_218.out; have hnc218 := NB218_251.out; have hnb219 := NB251_219.out; have hnc219 := NB219_251.out; have hnb220 := NB251_231.out; have hnc220 := NB231_251.out; have hcz221_0 : w217.cell? ⟨gb251, 0, none⟩ = some (.string (⟨#[]⟩ : ByteArray)) := (blk_cell BK251.out 0).trans rfl; have hcz221_1 : w217.cell? ⟨gb251, 1, none⟩ = some (.string (⟨#[]⟩ : ByteArray)) := (blk_cell BK251.out 1).trans rfl; have hcz221_2 : w217.cell? ⟨gb251, 2, none⟩ = some (.bool false) := (blk_cell BK251.out 2).trans rfl; have hfz221_0 := blk_frozen BK251.out 0; have hfz221_1 := blk_frozen BK251.out 1; have hfz221_2 := blk_frozen BK251.out 2))
                    have n0_ : Aside0 ((((w217.setCell ⟨gb251, 0, none⟩ (.string t248)).setCell ⟨gb251, 1, none⟩ (.string t249)).setCell ⟨gb251, 2, none⟩ (.bool t250)).heap[gb218]? = some (.cells #[.string a0_0, .string a0_1, .bool a0_2] 31 (0, 0))) := ⟨by (with_reducible repeat (first | refine blk_drewN ?_ _ | refine blk_drew ?_ | refine blk_alloc ?_ _)); refine blk_far ?_ NB218_251.out _; (with_reducible repeat (first | refine blk_drewN ?_ _ | refine blk_drew ?_ | refine blk_alloc ?_ _)); refine blk_far ?_ NB218_251.out _; (with_reducible repeat (first | refine blk_drewN ?_ _ | refine blk_drew ?_ | refine blk_alloc ?_ _)); refine blk_far ?_ NB218_251.out _; (with_reducible repeat (first | refine blk_drewN ?_ _ | refine blk_drew ?_ | refine blk_alloc ?_ _)); exact BK218.out⟩
                    have n1_ : Aside0 ((((w217.setCell ⟨gb251, 0, none⟩ (.string t248)).setCell ⟨gb251, 1, none⟩ (.string t249)).setCell ⟨gb251, 2, none⟩ (.bool t250)).heap[gb219]? = some (.cells #[.string a1_0, .string a1_1, .bool a1_2] 31 (0, 0))) := ⟨by (with_reducible repeat (first | refine blk_drewN ?_ _ | refine blk_drew ?_ | refine blk_alloc ?_ _)); refine blk_far ?_ NB219_251.out _; (with_reducible repeat (first | refine blk_drewN ?_ _ | refine blk_drew ?_ | refine blk_alloc ?_ _)); refine blk_far ?_ NB219_251.out _; (with_reducible repeat (first | refine blk_drewN ?_ _ | refine blk_drew ?_ | refine blk_alloc ?_ _)); refine blk_far ?_ NB219_251.out _; (with_reducible repeat (first | refine blk_drewN ?_ _ | refine blk_drew ?_ | refine blk_alloc ?_ _)); exact BK219.out⟩
                    have n2_ : Aside0 ((((w217.setCell ⟨gb251, 0, none⟩ (.string t248)).setCell ⟨gb251, 1, none⟩ (.string t249)).setCell ⟨gb251, 2, none⟩ (.bool t250)).heap[gb231]? = some (.cells #[.string t227, .string t228, .bool t229] 31 (0, 0))) := ⟨by (with_reducible repeat (first | refine blk_drewN ?_ _ | refine blk_drew ?_ | refine blk_alloc ?_ _)); refine blk_far ?_ NB231_251.out _; (with_reducible repeat (first | refine blk_drewN ?_ _ | refine blk_drew ?_ | refine blk_alloc ?_ _)); refine blk_far ?_ NB231_251.out _; (with_reducible repeat (first | refine blk_drewN ?_ _ | refine blk_drew ?_ | refine blk_alloc ?_ _)); refine blk_far ?_ NB231_251.out _; (with_reducible repeat (first | refine blk_drewN ?_ _ | refine blk_drew ?_ | refine blk_alloc ?_ _)); exact BK231.out⟩
                    have n3_ : Aside0 ((((w217.setCell ⟨gb251, 0, none⟩ (.string t248)).setCell ⟨gb251, 1, none⟩ (.string t249)).setCell ⟨gb251, 2, none⟩ (.bool t250)).heap[gb251]? = some (.cells #[.string t248, .string t249, .bool t250] 31 (0, 0))) := ⟨by (with_reducible repeat (first | refine blk_drewN ?_ _ | refine blk_drew ?_ | refine blk_alloc ?_ _)); refine blk_put (cs := #[.string t248, .string t249, .bool false]) ?_ 2 _ rfl; (with_reducible repeat (first | refine blk_drewN ?_ _ | refine blk_drew ?_ | refine blk_alloc ?_ _)); refine blk_put (cs := #[.string t248, .string (⟨#[]⟩ : ByteArray), .bool false]) ?_ 1 _ rfl; (with_reducible repeat (first | refine blk_drewN ?_ _ | refine blk_drew ?_ | refine blk_alloc ?_ _)); refine blk_put (cs := #[.string (⟨#[]⟩ : ByteArray), .string (⟨#[]⟩ : ByteArray), .bool false]) ?_ 0 _ rfl; (with_reducible repeat (first | refine blk_drewN ?_ _ | refine blk_drew ?_ | refine blk_alloc ?_ _)); exact BK251.out⟩
                    have n4_ : Aside0 (Below w.heap.size w (((w217.setCell ⟨gb251, 0, none⟩ (.string t248)).setCell ⟨gb251, 1, none⟩ (.string t249)).setCell ⟨gb251, 2, none⟩ (.bool t250))) := ⟨by repeat (first | (with_reducible first | exact HB.out | apply below_alloc | apply pw_below_drewN | apply below_drew1 | refine below_set ?_ GE218.out | refine below_set ?_ GE219.out | refine below_set ?_ GE231.out | refine below_set ?_ GE251.out) | exact HB.out)⟩
                    (try clear BK218)
                    (try clear BK219)
                    (try clear BK231)
                    (try clear BK251)
                    (try clear HB)
                    generalize (((w217.setCell ⟨gb251, 0, none⟩ (.string t248)).setCell ⟨gb251, 1, none⟩ (.string t249)).setCell ⟨gb251, 2, none⟩ (.bool t250)) = w222 at n0_ n1_ n2_ n3_ n4_ ⊢
                    have BK218 := n0_
                    have BK219 := n1_
                    have BK231 := n2_
                    have BK251 := n3_
                    have HB := n4_
                    clear n0_ n1_ n2_ n3_ n4_
                    have n0_ := Aside0.mk (blk_drew BK218.out)
                    have n1_ := Aside0.mk (blk_drew BK219.out)
                    have n2_ := Aside0.mk (blk_drew BK231.out)
                    have n3_ := Aside0.mk (blk_drew BK251.out)
                    have n4_ := Aside0.mk (below_drew1 HB.out)
                    clear BK218
                    clear BK219
                    clear BK231
                    clear BK251
                    clear HB
                    have BK218 := n0_
                    have BK219 := n1_
                    have BK231 := n2_
                    have BK251 := n3_
                    have HB := n4_
                    clear n0_ n1_ n2_ n3_ n4_
                    refine start_ (n := 27) (S := fun w' => w'.cell? ⟨gb251, 0, none⟩ = some (.string t248) ∧ w'.cell? ⟨gb251, 1, none⟩ = some (.string t249) ∧ w'.cell? ⟨gb251, 2, none⟩ = some (.bool t250) ∧ w'.cell? ⟨gb218, 0, none⟩ = some (.string a0_0) ∧ w'.cell? ⟨gb218, 1, none⟩ = some (.string a0_1) ∧ w'.cell? ⟨gb218, 2, none⟩ = some (.bool a0_2)) (ds := []) #[false, false, false, false, false, false, false, false, false, false, false, false, false, false, false, false, false, false, false, false, false, false, false, false, false, false, false] (by kernel_rfl) rfl rfl ⟨(blk_cell BK251.out 0).trans rfl, (blk_cell BK251.out 1).trans rfl, (blk_cell BK251.out 2).trans rfl, (blk_cell BK218.out 0).trans rfl, (blk_cell BK218.out 1).trans rfl, (blk_cell BK218.out 2).trans rfl⟩ (fun hHeld => ?_); refine with_tabW k3_SM.tab15 k3_SM.bits15 (fun HT_ HW_ => ?_)
                    generalize w222.drew = w223 at BK218 BK219 BK231 BK251 HB hHeld ⊢
                    refine take_ (i := 0) (N := some 110) (v := ?_) (a' := ?_) #[true, false, false, false, false, false, false, false, false, false, false, false, false, false, false, false, false, false, false, false, false, false, false, false, false, false, false] rfl rfl (take_ofW HT_.out HW_.out (by kernel_rfl)) (fun _ _ _ h => h) (Or.inl ⟨by rfl, ?_⟩) hHeld ?_ ?_
                    rotate_left
                    ·rintro w' ⟨s0, s1, s2, s3, s4, s5⟩
                     go_simp
                     with_reducible rfl
                    rotate_left
                    ·simp only [Act.put, List.setIfInBounds_toArray, List.set_cons_zero, List.set_cons_succ, i64_w, i32_w]
                     rfl
                    refine one_ (i := 1) (N := some 111) #[true, true, false, false, false, false, false, false, false, false, false, false, false, false, false, false, false, false, false, false, false, false, false, false, false, false, false] rfl rfl (one_of HT_.out (by kernel_rfl)) (by decide) (fun K hK => ?_)
                    refine goes_ Try.func17 (by kernel_rfl) rfl #[.agg #[.string t248, .string t249, .bool t250]] (by rfl) rfl rfl (by (try simp only [List.map_toArray, List.map_cons, List.map_nil]); first | done | rfl | (simp only [List.length_drop, List.length_take]; rfl)) ?_
                    with_reducible refine (span_Right.calls kj152 t248 t249 t250 true _ A205.out).mono ?_
                    rintro e w224 ⟨rfl, hb⟩
                    refine ⟨_, rfl, ?_⟩
                    have n0_ := Aside0.mk (blk_below (g := gb218) (o := .cells #[.string a0_0, .string a0_1, .bool a0_2] 31 (0, 0)) (by (with_reducible repeat (first | refine blk_drewN ?_ _ | refine blk_drew ?_ | refine blk_alloc ?_ _)); exact BK218.out) hb)
                    have n1_ := Aside0.mk (blk_below (g := gb219) (o := .cells #[.string a1_0, .string a1_1, .bool a1_2] 31 (0, 0)) (by (with_reducible repeat (first | refine blk_drewN ?_ _ | refine blk_drew ?_ | refine blk_alloc ?_ _)); exact BK219.out) hb)
                    have n2_ := Aside0.mk (blk_below (g := gb231) (o := .cells #[.string t227, .string t228, .bool t229] 31 (0, 0)) (by (with_reducible repeat (first | refine blk_drewN ?_ _ | refine blk_drew ?_ | refine blk_alloc ?_ _)); exact BK231.out) hb)
                    have n3_ := Aside0.mk (blk_below (g := gb251) (o := .cells #[.string t248, .string t249, .bool t250] 31 (0, 0)) (by (with_reducible repeat (first | refine blk_drewN ?_ _ | refine blk_drew ?_ | refine blk_alloc ?_ _)); exact BK251.out) hb)
                    have n4_ := Aside0.mk (below_step (by repeat (first | (with_reducible first | exact HB.out | apply below_alloc | apply pw_below_drewN | apply below_drew1 | refine below_set ?_ GE218.out | refine below_set ?_ GE219.out | refine below_set ?_ GE231.out | refine below_set ?_ GE251.out) | exact HB.out)) hb)
                    clear BK218
                    clear BK219
                    clear BK231
                    clear BK251
                    clear HB
                    have BK218 := n0_
                    have BK219 := n1_
                    have BK231 := n2_
                    have BK251 := n3_
                    have HB := n4_
                    clear n0_ n1_ n2_ n3_ n4_
                    (try clear hb)
                    (try clear hb2)
                    (try clear hk)
                    (try clear hi)
                    refine hK.out _ _ ⟨(blk_cell BK251.out 0).trans rfl, (blk_cell BK251.out 1).trans rfl, (blk_cell BK251.out 2).trans rfl, (blk_cell BK218.out 0).trans rfl, (blk_cell BK218.out 1).trans rfl, (blk_cell BK218.out 2).trans rfl⟩ (fun hHeld => ?_)
                    clear hK K
                    refine norm_ (a' := ?_) ?_ ?_
                    rotate_left
                    ·show Act.put _ (some 111) _ = _
                     simp only [Act.put, List.setIfInBounds_toArray, List.set_cons_zero, List.set_cons_succ, i64_w, i32_w]
                     rfl
                    refine pure_ (i := 2) (N := some 112) (v := ?_) (a' := ?_) #[true, true, true, false, false, false, false, false, false, false, false, false, false, false, false, false, false, false, false, false, false, false, false, false, false, false, false] rfl rfl (any_of HT_.out (by kernel_rfl)) (fun _ _ _ h => h) (Or.inl ⟨by rfl, ?_⟩) ?_ ?_
                    rotate_left
                    ·intro w'
                     go_simp
                     with_reducible rfl
                    rotate_left
                    ·simp only [Act.put, List.setIfInBounds_toArray, List.set_cons_zero, List.set_cons_succ, i64_w, i32_w]
                     rfl
                    refine pure_ (i := 4) (N := some 114) (v := ?_) (a' := ?_) #[true, true, true, false, true, false, false, false, false, false, false, false, false, false, false, false, false, false, false, false, false, false, false, false, false, false, false] rfl rfl (any_of HT_.out (by kernel_rfl)) (fun _ _ _ h => h) (Or.inl ⟨by rfl, ?_⟩) ?_ ?_
                    rotate_left
                    ·intro w'
                     go_simp
                     with_reducible rfl
                    rotate_left
                    ·simp only [Act.put, List.setIfInBounds_toArray, List.set_cons_zero, List.set_cons_succ, i64_w, i32_w]
                     rfl
                    refine take_ (i := 3) (N := some 113) (v := ?_) (a' := ?_) #[true, true, true, true, true, false, false, false, false, false, false, false, false, false, false, false, false, false, false, false, false, false, false, false, false, false, false] rfl rfl (take_ofW HT_.out HW_.out (by kernel_rfl)) (fun _ _ _ h => h) (Or.inl ⟨by rfl, ?_⟩) hHeld ?_ ?_
                    rotate_left
                    ·rintro w' ⟨s0, s1, s2, s3, s4, s5⟩
                     go_simp
                     with_reducible rfl
                    rotate_left
                    ·simp only [Act.put, List.setIfInBounds_toArray, List.set_cons_zero, List.set_cons_succ, i64_w, i32_w]
                     rfl
                    refine one_ (i := 5) (N := some 115) #[true, true, true, true, true, true, false, false, false, false, false, false, false, false, false, false, false, false, false, false, false, false, false, false, false, false, false] rfl rfl (one_of HT_.out (by kernel_rfl)) (by decide) (fun K hK => ?_)
                    refine goes_ Try.func13 (by kernel_rfl) rfl #[.agg #[.string t248, .string t249, .bool t250], .string a2] (by rfl) rfl rfl (by (try simp only [List.map_toArray, List.map_cons, List.map_nil]); first | done | rfl | (simp only [List.length_drop, List.length_take]; rfl)) ?_
                    with_reducible refine (span_Has.calls kj152 t248 t249 t250 a2 true _ A207.out).mono ?_
                    rintro e w225 ⟨rfl, hb⟩
                    refine ⟨_, rfl, ?_⟩
                    have n0_ := Aside0.mk (blk_below (g := gb218) (o := .cells #[.string a0_0, .string a0_1, .bool a0_2] 31 (0, 0)) (by (with_reducible repeat (first | refine blk_drewN ?_ _ | refine blk_drew ?_ | refine blk_alloc ?_ _)); exact BK218.out) hb)
                    have n1_ := Aside0.mk (blk_below (g := gb219) (o := .cells #[.string a1_0, .string a1_1, .bool a1_2] 31 (0, 0)) (by (with_reducible repeat (first | refine blk_drewN ?_ _ | refine blk_drew ?_ | refine blk_alloc ?_ _)); exact BK219.out) hb)
                    have n2_ := Aside0.mk (blk_below (g := gb231) (o := .cells #[.string t227, .string t228, .bool t229] 31 (0, 0)) (by (with_reducible repeat (first | refine blk_drewN ?_ _ | refine blk_drew ?_ | refine blk_alloc ?_ _)); exact BK231.out) hb)
                    have n3_ := Aside0.mk (blk_below (g := gb251) (o := .cells #[.string t248, .string t249, .bool t250] 31 (0, 0)) (by (with_reducible repeat (first | refine blk_drewN ?_ _ | refine blk_drew ?_ | refine blk_alloc ?_ _)); exact BK251.out) hb)
                    have n4_ := Aside0.mk (below_step (by repeat (first | (with_reducible first | exact HB.out | apply below_alloc | apply pw_below_drewN | apply below_drew1 | refine below_set ?_ GE218.out | refine below_set ?_ GE219.out | refine below_set ?_ GE231.out | refine below_set ?_ GE251.out) | exact HB.out)) hb)
                    clear BK218
                    clear BK219
                    clear BK231
                    clear BK251
                    clear HB
                    have BK218 := n0_
                    have BK219 := n1_
                    have BK231 := n2_
                    have BK251 := n3_
                    have HB := n4_
                    clear n0_ n1_ n2_ n3_ n4_
                    (try clear hb)
                    (try clear hb2)
                    (try clear hk)
                    (try clear hi)
                    refine hK.out _ _ ⟨(blk_cell BK251.out 0).trans rfl, (blk_cell BK251.out 1).trans rfl, (blk_cell BK251.out 2).trans rfl, (blk_cell BK218.out 0).trans rfl, (blk_cell BK218.out 1).trans rfl, (blk_cell BK218.out 2).trans rfl⟩ (fun hHeld => ?_)
                    clear hK K
                    refine norm_ (a' := ?_) ?_ ?_
                    rotate_left
                    ·show Act.put _ (some 115) _ = _
                     simp only [Act.put, List.setIfInBounds_toArray, List.set_cons_zero, List.set_cons_succ, i64_w, i32_w]
                     rfl
                    refine pure_ (i := 6) (N := some 116) (v := ?_) (a' := ?_) #[true, true, true, true, true, true, true, false, false, false, false, false, false, false, false, false, false, false, false, false, false, false, false, false, false, false, false] rfl rfl (any_of HT_.out (by kernel_rfl)) (fun _ _ _ h => h) (Or.inl ⟨by rfl, ?_⟩) ?_ ?_
                    rotate_left
                    ·intro w'
                     go_simp
                     with_reducible rfl
                    rotate_left
                    ·simp only [Act.put, List.setIfInBounds_toArray, List.set_cons_zero, List.set_cons_succ, i64_w, i32_w]
                     rfl
                    refine pure_ (i := 7) (N := some 117) (v := ?_) (a' := ?_) #[true, true, true, true, true, true, true, true, false, false, false, false, false, false, false, false, false, false, false, false, false, false, false, false, false, false, false] rfl rfl (any_of HT_.out (by kernel_rfl)) (fun _ _ _ h => h) (Or.inl ⟨by rfl, ?_⟩) ?_ ?_
                    rotate_left
                    ·intro w'
                     go_simp
                     with_reducible rfl
                    rotate_left
                    ·simp only [Act.put, List.setIfInBounds_toArray, List.set_cons_zero, List.set_cons_succ, i64_w, i32_w]
                     rfl
                    refine pure_ (i := 9) (N := some 119) (v := ?_) (a' := ?_) #[true, true, true, true, true, true, true, true, false, true, false, false, false, false, false, false, false, false, false, false, false, false, false, false, false, false, false] rfl rfl (any_of HT_.out (by kernel_rfl)) (fun _ _ _ h => h) (Or.inl ⟨by rfl, ?_⟩) ?_ ?_
                    rotate_left
                    ·intro w'
                     go_simp
                     with_reducible rfl
                    rotate_left
                    ·simp only [Act.put, List.setIfInBounds_toArray, List.set_cons_zero, List.set_cons_succ, i64_w, i32_w]
                     rfl
                    refine pure_ (i := 10) (N := some 120) (v := ?_) (a' := ?_) #[true, true, true, true, true, true, true, true, false, true, true, false, false, false, false, false, false, false, false, false, false, false, false, false, false, false, false] rfl rfl (any_of HT_.out (by kernel_rfl)) (fun _ _ _ h => h) (Or.inl ⟨by rfl, ?_⟩) ?_ ?_
                    rotate_left
                    ·intro w'
                     go_simp
                     with_reducible rfl
                    rotate_left
                    ·simp only [Act.put, List.setIfInBounds_toArray, List.set_cons_zero, List.set_cons_succ, i64_w, i32_w]
                     rfl
                    refine take_ (i := 8) (N := some 118) (v := ?_) (a' := ?_) #[true, true, true, true, true, true, true, true, true, true, true, false, false, false, false, false, false, false, false, false, false, false, false, false, false, false, false] rfl rfl (take_ofW HT_.out HW_.out (by kernel_rfl)) (fun _ _ _ h => h) (Or.inl ⟨by rfl, ?_⟩) hHeld ?_ ?_
                    rotate_left
                    ·rintro w' ⟨s0, s1, s2, s3, s4, s5⟩
                     go_simp
                     with_reducible rfl
                    rotate_left
                    ·simp only [Act.put, List.setIfInBounds_toArray, List.set_cons_zero, List.set_cons_succ, i64_w, i32_w]
                     rfl
                    refine one_ (i := 11) (N := some 121) #[true, true, true, true, true, true, true, true, true, true, true, true, false, false, false, false, false, false, false, false, false, false, false, false, false, false, false] rfl rfl (one_of HT_.out (by kernel_rfl)) (by decide) (fun K hK => ?_)
                    refine goes_ Try.func13 (by kernel_rfl) rfl #[.agg #[.string t248, .string t249, .bool t250], .string (a2 ++ (⟨#[0]⟩ : ByteArray))] (by rfl) rfl rfl (by (try simp only [List.map_toArray, List.map_cons, List.map_nil]); first | done | rfl | (simp only [List.length_drop, List.length_take]; rfl)) ?_
                    with_reducible refine (span_Has.calls kj152 t248 t249 t250 (a2 ++ (⟨#[0]⟩ : ByteArray)) false _ A210.out).mono ?_
                    rintro e w226 ⟨rfl, hb⟩
                    refine ⟨_, rfl, ?_⟩
                    have n0_ := Aside0.mk (blk_below (g := gb218) (o := .cells #[.string a0_0, .string a0_1, .bool a0_2] 31 (0, 0)) (by (with_reducible repeat (first | refine blk_drewN ?_ _ | refine blk_drew ?_ | refine blk_alloc ?_ _)); exact BK218.out) hb)
                    have n1_ := Aside0.mk (blk_below (g := gb219) (o := .cells #[.string a1_0, .string a1_1, .bool a1_2] 31 (0, 0)) (by (with_reducible repeat (first | refine blk_drewN ?_ _ | refine blk_drew ?_ | refine blk_alloc ?_ _)); exact BK219.out) hb)
                    have n2_ := Aside0.mk (blk_below (g := gb231) (o := .cells #[.string t227, .string t228, .bool t229] 31 (0, 0)) (by (with_reducible repeat (first | refine blk_drewN ?_ _ | refine blk_drew ?_ | refine blk_alloc ?_ _)); exact BK231.out) hb)
                    have n3_ := Aside0.mk (blk_below (g := gb251) (o := .cells #[.string t248, .string t249, .bool t250] 31 (0, 0)) (by (with_reducible repeat (first | refine blk_drewN ?_ _ | refine blk_drew ?_ | refine blk_alloc ?_ _)); exact BK251.out) hb)
                    have n4_ := Aside0.mk (below_step (by repeat (first | (with_reducible first | exact HB.out | apply below_alloc | apply pw_below_drewN | apply below_drew1 | refine below_set ?_ GE218.out | refine below_set ?_ GE219.out | refine below_set ?_ GE231.out | refine below_set ?_ GE251.out) | exact HB.out)) hb)
                    clear BK218
                    clear BK219
                    clear BK231
                    clear BK251
                    clear HB
                    have BK218 := n0_
                    have BK219 := n1_
                    have BK231 := n2_
                    have BK251 := n3_
                    have HB := n4_
                    clear n0_ n1_ n2_ n3_ n4_
                    (try clear hb)
                    (try clear hb2)
                    (try clear hk)
                    (try clear hi)
                    refine hK.out _ _ ⟨(blk_cell BK251.out 0).trans rfl, (blk_cell BK251.out 1).trans rfl, (blk_cell BK251.out 2).trans rfl, (blk_cell BK218.out 0).trans rfl, (blk_cell BK218.out 1).trans rfl, (blk_cell BK218.out 2).trans rfl⟩ (fun hHeld => ?_)
                    clear hK K
                    refine norm_ (a' := ?_) ?_ ?_
                    rotate_left
                    ·show Act.put _ (some 121) _ = _
                     simp only [Act.put, List.setIfInBounds_toArray, List.set_cons_zero, List.set_cons_succ, i64_w, i32_w]
                     rfl
                    refine pure_ (i := 12) (N := some 122) (v := ?_) (a' := ?_) #[true, true, true, true, true, true, true, true, true, true, true, true, true, false, false, false, false, false, false, false, false, false, false, false, false, false, false] rfl rfl (any_of HT_.out (by kernel_rfl)) (fun _ _ _ h => h) (Or.inl ⟨by rfl, ?_⟩) ?_ ?_
                    rotate_left
                    ·intro w'
                     go_simp
                     with_reducible rfl
                    rotate_left
                    ·simp only [Act.put, List.setIfInBounds_toArray, List.set_cons_zero, List.set_cons_succ, i64_w, i32_w]
                     rfl
                    refine pure_ (i := 13) (N := some 123) (v := ?_) (a' := ?_) #[true, true, true, true, true, true, true, true, true, true, true, true, true, true, false, false, false, false, false, false, false, false, false, false, false, false, false] rfl rfl (any_of HT_.out (by kernel_rfl)) (fun _ _ _ h => h) (Or.inl ⟨by rfl, ?_⟩) ?_ ?_
                    rotate_left
                    ·intro w'
                     go_simp
                     with_reducible rfl
                    rotate_left
                    ·simp only [Act.put, List.setIfInBounds_toArray, List.set_cons_zero, List.set_cons_succ, i64_w, i32_w]
                     rfl
                    refine pure_ (i := 14) (N := some 124) (v := ?_) (a' := ?_) #[true, true, true, true, true, true, true, true, true, true, true, true, true, true, true, false, false, false, false, false, false, false, false, false, false, false, false] rfl rfl (any_of HT_.out (by kernel_rfl)) (fun _ _ _ h => h) (Or.inl ⟨by rfl, ?_⟩) ?_ ?_
                    rotate_left
                    ·intro w'
                     go_simp
                     with_reducible rfl
                    rotate_left
                    ·simp only [Act.put, List.setIfInBounds_toArray, List.set_cons_zero, List.set_cons_succ, i64_w, i32_w]
                     rfl
                    refine pure_ (i := 19) (N := some 129) (v := ?_) (a' := ?_) #[true, true, true, true, true, true, true, true, true, true, true, true, true, true, true, false, false, false, false, true, false, false, false, false, false, false, false] rfl rfl (any_of HT_.out (by kernel_rfl)) (fun _ _ _ h => h) (Or.inl ⟨by rfl, ?_⟩) ?_ ?_
                    rotate_left
                    ·intro w'
                     go_simp
                     with_reducible rfl
                    rotate_left
                    ·simp only [Act.put, List.setIfInBounds_toArray, List.set_cons_zero, List.set_cons_succ, i64_w, i32_w]
                     rfl
                    refine take_ (i := 15) (N := some 125) (v := ?_) (a' := ?_) #[true, true, true, true, true, true, true, true, true, true, true, true, true, true, true, true, false, false, false, true, false, false, false, false, false, false, false] rfl rfl (take_ofW HT_.out HW_.out (by kernel_rfl)) (fun _ _ _ h => h) (Or.inl ⟨by rfl, ?_⟩) hHeld ?_ ?_
                    rotate_left
                    ·rintro w' ⟨s0, s1, s2, s3, s4, s5⟩
                     go_simp
                     with_reducible rfl
                    rotate_left
                    ·simp only [Act.put, List.setIfInBounds_toArray, List.set_cons_zero, List.set_cons_succ, i64_w, i32_w]
                     rfl
                    refine take_ (i := 16) (N := some 126) (v := ?_) (a' := ?_) #[true, true, true, true, true, true, true, true, true, true, true, true, true, true, true, true, true, false, false, true, false, false, false, false, false, false, false] rfl rfl (take_ofW HT_.out HW_.out (by kernel_rfl)) (fun _ _ _ h => h) (Or.inl ⟨by rfl, ?_⟩) hHeld ?_ ?_
                    rotate_left
                    ·rintro w' ⟨s0, s1, s2, s3, s4, s5⟩
                     go_simp
                     with_reducible rfl
                    rotate_left
                    ·simp only [Act.put, List.setIfInBounds_toArray, List.set_cons_zero, List.set_cons_succ, i64_w, i32_w]
                     rfl
                    refine take_ (i := 18) (N := some 128) (v := ?_) (a' := ?_) #[true, true, true, true, true, true, true, true, true, true, true, true, true, true, true, true, true, false, true, true, false, false, false, false, false, false, false] rfl rfl (take_ofW HT_.out HW_.out (by kernel_rfl)) (fun _ _ _ h => h) (Or.inl ⟨by rfl, ?_⟩) hHeld ?_ ?_
                    rotate_left
                    ·rintro w' ⟨s0, s1, s2, s3, s4, s5⟩
                     go_simp
                     with_reducible rfl
                    rotate_left
                    ·simp only [Act.put, List.setIfInBounds_toArray, List.set_cons_zero, List.set_cons_succ, i64_w, i32_w]
                     rfl
                    refine one_ (i := 17) (N := some 127) #[true, true, true, true, true, true, true, true, true, true, true, true, true, true, true, true, true, true, true, true, false, false, false, false, false, false, false] rfl rfl (one_of HT_.out (by kernel_rfl)) (by decide) (fun K hK => ?_)
                    refine goes_ Try.func20 (by kernel_rfl) rfl #[.agg #[.string t248, .string t249, .bool t250], .agg #[.string a0_0, .string a0_1, .bool a0_2]] (by rfl) rfl rfl (by (try simp only [List.map_toArray, List.map_cons, List.map_nil]); first | done | rfl | (simp only [List.length_drop, List.length_take]; rfl)) ?_
                    with_reducible refine (span_Within.calls kj152 t248 t249 t250 a0_0 a0_1 a0_2 t255 _ A212.out).mono ?_
                    rintro e w227 ⟨rfl, hb⟩
                    refine ⟨_, rfl, ?_⟩
                    have n0_ := Aside0.mk (blk_below (g := gb218) (o := .cells #[.string a0_0, .string a0_1, .bool a0_2] 31 (0, 0)) (by (with_reducible repeat (first | refine blk_drewN ?_ _ | refine blk_drew ?_ | refine blk_alloc ?_ _)); exact BK218.out) hb)
                    have n1_ := Aside0.mk (blk_below (g := gb219) (o := .cells #[.string a1_0, .string a1_1, .bool a1_2] 31 (0, 0)) (by (with_reducible repeat (first | refine blk_drewN ?_ _ | refine blk_drew ?_ | refine blk_alloc ?_ _)); exact BK219.out) hb)
                    have n2_ := Aside0.mk (blk_below (g := gb231) (o := .cells #[.string t227, .string t228, .bool t229] 31 (0, 0)) (by (with_reducible repeat (first | refine blk_drewN ?_ _ | refine blk_drew ?_ | refine blk_alloc ?_ _)); exact BK231.out) hb)
                    have n3_ := Aside0.mk (blk_below (g := gb251) (o := .cells #[.string t248, .string t249, .bool t250] 31 (0, 0)) (by (with_reducible repeat (first | refine blk_drewN ?_ _ | refine blk_drew ?_ | refine blk_alloc ?_ _)); exact BK251.out) hb)
                    have n4_ := Aside0.mk (below_step (by repeat (first | (with_reducible first | exact HB.out | apply below_alloc | apply pw_below_drewN | apply below_drew1 | refine below_set ?_ GE218.out | refine below_set ?_ GE219.out | refine below_set ?_ GE231.out | refine below_set ?_ GE251.out) | exact HB.out)) hb)
                    clear BK218
                    clear BK219
                    clear BK231
                    clear BK251
                    clear HB
                    have BK218 := n0_
                    have BK219 := n1_
                    have BK231 := n2_
                    have BK251 := n3_
                    have HB := n4_
                    clear n0_ n1_ n2_ n3_ n4_
                    (try clear hb)
                    (try clear hb2)
                    (try clear hk)
                    (try clear hi)
                    refine hK.out _ _ ⟨(blk_cell BK251.out 0).trans rfl, (blk_cell BK251.out 1).trans rfl, (blk_cell BK251.out 2).trans rfl, (blk_cell BK218.out 0).trans rfl, (blk_cell BK218.out 1).trans rfl, (blk_cell BK218.out 2).trans rfl⟩ (fun hHeld => ?_)
                    clear hK K
                    refine norm_ (a' := ?_) ?_ ?_
                    rotate_left
                    ·show Act.put _ (some 127) _ = _
                     simp only [Act.put, List.setIfInBounds_toArray, List.set_cons_zero, List.set_cons_succ, i64_w, i32_w]
                     rfl
                    refine one_ (i := 20) (N := some 130) #[true, true, true, true, true, true, true, true, true, true, true, true, true, true, true, true, true, true, true, true, true, false, false, false, false, false, false] rfl rfl (one_of HT_.out (by kernel_rfl)) (by decide) (fun K hK => ?_)
                    refine goes_ Try.func13 (by kernel_rfl) rfl #[.agg #[.string a0_0, .string a0_1, .bool a0_2], .string a2] (by rfl) rfl rfl (by (try simp only [List.map_toArray, List.map_cons, List.map_nil]); first | done | rfl | (simp only [List.length_drop, List.length_take]; rfl)) ?_
                    with_reducible refine (span_Has.calls kj152 a0_0 a0_1 a0_2 a2 t256 _ A213.out).mono ?_
                    rintro e w228 ⟨rfl, hb⟩
                    refine ⟨_, rfl, ?_⟩
                    have n0_ := Aside0.mk (blk_below (g := gb218) (o := .cells #[.string a0_0, .string a0_1, .bool a0_2] 31 (0, 0)) (by (with_reducible repeat (first | refine blk_drewN ?_ _ | refine blk_drew ?_ | refine blk_alloc ?_ _)); exact BK218.out) hb)
                    have n1_ := Aside0.mk (blk_below (g := gb219) (o := .cells #[.string a1_0, .string a1_1, .bool a1_2] 31 (0, 0)) (by (with_reducible repeat (first | refine blk_drewN ?_ _ | refine blk_drew ?_ | refine blk_alloc ?_ _)); exact BK219.out) hb)
                    have n2_ := Aside0.mk (blk_below (g := gb231) (o := .cells #[.string t227, .string t228, .bool t229] 31 (0, 0)) (by (with_reducible repeat (first | refine blk_drewN ?_ _ | refine blk_drew ?_ | refine blk_alloc ?_ _)); exact BK231.out) hb)
                    have n3_ := Aside0.mk (blk_below (g := gb251) (o := .cells #[.string t248, .string t249, .bool t250] 31 (0, 0)) (by (with_reducible repeat (first | refine blk_drewN ?_ _ | refine blk_drew ?_ | refine blk_alloc ?_ _)); exact BK251.out) hb)
                    have n4_ := Aside0.mk (below_step (by repeat (first | (with_reducible first | exact HB.out | apply below_alloc | apply pw_below_drewN | apply below_drew1 | refine below_set ?_ GE218.out | refine below_set ?_ GE219.out | refine below_set ?_ GE231.out | refine below_set ?_ GE251.out) | exact HB.out)) hb)
                    clear BK218
                    clear BK219
                    clear BK231
                    clear BK251
                    clear HB
                    have BK218 := n0_
                    have BK219 := n1_
                    have BK231 := n2_
                    have BK251 := n3_
                    have HB := n4_
                    clear n0_ n1_ n2_ n3_ n4_
                    (try clear hb)
                    (try clear hb2)
                    (try clear hk)
                    (try clear hi)
                    refine hK.out _ _ ⟨(blk_cell BK251.out 0).trans rfl, (blk_cell BK251.out 1).trans rfl, (blk_cell BK251.out 2).trans rfl, (blk_cell BK218.out 0).trans rfl, (blk_cell BK218.out 1).trans rfl, (blk_cell BK218.out 2).trans rfl⟩ (fun hHeld => ?_)
                    clear hK K
                    refine norm_ (a' := ?_) ?_ ?_
                    rotate_left
                    ·show Act.put _ (some 130) _ = _
                     simp only [Act.put, List.setIfInBounds_toArray, List.set_cons_zero, List.set_cons_succ, i64_w, i32_w]
                     rfl
                    refine pure_ (i := 21) (N := some 131) (v := ?_) (a' := ?_) #[true, true, true, true, true, true, true, true, true, true, true, true, true, true, true, true, true, true, true, true, true, true, false, false, false, false, false] rfl rfl (any_of HT_.out (by kernel_rfl)) (fun _ _ _ h => h) (Or.inl ⟨by rfl, ?_⟩) ?_ ?_
                    rotate_left
                    ·intro w'
                     go_simp
                     with_reducible rfl
                    rotate_left
                    ·simp only [Act.put, List.setIfInBounds_toArray, List.set_cons_zero, List.set_cons_succ, i64_w, i32_w]
                     rfl
                    refine pure_ (i := 22) (N := some 132) (v := ?_) (a' := ?_) #[true, true, true, true, true, true, true, true, true, true, true, true, true, true, true, true, true, true, true, true, true, true, true, false, false, false, false] rfl rfl (any_of HT_.out (by kernel_rfl)) (fun _ _ _ h => h) (Or.inl ⟨by rfl, ?_⟩) ?_ ?_
                    rotate_left
                    ·intro w'
                     go_simp
                     with_reducible rfl
                    rotate_left
                    ·simp only [Act.put, List.setIfInBounds_toArray, List.set_cons_zero, List.set_cons_succ, i64_w, i32_w]
                     rfl
                    refine pure_ (i := 23) (N := some 133) (v := ?_) (a' := ?_) #[true, true, true, true, true, true, true, true, true, true, true, true, true, true, true, true, true, true, true, true, true, true, true, true, false, false, false] rfl rfl (any_of HT_.out (by kernel_rfl)) (fun _ _ _ h => h) (Or.inl ⟨by rfl, ?_⟩) ?_ ?_
                    rotate_left
                    ·intro w'
                     go_simp
                     with_reducible rfl
                    rotate_left
                    ·simp only [Act.put, List.setIfInBounds_toArray, List.set_cons_zero, List.set_cons_succ, i64_w, i32_w]
                     rfl
                    refine one_ (i := 24) (N := some 134) #[true, true, true, true, true, true, true, true, true, true, true, true, true, true, true, true, true, true, true, true, true, true, true, true, true, false, false] rfl rfl (one_of HT_.out (by kernel_rfl)) (by decide) (fun K hK => ?_)
                    refine goes_ Try.func8 (by kernel_rfl) rfl #[] (by rfl) rfl rfl (by (try simp only [List.map_toArray, List.map_cons, List.map_nil]); first | done | rfl | (simp only [List.length_drop, List.length_take]; rfl)) ?_
                    with_reducible refine (k3_head.calls kj152  t257 _ A215.out).mono ?_
                    rintro e w229 ⟨rfl, hb⟩
                    refine ⟨_, rfl, ?_⟩
                    have n0_ := Aside0.mk (blk_below (g := gb218) (o := .cells #[.string a0_0, .string a0_1, .bool a0_2] 31 (0, 0)) (by (with_reducible repeat (first | refine blk_drewN ?_ _ | refine blk_drew ?_ | refine blk_alloc ?_ _)); exact BK218.out) hb)
                    have n1_ := Aside0.mk (blk_below (g := gb219) (o := .cells #[.string a1_0, .string a1_1, .bool a1_2] 31 (0, 0)) (by (with_reducible repeat (first | refine blk_drewN ?_ _ | refine blk_drew ?_ | refine blk_alloc ?_ _)); exact BK219.out) hb)
                    have n2_ := Aside0.mk (blk_below (g := gb231) (o := .cells #[.string t227, .string t228, .bool t229] 31 (0, 0)) (by (with_reducible repeat (first | refine blk_drewN ?_ _ | refine blk_drew ?_ | refine blk_alloc ?_ _)); exact BK231.out) hb)
                    have n3_ := Aside0.mk (blk_below (g := gb251) (o := .cells #[.string t248, .string t249, .bool t250] 31 (0, 0)) (by (with_reducible repeat (first | refine blk_drewN ?_ _ | refine blk_drew ?_ | refine blk_alloc ?_ _)); exact BK251.out) hb)
                    have n4_ := Aside0.mk (below_step (by repeat (first | (with_reducible first | exact HB.out | apply below_alloc | apply pw_below_drewN | apply below_drew1 | refine below_set ?_ GE218.out | refine below_set ?_ GE219.out | refine below_set ?_ GE231.out | refine below_set ?_ GE251.out) | exact HB.out)) hb)
                    clear BK218
                    clear BK219
                    clear BK231
                    clear BK251
                    clear HB
                    have BK218 := n0_
                    have BK219 := n1_
                    have BK231 := n2_
                    have BK251 := n3_
                    have HB := n4_
                    clear n0_ n1_ n2_ n3_ n4_
                    (try clear hb)
                    (try clear hb2)
                    (try clear hk)
                    (try clear hi)
                    refine hK.out _ _ ⟨(blk_cell BK251.out 0).trans rfl, (blk_cell BK251.out 1).trans rfl, (blk_cell BK251.out 2).trans rfl, (blk_cell BK218.out 0).trans rfl, (blk_cell BK218.out 1).trans rfl, (blk_cell BK218.out 2).trans rfl⟩ (fun hHeld => ?_)
                    clear hK K
                    refine norm_ (a' := ?_) ?_ ?_
                    rotate_left
                    ·show Act.put _ (some 134) _ = _
                     simp only [Act.put, List.setIfInBounds_toArray, List.set_cons_zero, List.set_cons_succ, i64_w, i32_w]
                     rfl
                    refine pure_ (i := 25) (N := some 135) (v := ?_) (a' := ?_) #[true, true, true, true, true, true, true, true, true, true, true, true, true, true, true, true, true, true, true, true, true, true, true, true, true, true, false] rfl rfl (any_of HT_.out (by kernel_rfl)) (fun _ _ _ h => h) (Or.inl ⟨by rfl, ?_⟩) ?_ ?_
                    rotate_left
                    ·intro w'
                     go_simp
                     with_reducible rfl
                    rotate_left
                    ·simp only [Act.put, List.setIfInBounds_toArray, List.set_cons_zero, List.set_cons_succ, i64_w, i32_w]
                     rfl
                    refine pure_ (i := 26) (N := some 6) (v := ?_) (a' := ?_) #[true, true, true, true, true, true, true, true, true, true, true, true, true, true, true, true, true, true, true, true, true, true, true, true, true, true, true] rfl rfl (any_of HT_.out (by kernel_rfl)) (fun _ _ _ h => h) (Or.inl ⟨by rfl, ?_⟩) ?_ ?_
                    rotate_left
                    ·intro w'
                     go_simp
                     with_reducible rfl
                    rotate_left
                    ·simp only [Act.put, List.setIfInBounds_toArray, List.set_cons_zero, List.set_cons_succ, i64_w, i32_w]
                     rfl
                    refine done_ (done_of HT_.out (by kernel_rfl)) ?_
                    try go_wp2
                    go_ret
                    exact ⟨by first | rfl | (simp [errW_none, errW_some] <;> rfl) | (simp [*, errW_none, errW_some] <;> rfl), by repeat (first | (with_reducible first | exact HB.out | apply below_alloc | apply pw_below_drewN | apply below_drew1 | refine below_set ?_ GE218.out | refine below_set ?_ GE219.out | refine below_set ?_ GE231.out | refine below_set ?_ GE251.out) | exact HB.out)⟩
                   ·rw [if_neg c214] at H
                    have c214b0 : (t255 == t256) = false := by simpa using c214
                    (try (have c214b1 : decide (t255 = t256) = false := by simpa using c214))
                    (try (have c214b2 : (t255 == t256) = false := by simpa using c214))
                    (try (have c214b3 : ¬ (t255 = t256) := by simpa using c214))
                    clear c214
                    exact absurd H (by simp)
                 ·rw [if_neg c209] at H
                  exact absurd H (by simp)
                ·replace c208 := Bool.eq_false_iff.mpr c208
                 subst c208
                 have H1 : (none) = some r := by rw [if_neg (show ¬ (false = true) by decide)] at H; exact H
                 clear H
                 have H := H1
                 clear H1
                 exact absurd H (by simp)
               ·replace c206 := Bool.eq_false_iff.mpr c206
                subst c206
                have H1 : (none) = some r := by rw [if_neg (show ¬ (false = true) by decide)] at H; exact H
                clear H
                have H := H1
                clear H1
                exact absurd H (by simp)
def k3_SM.Pure : Prop := ∀ (a0_0 : ByteArray) (a0_1 : ByteArray) (a0_2 : Bool) (a1_0 : ByteArray) (a1_1 : ByteArray) (a1_2 : Bool) (a2 : ByteArray), a0_0.size ≤ 140737488351232 → a0_1.size ≤ 140737488351232 → a1_0.size ≤ 140737488351232 → a1_1.size ≤ 140737488351232 → a2.size ≤ 140737488351232 → ∃ k, k3_SM.f k a0_0 a0_1 a0_2 a1_0 a1_1 a1_2 a2 = some true
end Go.Proofs.Ytmekkbhgeijndaa.Z
