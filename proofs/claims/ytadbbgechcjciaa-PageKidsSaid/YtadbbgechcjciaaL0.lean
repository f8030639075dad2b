/- Slices of things as lists, whole numbers, texts in order, loops. No conditions. -/
import Derived.Test.YtadbbgechcjciaaEvZ2
import Derived.IntWalk
set_option linter.unusedVariables false
set_option linter.unusedSimpArgs false
namespace Go.Ev
open Go

/-! ### slices as lists -/
def lst {α : Type} (n : Nat) (w : Nat → α) : List α := (List.range n).map w
abbrev Sl.l {α : Type} (s : Sl α) : List α := lst s.n s.w
theorem lst_len {α : Type} (n : Nat) (w : Nat → α) : (lst n w).length = n := by simp [lst]
theorem lst_get {α : Type} (n : Nat) (w : Nat → α) {i : Nat} (h : i < (lst n w).length) : (lst n w)[i] = w i := by simp [lst]
theorem lst_succ {α : Type} (n : Nat) (w : Nat → α) : lst (n + 1) w = lst n w ++ [w n] := by simp [lst, List.range_succ]
theorem lst_mem {α : Type} {n : Nat} {w : Nat → α} {x : α} : x ∈ lst n w ↔ ∃ i, i < n ∧ w i = x := by simp [lst]
theorem Sl.len {α : Type} (s : Sl α) : s.l.length = s.n := by simp [lst]
theorem Sl.get {α : Type} (s : Sl α) {i : Nat} (h : i < s.n) : s.l[i]? = some (s.w i) := by simp [lst, h]
theorem Sl.get' {α : Type} (s : Sl α) {i : Nat} (h : i < s.l.length) : s.l[i] = s.w i := by simp [lst]
theorem Sl.mem {α : Type} (s : Sl α) {x : α} : x ∈ s.l ↔ ∃ i, i < s.n ∧ s.w i = x := by simp [lst]
theorem Sl.take {α : Type} (s : Sl α) {i : Nat} (h : i < s.n) : s.l.take (i + 1) = s.l.take i ++ [s.w i] := by
  rw [List.take_add_one, Sl.get s h]; rfl
theorem Sl.drop {α : Type} (s : Sl α) {i : Nat} (h : i < s.n) : s.l.drop i = s.w i :: s.l.drop (i + 1) := by
  rw [List.drop_eq_getElem_cons (by rw [Sl.len]; exact h), Sl.get']
theorem Sl.nil {α : Type} (s : Sl α) (h : s.n = 0) : s.l = [] := by simp [lst, h]
/-- a list as a slice -/
def ofL {α : Type} [Inhabited α] (l : List α) (u : Bool) : Sl α := ⟨l.length, fun i => l.getD i default, u⟩
theorem ofL_l {α : Type} [Inhabited α] (l : List α) (u : Bool) : (ofL l u).l = l := by
  apply List.ext_getElem?
  intro i
  by_cases h : i < l.length
  · rw [Sl.get _ h]; simp [ofL, h]
  · rw [List.getElem?_eq_none (by rw [Sl.len]; exact Nat.le_of_not_lt h), List.getElem?_eq_none (by omega)]
theorem Sl.ext_l {α : Type} {s t : Sl α} (hn : s.n = t.n) (h : ∀ i, i < s.n → s.w i = t.w i) : s.l = t.l := by
  unfold Sl.l lst
  rw [← hn]
  apply List.map_congr_left
  intro i hi
  exact h i (List.mem_range.1 hi)
theorem l_mk {α : Type} (n : Nat) (w : Nat → α) (u : Bool) (l : List α) (hn : l.length = n) (h : ∀ i (hi : i < l.length), w i = l[i]) : Sl.l ⟨n, w, u⟩ = l := by
  subst hn
  apply List.ext_getElem (by simp [lst])
  intro i h1 h2
  simp [lst, h i h2]

/-! ### rows of things -/
theorem zrow {α : Type} (w : Nat → α) : (fun i => w (0 + i)) = w := by funext i; rw [Nat.zero_add]
theorem row_ext {α : Type} (f : α → List AV) {v w : Nat → α} (h : v = w) : rowOf f v = rowOf f w := by rw [h]
theorem sh0_row {α : Type} (f : α → List AV) (w : Nat → α) : shRow 0 (rowOf f w) = rowOf f w := by
  show rowOf f (fun i => w (0 + i)) = _
  rw [zrow]
theorem lit_row {α : Type} (f : α → List AV) (l : List α) (z : α) : litRow f l z = rowOf f (fun i => l.getD i z) := by
  funext i; unfold litRow rowOf
  simp only [List.getD_eq_getElem?_getD, List.getElem?_map]
  cases l[i]? <;> rfl
def catW {α : Type} (n : Nat) (v w : Nat → α) : Nat → α := fun i => if i < n then v i else w (i - n)
theorem cat_row {α : Type} (f : α → List AV) (n : Nat) (v w : Nat → α) : catRow n (rowOf f v) (rowOf f w) = rowOf f (catW n v w) := by
  funext i; unfold catRow rowOf catW; split <;> rfl
def putW {α : Type} (lo hi : Nat) (w v : Nat → α) : Nat → α := fun i => if lo ≤ i ∧ i < hi then w (i - lo) else v i
theorem put_row {α : Type} (f : α → List AV) (lo hi : Nat) (v w : Nat → α) : putRow lo hi (rowOf f w) (rowOf f v) = rowOf f (putW lo hi w v) := by
  funext i; unfold putRow rowOf putW; split <;> rfl
theorem sh_row {α : Type} (f : α → List AV) (a : Nat) (v : Nat → α) : shRow a (rowOf f v) = rowOf f (fun i => v (a + i)) := rfl
theorem upd_row {α : Type} (f : α → List AV) (i off : Nat) (vs : List AV) (v : Nat → α) (x : α) (h : stCells (f (v i)) off vs = f x) : updRow i off vs (rowOf f v) = rowOf f (fun j => if j = i then x else v j) := by
  funext j; unfold updRow rowOf; simp only; split
  · exact h
  · rfl
theorem l_cat {α : Type} (n m : Nat) (v w : Nat → α) (u : Bool) : Sl.l ⟨n + m, catW n v w, u⟩ = Sl.l ⟨n, v, u⟩ ++ Sl.l ⟨m, w, u⟩ := by
  unfold Sl.l lst
  simp only [List.range_add, List.map_append, List.map_map]
  congr 1
  · apply List.map_congr_left; intro i hi; simp [catW, List.mem_range.1 hi]
  · apply List.map_congr_left; intro i hi; simp [catW]; intro h; omega
theorem l_one {α : Type} (w : Nat → α) (u : Bool) : Sl.l ⟨1, w, u⟩ = [w 0] := rfl
theorem l_zero {α : Type} (w : Nat → α) (u : Bool) : Sl.l ⟨0, w, u⟩ = [] := rfl
theorem l_sub {α : Type} (s : Sl α) (a b : Nat) (u : Bool) (h1 : a ≤ b) (h2 : b ≤ s.n) : Sl.l ⟨b - a, fun i => s.w (a + i), u⟩ = (s.l.take b).drop a := by
  apply l_mk
  · simp only [List.length_drop, List.length_take, Sl.len]; omega
  · intro i hi
    simp only [List.getElem_drop, List.getElem_take]
    rw [Sl.get']
theorem l_u {α : Type} (n : Nat) (w : Nat → α) (u u' : Bool) : Sl.l ⟨n, w, u⟩ = Sl.l ⟨n, w, u'⟩ := rfl

/-- a row of own that was built thing by thing -/
def gd {α : Type} (z : α) (L : List α) : Nat → α := fun i => L.getD i z
theorem row_first {α : Type} (f : α → List AV) (r : Nat → List AV) (x z : α) : catRow 0 r (litRow f [x] z) = rowOf f (gd z [x]) := by
  rw [lit_row]; funext i; simp [catRow, rowOf, gd]
theorem row_next {α : Type} (f : α → List AV) (L : List α) (x z : α) (n : Nat) (hn : n = L.length) : catRow n (rowOf f (gd z L)) (litRow f [x] z) = rowOf f (gd z (L ++ [x])) := by
  subst hn
  rw [lit_row, cat_row]
  apply row_ext
  funext i
  unfold catW gd
  split
  · rename_i h; rw [List.getD_eq_getElem?_getD, List.getD_eq_getElem?_getD, List.getElem?_append_left h]
  · rename_i h; show [x].getD (i - L.length) z = _; rw [List.getD_eq_getElem?_getD, List.getD_eq_getElem?_getD, List.getElem?_append_right (by omega)]
def oV {α : Type} (sz : Nat) (f : α → List AV) (z : α) (r : Nat) : List α → AV
  | [] => .sl sz 0 (rowOf f (fun _ => z)) true
  | x :: L => .osl sz r 0 (L.length + 1) false
def oH {α : Type} (sz : Nat) (f : α → List AV) (z : α) : List α → Heap
  | [] => []
  | x :: L => [some (.arr sz (L.length + 1) (rowOf f (gd z (x :: L))))]
theorem gd_lst {α : Type} (z : α) (L : List α) : lst L.length (gd z L) = L := by
  have := l_mk L.length (gd z L) false L rfl (fun i hi => by simp [gd, hi])
  exact this

/-! ### numbers -/
theorem idx_nat (i n : Nat) : idxOK (i : Int) n = decide (i < n) := by
  unfold idxOK
  have : decide (0 ≤ (i : Int)) = true := by simp
  rw [this, Bool.true_and]
  congr 1
  simp
theorem dec_int (x : Int) : decide (x = x) = true := decide_eq_true rfl
theorem dec_str (x : ByteArray) : decide (x = x) = true := decide_eq_true rfl
theorem beq_b (x : Bool) : (x == x) = true := beq_self_eq_true x
theorem wi64_in {n : Int} (h0 : -9223372036854775808 ≤ n) (h1 : n ≤ 9223372036854775807) : wi64 n = n := by
  show IntKind.i64.wrap n = n
  rw [IntKind.wrap_i64]; omega
theorem wi64_nat {n : Nat} (h : n ≤ 9223372036854775807) : wi64 (n : Int) = (n : Int) := wi64_in (by omega) (by omega)
theorem wi64_succ {i : Nat} (h : i < 9223372036854775807) : wi64 ((i : Int) + 1) = ((i + 1 : Nat) : Int) := by rw [wi64_in (by omega) (by omega)]; omega
theorem wi64_pred {i : Nat} (h0 : 0 < i) (h : i ≤ 9223372036854775807) : wi64 ((i : Int) - 1) = ((i - 1 : Nat) : Int) := by rw [wi64_in (by omega) (by omega)]; omega
theorem wu64_in {n : Int} (h0 : 0 ≤ n) (h1 : n ≤ 18446744073709551615) : wu64 n = n := by
  exact IntWalk.u64_in n ⟨h0, h1⟩
theorem mid_of {a b : Nat} (h : a + b ≤ 9223372036854775807) : wi64 ((wu64 (wi64 ((a : Int) + (b : Int)))).fdiv (2 ^ 1)) = (((a + b) / 2 : Nat) : Int) := by
  rw [wi64_in (n := (a : Int) + (b : Int)) (by omega) (by omega), wu64_in (by omega) (by omega)]
  have e : ((a : Int) + (b : Int)).fdiv (2 ^ 1) = (((a + b) / 2 : Nat) : Int) := by
    rw [Int.fdiv_eq_ediv_of_nonneg _ (by omega)]
    omega
  rw [e, wi64_nat (by omega)]
theorem room_of {n b : Nat} (h : n * b ≤ 70368744177664) (h' : n ≤ 70368744177664) : roomOf n b = true := by simp [roomOf, h, h']
theorem cut_nat {n l h m : Nat} (h1 : l ≤ h) (h2 : h ≤ m) (h3 : m ≤ n) : cutOK n (l : Int) (h : Int) (m : Int) = true := by
  unfold cutOK
  simp only [Bool.and_eq_true, decide_eq_true_eq]
  omega

/-! ### texts in order -/
theorem bL_irrefl : ∀ x : List UInt8, Op.bytesLess x x = false
  | [] => rfl
  | a :: x => by simp [Op.bytesLess]; exact bL_irrefl x
theorem bL_nil (x : List UInt8) : Op.bytesLess x [] = false := by cases x <;> rfl
theorem bL_tri : ∀ x y : List UInt8, Op.bytesLess x y = false → Op.bytesLess y x = false → x = y
  | [], [], _, _ => rfl
  | [], _ :: _, h, _ => by cases h
  | _ :: _, [], _, h => by cases h
  | a :: x, b :: y, h, h' => by
    simp only [Op.bytesLess, Bool.or_eq_false_iff, Bool.and_eq_false_iff, decide_eq_false_iff_not, beq_eq_false_iff_ne] at *
    have hab : a = b := by
      have h1 := h.1; have h2 := h'.1
      rw [UInt8.lt_iff_toNat_lt] at h1 h2
      exact UInt8.toNat_inj.1 (by omega)
    subst hab
    rw [bL_tri x y (h.2.resolve_left (by simp)) (h'.2.resolve_left (by simp))]
theorem bL_trans : ∀ (x y z : List UInt8), Op.bytesLess x y = true → Op.bytesLess y z = true → Op.bytesLess x z = true
  | x, y, [], _, h2 => by rw [bL_nil] at h2; cases h2
  | x, [], _, h1, _ => by rw [bL_nil] at h1; cases h1
  | [], b :: y, c :: z, _, _ => rfl
  | a :: x, b :: y, c :: z, h1, h2 => by
    simp only [Op.bytesLess, Bool.or_eq_true, Bool.and_eq_true, decide_eq_true_eq, beq_iff_eq] at *
    rcases h1 with h1 | ⟨rfl, h1⟩ <;> rcases h2 with h2 | ⟨rfl, h2⟩
    · left; rw [UInt8.lt_iff_toNat_lt] at *; omega
    · left; exact h1
    · left; exact h2
    · right; exact ⟨rfl, bL_trans x y z h1 h2⟩
theorem bl_irrefl (x : ByteArray) : bl x x = false := bL_irrefl _
theorem bl_trans {x y z : ByteArray} (h1 : bl x y = true) (h2 : bl y z = true) : bl x z = true := bL_trans _ _ _ h1 h2
theorem bl_tri {x y : ByteArray} (h1 : bl x y = false) (h2 : bl y x = false) : x = y := by
  have h := bL_tri _ _ h1 h2
  rw [Go.ByteArray.toList_eq, Go.ByteArray.toList_eq] at h
  exact ByteArray.ext (Array.toList_inj.1 h)
theorem bl_asymm {x y : ByteArray} (h : bl x y = true) : bl y x = false := by
  cases h' : bl y x with
  | false => rfl
  | true => have := bl_trans h h'; rw [bl_irrefl] at this; cases this
theorem bl_le_trans {x y z : ByteArray} (h1 : bl y x = false) (h2 : bl z y = false) : bl z x = false := by
  cases h : bl z x with
  | false => rfl
  | true =>
    cases h3 : bl x y with
    | true => have := bl_trans h h3; rw [h2] at this; cases this
    | false => have := bl_tri h3 h1; subst this; rw [h2] at h; cases h
theorem bl_lt_le {x y z : ByteArray} (h1 : bl x y = true) (h2 : bl z y = false) : bl x z = true := by
  cases h : bl x z with
  | true => rfl
  | false => have := bl_le_trans h2 h; rw [h1] at this; cases this
theorem bl_le_lt {x y z : ByteArray} (h1 : bl y x = false) (h2 : bl y z = true) : bl x z = true := by
  cases h : bl x z with
  | true => rfl
  | false => have := bl_le_trans h h1; rw [h2] at this; cases this

/-! ### calls -/
section
variable {ρ : Type}
/-- behind a call on plain values -/
def pk (κ : AV → Option ρ) (r : AV) (H : Heap) : Option ρ := opt (frzA H false r) κ
theorem callP_eq (c : Ctx) (k f : Nat) (as : List AV) (κ : AV → Option ρ) : callP c k f as κ = evalF c k f as [] (pk κ) := rfl
theorem pk_bool (κ : AV → Option ρ) (b : Bool) (H : Heap) : pk κ (.bool b) H = κ (.bool b) := rfl
theorem pk_int (κ : AV → Option ρ) (k : IntKind) (b : Int) (H : Heap) : pk κ (.int k b) H = κ (.int k b) := rfl
theorem pk_str (κ : AV → Option ρ) (b : ByteArray) (H : Heap) : pk κ (.str b) H = κ (.str b) := rfl
theorem pk_ii (κ : AV → Option ρ) (k k' : IntKind) (a b : Int) (H : Heap) : pk κ (.tup [.int k a, .int k' b]) H = κ (.tup [.int k a, .int k' b]) := rfl
theorem pk_sb (κ : AV → Option ρ) (a : ByteArray) (b : Bool) (H : Heap) : pk κ (.tup [.str a, .bool b]) H = κ (.tup [.str a, .bool b]) := rfl
theorem pk_si (κ : AV → Option ρ) (a : ByteArray) (k : IntKind) (b : Int) (H : Heap) : pk κ (.tup [.str a, .int k b]) H = κ (.tup [.str a, .int k b]) := rfl
theorem pk_osl {α : Type} (κ : AV → Option ρ) (f : α → List AV) (sz n m : Nat) (w : Nat → α) : pk κ (.osl sz 0 0 n false) [some (.arr sz m (rowOf f w))] = κ (.sl sz n (rowOf f w) false) := by
  show κ (.sl sz n (fun i => rowOf f w (0 + i)) false) = _
  rw [zrow]
/-- a row of own, as its caller has it -/
theorem pk_oV {α : Type} (κ : AV → Option ρ) (sz : Nat) (f : α → List AV) (z : α) : ∀ L : List α, pk κ (oV sz f z 0 L) (oH sz f z L) = κ (.sl sz L.length (rowOf f (gd z L)) false)
  | [] => by
    show κ (.sl sz 0 (rowOf f (fun _ => z)) false) = _
    congr 2
  | x :: L => pk_osl κ f sz (L.length + 1) (L.length + 1) (gd z (x :: L))
theorem pk_oVi {α : Type} (κ : AV → Option ρ) (sz : Nat) (f : α → List AV) (z : α) (k : IntKind) (e : Int) : ∀ L : List α, pk κ (.tup [oV sz f z 0 L, .int k e]) (oH sz f z L) = κ (.tup [.sl sz L.length (rowOf f (gd z L)) false, .int k e])
  | [] => by
    show κ (.tup [.sl sz 0 (rowOf f (fun _ => z)) false, .int k e]) = _
    congr 2
  | x :: L => by
    show κ (.tup [.sl sz (L.length + 1) (fun i => rowOf f (gd z (x :: L)) (0 + i)) false, .int k e]) = _
    rw [zrow]; rfl
theorem pk_sl (κ : AV → Option ρ) (sz n : Nat) (row : Nat → List AV) (u : Bool) (H : Heap) : pk κ (.sl sz n row u) H = κ (.sl sz n row false) := rfl
end

/-! ### loops -/
section
variable {σ : Type}
def allN (n : Nat) (P : Nat → Bool) : Bool := (List.range n).all P
theorem allN_true {n : Nat} {P : Nat → Bool} : allN n P = true ↔ ∀ i, i < n → P i = true := by simp [allN]
theorem allN_false {n i : Nat} {P : Nat → Bool} (hi : i < n) (h : P i = false) : allN n P = false := by
  cases hh : allN n P with
  | false => rfl
  | true => rw [allN_true] at hh; rw [hh i hi] at h; cases h
/-- a loop that ends where something is not so -/
theorem all_loop {n : Nat} {P : Nat → Bool} {hd : Nat → Nat → σ} {yes no : σ} (hs : ∀ j i, i < n → hd (j + 1) i = if P i = true then hd j (i + 1) else no) (he : ∀ j, hd (j + 1) n = yes) :
    ∀ j i, i ≤ n → n < i + j → (∀ i', i' < i → P i' = true) → hd j i = if allN n P = true then yes else no
  | 0, i, h1, h2, h3 => by omega
  | j + 1, i, h1, h2, h3 => by
    rcases Nat.lt_or_ge i n with hi | hi
    · rw [hs j i hi]
      cases hp : P i with
      | false => rw [if_neg (by simp), allN_false hi hp, if_neg (by simp)]
      | true =>
        rw [if_pos rfl]
        refine all_loop hs he j (i + 1) hi (by omega) fun i' hi' => ?_
        rcases Nat.lt_or_ge i' i with h | h
        · exact h3 i' h
        · rw [show i' = i by omega]; exact hp
    · have : i = n := by omega
      subst this
      rw [he j, if_pos (allN_true.2 h3)]
/-- a loop that ends at the first place where something is so -/
theorem find_loop {n : Nat} {P : Nat → Bool} {hd : Nat → Nat → σ} {at_ : Nat → σ} {no : σ} (hs : ∀ j i, i < n → hd (j + 1) i = if P i = true then at_ i else hd j (i + 1)) (he : ∀ j, hd (j + 1) n = no) :
    ∀ j i, i ≤ n → n < i + j → (∀ i', i' < i → P i' = false) → hd j i = match (List.range n).find? P with | some i => at_ i | none => no
  | 0, i, h1, h2, h3 => by omega
  | j + 1, i, h1, h2, h3 => by
    rcases Nat.lt_or_ge i n with hi | hi
    · rw [hs j i hi]
      cases hp : P i with
      | true =>
        rw [if_pos rfl]
        have : (List.range n).find? P = some i := by
          rw [List.find?_range_eq_some]
          refine ⟨hp, by simpa using hi, fun i' hi' => by simp [h3 i' hi']⟩
        rw [this]
      | false =>
        rw [if_neg (by simp)]
        refine find_loop hs he j (i + 1) hi (by omega) fun i' hi' => ?_
        rcases Nat.lt_or_ge i' i with h | h
        · exact h3 i' h
        · rw [show i' = i by omega]; exact hp
    · have : i = n := by omega
      subst this
      have : (List.range i).find? P = none := by
        rw [List.find?_eq_none]; intro x hx; rw [h3 x (List.mem_range.1 hx)]; simp
      rw [he j, this]
/-- a loop that builds a row of some of the things -/
theorem filter_loop {α : Type} {n : Nat} {P : Nat → Bool} {w : Nat → α} {hd : Nat → Nat → List α → σ} {fin : List α → σ} (hs : ∀ j i L, i < n → L.length ≤ i → hd (j + 1) i L = if P i = true then hd j (i + 1) (L ++ [w i]) else hd j (i + 1) L) (he : ∀ j L, hd (j + 1) n L = fin L) :
    ∀ j i L, i ≤ n → n < i + j → L.length ≤ i → hd j i L = fin (L ++ ((List.range' i (n - i)).filter P).map w)
  | 0, i, L, h1, h2, h3 => by omega
  | j + 1, i, L, h1, h2, h3 => by
    rcases Nat.lt_or_ge i n with hi | hi
    · rw [hs j i L hi h3, show n - i = (n - (i + 1)) + 1 by omega, List.range'_succ, List.filter_cons]
      cases hp : P i with
      | true =>
        rw [if_pos rfl, if_pos rfl, filter_loop hs he j (i + 1) _ hi (by omega) (by simp; omega)]
        simp
      | false =>
        rw [if_neg (by simp), if_neg (by simp), filter_loop hs he j (i + 1) _ hi (by omega) (by omega)]
    · have : i = n := by omega
      subst this
      rw [he j L]; simp
theorem filter_lst {α : Type} (n : Nat) (w : Nat → α) (P : α → Bool) : ((List.range' 0 (n - 0)).filter fun i => P (w i)).map w = (lst n w).filter P := by
  rw [Nat.sub_zero, ← List.range_eq_range', lst, List.filter_map]; rfl
/-- a loop that carries something -/
theorem fold_loop {α : Type} {n : Nat} {f : α → Nat → α} {hd : Nat → Nat → α → σ} {fin : α → σ} (I : Nat → α → Prop) (hI : ∀ i a, i < n → I i a → I (i + 1) (f a i)) (hs : ∀ j i a, i < n → I i a → hd (j + 1) i a = hd j (i + 1) (f a i)) (he : ∀ j a, I n a → hd (j + 1) n a = fin a) :
    ∀ j i a, i ≤ n → n < i + j → I i a → hd j i a = fin ((List.range' i (n - i)).foldl f a)
  | 0, i, a, h1, h2, h3 => by omega
  | j + 1, i, a, h1, h2, h3 => by
    rcases Nat.lt_or_ge i n with hi | hi
    · rw [hs j i a hi h3, fold_loop I hI hs he j (i + 1) (f a i) hi (by omega) (hI i a hi h3)]
      rw [show n - i = (n - (i + 1)) + 1 by omega, List.range'_succ, List.foldl_cons]
    · have : i = n := by omega
      subst this
      rw [he j a h3]; simp
theorem foldl_l {α β : Type} (s : Sl β) (g : α → β → α) (a : α) : (List.range' 0 s.n).foldl (fun a i => g a (s.w i)) a = s.l.foldl g a := by
  rw [← List.range_eq_range', Sl.l, lst, List.foldl_map]
end
end Go.Ev
