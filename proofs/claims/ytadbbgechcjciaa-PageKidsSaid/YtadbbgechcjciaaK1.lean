/- Children of pages: their numbers as bytes, and back. No conditions. -/
import Derived.Test.YtadbbgechcjciaaL2
import Derived.Test.YtadbbgechcjciaaO1
import Derived.Test.YtadbbgechcjciaaGr
import Derived.Test.YtadbbgechcjciaaGk
set_option linter.unusedVariables false
set_option linter.unusedSimpArgs false
set_option maxRecDepth 20000
namespace Go.Proofs.YtadbbgechcjciaaC
open Go Go.Ev Go.Proofs
variable {ρ : Type}
/-! ### a reader's numbers -/
theorem Num_1_ok (k : Nat) (s : ByteArray) (hs : s.size ≤ 1000) (hk : s.size + 3 ≤ k) (κ : AV → Heap → Option ρ) :
    evalF ctx k n_octet_Reader_Num_1 [.str s, .ref 0 0] [some (.box [.int .u64 0])] κ = κ (.tup []) [some (.box [.int .u64 (valF (bytesW s) s.size)])] := by
  obtain ⟨k, rfl⟩ : ∃ k', k = k' + 1 := ⟨k - 1, by omega⟩
  refine (octet_Reader_Num_1_e k s 0 κ).trans ?_
  have : ∀ j i, i ≤ s.size → s.size < i + j → octet_Reader_Num_1_h0 k j s (i : Int) (valF (bytesW s) i) κ = κ (.tup []) [some (.box [.int .u64 (valF (bytesW s) s.size)])] := by
    intro j
    induction j with
    | zero => intro i h1 h2; omega
    | succ j ih =>
      intro i h1 h2
      rw [octet_Reader_Num_1_h0_s]
      by_cases hi : i < s.size
      · have hb := valF_bound (bytesW s) i
        have e : wu64 ((BitVec.ofInt 64 (wu64 (valF (bytesW s) i * 2 ^ 8)) ||| BitVec.ofInt 64 (wu64 (((s.data.getD ((i : Int)).toNat 0).toNat : Nat) : Int))).toNat : Int) = valF (bytesW s) (i + 1) := by
          rw [Int.toNat_natCast]
          exact or_byte _ _ hb.1 hb.2 (byte_lt s i)
        rw [e, dec_t (by omega), idx_ok (by omega) (by omega), wi64_succ (by omega)]
        exact ih (i + 1) hi (by omega)
      · have : i = s.size := by omega
        subst this
        rw [dec_f (by omega), cond_false]
  exact this k 0 (by omega) (by omega)
/-- what a reader of bytes b, at p, has behind a number of w bytes -/
def rdP (b : ByteArray) (p w : Nat) : Nat := if p + w ≤ b.size then p + w else p
def rdL (b : ByteArray) (p w : Nat) (l : Bool) : Bool := l || !decide (p + w ≤ b.size)
def rdN (b : ByteArray) (p w : Nat) (l : Bool) : Int := if l = false ∧ p + w ≤ b.size then valF (fun i => bytesW b (p + i)) w else 0
theorem want_Num_ok (k : Nat) (b : ByteArray) (p w : Nat) (l : Bool) (hb : b.size ≤ 4611686018427387904) (hp : p ≤ b.size) (hw : w ≤ 1000) (hk : w + 9 ≤ k) (κ : AV → Heap → Option ρ) :
    evalF ctx k n_octet_Reader_want [.ref 0 0, .int .i64 (w : Int), .fn n_octet_Reader_Num_1 [] [.ref 1 0]] [some (.box [.str b, .int .i64 (p : Int), .bool l, .bool true]), some (.box [.int .u64 0])] κ =
      κ (.tup []) [some (.box [.str b, .int .i64 ((if l = true then p else rdP b p w : Nat) : Int), .bool (rdL b p w l), .bool true]), some (.box [.int .u64 (rdN b p w l)])] := by
  obtain ⟨k, rfl⟩ : ∃ k', k = k' + 3 := ⟨k - 3, by omega⟩
  refine (want_Num_e k b (p : Int) l true (w : Int) 0 κ).trans ?_
  unfold rdL rdN rdP
  cases l with
  | true => simp
  | false =>
    rw [wi64_in (n := (b.size : Int) - (p : Int)) (by omega) (by omega)]
    simp only [Bool.not_true, cond_false, Bool.false_or, Bool.false_eq_true, if_false, true_and]
    rw [dec_f (show ¬ (w : Int) < 0 by omega), cond_false]
    by_cases h : p + w ≤ b.size
    · have e1 : (b.extract ((p : Int).toNat) b.size).size = b.size - p := by rw [Int.toNat_natCast]; exact size_extract b p b.size (Nat.le_refl _)
      rw [dec_f (by omega), cond_false, cut_ok (by omega) (by omega) (by omega) (by omega), cond_true, e1, cut_ok (by omega) (by omega) (by omega) (by omega), cond_true]
      rw [Int.toNat_natCast, Int.toNat_natCast]
      have e2 : ((b.extract p b.size).extract 0 w).size = w := by rw [size_extract _ 0 w (by rw [size_extract _ _ _ (Nat.le_refl _)]; omega)]; omega
      refine (Num_1_ok (k + 2) _ (by rw [e2]; omega) (by rw [e2]; omega) _).trans ?_
      rw [e2]
      refine (want_Num_r0_s (k + 2) b (p : Int) false true (w : Int) 0 _ κ).trans ?_
      rw [wi64_in (by omega) (by omega), if_pos h, if_pos h, decide_eq_true h]
      have e3 : valF (bytesW ((b.extract p b.size).extract 0 w)) w = valF (fun i => bytesW b (p + i)) w := by
        refine valF_congr fun i hi => ?_
        rw [bytesW_extract _ 0 w i (by rw [size_extract _ _ _ (Nat.le_refl _)]; omega) (by omega), bytesW_extract _ p b.size _ (Nat.le_refl _) (by omega), Nat.zero_add]
      rw [e3]
      have e4 : (p : Int) + (w : Int) = ((p + w : Nat) : Int) := by omega
      rw [e4]; rfl
    · rw [dec_t (by omega), if_neg h, if_neg h, decide_eq_false h]; rfl
theorem octet_Num8_ok (k : Nat) (b : ByteArray) (p : Nat) (l : Bool) (hb : b.size ≤ 4611686018427387904) (hp : p ≤ b.size) (hk : 30 ≤ k) (κ : AV → Heap → Option ρ) :
    evalF ctx k n_octet_Reader_Num [.ref 0 0, .int .i64 8] [some (.box [.str b, .int .i64 (p : Int), .bool l, .bool true])] κ =
      κ (.int .u64 (rdN b p 8 l)) [some (.box [.str b, .int .i64 ((if l = true then p else rdP b p 8 : Nat) : Int), .bool (rdL b p 8 l), .bool true]), some (.box [.int .u64 (rdN b p 8 l)])] := by
  obtain ⟨k, rfl⟩ : ∃ k', k = k' + 6 := ⟨k - 6, by omega⟩
  refine (octet_Num8_e k b (p : Int) l true κ).trans ?_
  refine (want_Num_ok (k + 5) b p 8 l hb hp (by omega) (by omega) _).trans ?_
  exact octet_Num8_r0_s (k + 5) b (p : Int) l true b _ _ true _ κ

/-! ### children -/
theorem str_back (s : ByteArray) : bytesOf s.size (rowOf (eI .u8) (bytesW s)) = s := by rw [bytesOf_mk, mkB_str]
def isId (id : Int) : Bool := decide (1 ≤ id) && decide (id ≤ 400)
def kidT (id : Int) : ByteArray := if isId id = true then numB 8 id else ⟨#[]⟩
def kidE (id : Int) : Int := if isId id = true then 0 else 110
theorem page_Kid_ok (k : Nat) (id : Int) (hk : 40 ≤ k) (κ : AV → Option ρ) : callP ctx k n_page_Kid [.int .u64 id] κ = κ (.tup [.str (kidT id), .int .i64 (kidE id)]) := by
  obtain ⟨k, rfl⟩ : ∃ k', k = k' + 1 := ⟨k - 1, by omega⟩
  rw [callP_eq]
  refine (page_Kid_e k id (pk κ)).trans ?_
  unfold kidT kidE isId
  by_cases h1 : id < 1
  · rw [dec_t h1, dec_f (show ¬ 1 ≤ id by omega)]; rfl
  · by_cases h2 : 400 < id
    · rw [dec_f h1, dec_t h2, dec_f (show ¬ id ≤ 400 by omega), Bool.and_false]; rfl
    · rw [dec_f h1, dec_f h2, dec_t (show 1 ≤ id by omega), dec_t (show id ≤ 400 by omega), cond_false, cond_false]
      refine (octet_Put8_ok k 0 _ true id (by omega) (by omega) _).trans ?_
      refine (page_Kid_r0_s k id (0 + 8) (catW 0 (fun _ => 0) (digs 8 id)) (pk κ)).trans ?_
      rw [allU8_mk, cond_true, bytesOf_mk]
      have : lst (0 + 8) (fun i => catW 0 (fun _ => 0) (digs 8 id) (0 + i)) = lst 8 (digs 8 id) := by
        apply List.map_congr_left
        intro i hi
        simp [catW]
      rw [this]; rfl
theorem number8 (n : Int) (h0 : 0 ≤ n) (h1 : n ≤ 18446744073709551615) (k : Nat) (hk : 20 ≤ k) (κ : AV → Option ρ) : callP ctx k n_r11_number [.int .u64 n, .int .i64 8] κ = κ (.str (numB 8 n)) := by
  obtain ⟨k, rfl⟩ : ∃ k', k = k' + 10 := ⟨k - 10, by omega⟩
  rw [callP_eq]
  refine (r11_number8_e k n (pk κ)).trans ?_
  simp only [upd_u8, sh0_row, bytesOf_mk, pk_str]
  congr 2
  unfold numB
  congr 1
  apply List.map_congr_left
  intro i hi
  have hi := List.mem_range.1 hi
  obtain ⟨d0, d1, d2, d3, d4, d5, d6, d7⟩ := digs8 h0
  have q : ∀ x y : Int, 0 ≤ x → x ≤ 18446744073709551615 → x / 256 = y → wu64 (x.tdiv 256) = y := fun x y h1 h2 h3 => by
    rw [Int.tdiv_eq_ediv_of_nonneg h1, h3, wu64_in (by omega) (by omega)]
  have m : ∀ x : Int, 0 ≤ x → wu8 (x.tmod 256) = x % 256 := fun x hx => by
    rw [Int.tmod_eq_emod_of_nonneg hx, wu8_mod]; omega
  have e1 := q n (n / 256) h0 h1 rfl
  have e2 := q (n / 256) (n / 65536) (by omega) (by omega) (by omega)
  have e3 := q (n / 65536) (n / 16777216) (by omega) (by omega) (by omega)
  have e4 := q (n / 16777216) (n / 4294967296) (by omega) (by omega) (by omega)
  have e5 := q (n / 4294967296) (n / 1099511627776) (by omega) (by omega) (by omega)
  have e6 := q (n / 1099511627776) (n / 281474976710656) (by omega) (by omega) (by omega)
  have e7 := q (n / 281474976710656) (n / 72057594037927936) (by omega) (by omega) (by omega)
  simp only [e1, e2, e3, e4, e5, e6, e7]
  rw [m n h0, m _ (show 0 ≤ n / 256 by omega), m _ (show 0 ≤ n / 65536 by omega), m _ (show 0 ≤ n / 16777216 by omega), m _ (show 0 ≤ n / 4294967296 by omega), m _ (show 0 ≤ n / 1099511627776 by omega), m _ (show 0 ≤ n / 281474976710656 by omega), m _ (show 0 ≤ n / 72057594037927936 by omega)]
  match i, hi with
  | 0, _ => rw [d0]; rfl
  | 1, _ => rw [d1]; rfl
  | 2, _ => rw [d2]; rfl
  | 3, _ => rw [d3]; rfl
  | 4, _ => rw [d4]; rfl
  | 5, _ => rw [d5]; rfl
  | 6, _ => rw [d6]; rfl
  | 7, _ => rw [d7]; rfl
theorem r11_Kid_ok (k : Nat) (id : Int) (hk : 40 ≤ k) (κ : AV → Option ρ) : callP ctx k n_r11_Kid [.int .u64 id] κ = κ (.tup [.str (kidT id), .int .i64 (kidE id)]) := by
  obtain ⟨k, rfl⟩ : ∃ k', k = k' + 1 := ⟨k - 1, by omega⟩
  rw [callP_eq]
  refine (r11_Kid_e k id (pk κ)).trans ?_
  unfold kidT kidE isId
  by_cases h1 : id < 1
  · rw [dec_t h1, dec_f (show ¬ 1 ≤ id by omega)]; rfl
  · by_cases h2 : 400 < id
    · rw [dec_f h1, dec_t h2, dec_f (show ¬ id ≤ 400 by omega), Bool.and_false]; rfl
    · rw [dec_f h1, dec_f h2, dec_t (show 1 ≤ id by omega), dec_t (show id ≤ 400 by omega), cond_false, cond_false]
      refine (number8 id (by omega) (by omega) k (by omega) _).trans ?_
      exact r11_Kid_r0_s k id _ (pk κ)
theorem r11_worth_ok (k : Nat) (s : ByteArray) (hs : s.size ≤ 1000000) (hk : s.size + 3 ≤ k) (κ : AV → Option ρ) : callP ctx k n_r11_worth [.str s] κ = κ (.int .u64 (valF (bytesW s) s.size)) := by
  obtain ⟨k, rfl⟩ : ∃ k', k = k' + 1 := ⟨k - 1, by omega⟩
  rw [callP_eq]
  refine (r11_worth_e k s (pk κ)).trans ?_
  have : ∀ j i, i ≤ s.size → s.size < i + j → r11_worth_h0 k j s (valF (bytesW s) i) (i : Int) (pk κ) = κ (.int .u64 (valF (bytesW s) s.size)) := by
    intro j
    induction j with
    | zero => intro i h1 h2; omega
    | succ j ih =>
      intro i h1 h2
      rw [r11_worth_h0_s]
      by_cases hi : i < s.size
      · rw [dec_t (by omega), idx_ok (by omega) (by omega), wi64_succ (by omega), Int.toNat_natCast]
        exact ih (i + 1) hi (by omega)
      · have : i = s.size := by omega
        subst this
        rw [dec_f (by omega), cond_false]; rfl
  exact this k 0 (by omega) (by omega)
/-- what a text is as a child -/
def idV (s : ByteArray) : Int := if s.size = 8 ∧ isId (valF (bytesW s) 8) = true then valF (bytesW s) 8 else 0
def idE (s : ByteArray) : Int := if s.size = 8 ∧ isId (valF (bytesW s) 8) = true then 0 else 110
theorem r11_Id_ok (k : Nat) (s : ByteArray) (hk : 40 ≤ k) (κ : AV → Option ρ) : callP ctx k n_r11_Id [.str s] κ = κ (.tup [.int .u64 (idV s), .int .i64 (idE s)]) := by
  obtain ⟨k, rfl⟩ : ∃ k', k = k' + 1 := ⟨k - 1, by omega⟩
  rw [callP_eq]
  refine (r11_Id_e k s (pk κ)).trans ?_
  unfold idV idE isId
  by_cases h : s.size = 8
  · rw [dec_t (show (s.size : Int) = 8 by omega), Bool.not_true, cond_false, r11_worth_ok k s (by omega) (by omega), r11_Id_r0_s, h]
    by_cases h1 : valF (bytesW s) 8 < 1
    · rw [dec_t h1, if_neg (by simp; omega), if_neg (by simp; omega)]; rfl
    · rw [dec_f h1, cond_false, r11_worth_ok k s (by omega) (by omega), r11_Id_r1_s, h]
      by_cases h2 : 400 < valF (bytesW s) 8
      · rw [dec_t h2, if_neg (by simp; omega), if_neg (by simp; omega)]; rfl
      · rw [dec_f h2, cond_false, r11_worth_ok k s (by omega) (by omega), r11_Id_r2_s, h, if_pos (by simp; omega), if_pos (by simp; omega)]; rfl
  · rw [dec_f (by omega), if_neg (by simp [h]), if_neg (by simp [h])]; rfl
theorem page_Id_ok (k : Nat) (s : ByteArray) (hs : s.size ≤ 4611686018427387904) (hk : 60 ≤ k) (κ : AV → Option ρ) : callP ctx k n_page_Id [.str s] κ = κ (.tup [.int .u64 (idV s), .int .i64 (idE s)]) := by
  obtain ⟨k, rfl⟩ : ∃ k', k = k' + 2 := ⟨k - 2, by omega⟩
  rw [callP_eq]
  refine (page_Id_e k s (pk κ)).trans ?_
  rw [allU8_mk, cond_true, str_back]
  refine (octet_Num8_ok (k + 1) s 0 false hs (Nat.zero_le _) (by omega) _).trans ?_
  unfold rdN rdP rdL
  simp only [Nat.zero_add, true_and, Bool.false_or]
  refine (page_Id_r0_s (k + 1) s s _ _ true _ _ (pk κ)).trans ?_
  rw [page_Kid_ok (k + 1) _ (by omega), page_Id_r1_s]
  unfold idV idE kidT kidE
  by_cases h : 8 ≤ s.size
  · rw [if_pos h]
    by_cases hi : isId (valF (fun i => bytesW s i) 8) = true
    · rw [if_pos hi, if_pos hi]
      by_cases h8 : s.size = 8
      · have e : numB 8 (valF (fun i => bytesW s i) 8) = s := num_val8 h8
        rw [if_pos ⟨h8, hi⟩, if_pos ⟨h8, hi⟩, decide_eq_true e]
        rfl
      · have e : ¬ numB 8 (valF (fun i => bytesW s i) 8) = s := fun e => h8 (by rw [← e, numB_size])
        rw [if_neg fun x => h8 x.1, if_neg fun x => h8 x.1, decide_eq_false e]
        rfl
    · rw [if_neg hi, if_neg hi, if_neg fun x => hi x.2, if_neg fun x => hi x.2]
      rfl
  · rw [if_neg h, if_neg (show ¬ isId 0 = true by decide), if_neg (show ¬ isId 0 = true by decide)]
    rw [if_neg fun x => h (by omega), if_neg fun x => h (by omega)]
    rfl
end Go.Proofs.YtadbbgechcjciaaC
