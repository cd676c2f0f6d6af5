/- Sets and spaces with other names. -/
import Derived.Test.YtnjabaeajjhliaaT2
import Derived.Test.YtnjabaeajjhliaaS5
namespace Go.Proofs.Ytnjabaeajjhliaa
set_option linter.unusedSimpArgs false
set_option linter.unusedVariables false
set_option maxHeartbeats 4000000
open Go Go.Eng
attribute [local irreducible] WD RunD PreD Runs CallOK

def renL (names : List Nat) : List Nat → Nat → Nat
  | [], o => o
  | i :: l, o => renL names l (nOr o (bit (names.getD i 0)))
theorem renL_snoc (names : List Nat) (a : Nat) : ∀ (l : List Nat) (o : Nat), renL names (l ++ [a]) o = nOr (renL names l o) (bit (names.getD a 0))
  | [], o => rfl
  | i :: l, o => by simp only [List.cons_append, renL, renL_snoc names a l]
theorem renL_bit (names : List Nat) (q : Nat) : ∀ (l : List Nat) (o : Nat), (renL names l o).testBit q = true ↔ o.testBit q = true ∨ ∃ i ∈ l, names.getD i 0 = q
  | [], o => by simp [renL]
  | i :: l, o => by
    rw [renL, renL_bit names q l, nOr_bit, bit_bit]
    simp only [Bool.or_eq_true, decide_eq_true_eq, List.mem_cons, exists_eq_or_imp, or_assoc]
theorem renK_bit (names : List Nat) (s q : Nat) : ∀ k, (renK names s k).testBit q = true ↔ ∃ i, i < k ∧ s.testBit i = true ∧ names.getD i 0 = q
  | 0 => by simp [renK]
  | k + 1 => by
    rw [renK]
    by_cases h : s.testBit k = true
    · rw [if_pos h, nOr_bit, bit_bit, Bool.or_eq_true, renK_bit names s q k, decide_eq_true_eq]
      constructor
      · rintro (⟨i, h1, h2⟩ | h1)
        · exact ⟨i, by omega, h2⟩
        · exact ⟨k, by omega, h, h1⟩
      · rintro ⟨i, h1, h2, h3⟩
        by_cases e : i = k
        · subst e; exact .inr h3
        · exact .inl ⟨i, by omega, h2, h3⟩
    · rw [if_neg h, renK_bit names s q k]
      constructor
      · rintro ⟨i, h1, h2⟩; exact ⟨i, by omega, h2⟩
      · rintro ⟨i, h1, h2, h3⟩
        exact ⟨i, by have : i ≠ k := fun e => h (e ▸ h2); omega, h2, h3⟩
theorem renL_renN {names : List Nat} {s : Nat} (hs : s < bit names.length) (hl : names.length ≤ 7) : renL names (itemsN s) 0 = renN names s := by
  apply eq_bits
  intro q
  rw [Bool.eq_iff_iff, renL_bit, renN, renK_bit]
  simp only [Nat.zero_testBit, Bool.false_eq_true, false_or, mem_items]
  constructor
  · rintro ⟨i, ⟨h1, h2⟩, h3⟩
    refine ⟨i, ?_, h2, h3⟩
    by_cases h : i < names.length
    · exact h
    · rw [hi_bit hs (by omega)] at h2; cases h2
  · rintro ⟨i, h1, h2, h3⟩
    exact ⟨i, ⟨by omega, h2⟩, h3⟩
theorem renL_lt {names : List Nat} (hn : ∀ k, k < names.length → names.getD k 0 < 7) : ∀ (l : List Nat) (o : Nat), o < 128 → (∀ i ∈ l, i < names.length) → renL names l o < 128
  | [], o, h, _ => h
  | i :: l, o, h, hl => by
    have h1 := bit_lt7 (hn i (hl i (by simp)))
    exact renL_lt hn l _ (nOr128 h (by omega)) fun j hj => hl j (by simp [hj])

theorem renamed_ok (h : Hp) (v : Value) (names : List Nat) (s : Nat) (hv : Ints h v (toN names)) (hs : s < bit names.length) (hl : names.length ≤ 7) (hn : ∀ k, k < names.length → names.getD k 0 < 7) :
    CallOK Try.prog 133 #[.int .i64 (s : Int), v] h (.int .i64 ((renN names s : Nat) : Int)) h := by
  refine callY_P 24 _ [.tmp 4] Try.func133 rfl rfl rfl (by first | rfl | simp) ?_
  have hb7 := bit7 hl
  try simp (disch := first | omega | (simp; done) | fail) [wrap64c, if_pos, if_neg, opAnd, opOr, opXor, opDiff, opShr, opBit]
  obtain ⟨u, h1, hc1, ha1, hi1, _⟩ := items_ok h s (by omega)
  refine callG_c (by simp) (by simp) ?ha (hc1) ?_
  (case ha => simp (disch := first | omega | (simp; done) | fail) [wrap64c, if_pos, if_neg, opAnd, opOr, opXor, opDiff, opShr, opBit])
  have hL := hi1.ints.lenD
  have hgt := toN_get (itemsN s)
  have hgt2 := toN_get names
  have hln := toN_length (itemsN s)
  have hln2 := toN_length names
  have hv1 := hv.keep ha1.1
  have hil : ∀ i ∈ itemsN s, i < names.length := fun i hi => by
    have h2 := mem_items.1 hi
    by_cases h : i < names.length
    · exact h
    · rw [hi_bit hs (by omega)] at h2; cases h2.2
  try simp (disch := first | omega | (simp; done) | fail) [wrap64c, if_pos, if_neg, opAnd, opOr, opXor, opDiff, opShr, opBit, hL, hgt, hgt2]
  refine WD_loopC [1, 9, 10] (fun m tm h' => ∃ j, m = (itemsN s).length - j ∧ h1 = h' ∧ tm 5 = .int .i64 ((renL names ((itemsN s).take j) 0 : Nat) : Int) ∧ tm 11 = .int .i64 (j : Int) ∧ (j ≤ (itemsN s).length)) _ ⟨0, rfl, rfl, (by simp [renL]), (by simp (disch := first | omega | (simp; done) | fail) [wrap64c, if_pos, if_neg, opAnd, opOr, opXor, opDiff, opShr, opBit, hL, hgt, hgt2]), (by first | omega | assumption | (simp (disch := first | omega | (simp; done) | fail) [wrap64c, if_pos, if_neg, opAnd, opOr, opXor, opDiff, opShr, opBit, hL, hgt, hgt2] <;> omega))⟩ ?_
  rintro m tm h' hFr ⟨j, rfl, rfl, e5, e11, hj⟩
  simp only [FrameL] at hFr
  obtain ⟨f1_0, f9_0, f10_0, -⟩ := hFr
  try simp (disch := first | omega | (simp; done) | fail) [wrap64c, if_pos, if_neg, opAnd, opOr, opXor, opDiff, opShr, opBit, hL, hgt, hgt2] at f1_0 f9_0 f10_0
  have e1 := f1_0
  have e9 := f9_0
  have e10 := f10_0
  by_cases hlt : j < (itemsN s).length
  · have hX3 := hi1.ints
    obtain ⟨o_x, i_x, c_x, cs_x, own_x, ex_x, es_x, q_x, b_x, g_x, l_x, r_x⟩ := hX3.open ((by omega))
    have z_x : ∀ h2 : i_x < cs_x.length, cs_x[i_x] = _ := fun h2 => r_x 0 ((by omega)) h2
    have hi7 := hil _ (List.getElem_mem hlt)
    obtain ⟨o_y, i_y, c_y, cs_y, own_y, ex_y, es_y, q_y, b_y, g_y, l_y, r_y⟩ := hv1.open ((by omega))
    have z_y : ∀ h2 : i_y < cs_y.length, cs_y[i_y] = _ := fun h2 => r_y 0 ((by omega)) h2
    have hl7 := items_len s
    have hnm := hn _ hi7
    have hgd : names.getD (itemsN s)[j] 0 = names[(itemsN s)[j]] := by rw [List.getD_eq_getElem?_getD, List.getElem?_eq_getElem hi7]; rfl
    rw [hgd] at hnm
    have hb := bit_lt7 hnm
    have hm := renL_lt hn ((itemsN s).take j) 0 (by omega) (fun i hi => hil i (List.mem_of_mem_take hi))
    have hq := nOr128 (b := bit names[(itemsN s)[j]]) hm (by omega)
    have hst : renL names ((itemsN s).take (j + 1)) 0 = nOr (renL names ((itemsN s).take j) 0) (bit names[(itemsN s)[j]]) := by rw [List.take_succ_eq_append_getElem hlt, renL_snoc, hgd]
    try simp (disch := first | omega | (simp; done) | fail) [wrap64c, if_pos, if_neg, opAnd, opOr, opXor, opDiff, opShr, opBit, hL, hgt, hgt2, e1, e5, e9, e10, e11, hlt, q_x, g_x, l_x, r_x, z_x, hi7, q_y, g_y, l_y, r_y, z_y]
    refine loopK_next _ ?hm ?hf ⟨j + 1, rfl, rfl, (by simp [hst]), (by simp (disch := first | omega | (simp; done) | fail) [wrap64c, if_pos, if_neg, opAnd, opOr, opXor, opDiff, opShr, opBit, hL, hgt, hgt2, e1, e5, e9, e10, e11, hlt, q_x, g_x, l_x, r_x, z_x, hi7, q_y, g_y, l_y, r_y, z_y] <;> omega), (by first | omega | assumption | (simp (disch := first | omega | (simp; done) | fail) [wrap64c, if_pos, if_neg, opAnd, opOr, opXor, opDiff, opShr, opBit, hL, hgt, hgt2, e1, e5, e9, e10, e11, hlt, q_x, g_x, l_x, r_x, z_x, hi7, q_y, g_y, l_y, r_y, z_y] <;> omega))⟩
    (case hm => first | omega | (simp; omega))
    (case hf => simp [FrameL, hL, hgt, hgt2, e1, e5, e9, e10, e11, hlt, q_x, g_x, l_x, r_x, z_x, hi7, q_y, g_y, l_y, r_y, z_y, f1_0, f9_0, f10_0])
  · try simp (disch := first | omega | (simp; done) | fail) [wrap64c, if_pos, if_neg, opAnd, opOr, opXor, opDiff, opShr, opBit, hL, hgt, hgt2, e1, e5, e9, e10, e11, hlt]
    exact done_ret rfl (by simp [← renL_renN hs hl, List.take_of_length_le (show (itemsN s).length ≤ j by omega), ha1.1])

/-- The sets of a family below k. -/
def famK (M : Nat → Bool) (k : Nat) : List Nat := (List.range k).filter M
theorem famK_succ (M : Nat → Bool) (k : Nat) : famK M (k + 1) = if M k = true then famK M k ++ [k] else famK M k := by
  unfold famK
  rw [List.range_succ, List.filter_append]
  by_cases h : M k = true <;> simp [h]
theorem famK_len (M : Nat → Bool) (k : Nat) : (famK M k).length ≤ k := by
  unfold famK
  have := List.length_filter_le M (List.range k)
  simpa using this
end Go.Proofs.Ytnjabaeajjhliaa
