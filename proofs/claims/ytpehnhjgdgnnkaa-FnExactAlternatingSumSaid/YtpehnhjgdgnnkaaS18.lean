/- Free sets: the greatest set within, hulls, extreme items; what can be learnt next behind the others. -/
import Derived.Test.YtpehnhjgdgnnkaaS8
namespace Go.Proofs.Ytpehnhjgdgnnkaa
set_option linter.unusedSimpArgs false
set_option linter.unusedVariables false
set_option maxHeartbeats 4000000
open Go Go.Eng
attribute [local irreducible] WD RunD PreD Runs CallOK

/-- The union of the sets within a set. -/
def greatF (y : Nat) : List Nat → Nat → Nat
  | [], o => o
  | x :: l, o => greatF y l (if ndiff x y = 0 then nOr o x else o)
def greatN (xs : List Nat) (y : Nat) : Nat := greatF y xs 0
theorem greatF_snoc (y a : Nat) : ∀ (l : List Nat) (o : Nat), greatF y (l ++ [a]) o = if ndiff a y = 0 then nOr (greatF y l o) a else greatF y l o
  | [], o => by simp [greatF]
  | x :: l, o => by simp only [List.cons_append, greatF, greatF_snoc y a l]
theorem greatF_bit (y i : Nat) : ∀ (l : List Nat) (o : Nat), (greatF y l o).testBit i = true ↔ o.testBit i = true ∨ ∃ x ∈ l, ndiff x y = 0 ∧ x.testBit i = true
  | [], o => by simp [greatF]
  | x :: l, o => by
    rw [greatF, greatF_bit y i l]
    by_cases h : ndiff x y = 0
    · rw [if_pos h, nOr_bit, Bool.or_eq_true]
      constructor
      · rintro ((h1 | h1) | ⟨z, h1, h2⟩)
        · exact .inl h1
        · exact .inr ⟨x, by simp, h, h1⟩
        · exact .inr ⟨z, by simp [h1], h2⟩
      · rintro (h1 | ⟨z, h1, h2, h3⟩)
        · exact .inl (.inl h1)
        · rcases List.mem_cons.1 h1 with e | h1
          · subst e; exact .inl (.inr h3)
          · exact .inr ⟨z, h1, h2, h3⟩
    · rw [if_neg h]
      constructor
      · rintro (h1 | ⟨z, h1, h2⟩)
        · exact .inl h1
        · exact .inr ⟨z, by simp [h1], h2⟩
      · rintro (h1 | ⟨z, h1, h2, h3⟩)
        · exact .inl h1
        · rcases List.mem_cons.1 h1 with e | h1
          · subst e; exact absurd h2 h
          · exact .inr ⟨z, h1, h2, h3⟩
theorem greatF_lt (y : Nat) : ∀ (l : List Nat) (o : Nat), o < 128 → (∀ x ∈ l, x < 128) → greatF y l o < 128
  | [], o, h, _ => h
  | x :: l, o, h, hx => by
    rw [greatF]
    refine greatF_lt y l _ ?_ (fun z hz => hx z (by simp [hz]))
    split
    · exact nOr128 h (hx x (by simp))
    · exact h
theorem greatN_lt {xs : List Nat} (y : Nat) (hx : ∀ x ∈ xs, x < 128) : greatN xs y < 128 := greatF_lt y xs 0 (by omega) hx
theorem greatN_snoc (xs : List Nat) (y a : Nat) : greatN (xs ++ [a]) y = if ndiff a y = 0 then nOr (greatN xs y) a else greatN xs y := greatF_snoc y a xs 0

def hullN (n : Nat) (xs : List Nat) (s : Nat) : Nat := ndiff (bit n - 1) (greatN xs (ndiff (bit n - 1) s))
def outHull (n : Nat) (xs : List Nat) (s i : Nat) : Bool := !(hullN n xs (ndiff s (bit i))).testBit i
def extN (n : Nat) (xs : List Nat) (s : Nat) : Nat := maskL (outHull n xs s) (itemsN s) 0

/-- The extreme items of what is not learnt yet can be learnt next. -/
theorem extN_outer {n : Nat} {xs : List Nat} (g : SpGood n xs) {x : Nat} (hx : x ∈ xs) : extN n xs (ndiff (bit n - 1) x) = outerN (fam xs) n x := by
  have n7 := g.n7
  have hxn := g.lt x hx
  apply eq_bits
  intro i
  rw [extN, maskL_bit, outerN_bit, Nat.zero_testBit, Bool.false_or]
  by_cases hi : i < n
  · by_cases hb : x.testBit i = true
    · have h1 : ¬ i ∈ itemsN (ndiff (bit n - 1) x) := by
        rw [mem_items, ndiff_bit, hb]; simp
      simp [h1, hb]
    · have hb' : x.testBit i = false := by simpa using hb
      have h1 : i ∈ itemsN (ndiff (bit n - 1) x) := by
        rw [mem_items, ndiff_bit, full_bit, hb']; simp [hi]; omega
      have hY : ndiff (bit n - 1) (ndiff (ndiff (bit n - 1) x) (bit i)) = nOr x (bit i) := by
        apply eq_bits
        intro j
        rw [ndiff_bit, ndiff_bit, ndiff_bit, nOr_bit, full_bit, bit_bit]
        by_cases hj : j < n
        · by_cases e : i = j
          · subst e; simp [hj]
          · cases x.testBit j <;> simp [hj, e]
        · have e : ¬ i = j := by omega
          rw [hi_bit hxn (by omega)]
          simp [hj, e]
      have hg : (greatN xs (nOr x (bit i))).testBit i = fam xs (nOr x (bit i)) := by
        rw [Bool.eq_iff_iff, greatN, greatF_bit]
        simp only [fam, Nat.zero_testBit, Bool.false_eq_true, false_or, decide_eq_true_eq]
        constructor
        · rintro ⟨z, hz, h2, h3⟩
          have h4 := g.uni x hx z hz
          have : nOr x z = nOr x (bit i) := by
            rw [ndiff_zero] at h2
            apply eq_bits
            intro j
            have h5 := h2 j
            rw [nOr_bit, bit_bit] at h5
            rw [nOr_bit, nOr_bit, bit_bit]
            by_cases e : i = j
            · subst e; simp [h3]
            · cases hz : z.testBit j
              · simp [e]
              · have := h5 hz; simp [e] at this ⊢; exact this
          rw [this] at h4; exact h4
        · intro h2
          exact ⟨_, h2, by rw [ndiff_zero]; exact fun _ h => h, by rw [nOr_bit, bit_bit]; simp⟩
      simp only [outHull, hullN, hY, ndiff_bit, full_bit, hg]
      simp [h1, hi, hb']
  · have h1 : ¬ i ∈ itemsN (ndiff (bit n - 1) x) := by
      rw [mem_items, ndiff_bit, full_bit]; simp [hi]
    simp [h1, hi]

theorem partF_ok (h : Hp) (a b : Nat) (ha : a < 128) (hb : b < 128) : CallOK Try.prog 138 #[.int .i64 (a : Int), .int .i64 (b : Int)] h (.bool (decide (ndiff a b = 0))) h := by
  refine call_P 9 _ [.tmp 4] Try.func138 rfl rfl rfl (by first | rfl | simp) ?_
  have hd := ndiff128 (a := a) (b := b) ha
  have hd2 : (((ndiff a b : Nat) : Int) == 0) = decide (ndiff a b = 0) := by rw [Bool.eq_iff_iff]; simp
  repeat (first
    | (refine WD_block (fun K hK => ?_))
    | (refine WD_seq (fun K hK => ?_))
    | (refine WD_region (fun K hK => ?_))
    | ((first | refine RunD_o rfl rfl rfl rfl rfl (fun X hX => ?_) | refine RunD_s rfl rfl rfl rfl (fun X hX => ?_) | refine WD_c rfl (fun X Y hX hY => ?_)); (try dsimp only); simp (disch := first | omega | (simp; done) | fail) [wrap64c, if_pos, if_neg, opAnd, opOr, opXor, opDiff, opShr, opBit]; (first | refine hX _ _ ?_ | refine hX ?_ | refine hY ?_); (try clear hX X); try clear hY Y)
    | (refine RunD_nil ?_; refine hK _ _ ?_; clear hK K)
    | (refine RunD_nil ?_)
    | (refine WD_skip ?_)
    | (refine WD_exit ?_)
    | (refine WD_ret ?_)
    | (refine hK.1 _ _ ?_; clear hK K)
    | (refine hK.2.1 _ _ ?_; clear hK K)
    | (refine hK.2 _ _ _ ?hne ?_; (case hne => simp; done); clear hK K)
    | (refine hK.2.2 _ _ _ ?hne ?_; (case hne => simp; done); clear hK K))
  exact done_ret rfl (by simp [hd2])

theorem greatest_ok (h : Hp) (v : Value) (N : Int) (xs : List Nat) (y : Nat) (hv : Space h v N (toN xs)) (hx : ∀ x ∈ xs, x < 128) (hy : y < 128) (hl : xs.length < 2 ^ 40) :
    CallOK Try.prog 120 #[v, .int .i64 (y : Int)] h (.int .i64 ((greatN xs y : Nat) : Int)) h := by
  refine call_P 23 _ [.tmp 4] Try.func120 rfl rfl rfl (by first | rfl | simp) ?_
  obtain ⟨b, rfl, hX⟩ := hv
  repeat (first
    | (refine WD_block (fun K hK => ?_))
    | (refine WD_seq (fun K hK => ?_)))
  refine WD_region (fun K hK => ?_)
  repeat (first
    | ((first | refine RunD_o rfl rfl rfl rfl rfl (fun X hX => ?_) | refine RunD_s rfl rfl rfl rfl (fun X hX => ?_) | refine WD_c rfl (fun X Y hX hY => ?_)); (try dsimp only); simp (disch := first | omega | (simp; done) | fail) [wrap64c, if_pos, if_neg, opAnd, opOr, opXor, opDiff, opShr, opBit]; (first | refine hX _ _ ?_ | refine hX ?_ | refine hY ?_); (try clear hX X); try clear hY Y))
  refine RunD_heap fun h0 q_h0 => ?_
  have g_h0 : h0.get h.next = .cells [.int .i64 N, b] true true 1 := by simp [q_h0]
  have k_h0 : Adds h h0 := by rw [q_h0]; exact (by repeat (first | exact keep_self _ | exact adds_self _ | assumption | exact Adds.keeps (by assumption) | refine keeps_alloc ?_ _ | refine adds_alloc ?_ _ _ _ | refine adds_allocM ?_ _ | (refine keeps_put ?_ ?hle _; (case hle => first | omega | (simp; done) | (simp; omega))) | (refine adds_put ?_ ?hle _ _ _; (case hle => first | omega | (simp; done) | (simp; omega)))))
  have n_h0 : h.next < h0.next := by simp [q_h0]; try omega
  have hX0 := hX.keep k_h0.1
  have hL := hX0.lenD
  have hgt := toN_get xs
  have hln := toN_length xs
  repeat (first
    | (refine WD_block (fun K hK => ?_))
    | (refine WD_seq (fun K hK => ?_))
    | (refine WD_region (fun K hK => ?_))
    | ((first | refine RunD_o rfl rfl rfl rfl rfl (fun X hX => ?_) | refine RunD_s rfl rfl rfl rfl (fun X hX => ?_) | refine WD_c rfl (fun X Y hX hY => ?_)); (try dsimp only); simp (disch := first | omega | (simp; done) | fail) [wrap64c, if_pos, if_neg, opAnd, opOr, opXor, opDiff, opShr, opBit, g_h0, hL, hgt]; (first | refine hX _ _ ?_ | refine hX ?_ | refine hY ?_); (try clear hX X); try clear hY Y)
    | (refine RunD_nil ?_; refine hK _ _ ?_; clear hK K)
    | (refine RunD_nil ?_)
    | (refine WD_skip ?_)
    | (refine WD_exit ?_)
    | (refine WD_ret ?_)
    | (refine hK.1 _ _ ?_; clear hK K)
    | (refine hK.2.1 _ _ ?_; clear hK K)
    | (refine hK.2 _ _ _ ?hne ?_; (case hne => simp; done); clear hK K)
    | (refine hK.2.2 _ _ _ ?hne ?_; (case hne => simp; done); clear hK K))
  refine WD_loopF [1, 9, 10] (fun m tm h' => ∃ j, m = xs.length - j ∧ h0 = h' ∧ tm 5 = .int .i64 ((greatN (xs.take j) y : Nat) : Int) ∧ tm 11 = .int .i64 (j : Int) ∧ (j ≤ xs.length)) _ ⟨0, rfl, rfl, (by simp [greatN, greatF]), (by simp (disch := first | omega | (simp; done) | fail) [wrap64c, if_pos, if_neg, opAnd, opOr, opXor, opDiff, opShr, opBit, g_h0, hL, hgt]), (by first | omega | assumption | (simp (disch := first | omega | (simp; done) | fail) [wrap64c, if_pos, if_neg, opAnd, opOr, opXor, opDiff, opShr, opBit, g_h0, hL, hgt] <;> omega))⟩ ?_
  rintro m tm h' hFr ⟨j, rfl, rfl, e5, e11, hj⟩ K hK
  simp only [FrameL] at hFr
  obtain ⟨f1_0, f9_0, f10_0, -⟩ := hFr
  try simp (disch := first | omega | (simp; done) | fail) [wrap64c, if_pos, if_neg, opAnd, opOr, opXor, opDiff, opShr, opBit, g_h0, hL, hgt] at f1_0 f9_0 f10_0
  have e1 := f1_0
  have e9 := f9_0
  have e10 := f10_0
  by_cases hlt : j < xs.length
  · have hxj := hx _ (List.getElem_mem hlt)
    have hm := greatN_lt (xs := xs.take j) y (fun x h => hx x (List.mem_of_mem_take h))
    have hs : greatN (xs.take (j + 1)) y = if ndiff xs[j] y = 0 then nOr (greatN (xs.take j) y) xs[j] else greatN (xs.take j) y := by rw [List.take_succ_eq_append_getElem hlt]; exact greatN_snoc _ _ _
    obtain ⟨o_x, i_x, c_x, cs_x, own_x, ex_x, es_x, q_x, b_x, g_x, l_x, r_x⟩ := hX0.open ((by omega))
    have z_x : ∀ h2 : i_x < cs_x.length, cs_x[i_x] = _ := fun h2 => r_x 0 ((by omega)) h2
    repeat (first
      | (refine WD_block (fun K hK => ?_))
      | (refine WD_seq (fun K hK => ?_))
      | (refine WD_region (fun K hK => ?_))
      | ((first | refine RunD_o rfl rfl rfl rfl rfl (fun X hX => ?_) | refine RunD_s rfl rfl rfl rfl (fun X hX => ?_) | refine WD_c rfl (fun X Y hX hY => ?_)); (try dsimp only); simp (disch := first | omega | (simp; done) | fail) [wrap64c, if_pos, if_neg, opAnd, opOr, opXor, opDiff, opShr, opBit, g_h0, hL, hgt, e1, e5, e9, e10, e11, hlt, q_x, g_x, l_x, r_x, z_x]; (first | refine hX _ _ ?_ | refine hX ?_ | refine hY ?_); (try clear hX X); try clear hY Y)
      | (refine RunD_nil ?_; refine hK _ _ ?_; clear hK K)
      | (refine RunD_nil ?_)
      | (refine WD_skip ?_)
      | (refine WD_exit ?_)
      | (refine WD_ret ?_)
      | (refine hK.1 _ _ ?_; clear hK K)
      | (refine hK.2.1 _ _ ?_; clear hK K)
      | (refine hK.2 _ _ _ ?hne ?_; (case hne => simp; done); clear hK K)
      | (refine hK.2.2 _ _ _ ?hne ?_; (case hne => simp; done); clear hK K))
    refine RunD_c rfl rfl rfl rfl (by simp) (by simp) ?ha (partF_ok h0 xs[j] y hxj hy) ?_
    (case ha => simp (disch := first | omega | (simp; done) | fail) [wrap64c, if_pos, if_neg, opAnd, opOr, opXor, opDiff, opShr, opBit, g_h0, hL, hgt, e1, e5, e9, e10, e11, hlt, q_x, g_x, l_x, r_x, z_x])
    by_cases hc : ndiff xs[j] y = 0
    · rw [if_pos hc] at hs
      repeat (first
        | (refine WD_block (fun K hK => ?_))
        | (refine WD_seq (fun K hK => ?_))
        | (refine WD_region (fun K hK => ?_))
        | ((first | refine RunD_o rfl rfl rfl rfl rfl (fun X hX => ?_) | refine RunD_s rfl rfl rfl rfl (fun X hX => ?_) | refine WD_c rfl (fun X Y hX hY => ?_)); (try dsimp only); simp (disch := first | omega | (simp; done) | fail) [wrap64c, if_pos, if_neg, opAnd, opOr, opXor, opDiff, opShr, opBit, g_h0, hL, hgt, e1, e5, e9, e10, e11, hlt, q_x, g_x, l_x, r_x, z_x, hc]; (first | refine hX _ _ ?_ | refine hX ?_ | refine hY ?_); (try clear hX X); try clear hY Y)
        | (refine RunD_nil ?_; refine hK _ _ ?_; clear hK K)
        | (refine RunD_nil ?_)
        | (refine WD_skip ?_)
        | (refine WD_exit ?_)
        | (refine WD_ret ?_)
        | (refine hK.1 _ _ ?_; clear hK K)
        | (refine hK.2.1 _ _ ?_; clear hK K)
        | (refine hK.2 _ _ _ ?hne ?_; (case hne => simp; done); clear hK K)
        | (refine hK.2.2 _ _ _ ?hne ?_; (case hne => simp; done); clear hK K))
      refine hK.1 _ _ _ ?hm ?hf ⟨j + 1, rfl, rfl, (by simp [hs, e5]), (by simp (disch := first | omega | (simp; done) | fail) [wrap64c, if_pos, if_neg, opAnd, opOr, opXor, opDiff, opShr, opBit, g_h0, hL, hgt, e1, e5, e9, e10, e11, hlt, q_x, g_x, l_x, r_x, z_x, hc] <;> omega), (by first | omega | assumption | (simp (disch := first | omega | (simp; done) | fail) [wrap64c, if_pos, if_neg, opAnd, opOr, opXor, opDiff, opShr, opBit, g_h0, hL, hgt, e1, e5, e9, e10, e11, hlt, q_x, g_x, l_x, r_x, z_x, hc] <;> omega))⟩
      (case hm => first | omega | (simp; omega))
      (case hf => simp [FrameL, g_h0, hL, hgt, e1, e5, e9, e10, e11, hlt, q_x, g_x, l_x, r_x, z_x, hc, f1_0, f9_0, f10_0])
    · rw [if_neg hc] at hs
      repeat (first
        | (refine WD_block (fun K hK => ?_))
        | (refine WD_seq (fun K hK => ?_))
        | (refine WD_region (fun K hK => ?_))
        | ((first | refine RunD_o rfl rfl rfl rfl rfl (fun X hX => ?_) | refine RunD_s rfl rfl rfl rfl (fun X hX => ?_) | refine WD_c rfl (fun X Y hX hY => ?_)); (try dsimp only); simp (disch := first | omega | (simp; done) | fail) [wrap64c, if_pos, if_neg, opAnd, opOr, opXor, opDiff, opShr, opBit, g_h0, hL, hgt, e1, e5, e9, e10, e11, hlt, q_x, g_x, l_x, r_x, z_x, hc]; (first | refine hX _ _ ?_ | refine hX ?_ | refine hY ?_); (try clear hX X); try clear hY Y)
        | (refine RunD_nil ?_; refine hK _ _ ?_; clear hK K)
        | (refine RunD_nil ?_)
        | (refine WD_skip ?_)
        | (refine WD_exit ?_)
        | (refine WD_ret ?_)
        | (refine hK.1 _ _ ?_; clear hK K)
        | (refine hK.2.1 _ _ ?_; clear hK K)
        | (refine hK.2 _ _ _ ?hne ?_; (case hne => simp; done); clear hK K)
        | (refine hK.2.2 _ _ _ ?hne ?_; (case hne => simp; done); clear hK K))
      refine hK.1 _ _ _ ?hm ?hf ⟨j + 1, rfl, rfl, (by simp [hs, e5]), (by simp (disch := first | omega | (simp; done) | fail) [wrap64c, if_pos, if_neg, opAnd, opOr, opXor, opDiff, opShr, opBit, g_h0, hL, hgt, e1, e5, e9, e10, e11, hlt, q_x, g_x, l_x, r_x, z_x, hc] <;> omega), (by first | omega | assumption | (simp (disch := first | omega | (simp; done) | fail) [wrap64c, if_pos, if_neg, opAnd, opOr, opXor, opDiff, opShr, opBit, g_h0, hL, hgt, e1, e5, e9, e10, e11, hlt, q_x, g_x, l_x, r_x, z_x, hc] <;> omega))⟩
      (case hm => first | omega | (simp; omega))
      (case hf => simp [FrameL, g_h0, hL, hgt, e1, e5, e9, e10, e11, hlt, q_x, g_x, l_x, r_x, z_x, hc, f1_0, f9_0, f10_0])
  · repeat (first
      | (refine WD_block (fun K hK => ?_))
      | (refine WD_seq (fun K hK => ?_))
      | (refine WD_region (fun K hK => ?_))
      | ((first | refine RunD_o rfl rfl rfl rfl rfl (fun X hX => ?_) | refine RunD_s rfl rfl rfl rfl (fun X hX => ?_) | refine WD_c rfl (fun X Y hX hY => ?_)); (try dsimp only); simp (disch := first | omega | (simp; done) | fail) [wrap64c, if_pos, if_neg, opAnd, opOr, opXor, opDiff, opShr, opBit, g_h0, hL, hgt, e1, e5, e9, e10, e11, hlt]; (first | refine hX _ _ ?_ | refine hX ?_ | refine hY ?_); (try clear hX X); try clear hY Y)
      | (refine RunD_nil ?_; refine hK _ _ ?_; clear hK K)
      | (refine RunD_nil ?_)
      | (refine WD_skip ?_)
      | (refine WD_exit ?_)
      | (refine WD_ret ?_)
      | (refine hK.1 _ _ ?_; clear hK K)
      | (refine hK.2.1 _ _ ?_; clear hK K)
      | (refine hK.2 _ _ _ ?hne ?_; (case hne => simp; done); clear hK K)
      | (refine hK.2.2 _ _ _ ?hne ?_; (case hne => simp; done); clear hK K))
    exact done_ret rfl (by simp [k_h0.1, List.take_of_length_le (show xs.length ≤ j by omega)])

theorem hull_ok (h : Hp) (v : Value) (n : Nat) (xs : List Nat) (s : Nat) (hv : Space h v n (toN xs)) (hn : n ≤ 7) (hx : ∀ x ∈ xs, x < 128) (hs : s < 128) (hl : xs.length < 2 ^ 40) :
    CallOK Try.prog 101 #[v, .int .i64 (s : Int)] h (.int .i64 ((hullN n xs s : Nat) : Int)) h := by
  refine call_P 14 _ [.tmp 4] Try.func101 rfl rfl rfl (by first | rfl | simp) ?_
  obtain ⟨b, rfl, hX⟩ := hv
  repeat (first
    | (refine WD_block (fun K hK => ?_))
    | (refine WD_seq (fun K hK => ?_)))
  refine WD_region (fun K hK => ?_)
  repeat (first
    | ((first | refine RunD_o rfl rfl rfl rfl rfl (fun X hX => ?_) | refine RunD_s rfl rfl rfl rfl (fun X hX => ?_) | refine PreD_o rfl rfl rfl rfl rfl (fun X hX => ?_) | refine WD_c rfl (fun X Y hX hY => ?_)); (try dsimp only); simp (disch := first | omega | (simp; done) | fail) [wrap64c, if_pos, if_neg, opAnd, opOr, opXor, opDiff, opShr, opBit]; (first | (refine hX _ _ ?hadd ?_; (case hadd => simp; done)) | refine hX _ _ ?_ | refine hX ?_ | refine hY ?_); (try clear hX X); try clear hY Y))
  refine RunD_heap fun h0 q_h0 => ?_
  have g_h0 : h0.get h.next = .cells [.int .i64 n, b] true true 1 := by simp [q_h0]
  have k_h0 : Adds h h0 := by rw [q_h0]; exact (by repeat (first | exact keep_self _ | exact adds_self _ | assumption | exact Adds.keeps (by assumption) | refine keeps_alloc ?_ _ | refine adds_alloc ?_ _ _ _ | refine adds_allocM ?_ _ | (refine keeps_put ?_ ?hle _; (case hle => first | omega | (simp; done) | (simp; omega))) | (refine adds_put ?_ ?hle _ _ _; (case hle => first | omega | (simp; done) | (simp; omega)))))
  have n_h0 : h.next < h0.next := by simp [q_h0]; try omega
  have hX0 := hX.keep k_h0.1
  have hb := bit7 hn
  have hd := ndiff128 (a := bit n - 1) (b := s) (by omega)
  have hg := greatN_lt (xs := xs) (ndiff (bit n - 1) s) hx
  repeat (first
    | (refine WD_block (fun K hK => ?_))
    | (refine WD_seq (fun K hK => ?_))
    | (refine WD_region (fun K hK => ?_))
    | ((first | refine RunD_o rfl rfl rfl rfl rfl (fun X hX => ?_) | refine RunD_s rfl rfl rfl rfl (fun X hX => ?_) | refine PreD_o rfl rfl rfl rfl rfl (fun X hX => ?_) | refine WD_c rfl (fun X Y hX hY => ?_)); (try dsimp only); simp (disch := first | omega | (simp; done) | fail) [wrap64c, if_pos, if_neg, opAnd, opOr, opXor, opDiff, opShr, opBit, g_h0]; (first | (refine hX _ _ ?hadd ?_; (case hadd => simp; done)) | refine hX _ _ ?_ | refine hX ?_ | refine hY ?_); (try clear hX X); try clear hY Y)
    | (refine RunD_nil ?_; refine hK _ _ ?_; clear hK K)
    | (refine RunD_nil ?_)
    | (refine PreD_nil ?_; refine hK _ _ ?_; clear hK K)
    | (refine WD_skip ?_)
    | (refine WD_exit ?_)
    | (refine WD_ret ?_)
    | (refine hK.1 _ _ ?_; clear hK K)
    | (refine hK.2.1 _ _ ?_; clear hK K)
    | (refine hK.2 _ _ _ ?hne ?_; (case hne => simp; done); clear hK K)
    | (refine hK.2.2 _ _ _ ?hne ?_; (case hne => simp; done); clear hK K))
  refine WD_draw 7 rfl (by kernel_rfl) (fun K hK => ?_)
  repeat (first
    | (refine WD_block (fun K hK => ?_))
    | (refine WD_seq (fun K hK => ?_))
    | (refine WD_region (fun K hK => ?_))
    | ((first | refine RunD_o rfl rfl rfl rfl rfl (fun X hX => ?_) | refine RunD_s rfl rfl rfl rfl (fun X hX => ?_) | refine PreD_o rfl rfl rfl rfl rfl (fun X hX => ?_) | refine WD_c rfl (fun X Y hX hY => ?_)); (try dsimp only); simp (disch := first | omega | (simp; done) | fail) [wrap64c, if_pos, if_neg, opAnd, opOr, opXor, opDiff, opShr, opBit, g_h0]; (first | (refine hX _ _ ?hadd ?_; (case hadd => simp; done)) | refine hX _ _ ?_ | refine hX ?_ | refine hY ?_); (try clear hX X); try clear hY Y)
    | (refine RunD_nil ?_; refine hK _ _ ?_; clear hK K)
    | (refine RunD_nil ?_)
    | (refine PreD_nil ?_; refine hK _ _ ?_; clear hK K)
    | (refine WD_skip ?_)
    | (refine WD_exit ?_)
    | (refine WD_ret ?_)
    | (refine hK.1 _ _ ?_; clear hK K)
    | (refine hK.2.1 _ _ ?_; clear hK K)
    | (refine hK.2 _ _ _ ?hne ?_; (case hne => simp; done); clear hK K)
    | (refine hK.2.2 _ _ _ ?hne ?_; (case hne => simp; done); clear hK K))
  refine PreD_c rfl rfl rfl rfl (by simp) (by simp) ?ha (all_ok h0 (.agg #[.int .i64 n, b]) n (toN xs) (.mk hX0) (by omega)) ?hadd ?_
  (case ha => simp (disch := first | omega | (simp; done) | fail) [wrap64c, if_pos, if_neg, opAnd, opOr, opXor, opDiff, opShr, opBit, g_h0])
  (case hadd => first | assumption | exact adds_self _ | (simp; done))
  repeat (first
    | (refine WD_block (fun K hK => ?_))
    | (refine WD_seq (fun K hK => ?_))
    | (refine WD_region (fun K hK => ?_))
    | ((first | refine RunD_o rfl rfl rfl rfl rfl (fun X hX => ?_) | refine RunD_s rfl rfl rfl rfl (fun X hX => ?_) | refine PreD_o rfl rfl rfl rfl rfl (fun X hX => ?_) | refine WD_c rfl (fun X Y hX hY => ?_)); (try dsimp only); simp (disch := first | omega | (simp; done) | fail) [wrap64c, if_pos, if_neg, opAnd, opOr, opXor, opDiff, opShr, opBit, g_h0]; (first | (refine hX _ _ ?hadd ?_; (case hadd => simp; done)) | refine hX _ _ ?_ | refine hX ?_ | refine hY ?_); (try clear hX X); try clear hY Y)
    | (refine RunD_nil ?_; refine hK _ _ ?_; clear hK K)
    | (refine RunD_nil ?_)
    | (refine PreD_nil ?_; refine hK _ _ ?_; clear hK K)
    | (refine WD_skip ?_)
    | (refine WD_exit ?_)
    | (refine WD_ret ?_)
    | (refine hK.1 _ _ ?_; clear hK K)
    | (refine hK.2.1 _ _ ?_; clear hK K)
    | (refine hK.2 _ _ _ ?hne ?_; (case hne => simp; done); clear hK K)
    | (refine hK.2.2 _ _ _ ?hne ?_; (case hne => simp; done); clear hK K))
  refine PreD_c rfl rfl rfl rfl (by simp) (by simp) ?ha (all_ok h0 (.agg #[.int .i64 n, b]) n (toN xs) (.mk hX0) (by omega)) ?hadd ?_
  (case ha => simp (disch := first | omega | (simp; done) | fail) [wrap64c, if_pos, if_neg, opAnd, opOr, opXor, opDiff, opShr, opBit, g_h0])
  (case hadd => first | assumption | exact adds_self _ | (simp; done))
  repeat (first
    | (refine WD_block (fun K hK => ?_))
    | (refine WD_seq (fun K hK => ?_))
    | (refine WD_region (fun K hK => ?_))
    | ((first | refine RunD_o rfl rfl rfl rfl rfl (fun X hX => ?_) | refine RunD_s rfl rfl rfl rfl (fun X hX => ?_) | refine PreD_o rfl rfl rfl rfl rfl (fun X hX => ?_) | refine WD_c rfl (fun X Y hX hY => ?_)); (try dsimp only); simp (disch := first | omega | (simp; done) | fail) [wrap64c, if_pos, if_neg, opAnd, opOr, opXor, opDiff, opShr, opBit, g_h0]; (first | (refine hX _ _ ?hadd ?_; (case hadd => simp; done)) | refine hX _ _ ?_ | refine hX ?_ | refine hY ?_); (try clear hX X); try clear hY Y)
    | (refine RunD_nil ?_; refine hK _ _ ?_; clear hK K)
    | (refine RunD_nil ?_)
    | (refine PreD_nil ?_; refine hK _ _ ?_; clear hK K)
    | (refine WD_skip ?_)
    | (refine WD_exit ?_)
    | (refine WD_ret ?_)
    | (refine hK.1 _ _ ?_; clear hK K)
    | (refine hK.2.1 _ _ ?_; clear hK K)
    | (refine hK.2 _ _ _ ?hne ?_; (case hne => simp; done); clear hK K)
    | (refine hK.2.2 _ _ _ ?hne ?_; (case hne => simp; done); clear hK K))
  refine RunD_c rfl rfl rfl rfl (by simp) (by simp) ?ha (greatest_ok h0 (.agg #[.int .i64 n, b]) n xs (ndiff (bit n - 1) s) (.mk hX0) hx hd hl) ?_
  (case ha => simp (disch := first | omega | (simp; done) | fail) [wrap64c, if_pos, if_neg, opAnd, opOr, opXor, opDiff, opShr, opBit, g_h0])
  repeat (first
    | (refine WD_block (fun K hK => ?_))
    | (refine WD_seq (fun K hK => ?_))
    | (refine WD_region (fun K hK => ?_))
    | ((first | refine RunD_o rfl rfl rfl rfl rfl (fun X hX => ?_) | refine RunD_s rfl rfl rfl rfl (fun X hX => ?_) | refine PreD_o rfl rfl rfl rfl rfl (fun X hX => ?_) | refine WD_c rfl (fun X Y hX hY => ?_)); (try dsimp only); simp (disch := first | omega | (simp; done) | fail) [wrap64c, if_pos, if_neg, opAnd, opOr, opXor, opDiff, opShr, opBit, g_h0]; (first | (refine hX _ _ ?hadd ?_; (case hadd => simp; done)) | refine hX _ _ ?_ | refine hX ?_ | refine hY ?_); (try clear hX X); try clear hY Y)
    | (refine RunD_nil ?_; refine hK _ _ ?_; clear hK K)
    | (refine RunD_nil ?_)
    | (refine PreD_nil ?_; refine hK _ _ ?_; clear hK K)
    | (refine WD_skip ?_)
    | (refine WD_exit ?_)
    | (refine WD_ret ?_)
    | (refine hK.1 _ _ ?_; clear hK K)
    | (refine hK.2.1 _ _ ?_; clear hK K)
    | (refine hK.2 _ _ _ ?hne ?_; (case hne => simp; done); clear hK K)
    | (refine hK.2.2 _ _ _ ?hne ?_; (case hne => simp; done); clear hK K))
  exact done_ret rfl (by simp [hullN, k_h0.1])

theorem hullN_lt {n : Nat} (hn : n ≤ 7) (xs : List Nat) (s : Nat) : hullN n xs s < 128 := by
  have hb := bit7 hn
  exact ndiff128 (by omega)

theorem extreme_ok (h : Hp) (v : Value) (n : Nat) (xs : List Nat) (s : Nat) (hv : Space h v n (toN xs)) (hn : n ≤ 7) (hx : ∀ x ∈ xs, x < 128) (ha : s < 128) (hl : xs.length < 2 ^ 40) :
    CallOK Try.prog 72 #[v, .int .i64 (s : Int)] h (.int .i64 ((extN n xs s : Nat) : Int)) h := by
  refine call_P 31 _ [.tmp 4] Try.func72 rfl rfl rfl (by first | rfl | simp) ?_
  obtain ⟨b, rfl, hX⟩ := hv
  repeat (first
    | (refine WD_block (fun K hK => ?_))
    | (refine WD_seq (fun K hK => ?_)))
  refine WD_region (fun K hK => ?_)
  repeat (first
    | ((first | refine RunD_o rfl rfl rfl rfl rfl (fun X hX => ?_) | refine RunD_s rfl rfl rfl rfl (fun X hX => ?_) | refine PreD_o rfl rfl rfl rfl rfl (fun X hX => ?_) | refine WD_c rfl (fun X Y hX hY => ?_)); (try dsimp only); simp (disch := first | omega | (simp; done) | fail) [wrap64c, if_pos, if_neg, opAnd, opOr, opXor, opDiff, opShr, opBit]; (first | (refine hX _ _ ?hadd ?_; (case hadd => simp; done)) | refine hX _ _ ?_ | refine hX ?_ | refine hY ?_); (try clear hX X); try clear hY Y))
  refine RunD_heap fun h0 q_h0 => ?_
  have g_h0 : h0.get h.next = .cells [.int .i64 n, b] true true 1 := by simp [q_h0]
  have k_h0 : Adds h h0 := by rw [q_h0]; exact (by repeat (first | exact keep_self _ | exact adds_self _ | assumption | exact Adds.keeps (by assumption) | refine keeps_alloc ?_ _ | refine adds_alloc ?_ _ _ _ | refine adds_allocM ?_ _ | (refine keeps_put ?_ ?hle _; (case hle => first | omega | (simp; done) | (simp; omega))) | (refine adds_put ?_ ?hle _ _ _; (case hle => first | omega | (simp; done) | (simp; omega)))))
  have n_h0 : h.next < h0.next := by simp [q_h0]; try omega
  have hX0 := hX.keep k_h0.1
  repeat (first
    | (refine WD_block (fun K hK => ?_))
    | (refine WD_seq (fun K hK => ?_))
    | (refine WD_region (fun K hK => ?_))
    | ((first | refine RunD_o rfl rfl rfl rfl rfl (fun X hX => ?_) | refine RunD_s rfl rfl rfl rfl (fun X hX => ?_) | refine PreD_o rfl rfl rfl rfl rfl (fun X hX => ?_) | refine WD_c rfl (fun X Y hX hY => ?_)); (try dsimp only); simp (disch := first | omega | (simp; done) | fail) [wrap64c, if_pos, if_neg, opAnd, opOr, opXor, opDiff, opShr, opBit, g_h0]; (first | (refine hX _ _ ?hadd ?_; (case hadd => simp; done)) | refine hX _ _ ?_ | refine hX ?_ | refine hY ?_); (try clear hX X); try clear hY Y)
    | (refine RunD_nil ?_; refine hK _ _ ?_; clear hK K)
    | (refine RunD_nil ?_)
    | (refine PreD_nil ?_; refine hK _ _ ?_; clear hK K)
    | (refine WD_skip ?_)
    | (refine WD_exit ?_)
    | (refine WD_ret ?_)
    | (refine hK.1 _ _ ?_; clear hK K)
    | (refine hK.2.1 _ _ ?_; clear hK K)
    | (refine hK.2 _ _ _ ?hne ?_; (case hne => simp; done); clear hK K)
    | (refine hK.2.2 _ _ _ ?hne ?_; (case hne => simp; done); clear hK K))
  obtain ⟨u, h1, hc1, ha1, hi1, _⟩ := items_ok h0 s (by omega)
  refine RunD_c rfl rfl rfl rfl (by simp) (by simp) ?ha (hc1) ?_
  (case ha => simp (disch := first | omega | (simp; done) | fail) [wrap64c, if_pos, if_neg, opAnd, opOr, opXor, opDiff, opShr, opBit, g_h0])
  have hL := hi1.ints.lenD
  have hgt := toN_get (itemsN s)
  have hln := toN_length (itemsN s)
  have hX1 := hX0.keep ha1.1
  have hg1 : h1.get h.next = .cells [.int .i64 n, b] true true 1 := by rw [ha1.1.2 h.next (by omega)]; exact g_h0
  repeat (first
    | (refine WD_block (fun K hK => ?_))
    | (refine WD_seq (fun K hK => ?_))
    | (refine WD_region (fun K hK => ?_))
    | ((first | refine RunD_o rfl rfl rfl rfl rfl (fun X hX => ?_) | refine RunD_s rfl rfl rfl rfl (fun X hX => ?_) | refine PreD_o rfl rfl rfl rfl rfl (fun X hX => ?_) | refine WD_c rfl (fun X Y hX hY => ?_)); (try dsimp only); simp (disch := first | omega | (simp; done) | fail) [wrap64c, if_pos, if_neg, opAnd, opOr, opXor, opDiff, opShr, opBit, g_h0, hL, hgt, hg1]; (first | (refine hX _ _ ?hadd ?_; (case hadd => simp; done)) | refine hX _ _ ?_ | refine hX ?_ | refine hY ?_); (try clear hX X); try clear hY Y)
    | (refine RunD_nil ?_; refine hK _ _ ?_; clear hK K)
    | (refine RunD_nil ?_)
    | (refine PreD_nil ?_; refine hK _ _ ?_; clear hK K)
    | (refine WD_skip ?_)
    | (refine WD_exit ?_)
    | (refine WD_ret ?_)
    | (refine hK.1 _ _ ?_; clear hK K)
    | (refine hK.2.1 _ _ ?_; clear hK K)
    | (refine hK.2 _ _ _ ?hne ?_; (case hne => simp; done); clear hK K)
    | (refine hK.2.2 _ _ _ ?hne ?_; (case hne => simp; done); clear hK K))
  refine WD_loopF [1, 2, 9, 10] (fun m tm h' => ∃ j, m = (itemsN s).length - j ∧ h1 = h' ∧ tm 5 = .int .i64 ((maskL (outHull n xs s) ((itemsN s).take j) 0 : Nat) : Int) ∧ tm 11 = .int .i64 (j : Int) ∧ (j ≤ (itemsN s).length) ∧ (maskL (outHull n xs s) ((itemsN s).take j) 0 < 128)) _ ⟨0, rfl, rfl, (by simp [maskL]), (by simp (disch := first | omega | (simp; done) | fail) [wrap64c, if_pos, if_neg, opAnd, opOr, opXor, opDiff, opShr, opBit, g_h0, hL, hgt, hg1]), (by first | omega | assumption | (simp (disch := first | omega | (simp; done) | fail) [wrap64c, if_pos, if_neg, opAnd, opOr, opXor, opDiff, opShr, opBit, g_h0, hL, hgt, hg1] <;> omega)), (by simp [maskL])⟩ ?_
  rintro m tm h' hFr ⟨j, rfl, rfl, e5, e11, hj, hm⟩ K hK
  simp only [FrameL] at hFr
  obtain ⟨f1_0, f2_0, f9_0, f10_0, -⟩ := hFr
  try simp (disch := first | omega | (simp; done) | fail) [wrap64c, if_pos, if_neg, opAnd, opOr, opXor, opDiff, opShr, opBit, g_h0, hL, hgt, hg1] at f1_0 f2_0 f9_0 f10_0
  have e1 := f1_0
  have e2 := f2_0
  have e9 := f9_0
  have e10 := f10_0
  by_cases hlt : j < (itemsN s).length
  · obtain ⟨o_x, i_x, c_x, cs_x, own_x, ex_x, es_x, q_x, b_x, g_x, l_x, r_x⟩ := hi1.ints.open ((by simp; omega))
    have z_x : ∀ h2 : i_x < cs_x.length, cs_x[i_x] = _ := fun h2 => r_x 0 ((by simp; omega)) h2
    have hi7 := items_lt (List.getElem_mem hlt)
    have hl7 := items_len s
    have hb := bit_lt7 hi7
    have hd := ndiff128 (a := s) (b := bit (itemsN s)[j]) ha
    have hq := nOr128 (b := bit (itemsN s)[j]) hm (by omega)
    have hh := hullN_lt hn xs (ndiff s (bit (itemsN s)[j]))
    have hsl := nShr_le (hullN n xs (ndiff s (bit (itemsN s)[j]))) (itemsN s)[j]
    have hz := nShr_and01 (hullN n xs (ndiff s (bit (itemsN s)[j]))) (itemsN s)[j]
    have hs : maskL (outHull n xs s) ((itemsN s).take (j + 1)) 0 = if outHull n xs s (itemsN s)[j] = true then nOr (maskL (outHull n xs s) ((itemsN s).take j) 0) (bit (itemsN s)[j]) else maskL (outHull n xs s) ((itemsN s).take j) 0 := by rw [List.take_succ_eq_append_getElem hlt]; exact maskL_snoc _ _ _ _
    repeat (first
      | (refine WD_block (fun K hK => ?_))
      | (refine WD_seq (fun K hK => ?_))
      | (refine WD_region (fun K hK => ?_))
      | ((first | refine RunD_o rfl rfl rfl rfl rfl (fun X hX => ?_) | refine RunD_s rfl rfl rfl rfl (fun X hX => ?_) | refine PreD_o rfl rfl rfl rfl rfl (fun X hX => ?_) | refine WD_c rfl (fun X Y hX hY => ?_)); (try dsimp only); simp (disch := first | omega | (simp; done) | fail) [wrap64c, if_pos, if_neg, opAnd, opOr, opXor, opDiff, opShr, opBit, g_h0, hL, hgt, hg1, e1, e2, e5, e9, e10, e11, hlt, q_x, g_x, l_x, r_x, z_x]; (first | (refine hX _ _ ?hadd ?_; (case hadd => simp; done)) | refine hX _ _ ?_ | refine hX ?_ | refine hY ?_); (try clear hX X); try clear hY Y)
      | (refine RunD_nil ?_; refine hK _ _ ?_; clear hK K)
      | (refine RunD_nil ?_)
      | (refine PreD_nil ?_; refine hK _ _ ?_; clear hK K)
      | (refine WD_skip ?_)
      | (refine WD_exit ?_)
      | (refine WD_ret ?_)
      | (refine hK.1 _ _ ?_; clear hK K)
      | (refine hK.2.1 _ _ ?_; clear hK K)
      | (refine hK.2 _ _ _ ?hne ?_; (case hne => simp; done); clear hK K)
      | (refine hK.2.2 _ _ _ ?hne ?_; (case hne => simp; done); clear hK K))
    refine WD_draw 10 rfl (by kernel_rfl) (fun K hK => ?_)
    repeat (first
      | (refine WD_block (fun K hK => ?_))
      | (refine WD_seq (fun K hK => ?_))
      | (refine WD_region (fun K hK => ?_))
      | ((first | refine RunD_o rfl rfl rfl rfl rfl (fun X hX => ?_) | refine RunD_s rfl rfl rfl rfl (fun X hX => ?_) | refine PreD_o rfl rfl rfl rfl rfl (fun X hX => ?_) | refine WD_c rfl (fun X Y hX hY => ?_)); (try dsimp only); simp (disch := first | omega | (simp; done) | fail) [wrap64c, if_pos, if_neg, opAnd, opOr, opXor, opDiff, opShr, opBit, g_h0, hL, hgt, hg1, e1, e2, e5, e9, e10, e11, hlt, q_x, g_x, l_x, r_x, z_x]; (first | (refine hX _ _ ?hadd ?_; (case hadd => simp; done)) | refine hX _ _ ?_ | refine hX ?_ | refine hY ?_); (try clear hX X); try clear hY Y)
      | (refine RunD_nil ?_; refine hK _ _ ?_; clear hK K)
      | (refine RunD_nil ?_)
      | (refine PreD_nil ?_; refine hK _ _ ?_; clear hK K)
      | (refine WD_skip ?_)
      | (refine WD_exit ?_)
      | (refine WD_ret ?_)
      | (refine hK.1 _ _ ?_; clear hK K)
      | (refine hK.2.1 _ _ ?_; clear hK K)
      | (refine hK.2 _ _ _ ?hne ?_; (case hne => simp; done); clear hK K)
      | (refine hK.2.2 _ _ _ ?hne ?_; (case hne => simp; done); clear hK K))
    refine PreD_c rfl rfl rfl rfl (by simp) (by simp) ?ha (hull_ok h1 (.agg #[.int .i64 n, b]) n xs (ndiff s (bit (itemsN s)[j])) (.mk hX1) hn hx hd hl) ?hadd ?_
    (case ha => simp (disch := first | omega | (simp; done) | fail) [wrap64c, if_pos, if_neg, opAnd, opOr, opXor, opDiff, opShr, opBit, g_h0, hL, hgt, hg1, e1, e2, e5, e9, e10, e11, hlt, q_x, g_x, l_x, r_x, z_x])
    (case hadd => first | assumption | exact adds_self _ | (simp; done))
    cases hc : (hullN n xs (ndiff s (bit (itemsN s)[j]))).testBit (itemsN s)[j]
    · have ho : outHull n xs s (itemsN s)[j] = true := by simp [outHull, hc]
      have hz0 : nAnd (nShr (hullN n xs (ndiff s (bit (itemsN s)[j]))) (itemsN s)[j]) 1 = 0 := by rw [hz, hc]; rfl
      rw [if_pos ho] at hs
      repeat (first
        | (refine WD_block (fun K hK => ?_))
        | (refine WD_seq (fun K hK => ?_))
        | (refine WD_region (fun K hK => ?_))
        | ((first | refine RunD_o rfl rfl rfl rfl rfl (fun X hX => ?_) | refine RunD_s rfl rfl rfl rfl (fun X hX => ?_) | refine PreD_o rfl rfl rfl rfl rfl (fun X hX => ?_) | refine WD_c rfl (fun X Y hX hY => ?_)); (try dsimp only); simp (disch := first | omega | (simp; done) | fail) [wrap64c, if_pos, if_neg, opAnd, opOr, opXor, opDiff, opShr, opBit, g_h0, hL, hgt, hg1, e1, e2, e5, e9, e10, e11, hlt, q_x, g_x, l_x, r_x, z_x, hz0]; (first | (refine hX _ _ ?hadd ?_; (case hadd => simp; done)) | refine hX _ _ ?_ | refine hX ?_ | refine hY ?_); (try clear hX X); try clear hY Y)
        | (refine RunD_nil ?_; refine hK _ _ ?_; clear hK K)
        | (refine RunD_nil ?_)
        | (refine PreD_nil ?_; refine hK _ _ ?_; clear hK K)
        | (refine WD_skip ?_)
        | (refine WD_exit ?_)
        | (refine WD_ret ?_)
        | (refine hK.1 _ _ ?_; clear hK K)
        | (refine hK.2.1 _ _ ?_; clear hK K)
        | (refine hK.2 _ _ _ ?hne ?_; (case hne => simp; done); clear hK K)
        | (refine hK.2.2 _ _ _ ?hne ?_; (case hne => simp; done); clear hK K))
      refine hK.1 _ _ _ ?hm ?hf ⟨j + 1, rfl, rfl, (by simp [hs, e5]), (by simp (disch := first | omega | (simp; done) | fail) [wrap64c, if_pos, if_neg, opAnd, opOr, opXor, opDiff, opShr, opBit, g_h0, hL, hgt, hg1, e1, e2, e5, e9, e10, e11, hlt, q_x, g_x, l_x, r_x, z_x, hz0] <;> omega), (by first | omega | assumption | (simp (disch := first | omega | (simp; done) | fail) [wrap64c, if_pos, if_neg, opAnd, opOr, opXor, opDiff, opShr, opBit, g_h0, hL, hgt, hg1, e1, e2, e5, e9, e10, e11, hlt, q_x, g_x, l_x, r_x, z_x, hz0] <;> omega)), (by simpa [hs] using hq)⟩
      (case hm => first | omega | (simp; omega))
      (case hf => simp [FrameL, g_h0, hL, hgt, hg1, e1, e2, e5, e9, e10, e11, hlt, q_x, g_x, l_x, r_x, z_x, hz0, f1_0, f2_0, f9_0, f10_0])
    · have ho : ¬ outHull n xs s (itemsN s)[j] = true := by simp [outHull, hc]
      have hz0 : nAnd (nShr (hullN n xs (ndiff s (bit (itemsN s)[j]))) (itemsN s)[j]) 1 = 1 := by rw [hz, hc]; rfl
      rw [if_neg ho] at hs
      repeat (first
        | (refine WD_block (fun K hK => ?_))
        | (refine WD_seq (fun K hK => ?_))
        | (refine WD_region (fun K hK => ?_))
        | ((first | refine RunD_o rfl rfl rfl rfl rfl (fun X hX => ?_) | refine RunD_s rfl rfl rfl rfl (fun X hX => ?_) | refine PreD_o rfl rfl rfl rfl rfl (fun X hX => ?_) | refine WD_c rfl (fun X Y hX hY => ?_)); (try dsimp only); simp (disch := first | omega | (simp; done) | fail) [wrap64c, if_pos, if_neg, opAnd, opOr, opXor, opDiff, opShr, opBit, g_h0, hL, hgt, hg1, e1, e2, e5, e9, e10, e11, hlt, q_x, g_x, l_x, r_x, z_x, hz0]; (first | (refine hX _ _ ?hadd ?_; (case hadd => simp; done)) | refine hX _ _ ?_ | refine hX ?_ | refine hY ?_); (try clear hX X); try clear hY Y)
        | (refine RunD_nil ?_; refine hK _ _ ?_; clear hK K)
        | (refine RunD_nil ?_)
        | (refine PreD_nil ?_; refine hK _ _ ?_; clear hK K)
        | (refine WD_skip ?_)
        | (refine WD_exit ?_)
        | (refine WD_ret ?_)
        | (refine hK.1 _ _ ?_; clear hK K)
        | (refine hK.2.1 _ _ ?_; clear hK K)
        | (refine hK.2 _ _ _ ?hne ?_; (case hne => simp; done); clear hK K)
        | (refine hK.2.2 _ _ _ ?hne ?_; (case hne => simp; done); clear hK K))
      refine hK.1 _ _ _ ?hm ?hf ⟨j + 1, rfl, rfl, (by simp [hs, e5]), (by simp (disch := first | omega | (simp; done) | fail) [wrap64c, if_pos, if_neg, opAnd, opOr, opXor, opDiff, opShr, opBit, g_h0, hL, hgt, hg1, e1, e2, e5, e9, e10, e11, hlt, q_x, g_x, l_x, r_x, z_x, hz0] <;> omega), (by first | omega | assumption | (simp (disch := first | omega | (simp; done) | fail) [wrap64c, if_pos, if_neg, opAnd, opOr, opXor, opDiff, opShr, opBit, g_h0, hL, hgt, hg1, e1, e2, e5, e9, e10, e11, hlt, q_x, g_x, l_x, r_x, z_x, hz0] <;> omega)), (by simpa [hs] using hm)⟩
      (case hm => first | omega | (simp; omega))
      (case hf => simp [FrameL, g_h0, hL, hgt, hg1, e1, e2, e5, e9, e10, e11, hlt, q_x, g_x, l_x, r_x, z_x, hz0, f1_0, f2_0, f9_0, f10_0])
  · repeat (first
      | (refine WD_block (fun K hK => ?_))
      | (refine WD_seq (fun K hK => ?_))
      | (refine WD_region (fun K hK => ?_))
      | ((first | refine RunD_o rfl rfl rfl rfl rfl (fun X hX => ?_) | refine RunD_s rfl rfl rfl rfl (fun X hX => ?_) | refine PreD_o rfl rfl rfl rfl rfl (fun X hX => ?_) | refine WD_c rfl (fun X Y hX hY => ?_)); (try dsimp only); simp (disch := first | omega | (simp; done) | fail) [wrap64c, if_pos, if_neg, opAnd, opOr, opXor, opDiff, opShr, opBit, g_h0, hL, hgt, hg1, e1, e2, e5, e9, e10, e11, hlt]; (first | (refine hX _ _ ?hadd ?_; (case hadd => simp; done)) | refine hX _ _ ?_ | refine hX ?_ | refine hY ?_); (try clear hX X); try clear hY Y)
      | (refine RunD_nil ?_; refine hK _ _ ?_; clear hK K)
      | (refine RunD_nil ?_)
      | (refine PreD_nil ?_; refine hK _ _ ?_; clear hK K)
      | (refine WD_skip ?_)
      | (refine WD_exit ?_)
      | (refine WD_ret ?_)
      | (refine hK.1 _ _ ?_; clear hK K)
      | (refine hK.2.1 _ _ ?_; clear hK K)
      | (refine hK.2 _ _ _ ?hne ?_; (case hne => simp; done); clear hK K)
      | (refine hK.2.2 _ _ _ ?hne ?_; (case hne => simp; done); clear hK K))
    exact done_ret rfl (by simp [extN, List.take_of_length_le (show (itemsN s).length ≤ j by omega), k_h0.1.trans ha1.1])

/-- The free sets: first k numbers. -/
def isFreeN (n : Nat) (xs : List Nat) (a : Nat) : Bool := fam xs (ndiff (bit n - 1) a) && (outerN (fam xs) n (ndiff (bit n - 1) a) == a)
def freeK (n : Nat) (xs : List Nat) (k : Nat) : List Nat := (List.range k).filter (isFreeN n xs)
theorem freeK_succ (n : Nat) (xs : List Nat) (k : Nat) : freeK n xs (k + 1) = if isFreeN n xs k = true then freeK n xs k ++ [k] else freeK n xs k := by
  unfold freeK
  rw [List.range_succ, List.filter_append]
  by_cases h : isFreeN n xs k = true <;> simp [h]
theorem freeK_len (n : Nat) (xs : List Nat) (k : Nat) : (freeK n xs k).length ≤ k := by
  unfold freeK
  have := List.length_filter_le (isFreeN n xs) (List.range k)
  simpa using this
def freeN (n : Nat) (xs : List Nat) : List Nat := freeK n xs (bit n)
theorem freeN_lt {n : Nat} {xs : List Nat} {a : Nat} (h : a ∈ freeN n xs) : a < bit n := by
  simp only [freeN, freeK, List.mem_filter, List.mem_range] at h; exact h.1

theorem alFree_ok (h : Hp) (v : Value) (n : Nat) (xs : List Nat) (hv : Space h v n (toN xs)) (hn : n ≤ 7) (hl : xs.length < 2 ^ 40) (hsrt : xs.Pairwise (· < ·)) :
    ∃ v' h', CallOK Try.prog 71 #[v] h v' h' ∧ Adds h h' ∧ IntsO (Btw h.next h'.next) h' v' (toN (freeN n xs)) := by
  refine call_L (args := [v]) 35 _ [.tmp 2] Try.func71 rfl rfl rfl ?_
  obtain ⟨b, rfl, hX⟩ := hv
  repeat (first
    | (refine WD_block (fun K hK => ?_))
    | (refine WD_seq (fun K hK => ?_)))
  refine WD_region (fun K hK => ?_)
  repeat (first
    | ((first | refine RunD_o rfl rfl rfl rfl rfl (fun X hX => ?_) | refine RunD_s rfl rfl rfl rfl (fun X hX => ?_) | refine RunD_g rfl rfl rfl rfl rfl rfl rfl (fun X Y hX hY => ?_) | refine RunD_gc rfl rfl rfl rfl rfl rfl (fun Y hY => ?_) | refine WD_c rfl (fun X Y hX hY => ?_)); (try dsimp only); simp (disch := first | omega | (simp; done) | fail) [wrap64c, if_pos, if_neg, opAnd, opOr, opXor, opDiff, opShr, opBit]; (first | refine hX _ _ ?_ | refine hX ?_ | refine hY ?_); (try clear hX X); try clear hY Y))
  refine RunD_heap fun h0 q_h0 => ?_
  have g_h0 : h0.get h.next = .cells [.int .i64 n, b] true true 1 := by simp [q_h0]
  have k_h0 : Adds h h0 := by rw [q_h0]; exact (by repeat (first | exact keep_self _ | exact adds_self _ | assumption | exact Adds.keeps (by assumption) | refine keeps_alloc ?_ _ | refine adds_alloc ?_ _ _ _ | refine adds_allocM ?_ _ | (refine keeps_put ?_ ?hle _; (case hle => first | omega | (simp; done) | (simp; omega))) | (refine adds_put ?_ ?hle _ _ _; (case hle => first | omega | (simp; done) | (simp; omega)))))
  have n_h0 : h.next < h0.next := by simp [q_h0]; try omega
  have hX0 := hX.keep k_h0.1
  have hb7 := bit7 hn
  repeat (first
    | (refine WD_block (fun K hK => ?_))
    | (refine WD_seq (fun K hK => ?_))
    | (refine WD_region (fun K hK => ?_))
    | ((first | refine RunD_o rfl rfl rfl rfl rfl (fun X hX => ?_) | refine RunD_s rfl rfl rfl rfl (fun X hX => ?_) | refine RunD_g rfl rfl rfl rfl rfl rfl rfl (fun X Y hX hY => ?_) | refine RunD_gc rfl rfl rfl rfl rfl rfl (fun Y hY => ?_) | refine WD_c rfl (fun X Y hX hY => ?_)); (try dsimp only); simp (disch := first | omega | (simp; done) | fail) [wrap64c, if_pos, if_neg, opAnd, opOr, opXor, opDiff, opShr, opBit, g_h0]; (first | refine hX _ _ ?_ | refine hX ?_ | refine hY ?_); (try clear hX X); try clear hY Y)
    | (refine RunD_nil ?_; refine hK _ _ ?_; clear hK K)
    | (refine RunD_nil ?_)
    | (refine WD_skip ?_)
    | (refine WD_exit ?_)
    | (refine WD_ret ?_)
    | (refine hK.1 _ _ ?_; clear hK K)
    | (refine hK.2.1 _ _ ?_; clear hK K)
    | (refine hK.2 _ _ _ ?hne ?_; (case hne => simp; done); clear hK K)
    | (refine hK.2.2 _ _ _ ?hne ?_; (case hne => simp; done); clear hK K))
  refine WD_loopF [1, 4] (fun m tm h' => ∃ k u, m = bit n - k ∧ tm 3 = u ∧ tm 5 = .int .i64 (k : Int) ∧ (k ≤ bit n) ∧ (Adds h h') ∧ (Keeps h0 h') ∧ (h'.get h.next = .cells [.int .i64 n, b] true true 1) ∧ (IntsA h0.next h' u (toN (freeK n xs k)))) _ ⟨0, .slice none 0 0, rfl, (by simp (disch := first | omega | (simp; done) | fail) [wrap64c, if_pos, if_neg, opAnd, opOr, opXor, opDiff, opShr, opBit, g_h0]), (by simp (disch := first | omega | (simp; done) | fail) [wrap64c, if_pos, if_neg, opAnd, opOr, opXor, opDiff, opShr, opBit, g_h0]), (by first | omega | assumption | (simp (disch := first | omega | (simp; done) | fail) [wrap64c, if_pos, if_neg, opAnd, opOr, opXor, opDiff, opShr, opBit, g_h0] <;> omega)), (by repeat (first | exact keep_self _ | exact adds_self _ | assumption | exact Adds.keeps (by assumption) | refine keeps_alloc ?_ _ | refine adds_alloc ?_ _ _ _ | refine adds_allocM ?_ _ | (refine keeps_put ?_ ?hle _; (case hle => first | omega | (simp; done) | (simp; omega))) | (refine adds_put ?_ ?hle _ _ _; (case hle => first | omega | (simp; done) | (simp; omega))))), (by simp), (by simp [g_h0]), (by simp [freeK, toN]; exact IntsA.nil _ _)⟩ ?_
  rintro m tm h' hFr ⟨k, u, rfl, e3, e5, hk, ha, ha0, hg, hu⟩ K hK
  simp only [FrameL] at hFr
  obtain ⟨f1_0, f4_0, -⟩ := hFr
  try simp (disch := first | omega | (simp; done) | fail) [wrap64c, if_pos, if_neg, opAnd, opOr, opXor, opDiff, opShr, opBit, g_h0] at f1_0 f4_0
  have e1 := f1_0
  have e4 := f4_0
  by_cases hlt : k < bit n
  · have hs := freeK_succ n xs k
    have hd := ndiff128 (a := bit n - 1) (b := k) (by omega)
    have hX1 := hX0.keep ha0
    repeat (first
      | (refine WD_block (fun K hK => ?_))
      | (refine WD_seq (fun K hK => ?_))
      | (refine WD_region (fun K hK => ?_))
      | ((first | refine RunD_o rfl rfl rfl rfl rfl (fun X hX => ?_) | refine RunD_s rfl rfl rfl rfl (fun X hX => ?_) | refine RunD_g rfl rfl rfl rfl rfl rfl rfl (fun X Y hX hY => ?_) | refine RunD_gc rfl rfl rfl rfl rfl rfl (fun Y hY => ?_) | refine WD_c rfl (fun X Y hX hY => ?_)); (try dsimp only); simp (disch := first | omega | (simp; done) | fail) [wrap64c, if_pos, if_neg, opAnd, opOr, opXor, opDiff, opShr, opBit, g_h0, e1, e3, e4, e5, hg, hlt]; (first | refine hX _ _ ?_ | refine hX ?_ | refine hY ?_); (try clear hX X); try clear hY Y)
      | (refine RunD_nil ?_; refine hK _ _ ?_; clear hK K)
      | (refine RunD_nil ?_)
      | (refine WD_skip ?_)
      | (refine WD_exit ?_)
      | (refine WD_ret ?_)
      | (refine hK.1 _ _ ?_; clear hK K)
      | (refine hK.2.1 _ _ ?_; clear hK K)
      | (refine hK.2 _ _ _ ?hne ?_; (case hne => simp; done); clear hK K)
      | (refine hK.2.2 _ _ _ ?hne ?_; (case hne => simp; done); clear hK K))
    refine RunD_c rfl rfl rfl rfl (by simp) (by simp) ?ha (spHasN_ok h' b xs (ndiff (bit n - 1) k) hX1 hl hsrt) ?_
    (case ha => simp (disch := first | omega | (simp; done) | fail) [wrap64c, if_pos, if_neg, opAnd, opOr, opXor, opDiff, opShr, opBit, g_h0, e1, e3, e4, e5, hg, hlt])
    cases hc : fam xs (ndiff (bit n - 1) k)
    · have hf : ¬ isFreeN n xs k = true := by simp [isFreeN, hc]
      rw [if_neg hf] at hs
      repeat (first
        | (refine WD_block (fun K hK => ?_))
        | (refine WD_seq (fun K hK => ?_))
        | (refine WD_region (fun K hK => ?_))
        | ((first | refine RunD_o rfl rfl rfl rfl rfl (fun X hX => ?_) | refine RunD_s rfl rfl rfl rfl (fun X hX => ?_) | refine RunD_g rfl rfl rfl rfl rfl rfl rfl (fun X Y hX hY => ?_) | refine RunD_gc rfl rfl rfl rfl rfl rfl (fun Y hY => ?_) | refine WD_c rfl (fun X Y hX hY => ?_)); (try dsimp only); simp (disch := first | omega | (simp; done) | fail) [wrap64c, if_pos, if_neg, opAnd, opOr, opXor, opDiff, opShr, opBit, g_h0, e1, e3, e4, e5, hg, hlt, hc]; (first | refine hX _ _ ?_ | refine hX ?_ | refine hY ?_); (try clear hX X); try clear hY Y)
        | (refine RunD_nil ?_; refine hK _ _ ?_; clear hK K)
        | (refine RunD_nil ?_)
        | (refine WD_skip ?_)
        | (refine WD_exit ?_)
        | (refine WD_ret ?_)
        | (refine hK.1 _ _ ?_; clear hK K)
        | (refine hK.2.1 _ _ ?_; clear hK K)
        | (refine hK.2 _ _ _ ?hne ?_; (case hne => simp; done); clear hK K)
        | (refine hK.2.2 _ _ _ ?hne ?_; (case hne => simp; done); clear hK K))
      refine hK.1 _ _ _ ?hm ?hf ⟨k + 1, u, rfl, (by simp (disch := first | omega | (simp; done) | fail) [wrap64c, if_pos, if_neg, opAnd, opOr, opXor, opDiff, opShr, opBit, g_h0, e1, e3, e4, e5, hg, hlt, hc] <;> omega), (by simp (disch := first | omega | (simp; done) | fail) [wrap64c, if_pos, if_neg, opAnd, opOr, opXor, opDiff, opShr, opBit, g_h0, e1, e3, e4, e5, hg, hlt, hc] <;> omega), (by first | omega | assumption | (simp (disch := first | omega | (simp; done) | fail) [wrap64c, if_pos, if_neg, opAnd, opOr, opXor, opDiff, opShr, opBit, g_h0, e1, e3, e4, e5, hg, hlt, hc] <;> omega)), (by first | omega | assumption | (simp (disch := first | omega | (simp; done) | fail) [wrap64c, if_pos, if_neg, opAnd, opOr, opXor, opDiff, opShr, opBit, g_h0, e1, e3, e4, e5, hg, hlt, hc] <;> omega)), (by first | omega | assumption | (simp (disch := first | omega | (simp; done) | fail) [wrap64c, if_pos, if_neg, opAnd, opOr, opXor, opDiff, opShr, opBit, g_h0, e1, e3, e4, e5, hg, hlt, hc] <;> omega)), (by first | omega | assumption | (simp (disch := first | omega | (simp; done) | fail) [wrap64c, if_pos, if_neg, opAnd, opOr, opXor, opDiff, opShr, opBit, g_h0, e1, e3, e4, e5, hg, hlt, hc] <;> omega)), (by rw [hs]; exact hu)⟩
      (case hm => first | omega | (simp; omega))
      (case hf => simp [FrameL, g_h0, e1, e3, e4, e5, hg, hlt, hc, f1_0, f4_0])
    · repeat (first
        | (refine WD_block (fun K hK => ?_))
        | (refine WD_seq (fun K hK => ?_))
        | (refine WD_region (fun K hK => ?_))
        | ((first | refine RunD_o rfl rfl rfl rfl rfl (fun X hX => ?_) | refine RunD_s rfl rfl rfl rfl (fun X hX => ?_) | refine RunD_g rfl rfl rfl rfl rfl rfl rfl (fun X Y hX hY => ?_) | refine RunD_gc rfl rfl rfl rfl rfl rfl (fun Y hY => ?_) | refine WD_c rfl (fun X Y hX hY => ?_)); (try dsimp only); simp (disch := first | omega | (simp; done) | fail) [wrap64c, if_pos, if_neg, opAnd, opOr, opXor, opDiff, opShr, opBit, g_h0, e1, e3, e4, e5, hg, hlt, hc]; (first | refine hX _ _ ?_ | refine hX ?_ | refine hY ?_); (try clear hX X); try clear hY Y)
        | (refine RunD_nil ?_; refine hK _ _ ?_; clear hK K)
        | (refine RunD_nil ?_)
        | (refine WD_skip ?_)
        | (refine WD_exit ?_)
        | (refine WD_ret ?_)
        | (refine hK.1 _ _ ?_; clear hK K)
        | (refine hK.2.1 _ _ ?_; clear hK K)
        | (refine hK.2 _ _ _ ?hne ?_; (case hne => simp; done); clear hK K)
        | (refine hK.2.2 _ _ _ ?hne ?_; (case hne => simp; done); clear hK K))
      refine RunD_cT rfl rfl rfl rfl rfl rfl ?hb (by simp) (by simp) ?ha (spOuter_ok h' (.agg #[.int .i64 n, b]) n xs (ndiff (bit n - 1) k) (.mk hX1) hn hl hsrt hd) ?_
      (case hb => simp (disch := first | omega | (simp; done) | fail) [wrap64c, if_pos, if_neg, opAnd, opOr, opXor, opDiff, opShr, opBit, g_h0, e1, e3, e4, e5, hg, hlt, hc])
      (case ha => simp (disch := first | omega | (simp; done) | fail) [wrap64c, if_pos, if_neg, opAnd, opOr, opXor, opDiff, opShr, opBit, g_h0, e1, e3, e4, e5, hg, hlt, hc])
      by_cases hc2 : outerN (fam xs) n (ndiff (bit n - 1) k) = k
      · have hf : isFreeN n xs k = true := by simp [isFreeN, hc, hc2]
        rw [if_pos hf] at hs
        repeat (first
          | (refine WD_block (fun K hK => ?_))
          | (refine WD_seq (fun K hK => ?_))
          | (refine WD_region (fun K hK => ?_))
          | ((first | refine RunD_o rfl rfl rfl rfl rfl (fun X hX => ?_) | refine RunD_s rfl rfl rfl rfl (fun X hX => ?_) | refine RunD_g rfl rfl rfl rfl rfl rfl rfl (fun X Y hX hY => ?_) | refine RunD_gc rfl rfl rfl rfl rfl rfl (fun Y hY => ?_) | refine WD_c rfl (fun X Y hX hY => ?_)); (try dsimp only); simp (disch := first | omega | (simp; done) | fail) [wrap64c, if_pos, if_neg, opAnd, opOr, opXor, opDiff, opShr, opBit, g_h0, e1, e3, e4, e5, hg, hlt, hc, hc2]; (first | refine hX _ _ ?_ | refine hX ?_ | refine hY ?_); (try clear hX X); try clear hY Y)
          | (refine RunD_nil ?_; refine hK _ _ ?_; clear hK K)
          | (refine RunD_nil ?_)
          | (refine WD_skip ?_)
          | (refine WD_exit ?_)
          | (refine WD_ret ?_)
          | (refine hK.1 _ _ ?_; clear hK K)
          | (refine hK.2.1 _ _ ?_; clear hK K)
          | (refine hK.2 _ _ _ ?hne ?_; (case hne => simp; done); clear hK K)
          | (refine hK.2.2 _ _ _ ?hne ?_; (case hne => simp; done); clear hK K))
        have hle := freeK_len n xs k
        obtain ⟨u2, h2, hap, hu2, ha2, hn2, hs2⟩ := appI hu (k : Int) (by simp; omega) ha0.1 ha (by omega)
        repeat (first
          | (refine WD_block (fun K hK => ?_))
          | (refine WD_seq (fun K hK => ?_))
          | (refine WD_region (fun K hK => ?_))
          | ((first | refine RunD_o rfl rfl rfl rfl rfl (fun X hX => ?_) | refine RunD_s rfl rfl rfl rfl (fun X hX => ?_) | refine RunD_g rfl rfl rfl rfl rfl rfl rfl (fun X Y hX hY => ?_) | refine RunD_gc rfl rfl rfl rfl rfl rfl (fun Y hY => ?_) | refine WD_c rfl (fun X Y hX hY => ?_)); (try dsimp only); simp (disch := first | omega | (simp; done) | fail) [wrap64c, if_pos, if_neg, opAnd, opOr, opXor, opDiff, opShr, opBit, g_h0, e1, e3, e4, e5, hg, hlt, hc, hc2, hap]; (first | refine hX _ _ ?_ | refine hX ?_ | refine hY ?_); (try clear hX X); try clear hY Y)
          | (refine RunD_nil ?_; refine hK _ _ ?_; clear hK K)
          | (refine RunD_nil ?_)
          | (refine WD_skip ?_)
          | (refine WD_exit ?_)
          | (refine WD_ret ?_)
          | (refine hK.1 _ _ ?_; clear hK K)
          | (refine hK.2.1 _ _ ?_; clear hK K)
          | (refine hK.2 _ _ _ ?hne ?_; (case hne => simp; done); clear hK K)
          | (refine hK.2.2 _ _ _ ?hne ?_; (case hne => simp; done); clear hK K))
        refine hK.1 _ _ _ ?hm ?hf ⟨k + 1, u2, rfl, (by simp (disch := first | omega | (simp; done) | fail) [wrap64c, if_pos, if_neg, opAnd, opOr, opXor, opDiff, opShr, opBit, g_h0, e1, e3, e4, e5, hg, hlt, hc, hc2] <;> omega), (by simp (disch := first | omega | (simp; done) | fail) [wrap64c, if_pos, if_neg, opAnd, opOr, opXor, opDiff, opShr, opBit, g_h0, e1, e3, e4, e5, hg, hlt, hc, hc2] <;> omega), (by first | omega | assumption | (simp (disch := first | omega | (simp; done) | fail) [wrap64c, if_pos, if_neg, opAnd, opOr, opXor, opDiff, opShr, opBit, g_h0, e1, e3, e4, e5, hg, hlt, hc, hc2] <;> omega)), (by first | omega | assumption | (simp (disch := first | omega | (simp; done) | fail) [wrap64c, if_pos, if_neg, opAnd, opOr, opXor, opDiff, opShr, opBit, g_h0, e1, e3, e4, e5, hg, hlt, hc, hc2] <;> omega)), ⟨by have := ha0.1; omega, fun o ho => (hs2 o (by have := ha0.1; omega) ho).trans (ha0.2 o ho)⟩, ((hs2 h.next (by have := ha0.1; omega) (by omega)).trans hg), (by rw [hs, toN_snoc]; exact hu2)⟩
        (case hm => first | omega | (simp; omega))
        (case hf => simp [FrameL, g_h0, e1, e3, e4, e5, hg, hlt, hc, hc2, f1_0, f4_0])
      · have hf : ¬ isFreeN n xs k = true := by simp [isFreeN, hc, hc2]
        rw [if_neg hf] at hs
        have hci : ¬ ((outerN (fam xs) n (ndiff (bit n - 1) k) : Nat) : Int) = (k : Int) := by omega
        repeat (first
          | (refine WD_block (fun K hK => ?_))
          | (refine WD_seq (fun K hK => ?_))
          | (refine WD_region (fun K hK => ?_))
          | ((first | refine RunD_o rfl rfl rfl rfl rfl (fun X hX => ?_) | refine RunD_s rfl rfl rfl rfl (fun X hX => ?_) | refine RunD_g rfl rfl rfl rfl rfl rfl rfl (fun X Y hX hY => ?_) | refine RunD_gc rfl rfl rfl rfl rfl rfl (fun Y hY => ?_) | refine WD_c rfl (fun X Y hX hY => ?_)); (try dsimp only); simp (disch := first | omega | (simp; done) | fail) [wrap64c, if_pos, if_neg, opAnd, opOr, opXor, opDiff, opShr, opBit, g_h0, e1, e3, e4, e5, hg, hlt, hc, hc2, hci]; (first | refine hX _ _ ?_ | refine hX ?_ | refine hY ?_); (try clear hX X); try clear hY Y)
          | (refine RunD_nil ?_; refine hK _ _ ?_; clear hK K)
          | (refine RunD_nil ?_)
          | (refine WD_skip ?_)
          | (refine WD_exit ?_)
          | (refine WD_ret ?_)
          | (refine hK.1 _ _ ?_; clear hK K)
          | (refine hK.2.1 _ _ ?_; clear hK K)
          | (refine hK.2 _ _ _ ?hne ?_; (case hne => simp; done); clear hK K)
          | (refine hK.2.2 _ _ _ ?hne ?_; (case hne => simp; done); clear hK K))
        refine hK.1 _ _ _ ?hm ?hf ⟨k + 1, u, rfl, (by simp (disch := first | omega | (simp; done) | fail) [wrap64c, if_pos, if_neg, opAnd, opOr, opXor, opDiff, opShr, opBit, g_h0, e1, e3, e4, e5, hg, hlt, hc, hc2, hci] <;> omega), (by simp (disch := first | omega | (simp; done) | fail) [wrap64c, if_pos, if_neg, opAnd, opOr, opXor, opDiff, opShr, opBit, g_h0, e1, e3, e4, e5, hg, hlt, hc, hc2, hci] <;> omega), (by first | omega | assumption | (simp (disch := first | omega | (simp; done) | fail) [wrap64c, if_pos, if_neg, opAnd, opOr, opXor, opDiff, opShr, opBit, g_h0, e1, e3, e4, e5, hg, hlt, hc, hc2, hci] <;> omega)), (by first | omega | assumption | (simp (disch := first | omega | (simp; done) | fail) [wrap64c, if_pos, if_neg, opAnd, opOr, opXor, opDiff, opShr, opBit, g_h0, e1, e3, e4, e5, hg, hlt, hc, hc2, hci] <;> omega)), (by first | omega | assumption | (simp (disch := first | omega | (simp; done) | fail) [wrap64c, if_pos, if_neg, opAnd, opOr, opXor, opDiff, opShr, opBit, g_h0, e1, e3, e4, e5, hg, hlt, hc, hc2, hci] <;> omega)), (by first | omega | assumption | (simp (disch := first | omega | (simp; done) | fail) [wrap64c, if_pos, if_neg, opAnd, opOr, opXor, opDiff, opShr, opBit, g_h0, e1, e3, e4, e5, hg, hlt, hc, hc2, hci] <;> omega)), (by rw [hs]; exact hu)⟩
        (case hm => first | omega | (simp; omega))
        (case hf => simp [FrameL, g_h0, e1, e3, e4, e5, hg, hlt, hc, hc2, hci, f1_0, f4_0])
  · repeat (first
      | (refine WD_block (fun K hK => ?_))
      | (refine WD_seq (fun K hK => ?_))
      | (refine WD_region (fun K hK => ?_))
      | ((first | refine RunD_o rfl rfl rfl rfl rfl (fun X hX => ?_) | refine RunD_s rfl rfl rfl rfl (fun X hX => ?_) | refine RunD_g rfl rfl rfl rfl rfl rfl rfl (fun X Y hX hY => ?_) | refine RunD_gc rfl rfl rfl rfl rfl rfl (fun Y hY => ?_) | refine WD_c rfl (fun X Y hX hY => ?_)); (try dsimp only); simp (disch := first | omega | (simp; done) | fail) [wrap64c, if_pos, if_neg, opAnd, opOr, opXor, opDiff, opShr, opBit, g_h0, e1, e3, e4, e5, hg, hlt]; (first | refine hX _ _ ?_ | refine hX ?_ | refine hY ?_); (try clear hX X); try clear hY Y)
      | (refine RunD_nil ?_; refine hK _ _ ?_; clear hK K)
      | (refine RunD_nil ?_)
      | (refine WD_skip ?_)
      | (refine WD_exit ?_)
      | (refine WD_ret ?_)
      | (refine hK.1 _ _ ?_; clear hK K)
      | (refine hK.2.1 _ _ ?_; clear hK K)
      | (refine hK.2 _ _ _ ?hne ?_; (case hne => simp; done); clear hK K)
      | (refine hK.2.2 _ _ _ ?hne ?_; (case hne => simp; done); clear hK K))
    have e : k = bit n := by omega
    subst e
    have hle := freeK_len n xs (bit n)
    exact done_ret rfl ⟨ha, (hu.own (by simp; omega)).sub fun o ho => ⟨by have := ho.1; omega, ho.2⟩⟩
end Go.Proofs.Ytpehnhjgdgnnkaa
