/- Ranks of spaces; spaces with a rank: by both sides. -/
import Derived.Test.YtnjabaeajjhliaaT19
namespace Go.Proofs.Ytnjabaeajjhliaa
set_option linter.unusedSimpArgs false
set_option linter.unusedVariables false
set_option maxHeartbeats 4000000
open Go Go.Eng
attribute [local irreducible] WD RunD PreD Runs CallOK

theorem famL_of {n : Nat} {xs : List Nat} (g : SpGood n xs) : ∃ m, m < 2 ^ (bit n - 2) ∧ famL n m = xs := by
  have hb : 2 ≤ bit n := bit_mono (i := 1) g.n1
  refine ⟨maskN (fun i => fam xs (i + 1)) (bit n - 2), maskN_lt _ _, srt_ext (famL_srt g.n1) g.srt fun x => ?_⟩
  simp only [famL, List.mem_cons, List.mem_append, List.not_mem_nil, or_false, mem_famS, maskN_bit]
  constructor
  · rintro (rfl | ⟨y, rfl, h1, h2⟩ | rfl)
    · exact g.zero
    · simp [h1, fam] at h2; exact h2
    · exact g.full
  · intro hx
    have hl := g.lt x hx
    by_cases h0 : x = 0
    · exact .inl h0
    · by_cases h1 : x = bit n - 1
      · exact .inr (.inr h1)
      · refine .inr (.inl ⟨x - 1, by omega, by omega, ?_⟩)
        simp only [show x - 1 < bit n - 2 by omega, decide_true, Bool.true_and]
        rw [show x - 1 + 1 = x by omega]
        simpa [fam] using hx
theorem spacesL_has {n : Nat} {xs : List Nat} (g : SpGood n xs) : xs ∈ spacesL n := spacesL_mem.2 (candK_mem.2 ⟨famL_of g, spB_of g⟩)
theorem spacesL_nodup {n : Nat} (hn : 1 ≤ n) : (spacesL n).Nodup := (List.mergeSort_perm _ _).nodup_iff.2 (candK_nodup hn (Nat.le_refl _))

noncomputable def rankR (N : Int) (X : List Int) : Int := if spB N X = true ∧ N ≤ 3 then ((spacesL N.toNat).idxOf (natsOf X) : Int) else 0
theorem idx_at {L : List (List Nat)} {x : List Nat} {j : Nat} (hn : L.Nodup) (hj : j < L.length) (h : L[j] = x) : L.idxOf x = j := by
  have hm : x ∈ L := h ▸ List.getElem_mem hj
  have h1 := List.getElem_idxOf (List.idxOf_lt_length_iff.2 hm)
  exact nodup_ix hn _ hj (by rw [h1, h])

theorem rankFn_ok (h : Hp) (q n : Nat) (b : Value) (X : List Int) (w : Value) (y : List Nat) (hg : h.get q = .cells [.int .i64 (n : Int), b] true true 1) (hq : q < h.next) (hX : Ints h b X) (hw : Ints h w (toN y)) :
    CallOK Try.prog 73 #[.agg #[.int .i64 (n : Int), w], .pointer (some ⟨q, 0, none⟩)] h (.bool (cmpL X (toN y) == 0)) h := by
  refine callY_P 8 _ [.tmp 3] Try.func73 rfl rfl rfl (by first | rfl | simp) ?_
  have hg1 := hg
  try simp (disch := first | omega | (simp; done) | fail) [wrap64c, if_pos, if_neg, opAnd, opOr, opXor, opDiff, opShr, opBit, hg1]
  first | refine WY_heap fun h0 q_h0 => ?_ | refine callG_heap fun h0 q_h0 => ?_ | refine callP_heap fun h0 q_h0 => ?_ | refine RY_heap fun h0 q_h0 => ?_ | refine PY_heap fun h0 q_h0 => ?_ | refine doneY_heap fun h0 q_h0 => ?_ | refine loopK_heap fun h0 q_h0 => ?_ | refine thenY_heap fun h0 q_h0 => ?_ | refine thenM_heap fun h0 q_h0 => ?_
  have k0 : Adds h h0 := by rw [q_h0]; exact (by first | exact aK | exact kK)
  have hg2 : h0.get q = .cells [.int .i64 (n : Int), b] true true 1 := by rw [k0.1.2 q hq]; exact hg
  have hg3 : h0.get h.next = .cells [.int .i64 (n : Int), w] true true 1 := by simp [q_h0]
  try simp (disch := first | omega | (simp; done) | fail) [wrap64c, if_pos, if_neg, opAnd, opOr, opXor, opDiff, opShr, opBit, hg1, hg2, hg3]
  refine callG_c (by simp) (by simp) ?ha (compare_ok h0 (.agg #[.int .i64 (n : Int), b]) (.agg #[.int .i64 (n : Int), w]) n n X (toN y) (.mk (hX.keep k0.1)) (.mk (hw.keep k0.1))) ?_
  (case ha => simp (disch := first | omega | (simp; done) | fail) [wrap64c, if_pos, if_neg, opAnd, opOr, opXor, opDiff, opShr, opBit, hg1, hg2, hg3])
  try simp (disch := first | omega | (simp; done) | fail) [wrap64c, if_pos, if_neg, opAnd, opOr, opXor, opDiff, opShr, opBit, hg1, hg2, hg3]
  exact done_ret rfl (by simp [k0.1])

theorem spIndex_ok (h : Hp) (q n m : Nat) (b v : Value) (xs : List Nat) (L : List (List Nat)) (hg : h.get q = .cells [.int .i64 (n : Int), b] true true 1) (hq : q < h.next) (hX : Ints h b (toN xs)) (hG : GL 2 (spO n) m h v L) (hn : L.Nodup) (hm : xs ∈ L) (hl : L.length < 2 ^ 40) :
    CallOK Try.prog 72 #[v, .func (.func 73) #[] #[.pointer (some ⟨q, 0, none⟩)]] h (.int .i64 (L.idxOf xs : Int)) h := by
  refine callY_P 19 _ [.tmp 4] Try.func72 rfl rfl rfl (by first | rfl | simp) ?_
  have hL := hG.lenD
  try simp (disch := first | omega | (simp; done) | fail) [wrap64c, if_pos, if_neg, opAnd, opOr, opXor, opDiff, opShr, opBit, hL]
  refine WD_loopC [0, 1, 7] (fun m tm h' => ∃ j, m = L.length - j ∧ h = h' ∧ tm 8 = .int .i64 (j : Int) ∧ (j ≤ L.length) ∧ (∀ i (hi : i < L.length), i < j → L[i] ≠ xs)) _ ⟨0, rfl, rfl, (by simp (disch := first | omega | (simp; done) | fail) [wrap64c, if_pos, if_neg, opAnd, opOr, opXor, opDiff, opShr, opBit, hL]), (by first | omega | assumption | (simp (disch := first | omega | (simp; done) | fail) [wrap64c, if_pos, if_neg, opAnd, opOr, opXor, opDiff, opShr, opBit, hL] <;> omega)), (by intro i h1 h2; omega)⟩ ?_
  rintro m tm h' hFr ⟨j, rfl, rfl, e8, hj, hx⟩
  simp only [FrameL] at hFr
  obtain ⟨f0_0, f1_0, f7_0, -⟩ := hFr
  try simp (disch := first | omega | (simp; done) | fail) [wrap64c, if_pos, if_neg, opAnd, opOr, opXor, opDiff, opShr, opBit, hL] at f0_0 f1_0 f7_0
  have e0 := f0_0
  have e1 := f1_0
  have e7 := f7_0
  by_cases hlt : j < L.length
  · obtain ⟨o, cs, ex, w, y1, y2, y3, y4, y5, y6⟩ := spG_at hG hlt
    have y1' := y1
    try simp (disch := first | omega | (simp; done) | fail) [wrap64c, if_pos, if_neg, opAnd, opOr, opXor, opDiff, opShr, opBit, hL, e0, e1, e7, e8, hlt, y1', y3, y4, y5]
    refine callG_f (fst := #[]) (cap := #[.pointer (some ⟨q, 0, none⟩)]) (by simp) (by simp) ?hf ?hk ?ha (rankFn_ok h q n b (toN xs) w L[j] hg hq hX y6.ints) ?_
    (case hf => simp (disch := first | omega | (simp; done) | fail) [wrap64c, if_pos, if_neg, opAnd, opOr, opXor, opDiff, opShr, opBit, hL, e0, e1, e7, e8, hlt, y1', y3, y4, y5]; try rfl)
    (case hk => simp (disch := first | omega | (simp; done) | fail) [wrap64c, if_pos, if_neg, opAnd, opOr, opXor, opDiff, opShr, opBit, hL, e0, e1, e7, e8, hlt, y1', y3, y4, y5])
    (case ha => simp (disch := first | omega | (simp; done) | fail) [wrap64c, if_pos, if_neg, opAnd, opOr, opXor, opDiff, opShr, opBit, hL, e0, e1, e7, e8, hlt, y1', y3, y4, y5])
    by_cases hc : L[j] = xs
    · have hz : cmpL (toN xs) (toN L[j]) = 0 := by rw [cmpL_zero, hc]
      have hi := idx_at hn hlt hc
      try simp (disch := first | omega | (simp; done) | fail) [wrap64c, if_pos, if_neg, opAnd, opOr, opXor, opDiff, opShr, opBit, hL, e0, e1, e7, e8, hlt, y1', y3, y4, y5, hz]
      exact done_ret rfl (by simp [hi])
    · have hz : (cmpL (toN xs) (toN L[j]) == 0) = false := by
        have : ¬ cmpL (toN xs) (toN L[j]) = 0 := by rw [cmpL_zero, toN_inj]; exact fun e => hc e.symm
        simp [this]
      try simp (disch := first | omega | (simp; done) | fail) [wrap64c, if_pos, if_neg, opAnd, opOr, opXor, opDiff, opShr, opBit, hL, e0, e1, e7, e8, hlt, y1', y3, y4, y5, hz]
      refine loopK_next _ ?hm ?hf ⟨j + 1, rfl, rfl, (by simp (disch := first | omega | (simp; done) | fail) [wrap64c, if_pos, if_neg, opAnd, opOr, opXor, opDiff, opShr, opBit, hL, e0, e1, e7, e8, hlt, y1', y3, y4, y5] <;> omega), (by first | omega | assumption | (simp (disch := first | omega | (simp; done) | fail) [wrap64c, if_pos, if_neg, opAnd, opOr, opXor, opDiff, opShr, opBit, hL, e0, e1, e7, e8, hlt, y1', y3, y4, y5] <;> omega)), ?c_hx⟩
      (case hm => first | omega | (simp; omega))
      (case hf => simp [FrameL, hL, e0, e1, e7, e8, hlt, y1', y3, y4, y5, f0_0, f1_0, f7_0])
      case c_hx =>
        exact (fun i h1 hi => by
          by_cases e : i = j
          · subst e; exact hc
          · exact hx i h1 (by omega))
  · obtain ⟨i, hi, e⟩ := List.mem_iff_getElem.1 hm
    exact absurd e (hx i hi (by omega))

theorem implRank_ok (h : Hp) (v : Value) (N : Int) (X : List Int) (hv : Space h v N X) (hl : X.length < 2 ^ 40) :
    CallOK Try.prog 30 #[v] h (.tuple #[.int .i64 (rankR N X), .bool (spB N X && decide (N ≤ 3))]) h := by
  by_cases c1 : spB N X = true
  case neg =>
    refine callY_P 17 _ [.tmp 2, .tmp 3] Try.func30 rfl rfl rfl (by first | rfl | simp) ?_
    obtain ⟨b, rfl, hX⟩ := hv
    have c1' : spB N X = false := by simpa using c1
    refine WD_first ?_
    try simp (disch := first | omega | (simp; done) | fail) [wrap64c, if_pos, if_neg, opAnd, opOr, opXor, opDiff, opShr, opBit, c1']
    refine stopK_heap fun h0 q_h0 => ?_
    refine stopK_go ?_
    have g_h0 : h0.get h.next = .cells [.int .i64 N, b] true true 1 := by simp [q_h0]
    have k_h0 : Adds h h0 := by rw [q_h0]; exact (by first | exact aK | exact kK)
    have n_h0 : h.next < h0.next := by simp [q_h0]; try omega
    try simp (disch := first | omega | (simp; done) | fail) [wrap64c, if_pos, if_neg, opAnd, opOr, opXor, opDiff, opShr, opBit, c1', g_h0]
    refine callG_c (by simp) (by simp) ?ha (isSpace_ok h0 (.agg #[.int .i64 N, b]) N X (.mk (hX.keep k_h0.1)) hl) ?_
    (case ha => simp (disch := first | omega | (simp; done) | fail) [wrap64c, if_pos, if_neg, opAnd, opOr, opXor, opDiff, opShr, opBit, c1', g_h0])
    try simp (disch := first | omega | (simp; done) | fail) [wrap64c, if_pos, if_neg, opAnd, opOr, opXor, opDiff, opShr, opBit, c1', g_h0]
    exact done_ret rfl (by simp [c1', rankR, k_h0.1])
  obtain ⟨n, xs, rfl, rfl, g⟩ := spB_true c1
  refine callY_P 17 _ [.tmp 2, .tmp 3] Try.func30 rfl rfl rfl (by first | rfl | simp) ?_
  obtain ⟨b, rfl, hX⟩ := hv
  have c1' := c1
  refine WD_first ?_
  try simp (disch := first | omega | (simp; done) | fail) [wrap64c, if_pos, if_neg, opAnd, opOr, opXor, opDiff, opShr, opBit, c1']
  refine stopK_heap fun h0 q_h0 => ?_
  refine stopK_go ?_
  have g_h0 : h0.get h.next = .cells [.int .i64 (n : Int), b] true true 1 := by simp [q_h0]
  have k_h0 : Adds h h0 := by rw [q_h0]; exact (by first | exact aK | exact kK)
  have n_h0 : h.next < h0.next := by simp [q_h0]; try omega
  have hX0 := hX.keep k_h0.1
  try simp (disch := first | omega | (simp; done) | fail) [wrap64c, if_pos, if_neg, opAnd, opOr, opXor, opDiff, opShr, opBit, c1', g_h0]
  refine callG_c (by simp) (by simp) ?ha (isSpace_ok h0 (.agg #[.int .i64 (n : Int), b]) n (toN xs) (.mk hX0) hl) ?_
  (case ha => simp (disch := first | omega | (simp; done) | fail) [wrap64c, if_pos, if_neg, opAnd, opOr, opXor, opDiff, opShr, opBit, c1', g_h0])
  by_cases h3 : n ≤ 3
  · have h3' : ¬ (3 < n) := by omega
    obtain ⟨u, h2, hc2, ha2, hG⟩ := spaces_ok h0 n g.n1 (by omega)
    have hg2 : h2.get h.next = .cells [.int .i64 (n : Int), b] true true 1 := by rw [ha2.1.2 _ (by omega)]; exact g_h0
    have hlL := spacesL_le g.n1 (show n ≤ 4 by omega)
    try simp (disch := first | omega | (simp; done) | fail) [wrap64c, if_pos, if_neg, opAnd, opOr, opXor, opDiff, opShr, opBit, c1', g_h0, h3']
    refine callG_c (by simp) (by simp) ?ha (hc2) ?_
    (case ha => simp (disch := first | omega | (simp; done) | fail) [wrap64c, if_pos, if_neg, opAnd, opOr, opXor, opDiff, opShr, opBit, c1', g_h0, h3'])
    try simp (disch := first | omega | (simp; done) | fail) [wrap64c, if_pos, if_neg, opAnd, opOr, opXor, opDiff, opShr, opBit, c1', g_h0, h3']
    refine callG_c (by simp) (by simp) ?ha (spIndex_ok h2 h.next n h0.next b u xs (spacesL n) hg2 (by have := ha2.1.1; omega) (hX0.keep ha2.1) hG (spacesL_nodup g.n1) (spacesL_has g) (by omega)) ?_
    (case ha => simp (disch := first | omega | (simp; done) | fail) [wrap64c, if_pos, if_neg, opAnd, opOr, opXor, opDiff, opShr, opBit, c1', g_h0, h3'])
    try simp (disch := first | omega | (simp; done) | fail) [wrap64c, if_pos, if_neg, opAnd, opOr, opXor, opDiff, opShr, opBit, c1', g_h0, h3']
    exact done_ret rfl (by simp [c1, rankR, (k_h0.trans ha2).1, show (n : Int) ≤ 3 by omega])
  · have h3' : 3 < n := by omega
    try simp (disch := first | omega | (simp; done) | fail) [wrap64c, if_pos, if_neg, opAnd, opOr, opXor, opDiff, opShr, opBit, c1', g_h0, h3']
    exact done_ret rfl (by simp [c1, rankR, k_h0.1, show ¬ (n : Int) ≤ 3 by omega])

theorem alListed_ok (h : Hp) (N : Int) : CallOK Try.prog 66 #[.int .i64 N] h (.bool (decide (1 ≤ N ∧ N ≤ 3))) h := by
  refine callY_P 5 _ [.tmp 2] Try.func66 rfl rfl rfl (by first | rfl | simp) ?_
  try simp (disch := first | omega | (simp; done) | fail) [wrap64c, if_pos, if_neg, opAnd, opOr, opXor, opDiff, opShr, opBit]
  refine callG_c (by simp) (by simp) ?ha (l1In_ok h N 1 3) ?_
  (case ha => simp (disch := first | omega | (simp; done) | fail) [wrap64c, if_pos, if_neg, opAnd, opOr, opXor, opDiff, opShr, opBit])
  try simp (disch := first | omega | (simp; done) | fail) [wrap64c, if_pos, if_neg, opAnd, opOr, opXor, opDiff, opShr, opBit]
  exact done_ret rfl (by simp)

theorem specRank_ok (h : Hp) (v : Value) (N : Int) (X : List Int) (hv : Space h v N X) (hl : X.length < 2 ^ 40) :
    CallOK Try.prog 28 #[v] h (.tuple #[.int .i64 (rankR N X), .bool (spB N X && decide (N ≤ 3))]) h := by
  by_cases c1 : spB N X = true
  case neg =>
    refine callY_P 33 _ [.tmp 2, .tmp 3] Try.func28 rfl rfl rfl (by first | rfl | simp) ?_
    obtain ⟨b, rfl, hX⟩ := hv
    have c1' : spB N X = false := by simpa using c1
    refine WD_first ?_
    try simp (disch := first | omega | (simp; done) | fail) [wrap64c, if_pos, if_neg, opAnd, opOr, opXor, opDiff, opShr, opBit, c1']
    refine stopK_heap fun h0 q_h0 => ?_
    refine stopK_go ?_
    have g_h0 : h0.get h.next = .cells [.int .i64 N, b] true true 1 := by simp [q_h0]
    have k_h0 : Adds h h0 := by rw [q_h0]; exact (by first | exact aK | exact kK)
    have n_h0 : h.next < h0.next := by simp [q_h0]; try omega
    try simp (disch := first | omega | (simp; done) | fail) [wrap64c, if_pos, if_neg, opAnd, opOr, opXor, opDiff, opShr, opBit, c1', g_h0]
    refine callG_c (by simp) (by simp) ?ha (spGood_ok h0 (.agg #[.int .i64 N, b]) N X (.mk (hX.keep k_h0.1)) hl) ?_
    (case ha => simp (disch := first | omega | (simp; done) | fail) [wrap64c, if_pos, if_neg, opAnd, opOr, opXor, opDiff, opShr, opBit, c1', g_h0])
    try simp (disch := first | omega | (simp; done) | fail) [wrap64c, if_pos, if_neg, opAnd, opOr, opXor, opDiff, opShr, opBit, c1', g_h0]
    exact done_ret rfl (by simp [c1', rankR, k_h0.1])
  obtain ⟨n, xs, rfl, rfl, g⟩ := spB_true c1
  refine callY_P 33 _ [.tmp 2, .tmp 3] Try.func28 rfl rfl rfl (by first | rfl | simp) ?_
  obtain ⟨b, rfl, hX⟩ := hv
  have c1' := c1
  refine WD_first ?_
  try simp (disch := first | omega | (simp; done) | fail) [wrap64c, if_pos, if_neg, opAnd, opOr, opXor, opDiff, opShr, opBit, c1']
  refine stopK_heap fun h0 q_h0 => ?_
  refine stopK_go ?_
  have g_h0 : h0.get h.next = .cells [.int .i64 (n : Int), b] true true 1 := by simp [q_h0]
  have k_h0 : Adds h h0 := by rw [q_h0]; exact (by first | exact aK | exact kK)
  have n_h0 : h.next < h0.next := by simp [q_h0]; try omega
  have hX0 := hX.keep k_h0.1
  have n1 := g.n1
  try simp (disch := first | omega | (simp; done) | fail) [wrap64c, if_pos, if_neg, opAnd, opOr, opXor, opDiff, opShr, opBit, c1', g_h0]
  refine callG_c (by simp) (by simp) ?ha (spGood_ok h0 (.agg #[.int .i64 (n : Int), b]) n (toN xs) (.mk hX0) hl) ?_
  (case ha => simp (disch := first | omega | (simp; done) | fail) [wrap64c, if_pos, if_neg, opAnd, opOr, opXor, opDiff, opShr, opBit, c1', g_h0])
  try simp (disch := first | omega | (simp; done) | fail) [wrap64c, if_pos, if_neg, opAnd, opOr, opXor, opDiff, opShr, opBit, c1', g_h0]
  refine callG_c (by simp) (by simp) ?ha (alListed_ok h0 n) ?_
  (case ha => simp (disch := first | omega | (simp; done) | fail) [wrap64c, if_pos, if_neg, opAnd, opOr, opXor, opDiff, opShr, opBit, c1', g_h0])
  by_cases h3 : n ≤ 3
  · have h3' : (decide (1 ≤ (n : Int) ∧ (n : Int) ≤ 3)) = true := decide_eq_true (by omega)
    obtain ⟨u, h2, hc2, ha2, hG⟩ := alSpaces_ok h0 n g.n1 (by omega)
    have hg2 : h2.get h.next = .cells [.int .i64 (n : Int), b] true true 1 := by rw [ha2.1.2 _ (by omega)]; exact g_h0
    obtain ⟨L, hLe⟩ : ∃ L, L = spacesL n := ⟨_, rfl⟩
    have hLl : L.length ≤ 16384 := by rw [hLe]; exact spacesL_le g.n1 (by omega)
    have hLn : L.Nodup := hLe ▸ spacesL_nodup g.n1
    have hLm : xs ∈ L := hLe ▸ spacesL_has g
    rw [← hLe] at hG
    have hL := hG.lenD
    have n2 := ha2.1.1
    try simp (disch := first | omega | (simp; done) | fail) [wrap64c, if_pos, if_neg, opAnd, opOr, opXor, opDiff, opShr, opBit, c1', g_h0, h3', hL]
    refine callG_c (by simp) (by simp) ?ha (hc2) ?_
    (case ha => simp (disch := first | omega | (simp; done) | fail) [wrap64c, if_pos, if_neg, opAnd, opOr, opXor, opDiff, opShr, opBit, c1', g_h0, h3', hL])
    try simp (disch := first | omega | (simp; done) | fail) [wrap64c, if_pos, if_neg, opAnd, opOr, opXor, opDiff, opShr, opBit, c1', g_h0, h3', hL]
    refine WD_loopC [1, 18, 19] (fun m tm h' => ∃ j, m = L.length - j ∧ tm 4 = .int .i64 ((if L.idxOf xs < j then L.idxOf xs else 0 : Nat) : Int) ∧ tm 20 = .int .i64 (j : Int) ∧ (j ≤ L.length) ∧ (Adds h2 h')) _ ⟨0, rfl, (by simp), (by simp (disch := first | omega | (simp; done) | fail) [wrap64c, if_pos, if_neg, opAnd, opOr, opXor, opDiff, opShr, opBit, c1', g_h0, h3', hL]), (by first | omega | assumption | (simp (disch := first | omega | (simp; done) | fail) [wrap64c, if_pos, if_neg, opAnd, opOr, opXor, opDiff, opShr, opBit, c1', g_h0, h3', hL] <;> omega)), (adds_self _)⟩ ?_
    rintro m tm h' hFr ⟨j, rfl, e4, e20, hj, ha⟩
    simp only [FrameL] at hFr
    obtain ⟨f1_0, f18_0, f19_0, -⟩ := hFr
    try simp (disch := first | omega | (simp; done) | fail) [wrap64c, if_pos, if_neg, opAnd, opOr, opXor, opDiff, opShr, opBit, c1', g_h0, h3', hL] at f1_0 f18_0 f19_0
    have e1 := f1_0
    have e18 := f18_0
    have e19 := f19_0
    have hg3 : h'.get h.next = .cells [.int .i64 (n : Int), b] true true 1 := by rw [ha.1.2 _ (by omega)]; exact hg2
    by_cases hlt : j < L.length
    · obtain ⟨o, cs, ex, w, y1, y2, y3, y4, y5, y6⟩ := spG_at (hG.keep (spO_steady n) ha.1) hlt
      have y1' := y1
      have ntw := y6.nt
      have csw := y6.cs
      rename Hp => hq
      have hqn := ha.1.1
      try simp (disch := first | omega | (simp; done) | fail) [wrap64c, if_pos, if_neg, opAnd, opOr, opXor, opDiff, opShr, opBit, c1', g_h0, h3', hL, e1, e4, e18, e19, e20, hlt, y1', y3, y4, y5, ntw, csw, hg3, putCells]
      first | refine WY_heap fun h3 q_h3 => ?_ | refine callG_heap fun h3 q_h3 => ?_ | refine callP_heap fun h3 q_h3 => ?_ | refine RY_heap fun h3 q_h3 => ?_ | refine PY_heap fun h3 q_h3 => ?_ | refine doneY_heap fun h3 q_h3 => ?_ | refine loopK_heap fun h3 q_h3 => ?_ | refine thenY_heap fun h3 q_h3 => ?_ | refine thenM_heap fun h3 q_h3 => ?_
      have k3 : Adds hq h3 := by rw [q_h3]; exact (by first | exact aK | exact kK)
      have gb3 : h3.get hq.next = .cells [.int .i64 (n : Int), w] true true 1 := by simp [q_h3]
      have gb4 : h3.get h.next = .cells [.int .i64 (n : Int), b] true true 1 := by rw [k3.1.2 _ (by omega)]; exact hg3
      try simp (disch := first | omega | (simp; done) | fail) [wrap64c, if_pos, if_neg, opAnd, opOr, opXor, opDiff, opShr, opBit, c1', g_h0, h3', hL, e1, e4, e18, e19, e20, hlt, y1', y3, y4, y5, ntw, csw, gb3, gb4]
      refine callG_c (by simp) (by simp) ?ha (l1Same_ok h3 w b _ _ (y6.keep k3.1).ints (((hX0.keep ha2.1).keep ha.1).keep k3.1)) ?_
      (case ha => simp (disch := first | omega | (simp; done) | fail) [wrap64c, if_pos, if_neg, opAnd, opOr, opXor, opDiff, opShr, opBit, c1', g_h0, h3', hL, e1, e4, e18, e19, e20, hlt, y1', y3, y4, y5, ntw, csw, gb3, gb4])
      by_cases hc : L[j] = xs
      · have hz : cmpL (toN L[j]) (toN xs) = 0 := by rw [cmpL_zero, hc]
        have hi := idx_at hLn hlt hc
        try simp (disch := first | omega | (simp; done) | fail) [wrap64c, if_pos, if_neg, opAnd, opOr, opXor, opDiff, opShr, opBit, c1', g_h0, h3', hL, e1, e4, e18, e19, e20, hlt, y1', y3, y4, y5, ntw, csw, gb3, gb4, hz]
        refine loopK_next _ ?hm ?hf ⟨j + 1, rfl, (by simp [hi]), (by simp (disch := first | omega | (simp; done) | fail) [wrap64c, if_pos, if_neg, opAnd, opOr, opXor, opDiff, opShr, opBit, c1', g_h0, h3', hL, e1, e4, e18, e19, e20, hlt, y1', y3, y4, y5, ntw, csw, gb3, gb4, hz] <;> omega), (by first | omega | assumption | (simp (disch := first | omega | (simp; done) | fail) [wrap64c, if_pos, if_neg, opAnd, opOr, opXor, opDiff, opShr, opBit, c1', g_h0, h3', hL, e1, e4, e18, e19, e20, hlt, y1', y3, y4, y5, ntw, csw, gb3, gb4, hz] <;> omega)), (ha.trans k3)⟩
        (case hm => first | omega | (simp; omega))
        (case hf => simp [FrameL, c1', g_h0, h3', hL, e1, e4, e18, e19, e20, hlt, y1', y3, y4, y5, ntw, csw, gb3, gb4, hz, f1_0, f18_0, f19_0])
      · have hz : ¬ cmpL (toN L[j]) (toN xs) = 0 := by rw [cmpL_zero, toN_inj]; exact hc
        have hne : L.idxOf xs ≠ j := fun e => hc (by
          have := List.getElem_idxOf (List.idxOf_lt_length_iff.2 hLm)
          rw [getElem_congr_idx e] at this
          exact this)
        have hif : (if L.idxOf xs < j + 1 then L.idxOf xs else 0) = (if L.idxOf xs < j then L.idxOf xs else 0) := by
          by_cases h : L.idxOf xs < j
          · rw [if_pos h, if_pos (by omega)]
          · rw [if_neg h, if_neg (by omega)]
        try simp (disch := first | omega | (simp; done) | fail) [wrap64c, if_pos, if_neg, opAnd, opOr, opXor, opDiff, opShr, opBit, c1', g_h0, h3', hL, e1, e4, e18, e19, e20, hlt, y1', y3, y4, y5, ntw, csw, gb3, gb4, hz]
        refine loopK_next _ ?hm ?hf ⟨j + 1, rfl, (by simp [hif, e4]), (by simp (disch := first | omega | (simp; done) | fail) [wrap64c, if_pos, if_neg, opAnd, opOr, opXor, opDiff, opShr, opBit, c1', g_h0, h3', hL, e1, e4, e18, e19, e20, hlt, y1', y3, y4, y5, ntw, csw, gb3, gb4, hz] <;> omega), (by first | omega | assumption | (simp (disch := first | omega | (simp; done) | fail) [wrap64c, if_pos, if_neg, opAnd, opOr, opXor, opDiff, opShr, opBit, c1', g_h0, h3', hL, e1, e4, e18, e19, e20, hlt, y1', y3, y4, y5, ntw, csw, gb3, gb4, hz] <;> omega)), (ha.trans k3)⟩
        (case hm => first | omega | (simp; omega))
        (case hf => simp [FrameL, c1', g_h0, h3', hL, e1, e4, e18, e19, e20, hlt, y1', y3, y4, y5, ntw, csw, gb3, gb4, hz, f1_0, f18_0, f19_0])
    · have hil : L.idxOf xs < j := by
        have := List.idxOf_lt_length_iff.2 hLm
        omega
      rw [if_pos hil] at e4
      try simp (disch := first | omega | (simp; done) | fail) [wrap64c, if_pos, if_neg, opAnd, opOr, opXor, opDiff, opShr, opBit, c1', g_h0, h3', hL, e1, e4, e18, e19, e20, hlt]
      exact done_ret rfl (by simp [c1, rankR, ((k_h0.trans ha2).trans ha).1, show (n : Int) ≤ 3 by omega, hLe])
  · have h3' : (decide (1 ≤ (n : Int) ∧ (n : Int) ≤ 3)) = false := decide_eq_false (by omega)
    try simp (disch := first | omega | (simp; done) | fail) [wrap64c, if_pos, if_neg, opAnd, opOr, opXor, opDiff, opShr, opBit, c1', g_h0, h3']
    exact done_ret rfl (by simp [c1, rankR, k_h0.1, show ¬ (n : Int) ≤ 3 by omega])
end Go.Proofs.Ytnjabaeajjhliaa
