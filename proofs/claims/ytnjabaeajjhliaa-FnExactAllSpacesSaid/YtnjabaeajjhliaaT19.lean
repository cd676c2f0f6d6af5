/- Spaces up to names, ranks of spaces, spaces with a rank: by both sides. -/
import Derived.Test.YtnjabaeajjhliaaT18
import Derived.Test.YtnjabaeajjhliaaT14
namespace Go.Proofs.Ytnjabaeajjhliaa
set_option linter.unusedSimpArgs false
set_option linter.unusedVariables false
set_option maxHeartbeats 4000000
open Go Go.Eng
attribute [local irreducible] WD RunD PreD Runs CallOK

theorem spG_at {m n : Nat} {h : Hp} {v : Value} {L : List (List Nat)} (hs : GL 2 (spO m) n h v L) {k : Nat} (hk : k < L.length) :
    ∃ o cs ex w, v = .slice (some ⟨o, 0, none⟩) L.length L.length ∧ (n ≤ o ∧ o < h.next) ∧ h.get o = .cells cs true ex 2 ∧ cs.length = L.length * 2 ∧ (cs.drop (k * 2)).take 2 = [.int .i64 (m : Int), w] ∧ IntsO (fun x => n ≤ x ∧ x ≠ o) h w (toN L[k]) := by
  rcases hs with ⟨rfl, _⟩ | ⟨o, ex, cs, e, h1, h2, h3, h4, h5⟩
  · simp at hk
  · obtain ⟨w, hw, hI⟩ := h5 k hk
    exact ⟨o, cs, ex, w, e, ⟨h1, h2⟩, h3, h4, hw, hI⟩
theorem good_lt {n : Nat} {xs : List Nat} (g : SpGood n xs) : (toN xs).length < 2 ^ 40 := by
  have := g.len7
  simp; omega
theorem spacesL_le {n : Nat} (p1 : 1 ≤ n) (p4 : n ≤ 4) : (spacesL n).length ≤ 16384 := by
  rw [spacesL_len]
  exact Nat.le_trans (candK_len _ _) (bit_mono (j := 14) (by have : bit n ≤ bit 4 := bit_mono p4; have : bit 4 = 16 := rfl; omega))

/-- How many spaces of n items there are up to names. -/
noncomputable def upN (n : Nat) : Nat := ((spacesL n).filter fun x => decide (leastN n x = x)).length
noncomputable def upR (N : Int) : Int := if 1 ≤ N ∧ N ≤ 4 then (upN N.toNat : Int) else 0

theorem implUp_ok (h : Hp) (N : Int) : CallOK Try.prog 32 #[.int .i64 N] h (.tuple #[.int .i64 (upR N), .bool (decide (1 ≤ N ∧ N ≤ 4))]) h := by
  by_cases hc : 1 ≤ N ∧ N ≤ 4
  case neg =>
    refine callY_P 26 _ [.tmp 2, .tmp 3] Try.func32 rfl rfl rfl (by first | rfl | simp) ?_
    have hc' : (decide (1 ≤ N ∧ N ≤ 4)) = false := decide_eq_false hc
    have hc1 := hc
    try simp (disch := first | omega | (simp; done) | fail) [wrap64c, if_pos, if_neg, opAnd, opOr, opXor, opDiff, opShr, opBit, hc', hc1]
    refine callG_c (by simp) (by simp) ?ha (within_ok h N 1 4) ?_
    (case ha => simp (disch := first | omega | (simp; done) | fail) [wrap64c, if_pos, if_neg, opAnd, opOr, opXor, opDiff, opShr, opBit, hc', hc1])
    try simp (disch := first | omega | (simp; done) | fail) [wrap64c, if_pos, if_neg, opAnd, opOr, opXor, opDiff, opShr, opBit, hc', hc1]
    exact done_ret rfl (by simp [upR, hc])
  obtain ⟨n, rfl⟩ := Int.eq_ofNat_of_zero_le (show 0 ≤ N by omega)
  have p1 : 1 ≤ n := by omega
  have p4 : n ≤ 4 := by omega
  have hcc : (decide (1 ≤ (n : Int) ∧ (n : Int) ≤ 4)) = true := decide_eq_true hc
  refine callY_P 26 _ [.tmp 2, .tmp 3] Try.func32 rfl rfl rfl (by first | rfl | simp) ?_
  have hc1 := hcc
  try simp (disch := first | omega | (simp; done) | fail) [wrap64c, if_pos, if_neg, opAnd, opOr, opXor, opDiff, opShr, opBit, hc1]
  refine callG_c (by simp) (by simp) ?ha (within_ok h n 1 4) ?_
  (case ha => simp (disch := first | omega | (simp; done) | fail) [wrap64c, if_pos, if_neg, opAnd, opOr, opXor, opDiff, opShr, opBit, hc1])
  obtain ⟨v, h2, hc2, ha2, hG⟩ := spaces_ok h n p1 p4
  obtain ⟨L, hLe⟩ : ∃ L, L = spacesL n := ⟨_, rfl⟩
  have hLl : L.length ≤ 16384 := by rw [hLe]; exact spacesL_le p1 p4
  have hLg : ∀ x ∈ L, SpGood n x := fun x hx => spacesL_good (hLe ▸ hx)
  rw [← hLe] at hG
  have hL := hG.lenD
  try simp (disch := first | omega | (simp; done) | fail) [wrap64c, if_pos, if_neg, opAnd, opOr, opXor, opDiff, opShr, opBit, hc1, hL]
  refine callG_c (by simp) (by simp) ?ha (hc2) ?_
  (case ha => simp (disch := first | omega | (simp; done) | fail) [wrap64c, if_pos, if_neg, opAnd, opOr, opXor, opDiff, opShr, opBit, hc1, hL])
  try simp (disch := first | omega | (simp; done) | fail) [wrap64c, if_pos, if_neg, opAnd, opOr, opXor, opDiff, opShr, opBit, hc1, hL]
  refine WD_loopC [11, 12] (fun m tm h' => ∃ j, m = L.length - j ∧ tm 4 = .int .i64 ((((L.take j).filter fun x => decide (leastN n x = x)).length : Nat) : Int) ∧ tm 13 = .int .i64 (j : Int) ∧ (j ≤ L.length) ∧ (Adds h2 h')) _ ⟨0, rfl, (by simp), (by simp (disch := first | omega | (simp; done) | fail) [wrap64c, if_pos, if_neg, opAnd, opOr, opXor, opDiff, opShr, opBit, hc1, hL]), (by first | omega | assumption | (simp (disch := first | omega | (simp; done) | fail) [wrap64c, if_pos, if_neg, opAnd, opOr, opXor, opDiff, opShr, opBit, hc1, hL] <;> omega)), (adds_self _)⟩ ?_
  rintro m tm h' hFr ⟨j, rfl, e4, e13, hj, ha⟩
  simp only [FrameL] at hFr
  obtain ⟨f11_0, f12_0, -⟩ := hFr
  try simp (disch := first | omega | (simp; done) | fail) [wrap64c, if_pos, if_neg, opAnd, opOr, opXor, opDiff, opShr, opBit, hc1, hL] at f11_0 f12_0
  have e11 := f11_0
  have e12 := f12_0
  by_cases hlt : j < L.length
  · obtain ⟨o, cs, ex, w, y1, y2, y3, y4, y5, y6⟩ := spG_at (hG.keep (spO_steady n) ha.1) hlt
    have y1' := y1
    have g := hLg _ (List.getElem_mem hlt)
    have ntw := y6.nt
    have csw := y6.cs
    have hfl := filter_take_le (fun x => decide (leastN n x = x)) L j
    rename Hp => hq
    try simp (disch := first | omega | (simp; done) | fail) [wrap64c, if_pos, if_neg, opAnd, opOr, opXor, opDiff, opShr, opBit, hc1, hL, e4, e11, e12, e13, hlt, y1', y3, y4, y5, ntw, csw, putCells]
    first | refine WY_heap fun h3 q_h3 => ?_ | refine callG_heap fun h3 q_h3 => ?_ | refine callP_heap fun h3 q_h3 => ?_ | refine RY_heap fun h3 q_h3 => ?_ | refine PY_heap fun h3 q_h3 => ?_ | refine doneY_heap fun h3 q_h3 => ?_ | refine loopK_heap fun h3 q_h3 => ?_ | refine thenY_heap fun h3 q_h3 => ?_ | refine thenM_heap fun h3 q_h3 => ?_
    have k3 : Adds hq h3 := by rw [q_h3]; exact (by first | exact aK | exact kK)
    have n3 : h3.next = hq.next + 1 := by simp [q_h3]
    have gb3 : h3.get hq.next = .cells [.int .i64 (n : Int), w] true true 1 := by simp [q_h3]
    have hw3 := y6.keep k3.1
    obtain ⟨_, h4, hc4, ha4, d, rfl, hd⟩ := leastNamed_ok h3 (.agg #[.int .i64 (n : Int), w]) n L[j] (.mk hw3.ints) g
    refine WD_drawC 3 rfl (by kernel_rfl) ?_
    try simp (disch := first | omega | (simp; done) | fail) [wrap64c, if_pos, if_neg, opAnd, opOr, opXor, opDiff, opShr, opBit, hc1, hL, e4, e11, e12, e13, hlt, y1', y3, y4, y5, ntw, csw, gb3]
    refine callP_c (by simp) (by simp) ?ha (hc4) ?hadd ?_
    (case ha => simp (disch := first | omega | (simp; done) | fail) [wrap64c, if_pos, if_neg, opAnd, opOr, opXor, opDiff, opShr, opBit, hc1, hL, e4, e11, e12, e13, hlt, y1', y3, y4, y5, ntw, csw, gb3])
    (case hadd => first | assumption | exact adds_self _ | (simp; done))
    have ntd := hd.nt
    have csd := hd.cs
    try simp (disch := first | omega | (simp; done) | fail) [wrap64c, if_pos, if_neg, opAnd, opOr, opXor, opDiff, opShr, opBit, hc1, hL, e4, e11, e12, e13, hlt, y1', y3, y4, y5, ntw, csw, gb3, ntd, csd]
    refine callG_c (by simp) (by simp) ?ha (compare_ok h4 (.agg #[.int .i64 (n : Int), w]) (.agg #[.int .i64 (n : Int), d]) n n _ _ (.mk (hw3.keep ha4.1).ints) (.mk hd.ints)) ?_
    (case ha => simp (disch := first | omega | (simp; done) | fail) [wrap64c, if_pos, if_neg, opAnd, opOr, opXor, opDiff, opShr, opBit, hc1, hL, e4, e11, e12, e13, hlt, y1', y3, y4, y5, ntw, csw, gb3, ntd, csd])
    by_cases hcmp : leastN n L[j] = L[j]
    · have hz : cmpL (toN L[j]) (toN (leastN n L[j])) = 0 := by rw [cmpL_zero, hcmp]
      try simp (disch := first | omega | (simp; done) | fail) [wrap64c, if_pos, if_neg, opAnd, opOr, opXor, opDiff, opShr, opBit, hc1, hL, e4, e11, e12, e13, hlt, y1', y3, y4, y5, ntw, csw, gb3, ntd, csd, hz]
      refine loopK_next _ ?hm ?hf ⟨j + 1, rfl, (by simp [List.take_succ_eq_append_getElem hlt, hcmp, -List.take_append_getElem]), (by simp (disch := first | omega | (simp; done) | fail) [wrap64c, if_pos, if_neg, opAnd, opOr, opXor, opDiff, opShr, opBit, hc1, hL, e4, e11, e12, e13, hlt, y1', y3, y4, y5, ntw, csw, gb3, ntd, csd, hz] <;> omega), (by first | omega | assumption | (simp (disch := first | omega | (simp; done) | fail) [wrap64c, if_pos, if_neg, opAnd, opOr, opXor, opDiff, opShr, opBit, hc1, hL, e4, e11, e12, e13, hlt, y1', y3, y4, y5, ntw, csw, gb3, ntd, csd, hz] <;> omega)), ((ha.trans k3).trans ha4)⟩
      (case hm => first | omega | (simp; omega))
      (case hf => simp [FrameL, hc1, hL, e4, e11, e12, e13, hlt, y1', y3, y4, y5, ntw, csw, gb3, ntd, csd, hz, f11_0, f12_0])
    · have hz : (cmpL (toN L[j]) (toN (leastN n L[j])) == 0) = false := by
        have : ¬ cmpL (toN L[j]) (toN (leastN n L[j])) = 0 := by rw [cmpL_zero, toN_inj]; exact fun e => hcmp e.symm
        simp [this]
      try simp (disch := first | omega | (simp; done) | fail) [wrap64c, if_pos, if_neg, opAnd, opOr, opXor, opDiff, opShr, opBit, hc1, hL, e4, e11, e12, e13, hlt, y1', y3, y4, y5, ntw, csw, gb3, ntd, csd, hz]
      refine loopK_next _ ?hm ?hf ⟨j + 1, rfl, (by simp [List.take_succ_eq_append_getElem hlt, hcmp, e4, -List.take_append_getElem]), (by simp (disch := first | omega | (simp; done) | fail) [wrap64c, if_pos, if_neg, opAnd, opOr, opXor, opDiff, opShr, opBit, hc1, hL, e4, e11, e12, e13, hlt, y1', y3, y4, y5, ntw, csw, gb3, ntd, csd] <;> omega), (by first | omega | assumption | (simp (disch := first | omega | (simp; done) | fail) [wrap64c, if_pos, if_neg, opAnd, opOr, opXor, opDiff, opShr, opBit, hc1, hL, e4, e11, e12, e13, hlt, y1', y3, y4, y5, ntw, csw, gb3, ntd, csd] <;> omega)), ((ha.trans k3).trans ha4)⟩
      (case hm => first | omega | (simp; omega))
      (case hf => simp [FrameL, hc1, hL, e4, e11, e12, e13, hlt, y1', y3, y4, y5, ntw, csw, gb3, ntd, csd, f11_0, f12_0])
  · have hft : L.take j = L := List.take_of_length_le (by omega)
    try simp (disch := first | omega | (simp; done) | fail) [wrap64c, if_pos, if_neg, opAnd, opOr, opXor, opDiff, opShr, opBit, hc1, hL, e4, e11, e12, e13, hlt]
    exact done_ret rfl (by simp [upR, hc.1, hc.2, upN, ← hLe, hft, (ha2.trans ha).1])

theorem specUp_ok (h : Hp) (N : Int) : CallOK Try.prog 31 #[.int .i64 N] h (.tuple #[.int .i64 (upR N), .bool (decide (1 ≤ N ∧ N ≤ 4))]) h := by
  by_cases hc : 1 ≤ N ∧ N ≤ 4
  case neg =>
    refine callY_P 26 _ [.tmp 2, .tmp 3] Try.func31 rfl rfl rfl (by first | rfl | simp) ?_
    have hc' : (decide (1 ≤ N ∧ N ≤ 4)) = false := decide_eq_false hc
    have hc1 := hc
    try simp (disch := first | omega | (simp; done) | fail) [wrap64c, if_pos, if_neg, opAnd, opOr, opXor, opDiff, opShr, opBit, hc', hc1]
    refine callG_c (by simp) (by simp) ?ha (l1In_ok h N 1 4) ?_
    (case ha => simp (disch := first | omega | (simp; done) | fail) [wrap64c, if_pos, if_neg, opAnd, opOr, opXor, opDiff, opShr, opBit, hc', hc1])
    try simp (disch := first | omega | (simp; done) | fail) [wrap64c, if_pos, if_neg, opAnd, opOr, opXor, opDiff, opShr, opBit, hc', hc1]
    exact done_ret rfl (by simp [upR, hc])
  obtain ⟨n, rfl⟩ := Int.eq_ofNat_of_zero_le (show 0 ≤ N by omega)
  have p1 : 1 ≤ n := by omega
  have p4 : n ≤ 4 := by omega
  have hcc : (decide (1 ≤ (n : Int) ∧ (n : Int) ≤ 4)) = true := decide_eq_true hc
  refine callY_P 26 _ [.tmp 2, .tmp 3] Try.func31 rfl rfl rfl (by first | rfl | simp) ?_
  have hc1 := hcc
  try simp (disch := first | omega | (simp; done) | fail) [wrap64c, if_pos, if_neg, opAnd, opOr, opXor, opDiff, opShr, opBit, hc1]
  refine callG_c (by simp) (by simp) ?ha (l1In_ok h n 1 4) ?_
  (case ha => simp (disch := first | omega | (simp; done) | fail) [wrap64c, if_pos, if_neg, opAnd, opOr, opXor, opDiff, opShr, opBit, hc1])
  obtain ⟨v, h2, hc2, ha2, hG⟩ := alSpaces_ok h n p1 p4
  obtain ⟨L, hLe⟩ : ∃ L, L = spacesL n := ⟨_, rfl⟩
  have hLl : L.length ≤ 16384 := by rw [hLe]; exact spacesL_le p1 p4
  have hLg : ∀ x ∈ L, SpGood n x := fun x hx => spacesL_good (hLe ▸ hx)
  rw [← hLe] at hG
  have hL := hG.lenD
  try simp (disch := first | omega | (simp; done) | fail) [wrap64c, if_pos, if_neg, opAnd, opOr, opXor, opDiff, opShr, opBit, hc1, hL]
  refine callG_c (by simp) (by simp) ?ha (hc2) ?_
  (case ha => simp (disch := first | omega | (simp; done) | fail) [wrap64c, if_pos, if_neg, opAnd, opOr, opXor, opDiff, opShr, opBit, hc1, hL])
  try simp (disch := first | omega | (simp; done) | fail) [wrap64c, if_pos, if_neg, opAnd, opOr, opXor, opDiff, opShr, opBit, hc1, hL]
  refine WD_loopC [11, 12] (fun m tm h' => ∃ j, m = L.length - j ∧ tm 4 = .int .i64 ((((L.take j).filter fun x => decide (leastN n x = x)).length : Nat) : Int) ∧ tm 13 = .int .i64 (j : Int) ∧ (j ≤ L.length) ∧ (Adds h2 h')) _ ⟨0, rfl, (by simp), (by simp (disch := first | omega | (simp; done) | fail) [wrap64c, if_pos, if_neg, opAnd, opOr, opXor, opDiff, opShr, opBit, hc1, hL]), (by first | omega | assumption | (simp (disch := first | omega | (simp; done) | fail) [wrap64c, if_pos, if_neg, opAnd, opOr, opXor, opDiff, opShr, opBit, hc1, hL] <;> omega)), (adds_self _)⟩ ?_
  rintro m tm h' hFr ⟨j, rfl, e4, e13, hj, ha⟩
  simp only [FrameL] at hFr
  obtain ⟨f11_0, f12_0, -⟩ := hFr
  try simp (disch := first | omega | (simp; done) | fail) [wrap64c, if_pos, if_neg, opAnd, opOr, opXor, opDiff, opShr, opBit, hc1, hL] at f11_0 f12_0
  have e11 := f11_0
  have e12 := f12_0
  by_cases hlt : j < L.length
  · obtain ⟨o, cs, ex, w, y1, y2, y3, y4, y5, y6⟩ := spG_at (hG.keep (spO_steady n) ha.1) hlt
    have y1' := y1
    have g := hLg _ (List.getElem_mem hlt)
    have ntw := y6.nt
    have csw := y6.cs
    have hfl := filter_take_le (fun x => decide (leastN n x = x)) L j
    rename Hp => hq
    try simp (disch := first | omega | (simp; done) | fail) [wrap64c, if_pos, if_neg, opAnd, opOr, opXor, opDiff, opShr, opBit, hc1, hL, e4, e11, e12, e13, hlt, y1', y3, y4, y5, ntw, csw, putCells]
    first | refine WY_heap fun h3 q_h3 => ?_ | refine callG_heap fun h3 q_h3 => ?_ | refine callP_heap fun h3 q_h3 => ?_ | refine RY_heap fun h3 q_h3 => ?_ | refine PY_heap fun h3 q_h3 => ?_ | refine doneY_heap fun h3 q_h3 => ?_ | refine loopK_heap fun h3 q_h3 => ?_ | refine thenY_heap fun h3 q_h3 => ?_ | refine thenM_heap fun h3 q_h3 => ?_
    have k3 : Adds hq h3 := by rw [q_h3]; exact (by first | exact aK | exact kK)
    have n3 : h3.next = hq.next + 1 := by simp [q_h3]
    have gb3 : h3.get hq.next = .cells [.int .i64 (n : Int), w] true true 1 := by simp [q_h3]
    have hw3 := y6.keep k3.1
    obtain ⟨d, h4, hc4, ha4, hd⟩ := alLeast_ok h3 (.agg #[.int .i64 (n : Int), w]) n L[j] (.mk hw3.ints) g
    have gb4 : h4.get hq.next = .cells [.int .i64 (n : Int), w] true true 1 := by rw [ha4.1.2 _ (by omega)]; exact gb3
    refine WD_drawC 4 rfl (by kernel_rfl) ?_
    try simp (disch := first | omega | (simp; done) | fail) [wrap64c, if_pos, if_neg, opAnd, opOr, opXor, opDiff, opShr, opBit, hc1, hL, e4, e11, e12, e13, hlt, y1', y3, y4, y5, ntw, csw, gb3, gb4]
    refine callP_c (by simp) (by simp) ?ha (hc4) ?hadd ?_
    (case ha => simp (disch := first | omega | (simp; done) | fail) [wrap64c, if_pos, if_neg, opAnd, opOr, opXor, opDiff, opShr, opBit, hc1, hL, e4, e11, e12, e13, hlt, y1', y3, y4, y5, ntw, csw, gb3, gb4])
    (case hadd => first | assumption | exact adds_self _ | (simp; done))
    have ntd := hd.nt
    have csd := hd.cs
    try simp (disch := first | omega | (simp; done) | fail) [wrap64c, if_pos, if_neg, opAnd, opOr, opXor, opDiff, opShr, opBit, hc1, hL, e4, e11, e12, e13, hlt, y1', y3, y4, y5, ntw, csw, gb3, gb4, ntd, csd]
    refine callG_c (by simp) (by simp) ?ha (l1Same_ok h4 d w _ _ hd.ints (hw3.keep ha4.1).ints) ?_
    (case ha => simp (disch := first | omega | (simp; done) | fail) [wrap64c, if_pos, if_neg, opAnd, opOr, opXor, opDiff, opShr, opBit, hc1, hL, e4, e11, e12, e13, hlt, y1', y3, y4, y5, ntw, csw, gb3, gb4, ntd, csd])
    by_cases hcmp : leastN n L[j] = L[j]
    · have hz : cmpL (toN (leastN n L[j])) (toN L[j]) = 0 := by rw [cmpL_zero, hcmp]
      try simp (disch := first | omega | (simp; done) | fail) [wrap64c, if_pos, if_neg, opAnd, opOr, opXor, opDiff, opShr, opBit, hc1, hL, e4, e11, e12, e13, hlt, y1', y3, y4, y5, ntw, csw, gb3, gb4, ntd, csd, hz]
      refine loopK_next _ ?hm ?hf ⟨j + 1, rfl, (by simp [List.take_succ_eq_append_getElem hlt, hcmp, -List.take_append_getElem]), (by simp (disch := first | omega | (simp; done) | fail) [wrap64c, if_pos, if_neg, opAnd, opOr, opXor, opDiff, opShr, opBit, hc1, hL, e4, e11, e12, e13, hlt, y1', y3, y4, y5, ntw, csw, gb3, gb4, ntd, csd, hz] <;> omega), (by first | omega | assumption | (simp (disch := first | omega | (simp; done) | fail) [wrap64c, if_pos, if_neg, opAnd, opOr, opXor, opDiff, opShr, opBit, hc1, hL, e4, e11, e12, e13, hlt, y1', y3, y4, y5, ntw, csw, gb3, gb4, ntd, csd, hz] <;> omega)), ((ha.trans k3).trans ha4)⟩
      (case hm => first | omega | (simp; omega))
      (case hf => simp [FrameL, hc1, hL, e4, e11, e12, e13, hlt, y1', y3, y4, y5, ntw, csw, gb3, gb4, ntd, csd, hz, f11_0, f12_0])
    · have hz : ¬ cmpL (toN (leastN n L[j])) (toN L[j]) = 0 := by rw [cmpL_zero, toN_inj]; exact hcmp
      try simp (disch := first | omega | (simp; done) | fail) [wrap64c, if_pos, if_neg, opAnd, opOr, opXor, opDiff, opShr, opBit, hc1, hL, e4, e11, e12, e13, hlt, y1', y3, y4, y5, ntw, csw, gb3, gb4, ntd, csd, hz]
      refine loopK_next _ ?hm ?hf ⟨j + 1, rfl, (by simp [List.take_succ_eq_append_getElem hlt, hcmp, e4, -List.take_append_getElem]), (by simp (disch := first | omega | (simp; done) | fail) [wrap64c, if_pos, if_neg, opAnd, opOr, opXor, opDiff, opShr, opBit, hc1, hL, e4, e11, e12, e13, hlt, y1', y3, y4, y5, ntw, csw, gb3, gb4, ntd, csd, hz] <;> omega), (by first | omega | assumption | (simp (disch := first | omega | (simp; done) | fail) [wrap64c, if_pos, if_neg, opAnd, opOr, opXor, opDiff, opShr, opBit, hc1, hL, e4, e11, e12, e13, hlt, y1', y3, y4, y5, ntw, csw, gb3, gb4, ntd, csd, hz] <;> omega)), ((ha.trans k3).trans ha4)⟩
      (case hm => first | omega | (simp; omega))
      (case hf => simp [FrameL, hc1, hL, e4, e11, e12, e13, hlt, y1', y3, y4, y5, ntw, csw, gb3, gb4, ntd, csd, hz, f11_0, f12_0])
  · have hft : L.take j = L := List.take_of_length_le (by omega)
    try simp (disch := first | omega | (simp; done) | fail) [wrap64c, if_pos, if_neg, opAnd, opOr, opXor, opDiff, opShr, opBit, hc1, hL, e4, e11, e12, e13, hlt]
    exact done_ret rfl (by simp [upR, hc.1, hc.2, upN, ← hLe, hft, (ha2.trans ha).1])
end Go.Proofs.Ytnjabaeajjhliaa
