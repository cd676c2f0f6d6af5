/- Spaces with a rank: by both sides. -/
import Derived.Test.YtnjabaeajjhliaaT20
namespace Go.Proofs.Ytnjabaeajjhliaa
set_option linter.unusedSimpArgs false
set_option linter.unusedVariables false
set_option maxHeartbeats 4000000
open Go Go.Eng
attribute [local irreducible] WD RunD PreD Runs CallOK

noncomputable def atB (N r : Int) : Bool := decide (1 ≤ N ∧ N ≤ 3) && decide (0 ≤ r ∧ r ≤ ((spacesL N.toNat).length : Int) - 1)
noncomputable def atN (N r : Int) : Int := if atB N r = true then N else 0
noncomputable def atX (N r : Int) : List Int := if atB N r = true then toN ((spacesL N.toNat).getD r.toNat []) else []
theorem atX_len (N r : Int) : (atX N r).length ≤ 128 := by
  unfold atX
  split
  · rename_i h
    simp only [atB, Bool.and_eq_true, decide_eq_true_eq] at h
    have hl : r.toNat < (spacesL N.toNat).length := by omega
    rw [List.getD_eq_getElem?_getD, List.getElem?_eq_getElem hl]
    have g := spacesL_good (List.getElem_mem hl)
    have := g.len7
    simp; omega
  · simp

theorem implAll_ok (h : Hp) (n : Nat) (p1 : 1 ≤ n) (p3 : n ≤ 3) : ∃ v' h', CallOK Try.prog 18 #[.int .i64 (n : Int)] h v' h' ∧ Adds h h' ∧ ∃ u, v' = .tuple #[u, .bool true] ∧ GL 2 (spO n) h.next h' u (spacesL n) := by
  have hcc : (decide (1 ≤ (n : Int) ∧ (n : Int) ≤ 3)) = true := decide_eq_true (by omega)
  refine callY_L (args := [.int .i64 (n : Int)]) 9 _ [.tmp 2, .tmp 3] Try.func18 rfl rfl rfl ?_
  have hc := hcc
  try simp (disch := first | omega | (simp; done) | fail) [wrap64c, if_pos, if_neg, opAnd, opOr, opXor, opDiff, opShr, opBit, hc]
  refine callG_c (by simp) (by simp) ?ha (within_ok h n 1 3) ?_
  (case ha => simp (disch := first | omega | (simp; done) | fail) [wrap64c, if_pos, if_neg, opAnd, opOr, opXor, opDiff, opShr, opBit, hc])
  obtain ⟨u, h2, hc2, ha2, hG⟩ := spaces_ok h n p1 (by omega)
  try simp (disch := first | omega | (simp; done) | fail) [wrap64c, if_pos, if_neg, opAnd, opOr, opXor, opDiff, opShr, opBit, hc]
  refine callG_c (by simp) (by simp) ?ha (hc2) ?_
  (case ha => simp (disch := first | omega | (simp; done) | fail) [wrap64c, if_pos, if_neg, opAnd, opOr, opXor, opDiff, opShr, opBit, hc])
  try simp (disch := first | omega | (simp; done) | fail) [wrap64c, if_pos, if_neg, opAnd, opOr, opXor, opDiff, opShr, opBit, hc]
  exact done_ret rfl ⟨ha2, u, rfl, hG⟩
theorem implAllNo_ok (h : Hp) (N : Int) (hc0 : ¬ (1 ≤ N ∧ N ≤ 3)) : CallOK Try.prog 18 #[.int .i64 N] h (.tuple #[.slice none 0 0, .bool false]) h := by
  have hcc : (decide (1 ≤ N ∧ N ≤ 3)) = false := decide_eq_false hc0
  refine callY_P 9 _ [.tmp 2, .tmp 3] Try.func18 rfl rfl rfl (by first | rfl | simp) ?_
  have hc := hcc
  have hc0 := hc0
  try simp (disch := first | omega | (simp; done) | fail) [wrap64c, if_pos, if_neg, opAnd, opOr, opXor, opDiff, opShr, opBit, hc, hc0]
  refine callG_c (by simp) (by simp) ?ha (within_ok h N 1 3) ?_
  (case ha => simp (disch := first | omega | (simp; done) | fail) [wrap64c, if_pos, if_neg, opAnd, opOr, opXor, opDiff, opShr, opBit, hc, hc0])
  try simp (disch := first | omega | (simp; done) | fail) [wrap64c, if_pos, if_neg, opAnd, opOr, opXor, opDiff, opShr, opBit, hc, hc0]
  exact done_ret rfl (by simp)

theorem implAt_ok (h : Hp) (N r : Int) :
    ∃ v' h', CallOK Try.prog 23 #[.int .i64 N, .int .i64 r] h v' h' ∧ Adds h h' ∧ ∃ u, v' = .tuple #[u, .bool (atB N r)] ∧ SpaceO (Btw h.next h'.next) h' u (atN N r) (atX N r) := by
  by_cases hc : 1 ≤ N ∧ N ≤ 3
  case neg =>
    have hat : atB N r = false := by unfold atB; rw [decide_eq_false hc]; rfl
    refine callY_L (args := [.int .i64 N, .int .i64 r]) 28 _ [.cell 4 32, .tmp 5] Try.func23 rfl rfl rfl ?_
    try simp (disch := first | omega | (simp; done) | fail) [wrap64c, if_pos, if_neg, opAnd, opOr, opXor, opDiff, opShr, opBit]
    first | refine WY_heap fun h0 q_h0 => ?_ | refine callG_heap fun h0 q_h0 => ?_ | refine callP_heap fun h0 q_h0 => ?_ | refine RY_heap fun h0 q_h0 => ?_ | refine PY_heap fun h0 q_h0 => ?_ | refine doneY_heap fun h0 q_h0 => ?_ | refine loopK_heap fun h0 q_h0 => ?_ | refine thenY_heap fun h0 q_h0 => ?_ | refine thenM_heap fun h0 q_h0 => ?_
    have k0 : Adds h h0 := by rw [q_h0]; exact (by first | exact aK | exact kK)
    have gr0 : h0.get h.next = .cells [.int .i64 0, .slice none 0 0] true true 1 := by simp [q_h0]
    refine callG_c (by simp) (by simp) ?ha (implAllNo_ok h0 N hc) ?_
    (case ha => simp (disch := first | omega | (simp; done) | fail) [wrap64c, if_pos, if_neg, opAnd, opOr, opXor, opDiff, opShr, opBit, gr0])
    try simp (disch := first | omega | (simp; done) | fail) [wrap64c, if_pos, if_neg, opAnd, opOr, opXor, opDiff, opShr, opBit, gr0, putCells]
    refine done_ret (by simp [putCells]; rfl) ⟨(by first | exact aK | exact kK), .agg #[.int .i64 0, .slice none 0 0], by simp [hat], ?_⟩
    rw [atN, atX, if_neg (by simp [hat]), if_neg (by simp [hat])]
    exact .nil _ _
  obtain ⟨n, rfl⟩ := Int.eq_ofNat_of_zero_le (show 0 ≤ N by omega)
  have hcc : (decide (1 ≤ (n : Int) ∧ (n : Int) ≤ 3)) = true := decide_eq_true hc
  refine callY_L (args := [.int .i64 (n : Int), .int .i64 r]) 28 _ [.cell 4 32, .tmp 5] Try.func23 rfl rfl rfl ?_
  try simp (disch := first | omega | (simp; done) | fail) [wrap64c, if_pos, if_neg, opAnd, opOr, opXor, opDiff, opShr, opBit]
  first | refine WY_heap fun h0 q_h0 => ?_ | refine callG_heap fun h0 q_h0 => ?_ | refine callP_heap fun h0 q_h0 => ?_ | refine RY_heap fun h0 q_h0 => ?_ | refine PY_heap fun h0 q_h0 => ?_ | refine doneY_heap fun h0 q_h0 => ?_ | refine loopK_heap fun h0 q_h0 => ?_ | refine thenY_heap fun h0 q_h0 => ?_ | refine thenM_heap fun h0 q_h0 => ?_
  have k0 : Adds h h0 := by rw [q_h0]; exact (by first | exact aK | exact kK)
  have n0 : h0.next = h.next + 1 := by simp [q_h0]
  have gr0 : h0.get h.next = .cells [.int .i64 0, .slice none 0 0] true true 1 := by simp [q_h0]
  obtain ⟨_, h2, hc2, ha2, u, rfl, hG⟩ := implAll_ok h0 n (by omega) (by omega)
  refine callG_c (by simp) (by simp) ?ha (hc2) ?_
  (case ha => simp (disch := first | omega | (simp; done) | fail) [wrap64c, if_pos, if_neg, opAnd, opOr, opXor, opDiff, opShr, opBit])
  obtain ⟨L, hLe0⟩ : ∃ L, spacesL (n : Int).toNat = L := ⟨_, rfl⟩
  have hLl : L.length ≤ 16384 := by rw [← hLe0]; exact spacesL_le (by omega) (by omega)
  rw [show spacesL n = L by rw [← hLe0, Int.toNat_natCast]] at hG
  have hL := hG.lenD
  have A2 := k0.trans ha2
  have nn2 := ha2.1.1
  have gr2 : h2.get h.next = .cells [.int .i64 0, .slice none 0 0] true true 1 := by rw [ha2.1.2 _ (by omega)]; exact gr0
  by_cases hr : 0 ≤ r ∧ r ≤ (L.length : Int) - 1
  · have hrc : (decide (0 ≤ r ∧ r ≤ (L.length : Int) - 1)) = true := decide_eq_true hr
    have hrn := hr
    obtain ⟨k, hk⟩ : ∃ k : Nat, r = (k : Int) := Int.eq_ofNat_of_zero_le hr.1
    have hkr := hk
    have hkl : k < L.length := by omega
    have hrc2 : (decide (0 ≤ (k : Int) ∧ (k : Int) ≤ (L.length : Int) - 1)) = true := decide_eq_true (by omega)
    have hrc3 : (k : Int) ≤ (L.length : Int) - 1 := by omega
    obtain ⟨o, cs, ex, w, y1, y2, y3, y4, y5, y6⟩ := spG_at hG hkl
    have y1' := y1
    have ntw := y6.nt
    have csw := y6.cs
    try simp (disch := first | omega | (simp; done) | fail) [wrap64c, if_pos, if_neg, opAnd, opOr, opXor, opDiff, opShr, opBit, hL, gr2, hrc, hkr, hkl, hrc2, hrc3, y1', y3, y4, y5, ntw, csw]
    refine callG_c (by simp) (by simp) ?ha (within_ok h2 r 0 ((L.length : Int) - 1)) ?_
    (case ha => simp (disch := first | omega | (simp; done) | fail) [wrap64c, if_pos, if_neg, opAnd, opOr, opXor, opDiff, opShr, opBit, hL, gr2, hrc, hkr, hkl, hrc2, hrc3, y1', y3, y4, y5, ntw, csw])
    try simp (disch := first | omega | (simp; done) | fail) [wrap64c, if_pos, if_neg, opAnd, opOr, opXor, opDiff, opShr, opBit, hL, gr2, hrc, hkr, hkl, hrc2, hrc3, y1', y3, y4, y5, ntw, csw, putCells]
    have hat : atB n r = true := by
      unfold atB
      rw [hcc, hLe0, hrc]; rfl
    have hat2 : atB n (k : Int) = true := hk ▸ hat
    refine done_ret (by simp [putCells]; rfl) ⟨(by first | exact aK | exact kK), .agg #[.int .i64 (n : Int), w], by simp [hat, hat2, hk], w, by rw [atN, if_pos hat], ?_⟩
    rw [atX, if_pos hat, hLe0, hk, Int.toNat_natCast, List.getD_eq_getElem?_getD, List.getElem?_eq_getElem hkl]
    exact ((intsO_low y6).same (Same.put (Same.refl _ _) (by omega) _)).sub fun x hx => ⟨by omega, by simpa using hx.2⟩
  · have hrc : (decide (0 ≤ r ∧ r ≤ (L.length : Int) - 1)) = false := decide_eq_false hr
    try simp (disch := first | omega | (simp; done) | fail) [wrap64c, if_pos, if_neg, opAnd, opOr, opXor, opDiff, opShr, opBit, hL, gr2, hrc, hr]
    refine callG_c (by simp) (by simp) ?ha (within_ok h2 r 0 ((L.length : Int) - 1)) ?_
    (case ha => simp (disch := first | omega | (simp; done) | fail) [wrap64c, if_pos, if_neg, opAnd, opOr, opXor, opDiff, opShr, opBit, hL, gr2, hrc, hr])
    try simp (disch := first | omega | (simp; done) | fail) [wrap64c, if_pos, if_neg, opAnd, opOr, opXor, opDiff, opShr, opBit, hL, gr2, hrc, hr, putCells]
    have hat : atB n r = false := by
      unfold atB
      rw [hcc, hLe0, hrc]; rfl
    refine done_ret (by simp [putCells]; rfl) ⟨(by first | exact aK | exact kK), .agg #[.int .i64 0, .slice none 0 0], by simp [hat], ?_⟩
    rw [atN, atX, if_neg (by simp [hat]), if_neg (by simp [hat])]
    exact .nil _ _

theorem specAt_ok (h : Hp) (N r : Int) :
    ∃ v' h', CallOK Try.prog 22 #[.int .i64 N, .int .i64 r] h v' h' ∧ Adds h h' ∧ ∃ u, v' = .tuple #[u, .bool (atB N r)] ∧ SpaceO (Btw h.next h'.next) h' u (atN N r) (atX N r) := by
  by_cases hc : 1 ≤ N ∧ N ≤ 3
  case neg =>
    have hat : atB N r = false := by unfold atB; rw [decide_eq_false hc]; rfl
    have hcc : (decide (1 ≤ N ∧ N ≤ 3)) = false := decide_eq_false hc
    refine callY_L (args := [.int .i64 N, .int .i64 r]) 24 _ [.cell 4 32, .tmp 5] Try.func22 rfl rfl rfl ?_
    have hcc1 := hcc
    try simp (disch := first | omega | (simp; done) | fail) [wrap64c, if_pos, if_neg, opAnd, opOr, opXor, opDiff, opShr, opBit, hcc1, hc]
    first | refine WY_heap fun h0 q_h0 => ?_ | refine callG_heap fun h0 q_h0 => ?_ | refine callP_heap fun h0 q_h0 => ?_ | refine RY_heap fun h0 q_h0 => ?_ | refine PY_heap fun h0 q_h0 => ?_ | refine doneY_heap fun h0 q_h0 => ?_ | refine loopK_heap fun h0 q_h0 => ?_ | refine thenY_heap fun h0 q_h0 => ?_ | refine thenM_heap fun h0 q_h0 => ?_
    have k0 : Adds h h0 := by rw [q_h0]; exact (by first | exact aK | exact kK)
    have gr0 : h0.get h.next = .cells [.int .i64 0, .slice none 0 0] true true 1 := by simp [q_h0]
    refine callG_c (by simp) (by simp) ?ha (alListed_ok h0 N) ?_
    (case ha => simp (disch := first | omega | (simp; done) | fail) [wrap64c, if_pos, if_neg, opAnd, opOr, opXor, opDiff, opShr, opBit, hcc1, hc, gr0])
    try simp (disch := first | omega | (simp; done) | fail) [wrap64c, if_pos, if_neg, opAnd, opOr, opXor, opDiff, opShr, opBit, hcc1, hc, gr0, putCells]
    refine done_ret (by simp [putCells]; rfl) ⟨(by first | exact aK | exact kK), .agg #[.int .i64 0, .slice none 0 0], by simp [hat], ?_⟩
    rw [atN, atX, if_neg (by simp [hat]), if_neg (by simp [hat])]
    exact .nil _ _
  obtain ⟨n, rfl⟩ := Int.eq_ofNat_of_zero_le (show 0 ≤ N by omega)
  have hcc : (decide (1 ≤ (n : Int) ∧ (n : Int) ≤ 3)) = true := decide_eq_true hc
  refine callY_L (args := [.int .i64 (n : Int), .int .i64 r]) 24 _ [.cell 4 32, .tmp 5] Try.func22 rfl rfl rfl ?_
  have hcc1 := hcc
  try simp (disch := first | omega | (simp; done) | fail) [wrap64c, if_pos, if_neg, opAnd, opOr, opXor, opDiff, opShr, opBit, hcc1]
  first | refine WY_heap fun h0 q_h0 => ?_ | refine callG_heap fun h0 q_h0 => ?_ | refine callP_heap fun h0 q_h0 => ?_ | refine RY_heap fun h0 q_h0 => ?_ | refine PY_heap fun h0 q_h0 => ?_ | refine doneY_heap fun h0 q_h0 => ?_ | refine loopK_heap fun h0 q_h0 => ?_ | refine thenY_heap fun h0 q_h0 => ?_ | refine thenM_heap fun h0 q_h0 => ?_
  have k0 : Adds h h0 := by rw [q_h0]; exact (by first | exact aK | exact kK)
  have n0 : h0.next = h.next + 1 := by simp [q_h0]
  have gr0 : h0.get h.next = .cells [.int .i64 0, .slice none 0 0] true true 1 := by simp [q_h0]
  refine callG_c (by simp) (by simp) ?ha (alListed_ok h0 n) ?_
  (case ha => simp (disch := first | omega | (simp; done) | fail) [wrap64c, if_pos, if_neg, opAnd, opOr, opXor, opDiff, opShr, opBit, hcc1])
  obtain ⟨u, h2, hc2, ha2, hG⟩ := alSpaces_ok h0 n (by omega) (by omega)
  try simp (disch := first | omega | (simp; done) | fail) [wrap64c, if_pos, if_neg, opAnd, opOr, opXor, opDiff, opShr, opBit, hcc1]
  refine callG_c (by simp) (by simp) ?ha (hc2) ?_
  (case ha => simp (disch := first | omega | (simp; done) | fail) [wrap64c, if_pos, if_neg, opAnd, opOr, opXor, opDiff, opShr, opBit, hcc1])
  obtain ⟨L, hLe0⟩ : ∃ L, spacesL (n : Int).toNat = L := ⟨_, rfl⟩
  have hLl : L.length ≤ 16384 := by rw [← hLe0]; exact spacesL_le (by omega) (by omega)
  rw [show spacesL n = L by rw [← hLe0, Int.toNat_natCast]] at hG
  have hL := hG.lenD
  have A2 := k0.trans ha2
  have nn2 := ha2.1.1
  have gr2 : h2.get h.next = .cells [.int .i64 0, .slice none 0 0] true true 1 := by rw [ha2.1.2 _ (by omega)]; exact gr0
  by_cases hr : 0 ≤ r ∧ r ≤ (L.length : Int) - 1
  · have hrc : (decide (0 ≤ r ∧ r ≤ (L.length : Int) - 1)) = true := decide_eq_true hr
    have hrn := hr
    obtain ⟨k, hk⟩ : ∃ k : Nat, r = (k : Int) := Int.eq_ofNat_of_zero_le hr.1
    have hkr := hk
    have hkl : k < L.length := by omega
    have hrc2 : (decide (0 ≤ (k : Int) ∧ (k : Int) ≤ (L.length : Int) - 1)) = true := decide_eq_true (by omega)
    have hrc3 : (k : Int) ≤ (L.length : Int) - 1 := by omega
    obtain ⟨o, cs, ex, w, y1, y2, y3, y4, y5, y6⟩ := spG_at hG hkl
    have y1' := y1
    have ntw := y6.nt
    have csw := y6.cs
    try simp (disch := first | omega | (simp; done) | fail) [wrap64c, if_pos, if_neg, opAnd, opOr, opXor, opDiff, opShr, opBit, hcc1, hL, gr2, hrc, hkr, hkl, hrc2, hrc3, y1', y3, y4, y5, ntw, csw]
    refine callG_c (by simp) (by simp) ?ha (l1In_ok h2 r 0 ((L.length : Int) - 1)) ?_
    (case ha => simp (disch := first | omega | (simp; done) | fail) [wrap64c, if_pos, if_neg, opAnd, opOr, opXor, opDiff, opShr, opBit, hcc1, hL, gr2, hrc, hkr, hkl, hrc2, hrc3, y1', y3, y4, y5, ntw, csw])
    try simp (disch := first | omega | (simp; done) | fail) [wrap64c, if_pos, if_neg, opAnd, opOr, opXor, opDiff, opShr, opBit, hcc1, hL, gr2, hrc, hkr, hkl, hrc2, hrc3, y1', y3, y4, y5, ntw, csw, putCells]
    have hat : atB n r = true := by
      unfold atB
      rw [hcc, hLe0, hrc]; rfl
    have hat2 : atB n (k : Int) = true := hk ▸ hat
    refine done_ret (by simp [putCells]; rfl) ⟨(by first | exact aK | exact kK), .agg #[.int .i64 (n : Int), w], by simp [hat, hat2, hk], w, by rw [atN, if_pos hat], ?_⟩
    rw [atX, if_pos hat, hLe0, hk, Int.toNat_natCast, List.getD_eq_getElem?_getD, List.getElem?_eq_getElem hkl]
    exact ((intsO_low y6).same (Same.put (Same.refl _ _) (by omega) _)).sub fun x hx => ⟨by omega, by simpa using hx.2⟩
  · have hrc : (decide (0 ≤ r ∧ r ≤ (L.length : Int) - 1)) = false := decide_eq_false hr
    try simp (disch := first | omega | (simp; done) | fail) [wrap64c, if_pos, if_neg, opAnd, opOr, opXor, opDiff, opShr, opBit, hcc1, hL, gr2, hrc, hr]
    refine callG_c (by simp) (by simp) ?ha (l1In_ok h2 r 0 ((L.length : Int) - 1)) ?_
    (case ha => simp (disch := first | omega | (simp; done) | fail) [wrap64c, if_pos, if_neg, opAnd, opOr, opXor, opDiff, opShr, opBit, hcc1, hL, gr2, hrc, hr])
    try simp (disch := first | omega | (simp; done) | fail) [wrap64c, if_pos, if_neg, opAnd, opOr, opXor, opDiff, opShr, opBit, hcc1, hL, gr2, hrc, hr, putCells]
    have hat : atB n r = false := by
      unfold atB
      rw [hcc, hLe0, hrc]; rfl
    refine done_ret (by simp [putCells]; rfl) ⟨(by first | exact aK | exact kK), .agg #[.int .i64 0, .slice none 0 0], by simp [hat], ?_⟩
    rw [atN, atX, if_neg (by simp [hat]), if_neg (by simp [hat])]
    exact .nil _ _
end Go.Proofs.Ytnjabaeajjhliaa
