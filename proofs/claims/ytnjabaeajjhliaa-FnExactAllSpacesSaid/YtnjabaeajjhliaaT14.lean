/- AreAlike by both sides. -/
import Derived.Test.YtnjabaeajjhliaaT13
namespace Go.Proofs.Ytnjabaeajjhliaa
set_option linter.unusedSimpArgs false
set_option linter.unusedVariables false
set_option maxHeartbeats 4000000
open Go Go.Eng
attribute [local irreducible] WD RunD PreD Runs CallOK

noncomputable def alikeB (N : Int) (X : List Int) (M : Int) (Y : List Int) : Bool := fewB N X && fewB M Y && (decide (N = M) && decide (leastRX N X = leastRX M Y))
theorem implAlike_ok (h : Hp) (v : Value) (N : Int) (X : List Int) (hv : Space h v N X) (hl : X.length < 2 ^ 40) (w : Value) (M : Int) (Y : List Int) (hw : Space h w M Y) (hl2 : Y.length < 2 ^ 40) :
    CallOK Try.prog 38 #[v, w] h (.tuple #[.bool (alikeB N X M Y), .bool (fewB N X && fewB M Y)]) h := by
  by_cases hNM : N = M
  case neg =>
    refine callY_P 27 _ [.tmp 4, .tmp 5] Try.func38 rfl rfl rfl (by first | rfl | simp) ?_
    obtain ⟨b, rfl, hX⟩ := hv
    obtain ⟨c, rfl, hY⟩ := hw
    try simp (disch := first | omega | (simp; done) | fail) [wrap64c, if_pos, if_neg, opAnd, opOr, opXor, opDiff, opShr, opBit]
    first | refine WY_heap fun h0 q_h0 => ?_ | refine callG_heap fun h0 q_h0 => ?_ | refine callP_heap fun h0 q_h0 => ?_ | refine RY_heap fun h0 q_h0 => ?_ | refine PY_heap fun h0 q_h0 => ?_ | refine doneY_heap fun h0 q_h0 => ?_ | refine loopK_heap fun h0 q_h0 => ?_ | refine thenY_heap fun h0 q_h0 => ?_ | refine thenM_heap fun h0 q_h0 => ?_
    have k0 : Adds h h0 := by rw [q_h0]; exact (by first | exact aK | exact kK)
    have n0 : h0.next = h.next + 2 := by simp [q_h0]
    have gs0 : h0.get h.next = .cells [.int .i64 N, b] true true 1 := by simp [q_h0]
    have gt0 : h0.get (h.next + 1) = .cells [.int .i64 M, c] true true 1 := by simp [q_h0]
    have hX0 := hX.keep k0.1
    have hY0 := hY.keep k0.1
    have K0 := k0.1
    try simp (disch := first | omega | (simp; done) | fail) [wrap64c, if_pos, if_neg, opAnd, opOr, opXor, opDiff, opShr, opBit, gs0, gt0]
    refine callG_c (by simp) (by simp) ?ha (isFew_ok h0 (.agg #[.int .i64 N, b]) N X (.mk hX0) hl) ?_
    (case ha => simp (disch := first | omega | (simp; done) | fail) [wrap64c, if_pos, if_neg, opAnd, opOr, opXor, opDiff, opShr, opBit, gs0, gt0])
    cases c1 : fewB N X
    · try simp (disch := first | omega | (simp; done) | fail) [wrap64c, if_pos, if_neg, opAnd, opOr, opXor, opDiff, opShr, opBit, gs0, gt0, c1]
      exact done_ret rfl (by simp [alikeB, c1, K0])
    · try simp (disch := first | omega | (simp; done) | fail) [wrap64c, if_pos, if_neg, opAnd, opOr, opXor, opDiff, opShr, opBit, gs0, gt0, c1]
      refine callG_c (by simp) (by simp) ?ha (isFew_ok h0 (.agg #[.int .i64 M, c]) M Y (.mk hY0) hl2) ?_
      (case ha => simp (disch := first | omega | (simp; done) | fail) [wrap64c, if_pos, if_neg, opAnd, opOr, opXor, opDiff, opShr, opBit, gs0, gt0, c1])
      cases c2 : fewB M Y
      · try simp (disch := first | omega | (simp; done) | fail) [wrap64c, if_pos, if_neg, opAnd, opOr, opXor, opDiff, opShr, opBit, gs0, gt0, c1, c2]
        exact done_ret rfl (by simp [alikeB, c1, c2, K0])
      · obtain ⟨n, xs, hN, hXe, g, h5⟩ := fewB_true c1
        obtain ⟨m, ys, hM, hYe, g2, h52⟩ := fewB_true c2
        have hlx : leastRX N X = toN (leastN n xs) := by rw [leastRX, if_pos c1, hXe, hN, natsOf_toN, Int.toNat_natCast]
        have hly : leastRX M Y = toN (leastN m ys) := by rw [leastRX, if_pos c2, hYe, hM, natsOf_toN, Int.toNat_natCast]
        try simp (disch := first | omega | (simp; done) | fail) [wrap64c, if_pos, if_neg, opAnd, opOr, opXor, opDiff, opShr, opBit, gs0, gt0, c1, c2]
        refine WD_drawC 9 rfl (by kernel_rfl) ?_
        try simp (disch := first | omega | (simp; done) | fail) [wrap64c, if_pos, if_neg, opAnd, opOr, opXor, opDiff, opShr, opBit, gs0, gt0, c1, c2, hNM]
        exact done_ret rfl (by simp [alikeB, c1, c2, hNM, K0])
  subst hNM
  refine callY_P 27 _ [.tmp 4, .tmp 5] Try.func38 rfl rfl rfl (by first | rfl | simp) ?_
  obtain ⟨b, rfl, hX⟩ := hv
  obtain ⟨c, rfl, hY⟩ := hw
  try simp (disch := first | omega | (simp; done) | fail) [wrap64c, if_pos, if_neg, opAnd, opOr, opXor, opDiff, opShr, opBit]
  first | refine WY_heap fun h0 q_h0 => ?_ | refine callG_heap fun h0 q_h0 => ?_ | refine callP_heap fun h0 q_h0 => ?_ | refine RY_heap fun h0 q_h0 => ?_ | refine PY_heap fun h0 q_h0 => ?_ | refine doneY_heap fun h0 q_h0 => ?_ | refine loopK_heap fun h0 q_h0 => ?_ | refine thenY_heap fun h0 q_h0 => ?_ | refine thenM_heap fun h0 q_h0 => ?_
  have k0 : Adds h h0 := by rw [q_h0]; exact (by first | exact aK | exact kK)
  have n0 : h0.next = h.next + 2 := by simp [q_h0]
  have gs0 : h0.get h.next = .cells [.int .i64 N, b] true true 1 := by simp [q_h0]
  have gt0 : h0.get (h.next + 1) = .cells [.int .i64 N, c] true true 1 := by simp [q_h0]
  have hX0 := hX.keep k0.1
  have hY0 := hY.keep k0.1
  have K0 := k0.1
  try simp (disch := first | omega | (simp; done) | fail) [wrap64c, if_pos, if_neg, opAnd, opOr, opXor, opDiff, opShr, opBit, gs0, gt0]
  refine callG_c (by simp) (by simp) ?ha (isFew_ok h0 (.agg #[.int .i64 N, b]) N X (.mk hX0) hl) ?_
  (case ha => simp (disch := first | omega | (simp; done) | fail) [wrap64c, if_pos, if_neg, opAnd, opOr, opXor, opDiff, opShr, opBit, gs0, gt0])
  cases c1 : fewB N X
  · try simp (disch := first | omega | (simp; done) | fail) [wrap64c, if_pos, if_neg, opAnd, opOr, opXor, opDiff, opShr, opBit, gs0, gt0, c1]
    exact done_ret rfl (by simp [alikeB, c1, K0])
  · try simp (disch := first | omega | (simp; done) | fail) [wrap64c, if_pos, if_neg, opAnd, opOr, opXor, opDiff, opShr, opBit, gs0, gt0, c1]
    refine callG_c (by simp) (by simp) ?ha (isFew_ok h0 (.agg #[.int .i64 N, c]) N Y (.mk hY0) hl2) ?_
    (case ha => simp (disch := first | omega | (simp; done) | fail) [wrap64c, if_pos, if_neg, opAnd, opOr, opXor, opDiff, opShr, opBit, gs0, gt0, c1])
    cases c2 : fewB N Y
    · try simp (disch := first | omega | (simp; done) | fail) [wrap64c, if_pos, if_neg, opAnd, opOr, opXor, opDiff, opShr, opBit, gs0, gt0, c1, c2]
      exact done_ret rfl (by simp [alikeB, c1, c2, K0])
    · obtain ⟨n, xs, hN, hXe, g, h5⟩ := fewB_true c1
      obtain ⟨m, ys, hM, hYe, g2, h52⟩ := fewB_true c2
      have hlx : leastRX N X = toN (leastN n xs) := by rw [leastRX, if_pos c1, hXe, hN, natsOf_toN, Int.toNat_natCast]
      have hly : leastRX N Y = toN (leastN m ys) := by rw [leastRX, if_pos c2, hYe, hM, natsOf_toN, Int.toNat_natCast]
      try simp (disch := first | omega | (simp; done) | fail) [wrap64c, if_pos, if_neg, opAnd, opOr, opXor, opDiff, opShr, opBit, gs0, gt0, c1, c2]
      refine WD_drawC 9 rfl (by kernel_rfl) ?_
      try simp (disch := first | omega | (simp; done) | fail) [wrap64c, if_pos, if_neg, opAnd, opOr, opXor, opDiff, opShr, opBit, gs0, gt0, c1, c2]
      obtain ⟨u, h2, hc2, ha2, hd⟩ := leastNamed_ok h0 (.agg #[.int .i64 (n : Int), b]) n xs (.mk (hXe ▸ hX0)) g
      rw [← hN] at hc2
      refine callP_c (by simp) (by simp) ?ha (hc2) ?hadd ?_
      (case ha => simp (disch := first | omega | (simp; done) | fail) [wrap64c, if_pos, if_neg, opAnd, opOr, opXor, opDiff, opShr, opBit, gs0, gt0, c1, c2])
      (case hadd => first | assumption | exact adds_self _ | (simp; done))
      have gt2 : h2.get (h.next + 1) = .cells [.int .i64 N, c] true true 1 := by rw [ha2.1.2 _ (by omega)]; exact gt0
      have nn2 := ha2.1.1
      try simp (disch := first | omega | (simp; done) | fail) [wrap64c, if_pos, if_neg, opAnd, opOr, opXor, opDiff, opShr, opBit, gs0, gt0, c1, c2, gt2]
      obtain ⟨w, h3, hc3, ha3, he⟩ := leastNamed_ok h2 (.agg #[.int .i64 (m : Int), c]) m ys (.mk (hYe ▸ (hY0.keep ha2.1))) g2
      rw [← hM] at hc3
      refine callG_c (by simp) (by simp) ?ha (hc3) ?_
      (case ha => simp (disch := first | omega | (simp; done) | fail) [wrap64c, if_pos, if_neg, opAnd, opOr, opXor, opDiff, opShr, opBit, gs0, gt0, c1, c2, gt2])
      try simp (disch := first | omega | (simp; done) | fail) [wrap64c, if_pos, if_neg, opAnd, opOr, opXor, opDiff, opShr, opBit, gs0, gt0, c1, c2, gt2]
      refine callG_c (by simp) (by simp) ?ha (compare_ok h3 u w n m _ _ (hd.keep ha3.1).space he.space) ?_
      (case ha => simp (disch := first | omega | (simp; done) | fail) [wrap64c, if_pos, if_neg, opAnd, opOr, opXor, opDiff, opShr, opBit, gs0, gt0, c1, c2, gt2])
      have A3 := (k0.trans ha2).trans ha3
      by_cases hc : leastN n xs = leastN m ys
      · have hz : cmpL (toN (leastN n xs)) (toN (leastN m ys)) = 0 := by rw [cmpL_zero, hc]
        have hz2 : (cmpL (toN (leastN n xs)) (toN (leastN m ys)) == 0) = true := by simp [hz]
        try simp (disch := first | omega | (simp; done) | fail) [wrap64c, if_pos, if_neg, opAnd, opOr, opXor, opDiff, opShr, opBit, gs0, gt0, c1, c2, gt2, hz, hz2]
        exact done_ret rfl (by simp [alikeB, c1, c2, hlx, hly, hc, A3.1])
      · have hz : ¬ cmpL (toN (leastN n xs)) (toN (leastN m ys)) = 0 := by rw [cmpL_zero, toN_inj]; exact hc
        have hz2 : (cmpL (toN (leastN n xs)) (toN (leastN m ys)) == 0) = false := by simp [hz]
        try simp (disch := first | omega | (simp; done) | fail) [wrap64c, if_pos, if_neg, opAnd, opOr, opXor, opDiff, opShr, opBit, gs0, gt0, c1, c2, gt2, hz, hz2]
        exact done_ret rfl (by simp [alikeB, c1, c2, hlx, hly, toN_inj, hc, A3.1])
theorem specAlike_ok (h : Hp) (v : Value) (N : Int) (X : List Int) (hv : Space h v N X) (hl : X.length < 2 ^ 40) (w : Value) (M : Int) (Y : List Int) (hw : Space h w M Y) (hl2 : Y.length < 2 ^ 40) :
    CallOK Try.prog 37 #[v, w] h (.tuple #[.bool (alikeB N X M Y), .bool (fewB N X && fewB M Y)]) h := by
  by_cases hNM : N = M
  case neg =>
    refine callY_P 26 _ [.tmp 4, .tmp 5] Try.func37 rfl rfl rfl (by first | rfl | simp) ?_
    obtain ⟨b, rfl, hX⟩ := hv
    obtain ⟨c, rfl, hY⟩ := hw
    try simp (disch := first | omega | (simp; done) | fail) [wrap64c, if_pos, if_neg, opAnd, opOr, opXor, opDiff, opShr, opBit]
    first | refine WY_heap fun h0 q_h0 => ?_ | refine callG_heap fun h0 q_h0 => ?_ | refine callP_heap fun h0 q_h0 => ?_ | refine RY_heap fun h0 q_h0 => ?_ | refine PY_heap fun h0 q_h0 => ?_ | refine doneY_heap fun h0 q_h0 => ?_ | refine loopK_heap fun h0 q_h0 => ?_ | refine thenY_heap fun h0 q_h0 => ?_ | refine thenM_heap fun h0 q_h0 => ?_
    have k0 : Adds h h0 := by rw [q_h0]; exact (by first | exact aK | exact kK)
    have n0 : h0.next = h.next + 2 := by simp [q_h0]
    have gs0 : h0.get h.next = .cells [.int .i64 N, b] true true 1 := by simp [q_h0]
    have gt0 : h0.get (h.next + 1) = .cells [.int .i64 M, c] true true 1 := by simp [q_h0]
    have hX0 := hX.keep k0.1
    have hY0 := hY.keep k0.1
    have K0 := k0.1
    try simp (disch := first | omega | (simp; done) | fail) [wrap64c, if_pos, if_neg, opAnd, opOr, opXor, opDiff, opShr, opBit, gs0, gt0]
    refine callG_c (by simp) (by simp) ?ha (alFew_ok h0 (.agg #[.int .i64 N, b]) N X (.mk hX0) hl) ?_
    (case ha => simp (disch := first | omega | (simp; done) | fail) [wrap64c, if_pos, if_neg, opAnd, opOr, opXor, opDiff, opShr, opBit, gs0, gt0])
    cases c1 : fewB N X
    · try simp (disch := first | omega | (simp; done) | fail) [wrap64c, if_pos, if_neg, opAnd, opOr, opXor, opDiff, opShr, opBit, gs0, gt0, c1]
      exact done_ret rfl (by simp [alikeB, c1, K0])
    · try simp (disch := first | omega | (simp; done) | fail) [wrap64c, if_pos, if_neg, opAnd, opOr, opXor, opDiff, opShr, opBit, gs0, gt0, c1]
      refine callG_c (by simp) (by simp) ?ha (alFew_ok h0 (.agg #[.int .i64 M, c]) M Y (.mk hY0) hl2) ?_
      (case ha => simp (disch := first | omega | (simp; done) | fail) [wrap64c, if_pos, if_neg, opAnd, opOr, opXor, opDiff, opShr, opBit, gs0, gt0, c1])
      cases c2 : fewB M Y
      · try simp (disch := first | omega | (simp; done) | fail) [wrap64c, if_pos, if_neg, opAnd, opOr, opXor, opDiff, opShr, opBit, gs0, gt0, c1, c2]
        exact done_ret rfl (by simp [alikeB, c1, c2, K0])
      · obtain ⟨n, xs, hN, hXe, g, h5⟩ := fewB_true c1
        obtain ⟨m, ys, hM, hYe, g2, h52⟩ := fewB_true c2
        have hlx : leastRX N X = toN (leastN n xs) := by rw [leastRX, if_pos c1, hXe, hN, natsOf_toN, Int.toNat_natCast]
        have hly : leastRX M Y = toN (leastN m ys) := by rw [leastRX, if_pos c2, hYe, hM, natsOf_toN, Int.toNat_natCast]
        try simp (disch := first | omega | (simp; done) | fail) [wrap64c, if_pos, if_neg, opAnd, opOr, opXor, opDiff, opShr, opBit, gs0, gt0, c1, c2]
        refine WD_drawC 9 rfl (by kernel_rfl) ?_
        try simp (disch := first | omega | (simp; done) | fail) [wrap64c, if_pos, if_neg, opAnd, opOr, opXor, opDiff, opShr, opBit, gs0, gt0, c1, c2, hNM]
        exact done_ret rfl (by simp [alikeB, c1, c2, hNM, K0])
  subst hNM
  refine callY_P 26 _ [.tmp 4, .tmp 5] Try.func37 rfl rfl rfl (by first | rfl | simp) ?_
  obtain ⟨b, rfl, hX⟩ := hv
  obtain ⟨c, rfl, hY⟩ := hw
  try simp (disch := first | omega | (simp; done) | fail) [wrap64c, if_pos, if_neg, opAnd, opOr, opXor, opDiff, opShr, opBit]
  first | refine WY_heap fun h0 q_h0 => ?_ | refine callG_heap fun h0 q_h0 => ?_ | refine callP_heap fun h0 q_h0 => ?_ | refine RY_heap fun h0 q_h0 => ?_ | refine PY_heap fun h0 q_h0 => ?_ | refine doneY_heap fun h0 q_h0 => ?_ | refine loopK_heap fun h0 q_h0 => ?_ | refine thenY_heap fun h0 q_h0 => ?_ | refine thenM_heap fun h0 q_h0 => ?_
  have k0 : Adds h h0 := by rw [q_h0]; exact (by first | exact aK | exact kK)
  have n0 : h0.next = h.next + 2 := by simp [q_h0]
  have gs0 : h0.get h.next = .cells [.int .i64 N, b] true true 1 := by simp [q_h0]
  have gt0 : h0.get (h.next + 1) = .cells [.int .i64 N, c] true true 1 := by simp [q_h0]
  have hX0 := hX.keep k0.1
  have hY0 := hY.keep k0.1
  have K0 := k0.1
  try simp (disch := first | omega | (simp; done) | fail) [wrap64c, if_pos, if_neg, opAnd, opOr, opXor, opDiff, opShr, opBit, gs0, gt0]
  refine callG_c (by simp) (by simp) ?ha (alFew_ok h0 (.agg #[.int .i64 N, b]) N X (.mk hX0) hl) ?_
  (case ha => simp (disch := first | omega | (simp; done) | fail) [wrap64c, if_pos, if_neg, opAnd, opOr, opXor, opDiff, opShr, opBit, gs0, gt0])
  cases c1 : fewB N X
  · try simp (disch := first | omega | (simp; done) | fail) [wrap64c, if_pos, if_neg, opAnd, opOr, opXor, opDiff, opShr, opBit, gs0, gt0, c1]
    exact done_ret rfl (by simp [alikeB, c1, K0])
  · try simp (disch := first | omega | (simp; done) | fail) [wrap64c, if_pos, if_neg, opAnd, opOr, opXor, opDiff, opShr, opBit, gs0, gt0, c1]
    refine callG_c (by simp) (by simp) ?ha (alFew_ok h0 (.agg #[.int .i64 N, c]) N Y (.mk hY0) hl2) ?_
    (case ha => simp (disch := first | omega | (simp; done) | fail) [wrap64c, if_pos, if_neg, opAnd, opOr, opXor, opDiff, opShr, opBit, gs0, gt0, c1])
    cases c2 : fewB N Y
    · try simp (disch := first | omega | (simp; done) | fail) [wrap64c, if_pos, if_neg, opAnd, opOr, opXor, opDiff, opShr, opBit, gs0, gt0, c1, c2]
      exact done_ret rfl (by simp [alikeB, c1, c2, K0])
    · obtain ⟨n, xs, hN, hXe, g, h5⟩ := fewB_true c1
      obtain ⟨m, ys, hM, hYe, g2, h52⟩ := fewB_true c2
      have hlx : leastRX N X = toN (leastN n xs) := by rw [leastRX, if_pos c1, hXe, hN, natsOf_toN, Int.toNat_natCast]
      have hly : leastRX N Y = toN (leastN m ys) := by rw [leastRX, if_pos c2, hYe, hM, natsOf_toN, Int.toNat_natCast]
      try simp (disch := first | omega | (simp; done) | fail) [wrap64c, if_pos, if_neg, opAnd, opOr, opXor, opDiff, opShr, opBit, gs0, gt0, c1, c2]
      refine WD_drawC 9 rfl (by kernel_rfl) ?_
      try simp (disch := first | omega | (simp; done) | fail) [wrap64c, if_pos, if_neg, opAnd, opOr, opXor, opDiff, opShr, opBit, gs0, gt0, c1, c2]
      obtain ⟨u, h2, hc2, ha2, hd⟩ := alLeast_ok h0 (.agg #[.int .i64 (n : Int), b]) n xs (.mk (hXe ▸ hX0)) g
      rw [← hN] at hc2
      refine callP_c (by simp) (by simp) ?ha (hc2) ?hadd ?_
      (case ha => simp (disch := first | omega | (simp; done) | fail) [wrap64c, if_pos, if_neg, opAnd, opOr, opXor, opDiff, opShr, opBit, gs0, gt0, c1, c2])
      (case hadd => first | assumption | exact adds_self _ | (simp; done))
      have gt2 : h2.get (h.next + 1) = .cells [.int .i64 N, c] true true 1 := by rw [ha2.1.2 _ (by omega)]; exact gt0
      have nn2 := ha2.1.1
      try simp (disch := first | omega | (simp; done) | fail) [wrap64c, if_pos, if_neg, opAnd, opOr, opXor, opDiff, opShr, opBit, gs0, gt0, c1, c2, gt2]
      obtain ⟨w, h3, hc3, ha3, he⟩ := alLeast_ok h2 (.agg #[.int .i64 (m : Int), c]) m ys (.mk (hYe ▸ (hY0.keep ha2.1))) g2
      rw [← hM] at hc3
      refine callG_c (by simp) (by simp) ?ha (hc3) ?_
      (case ha => simp (disch := first | omega | (simp; done) | fail) [wrap64c, if_pos, if_neg, opAnd, opOr, opXor, opDiff, opShr, opBit, gs0, gt0, c1, c2, gt2])
      try simp (disch := first | omega | (simp; done) | fail) [wrap64c, if_pos, if_neg, opAnd, opOr, opXor, opDiff, opShr, opBit, gs0, gt0, c1, c2, gt2]
      refine callG_c (by simp) (by simp) ?ha (l1Same_ok h3 u w _ _ (hd.keep ha3.1).ints he.ints) ?_
      (case ha => simp (disch := first | omega | (simp; done) | fail) [wrap64c, if_pos, if_neg, opAnd, opOr, opXor, opDiff, opShr, opBit, gs0, gt0, c1, c2, gt2])
      have A3 := (k0.trans ha2).trans ha3
      by_cases hc : leastN n xs = leastN m ys
      · have hz : cmpL (toN (leastN n xs)) (toN (leastN m ys)) = 0 := by rw [cmpL_zero, hc]
        have hz2 : (cmpL (toN (leastN n xs)) (toN (leastN m ys)) == 0) = true := by simp [hz]
        try simp (disch := first | omega | (simp; done) | fail) [wrap64c, if_pos, if_neg, opAnd, opOr, opXor, opDiff, opShr, opBit, gs0, gt0, c1, c2, gt2, hz, hz2]
        exact done_ret rfl (by simp [alikeB, c1, c2, hlx, hly, hc, A3.1])
      · have hz : ¬ cmpL (toN (leastN n xs)) (toN (leastN m ys)) = 0 := by rw [cmpL_zero, toN_inj]; exact hc
        have hz2 : (cmpL (toN (leastN n xs)) (toN (leastN m ys)) == 0) = false := by simp [hz]
        try simp (disch := first | omega | (simp; done) | fail) [wrap64c, if_pos, if_neg, opAnd, opOr, opXor, opDiff, opShr, opBit, gs0, gt0, c1, c2, gt2, hz, hz2]
        exact done_ret rfl (by simp [alikeB, c1, c2, hlx, hly, toN_inj, hc, A3.1])
end Go.Proofs.Ytnjabaeajjhliaa
