/- What an item costs behind a set; whether a space and tasks go together. -/
import Derived.Test.YtnjabaeajjhliaaS20
namespace Go.Proofs.Ytnjabaeajjhliaa
set_option linter.unusedSimpArgs false
set_option linter.unusedVariables false
set_option maxHeartbeats 4000000
open Go Go.Eng
attribute [local irreducible] WD RunD PreD Runs CallOK

/-- The times of those below k that are not learnt. -/
def sumT (L : List Job) (s : Nat) : Nat → Int
  | 0 => 0
  | k + 1 => if s.testBit k = true then sumT L s k else sumT L s k + (jobAt L k).ti
def costN (L : List Job) (s i : Nat) : Int := (jobAt L i).ra * sumT L s L.length + (jobAt L i).ba
structure JobsOK (L : List Job) : Prop where
  n7 : L.length ≤ 7
  ok : ∀ k, k < L.length → jobOK (jobAt L k) = true
theorem JobsOK.at {L : List Job} (g : JobsOK L) {k : Nat} (hk : k < L.length) : (1 ≤ (jobAt L k).ti ∧ (jobAt L k).ti ≤ 9) ∧ (0 ≤ (jobAt L k).ra ∧ (jobAt L k).ra ≤ 9) ∧ (-100 ≤ (jobAt L k).ba ∧ (jobAt L k).ba ≤ 100) := jobOK_true (g.ok k hk)
theorem sumT_le {L : List Job} (g : JobsOK L) (s : Nat) : ∀ k, k ≤ L.length → 0 ≤ sumT L s k ∧ sumT L s k ≤ 9 * k
  | 0, _ => by simp [sumT]
  | k + 1, h => by
    have h1 := sumT_le g s k (by omega)
    have h2 := g.at (k := k) (by omega)
    rw [sumT]
    split <;> omega
theorem mul_le {a b : Int} (h1 : 0 ≤ a) (h2 : a ≤ 9) (h3 : 0 ≤ b) (h4 : b ≤ 63) : 0 ≤ a * b ∧ a * b ≤ 567 := by
  refine ⟨Int.mul_nonneg h1 h3, ?_⟩
  have h5 : a * b ≤ 9 * 63 := Int.mul_le_mul h2 h4 h3 (by omega)
  omega
theorem costN_le {L : List Job} (g : JobsOK L) (s : Nat) {i : Nat} (hi : i < L.length) : -100 ≤ costN L s i ∧ costN L s i ≤ 667 := by
  have h1 := sumT_le g s L.length (Nat.le_refl _)
  have h2 := g.at hi
  have h3 := g.n7
  have h4 := mul_le h2.2.1.1 h2.2.1.2 h1.1 (by omega)
  unfold costN
  omega

theorem cost_ok (h : Hp) (v : Value) (L : List Job) (s i : Nat) (hv : Jobs h v L) (g : JobsOK L) (hs : s < 128) (hi : i < L.length) :
    CallOK Try.prog 145 #[v, .int .i64 (s : Int), .int .i64 (i : Int)] h (.int .i64 (costN L s i)) h := by
  refine callY_P 40 _ [.tmp 6] Try.func145 rfl rfl rfl (by first | rfl | simp) ?_
  have hL := hv.lenD
  have n7 := g.n7
  try simp (disch := first | omega | (simp; done) | fail) [wrap64c, if_pos, if_neg, opAnd, opOr, opXor, opDiff, opShr, opBit, hL]
  refine WD_loopC [0, 1, 2, 10, 11] (fun m tm h' => ∃ j, m = L.length - j ∧ tm 7 = .int .i64 (sumT L s j) ∧ tm 12 = .int .i64 (j : Int) ∧ (j ≤ L.length) ∧ (Keeps h h')) _ ⟨0, rfl, (by simp [sumT]), (by simp (disch := first | omega | (simp; done) | fail) [wrap64c, if_pos, if_neg, opAnd, opOr, opXor, opDiff, opShr, opBit, hL]), (by first | omega | assumption | (simp (disch := first | omega | (simp; done) | fail) [wrap64c, if_pos, if_neg, opAnd, opOr, opXor, opDiff, opShr, opBit, hL] <;> omega)), (Keeps.refl _)⟩ ?_
  rintro m tm h' hFr ⟨j, rfl, e7, e12, hj, ha⟩
  simp only [FrameL] at hFr
  obtain ⟨f0_0, f1_0, f2_0, f10_0, f11_0, -⟩ := hFr
  try simp (disch := first | omega | (simp; done) | fail) [wrap64c, if_pos, if_neg, opAnd, opOr, opXor, opDiff, opShr, opBit, hL] at f0_0 f1_0 f2_0 f10_0 f11_0
  have e0 := f0_0
  have e1 := f1_0
  have e2 := f2_0
  have e10 := f10_0
  have e11 := f11_0
  have ha1 := ha.1
  by_cases hlt : j < L.length
  · have hv1 := hv.keep ha
    obtain ⟨o_x, i_x, c_x, cs_x, own_x, ex_x, es_x, q_x, b_x, g_x, l_x, r_x, s_x, t_x, u_x, ra_x, rb_x, rc_x⟩ := hv1.open ((by omega))
    have h1 := nShr_le s j
    have h2 := nShr_and01 s j
    have hsl := sumT_le g s j hj
    have hat := g.at hlt
    cases hb : s.testBit j
    · have h3 : nAnd (nShr s j) 1 = 0 := by rw [h2, hb]; rfl
      have hs1 : sumT L s (j + 1) = sumT L s j + (jobAt L j).ti := by rw [sumT, if_neg (by simp [hb])]
      try simp (disch := first | omega | (simp; done) | fail) [wrap64c, if_pos, if_neg, opAnd, opOr, opXor, opDiff, opShr, opBit, hL, e0, e1, e2, e7, e10, e11, e12, hlt, q_x, g_x, l_x, r_x, s_x, t_x, u_x, ra_x, rb_x, rc_x, h3, jobL, putCells]
      refine loopK_next _ ?hm ?hf ⟨j + 1, rfl, (by simp [hs1, e7]), (by simp (disch := first | omega | (simp; done) | fail) [wrap64c, if_pos, if_neg, opAnd, opOr, opXor, opDiff, opShr, opBit, hL, e0, e1, e2, e7, e10, e11, e12, hlt, q_x, g_x, l_x, r_x, s_x, t_x, u_x, ra_x, rb_x, rc_x, h3] <;> omega), (by first | omega | assumption | (simp (disch := first | omega | (simp; done) | fail) [wrap64c, if_pos, if_neg, opAnd, opOr, opXor, opDiff, opShr, opBit, hL, e0, e1, e2, e7, e10, e11, e12, hlt, q_x, g_x, l_x, r_x, s_x, t_x, u_x, ra_x, rb_x, rc_x, h3] <;> omega)), (by first | exact aK | exact kK)⟩
      (case hm => first | omega | (simp; omega))
      (case hf => simp [FrameL, hL, e0, e1, e2, e7, e10, e11, e12, hlt, q_x, g_x, l_x, r_x, s_x, t_x, u_x, ra_x, rb_x, rc_x, h3, f0_0, f1_0, f2_0, f10_0, f11_0])
    · have h3 : nAnd (nShr s j) 1 = 1 := by rw [h2, hb]; rfl
      have hs1 : sumT L s (j + 1) = sumT L s j := by rw [sumT, if_pos hb]
      try simp (disch := first | omega | (simp; done) | fail) [wrap64c, if_pos, if_neg, opAnd, opOr, opXor, opDiff, opShr, opBit, hL, e0, e1, e2, e7, e10, e11, e12, hlt, q_x, g_x, l_x, r_x, s_x, t_x, u_x, ra_x, rb_x, rc_x, h3, jobL, putCells]
      refine loopK_next _ ?hm ?hf ⟨j + 1, rfl, (by simp [hs1, e7]), (by simp (disch := first | omega | (simp; done) | fail) [wrap64c, if_pos, if_neg, opAnd, opOr, opXor, opDiff, opShr, opBit, hL, e0, e1, e2, e7, e10, e11, e12, hlt, q_x, g_x, l_x, r_x, s_x, t_x, u_x, ra_x, rb_x, rc_x, h3] <;> omega), (by first | omega | assumption | (simp (disch := first | omega | (simp; done) | fail) [wrap64c, if_pos, if_neg, opAnd, opOr, opXor, opDiff, opShr, opBit, hL, e0, e1, e2, e7, e10, e11, e12, hlt, q_x, g_x, l_x, r_x, s_x, t_x, u_x, ra_x, rb_x, rc_x, h3] <;> omega)), (by first | exact aK | exact kK)⟩
      (case hm => first | omega | (simp; omega))
      (case hf => simp [FrameL, hL, e0, e1, e2, e7, e10, e11, e12, hlt, q_x, g_x, l_x, r_x, s_x, t_x, u_x, ra_x, rb_x, rc_x, h3, f0_0, f1_0, f2_0, f10_0, f11_0])
  · have hje : j = L.length := by omega
    have hv1 := hv.keep ha
    obtain ⟨o_x, i_x, c_x, cs_x, own_x, ex_x, es_x, q_x, b_x, g_x, l_x, r_x, s_x, t_x, u_x, ra_x, rb_x, rc_x⟩ := hv1.open ((by omega))
    have hsl := sumT_le g s j hj
    have hat := g.at hi
    have hml := mul_le hat.2.1.1 hat.2.1.2 hsl.1 (by omega)
    try simp (disch := first | omega | (simp; done) | fail) [wrap64c, if_pos, if_neg, opAnd, opOr, opXor, opDiff, opShr, opBit, hL, e0, e1, e2, e7, e10, e11, e12, hlt, q_x, g_x, l_x, r_x, s_x, t_x, u_x, ra_x, rb_x, rc_x]
    refine WD_drawC 12 rfl (by kernel_rfl) ?_
    try simp (disch := first | omega | (simp; done) | fail) [wrap64c, if_pos, if_neg, opAnd, opOr, opXor, opDiff, opShr, opBit, hL, e0, e1, e2, e7, e10, e11, e12, hlt, q_x, g_x, l_x, r_x, s_x, t_x, u_x, ra_x, rb_x, rc_x]
    exact done_ret rfl (by simp [costN, hje, ha])

theorem grCost_ok (h : Hp) (v : Value) (L : List Job) (s i : Nat) (hv : Jobs h v L) (g : JobsOK L) (hs : s < 128) (hi : i < L.length) :
    CallOK Try.prog 135 #[v, .int .i64 (s : Int), .int .i64 (i : Int)] h (.int .i64 (costN L s i)) h := by
  refine callY_P 39 _ [.tmp 6] Try.func135 rfl rfl rfl (by first | rfl | simp) ?_
  have hL := hv.lenD
  have n7 := g.n7
  try simp (disch := first | omega | (simp; done) | fail) [wrap64c, if_pos, if_neg, opAnd, opOr, opXor, opDiff, opShr, opBit, hL]
  refine WD_loopC [0, 1, 2, 10, 11] (fun m tm h' => ∃ j, m = L.length - j ∧ tm 7 = .int .i64 (sumT L s j) ∧ tm 12 = .int .i64 (j : Int) ∧ (j ≤ L.length) ∧ (Keeps h h')) _ ⟨0, rfl, (by simp [sumT]), (by simp (disch := first | omega | (simp; done) | fail) [wrap64c, if_pos, if_neg, opAnd, opOr, opXor, opDiff, opShr, opBit, hL]), (by first | omega | assumption | (simp (disch := first | omega | (simp; done) | fail) [wrap64c, if_pos, if_neg, opAnd, opOr, opXor, opDiff, opShr, opBit, hL] <;> omega)), (Keeps.refl _)⟩ ?_
  rintro m tm h' hFr ⟨j, rfl, e7, e12, hj, ha⟩
  simp only [FrameL] at hFr
  obtain ⟨f0_0, f1_0, f2_0, f10_0, f11_0, -⟩ := hFr
  try simp (disch := first | omega | (simp; done) | fail) [wrap64c, if_pos, if_neg, opAnd, opOr, opXor, opDiff, opShr, opBit, hL] at f0_0 f1_0 f2_0 f10_0 f11_0
  have e0 := f0_0
  have e1 := f1_0
  have e2 := f2_0
  have e10 := f10_0
  have e11 := f11_0
  have ha1 := ha.1
  by_cases hlt : j < L.length
  · have hv1 := hv.keep ha
    obtain ⟨o_x, i_x, c_x, cs_x, own_x, ex_x, es_x, q_x, b_x, g_x, l_x, r_x, s_x, t_x, u_x, ra_x, rb_x, rc_x⟩ := hv1.open ((by omega))
    have hsl := sumT_le g s j hj
    have hat := g.at hlt
    try simp (disch := first | omega | (simp; done) | fail) [wrap64c, if_pos, if_neg, opAnd, opOr, opXor, opDiff, opShr, opBit, hL, e0, e1, e2, e7, e10, e11, e12, hlt, q_x, g_x, l_x, r_x, s_x, t_x, u_x, ra_x, rb_x, rc_x, jobL, putCells]
    first | refine WY_heap fun h2 q_h2 => ?_ | refine callG_heap fun h2 q_h2 => ?_ | refine callP_heap fun h2 q_h2 => ?_ | refine RY_heap fun h2 q_h2 => ?_ | refine PY_heap fun h2 q_h2 => ?_ | refine doneY_heap fun h2 q_h2 => ?_ | refine loopK_heap fun h2 q_h2 => ?_ | refine thenY_heap fun h2 q_h2 => ?_ | refine thenM_heap fun h2 q_h2 => ?_
    have k2 : Keeps h h2 := by rw [q_h2]; exact (by first | exact aK | exact kK)
    have g2 : h2.get h'.next = .cells [.int .i64 (jobAt L j).ti, .int .i64 (jobAt L j).ra, .int .i64 (jobAt L j).ba] true true 1 := by simp [q_h2, putCells]
    refine callG_c (by simp) (by simp) ?ha (spIn_ok h2 s j (by omega) (by omega)) ?_
    (case ha => simp (disch := first | omega | (simp; done) | fail) [wrap64c, if_pos, if_neg, opAnd, opOr, opXor, opDiff, opShr, opBit, hL, e0, e1, e2, e7, e10, e11, e12, hlt, q_x, g_x, l_x, r_x, s_x, t_x, u_x, ra_x, rb_x, rc_x, g2])
    cases hb : s.testBit j
    · have hs1 : sumT L s (j + 1) = sumT L s j + (jobAt L j).ti := by rw [sumT, if_neg (by simp [hb])]
      try simp (disch := first | omega | (simp; done) | fail) [wrap64c, if_pos, if_neg, opAnd, opOr, opXor, opDiff, opShr, opBit, hL, e0, e1, e2, e7, e10, e11, e12, hlt, q_x, g_x, l_x, r_x, s_x, t_x, u_x, ra_x, rb_x, rc_x, g2, hb]
      refine loopK_next _ ?hm ?hf ⟨j + 1, rfl, (by simp [hs1, e7]), (by simp (disch := first | omega | (simp; done) | fail) [wrap64c, if_pos, if_neg, opAnd, opOr, opXor, opDiff, opShr, opBit, hL, e0, e1, e2, e7, e10, e11, e12, hlt, q_x, g_x, l_x, r_x, s_x, t_x, u_x, ra_x, rb_x, rc_x, g2, hb] <;> omega), (by first | omega | assumption | (simp (disch := first | omega | (simp; done) | fail) [wrap64c, if_pos, if_neg, opAnd, opOr, opXor, opDiff, opShr, opBit, hL, e0, e1, e2, e7, e10, e11, e12, hlt, q_x, g_x, l_x, r_x, s_x, t_x, u_x, ra_x, rb_x, rc_x, g2, hb] <;> omega)), k2⟩
      (case hm => first | omega | (simp; omega))
      (case hf => simp [FrameL, hL, e0, e1, e2, e7, e10, e11, e12, hlt, q_x, g_x, l_x, r_x, s_x, t_x, u_x, ra_x, rb_x, rc_x, g2, hb, f0_0, f1_0, f2_0, f10_0, f11_0])
    · have hs1 : sumT L s (j + 1) = sumT L s j := by rw [sumT, if_pos hb]
      try simp (disch := first | omega | (simp; done) | fail) [wrap64c, if_pos, if_neg, opAnd, opOr, opXor, opDiff, opShr, opBit, hL, e0, e1, e2, e7, e10, e11, e12, hlt, q_x, g_x, l_x, r_x, s_x, t_x, u_x, ra_x, rb_x, rc_x, g2, hb]
      refine loopK_next _ ?hm ?hf ⟨j + 1, rfl, (by simp [hs1, e7]), (by simp (disch := first | omega | (simp; done) | fail) [wrap64c, if_pos, if_neg, opAnd, opOr, opXor, opDiff, opShr, opBit, hL, e0, e1, e2, e7, e10, e11, e12, hlt, q_x, g_x, l_x, r_x, s_x, t_x, u_x, ra_x, rb_x, rc_x, g2, hb] <;> omega), (by first | omega | assumption | (simp (disch := first | omega | (simp; done) | fail) [wrap64c, if_pos, if_neg, opAnd, opOr, opXor, opDiff, opShr, opBit, hL, e0, e1, e2, e7, e10, e11, e12, hlt, q_x, g_x, l_x, r_x, s_x, t_x, u_x, ra_x, rb_x, rc_x, g2, hb] <;> omega)), k2⟩
      (case hm => first | omega | (simp; omega))
      (case hf => simp [FrameL, hL, e0, e1, e2, e7, e10, e11, e12, hlt, q_x, g_x, l_x, r_x, s_x, t_x, u_x, ra_x, rb_x, rc_x, g2, hb, f0_0, f1_0, f2_0, f10_0, f11_0])
  · have hje : j = L.length := by omega
    have hv1 := hv.keep ha
    obtain ⟨o_x, i_x, c_x, cs_x, own_x, ex_x, es_x, q_x, b_x, g_x, l_x, r_x, s_x, t_x, u_x, ra_x, rb_x, rc_x⟩ := hv1.open ((by omega))
    have hsl := sumT_le g s j hj
    have hat := g.at hi
    have hml := mul_le hat.2.1.1 hat.2.1.2 hsl.1 (by omega)
    try simp (disch := first | omega | (simp; done) | fail) [wrap64c, if_pos, if_neg, opAnd, opOr, opXor, opDiff, opShr, opBit, hL, e0, e1, e2, e7, e10, e11, e12, hlt, q_x, g_x, l_x, r_x, s_x, t_x, u_x, ra_x, rb_x, rc_x]
    refine WD_drawC 12 rfl (by kernel_rfl) ?_
    try simp (disch := first | omega | (simp; done) | fail) [wrap64c, if_pos, if_neg, opAnd, opOr, opXor, opDiff, opShr, opBit, hL, e0, e1, e2, e7, e10, e11, e12, hlt, q_x, g_x, l_x, r_x, s_x, t_x, u_x, ra_x, rb_x, rc_x]
    exact done_ret rfl (by simp [costN, hje, ha])
end Go.Proofs.Ytnjabaeajjhliaa
