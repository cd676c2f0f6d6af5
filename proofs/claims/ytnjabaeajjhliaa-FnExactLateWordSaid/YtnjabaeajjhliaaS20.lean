/- Lists of tasks as one value: sizes, copies, comparisons; what tasks are; what an item costs behind a set. -/
import Derived.Test.YtnjabaeajjhliaaS9
import Derived.Test.YtnjabaeajjhliaaEngZd
namespace Go.Proofs.Ytnjabaeajjhliaa
set_option linter.unusedSimpArgs false
set_option linter.unusedVariables false
set_option maxHeartbeats 4000000
open Go Go.Eng
attribute [local irreducible] WD RunD PreD Runs CallOK

def szJ (k : Int) (L : List Job) : Int := if k - (L.length : Int) < 0 then -1 else k - L.length
theorem szJ_len {k : Int} {L : List Job} (h : ¬ szJ k L < 0) : (L.length : Int) ≤ k ∧ szJ k L = k - L.length := by
  unfold szJ at h ⊢
  by_cases hn : k - (L.length : Int) < 0
  · rw [if_pos hn] at h; omega
  · rw [if_neg hn]; omega
theorem szTaskS_ok (h : Hp) (v : Value) (L : List Job) (k : Int) (hv : Jobs h v L) (h0 : 0 ≤ k) (h1 : k < 2 ^ 40) : CallOK Try.prog 39 #[v, .int .i64 k] h (.int .i64 (szJ k L)) h := by
  refine callY_P 12 _ [.tmp 4] Try.func39 rfl rfl rfl (by first | rfl | simp) ?_
  have hL := hv.lenD
  obtain ⟨s, c, hform, hlc, hcc⟩ := hv.form
  by_cases hn : k - (L.length : Int) < 0
  · try simp (disch := first | omega | (simp; done) | fail) [wrap64c, if_pos, if_neg, opAnd, opOr, opXor, opDiff, opShr, opBit, hL, hn]
    exact done_ret rfl (by simp [szJ, hn])
  · try simp (disch := first | omega | (simp; done) | fail) [wrap64c, if_pos, if_neg, opAnd, opOr, opXor, opDiff, opShr, opBit, hL, hn]
    exact done_ret rfl (by simp [szJ, hn])

theorem toTask_ok (h : Hp) (t r b : Int) : CallOK Try.prog 88 #[.agg #[.int .i64 t, .int .i64 r, .int .i64 b]] h (.agg #[.int .i64 t, .int .i64 r, .int .i64 b]) h := by
  refine callY_P 14 _ [.cell 2 95] Try.func88 rfl rfl rfl (by first | rfl | simp) ?_
  refine WD_first ?_
  try simp (disch := first | omega | (simp; done) | fail) [wrap64c, if_pos, if_neg, opAnd, opOr, opXor, opDiff, opShr, opBit]
  refine stopK_go ?_
  refine WD_first ?_
  try simp (disch := first | omega | (simp; done) | fail) [wrap64c, if_pos, if_neg, opAnd, opOr, opXor, opDiff, opShr, opBit]
  refine stopK_heap fun h0 q_h0 => ?_
  refine stopK_go ?_
  have k0 : Adds h h0 := by rw [q_h0]; exact (by first | exact aK | exact kK)
  have n0 : h0.next = h.next + 3 := by simp [q_h0]
  have g0 : h0.get h.next = .cells [.int .i64 t, .int .i64 r, .int .i64 b] true true 1 := by simp [q_h0]
  have g1 : h0.get (h.next + 1) = .cells [.int .i64 0, .int .i64 0, .int .i64 0] true true 1 := by simp [q_h0]
  have g2 : h0.get (h.next + 2) = .cells [.int .i64 0, .int .i64 0, .int .i64 0] true true 1 := by simp [q_h0]
  try simp (disch := first | omega | (simp; done) | fail) [wrap64c, if_pos, if_neg, opAnd, opOr, opXor, opDiff, opShr, opBit, g0, g1, g2, putCells]
  exact done_ret (by simp [putCells, g1, g2]; rfl) (by simp; exact (by first | exact aK | exact kK))

theorem toTaskS_ok (h : Hp) (v : Value) (L : List Job) (hv : Jobs h v L) (hl : L.length < 2 ^ 40) :
    ∃ v' h', CallOK Try.prog 41 #[v] h v' h' ∧ Adds h h' ∧ Jobs h' v' L := by
  refine callY_L (args := [v]) 23 _ [.tmp 2] Try.func41 rfl rfl rfl ?_
  have hL := hv.lenD
  have hz := zcells_job L.length
  have hz2 := jobsC_zero L
  try simp (disch := first | omega | (simp; done) | fail) [wrap64c, if_pos, if_neg, opAnd, opOr, opXor, opDiff, opShr, opBit, hL, hz, hz2]
  refine WD_loopC [0, 3] (fun m tm h' => ∃ j, m = L.length - j ∧ tm 4 = .int .i64 (j : Int) ∧ (j ≤ L.length) ∧ (Adds h h') ∧ (h'.next = h.next + 1) ∧ (h'.get h.next = .cells (jobsC L j) true true 3)) _ ⟨0, rfl, (by simp (disch := first | omega | (simp; done) | fail) [wrap64c, if_pos, if_neg, opAnd, opOr, opXor, opDiff, opShr, opBit, hL, hz, hz2]), (by first | omega | assumption | (simp (disch := first | omega | (simp; done) | fail) [wrap64c, if_pos, if_neg, opAnd, opOr, opXor, opDiff, opShr, opBit, hL, hz, hz2] <;> omega)), (by first | exact aK | exact kK), (by simp), (by simp [hz, hz2])⟩ ?_
  rintro m tm h' hFr ⟨j, rfl, e4, hj, ha, hn1, hg⟩
  simp only [FrameL] at hFr
  obtain ⟨f0_0, f3_0, -⟩ := hFr
  try simp (disch := first | omega | (simp; done) | fail) [wrap64c, if_pos, if_neg, opAnd, opOr, opXor, opDiff, opShr, opBit, hL, hz, hz2] at f0_0 f3_0
  have e0 := f0_0
  have e3 := f3_0
  by_cases hlt : j < L.length
  · obtain ⟨o_x, i_x, c_x, cs_x, own_x, ex_x, es_x, q_x, b_x, g_x, l_x, r_x, s_x, t_x, u_x, ra_x, rb_x, rc_x⟩ := (hv.keep ha.1).open ((by omega))
    have hcl := jobsC_length hj
    try simp (disch := first | omega | (simp; done) | fail) [wrap64c, if_pos, if_neg, opAnd, opOr, opXor, opDiff, opShr, opBit, hL, hz, hz2, e0, e3, e4, hg, hlt, q_x, g_x, l_x, r_x, s_x, t_x, u_x, ra_x, rb_x, rc_x, hcl, jobL]
    refine callG_c (by simp) (by simp) ?ha (toTask_ok h' (jobAt L j).ti (jobAt L j).ra (jobAt L j).ba) ?_
    (case ha => simp (disch := first | omega | (simp; done) | fail) [wrap64c, if_pos, if_neg, opAnd, opOr, opXor, opDiff, opShr, opBit, hL, hz, hz2, e0, e3, e4, hg, hlt, q_x, g_x, l_x, r_x, s_x, t_x, u_x, ra_x, rb_x, rc_x, hcl, jobL])
    have hp := jobsC_put hlt
    try simp (disch := first | omega | (simp; done) | fail) [wrap64c, if_pos, if_neg, opAnd, opOr, opXor, opDiff, opShr, opBit, hL, hz, hz2, e0, e3, e4, hg, hlt, q_x, g_x, l_x, r_x, s_x, t_x, u_x, ra_x, rb_x, rc_x, hcl]
    refine loopK_next _ ?hm ?hf ⟨j + 1, rfl, (by simp (disch := first | omega | (simp; done) | fail) [wrap64c, if_pos, if_neg, opAnd, opOr, opXor, opDiff, opShr, opBit, hL, hz, hz2, e0, e3, e4, hg, hlt, q_x, g_x, l_x, r_x, s_x, t_x, u_x, ra_x, rb_x, rc_x, hcl] <;> omega), (by first | omega | assumption | (simp (disch := first | omega | (simp; done) | fail) [wrap64c, if_pos, if_neg, opAnd, opOr, opXor, opDiff, opShr, opBit, hL, hz, hz2, e0, e3, e4, hg, hlt, q_x, g_x, l_x, r_x, s_x, t_x, u_x, ra_x, rb_x, rc_x, hcl] <;> omega)), (by first | exact aK | exact kK), (by simpa using hn1), (by simpa [jobL] using hp)⟩
    (case hm => first | omega | (simp; omega))
    (case hf => simp [FrameL, hL, hz, hz2, e0, e3, e4, hg, hlt, q_x, g_x, l_x, r_x, s_x, t_x, u_x, ra_x, rb_x, rc_x, hcl, f0_0, f3_0])
  · try simp (disch := first | omega | (simp; done) | fail) [wrap64c, if_pos, if_neg, opAnd, opOr, opXor, opDiff, opShr, opBit, hL, hz, hz2, e0, e3, e4, hg, hlt]
    have e : j = L.length := by omega
    subst e
    rw [jobsC_full] at hg
    exact done_ret rfl ⟨ha, Jobs.mk (by omega) (by omega) hg⟩

theorem eqTask_ok (h : Hp) (t r b t' r' b' : Int) : CallOK Try.prog 93 #[.agg #[.int .i64 t, .int .i64 r, .int .i64 b], .agg #[.int .i64 t', .int .i64 r', .int .i64 b']] h (.bool (decide (t = t' ∧ r = r' ∧ b = b'))) h := by
  refine callY_P 20 _ [.tmp 4] Try.func93 rfl rfl rfl (by first | rfl | simp) ?_
  refine WD_first ?_
  try simp (disch := first | omega | (simp; done) | fail) [wrap64c, if_pos, if_neg, opAnd, opOr, opXor, opDiff, opShr, opBit]
  refine stopK_heap fun h0 q_h0 => ?_
  refine stopK_go ?_
  have k0 : Adds h h0 := by rw [q_h0]; exact (by first | exact aK | exact kK)
  have g0 : h0.get h.next = .cells [.int .i64 t, .int .i64 r, .int .i64 b] true true 1 := by simp [q_h0]
  have g1 : h0.get (h.next + 1) = .cells [.int .i64 t', .int .i64 r', .int .i64 b'] true true 1 := by simp [q_h0]
  by_cases h1 : t = t'
  · have hb1 : (t != t') = false := by simp [h1]
    by_cases h2 : r = r'
    · have hb2 : (r != r') = false := by simp [h2]
      by_cases h3 : b = b'
      · have hb3 : (b != b') = false := by simp [h3]
        try simp (disch := first | omega | (simp; done) | fail) [wrap64c, if_pos, if_neg, opAnd, opOr, opXor, opDiff, opShr, opBit, g0, g1, hb1, hb2, hb3]
        exact done_ret rfl (by simp [h1, h2, h3, k0.1])
      · have hb3 : (b != b') = true := by simp [h3]
        try simp (disch := first | omega | (simp; done) | fail) [wrap64c, if_pos, if_neg, opAnd, opOr, opXor, opDiff, opShr, opBit, g0, g1, hb1, hb2, hb3]
        exact done_ret rfl (by simp [h1, h2, h3, k0.1])
    · have hb2 : (r != r') = true := by simp [h2]
      try simp (disch := first | omega | (simp; done) | fail) [wrap64c, if_pos, if_neg, opAnd, opOr, opXor, opDiff, opShr, opBit, g0, g1, hb1, hb2]
      exact done_ret rfl (by simp [h1, h2, k0.1])
  · have hb1 : (t != t') = true := by simp [h1]
    try simp (disch := first | omega | (simp; done) | fail) [wrap64c, if_pos, if_neg, opAnd, opOr, opXor, opDiff, opShr, opBit, g0, g1, hb1]
    exact done_ret rfl (by simp [h1, k0.1])

theorem jobAt_ext {L M : List Job} (hl : L.length = M.length) (h : ∀ k, k < L.length → (jobAt L k).ti = (jobAt M k).ti ∧ (jobAt L k).ra = (jobAt M k).ra ∧ (jobAt L k).ba = (jobAt M k).ba) : L = M := by
  apply List.ext_getElem hl
  intro k h1 h2
  have := h k h1
  rw [jobAt_eq h1, jobAt_eq h2] at this
  exact Job.ext' this.1 this.2.1 this.2.2
/-- Whether two lists are alike. -/
noncomputable def eqJ (L M : List Job) : Bool := @decide (L = M) (Classical.propDecidable _)
theorem eqJ_self (L : List Job) : eqJ L L = true := by simp [eqJ]
theorem eqJ_of {L M : List Job} (h : L = M) : eqJ L M = true := by subst h; exact eqJ_self _
theorem eqJ_no {L M : List Job} (h : L ≠ M) : eqJ L M = false := by simp [eqJ, h]

theorem eqTaskS_ok (h : Hp) (v w : Value) (L M : List Job) (hv : Jobs h v L) (hw : Jobs h w M) : CallOK Try.prog 43 #[v, w] h (.bool (eqJ L M)) h := by
  refine callY_P 27 _ [.tmp 4] Try.func43 rfl rfl rfl (by first | rfl | simp) ?_
  have hL := hv.lenD
  have hM := hw.lenD
  obtain ⟨s, c, hform, hlc, hcc⟩ := hv.form
  by_cases hl : L.length = M.length
  · have hlb : ((L.length : Int) != (M.length : Int)) = false := by simp [hl]
    try simp (disch := first | omega | (simp; done) | fail) [wrap64c, if_pos, if_neg, opAnd, opOr, opXor, opDiff, opShr, opBit, hL, hM, hlb]
    refine WD_loopC [0, 1] (fun m tm h' => ∃ j, m = L.length - j ∧ h = h' ∧ tm 5 = .int .i64 (j : Int) ∧ (j ≤ L.length) ∧ (∀ k, k < j → (jobAt L k).ti = (jobAt M k).ti ∧ (jobAt L k).ra = (jobAt M k).ra ∧ (jobAt L k).ba = (jobAt M k).ba)) _ ⟨0, rfl, rfl, (by simp (disch := first | omega | (simp; done) | fail) [wrap64c, if_pos, if_neg, opAnd, opOr, opXor, opDiff, opShr, opBit, hL, hM, hlb]), (by first | omega | assumption | (simp (disch := first | omega | (simp; done) | fail) [wrap64c, if_pos, if_neg, opAnd, opOr, opXor, opDiff, opShr, opBit, hL, hM, hlb] <;> omega)), (by intro k hk; omega)⟩ ?_
    rintro m tm h' hFr ⟨j, rfl, rfl, e5, hj, hx⟩
    simp only [FrameL] at hFr
    obtain ⟨f0_0, f1_0, -⟩ := hFr
    try simp (disch := first | omega | (simp; done) | fail) [wrap64c, if_pos, if_neg, opAnd, opOr, opXor, opDiff, opShr, opBit, hL, hM, hlb] at f0_0 f1_0
    have e0 := f0_0
    have e1 := f1_0
    by_cases hlt : j < L.length
    · obtain ⟨o_x, i_x, c_x, cs_x, own_x, ex_x, es_x, q_x, b_x, g_x, l_x, r_x, s_x, t_x, u_x, ra_x, rb_x, rc_x⟩ := hv.open ((by omega))
      have hlt2 : j < M.length := by omega
      obtain ⟨o_y, i_y, c_y, cs_y, own_y, ex_y, es_y, q_y, b_y, g_y, l_y, r_y, s_y, t_y, u_y, ra_y, rb_y, rc_y⟩ := hw.open ((by omega))
      try simp (disch := first | omega | (simp; done) | fail) [wrap64c, if_pos, if_neg, opAnd, opOr, opXor, opDiff, opShr, opBit, hL, hM, hlb, e0, e1, e5, hlt, q_x, g_x, l_x, r_x, s_x, t_x, u_x, ra_x, rb_x, rc_x, hlt2, q_y, g_y, l_y, r_y, s_y, t_y, u_y, ra_y, rb_y, rc_y, jobL]
      refine WD_drawC 8 rfl (by kernel_rfl) ?_
      try simp (disch := first | omega | (simp; done) | fail) [wrap64c, if_pos, if_neg, opAnd, opOr, opXor, opDiff, opShr, opBit, hL, hM, hlb, e0, e1, e5, hlt, q_x, g_x, l_x, r_x, s_x, t_x, u_x, ra_x, rb_x, rc_x, hlt2, q_y, g_y, l_y, r_y, s_y, t_y, u_y, ra_y, rb_y, rc_y, jobL]
      refine callG_c (by simp) (by simp) ?ha (eqTask_ok h (jobAt L j).ti (jobAt L j).ra (jobAt L j).ba (jobAt M j).ti (jobAt M j).ra (jobAt M j).ba) ?_
      (case ha => simp (disch := first | omega | (simp; done) | fail) [wrap64c, if_pos, if_neg, opAnd, opOr, opXor, opDiff, opShr, opBit, hL, hM, hlb, e0, e1, e5, hlt, q_x, g_x, l_x, r_x, s_x, t_x, u_x, ra_x, rb_x, rc_x, hlt2, q_y, g_y, l_y, r_y, s_y, t_y, u_y, ra_y, rb_y, rc_y, jobL])
      by_cases he : (jobAt L j).ti = (jobAt M j).ti ∧ (jobAt L j).ra = (jobAt M j).ra ∧ (jobAt L j).ba = (jobAt M j).ba
      · have hb := decide_eq_true he
        try simp (disch := first | omega | (simp; done) | fail) [wrap64c, if_pos, if_neg, opAnd, opOr, opXor, opDiff, opShr, opBit, hL, hM, hlb, e0, e1, e5, hlt, q_x, g_x, l_x, r_x, s_x, t_x, u_x, ra_x, rb_x, rc_x, hlt2, q_y, g_y, l_y, r_y, s_y, t_y, u_y, ra_y, rb_y, rc_y, hb]
        refine loopK_next _ ?hm ?hf ⟨j + 1, rfl, rfl, (by simp (disch := first | omega | (simp; done) | fail) [wrap64c, if_pos, if_neg, opAnd, opOr, opXor, opDiff, opShr, opBit, hL, hM, hlb, e0, e1, e5, hlt, q_x, g_x, l_x, r_x, s_x, t_x, u_x, ra_x, rb_x, rc_x, hlt2, q_y, g_y, l_y, r_y, s_y, t_y, u_y, ra_y, rb_y, rc_y] <;> omega), (by first | omega | assumption | (simp (disch := first | omega | (simp; done) | fail) [wrap64c, if_pos, if_neg, opAnd, opOr, opXor, opDiff, opShr, opBit, hL, hM, hlb, e0, e1, e5, hlt, q_x, g_x, l_x, r_x, s_x, t_x, u_x, ra_x, rb_x, rc_x, hlt2, q_y, g_y, l_y, r_y, s_y, t_y, u_y, ra_y, rb_y, rc_y] <;> omega)), ?c_hx⟩
        (case hm => first | omega | (simp; omega))
        (case hf => simp [FrameL, hL, hM, hlb, e0, e1, e5, hlt, q_x, g_x, l_x, r_x, s_x, t_x, u_x, ra_x, rb_x, rc_x, hlt2, q_y, g_y, l_y, r_y, s_y, t_y, u_y, ra_y, rb_y, rc_y, f0_0, f1_0])
        case c_hx =>
          exact (fun k hk => by
            by_cases e : k = j
            · subst e; exact he
            · exact hx k (by omega))
      · have hb := decide_eq_false he
        try simp (disch := first | omega | (simp; done) | fail) [wrap64c, if_pos, if_neg, opAnd, opOr, opXor, opDiff, opShr, opBit, hL, hM, hlb, e0, e1, e5, hlt, q_x, g_x, l_x, r_x, s_x, t_x, u_x, ra_x, rb_x, rc_x, hlt2, q_y, g_y, l_y, r_y, s_y, t_y, u_y, ra_y, rb_y, rc_y, hb]
        have hne : L ≠ M := fun e => he (by rw [e]; exact ⟨rfl, rfl, rfl⟩)
        exact done_ret rfl (by simp [eqJ_no hne])
    · try simp (disch := first | omega | (simp; done) | fail) [wrap64c, if_pos, if_neg, opAnd, opOr, opXor, opDiff, opShr, opBit, hL, hM, hlb, e0, e1, e5, hlt]
      have e : L = M := jobAt_ext hl fun k hk => hx k (by omega)
      exact done_ret rfl (by simp [eqJ_of e])
  · have hlb : ((L.length : Int) != (M.length : Int)) = true := by simp; omega
    try simp (disch := first | omega | (simp; done) | fail) [wrap64c, if_pos, if_neg, opAnd, opOr, opXor, opDiff, opShr, opBit, hL, hM, hlb]
    have hne : L ≠ M := fun e => hl (by rw [e])
    exact done_ret rfl (by simp [eqJ_no hne])

/-- A task as it should be. -/
def jobOK (j : Job) : Bool := decide ((1 ≤ j.ti ∧ j.ti ≤ 9) ∧ (0 ≤ j.ra ∧ j.ra ≤ 9) ∧ (-100 ≤ j.ba ∧ j.ba ≤ 100))
def jobsB (L : List Job) (N : Int) : Bool := sizeB N && decide ((L.length : Int) = N) && decide (∀ k, k < L.length → jobOK (jobAt L k) = true)
theorem jobOK_true {j : Job} (h : jobOK j = true) : (1 ≤ j.ti ∧ j.ti ≤ 9) ∧ (0 ≤ j.ra ∧ j.ra ≤ 9) ∧ (-100 ≤ j.ba ∧ j.ba ≤ 100) := of_decide_eq_true h
theorem jobsB_true {L : List Job} {N : Int} (h : jobsB L N = true) : sizeB N = true ∧ (L.length : Int) = N ∧ ∀ k, k < L.length → jobOK (jobAt L k) = true := by
  unfold jobsB at h
  simp only [Bool.and_eq_true, decide_eq_true_eq] at h
  exact ⟨h.1.1, h.1.2, h.2⟩
theorem jobsB_of {L : List Job} {N : Int} (h1 : sizeB N = true) (h2 : (L.length : Int) = N) (h3 : ∀ k, k < L.length → jobOK (jobAt L k) = true) : jobsB L N = true := by
  unfold jobsB
  simp only [Bool.and_eq_true, decide_eq_true_eq]
  exact ⟨⟨h1, h2⟩, h3⟩
theorem jobsB_no {L : List Job} {N : Int} (h : (sizeB N = true → (L.length : Int) = N → (∀ k, k < L.length → jobOK (jobAt L k) = true) → False)) : jobsB L N = false := by
  cases hb : jobsB L N
  · rfl
  · obtain ⟨h1, h2, h3⟩ := jobsB_true hb
    exact (h h1 h2 h3).elim

theorem jobBad_ok (h : Hp) (t r b : Int) : CallOK Try.prog 187 #[.agg #[.int .i64 t, .int .i64 r, .int .i64 b]] h (.bool (!jobOK ⟨t, r, b⟩)) h := by
  refine callY_P 19 _ [.tmp 2] Try.func187 rfl rfl rfl (by first | rfl | simp) ?_
  refine WD_first ?_
  try simp (disch := first | omega | (simp; done) | fail) [wrap64c, if_pos, if_neg, opAnd, opOr, opXor, opDiff, opShr, opBit]
  refine stopK_heap fun h0 q_h0 => ?_
  refine stopK_go ?_
  have g_h0 : h0.get h.next = .cells [.int .i64 t, .int .i64 r, .int .i64 b] true true 1 := by simp [q_h0]
  have k_h0 : Adds h h0 := by rw [q_h0]; exact (by first | exact aK | exact kK)
  have n_h0 : h.next < h0.next := by simp [q_h0]; try omega
  have K0 := k_h0.1
  try simp (disch := first | omega | (simp; done) | fail) [wrap64c, if_pos, if_neg, opAnd, opOr, opXor, opDiff, opShr, opBit, g_h0]
  refine callG_c (by simp) (by simp) ?ha (within_ok h0 t 1 9) ?_
  (case ha => simp (disch := first | omega | (simp; done) | fail) [wrap64c, if_pos, if_neg, opAnd, opOr, opXor, opDiff, opShr, opBit, g_h0])
  by_cases c1 : 1 ≤ t ∧ t ≤ 9
  · have d1 := decide_eq_true c1
    try simp (disch := first | omega | (simp; done) | fail) [wrap64c, if_pos, if_neg, opAnd, opOr, opXor, opDiff, opShr, opBit, g_h0, d1]
    refine callG_c (by simp) (by simp) ?ha (within_ok h0 r 0 9) ?_
    (case ha => simp (disch := first | omega | (simp; done) | fail) [wrap64c, if_pos, if_neg, opAnd, opOr, opXor, opDiff, opShr, opBit, g_h0, d1])
    by_cases c2 : 0 ≤ r ∧ r ≤ 9
    · have d2 := decide_eq_true c2
      try simp (disch := first | omega | (simp; done) | fail) [wrap64c, if_pos, if_neg, opAnd, opOr, opXor, opDiff, opShr, opBit, g_h0, d1, d2]
      refine callG_c (by simp) (by simp) ?ha (within_ok h0 b (-100) 100) ?_
      (case ha => simp (disch := first | omega | (simp; done) | fail) [wrap64c, if_pos, if_neg, opAnd, opOr, opXor, opDiff, opShr, opBit, g_h0, d1, d2])
      by_cases c3 : -100 ≤ b ∧ b ≤ 100
      · have d3 := decide_eq_true c3
        have hj : jobOK ⟨t, r, b⟩ = true := decide_eq_true ⟨c1, c2, c3⟩
        try simp (disch := first | omega | (simp; done) | fail) [wrap64c, if_pos, if_neg, opAnd, opOr, opXor, opDiff, opShr, opBit, g_h0, d1, d2, d3]
        exact done_ret rfl (by simp [hj, K0])
      · have d3 := decide_eq_false c3
        have hj : jobOK ⟨t, r, b⟩ = false := decide_eq_false fun e => c3 e.2.2
        try simp (disch := first | omega | (simp; done) | fail) [wrap64c, if_pos, if_neg, opAnd, opOr, opXor, opDiff, opShr, opBit, g_h0, d1, d2, d3]
        exact done_ret rfl (by simp [hj, K0])
    · have d2 := decide_eq_false c2
      have hj : jobOK ⟨t, r, b⟩ = false := decide_eq_false fun e => c2 e.2.1
      try simp (disch := first | omega | (simp; done) | fail) [wrap64c, if_pos, if_neg, opAnd, opOr, opXor, opDiff, opShr, opBit, g_h0, d1, d2]
      exact done_ret rfl (by simp [hj, K0])
  · have d1 := decide_eq_false c1
    have hj : jobOK ⟨t, r, b⟩ = false := decide_eq_false fun e => c1 e.1
    try simp (disch := first | omega | (simp; done) | fail) [wrap64c, if_pos, if_neg, opAnd, opOr, opXor, opDiff, opShr, opBit, g_h0, d1]
    exact done_ret rfl (by simp [hj, K0])

/-- Where the first bad task lies. -/
theorem indexJobs_ok (h : Hp) (v : Value) (L : List Job) (hv : Jobs h v L) :
    ∃ r : Int, CallOK Try.prog 194 #[v, .func (.func 187) #[] #[]] h (.int .i64 r) h ∧ ((0 ≤ r) ↔ ¬ ∀ k, k < L.length → jobOK (jobAt L k) = true) := by
  by_cases hall : ∀ k, k < L.length → jobOK (jobAt L k) = true
  · refine ⟨-1, ?_, by simp [hall]; omega⟩
    refine callY_P 19 _ [.tmp 4] Try.func194 rfl rfl rfl (by first | rfl | simp) ?_
    have hL := hv.lenD
    obtain ⟨s, c, hform, hlc, hcc⟩ := hv.form
    try simp (disch := first | omega | (simp; done) | fail) [wrap64c, if_pos, if_neg, opAnd, opOr, opXor, opDiff, opShr, opBit, hL]
    refine WD_loopC [0, 1, 7] (fun m tm h' => ∃ j, m = L.length - j ∧ h = h' ∧ tm 8 = .int .i64 (j : Int) ∧ (j ≤ L.length)) _ ⟨0, rfl, rfl, (by simp (disch := first | omega | (simp; done) | fail) [wrap64c, if_pos, if_neg, opAnd, opOr, opXor, opDiff, opShr, opBit, hL]), (by first | omega | assumption | (simp (disch := first | omega | (simp; done) | fail) [wrap64c, if_pos, if_neg, opAnd, opOr, opXor, opDiff, opShr, opBit, hL] <;> omega))⟩ ?_
    rintro m tm h' hFr ⟨j, rfl, rfl, e8, hj⟩
    simp only [FrameL] at hFr
    obtain ⟨f0_0, f1_0, f7_0, -⟩ := hFr
    try simp (disch := first | omega | (simp; done) | fail) [wrap64c, if_pos, if_neg, opAnd, opOr, opXor, opDiff, opShr, opBit, hL] at f0_0 f1_0 f7_0
    have e0 := f0_0
    have e1 := f1_0
    have e7 := f7_0
    by_cases hlt : j < L.length
    · obtain ⟨o_x, i_x, c_x, cs_x, own_x, ex_x, es_x, q_x, b_x, g_x, l_x, r_x, s_x, t_x, u_x, ra_x, rb_x, rc_x⟩ := hv.open ((by omega))
      have hk := hall j hlt
      try simp (disch := first | omega | (simp; done) | fail) [wrap64c, if_pos, if_neg, opAnd, opOr, opXor, opDiff, opShr, opBit, hL, e0, e1, e7, e8, hlt, q_x, g_x, l_x, r_x, s_x, t_x, u_x, ra_x, rb_x, rc_x, hk, jobL]
      refine callG_f (fst := #[]) (cap := #[]) (by simp) (by simp) ?hf ?hk ?ha (jobBad_ok h (jobAt L j).ti (jobAt L j).ra (jobAt L j).ba) ?_
      (case hf => simp (disch := first | omega | (simp; done) | fail) [wrap64c, if_pos, if_neg, opAnd, opOr, opXor, opDiff, opShr, opBit, hL, e0, e1, e7, e8, hlt, q_x, g_x, l_x, r_x, s_x, t_x, u_x, ra_x, rb_x, rc_x, hk, jobL]; try rfl)
      (case hk => simp (disch := first | omega | (simp; done) | fail) [wrap64c, if_pos, if_neg, opAnd, opOr, opXor, opDiff, opShr, opBit, hL, e0, e1, e7, e8, hlt, q_x, g_x, l_x, r_x, s_x, t_x, u_x, ra_x, rb_x, rc_x, hk, jobL])
      (case ha => simp (disch := first | omega | (simp; done) | fail) [wrap64c, if_pos, if_neg, opAnd, opOr, opXor, opDiff, opShr, opBit, hL, e0, e1, e7, e8, hlt, q_x, g_x, l_x, r_x, s_x, t_x, u_x, ra_x, rb_x, rc_x, hk, jobL])
      try simp (disch := first | omega | (simp; done) | fail) [wrap64c, if_pos, if_neg, opAnd, opOr, opXor, opDiff, opShr, opBit, hL, e0, e1, e7, e8, hlt, q_x, g_x, l_x, r_x, s_x, t_x, u_x, ra_x, rb_x, rc_x, hk]
      refine loopK_next _ ?hm ?hf ⟨j + 1, rfl, rfl, (by simp (disch := first | omega | (simp; done) | fail) [wrap64c, if_pos, if_neg, opAnd, opOr, opXor, opDiff, opShr, opBit, hL, e0, e1, e7, e8, hlt, q_x, g_x, l_x, r_x, s_x, t_x, u_x, ra_x, rb_x, rc_x, hk] <;> omega), (by first | omega | assumption | (simp (disch := first | omega | (simp; done) | fail) [wrap64c, if_pos, if_neg, opAnd, opOr, opXor, opDiff, opShr, opBit, hL, e0, e1, e7, e8, hlt, q_x, g_x, l_x, r_x, s_x, t_x, u_x, ra_x, rb_x, rc_x, hk] <;> omega))⟩
      (case hm => first | omega | (simp; omega))
      (case hf => simp [FrameL, hL, e0, e1, e7, e8, hlt, q_x, g_x, l_x, r_x, s_x, t_x, u_x, ra_x, rb_x, rc_x, hk, f0_0, f1_0, f7_0])
    · try simp (disch := first | omega | (simp; done) | fail) [wrap64c, if_pos, if_neg, opAnd, opOr, opXor, opDiff, opShr, opBit, hL, e0, e1, e7, e8, hlt]
      exact done_ret rfl (by simp)
  · have hex : ∃ k, k < L.length ∧ jobOK (jobAt L k) = false := by
      simp only [Classical.not_forall] at hall
      obtain ⟨k, hk, hb⟩ := hall
      exact ⟨k, hk, by simpa using hb⟩
    obtain ⟨k0, hk0, hb0⟩ := hex
    have key : ∀ k, k < L.length → jobOK (jobAt L k) = false → ∃ i, i ≤ k ∧ jobOK (jobAt L i) = false ∧ ∀ j, j < i → jobOK (jobAt L j) = true := by
      intro k
      induction k using Nat.strongRecOn with
      | _ k ih =>
        intro hk hb
        by_cases he : ∃ j, j < k ∧ jobOK (jobAt L j) = false
        · obtain ⟨j, hj, hb'⟩ := he
          obtain ⟨i, hi, h1, h2⟩ := ih j hj (by omega) hb'
          exact ⟨i, by omega, h1, h2⟩
        · exact ⟨k, Nat.le_refl _, hb, fun j hj => by
            cases hq : jobOK (jobAt L j)
            · exact (he ⟨j, hj, hq⟩).elim
            · rfl⟩
    obtain ⟨i, hi, hbi, hlo⟩ := key k0 hk0 hb0
    refine ⟨(i : Int), ?_, by simp only [hall, not_false_iff, iff_true]; omega⟩
    refine callY_P 19 _ [.tmp 4] Try.func194 rfl rfl rfl (by first | rfl | simp) ?_
    have hL := hv.lenD
    obtain ⟨s, c, hform, hlc, hcc⟩ := hv.form
    try simp (disch := first | omega | (simp; done) | fail) [wrap64c, if_pos, if_neg, opAnd, opOr, opXor, opDiff, opShr, opBit, hL]
    refine WD_loopC [0, 1, 7] (fun m tm h' => ∃ j, m = L.length - j ∧ h = h' ∧ tm 8 = .int .i64 (j : Int) ∧ (j ≤ i)) _ ⟨0, rfl, rfl, (by simp (disch := first | omega | (simp; done) | fail) [wrap64c, if_pos, if_neg, opAnd, opOr, opXor, opDiff, opShr, opBit, hL]), (by first | omega | assumption | (simp (disch := first | omega | (simp; done) | fail) [wrap64c, if_pos, if_neg, opAnd, opOr, opXor, opDiff, opShr, opBit, hL] <;> omega))⟩ ?_
    rintro m tm h' hFr ⟨j, rfl, rfl, e8, hj⟩
    simp only [FrameL] at hFr
    obtain ⟨f0_0, f1_0, f7_0, -⟩ := hFr
    try simp (disch := first | omega | (simp; done) | fail) [wrap64c, if_pos, if_neg, opAnd, opOr, opXor, opDiff, opShr, opBit, hL] at f0_0 f1_0 f7_0
    have e0 := f0_0
    have e1 := f1_0
    have e7 := f7_0
    have hlt : j < L.length := by omega
    obtain ⟨o_x, i_x, c_x, cs_x, own_x, ex_x, es_x, q_x, b_x, g_x, l_x, r_x, s_x, t_x, u_x, ra_x, rb_x, rc_x⟩ := hv.open ((by omega))
    by_cases hji : j = i
    · have hk : jobOK (jobAt L j) = false := by rw [hji]; exact hbi
      try simp (disch := first | omega | (simp; done) | fail) [wrap64c, if_pos, if_neg, opAnd, opOr, opXor, opDiff, opShr, opBit, hL, e0, e1, e7, e8, hlt, q_x, g_x, l_x, r_x, s_x, t_x, u_x, ra_x, rb_x, rc_x, hk, jobL]
      refine callG_f (fst := #[]) (cap := #[]) (by simp) (by simp) ?hf ?hk ?ha (jobBad_ok h (jobAt L j).ti (jobAt L j).ra (jobAt L j).ba) ?_
      (case hf => simp (disch := first | omega | (simp; done) | fail) [wrap64c, if_pos, if_neg, opAnd, opOr, opXor, opDiff, opShr, opBit, hL, e0, e1, e7, e8, hlt, q_x, g_x, l_x, r_x, s_x, t_x, u_x, ra_x, rb_x, rc_x, hk, jobL]; try rfl)
      (case hk => simp (disch := first | omega | (simp; done) | fail) [wrap64c, if_pos, if_neg, opAnd, opOr, opXor, opDiff, opShr, opBit, hL, e0, e1, e7, e8, hlt, q_x, g_x, l_x, r_x, s_x, t_x, u_x, ra_x, rb_x, rc_x, hk, jobL])
      (case ha => simp (disch := first | omega | (simp; done) | fail) [wrap64c, if_pos, if_neg, opAnd, opOr, opXor, opDiff, opShr, opBit, hL, e0, e1, e7, e8, hlt, q_x, g_x, l_x, r_x, s_x, t_x, u_x, ra_x, rb_x, rc_x, hk, jobL])
      try simp (disch := first | omega | (simp; done) | fail) [wrap64c, if_pos, if_neg, opAnd, opOr, opXor, opDiff, opShr, opBit, hL, e0, e1, e7, e8, hlt, q_x, g_x, l_x, r_x, s_x, t_x, u_x, ra_x, rb_x, rc_x, hk]
      exact done_ret rfl (by simp [hji])
    · have hk := hlo j (by omega)
      try simp (disch := first | omega | (simp; done) | fail) [wrap64c, if_pos, if_neg, opAnd, opOr, opXor, opDiff, opShr, opBit, hL, e0, e1, e7, e8, hlt, q_x, g_x, l_x, r_x, s_x, t_x, u_x, ra_x, rb_x, rc_x, hk, jobL]
      refine callG_f (fst := #[]) (cap := #[]) (by simp) (by simp) ?hf ?hk ?ha (jobBad_ok h (jobAt L j).ti (jobAt L j).ra (jobAt L j).ba) ?_
      (case hf => simp (disch := first | omega | (simp; done) | fail) [wrap64c, if_pos, if_neg, opAnd, opOr, opXor, opDiff, opShr, opBit, hL, e0, e1, e7, e8, hlt, q_x, g_x, l_x, r_x, s_x, t_x, u_x, ra_x, rb_x, rc_x, hk, jobL]; try rfl)
      (case hk => simp (disch := first | omega | (simp; done) | fail) [wrap64c, if_pos, if_neg, opAnd, opOr, opXor, opDiff, opShr, opBit, hL, e0, e1, e7, e8, hlt, q_x, g_x, l_x, r_x, s_x, t_x, u_x, ra_x, rb_x, rc_x, hk, jobL])
      (case ha => simp (disch := first | omega | (simp; done) | fail) [wrap64c, if_pos, if_neg, opAnd, opOr, opXor, opDiff, opShr, opBit, hL, e0, e1, e7, e8, hlt, q_x, g_x, l_x, r_x, s_x, t_x, u_x, ra_x, rb_x, rc_x, hk, jobL])
      try simp (disch := first | omega | (simp; done) | fail) [wrap64c, if_pos, if_neg, opAnd, opOr, opXor, opDiff, opShr, opBit, hL, e0, e1, e7, e8, hlt, q_x, g_x, l_x, r_x, s_x, t_x, u_x, ra_x, rb_x, rc_x, hk]
      refine loopK_next _ ?hm ?hf ⟨j + 1, rfl, rfl, (by simp (disch := first | omega | (simp; done) | fail) [wrap64c, if_pos, if_neg, opAnd, opOr, opXor, opDiff, opShr, opBit, hL, e0, e1, e7, e8, hlt, q_x, g_x, l_x, r_x, s_x, t_x, u_x, ra_x, rb_x, rc_x, hk] <;> omega), (by first | omega | assumption | (simp (disch := first | omega | (simp; done) | fail) [wrap64c, if_pos, if_neg, opAnd, opOr, opXor, opDiff, opShr, opBit, hL, e0, e1, e7, e8, hlt, q_x, g_x, l_x, r_x, s_x, t_x, u_x, ra_x, rb_x, rc_x, hk] <;> omega))⟩
      (case hm => first | omega | (simp; omega))
      (case hf => simp [FrameL, hL, e0, e1, e7, e8, hlt, q_x, g_x, l_x, r_x, s_x, t_x, u_x, ra_x, rb_x, rc_x, hk, f0_0, f1_0, f7_0])

theorem containsJobs_ok (h : Hp) (v : Value) (L : List Job) (hv : Jobs h v L) :
    CallOK Try.prog 186 #[v, .func (.func 187) #[] #[]] h (.bool (!decide (∀ k, k < L.length → jobOK (jobAt L k) = true))) h := by
  refine callY_P 9 _ [.tmp 4] Try.func186 rfl rfl rfl (by first | rfl | simp) ?_
  obtain ⟨r, hc, hr⟩ := indexJobs_ok h v L hv
  try simp (disch := first | omega | (simp; done) | fail) [wrap64c, if_pos, if_neg, opAnd, opOr, opXor, opDiff, opShr, opBit]
  refine callG_c (by simp) (by simp) ?ha (hc) ?_
  (case ha => simp (disch := first | omega | (simp; done) | fail) [wrap64c, if_pos, if_neg, opAnd, opOr, opXor, opDiff, opShr, opBit])
  have e : decide (0 ≤ r) = !decide (∀ k, k < L.length → jobOK (jobAt L k) = true) := by
    rw [Bool.eq_iff_iff]; simp only [decide_eq_true_eq, Bool.not_eq_true', decide_eq_false_iff_not]; exact hr
  try simp (disch := first | omega | (simp; done) | fail) [wrap64c, if_pos, if_neg, opAnd, opOr, opXor, opDiff, opShr, opBit, e]
  exact done_ret rfl (by simp)

theorem areTasks_ok (h : Hp) (v : Value) (L : List Job) (N : Int) (hv : Jobs h v L) : CallOK Try.prog 168 #[v, .int .i64 N] h (.bool (jobsB L N)) h := by
  refine callY_P 18 _ [.tmp 4] Try.func168 rfl rfl rfl (by first | rfl | simp) ?_
  have hL := hv.lenD
  try simp (disch := first | omega | (simp; done) | fail) [wrap64c, if_pos, if_neg, opAnd, opOr, opXor, opDiff, opShr, opBit, hL]
  refine callG_c (by simp) (by simp) ?ha (isSize_ok h N) ?_
  (case ha => simp (disch := first | omega | (simp; done) | fail) [wrap64c, if_pos, if_neg, opAnd, opOr, opXor, opDiff, opShr, opBit, hL])
  cases c1 : sizeB N
  · have e : jobsB L N = false := jobsB_no fun h1 _ _ => by rw [c1] at h1; cases h1
    try simp (disch := first | omega | (simp; done) | fail) [wrap64c, if_pos, if_neg, opAnd, opOr, opXor, opDiff, opShr, opBit, hL, c1]
    exact done_ret rfl (by simp [e])
  · by_cases c2 : (L.length : Int) = N
    · have d2 : ((L.length : Int) == N) = true := by simp [c2]
      try simp (disch := first | omega | (simp; done) | fail) [wrap64c, if_pos, if_neg, opAnd, opOr, opXor, opDiff, opShr, opBit, hL, c1, d2]
      refine callG_c (by simp) (by simp) ?ha (containsJobs_ok h v L hv) ?_
      (case ha => simp (disch := first | omega | (simp; done) | fail) [wrap64c, if_pos, if_neg, opAnd, opOr, opXor, opDiff, opShr, opBit, hL, c1, d2])
      have e : jobsB L N = decide (∀ k, k < L.length → jobOK (jobAt L k) = true) := by simp [jobsB, c1, c2]
      try simp (disch := first | omega | (simp; done) | fail) [wrap64c, if_pos, if_neg, opAnd, opOr, opXor, opDiff, opShr, opBit, hL, c1, d2]
      exact done_ret rfl (by simp [e])
    · have d2 : ((L.length : Int) == N) = false := by simp [c2]
      have e : jobsB L N = false := jobsB_no fun _ h1 _ => c2 h1
      try simp (disch := first | omega | (simp; done) | fail) [wrap64c, if_pos, if_neg, opAnd, opOr, opXor, opDiff, opShr, opBit, hL, c1, d2]
      exact done_ret rfl (by simp [e])
end Go.Proofs.Ytnjabaeajjhliaa
