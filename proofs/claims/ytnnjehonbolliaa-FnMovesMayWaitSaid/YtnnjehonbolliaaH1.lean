/- What laws compare with: sizes of bytes, lists and rows that are the same, sums. -/
import Derived.Test.YtnnjehonbolliaaEngV
import Derived.Test.YtnnjehonbolliaaA5
namespace Go.Proofs.Ytnnjehonbolliaa
set_option linter.unusedSimpArgs false
set_option linter.unusedVariables false
set_option maxHeartbeats 4000000
open Go Go.Eng
attribute [local irreducible] WD RunD PreD Runs CallOK

theorem bytes_old {h : Hp} {v : Value} {xs : List Int} (hs : Bytes h v xs) : BytesF h.next h v xs := by
  obtain ⟨s, c, e, hc, hc', hx⟩ := hs
  exact ⟨s, c, e, hc, hc', fun k x hk => let ⟨o, i, cs, own, ex, es, h1, h2, h3, h4, h5⟩ := hx k x hk; ⟨o, i, cs, own, ex, es, h1, h2, h2, h3, h4, h5⟩⟩
theorem big_ok (h : Hp) (v w : Value) (xs ys : List Int) (hv : Bytes h v xs) (hw : Bytes h w ys) : CallOK Try.prog 5 #[v, w] h (.bool (decide (1048576 < xs.length ∨ 1048576 - (xs.length : Int) < ys.length))) h := by
  refine callY_P 16 _ [.tmp 4] Try.func5 rfl rfl rfl (by first | rfl | simp) ?_
  have hL := hv.lenD
  have hM := hw.lenD
  have l1 := hv.len
  have l2 := hw.len
  by_cases c1 : 1048576 < xs.length
  · have c1' : (1048576 : Int) < (xs.length : Int) := by omega
    try simp (disch := first | omega | (simp; done) | fail) [wrap64c, if_pos, if_neg, hL, hM, c1']
    exact done_ret rfl (by simp [c1])
  · have c1' : ¬ (1048576 : Int) < (xs.length : Int) := by omega
    by_cases c2 : 1048576 - (xs.length : Int) < ys.length
    · try simp (disch := first | omega | (simp; done) | fail) [wrap64c, if_pos, if_neg, hL, hM, c1', c2]
      exact done_ret rfl (by simp [c2])
    · try simp (disch := first | omega | (simp; done) | fail) [wrap64c, if_pos, if_neg, hL, hM, c1', c2]
      exact done_ret rfl (by simp [c1, c2])
theorem iSame_ok (h : Hp) (v w : Value) (X Y : List Int) (hv : Ints h v X) (hw : Ints h w Y) : CallOK Try.prog 16 #[v, w] h (.bool (decide (X = Y))) h := by
  refine callY_P 26 _ [.tmp 4] Try.func16 rfl rfl rfl (by first | rfl | simp) ?_
  have hL := hv.lenD
  have hM := hw.lenD
  have hlx := hv.len
  have hly := hw.len
  by_cases hl : X.length = Y.length
  · have hlb : ((X.length : Int) != (Y.length : Int)) = false := by simp [hl]
    try simp (disch := first | omega | (simp; done) | fail) [wrap64c, if_pos, if_neg, hL, hM, hlb]
    refine WD_loopC [0, 1, 12] (fun m tm h' => ∃ j, m = X.length - j ∧ h = h' ∧ tm 13 = .int .i64 (j : Int) ∧ (j ≤ X.length) ∧ (∀ i (h1 : i < X.length) (h2 : i < Y.length), i < j → X[i] = Y[i])) _ ⟨0, rfl, rfl, (by simp (disch := first | omega | (simp; done) | fail) [wrap64c, if_pos, if_neg, hL, hM, hlb]), (by first | omega | assumption | (simp (disch := first | omega | (simp; done) | fail) [wrap64c, if_pos, if_neg, hL, hM, hlb] <;> omega)), (by intro i h1 h2 h3; omega)⟩ ?_
    rintro m tm h' hFr ⟨j, rfl, rfl, e13, hj, hx⟩
    simp only [FrameL] at hFr
    obtain ⟨f0_0, f1_0, f12_0, -⟩ := hFr
    try simp (disch := first | omega | (simp; done) | fail) [wrap64c, if_pos, if_neg, hL, hM, hlb] at f0_0 f1_0 f12_0
    have e0 := f0_0
    have e1 := f1_0
    have e12 := f12_0
    by_cases hlt : j < X.length
    · have hlt2 : j < Y.length := by omega
      obtain ⟨o_x, i_x, c_x, cs_x, own_x, ex_x, es_x, q_x, b_x, g_x, l_x, r_x⟩ := hv.open ((by omega))
      have z_x : ∀ h2 : i_x < cs_x.length, cs_x[i_x] = _ := fun h2 => r_x 0 ((by omega)) h2
      obtain ⟨o_y, i_y, c_y, cs_y, own_y, ex_y, es_y, q_y, b_y, g_y, l_y, r_y⟩ := hw.open ((by omega))
      have z_y : ∀ h2 : i_y < cs_y.length, cs_y[i_y] = _ := fun h2 => r_y 0 ((by omega)) h2
      try simp (disch := first | omega | (simp; done) | fail) [wrap64c, if_pos, if_neg, hL, hM, hlb, e0, e1, e12, e13, hlt, hlt2, q_x, g_x, l_x, r_x, z_x, q_y, g_y, l_y, r_y, z_y]
      refine WD_drawC 8 rfl (by kernel_rfl) ?_
      by_cases he : X[j] = Y[j]
      · have hb : (X[j] != Y[j]) = false := by simp [he]
        try simp (disch := first | omega | (simp; done) | fail) [wrap64c, if_pos, if_neg, hL, hM, hlb, e0, e1, e12, e13, hlt, hlt2, q_x, g_x, l_x, r_x, z_x, q_y, g_y, l_y, r_y, z_y, hb]
        refine loopK_next _ ?hm ?hf ⟨j + 1, rfl, rfl, (by simp (disch := first | omega | (simp; done) | fail) [wrap64c, if_pos, if_neg, hL, hM, hlb, e0, e1, e12, e13, hlt, hlt2, q_x, g_x, l_x, r_x, z_x, q_y, g_y, l_y, r_y, z_y] <;> omega), (by first | omega | assumption | (simp (disch := first | omega | (simp; done) | fail) [wrap64c, if_pos, if_neg, hL, hM, hlb, e0, e1, e12, e13, hlt, hlt2, q_x, g_x, l_x, r_x, z_x, q_y, g_y, l_y, r_y, z_y] <;> omega)), ?c_hx⟩
        (case hm => first | omega | (simp; omega))
        (case hf => simp [FrameL, hL, hM, hlb, e0, e1, e12, e13, hlt, hlt2, q_x, g_x, l_x, r_x, z_x, q_y, g_y, l_y, r_y, z_y, f0_0, f1_0, f12_0])
        case c_hx =>
          exact (fun i h1 h2 hi => by
            by_cases e : i = j
            · subst e; exact he
            · exact hx i h1 h2 (by omega))
      · have hb : (X[j] != Y[j]) = true := by simp [he]
        have hne : ¬ X = Y := fun e => he (by subst e; rfl)
        try simp (disch := first | omega | (simp; done) | fail) [wrap64c, if_pos, if_neg, hL, hM, hlb, e0, e1, e12, e13, hlt, hlt2, q_x, g_x, l_x, r_x, z_x, q_y, g_y, l_y, r_y, z_y, hb]
        exact done_ret rfl (by simp [hne])
    · try simp (disch := first | omega | (simp; done) | fail) [wrap64c, if_pos, if_neg, hL, hM, hlb, e0, e1, e12, e13, hlt]
      have e : X = Y := List.ext_getElem hl fun i h1 h2 => hx i h1 h2 (by omega)
      exact done_ret rfl (by simp [e])
  · have hlb : ((X.length : Int) != (Y.length : Int)) = true := by simp; omega
    have hne : ¬ X = Y := fun e => hl (by rw [e])
    try simp (disch := first | omega | (simp; done) | fail) [wrap64c, if_pos, if_neg, hL, hM, hlb]
    exact done_ret rfl (by simp [hne])
theorem iSameRows_ok (h : Hp) (v w : Value) (xs ys : List (List Int)) (hv : IRows h v xs) (hw : IRows h w ys) : CallOK Try.prog 50 #[v, w] h (.bool (decide (xs = ys))) h := by
  refine callY_P 27 _ [.tmp 4] Try.func50 rfl rfl rfl (by first | rfl | simp) ?_
  have hs := hv.len
  have hL := hv.lenD
  have hM := hw.lenD
  by_cases hl : xs.length = ys.length
  · have hlb : ((xs.length : Int) != (ys.length : Int)) = false := by simp [hl]
    try simp (disch := first | omega | (simp; done) | fail) [wrap64c, if_pos, if_neg, hL, hM, hlb]
    refine WD_loopC [0, 1, 12] (fun m tm h' => ∃ j, m = xs.length - j ∧ h = h' ∧ tm 13 = .int .i64 (j : Int) ∧ (j ≤ xs.length) ∧ (xs.take j = ys.take j)) _ ⟨0, rfl, rfl, (by simp (disch := first | omega | (simp; done) | fail) [wrap64c, if_pos, if_neg, hL, hM, hlb]), (by first | omega | assumption | (simp (disch := first | omega | (simp; done) | fail) [wrap64c, if_pos, if_neg, hL, hM, hlb] <;> omega)), (by first | omega | assumption | (simp (disch := first | omega | (simp; done) | fail) [wrap64c, if_pos, if_neg, hL, hM, hlb] <;> omega))⟩ ?_
    rintro m tm h' hFr ⟨j, rfl, rfl, e13, hj, hx⟩
    simp only [FrameL] at hFr
    obtain ⟨f0_0, f1_0, f12_0, -⟩ := hFr
    try simp (disch := first | omega | (simp; done) | fail) [wrap64c, if_pos, if_neg, hL, hM, hlb] at f0_0 f1_0 f12_0
    have e0 := f0_0
    have e1 := f1_0
    have e12 := f12_0
    by_cases hlt : j < xs.length
    · have hlt2 : j < ys.length := by omega
      obtain ⟨o_x, i_x, c_x, cs_x, own_x, ex_x, es_x, us_x, q_x, b_x, g_x, l_x, r_x, R_x⟩ := hv.open ((by omega))
      have z_x : ∀ h2 : i_x < cs_x.length, cs_x[i_x] = _ := fun h2 => r_x 0 ((by omega)) h2
      obtain ⟨o_y, i_y, c_y, cs_y, own_y, ex_y, es_y, us_y, q_y, b_y, g_y, l_y, r_y, R_y⟩ := hw.open ((by omega))
      have z_y : ∀ h2 : i_y < cs_y.length, cs_y[i_y] = _ := fun h2 => r_y 0 ((by omega)) h2
      try simp (disch := first | omega | (simp; done) | fail) [wrap64c, if_pos, if_neg, hL, hM, hlb, e0, e1, e12, e13, hlt, hlt2, q_x, g_x, l_x, r_x, z_x, q_y, g_y, l_y, r_y, z_y]
      refine WD_drawC 8 rfl (by kernel_rfl) ?_
      try simp (disch := first | omega | (simp; done) | fail) [wrap64c, if_pos, if_neg, hL, hM, hlb, e0, e1, e12, e13, hlt, hlt2, q_x, g_x, l_x, r_x, z_x, q_y, g_y, l_y, r_y, z_y]
      by_cases hq : xs[j] = ys[j]
      · refine callG_c (by simp) (by simp) ?ha (iSame_ok h _ _ _ _ (R_x j hlt) (R_y j hlt2)) ?_
        (case ha => simp (disch := first | omega | (simp; done) | fail) [wrap64c, if_pos, if_neg, hL, hM, hlb, e0, e1, e12, e13, hlt, hlt2, q_x, g_x, l_x, r_x, z_x, q_y, g_y, l_y, r_y, z_y])
        try simp (disch := first | omega | (simp; done) | fail) [wrap64c, if_pos, if_neg, hL, hM, hlb, e0, e1, e12, e13, hlt, hlt2, q_x, g_x, l_x, r_x, z_x, q_y, g_y, l_y, r_y, z_y, hq]
        refine loopK_next _ ?hm ?hf ⟨j + 1, rfl, rfl, (by simp (disch := first | omega | (simp; done) | fail) [wrap64c, if_pos, if_neg, hL, hM, hlb, e0, e1, e12, e13, hlt, hlt2, q_x, g_x, l_x, r_x, z_x, q_y, g_y, l_y, r_y, z_y] <;> omega), (by first | omega | assumption | (simp (disch := first | omega | (simp; done) | fail) [wrap64c, if_pos, if_neg, hL, hM, hlb, e0, e1, e12, e13, hlt, hlt2, q_x, g_x, l_x, r_x, z_x, q_y, g_y, l_y, r_y, z_y] <;> omega)), (by rw [List.take_succ_eq_append_getElem hlt, List.take_succ_eq_append_getElem hlt2, hx, hq])⟩
        (case hm => first | omega | (simp; omega))
        (case hf => simp [FrameL, hL, hM, hlb, e0, e1, e12, e13, hlt, hlt2, q_x, g_x, l_x, r_x, z_x, q_y, g_y, l_y, r_y, z_y, f0_0, f1_0, f12_0])
      · refine callG_c (by simp) (by simp) ?ha (iSame_ok h _ _ _ _ (R_x j hlt) (R_y j hlt2)) ?_
        (case ha => simp (disch := first | omega | (simp; done) | fail) [wrap64c, if_pos, if_neg, hL, hM, hlb, e0, e1, e12, e13, hlt, hlt2, q_x, g_x, l_x, r_x, z_x, q_y, g_y, l_y, r_y, z_y])
        try simp (disch := first | omega | (simp; done) | fail) [wrap64c, if_pos, if_neg, hL, hM, hlb, e0, e1, e12, e13, hlt, hlt2, q_x, g_x, l_x, r_x, z_x, q_y, g_y, l_y, r_y, z_y, hq]
        have : xs ≠ ys := fun q => hq (by subst q; rfl)
        exact done_ret rfl (by simp [this])
    · try simp (disch := first | omega | (simp; done) | fail) [wrap64c, if_pos, if_neg, hL, hM, hlb, e0, e1, e12, e13, hlt]
      rw [show j = xs.length by omega, List.take_length, hl, List.take_length] at hx
      exact done_ret rfl (by simp [hx])
  · have hlb : ((xs.length : Int) != (ys.length : Int)) = true := by simp [hl]
    try simp (disch := first | omega | (simp; done) | fail) [wrap64c, if_pos, if_neg, hL, hM, hlb]
    have : xs ≠ ys := fun q => hl (by rw [q])
    exact done_ret rfl (by simp [this])
theorem iChips_ok (h : Hp) (v w : Value) (L M : List (List Int)) (A B : List Int) (hv : Chips h v L A) (hw : Chips h w M B) : CallOK Try.prog 17 #[v, w] h (.bool (decide (A = B) && decide (L = M))) h := by
  refine callY_P 17 _ [.tmp 4] Try.func17 rfl rfl rfl (by first | rfl | simp) ?_
  obtain ⟨a, b, rfl, hL, hA⟩ := hv
  obtain ⟨a', b', rfl, hM, hB⟩ := hw
  refine WD_first ?_
  try simp (disch := first | omega | (simp; done) | fail) [wrap64c, if_pos, if_neg]
  refine stopK_heap fun h0 q_h0 => ?_
  refine stopK_go ?_
  have k0 : Adds h h0 := by rw [q_h0]; exact (by first | exact aK | exact kK)
  have g0 : h0.get h.next = .cells [a, b] true true 1 := by simp [q_h0]
  have g1 : h0.get (h.next + 1) = .cells [a', b'] true true 1 := by simp [q_h0]
  try simp (disch := first | omega | (simp; done) | fail) [wrap64c, if_pos, if_neg, g0, g1]
  refine callG_c (by simp) (by simp) ?ha (iSame_ok h0 _ _ _ _ (hA.keep k0.1) (hB.keep k0.1)) ?_
  (case ha => simp (disch := first | omega | (simp; done) | fail) [wrap64c, if_pos, if_neg, g0, g1])
  try simp (disch := first | omega | (simp; done) | fail) [wrap64c, if_pos, if_neg, g0, g1]
  by_cases e : A = B
  · have e' := e
    try simp (disch := first | omega | (simp; done) | fail) [wrap64c, if_pos, if_neg, g0, g1, e']
    refine callG_c (by simp) (by simp) ?ha (iSameRows_ok h0 _ _ _ _ (hL.keep k0.1) (hM.keep k0.1)) ?_
    (case ha => simp (disch := first | omega | (simp; done) | fail) [wrap64c, if_pos, if_neg, g0, g1, e'])
    try simp (disch := first | omega | (simp; done) | fail) [wrap64c, if_pos, if_neg, g0, g1, e']
    exact done_ret rfl (by simp [k0.1, e])
  · have e' := e
    try simp (disch := first | omega | (simp; done) | fail) [wrap64c, if_pos, if_neg, g0, g1, e']
    exact done_ret rfl (by simp [k0.1, e])
theorem iSum_ok (h : Hp) (v : Value) (X : List Int) (hv : Ints h v X) (hl : X.length ≤ 100000) (hb : ∀ x ∈ X, 0 ≤ x ∧ x ≤ 100000) : CallOK Try.prog 21 #[v] h (.int .i64 X.sum) h := by
  refine callY_P 17 _ [.tmp 2] Try.func21 rfl rfl rfl (by first | rfl | simp) ?_
  have hL := hv.lenD
  try simp (disch := first | omega | (simp; done) | fail) [wrap64c, if_pos, if_neg, hL]
  refine WD_loopC [6, 7] (fun m tm h' => ∃ j, m = X.length - j ∧ h = h' ∧ tm 3 = .int .i64 (X.take j).sum ∧ tm 8 = .int .i64 (j : Int) ∧ (j ≤ X.length)) _ ⟨0, rfl, rfl, (by simp (disch := first | omega | (simp; done) | fail) [wrap64c, if_pos, if_neg, hL]), (by simp (disch := first | omega | (simp; done) | fail) [wrap64c, if_pos, if_neg, hL]), (by first | omega | assumption | (simp (disch := first | omega | (simp; done) | fail) [wrap64c, if_pos, if_neg, hL] <;> omega))⟩ ?_
  rintro m tm h' hFr ⟨j, rfl, rfl, e3, e8, hj⟩
  simp only [FrameL] at hFr
  obtain ⟨f6_0, f7_0, -⟩ := hFr
  try simp (disch := first | omega | (simp; done) | fail) [wrap64c, if_pos, if_neg, hL] at f6_0 f7_0
  have e6 := f6_0
  have e7 := f7_0
  by_cases hlt : j < X.length
  · obtain ⟨o_x, i_x, c_x, cs_x, own_x, ex_x, es_x, q_x, b_x, g_x, l_x, r_x⟩ := hv.open ((by omega))
    have z_x : ∀ h2 : i_x < cs_x.length, cs_x[i_x] = _ := fun h2 => r_x 0 ((by omega)) h2
    have b1 := sum_take (b := 100000) (by omega) hb j (by omega)
    have b2 := hb _ (List.getElem_mem hlt)
    try simp (disch := first | omega | (simp; done) | fail) [wrap64c, if_pos, if_neg, hL, e3, e6, e7, e8, hlt, q_x, g_x, l_x, r_x, z_x]
    refine loopK_next _ ?hm ?hf ⟨j + 1, rfl, rfl, (by simp [sum_step hlt]), (by simp (disch := first | omega | (simp; done) | fail) [wrap64c, if_pos, if_neg, hL, e3, e6, e7, e8, hlt, q_x, g_x, l_x, r_x, z_x] <;> omega), (by first | omega | assumption | (simp (disch := first | omega | (simp; done) | fail) [wrap64c, if_pos, if_neg, hL, e3, e6, e7, e8, hlt, q_x, g_x, l_x, r_x, z_x] <;> omega))⟩
    (case hm => first | omega | (simp; omega))
    (case hf => simp [FrameL, hL, e3, e6, e7, e8, hlt, q_x, g_x, l_x, r_x, z_x, f6_0, f7_0])
  · try simp (disch := first | omega | (simp; done) | fail) [wrap64c, if_pos, if_neg, hL, e3, e6, e7, e8, hlt]
    have hj' : j = X.length := by omega
    subst hj'
    exact done_ret rfl (by simp [e3])
end Go.Proofs.Ytnnjehonbolliaa
