/- Part 6 of the proof of worstAndTotal_holds: what it uses of the texts that lie in the notes, merged. -/
import Derived.Test.YtnncipcldbopgaaQw5
namespace Go.Proofs.Ytnncipcldbopgaa
set_option linter.unusedSimpArgs false
set_option linter.unusedVariables false
set_option maxHeartbeats 4000000
set_option maxRecDepth 20000
open Go Go.Eng
attribute [local irreducible] WD RunD PreD Runs CallOK
theorem lawWorstAndTotal_ok (h0 : Hp) (v : Value) (xs : List Int) (hv : Bytes h0 v xs) (w : Value) (ys : List Int) (hw : Bytes h0 w ys) : CallOK Try.prog 7 #[v, w] h0 (.bool true) h0 := by
  have ntv := hv.nt
  have csv := hv.cs
  have ntw := hw.nt
  have csw := hw.cs
  refine callY_P 299 _ [.tmp 4] Try.func7 rfl rfl rfl (by first | rfl | simp) ?_
  try simp (disch := first | omega | (simp; done) | fail) [wrap64c, if_pos, if_neg, opAnd, opOr, opXor, opDiff, opShr, opBit, ntv, csv, ntw, csw]
  refine callG_c (by simp) (by simp) ?ha (big_ok h0 _ _ _ _ hv hw) ?_
  (case ha => simp (disch := first | omega | (simp; done) | fail) [wrap64c, if_pos, if_neg, opAnd, opOr, opXor, opDiff, opShr, opBit, ntv, csv, ntw, csw])
  by_cases hbig : 1048576 < xs.length ∨ 1048576 - (xs.length : Int) < ys.length
  case pos =>
    try simp (disch := first | omega | (simp; done) | fail) [wrap64c, if_pos, if_neg, opAnd, opOr, opXor, opDiff, opShr, opBit, ntv, csv, ntw, csw, hbig]
    exact done_ret rfl (by simp)
  have lxs : xs.length ≤ 1048576 := by omega
  have lys : ys.length ≤ 1048576 := by omega
  try simp (disch := first | omega | (simp; done) | fail) [wrap64c, if_pos, if_neg, opAnd, opOr, opXor, opDiff, opShr, opBit, ntv, csv, ntw, csw, hbig]
  have K0 : Keeps h0 h0 := .refl _
  obtain ⟨_, h1, p1, a1, s1, N, X, rfl, hC, lX⟩ := drawWorstSet_ok h0 v xs (bytes_old hv)
  refine callG_c (by simp) (by simp) ?ha (p1) ?_
  (case ha => simp (disch := first | omega | (simp; done) | fail) [wrap64c, if_pos, if_neg, opAnd, opOr, opXor, opDiff, opShr, opBit, ntv, csv, ntw, csw, hbig])
  have n1 := a1.1.1
  have K1 := K0.trans a1.1
  have hv := hv.keep a1.1
  have hw := hw.keep a1.1
  obtain ⟨sv1, rfl, hsv1⟩ := hC
  have hsv1 := hsv1.ints
  have ntsv1 := hsv1.nt
  have cssv1 := hsv1.cs
  have lnsv1 := hsv1.lenD
  have hC : Space h1 (.agg #[.int .i64 N, sv1]) N X := .mk hsv1
  try simp (disch := first | omega | (simp; done) | fail) [wrap64c, if_pos, if_neg, opAnd, opOr, opXor, opDiff, opShr, opBit, ntv, csv, ntw, csw, hbig, ntsv1, cssv1, lnsv1, putCells]
  first | refine WY_heap fun h2 q_h2 => ?_ | refine callG_heap fun h2 q_h2 => ?_ | refine callP_heap fun h2 q_h2 => ?_ | refine callS_heap fun h2 q_h2 => ?_ | refine RY_heap fun h2 q_h2 => ?_ | refine PY_heap fun h2 q_h2 => ?_ | refine SY_heap fun h2 q_h2 => ?_ | refine doneY_heap fun h2 q_h2 => ?_ | refine loopK_heap fun h2 q_h2 => ?_ | refine thenY_heap fun h2 q_h2 => ?_ | refine thenM_heap fun h2 q_h2 => ?_
  have b2 : Adds h1 h2 := by rw [q_h2]; exact (by first | exact aK | exact kK)
  have n2 := b2.1.1
  have K2 := K1.trans b2.1
  have hv := hv.keep b2.1
  have hw := hw.keep b2.1
  have hC := hC.keep b2.1
  have m2 : h2.next = h1.next + 1 := by simp [q_h2]
  have gs : h2.get h1.next = .cells [.int .i64 N, sv1] true true 1 := by simp [q_h2]
  have lX' : X.length < 2 ^ 39 := by omega
  have lX40 : X.length < 2 ^ 40 := by omega
  refine callG_c (by simp) (by simp) ?ha (implWorst_ok h2 _ N X hC lX40) ?_
  (case ha => simp (disch := first | omega | (simp; done) | fail) [wrap64c, if_pos, if_neg, opAnd, opOr, opXor, opDiff, opShr, opBit, ntv, csv, ntw, csw, hbig, ntsv1, cssv1, lnsv1, gs])
  try simp (disch := first | omega | (simp; done) | fail) [wrap64c, if_pos, if_neg, opAnd, opOr, opXor, opDiff, opShr, opBit, ntv, csv, ntw, csw, hbig, ntsv1, cssv1, lnsv1, gs]
  refine callG_c (by simp) (by simp) ?ha (specWorst_ok h2 _ N X hC lX40) ?_
  (case ha => simp (disch := first | omega | (simp; done) | fail) [wrap64c, if_pos, if_neg, opAnd, opOr, opXor, opDiff, opShr, opBit, ntv, csv, ntw, csw, hbig, ntsv1, cssv1, lnsv1, gs])
  try simp (disch := first | omega | (simp; done) | fail) [wrap64c, if_pos, if_neg, opAnd, opOr, opXor, opDiff, opShr, opBit, ntv, csv, ntw, csw, hbig, ntsv1, cssv1, lnsv1, gs]
  refine callG_c (by simp) (by simp) ?ha (implHW_ok h2 _ N X hC lX') ?_
  (case ha => simp (disch := first | omega | (simp; done) | fail) [wrap64c, if_pos, if_neg, opAnd, opOr, opXor, opDiff, opShr, opBit, ntv, csv, ntw, csw, hbig, ntsv1, cssv1, lnsv1, gs])
  try simp (disch := first | omega | (simp; done) | fail) [wrap64c, if_pos, if_neg, opAnd, opOr, opXor, opDiff, opShr, opBit, ntv, csv, ntw, csw, hbig, ntsv1, cssv1, lnsv1, gs]
  refine callG_c (by simp) (by simp) ?ha (specHW_ok h2 _ N X hC lX') ?_
  (case ha => simp (disch := first | omega | (simp; done) | fail) [wrap64c, if_pos, if_neg, opAnd, opOr, opXor, opDiff, opShr, opBit, ntv, csv, ntw, csw, hbig, ntsv1, cssv1, lnsv1, gs])
  try simp (disch := first | omega | (simp; done) | fail) [wrap64c, if_pos, if_neg, opAnd, opOr, opXor, opDiff, opShr, opBit, ntv, csv, ntw, csw, hbig, ntsv1, cssv1, lnsv1, gs]
  cases c1 : spB N X
  · try simp (disch := first | omega | (simp; done) | fail) [wrap64c, if_pos, if_neg, opAnd, opOr, opXor, opDiff, opShr, opBit, ntv, csv, ntw, csw, hbig, ntsv1, cssv1, lnsv1, gs, c1]
    obtain ⟨g0, hg0⟩ : ∃ x, x = h2 := ⟨_, rfl⟩
    have K0 := K2
    rw [← hg0] at K0
    have hv := hv
    have hw := hw
    rw [← hg0] at hv
    rw [← hg0] at hw
    try rw [← hg0]
    obtain ⟨_, g1, p1, a1, s2, G, Y, rfl, hD, lY⟩ := drawLeastTotal_ok g0 w ys (bytes_old hw)
    refine callG_c (by simp) (by simp) ?ha (p1) ?_
    (case ha => simp (disch := first | omega | (simp; done) | fail) [wrap64c, if_pos, if_neg, opAnd, opOr, opXor, opDiff, opShr, opBit, ntv, csv, ntw, csw, hbig, ntsv1, cssv1, lnsv1, gs, c1])
    have n1 := a1.1.1
    have K1 := K0.trans a1.1
    have hv := hv.keep a1.1
    have hw := hw.keep a1.1
    obtain ⟨sv2, rfl, hsv2⟩ := hD
    have hsv2 := hsv2.ints
    have ntsv2 := hsv2.nt
    have cssv2 := hsv2.cs
    have lnsv2 := hsv2.lenD
    have hD : Space g1 (.agg #[.int .i64 G, sv2]) G Y := .mk hsv2
    try simp (disch := first | omega | (simp; done) | fail) [wrap64c, if_pos, if_neg, opAnd, opOr, opXor, opDiff, opShr, opBit, ntv, csv, ntw, csw, hbig, ntsv1, cssv1, lnsv1, gs, c1, ntsv2, cssv2, lnsv2, putCells]
    first | refine WY_heap fun g2 q_g2 => ?_ | refine callG_heap fun g2 q_g2 => ?_ | refine callP_heap fun g2 q_g2 => ?_ | refine callS_heap fun g2 q_g2 => ?_ | refine RY_heap fun g2 q_g2 => ?_ | refine PY_heap fun g2 q_g2 => ?_ | refine SY_heap fun g2 q_g2 => ?_ | refine doneY_heap fun g2 q_g2 => ?_ | refine loopK_heap fun g2 q_g2 => ?_ | refine thenY_heap fun g2 q_g2 => ?_ | refine thenM_heap fun g2 q_g2 => ?_
    have b2 : Adds g1 g2 := by rw [q_g2]; exact (by first | exact aK | exact kK)
    have n2 := b2.1.1
    have K2 := K1.trans b2.1
    have hv := hv.keep b2.1
    have hw := hw.keep b2.1
    have hD := hD.keep b2.1
    have m2 : g2.next = g1.next + 1 := by simp [q_g2]
    have gt : g2.get g1.next = .cells [.int .i64 G, sv2] true true 1 := by simp [q_g2]
    have lY39 : Y.length < 2 ^ 39 := by omega
    refine callG_c (by simp) (by simp) ?ha (implTotal_ok g2 _ G Y hD lY39) ?_
    (case ha => simp (disch := first | omega | (simp; done) | fail) [wrap64c, if_pos, if_neg, opAnd, opOr, opXor, opDiff, opShr, opBit, ntv, csv, ntw, csw, hbig, ntsv1, cssv1, lnsv1, gs, c1, ntsv2, cssv2, lnsv2, gt])
    try simp (disch := first | omega | (simp; done) | fail) [wrap64c, if_pos, if_neg, opAnd, opOr, opXor, opDiff, opShr, opBit, ntv, csv, ntw, csw, hbig, ntsv1, cssv1, lnsv1, gs, c1, ntsv2, cssv2, lnsv2, gt]
    refine callG_c (by simp) (by simp) ?ha (specTotal_ok g2 _ G Y hD lY39) ?_
    (case ha => simp (disch := first | omega | (simp; done) | fail) [wrap64c, if_pos, if_neg, opAnd, opOr, opXor, opDiff, opShr, opBit, ntv, csv, ntw, csw, hbig, ntsv1, cssv1, lnsv1, gs, c1, ntsv2, cssv2, lnsv2, gt])
    try simp (disch := first | omega | (simp; done) | fail) [wrap64c, if_pos, if_neg, opAnd, opOr, opXor, opDiff, opShr, opBit, ntv, csv, ntw, csw, hbig, ntsv1, cssv1, lnsv1, gs, c1, ntsv2, cssv2, lnsv2, gt]
    refine callG_c (by simp) (by simp) ?ha (implBound_ok g2 _ G Y hD lY39) ?_
    (case ha => simp (disch := first | omega | (simp; done) | fail) [wrap64c, if_pos, if_neg, opAnd, opOr, opXor, opDiff, opShr, opBit, ntv, csv, ntw, csw, hbig, ntsv1, cssv1, lnsv1, gs, c1, ntsv2, cssv2, lnsv2, gt])
    try simp (disch := first | omega | (simp; done) | fail) [wrap64c, if_pos, if_neg, opAnd, opOr, opXor, opDiff, opShr, opBit, ntv, csv, ntw, csw, hbig, ntsv1, cssv1, lnsv1, gs, c1, ntsv2, cssv2, lnsv2, gt]
    refine callG_c (by simp) (by simp) ?ha (specBound_ok g2 _ G Y hD lY39) ?_
    (case ha => simp (disch := first | omega | (simp; done) | fail) [wrap64c, if_pos, if_neg, opAnd, opOr, opXor, opDiff, opShr, opBit, ntv, csv, ntw, csw, hbig, ntsv1, cssv1, lnsv1, gs, c1, ntsv2, cssv2, lnsv2, gt])
    try simp (disch := first | omega | (simp; done) | fail) [wrap64c, if_pos, if_neg, opAnd, opOr, opXor, opDiff, opShr, opBit, ntv, csv, ntw, csw, hbig, ntsv1, cssv1, lnsv1, gs, c1, ntsv2, cssv2, lnsv2, gt]
    cases d1 : spB G Y
    · try simp (disch := first | omega | (simp; done) | fail) [wrap64c, if_pos, if_neg, opAnd, opOr, opXor, opDiff, opShr, opBit, ntv, csv, ntw, csw, hbig, ntsv1, cssv1, lnsv1, gs, c1, ntsv2, cssv2, lnsv2, gt, d1]
      exact done_ret rfl (by simp [K2])
    · obtain ⟨m2, ys2, eG, eY, gd2⟩ := spB_true d1
      subst eG eY
      have n27 := gd2.n7
      have hl7 := gd2.len7
      have gtY := toN_get ys2
      have lnY := toN_length ys2
      obtain ⟨tt, htt⟩ : ∃ q, q = totN ys2 := ⟨_, rfl⟩
      have eT : totR (m2 : Int) (toN ys2) = (tt : Int) := by rw [totR, if_pos d1, natsOf_toN, htt]
      have hf1 := fringes_total gd2
      have hf2 := total_items gd2
      rw [← htt] at hf1 hf2
      have lY2 : Ints g2 sv2 (toN ys2) := by have := hD; obtain ⟨_, z, zz⟩ := this; cases z; exact zz
      try simp (disch := first | omega | (simp; done) | fail) [wrap64c, if_pos, if_neg, opAnd, opOr, opXor, opDiff, opShr, opBit, ntv, csv, ntw, csw, hbig, ntsv1, cssv1, lnsv1, gs, c1, ntsv2, cssv2, lnsv2, gt, d1, gtY, lnY, eT]
      refine WD_loopC [31, 32, 263, 264] (fun m tm h' => ∃ j, m = ys2.length - j ∧ g2 = h' ∧ tm 40 = .int .i64 ((frSum m2 ys2 (ys2.take j) : Nat) : Int) ∧ tm 265 = .int .i64 (j : Int) ∧ (j ≤ ys2.length)) _ ⟨0, rfl, rfl, (by simp [frSum]), (by simp (disch := first | omega | (simp; done) | fail) [wrap64c, if_pos, if_neg, opAnd, opOr, opXor, opDiff, opShr, opBit, ntv, csv, ntw, csw, hbig, ntsv1, cssv1, lnsv1, gs, c1, ntsv2, cssv2, lnsv2, gt, d1, gtY, lnY, eT]), (by first | omega | assumption | (simp (disch := first | omega | (simp; done) | fail) [wrap64c, if_pos, if_neg, opAnd, opOr, opXor, opDiff, opShr, opBit, ntv, csv, ntw, csw, hbig, ntsv1, cssv1, lnsv1, gs, c1, ntsv2, cssv2, lnsv2, gt, d1, gtY, lnY, eT] <;> omega))⟩ ?_
      rintro m tm h' hFr ⟨j, rfl, rfl, e40, e265, hj⟩
      simp only [FrameL] at hFr
      obtain ⟨f31_0, f32_0, f263_0, f264_0, -⟩ := hFr
      try simp (disch := first | omega | (simp; done) | fail) [wrap64c, if_pos, if_neg, opAnd, opOr, opXor, opDiff, opShr, opBit, ntv, csv, ntw, csw, hbig, ntsv1, cssv1, lnsv1, gs, c1, ntsv2, cssv2, lnsv2, gt, d1, gtY, lnY, eT] at f31_0 f32_0 f263_0 f264_0
      have e31 := f31_0
      have e32 := f32_0
      have e263 := f263_0
      have e264 := f264_0
      have hfl := frSum_le (n := m2) (xs := ys2) (ys2.take j)
      have htl : (ys2.take j).length ≤ ys2.length := by simp; omega
      by_cases hlt : j < ys2.length
      · have hyj := gd2.l128 _ (List.getElem_mem hlt)
        have one1 : oneB (m2 : Int) (toN ys2) (ys2[j] : Int) = true := by simp [oneB, d1, mem_toN]
        have pp := implProofOf_ok g2 _ (m2 : Int) (toN ys2) (ys2[j] : Int) hD (by simp; omega)
        rw [innerR, outerR, if_pos one1, if_pos one1, one1] at pp
        simp only [natsOf_toN, Int.toNat_natCast] at pp
        have hst := frSum_take (n := m2) (xs := ys2) hlt
        obtain ⟨iv, hiv⟩ : ∃ q, q = innerN (fam ys2) ys2[j] := ⟨_, rfl⟩
        obtain ⟨ov, hov⟩ : ∃ q, q = outerN (fam ys2) m2 ys2[j] := ⟨_, rfl⟩
        have liv : iv < 128 := hiv ▸ maskN_lt _ 7
        have lov : ov < 128 := hov ▸ Nat.lt_of_lt_of_le (maskN_lt _ m2) (bit7 n27).2
        rw [← hiv, ← hov] at pp hst
        have pj1 := jCount_ok g2 iv liv
        have pj2 := jCount_ok g2 ov lov
        have hp1 := pcN_le iv
        have hp2 := pcN_le ov
        obtain ⟨o_z, i_z, c_z, cs_z, own_z, ex_z, es_z, q_z, b_z, g_z, l_z, r_z⟩ := lY2.open ((by simp; omega))
        have z_z : ∀ h2 : i_z < cs_z.length, cs_z[i_z] = _ := fun h2 => r_z 0 ((by simp; omega)) h2
        try simp (disch := first | omega | (simp; done) | fail) [wrap64c, if_pos, if_neg, opAnd, opOr, opXor, opDiff, opShr, opBit, ntv, csv, ntw, csw, hbig, ntsv1, cssv1, lnsv1, gs, c1, ntsv2, cssv2, lnsv2, gt, d1, gtY, lnY, eT, e31, e32, e40, e263, e264, e265, hlt, q_z, g_z, l_z, r_z, z_z]
        refine callG_c (by simp) (by simp) ?ha (pp) ?_
        (case ha => simp (disch := first | omega | (simp; done) | fail) [wrap64c, if_pos, if_neg, opAnd, opOr, opXor, opDiff, opShr, opBit, ntv, csv, ntw, csw, hbig, ntsv1, cssv1, lnsv1, gs, c1, ntsv2, cssv2, lnsv2, gt, d1, gtY, lnY, eT, e31, e32, e40, e263, e264, e265, hlt, q_z, g_z, l_z, r_z, z_z])
        try simp (disch := first | omega | (simp; done) | fail) [wrap64c, if_pos, if_neg, opAnd, opOr, opXor, opDiff, opShr, opBit, ntv, csv, ntw, csw, hbig, ntsv1, cssv1, lnsv1, gs, c1, ntsv2, cssv2, lnsv2, gt, d1, gtY, lnY, eT, e31, e32, e40, e263, e264, e265, hlt, q_z, g_z, l_z, r_z, z_z]
        refine callG_c (by simp) (by simp) ?ha (pj1) ?_
        (case ha => simp (disch := first | omega | (simp; done) | fail) [wrap64c, if_pos, if_neg, opAnd, opOr, opXor, opDiff, opShr, opBit, ntv, csv, ntw, csw, hbig, ntsv1, cssv1, lnsv1, gs, c1, ntsv2, cssv2, lnsv2, gt, d1, gtY, lnY, eT, e31, e32, e40, e263, e264, e265, hlt, q_z, g_z, l_z, r_z, z_z])
        try simp (disch := first | omega | (simp; done) | fail) [wrap64c, if_pos, if_neg, opAnd, opOr, opXor, opDiff, opShr, opBit, ntv, csv, ntw, csw, hbig, ntsv1, cssv1, lnsv1, gs, c1, ntsv2, cssv2, lnsv2, gt, d1, gtY, lnY, eT, e31, e32, e40, e263, e264, e265, hlt, q_z, g_z, l_z, r_z, z_z]
        refine callG_c (by simp) (by simp) ?ha (pj2) ?_
        (case ha => simp (disch := first | omega | (simp; done) | fail) [wrap64c, if_pos, if_neg, opAnd, opOr, opXor, opDiff, opShr, opBit, ntv, csv, ntw, csw, hbig, ntsv1, cssv1, lnsv1, gs, c1, ntsv2, cssv2, lnsv2, gt, d1, gtY, lnY, eT, e31, e32, e40, e263, e264, e265, hlt, q_z, g_z, l_z, r_z, z_z])
        try simp (disch := first | omega | (simp; done) | fail) [wrap64c, if_pos, if_neg, opAnd, opOr, opXor, opDiff, opShr, opBit, ntv, csv, ntw, csw, hbig, ntsv1, cssv1, lnsv1, gs, c1, ntsv2, cssv2, lnsv2, gt, d1, gtY, lnY, eT, e31, e32, e40, e263, e264, e265, hlt, q_z, g_z, l_z, r_z, z_z]
        refine loopK_next _ ?hm ?hf ⟨j + 1, rfl, rfl, (by rw [hst]; simp), (by simp (disch := first | omega | (simp; done) | fail) [wrap64c, if_pos, if_neg, opAnd, opOr, opXor, opDiff, opShr, opBit, ntv, csv, ntw, csw, hbig, ntsv1, cssv1, lnsv1, gs, c1, ntsv2, cssv2, lnsv2, gt, d1, gtY, lnY, eT, e31, e32, e40, e263, e264, e265, hlt, q_z, g_z, l_z, r_z, z_z] <;> omega), (by first | omega | assumption | (simp (disch := first | omega | (simp; done) | fail) [wrap64c, if_pos, if_neg, opAnd, opOr, opXor, opDiff, opShr, opBit, ntv, csv, ntw, csw, hbig, ntsv1, cssv1, lnsv1, gs, c1, ntsv2, cssv2, lnsv2, gt, d1, gtY, lnY, eT, e31, e32, e40, e263, e264, e265, hlt, q_z, g_z, l_z, r_z, z_z] <;> omega))⟩
        (case hm => first | omega | (simp; omega))
        (case hf => simp [FrameL, ntv, csv, ntw, csw, hbig, ntsv1, cssv1, lnsv1, gs, c1, ntsv2, cssv2, lnsv2, gt, d1, gtY, lnY, eT, e31, e32, e40, e263, e264, e265, hlt, q_z, g_z, l_z, r_z, z_z, f31_0, f32_0, f263_0, f264_0])
      · have hft : ys2.take j = ys2 := List.take_of_length_le (by omega)
        rw [hft] at e40 hfl
        have e40' := e40
        have hml : m2 * ys2.length ≤ 7 * 128 := Nat.mul_le_mul n27 hl7
        obtain ⟨mm, hmm⟩ : ∃ q, q = m2 * ys2.length := ⟨_, rfl⟩
        have hm1 : (m2 : Int) * (ys2.length : Int) = (mm : Int) := by rw [hmm]; simp
        rw [← hmm] at hml hf2
        have hc1 : ((frSum m2 ys2 ys2 : Nat) : Int) ≤ (tt : Int) := by omega
        have hc2 : (tt : Int) ≤ (mm : Int) := by omega
        have hc3 := hf1
        have hc4 := hf2
        try simp (disch := first | omega | (simp; done) | fail) [wrap64c, if_pos, if_neg, opAnd, opOr, opXor, opDiff, opShr, opBit, ntv, csv, ntw, csw, hbig, ntsv1, cssv1, lnsv1, gs, c1, ntsv2, cssv2, lnsv2, gt, d1, gtY, lnY, eT, e31, e32, e40, e263, e264, e265, hlt, e40', hm1, hc1, hc2, hc3, hc4]
        exact done_ret rfl (by simp [K2, hc1, hc2, hc3, hc4])
  · have triv : True := trivial
    obtain ⟨n, fs, eN, eX, gd⟩ := spB_true c1
    subst eN eX
    have n7 := gd.n7
    have hl7 := gd.len7
    have gtF := toN_get fs
    have lnF := toN_length fs
    obtain ⟨hm1, hm2⟩ := worst_set gd
    obtain ⟨ws, hws⟩ : ∃ q, q = (wsS fs fs).1 := ⟨_, rfl⟩
    obtain ⟨wn, hwn⟩ : ∃ q, q = worstN fs := ⟨_, rfl⟩
    obtain ⟨hh, hhh⟩ : ∃ q, q = hwN fs fs := ⟨_, rfl⟩
    obtain ⟨tt, htt⟩ : ∃ q, q = totN fs := ⟨_, rfl⟩
    obtain ⟨lp, hlp⟩ : ∃ q, q = lpN n fs fs := ⟨_, rfl⟩
    obtain ⟨bn, hbn⟩ : ∃ q, q = bndN fs.length := ⟨_, rfl⟩
    rw [← hws, ← hwn] at hm2
    rw [← hws] at hm1
    have q1 := half_worst gd
    have q2 := bound_worst gd
    have q3 := longest_worst gd
    have q4 := tot_worst fs gd.sl
    have q5 := worst_items fs gd.sl
    have q6 := worstN_le fs
    rw [← hwn] at q1 q2 q3 q4 q5 q6
    rw [← hhh] at q1
    rw [← hbn] at q2
    rw [← hlp] at q3
    rw [← htt] at q4
    have q7 : hh ≤ fs.length := hhh ▸ hwN_le fs fs 0 (Nat.zero_le _)
    have eW : worstR (n : Int) (toN fs) = (ws : Int) := by rw [worstR, if_pos c1, natsOf_toN, hws]
    have eH : hwR (n : Int) (toN fs) = (hh : Int) := by rw [hwR, if_pos c1, natsOf_toN, hhh]
    have eT : totR (n : Int) (toN fs) = (tt : Int) := by rw [totR, if_pos c1, natsOf_toN, htt]
    have eP : lpR (n : Int) (toN fs) = (lp : Int) := by rw [lpR, if_pos c1, natsOf_toN, hlp]; rfl
    have eB : bndR (n : Int) (toN fs) = (bn : Int) := by rw [bndR, if_pos c1, toN_length, hbn]
    have one1 : oneB (n : Int) (toN fs) (ws : Int) = true := by simp [oneB, c1, mem_toN, hm1]
    obtain ⟨y1, y2⟩ := go_none gd
    rw [← hwn] at y2
    try simp (disch := first | omega | (simp; done) | fail) [wrap64c, if_pos, if_neg, opAnd, opOr, opXor, opDiff, opShr, opBit, ntv, csv, ntw, csw, hbig, ntsv1, cssv1, lnsv1, gs, c1, gtF, lnF, eW, eH, eT, eP, eB]
    obtain ⟨_, h3, p3, a3, u1, rfl, hu1⟩ := implAsk_ok h2 _ (n : Int) (toN fs) (ws : Int) hC lX40
    have eA : askR (n : Int) (toN fs) (ws : Int) = toN (runF bestN ws fs.length fs) := by rw [askR, if_pos one1, natsOf_toN, toN_length, Int.toNat_natCast]
    rw [eA] at hu1
    rw [one1] at p3
    have lnA : (toN (runF bestN ws fs.length fs)).length = wn := by rw [toN_length]; exact hm2
    refine callG_c (by simp) (by simp) ?ha (p3) ?_
    (case ha => simp (disch := first | omega | (simp; done) | fail) [wrap64c, if_pos, if_neg, opAnd, opOr, opXor, opDiff, opShr, opBit, ntv, csv, ntw, csw, hbig, ntsv1, cssv1, lnsv1, gs, c1, gtF, lnF, eW, eH, eT, eP, eB, lnA])
    have n3 := a3.1.1
    have K3 := K2.trans a3.1
    have gs : h3.get h1.next = .cells [.int .i64 (n : Int), sv1] true true 1 := by rw [a3.1.2 _ (by omega)]; exact gs
    have hv := hv.keep a3.1
    have hw := hw.keep a3.1
    have hC := hC.keep a3.1
    have hu1 := hu1.ints
    have ntu1 := hu1.nt
    have csu1 := hu1.cs
    have lnu1 := hu1.lenD
    rw [lnA] at lnu1
    have lnu1' := lnu1
    have pW := implWorstQ_ok h3 _ (n : Int) (toN fs) 0 0 hC lX'
    rw [y1, y2] at pW
    try simp (disch := first | omega | (simp; done) | fail) [wrap64c, if_pos, if_neg, opAnd, opOr, opXor, opDiff, opShr, opBit, ntv, csv, ntw, csw, hbig, ntsv1, cssv1, lnsv1, gs, c1, gtF, lnF, eW, eH, eT, eP, eB, lnA, ntu1, csu1, lnu1, lnu1']
    refine callG_c (by simp) (by simp) ?ha (pW) ?_
    (case ha => simp (disch := first | omega | (simp; done) | fail) [wrap64c, if_pos, if_neg, opAnd, opOr, opXor, opDiff, opShr, opBit, ntv, csv, ntw, csw, hbig, ntsv1, cssv1, lnsv1, gs, c1, gtF, lnF, eW, eH, eT, eP, eB, lnA, ntu1, csu1, lnu1, lnu1'])
    try simp (disch := first | omega | (simp; done) | fail) [wrap64c, if_pos, if_neg, opAnd, opOr, opXor, opDiff, opShr, opBit, ntv, csv, ntw, csw, hbig, ntsv1, cssv1, lnsv1, gs, c1, gtF, lnF, eW, eH, eT, eP, eB, lnA, ntu1, csu1, lnu1, lnu1']
    refine callG_c (by simp) (by simp) ?ha (implBound_ok h3 _ (n : Int) (toN fs) hC lX') ?_
    (case ha => simp (disch := first | omega | (simp; done) | fail) [wrap64c, if_pos, if_neg, opAnd, opOr, opXor, opDiff, opShr, opBit, ntv, csv, ntw, csw, hbig, ntsv1, cssv1, lnsv1, gs, c1, gtF, lnF, eW, eH, eT, eP, eB, lnA, ntu1, csu1, lnu1, lnu1'])
    try simp (disch := first | omega | (simp; done) | fail) [wrap64c, if_pos, if_neg, opAnd, opOr, opXor, opDiff, opShr, opBit, ntv, csv, ntw, csw, hbig, ntsv1, cssv1, lnsv1, gs, c1, gtF, lnF, eW, eH, eT, eP, eB, lnA, ntu1, csu1, lnu1, lnu1']
    refine callG_c (by simp) (by simp) ?ha (implTotal_ok h3 _ (n : Int) (toN fs) hC lX') ?_
    (case ha => simp (disch := first | omega | (simp; done) | fail) [wrap64c, if_pos, if_neg, opAnd, opOr, opXor, opDiff, opShr, opBit, ntv, csv, ntw, csw, hbig, ntsv1, cssv1, lnsv1, gs, c1, gtF, lnF, eW, eH, eT, eP, eB, lnA, ntu1, csu1, lnu1, lnu1'])
    try simp (disch := first | omega | (simp; done) | fail) [wrap64c, if_pos, if_neg, opAnd, opOr, opXor, opDiff, opShr, opBit, ntv, csv, ntw, csw, hbig, ntsv1, cssv1, lnsv1, gs, c1, gtF, lnF, eW, eH, eT, eP, eB, lnA, ntu1, csu1, lnu1, lnu1']
    refine callG_c (by simp) (by simp) ?ha (implLongest_ok h3 _ (n : Int) (toN fs) hC lX') ?_
    (case ha => simp (disch := first | omega | (simp; done) | fail) [wrap64c, if_pos, if_neg, opAnd, opOr, opXor, opDiff, opShr, opBit, ntv, csv, ntw, csw, hbig, ntsv1, cssv1, lnsv1, gs, c1, gtF, lnF, eW, eH, eT, eP, eB, lnA, ntu1, csu1, lnu1, lnu1'])
    have hml : wn * fs.length ≤ 128 * 128 := Nat.mul_le_mul (by omega) hl7
    obtain ⟨mm, hmm⟩ : ∃ q, q = wn * fs.length := ⟨_, rfl⟩
    have hmul : (wn : Int) * (fs.length : Int) = (mm : Int) := by rw [hmm]; simp
    rw [← hmm] at hml q4
    have z1 : ¬ (wn : Int) < (bn : Int) := by omega
    have z2 : ¬ (hh : Int) < (wn : Int) := by omega
    have z3 : ¬ (mm : Int) < (tt : Int) := by omega
    have z4 : ¬ (n : Int) < (wn : Int) := by omega
    have z5 : ¬ (wn : Int) < (lp : Int) := by omega
    have z1n : ¬ wn < bn := by omega
    have z2n : ¬ hh < wn := by omega
    have z3n : ¬ mm < tt := by omega
    have z4n : ¬ n < wn := by omega
    have z5n : ¬ wn < lp := by omega
    have lF2 : Ints h3 sv1 (toN fs) := by have := hC; obtain ⟨_, z, zz⟩ := this; cases z; exact zz
    try simp (disch := first | omega | (simp; done) | fail) [wrap64c, if_pos, if_neg, opAnd, opOr, opXor, opDiff, opShr, opBit, ntv, csv, ntw, csw, hbig, ntsv1, cssv1, lnsv1, gs, c1, gtF, lnF, eW, eH, eT, eP, eB, lnA, ntu1, csu1, lnu1, lnu1', hmul, z1, z2, z3, z4, z5, z1n, z2n, z3n, z4n, z5n]
    refine WD_loopC [1, 5, 10, 16, 176, 177] (fun m tm h' => ∃ j, m = fs.length - j ∧ tm 24 = .int .i64 ((hwN fs (fs.take j) : Nat) : Int) ∧ tm 178 = .int .i64 (j : Int) ∧ (j ≤ fs.length) ∧ (Adds h3 h')) _ ⟨0, rfl, (by simp [hwN]), (by simp (disch := first | omega | (simp; done) | fail) [wrap64c, if_pos, if_neg, opAnd, opOr, opXor, opDiff, opShr, opBit, ntv, csv, ntw, csw, hbig, ntsv1, cssv1, lnsv1, gs, c1, gtF, lnF, eW, eH, eT, eP, eB, lnA, ntu1, csu1, lnu1, lnu1', hmul, z1, z2, z3, z4, z5, z1n, z2n, z3n, z4n, z5n]), (by first | omega | assumption | (simp (disch := first | omega | (simp; done) | fail) [wrap64c, if_pos, if_neg, opAnd, opOr, opXor, opDiff, opShr, opBit, ntv, csv, ntw, csw, hbig, ntsv1, cssv1, lnsv1, gs, c1, gtF, lnF, eW, eH, eT, eP, eB, lnA, ntu1, csu1, lnu1, lnu1', hmul, z1, z2, z3, z4, z5, z1n, z2n, z3n, z4n, z5n] <;> omega)), (adds_self _)⟩ ?_
    rintro m tm h' hFr ⟨j, rfl, e24, e178, hj, hd⟩
    simp only [FrameL] at hFr
    obtain ⟨f1_1, f5_1, f10_1, f16_1, f176_1, f177_1, -⟩ := hFr
    try simp (disch := first | omega | (simp; done) | fail) [wrap64c, if_pos, if_neg, opAnd, opOr, opXor, opDiff, opShr, opBit, ntv, csv, ntw, csw, hbig, ntsv1, cssv1, lnsv1, gs, c1, gtF, lnF, eW, eH, eT, eP, eB, lnA, ntu1, csu1, lnu1, lnu1', hmul, z1, z2, z3, z4, z5, z1n, z2n, z3n, z4n, z5n] at f1_1 f5_1 f10_1 f16_1 f176_1 f177_1
    have e1 := f1_1
    have e5 := f5_1
    have e10 := f10_1
    have e16 := f16_1
    have e176 := f176_1
    have e177 := f177_1
    have nd := hd.1.1
    have hwb : hwN fs (fs.take j) ≤ fs.length := hwN_le fs _ 0 (Nat.zero_le _)
    rename Hp => hq
    have gs' : hq.get h1.next = .cells [.int .i64 (n : Int), sv1] true true 1 := by rw [hd.1.2 _ (by omega)]; exact gs
    have hCq := hC.keep hd.1
    have lFq := lF2.keep hd.1
    by_cases hlt : j < fs.length
    · have hxj := List.getElem_mem hlt
      have onej : oneB (n : Int) (toN fs) (fs[j] : Int) = true := by simp [oneB, c1, mem_toN]
      obtain ⟨_, h5, p5, a5, v1, rfl, hv1⟩ := implHalf_ok hq _ (n : Int) (toN fs) (fs[j] : Int) hCq lX40
      have eV : halfR (n : Int) (toN fs) (fs[j] : Int) = toN (runF halfN fs[j] fs.length fs) := by rw [halfR, if_pos onej, natsOf_toN, toN_length, Int.toNat_natCast]
      rw [eV] at hv1
      rw [onej] at p5
      obtain ⟨rl, hrl⟩ : ∃ q, q = hrunL fs fs[j] := ⟨_, rfl⟩
      have hrb : rl ≤ fs.length := hrl ▸ runF_len _ _ _ _
      have lnV : (toN (runF halfN fs[j] fs.length fs)).length = rl := by rw [toN_length, hrl]; rfl
      have ntv1 := hv1.ints.nt
      have csv1 := hv1.ints.cs
      have lnv1 := hv1.ints.lenD
      rw [lnV] at lnv1
      have lnv1' := lnv1
      have gs5 : h5.get h1.next = .cells [.int .i64 (n : Int), sv1] true true 1 := by rw [a5.1.2 _ (by omega)]; exact gs'
      obtain ⟨_, h6, p6, a6, v2, rfl, hv2⟩ := implAsk_ok h5 _ (n : Int) (toN fs) (fs[j] : Int) (hCq.keep a5.1) lX40
      have eV2 : askR (n : Int) (toN fs) (fs[j] : Int) = toN (runF bestN fs[j] fs.length fs) := by rw [askR, if_pos onej, natsOf_toN, toN_length, Int.toNat_natCast]
      rw [eV2] at hv2
      rw [onej] at p6
      obtain ⟨rb, hrbe⟩ : ∃ q, q = (runF bestN fs[j] fs.length fs).length := ⟨_, rfl⟩
      have hrbw : rb ≤ wn := by rw [hrbe, hwn]; exact run_worst _ _ _
      have lnV2 : (toN (runF bestN fs[j] fs.length fs)).length = rb := by rw [toN_length, hrbe]
      have ntv2 := hv2.ints.nt
      have csv2 := hv2.ints.cs
      have lnv2 := hv2.ints.lenD
      rw [lnV2] at lnv2
      have lnv2' := lnv2
      have hng : ¬ (wn : Int) < (rb : Int) := by omega
      have hngn : ¬ wn < rb := by omega
      have ht := hwN_take hlt
      rw [← hrl] at ht
      obtain ⟨w0, hw0⟩ : ∃ q, q = hwN fs (fs.take j) := ⟨_, rfl⟩
      rw [← hw0] at ht hwb e24
      have e24' := e24
      obtain ⟨o_q, i_q, c_q, cs_q, own_q, ex_q, es_q, q_q, b_q, g_q, l_q, r_q⟩ := lFq.open ((by simp; omega))
      have z_q : ∀ h2 : i_q < cs_q.length, cs_q[i_q] = _ := fun h2 => r_q 0 ((by simp; omega)) h2
      try simp (disch := first | omega | (simp; done) | fail) [wrap64c, if_pos, if_neg, opAnd, opOr, opXor, opDiff, opShr, opBit, ntv, csv, ntw, csw, hbig, ntsv1, cssv1, lnsv1, gs, c1, gtF, lnF, eW, eH, eT, eP, eB, lnA, ntu1, csu1, lnu1, lnu1', hmul, z1, z2, z3, z4, z5, z1n, z2n, z3n, z4n, z5n, e1, e5, e10, e16, e24, e176, e177, e178, gs', hlt, ntv1, csv1, lnv1', gs5, ntv2, csv2, lnv2', hng, hngn, e24', q_q, g_q, l_q, r_q, z_q]
      refine callG_c (by simp) (by simp) ?ha (p5) ?_
      (case ha => simp (disch := first | omega | (simp; done) | fail) [wrap64c, if_pos, if_neg, opAnd, opOr, opXor, opDiff, opShr, opBit, ntv, csv, ntw, csw, hbig, ntsv1, cssv1, lnsv1, gs, c1, gtF, lnF, eW, eH, eT, eP, eB, lnA, ntu1, csu1, lnu1, lnu1', hmul, z1, z2, z3, z4, z5, z1n, z2n, z3n, z4n, z5n, e1, e5, e10, e16, e24, e176, e177, e178, gs', hlt, ntv1, csv1, lnv1', gs5, ntv2, csv2, lnv2', hng, hngn, e24', q_q, g_q, l_q, r_q, z_q])
      try simp (disch := first | omega | (simp; done) | fail) [wrap64c, if_pos, if_neg, opAnd, opOr, opXor, opDiff, opShr, opBit, ntv, csv, ntw, csw, hbig, ntsv1, cssv1, lnsv1, gs, c1, gtF, lnF, eW, eH, eT, eP, eB, lnA, ntu1, csu1, lnu1, lnu1', hmul, z1, z2, z3, z4, z5, z1n, z2n, z3n, z4n, z5n, e1, e5, e10, e16, e24, e176, e177, e178, gs', hlt, ntv1, csv1, lnv1', gs5, ntv2, csv2, lnv2', hng, hngn, e24', q_q, g_q, l_q, r_q, z_q]
      refine callG_c (by simp) (by simp) ?ha (p6) ?_
      (case ha => simp (disch := first | omega | (simp; done) | fail) [wrap64c, if_pos, if_neg, opAnd, opOr, opXor, opDiff, opShr, opBit, ntv, csv, ntw, csw, hbig, ntsv1, cssv1, lnsv1, gs, c1, gtF, lnF, eW, eH, eT, eP, eB, lnA, ntu1, csu1, lnu1, lnu1', hmul, z1, z2, z3, z4, z5, z1n, z2n, z3n, z4n, z5n, e1, e5, e10, e16, e24, e176, e177, e178, gs', hlt, ntv1, csv1, lnv1', gs5, ntv2, csv2, lnv2', hng, hngn, e24', q_q, g_q, l_q, r_q, z_q])
      by_cases hc : w0 < rl
      · have hc' : (w0 : Int) < (rl : Int) := by omega
        try simp (disch := first | omega | (simp; done) | fail) [wrap64c, if_pos, if_neg, opAnd, opOr, opXor, opDiff, opShr, opBit, ntv, csv, ntw, csw, hbig, ntsv1, cssv1, lnsv1, gs, c1, gtF, lnF, eW, eH, eT, eP, eB, lnA, ntu1, csu1, lnu1, lnu1', hmul, z1, z2, z3, z4, z5, z1n, z2n, z3n, z4n, z5n, e1, e5, e10, e16, e24, e176, e177, e178, gs', hlt, ntv1, csv1, lnv1', gs5, ntv2, csv2, lnv2', hng, hngn, e24', q_q, g_q, l_q, r_q, z_q, hc, hc']
        refine loopK_next _ ?hm ?hf ⟨j + 1, rfl, (by rw [ht]; simp; omega), (by simp (disch := first | omega | (simp; done) | fail) [wrap64c, if_pos, if_neg, opAnd, opOr, opXor, opDiff, opShr, opBit, ntv, csv, ntw, csw, hbig, ntsv1, cssv1, lnsv1, gs, c1, gtF, lnF, eW, eH, eT, eP, eB, lnA, ntu1, csu1, lnu1, lnu1', hmul, z1, z2, z3, z4, z5, z1n, z2n, z3n, z4n, z5n, e1, e5, e10, e16, e24, e176, e177, e178, gs', hlt, ntv1, csv1, lnv1', gs5, ntv2, csv2, lnv2', hng, hngn, e24', q_q, g_q, l_q, r_q, z_q, hc, hc'] <;> omega), (by first | omega | assumption | (simp (disch := first | omega | (simp; done) | fail) [wrap64c, if_pos, if_neg, opAnd, opOr, opXor, opDiff, opShr, opBit, ntv, csv, ntw, csw, hbig, ntsv1, cssv1, lnsv1, gs, c1, gtF, lnF, eW, eH, eT, eP, eB, lnA, ntu1, csu1, lnu1, lnu1', hmul, z1, z2, z3, z4, z5, z1n, z2n, z3n, z4n, z5n, e1, e5, e10, e16, e24, e176, e177, e178, gs', hlt, ntv1, csv1, lnv1', gs5, ntv2, csv2, lnv2', hng, hngn, e24', q_q, g_q, l_q, r_q, z_q, hc, hc'] <;> omega)), ((hd.trans a5).trans a6)⟩
        (case hm => first | omega | (simp; omega))
        (case hf => simp [FrameL, ntv, csv, ntw, csw, hbig, ntsv1, cssv1, lnsv1, gs, c1, gtF, lnF, eW, eH, eT, eP, eB, lnA, ntu1, csu1, lnu1, lnu1', hmul, z1, z2, z3, z4, z5, z1n, z2n, z3n, z4n, z5n, e1, e5, e10, e16, e24, e176, e177, e178, gs', hlt, ntv1, csv1, lnv1', gs5, ntv2, csv2, lnv2', hng, hngn, e24', q_q, g_q, l_q, r_q, z_q, hc, hc', f1_1, f5_1, f10_1, f16_1, f176_1, f177_1])
      · have hc' : ¬ (w0 : Int) < (rl : Int) := by omega
        try simp (disch := first | omega | (simp; done) | fail) [wrap64c, if_pos, if_neg, opAnd, opOr, opXor, opDiff, opShr, opBit, ntv, csv, ntw, csw, hbig, ntsv1, cssv1, lnsv1, gs, c1, gtF, lnF, eW, eH, eT, eP, eB, lnA, ntu1, csu1, lnu1, lnu1', hmul, z1, z2, z3, z4, z5, z1n, z2n, z3n, z4n, z5n, e1, e5, e10, e16, e24, e176, e177, e178, gs', hlt, ntv1, csv1, lnv1', gs5, ntv2, csv2, lnv2', hng, hngn, e24', q_q, g_q, l_q, r_q, z_q, hc, hc']
        refine loopK_next _ ?hm ?hf ⟨j + 1, rfl, (by rw [ht]; simp [e24]; omega), (by simp (disch := first | omega | (simp; done) | fail) [wrap64c, if_pos, if_neg, opAnd, opOr, opXor, opDiff, opShr, opBit, ntv, csv, ntw, csw, hbig, ntsv1, cssv1, lnsv1, gs, c1, gtF, lnF, eW, eH, eT, eP, eB, lnA, ntu1, csu1, lnu1, lnu1', hmul, z1, z2, z3, z4, z5, z1n, z2n, z3n, z4n, z5n, e1, e5, e10, e16, e24, e176, e177, e178, gs', hlt, ntv1, csv1, lnv1', gs5, ntv2, csv2, lnv2', hng, hngn, e24', q_q, g_q, l_q, r_q, z_q, hc, hc'] <;> omega), (by first | omega | assumption | (simp (disch := first | omega | (simp; done) | fail) [wrap64c, if_pos, if_neg, opAnd, opOr, opXor, opDiff, opShr, opBit, ntv, csv, ntw, csw, hbig, ntsv1, cssv1, lnsv1, gs, c1, gtF, lnF, eW, eH, eT, eP, eB, lnA, ntu1, csu1, lnu1, lnu1', hmul, z1, z2, z3, z4, z5, z1n, z2n, z3n, z4n, z5n, e1, e5, e10, e16, e24, e176, e177, e178, gs', hlt, ntv1, csv1, lnv1', gs5, ntv2, csv2, lnv2', hng, hngn, e24', q_q, g_q, l_q, r_q, z_q, hc, hc'] <;> omega)), ((hd.trans a5).trans a6)⟩
        (case hm => first | omega | (simp; omega))
        (case hf => simp [FrameL, ntv, csv, ntw, csw, hbig, ntsv1, cssv1, lnsv1, gs, c1, gtF, lnF, eW, eH, eT, eP, eB, lnA, ntu1, csu1, lnu1, lnu1', hmul, z1, z2, z3, z4, z5, z1n, z2n, z3n, z4n, z5n, e1, e5, e10, e16, e24, e176, e177, e178, gs', hlt, ntv1, csv1, lnv1', gs5, ntv2, csv2, lnv2', hng, hngn, e24', q_q, g_q, l_q, r_q, z_q, hc, hc', f1_1, f5_1, f10_1, f16_1, f176_1, f177_1])
    · have hft : fs.take j = fs := List.take_of_length_le (by omega)
      rw [hft, ← hhh] at e24
      have e24' := e24
      have K9 := K3.trans hd.1
      try simp (disch := first | omega | (simp; done) | fail) [wrap64c, if_pos, if_neg, opAnd, opOr, opXor, opDiff, opShr, opBit, ntv, csv, ntw, csw, hbig, ntsv1, cssv1, lnsv1, gs, c1, gtF, lnF, eW, eH, eT, eP, eB, lnA, ntu1, csu1, lnu1, lnu1', hmul, z1, z2, z3, z4, z5, z1n, z2n, z3n, z4n, z5n, e1, e5, e10, e16, e24, e176, e177, e178, gs', hlt, e24']
      obtain ⟨g0, hg0⟩ : ∃ x, x = hq := ⟨_, rfl⟩
      have K0 := K9
      rw [← hg0] at K0
      have hv := (hv.keep hd.1)
      have hw := (hw.keep hd.1)
      rw [← hg0] at hv
      rw [← hg0] at hw
      try rw [← hg0]
      obtain ⟨_, g1, p1, a1, s2, G, Y, rfl, hD, lY⟩ := drawLeastTotal_ok g0 w ys (bytes_old hw)
      refine callG_c (by simp) (by simp) ?ha (p1) ?_
      (case ha => simp (disch := first | omega | (simp; done) | fail) [wrap64c, if_pos, if_neg, opAnd, opOr, opXor, opDiff, opShr, opBit, ntv, csv, ntw, csw, hbig, ntsv1, cssv1, lnsv1, gs, c1, gtF, lnF, eW, eH, eT, eP, eB, lnA, ntu1, csu1, lnu1, lnu1', hmul, z1, z2, z3, z4, z5, z1n, z2n, z3n, z4n, z5n, e1, e5, e10, e16, e24, e176, e177, e178, gs', hlt, e24'])
      have n1 := a1.1.1
      have K1 := K0.trans a1.1
      have hv := hv.keep a1.1
      have hw := hw.keep a1.1
      obtain ⟨sv2, rfl, hsv2⟩ := hD
      have hsv2 := hsv2.ints
      have ntsv2 := hsv2.nt
      have cssv2 := hsv2.cs
      have lnsv2 := hsv2.lenD
      have hD : Space g1 (.agg #[.int .i64 G, sv2]) G Y := .mk hsv2
      try simp (disch := first | omega | (simp; done) | fail) [wrap64c, if_pos, if_neg, opAnd, opOr, opXor, opDiff, opShr, opBit, ntv, csv, ntw, csw, hbig, ntsv1, cssv1, lnsv1, gs, c1, gtF, lnF, eW, eH, eT, eP, eB, lnA, ntu1, csu1, lnu1, lnu1', hmul, z1, z2, z3, z4, z5, z1n, z2n, z3n, z4n, z5n, e1, e5, e10, e16, e24, e176, e177, e178, gs', hlt, e24', ntsv2, cssv2, lnsv2, putCells]
      first | refine WY_heap fun g2 q_g2 => ?_ | refine callG_heap fun g2 q_g2 => ?_ | refine callP_heap fun g2 q_g2 => ?_ | refine callS_heap fun g2 q_g2 => ?_ | refine RY_heap fun g2 q_g2 => ?_ | refine PY_heap fun g2 q_g2 => ?_ | refine SY_heap fun g2 q_g2 => ?_ | refine doneY_heap fun g2 q_g2 => ?_ | refine loopK_heap fun g2 q_g2 => ?_ | refine thenY_heap fun g2 q_g2 => ?_ | refine thenM_heap fun g2 q_g2 => ?_
      have b2 : Adds g1 g2 := by rw [q_g2]; exact (by first | exact aK | exact kK)
      have n2 := b2.1.1
      have K2 := K1.trans b2.1
      have hv := hv.keep b2.1
      have hw := hw.keep b2.1
      have hD := hD.keep b2.1
      have m2 : g2.next = g1.next + 1 := by simp [q_g2]
      have gt : g2.get g1.next = .cells [.int .i64 G, sv2] true true 1 := by simp [q_g2]
      have lY39 : Y.length < 2 ^ 39 := by omega
      refine callG_c (by simp) (by simp) ?ha (implTotal_ok g2 _ G Y hD lY39) ?_
      (case ha => simp (disch := first | omega | (simp; done) | fail) [wrap64c, if_pos, if_neg, opAnd, opOr, opXor, opDiff, opShr, opBit, ntv, csv, ntw, csw, hbig, ntsv1, cssv1, lnsv1, gs, c1, gtF, lnF, eW, eH, eT, eP, eB, lnA, ntu1, csu1, lnu1, lnu1', hmul, z1, z2, z3, z4, z5, z1n, z2n, z3n, z4n, z5n, e1, e5, e10, e16, e24, e176, e177, e178, gs', hlt, e24', ntsv2, cssv2, lnsv2, gt])
      try simp (disch := first | omega | (simp; done) | fail) [wrap64c, if_pos, if_neg, opAnd, opOr, opXor, opDiff, opShr, opBit, ntv, csv, ntw, csw, hbig, ntsv1, cssv1, lnsv1, gs, c1, gtF, lnF, eW, eH, eT, eP, eB, lnA, ntu1, csu1, lnu1, lnu1', hmul, z1, z2, z3, z4, z5, z1n, z2n, z3n, z4n, z5n, e1, e5, e10, e16, e24, e176, e177, e178, gs', hlt, e24', ntsv2, cssv2, lnsv2, gt]
      refine callG_c (by simp) (by simp) ?ha (specTotal_ok g2 _ G Y hD lY39) ?_
      (case ha => simp (disch := first | omega | (simp; done) | fail) [wrap64c, if_pos, if_neg, opAnd, opOr, opXor, opDiff, opShr, opBit, ntv, csv, ntw, csw, hbig, ntsv1, cssv1, lnsv1, gs, c1, gtF, lnF, eW, eH, eT, eP, eB, lnA, ntu1, csu1, lnu1, lnu1', hmul, z1, z2, z3, z4, z5, z1n, z2n, z3n, z4n, z5n, e1, e5, e10, e16, e24, e176, e177, e178, gs', hlt, e24', ntsv2, cssv2, lnsv2, gt])
      try simp (disch := first | omega | (simp; done) | fail) [wrap64c, if_pos, if_neg, opAnd, opOr, opXor, opDiff, opShr, opBit, ntv, csv, ntw, csw, hbig, ntsv1, cssv1, lnsv1, gs, c1, gtF, lnF, eW, eH, eT, eP, eB, lnA, ntu1, csu1, lnu1, lnu1', hmul, z1, z2, z3, z4, z5, z1n, z2n, z3n, z4n, z5n, e1, e5, e10, e16, e24, e176, e177, e178, gs', hlt, e24', ntsv2, cssv2, lnsv2, gt]
      refine callG_c (by simp) (by simp) ?ha (implBound_ok g2 _ G Y hD lY39) ?_
      (case ha => simp (disch := first | omega | (simp; done) | fail) [wrap64c, if_pos, if_neg, opAnd, opOr, opXor, opDiff, opShr, opBit, ntv, csv, ntw, csw, hbig, ntsv1, cssv1, lnsv1, gs, c1, gtF, lnF, eW, eH, eT, eP, eB, lnA, ntu1, csu1, lnu1, lnu1', hmul, z1, z2, z3, z4, z5, z1n, z2n, z3n, z4n, z5n, e1, e5, e10, e16, e24, e176, e177, e178, gs', hlt, e24', ntsv2, cssv2, lnsv2, gt])
      try simp (disch := first | omega | (simp; done) | fail) [wrap64c, if_pos, if_neg, opAnd, opOr, opXor, opDiff, opShr, opBit, ntv, csv, ntw, csw, hbig, ntsv1, cssv1, lnsv1, gs, c1, gtF, lnF, eW, eH, eT, eP, eB, lnA, ntu1, csu1, lnu1, lnu1', hmul, z1, z2, z3, z4, z5, z1n, z2n, z3n, z4n, z5n, e1, e5, e10, e16, e24, e176, e177, e178, gs', hlt, e24', ntsv2, cssv2, lnsv2, gt]
      refine callG_c (by simp) (by simp) ?ha (specBound_ok g2 _ G Y hD lY39) ?_
      (case ha => simp (disch := first | omega | (simp; done) | fail) [wrap64c, if_pos, if_neg, opAnd, opOr, opXor, opDiff, opShr, opBit, ntv, csv, ntw, csw, hbig, ntsv1, cssv1, lnsv1, gs, c1, gtF, lnF, eW, eH, eT, eP, eB, lnA, ntu1, csu1, lnu1, lnu1', hmul, z1, z2, z3, z4, z5, z1n, z2n, z3n, z4n, z5n, e1, e5, e10, e16, e24, e176, e177, e178, gs', hlt, e24', ntsv2, cssv2, lnsv2, gt])
      try simp (disch := first | omega | (simp; done) | fail) [wrap64c, if_pos, if_neg, opAnd, opOr, opXor, opDiff, opShr, opBit, ntv, csv, ntw, csw, hbig, ntsv1, cssv1, lnsv1, gs, c1, gtF, lnF, eW, eH, eT, eP, eB, lnA, ntu1, csu1, lnu1, lnu1', hmul, z1, z2, z3, z4, z5, z1n, z2n, z3n, z4n, z5n, e1, e5, e10, e16, e24, e176, e177, e178, gs', hlt, e24', ntsv2, cssv2, lnsv2, gt]
      cases d1 : spB G Y
      · try simp (disch := first | omega | (simp; done) | fail) [wrap64c, if_pos, if_neg, opAnd, opOr, opXor, opDiff, opShr, opBit, ntv, csv, ntw, csw, hbig, ntsv1, cssv1, lnsv1, gs, c1, gtF, lnF, eW, eH, eT, eP, eB, lnA, ntu1, csu1, lnu1, lnu1', hmul, z1, z2, z3, z4, z5, z1n, z2n, z3n, z4n, z5n, e1, e5, e10, e16, e24, e176, e177, e178, gs', hlt, e24', ntsv2, cssv2, lnsv2, gt, d1]
        exact done_ret rfl (by simp [K2])
      · obtain ⟨m2, ys2, eG, eY, gd2⟩ := spB_true d1
        subst eG eY
        have n27 := gd2.n7
        have hl7 := gd2.len7
        have gtY := toN_get ys2
        have lnY := toN_length ys2
        obtain ⟨tt, htt⟩ : ∃ q, q = totN ys2 := ⟨_, rfl⟩
        have eT : totR (m2 : Int) (toN ys2) = (tt : Int) := by rw [totR, if_pos d1, natsOf_toN, htt]
        have hf1 := fringes_total gd2
        have hf2 := total_items gd2
        rw [← htt] at hf1 hf2
        have lY2 : Ints g2 sv2 (toN ys2) := by have := hD; obtain ⟨_, z, zz⟩ := this; cases z; exact zz
        try simp (disch := first | omega | (simp; done) | fail) [wrap64c, if_pos, if_neg, opAnd, opOr, opXor, opDiff, opShr, opBit, ntv, csv, ntw, csw, hbig, ntsv1, cssv1, lnsv1, gs, c1, gtF, lnF, eW, eH, eT, eP, eB, lnA, ntu1, csu1, lnu1, lnu1', hmul, z1, z2, z3, z4, z5, z1n, z2n, z3n, z4n, z5n, e1, e5, e10, e16, e24, e176, e177, e178, gs', hlt, e24', ntsv2, cssv2, lnsv2, gt, d1, gtY, lnY]
        refine WD_loopC [31, 32, 263, 264] (fun m tm h' => ∃ j, m = ys2.length - j ∧ g2 = h' ∧ tm 40 = .int .i64 ((frSum m2 ys2 (ys2.take j) : Nat) : Int) ∧ tm 265 = .int .i64 (j : Int) ∧ (j ≤ ys2.length)) _ ⟨0, rfl, rfl, (by simp [frSum]), (by simp (disch := first | omega | (simp; done) | fail) [wrap64c, if_pos, if_neg, opAnd, opOr, opXor, opDiff, opShr, opBit, ntv, csv, ntw, csw, hbig, ntsv1, cssv1, lnsv1, gs, c1, gtF, lnF, eW, eH, eT, eP, eB, lnA, ntu1, csu1, lnu1, lnu1', hmul, z1, z2, z3, z4, z5, z1n, z2n, z3n, z4n, z5n, e1, e5, e10, e16, e24, e176, e177, e178, gs', hlt, e24', ntsv2, cssv2, lnsv2, gt, d1, gtY, lnY]), (by first | omega | assumption | (simp (disch := first | omega | (simp; done) | fail) [wrap64c, if_pos, if_neg, opAnd, opOr, opXor, opDiff, opShr, opBit, ntv, csv, ntw, csw, hbig, ntsv1, cssv1, lnsv1, gs, c1, gtF, lnF, eW, eH, eT, eP, eB, lnA, ntu1, csu1, lnu1, lnu1', hmul, z1, z2, z3, z4, z5, z1n, z2n, z3n, z4n, z5n, e1, e5, e10, e16, e24, e176, e177, e178, gs', hlt, e24', ntsv2, cssv2, lnsv2, gt, d1, gtY, lnY] <;> omega))⟩ ?_
        rintro m tm h' hFr ⟨j, rfl, rfl, e40, e265, hj⟩
        simp only [FrameL] at hFr
        obtain ⟨f31_2, f32_2, f263_2, f264_2, -⟩ := hFr
        try simp (disch := first | omega | (simp; done) | fail) [wrap64c, if_pos, if_neg, opAnd, opOr, opXor, opDiff, opShr, opBit, ntv, csv, ntw, csw, hbig, ntsv1, cssv1, lnsv1, gs, c1, gtF, lnF, eW, eH, eT, eP, eB, lnA, ntu1, csu1, lnu1, lnu1', hmul, z1, z2, z3, z4, z5, z1n, z2n, z3n, z4n, z5n, e1, e5, e10, e16, e24, e176, e177, e178, gs', hlt, e24', ntsv2, cssv2, lnsv2, gt, d1, gtY, lnY] at f31_2 f32_2 f263_2 f264_2
        have e31 := f31_2
        have e32 := f32_2
        have e263 := f263_2
        have e264 := f264_2
        have hfl := frSum_le (n := m2) (xs := ys2) (ys2.take j)
        have htl : (ys2.take j).length ≤ ys2.length := by simp; omega
        by_cases hlt : j < ys2.length
        · have hyj := gd2.l128 _ (List.getElem_mem hlt)
          have one1 : oneB (m2 : Int) (toN ys2) (ys2[j] : Int) = true := by simp [oneB, d1, mem_toN]
          have pp := implProofOf_ok g2 _ (m2 : Int) (toN ys2) (ys2[j] : Int) hD (by simp; omega)
          rw [innerR, outerR, if_pos one1, if_pos one1, one1] at pp
          simp only [natsOf_toN, Int.toNat_natCast] at pp
          have hst := frSum_take (n := m2) (xs := ys2) hlt
          obtain ⟨iv, hiv⟩ : ∃ q, q = innerN (fam ys2) ys2[j] := ⟨_, rfl⟩
          obtain ⟨ov, hov⟩ : ∃ q, q = outerN (fam ys2) m2 ys2[j] := ⟨_, rfl⟩
          have liv : iv < 128 := hiv ▸ maskN_lt _ 7
          have lov : ov < 128 := hov ▸ Nat.lt_of_lt_of_le (maskN_lt _ m2) (bit7 n27).2
          rw [← hiv, ← hov] at pp hst
          have pj1 := jCount_ok g2 iv liv
          have pj2 := jCount_ok g2 ov lov
          have hp1 := pcN_le iv
          have hp2 := pcN_le ov
          obtain ⟨o_z, i_z, c_z, cs_z, own_z, ex_z, es_z, q_z, b_z, g_z, l_z, r_z⟩ := lY2.open ((by simp; omega))
          have z_z : ∀ h2 : i_z < cs_z.length, cs_z[i_z] = _ := fun h2 => r_z 0 ((by simp; omega)) h2
          try simp (disch := first | omega | (simp; done) | fail) [wrap64c, if_pos, if_neg, opAnd, opOr, opXor, opDiff, opShr, opBit, ntv, csv, ntw, csw, hbig, ntsv1, cssv1, lnsv1, gs, c1, gtF, lnF, eW, eH, eT, eP, eB, lnA, ntu1, csu1, lnu1, lnu1', hmul, z1, z2, z3, z4, z5, z1n, z2n, z3n, z4n, z5n, e1, e5, e10, e16, e24, e176, e177, e178, gs', hlt, e24', ntsv2, cssv2, lnsv2, gt, d1, gtY, lnY, e31, e32, e40, e263, e264, e265, q_z, g_z, l_z, r_z, z_z]
          refine callG_c (by simp) (by simp) ?ha (pp) ?_
          (case ha => simp (disch := first | omega | (simp; done) | fail) [wrap64c, if_pos, if_neg, opAnd, opOr, opXor, opDiff, opShr, opBit, ntv, csv, ntw, csw, hbig, ntsv1, cssv1, lnsv1, gs, c1, gtF, lnF, eW, eH, eT, eP, eB, lnA, ntu1, csu1, lnu1, lnu1', hmul, z1, z2, z3, z4, z5, z1n, z2n, z3n, z4n, z5n, e1, e5, e10, e16, e24, e176, e177, e178, gs', hlt, e24', ntsv2, cssv2, lnsv2, gt, d1, gtY, lnY, e31, e32, e40, e263, e264, e265, q_z, g_z, l_z, r_z, z_z])
          try simp (disch := first | omega | (simp; done) | fail) [wrap64c, if_pos, if_neg, opAnd, opOr, opXor, opDiff, opShr, opBit, ntv, csv, ntw, csw, hbig, ntsv1, cssv1, lnsv1, gs, c1, gtF, lnF, eW, eH, eT, eP, eB, lnA, ntu1, csu1, lnu1, lnu1', hmul, z1, z2, z3, z4, z5, z1n, z2n, z3n, z4n, z5n, e1, e5, e10, e16, e24, e176, e177, e178, gs', hlt, e24', ntsv2, cssv2, lnsv2, gt, d1, gtY, lnY, e31, e32, e40, e263, e264, e265, q_z, g_z, l_z, r_z, z_z]
          refine callG_c (by simp) (by simp) ?ha (pj1) ?_
          (case ha => simp (disch := first | omega | (simp; done) | fail) [wrap64c, if_pos, if_neg, opAnd, opOr, opXor, opDiff, opShr, opBit, ntv, csv, ntw, csw, hbig, ntsv1, cssv1, lnsv1, gs, c1, gtF, lnF, eW, eH, eT, eP, eB, lnA, ntu1, csu1, lnu1, lnu1', hmul, z1, z2, z3, z4, z5, z1n, z2n, z3n, z4n, z5n, e1, e5, e10, e16, e24, e176, e177, e178, gs', hlt, e24', ntsv2, cssv2, lnsv2, gt, d1, gtY, lnY, e31, e32, e40, e263, e264, e265, q_z, g_z, l_z, r_z, z_z])
          try simp (disch := first | omega | (simp; done) | fail) [wrap64c, if_pos, if_neg, opAnd, opOr, opXor, opDiff, opShr, opBit, ntv, csv, ntw, csw, hbig, ntsv1, cssv1, lnsv1, gs, c1, gtF, lnF, eW, eH, eT, eP, eB, lnA, ntu1, csu1, lnu1, lnu1', hmul, z1, z2, z3, z4, z5, z1n, z2n, z3n, z4n, z5n, e1, e5, e10, e16, e24, e176, e177, e178, gs', hlt, e24', ntsv2, cssv2, lnsv2, gt, d1, gtY, lnY, e31, e32, e40, e263, e264, e265, q_z, g_z, l_z, r_z, z_z]
          refine callG_c (by simp) (by simp) ?ha (pj2) ?_
          (case ha => simp (disch := first | omega | (simp; done) | fail) [wrap64c, if_pos, if_neg, opAnd, opOr, opXor, opDiff, opShr, opBit, ntv, csv, ntw, csw, hbig, ntsv1, cssv1, lnsv1, gs, c1, gtF, lnF, eW, eH, eT, eP, eB, lnA, ntu1, csu1, lnu1, lnu1', hmul, z1, z2, z3, z4, z5, z1n, z2n, z3n, z4n, z5n, e1, e5, e10, e16, e24, e176, e177, e178, gs', hlt, e24', ntsv2, cssv2, lnsv2, gt, d1, gtY, lnY, e31, e32, e40, e263, e264, e265, q_z, g_z, l_z, r_z, z_z])
          try simp (disch := first | omega | (simp; done) | fail) [wrap64c, if_pos, if_neg, opAnd, opOr, opXor, opDiff, opShr, opBit, ntv, csv, ntw, csw, hbig, ntsv1, cssv1, lnsv1, gs, c1, gtF, lnF, eW, eH, eT, eP, eB, lnA, ntu1, csu1, lnu1, lnu1', hmul, z1, z2, z3, z4, z5, z1n, z2n, z3n, z4n, z5n, e1, e5, e10, e16, e24, e176, e177, e178, gs', hlt, e24', ntsv2, cssv2, lnsv2, gt, d1, gtY, lnY, e31, e32, e40, e263, e264, e265, q_z, g_z, l_z, r_z, z_z]
          refine loopK_next _ ?hm ?hf ⟨j + 1, rfl, rfl, (by rw [hst]; simp), (by simp (disch := first | omega | (simp; done) | fail) [wrap64c, if_pos, if_neg, opAnd, opOr, opXor, opDiff, opShr, opBit, ntv, csv, ntw, csw, hbig, ntsv1, cssv1, lnsv1, gs, c1, gtF, lnF, eW, eH, eT, eP, eB, lnA, ntu1, csu1, lnu1, lnu1', hmul, z1, z2, z3, z4, z5, z1n, z2n, z3n, z4n, z5n, e1, e5, e10, e16, e24, e176, e177, e178, gs', hlt, e24', ntsv2, cssv2, lnsv2, gt, d1, gtY, lnY, e31, e32, e40, e263, e264, e265, q_z, g_z, l_z, r_z, z_z] <;> omega), (by first | omega | assumption | (simp (disch := first | omega | (simp; done) | fail) [wrap64c, if_pos, if_neg, opAnd, opOr, opXor, opDiff, opShr, opBit, ntv, csv, ntw, csw, hbig, ntsv1, cssv1, lnsv1, gs, c1, gtF, lnF, eW, eH, eT, eP, eB, lnA, ntu1, csu1, lnu1, lnu1', hmul, z1, z2, z3, z4, z5, z1n, z2n, z3n, z4n, z5n, e1, e5, e10, e16, e24, e176, e177, e178, gs', hlt, e24', ntsv2, cssv2, lnsv2, gt, d1, gtY, lnY, e31, e32, e40, e263, e264, e265, q_z, g_z, l_z, r_z, z_z] <;> omega))⟩
          (case hm => first | omega | (simp; omega))
          (case hf => simp [FrameL, ntv, csv, ntw, csw, hbig, ntsv1, cssv1, lnsv1, gs, c1, gtF, lnF, eW, eH, eT, eP, eB, lnA, ntu1, csu1, lnu1, lnu1', hmul, z1, z2, z3, z4, z5, z1n, z2n, z3n, z4n, z5n, e1, e5, e10, e16, e24, e176, e177, e178, gs', hlt, e24', ntsv2, cssv2, lnsv2, gt, d1, gtY, lnY, e31, e32, e40, e263, e264, e265, q_z, g_z, l_z, r_z, z_z, f31_2, f32_2, f263_2, f264_2])
        · have hft : ys2.take j = ys2 := List.take_of_length_le (by omega)
          rw [hft] at e40 hfl
          have e40' := e40
          have hml : m2 * ys2.length ≤ 7 * 128 := Nat.mul_le_mul n27 hl7
          obtain ⟨mm, hmm⟩ : ∃ q, q = m2 * ys2.length := ⟨_, rfl⟩
          have hm1 : (m2 : Int) * (ys2.length : Int) = (mm : Int) := by rw [hmm]; simp
          rw [← hmm] at hml hf2
          have hc1 : ((frSum m2 ys2 ys2 : Nat) : Int) ≤ (tt : Int) := by omega
          have hc2 : (tt : Int) ≤ (mm : Int) := by omega
          have hc3 := hf1
          have hc4 := hf2
          try simp (disch := first | omega | (simp; done) | fail) [wrap64c, if_pos, if_neg, opAnd, opOr, opXor, opDiff, opShr, opBit, ntv, csv, ntw, csw, hbig, ntsv1, cssv1, lnsv1, gs, c1, gtF, lnF, eW, eH, eT, eP, eB, lnA, ntu1, csu1, lnu1, lnu1', hmul, z1, z2, z3, z4, z5, z1n, z2n, z3n, z4n, z5n, e1, e5, e10, e16, e24, e176, e177, e178, gs', hlt, e24', ntsv2, cssv2, lnsv2, gt, d1, gtY, lnY, e31, e32, e40, e263, e264, e265, e40', hm1, hc1, hc2, hc3, hc4]
          exact done_ret rfl (by simp [K2, hc1, hc2, hc3, hc4])
end Go.Proofs.Ytnncipcldbopgaa
namespace Go.Proofs.Ytnncipcldbopgaa
set_option linter.unusedSimpArgs false
set_option linter.unusedVariables false
open Go Go.Eng Go.ChangeShapes Go.WideShapes Go.ChangeAt Go.RowKit Go.Joins
set_option maxRecDepth 100000 in
theorem worstAndTotal_lifted (os : Os) (started : os.Started) (H : Type) (enc : TypeId × Value → H) :
    ReturnsInHanded {} Try.checked os 7 .any (Rows.fnWorstAndTotalSpec.pre6 enc Try.prog Try.f7 Rows.fnWorstAndTotalRow.domain false) (Rows.fnWorstAndTotalSpec.post enc Try.prog Try.f7 false true false false) := by
  refine returnsInHanded_of_change (C := Try.checked) own started (by kernel_rfl) Try.func7
    (ChangeSpec.witness6 (enc := enc) (C := Try.checked) false ⟨#[], #[.slice none 0 0, .slice none 0 0], []⟩ 8 (by kernel_rfl) (by kernel_rfl) (by kernel_rfl) (by kernel_rfl)) ?_
  intro W base args ds gs before hval0 hW hcnd _
  have hval : ∀ (j : Nat) t v, Try.f7.params[j]? = some t → args[j]? = some v → Value.okWide Try.prog W .any base t v := hval0
  have hW' := hW
  obtain ⟨p, q, hA0, hV, rfl, hfz, hnd⟩ := hW
  have hA : DataW.TrodAll enc Try.prog W 0 (fun _ => true) true Try.f7.params.toList args.toList ds p := hA0
  rw [Try.params7] at hA hval
  obtain ⟨v0, v1, d0, d1, p0, p1, rfl, rfl, rfl, h0, h1⟩ := trodAll_two hA
  obtain ⟨rfl, rfl⟩ := trodVars_none hV
  simp only [List.append_nil] at hW'
  have lt0 : ∀ x ∈ p0, x.block < W.heap.size := by obtain ⟨m, hm⟩ := h0; exact DataW.trod_lt m _ _ _ hm
  have lt1 : ∀ x ∈ p1, x.block < W.heap.size := by obtain ⟨m, hm⟩ := h1; exact DataW.trod_lt m _ _ _ hm
  obtain ⟨E0, hh0, a0, X0, st0, m0, hva0, hc0⟩ := lay_bytes (hval 0 22 v0 rfl rfl) h0 (start0 W)
  obtain ⟨E1, hh1, a1, X1, st1, m1, hva1, hc1⟩ := lay_bytes (hval 1 22 v1 rfl rfl) h1 st0
  replace hva0 := m1.vrel _ _ hva0
  replace hc0 := hc0.keep m1.keep
  refine (law_calls (args := #[a0, a1]) (args' := #[v0, v1]) st1 rfl (fun i hi => ?_) (lawWorstAndTotal_ok hh1 a0 X0 hc0 a1 X1 hc1) rfl).mono fun e W' ⟨he, bel⟩ => ?_
  · have : i = 0 ∨ i = 1 := by simp at hi; omega
    rcases this with rfl | rfl
    · exact hva0
    · exact hva1
  · subst he
    exact ⟨_, rfl, _, _, _, [], _, [], hW', trodAll_mk1 (shut_bool Try.underlying4 _), trodAll_mk2 (Below.trod laidOut (by kernel_rfl) (of_decide_eq_true (by kernel_rfl)) h0 bel lt0) (Below.trod laidOut (by kernel_rfl) (of_decide_eq_true (by kernel_rfl)) h1 bel lt1), rfl, bel.frame _, fun h => by cases h⟩
theorem worstAndTotal_holds : Rows.FnWorstAndTotalSaid :=
  OpenClaim.holds_of_wide 7 Try.f7 rfl rfl rfl rfl rfl rfl rfl ⟨rfl, rfl, rfl, rfl, rfl⟩ rfl rfl rfl rfl rfl (by kernel_rfl) Try.func7 (by kernel_rfl)
    (of_decide_eq_true (by kernel_rfl)) (by unfold Func.isWrapper; first | (rw [if_pos (by decide +kernel)]; kernel_rfl) | (rw [if_neg (by decide +kernel)]; exact ⟨rfl, rfl⟩))
    (fun os started H enc _ => worstAndTotal_lifted os started H enc)
end Go.Proofs.Ytnncipcldbopgaa
