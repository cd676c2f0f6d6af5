/- Part 6 of the proof of bestQuestions_holds: what it uses of the texts that lie in the notes, merged. -/
import Derived.Test.YtnncipcldbopgaaQb5
namespace Go.Proofs.Ytnncipcldbopgaa
set_option linter.unusedSimpArgs false
set_option linter.unusedVariables false
set_option maxHeartbeats 4000000
set_option maxRecDepth 20000
open Go Go.Eng
attribute [local irreducible] WD RunD PreD Runs CallOK
theorem lawBestQuestions_ok (h0 : Hp) (v : Value) (xs : List Int) (hv : Bytes h0 v xs) (w : Value) (ys : List Int) (hw : Bytes h0 w ys) : CallOK Try.prog 5 #[v, w] h0 (.bool true) h0 := by
  have ntv := hv.nt
  have csv := hv.cs
  have ntw := hw.nt
  have csw := hw.cs
  refine callY_P 339 _ [.tmp 4] Try.func5 rfl rfl rfl (by first | rfl | simp) ?_
  try simp (disch := first | omega | (simp; done) | fail) [wrap64c, if_pos, if_neg, opAnd, opOr, opXor, opDiff, opShr, opBit, ntv, csv, ntw, csw]
  refine callG_c (by simp) (by simp) ?ha (big_ok h0 _ _ _ _ hv hw) ?_
  (case ha => simp (disch := first | omega | (simp; done) | fail) [wrap64c, if_pos, if_neg, opAnd, opOr, opXor, opDiff, opShr, opBit, ntv, csv, ntw, csw])
  by_cases hbig : 1048576 < xs.length ∨ 1048576 - (xs.length : Int) < ys.length
  case pos =>
    try simp (disch := first | omega | (simp; done) | fail) [wrap64c, if_pos, if_neg, opAnd, opOr, opXor, opDiff, opShr, opBit, ntv, csv, ntw, csw, hbig]
    exact done_ret rfl (by simp)
  have lxs : xs.length ≤ 1048576 := by omega
  have lys : ys.length ≤ 1048576 := by omega
  try simp (disch := first | omega | (simp; done) | fail) [wrap64c, if_pos, if_neg, opAnd, opOr, opXor, opDiff, opShr, opBit, ntv, csv, ntw, csw, hbig]
  have K0 : Keeps h0 h0 := .refl _
  obtain ⟨_, h1, p1, a1, s1, N, X, y, z, rfl, hC, lX⟩ := drawLeastWorst_ok h0 v xs (bytes_old hv)
  refine callG_c (by simp) (by simp) ?ha (p1) ?_
  (case ha => simp (disch := first | omega | (simp; done) | fail) [wrap64c, if_pos, if_neg, opAnd, opOr, opXor, opDiff, opShr, opBit, ntv, csv, ntw, csw, hbig])
  have n1 := a1.1.1
  have K1 := K0.trans a1.1
  have hv := hv.keep a1.1
  have hw := hw.keep a1.1
  obtain ⟨sv1, rfl, hsv1⟩ := hC
  have hsv1 := hsv1.ints
  have ntsv1 := hsv1.nt
  have cssv1 := hsv1.cs
  have hC : Space h1 (.agg #[.int .i64 N, sv1]) N X := .mk hsv1
  try simp (disch := first | omega | (simp; done) | fail) [wrap64c, if_pos, if_neg, opAnd, opOr, opXor, opDiff, opShr, opBit, ntv, csv, ntw, csw, hbig, ntsv1, cssv1, putCells]
  first | refine WY_heap fun h2 q_h2 => ?_ | refine callG_heap fun h2 q_h2 => ?_ | refine callP_heap fun h2 q_h2 => ?_ | refine callS_heap fun h2 q_h2 => ?_ | refine RY_heap fun h2 q_h2 => ?_ | refine PY_heap fun h2 q_h2 => ?_ | refine SY_heap fun h2 q_h2 => ?_ | refine doneY_heap fun h2 q_h2 => ?_ | refine loopK_heap fun h2 q_h2 => ?_ | refine thenY_heap fun h2 q_h2 => ?_ | refine thenM_heap fun h2 q_h2 => ?_
  have b2 : Adds h1 h2 := by rw [q_h2]; exact (by first | exact aK | exact kK)
  have n2 := b2.1.1
  have K2 := K1.trans b2.1
  have hv := hv.keep b2.1
  have hw := hw.keep b2.1
  have hC := hC.keep b2.1
  have m2 : h2.next = h1.next + 1 := by simp [q_h2]
  have gs : h2.get h1.next = .cells [.int .i64 N, sv1] true true 1 := by simp [q_h2]
  have lX' : X.length < 2 ^ 39 := by omega
  refine callG_c (by simp) (by simp) ?ha (implWorstQ_ok h2 _ N X y z hC lX') ?_
  (case ha => simp (disch := first | omega | (simp; done) | fail) [wrap64c, if_pos, if_neg, opAnd, opOr, opXor, opDiff, opShr, opBit, ntv, csv, ntw, csw, hbig, ntsv1, cssv1, gs])
  try simp (disch := first | omega | (simp; done) | fail) [wrap64c, if_pos, if_neg, opAnd, opOr, opXor, opDiff, opShr, opBit, ntv, csv, ntw, csw, hbig, ntsv1, cssv1, gs]
  refine callG_c (by simp) (by simp) ?ha (specWorstQ_ok h2 _ N X y z hC lX') ?_
  (case ha => simp (disch := first | omega | (simp; done) | fail) [wrap64c, if_pos, if_neg, opAnd, opOr, opXor, opDiff, opShr, opBit, ntv, csv, ntw, csw, hbig, ntsv1, cssv1, gs])
  try simp (disch := first | omega | (simp; done) | fail) [wrap64c, if_pos, if_neg, opAnd, opOr, opXor, opDiff, opShr, opBit, ntv, csv, ntw, csw, hbig, ntsv1, cssv1, gs]
  refine callG_c (by simp) (by simp) ?ha (implBestQ_ok h2 _ N X y z hC lX') ?_
  (case ha => simp (disch := first | omega | (simp; done) | fail) [wrap64c, if_pos, if_neg, opAnd, opOr, opXor, opDiff, opShr, opBit, ntv, csv, ntw, csw, hbig, ntsv1, cssv1, gs])
  try simp (disch := first | omega | (simp; done) | fail) [wrap64c, if_pos, if_neg, opAnd, opOr, opXor, opDiff, opShr, opBit, ntv, csv, ntw, csw, hbig, ntsv1, cssv1, gs]
  refine callG_c (by simp) (by simp) ?ha (specBestQ_ok h2 _ N X y z hC lX') ?_
  (case ha => simp (disch := first | omega | (simp; done) | fail) [wrap64c, if_pos, if_neg, opAnd, opOr, opXor, opDiff, opShr, opBit, ntv, csv, ntw, csw, hbig, ntsv1, cssv1, gs])
  try simp (disch := first | omega | (simp; done) | fail) [wrap64c, if_pos, if_neg, opAnd, opOr, opXor, opDiff, opShr, opBit, ntv, csv, ntw, csw, hbig, ntsv1, cssv1, gs]
  cases c1 : goB N X y z
  · have eA : askB N X y z = false := by simp [askB, c1]
    try simp (disch := first | omega | (simp; done) | fail) [wrap64c, if_pos, if_neg, opAnd, opOr, opXor, opDiff, opShr, opBit, ntv, csv, ntw, csw, hbig, ntsv1, cssv1, gs, c1, eA]
    obtain ⟨g0, hg0⟩ : ∃ x, x = h2 := ⟨_, rfl⟩
    have K0 := K2
    rw [← hg0] at K0
    have hv := hv
    have hw := hw
    rw [← hg0] at hv
    rw [← hg0] at hw
    try rw [← hg0]
    obtain ⟨_, g1, p1, a1, s2, G, Y, t, rfl, hD, lY⟩ := drawAskRun_ok g0 w ys (bytes_old hw)
    refine callG_c (by simp) (by simp) ?ha (p1) ?_
    (case ha => simp (disch := first | omega | (simp; done) | fail) [wrap64c, if_pos, if_neg, opAnd, opOr, opXor, opDiff, opShr, opBit, ntv, csv, ntw, csw, hbig, ntsv1, cssv1, gs, c1, eA])
    have n1 := a1.1.1
    have K1 := K0.trans a1.1
    have hv := hv.keep a1.1
    have hw := hw.keep a1.1
    obtain ⟨sv2, rfl, hsv2⟩ := hD
    have hsv2 := hsv2.ints
    have ntsv2 := hsv2.nt
    have cssv2 := hsv2.cs
    have hD : Space g1 (.agg #[.int .i64 G, sv2]) G Y := .mk hsv2
    try simp (disch := first | omega | (simp; done) | fail) [wrap64c, if_pos, if_neg, opAnd, opOr, opXor, opDiff, opShr, opBit, ntv, csv, ntw, csw, hbig, ntsv1, cssv1, gs, c1, eA, ntsv2, cssv2, putCells]
    first | refine WY_heap fun g2 q_g2 => ?_ | refine callG_heap fun g2 q_g2 => ?_ | refine callP_heap fun g2 q_g2 => ?_ | refine callS_heap fun g2 q_g2 => ?_ | refine RY_heap fun g2 q_g2 => ?_ | refine PY_heap fun g2 q_g2 => ?_ | refine SY_heap fun g2 q_g2 => ?_ | refine doneY_heap fun g2 q_g2 => ?_ | refine loopK_heap fun g2 q_g2 => ?_ | refine thenY_heap fun g2 q_g2 => ?_ | refine thenM_heap fun g2 q_g2 => ?_
    have b2 : Adds g1 g2 := by rw [q_g2]; exact (by first | exact aK | exact kK)
    have n2 := b2.1.1
    have K2 := K1.trans b2.1
    have hv := hv.keep b2.1
    have hw := hw.keep b2.1
    have hD := hD.keep b2.1
    have m2 : g2.next = g1.next + 1 := by simp [q_g2]
    have gt : g2.get g1.next = .cells [.int .i64 G, sv2] true true 1 := by simp [q_g2]
    have lY' : Y.length < 2 ^ 40 := by omega
    have lY39 : Y.length < 2 ^ 39 := by omega
    obtain ⟨_, g3, p3, a3, u1, rfl, hu1⟩ := implAsk_ok g2 _ G Y t hD lY'
    refine callG_c (by simp) (by simp) ?ha (p3) ?_
    (case ha => simp (disch := first | omega | (simp; done) | fail) [wrap64c, if_pos, if_neg, opAnd, opOr, opXor, opDiff, opShr, opBit, ntv, csv, ntw, csw, hbig, ntsv1, cssv1, gs, c1, eA, ntsv2, cssv2, gt])
    have n3 := a3.1.1
    have K3 := K2.trans a3.1
    have gt : g3.get g1.next = .cells [.int .i64 G, sv2] true true 1 := by rw [a3.1.2 _ (by omega)]; exact gt
    have hv := hv.keep a3.1
    have hw := hw.keep a3.1
    have hD := hD.keep a3.1
    have hu1 := hu1.ints
    have ntu1 := hu1.nt
    have csu1 := hu1.cs
    have lnu1 := hu1.lenD
    try simp (disch := first | omega | (simp; done) | fail) [wrap64c, if_pos, if_neg, opAnd, opOr, opXor, opDiff, opShr, opBit, ntv, csv, ntw, csw, hbig, ntsv1, cssv1, gs, c1, eA, ntsv2, cssv2, gt, ntu1, csu1, lnu1]
    obtain ⟨_, g4, p4, a4, u2, rfl, hu2⟩ := specAsk_ok g3 _ G Y t hD lY'
    refine callG_c (by simp) (by simp) ?ha (p4) ?_
    (case ha => simp (disch := first | omega | (simp; done) | fail) [wrap64c, if_pos, if_neg, opAnd, opOr, opXor, opDiff, opShr, opBit, ntv, csv, ntw, csw, hbig, ntsv1, cssv1, gs, c1, eA, ntsv2, cssv2, gt, ntu1, csu1, lnu1])
    have n4 := a4.1.1
    have K4 := K3.trans a4.1
    have gt : g4.get g1.next = .cells [.int .i64 G, sv2] true true 1 := by rw [a4.1.2 _ (by omega)]; exact gt
    have hv := hv.keep a4.1
    have hw := hw.keep a4.1
    have hD := hD.keep a4.1
    have hu1 := hu1.keep a4.1
    have hu2 := hu2.ints
    have ntu2 := hu2.nt
    have csu2 := hu2.cs
    have lnu2 := hu2.lenD
    try simp (disch := first | omega | (simp; done) | fail) [wrap64c, if_pos, if_neg, opAnd, opOr, opXor, opDiff, opShr, opBit, ntv, csv, ntw, csw, hbig, ntsv1, cssv1, gs, c1, eA, ntsv2, cssv2, gt, ntu1, csu1, lnu1, ntu2, csu2, lnu2]
    obtain ⟨_, g5, p5, a5, u3, rfl, hu3⟩ := implHalf_ok g4 _ G Y t hD lY'
    refine callG_c (by simp) (by simp) ?ha (p5) ?_
    (case ha => simp (disch := first | omega | (simp; done) | fail) [wrap64c, if_pos, if_neg, opAnd, opOr, opXor, opDiff, opShr, opBit, ntv, csv, ntw, csw, hbig, ntsv1, cssv1, gs, c1, eA, ntsv2, cssv2, gt, ntu1, csu1, lnu1, ntu2, csu2, lnu2])
    have n5 := a5.1.1
    have K5 := K4.trans a5.1
    have gt : g5.get g1.next = .cells [.int .i64 G, sv2] true true 1 := by rw [a5.1.2 _ (by omega)]; exact gt
    have hv := hv.keep a5.1
    have hw := hw.keep a5.1
    have hD := hD.keep a5.1
    have hu1 := hu1.keep a5.1
    have hu2 := hu2.keep a5.1
    have hu3 := hu3.ints
    have ntu3 := hu3.nt
    have csu3 := hu3.cs
    have lnu3 := hu3.lenD
    try simp (disch := first | omega | (simp; done) | fail) [wrap64c, if_pos, if_neg, opAnd, opOr, opXor, opDiff, opShr, opBit, ntv, csv, ntw, csw, hbig, ntsv1, cssv1, gs, c1, eA, ntsv2, cssv2, gt, ntu1, csu1, lnu1, ntu2, csu2, lnu2, ntu3, csu3, lnu3]
    obtain ⟨_, g6, p6, a6, u4, rfl, hu4⟩ := specHalf_ok g5 _ G Y t hD lY'
    refine callG_c (by simp) (by simp) ?ha (p6) ?_
    (case ha => simp (disch := first | omega | (simp; done) | fail) [wrap64c, if_pos, if_neg, opAnd, opOr, opXor, opDiff, opShr, opBit, ntv, csv, ntw, csw, hbig, ntsv1, cssv1, gs, c1, eA, ntsv2, cssv2, gt, ntu1, csu1, lnu1, ntu2, csu2, lnu2, ntu3, csu3, lnu3])
    have n6 := a6.1.1
    have K6 := K5.trans a6.1
    have gt : g6.get g1.next = .cells [.int .i64 G, sv2] true true 1 := by rw [a6.1.2 _ (by omega)]; exact gt
    have hv := hv.keep a6.1
    have hw := hw.keep a6.1
    have hD := hD.keep a6.1
    have hu1 := hu1.keep a6.1
    have hu2 := hu2.keep a6.1
    have hu3 := hu3.keep a6.1
    have hu4 := hu4.ints
    have ntu4 := hu4.nt
    have csu4 := hu4.cs
    have lnu4 := hu4.lenD
    try simp (disch := first | omega | (simp; done) | fail) [wrap64c, if_pos, if_neg, opAnd, opOr, opXor, opDiff, opShr, opBit, ntv, csv, ntw, csw, hbig, ntsv1, cssv1, gs, c1, eA, ntsv2, cssv2, gt, ntu1, csu1, lnu1, ntu2, csu2, lnu2, ntu3, csu3, lnu3, ntu4, csu4, lnu4]
    refine callG_c (by simp) (by simp) ?ha (jSame_ok g6 _ _ _ _ hu1 hu2) ?_
    (case ha => simp (disch := first | omega | (simp; done) | fail) [wrap64c, if_pos, if_neg, opAnd, opOr, opXor, opDiff, opShr, opBit, ntv, csv, ntw, csw, hbig, ntsv1, cssv1, gs, c1, eA, ntsv2, cssv2, gt, ntu1, csu1, lnu1, ntu2, csu2, lnu2, ntu3, csu3, lnu3, ntu4, csu4, lnu4])
    try simp (disch := first | omega | (simp; done) | fail) [wrap64c, if_pos, if_neg, opAnd, opOr, opXor, opDiff, opShr, opBit, ntv, csv, ntw, csw, hbig, ntsv1, cssv1, gs, c1, eA, ntsv2, cssv2, gt, ntu1, csu1, lnu1, ntu2, csu2, lnu2, ntu3, csu3, lnu3, ntu4, csu4, lnu4]
    refine callG_c (by simp) (by simp) ?ha (jSame_ok g6 _ _ _ _ hu3 hu4) ?_
    (case ha => simp (disch := first | omega | (simp; done) | fail) [wrap64c, if_pos, if_neg, opAnd, opOr, opXor, opDiff, opShr, opBit, ntv, csv, ntw, csw, hbig, ntsv1, cssv1, gs, c1, eA, ntsv2, cssv2, gt, ntu1, csu1, lnu1, ntu2, csu2, lnu2, ntu3, csu3, lnu3, ntu4, csu4, lnu4])
    cases d1 : oneB G Y t
    · try simp (disch := first | omega | (simp; done) | fail) [wrap64c, if_pos, if_neg, opAnd, opOr, opXor, opDiff, opShr, opBit, ntv, csv, ntw, csw, hbig, ntsv1, cssv1, gs, c1, eA, ntsv2, cssv2, gt, ntu1, csu1, lnu1, ntu2, csu2, lnu2, ntu3, csu3, lnu3, ntu4, csu4, lnu4, d1]
      exact done_ret rfl (by simp [K6])
    · obtain ⟨m2, ys2, x, eG, eY, ex, gd2, hx⟩ := oneB_true d1
      subst eG eY ex
      have n27 := gd2.n7
      have hb2 := bit7 n27
      have xlt := gd2.lt x hx
      have x128 : x < 128 := by omega
      obtain ⟨R, hR⟩ : ∃ R, R = runF bestN x ys2.length ys2 := ⟨_, rfl⟩
      have eR : askR (m2 : Int) (toN ys2) (x : Int) = toN R := by rw [askR, if_pos d1, natsOf_toN, toN_length, Int.toNat_natCast, hR]
      rw [eR] at hu1
      have lnR := toN_length R
      have gtR := toN_get R
      have hRl : R.length ≤ worstN ys2 := hR ▸ run_worst x _ _
      have hwl := worstN_le ys2
      have hl7 := gd2.len7
      have hRm : ∀ i ∈ R, i < m2 := fun i hi => open_lt gd2.sl (run_mem askBest x _ _ i (hR ▸ hi))
      try simp (disch := first | omega | (simp; done) | fail) [wrap64c, if_pos, if_neg, opAnd, opOr, opXor, opDiff, opShr, opBit, ntv, csv, ntw, csw, hbig, ntsv1, cssv1, gs, c1, eA, ntsv2, cssv2, gt, ntu1, csu1, lnu1, ntu2, csu2, lnu2, ntu3, csu3, lnu3, ntu4, csu4, lnu4, d1, eR, lnR, gtR]
      refine WD_loopC [28, 29, 30, 290, 291] (fun m tm h' => ∃ j, m = R.length - j ∧ g6 = h' ∧ tm 38 = .int .i64 ((tellP x (R.take j) 0 : Nat) : Int) ∧ tm 39 = .int .i64 ((tellQ x (R.take j) 0 : Nat) : Int) ∧ tm 292 = .int .i64 (j : Int) ∧ (j ≤ R.length)) _ ⟨0, rfl, rfl, (by simp [tellP]), (by simp [tellQ]), (by simp (disch := first | omega | (simp; done) | fail) [wrap64c, if_pos, if_neg, opAnd, opOr, opXor, opDiff, opShr, opBit, ntv, csv, ntw, csw, hbig, ntsv1, cssv1, gs, c1, eA, ntsv2, cssv2, gt, ntu1, csu1, lnu1, ntu2, csu2, lnu2, ntu3, csu3, lnu3, ntu4, csu4, lnu4, d1, eR, lnR, gtR]), (by first | omega | assumption | (simp (disch := first | omega | (simp; done) | fail) [wrap64c, if_pos, if_neg, opAnd, opOr, opXor, opDiff, opShr, opBit, ntv, csv, ntw, csw, hbig, ntsv1, cssv1, gs, c1, eA, ntsv2, cssv2, gt, ntu1, csu1, lnu1, ntu2, csu2, lnu2, ntu3, csu3, lnu3, ntu4, csu4, lnu4, d1, eR, lnR, gtR] <;> omega))⟩ ?_
      rintro m tm h' hFr ⟨j, rfl, rfl, e38, e39, e292, hj⟩
      simp only [FrameL] at hFr
      obtain ⟨f28_0, f29_0, f30_0, f290_0, f291_0, -⟩ := hFr
      try simp (disch := first | omega | (simp; done) | fail) [wrap64c, if_pos, if_neg, opAnd, opOr, opXor, opDiff, opShr, opBit, ntv, csv, ntw, csw, hbig, ntsv1, cssv1, gs, c1, eA, ntsv2, cssv2, gt, ntu1, csu1, lnu1, ntu2, csu2, lnu2, ntu3, csu3, lnu3, ntu4, csu4, lnu4, d1, eR, lnR, gtR] at f28_0 f29_0 f30_0 f290_0 f291_0
      have e28 := f28_0
      have e29 := f29_0
      have e30 := f30_0
      have e290 := f290_0
      have e291 := f291_0
      have tpl : tellP x (R.take j) 0 < bit m2 := tellP_lt fun i hi => hRm i (List.mem_of_mem_take hi)
      have tql : tellQ x (R.take j) 0 < bit m2 := tellQ_lt fun i hi => hRm i (List.mem_of_mem_take hi)
      by_cases hlt : j < R.length
      · have hij := hRm _ (List.getElem_mem hlt)
        have hbj := bit7 (i := R[j]) (by omega)
        have tx := shrMod x R[j]
        have sP := tellP_snoc x R[j] (R.take j) 0
        have sQ := tellQ_snoc x R[j] (R.take j) 0
        rw [← List.take_succ_eq_append_getElem hlt] at sP sQ
        have hsx := nShr_le x R[j]
        obtain ⟨o_q, i_q, c_q, cs_q, own_q, ex_q, es_q, q_q, b_q, g_q, l_q, r_q⟩ := hu1.open ((by simp; omega))
        have z_q : ∀ h2 : i_q < cs_q.length, cs_q[i_q] = _ := fun h2 => r_q 0 ((by simp; omega)) h2
        cases xb : x.testBit R[j]
        · rw [xb] at tx sP sQ
          have tx := tx
          try simp (disch := first | omega | (simp; done) | fail) [wrap64c, if_pos, if_neg, opAnd, opOr, opXor, opDiff, opShr, opBit, ntv, csv, ntw, csw, hbig, ntsv1, cssv1, gs, c1, eA, ntsv2, cssv2, gt, ntu1, csu1, lnu1, ntu2, csu2, lnu2, ntu3, csu3, lnu3, ntu4, csu4, lnu4, d1, eR, lnR, gtR, e28, e29, e30, e38, e39, e290, e291, e292, hlt, q_q, g_q, l_q, r_q, z_q, tx]
          refine loopK_next _ ?hm ?hf ⟨j + 1, rfl, rfl, (by rw [sP]; simp [e38]), (by rw [sQ]; simp), (by simp (disch := first | omega | (simp; done) | fail) [wrap64c, if_pos, if_neg, opAnd, opOr, opXor, opDiff, opShr, opBit, ntv, csv, ntw, csw, hbig, ntsv1, cssv1, gs, c1, eA, ntsv2, cssv2, gt, ntu1, csu1, lnu1, ntu2, csu2, lnu2, ntu3, csu3, lnu3, ntu4, csu4, lnu4, d1, eR, lnR, gtR, e28, e29, e30, e38, e39, e290, e291, e292, hlt, q_q, g_q, l_q, r_q, z_q, tx] <;> omega), (by first | omega | assumption | (simp (disch := first | omega | (simp; done) | fail) [wrap64c, if_pos, if_neg, opAnd, opOr, opXor, opDiff, opShr, opBit, ntv, csv, ntw, csw, hbig, ntsv1, cssv1, gs, c1, eA, ntsv2, cssv2, gt, ntu1, csu1, lnu1, ntu2, csu2, lnu2, ntu3, csu3, lnu3, ntu4, csu4, lnu4, d1, eR, lnR, gtR, e28, e29, e30, e38, e39, e290, e291, e292, hlt, q_q, g_q, l_q, r_q, z_q, tx] <;> omega))⟩
          (case hm => first | omega | (simp; omega))
          (case hf => simp [FrameL, ntv, csv, ntw, csw, hbig, ntsv1, cssv1, gs, c1, eA, ntsv2, cssv2, gt, ntu1, csu1, lnu1, ntu2, csu2, lnu2, ntu3, csu3, lnu3, ntu4, csu4, lnu4, d1, eR, lnR, gtR, e28, e29, e30, e38, e39, e290, e291, e292, hlt, q_q, g_q, l_q, r_q, z_q, tx, f28_0, f29_0, f30_0, f290_0, f291_0])
        · rw [xb] at tx sP sQ
          have tx := tx
          try simp (disch := first | omega | (simp; done) | fail) [wrap64c, if_pos, if_neg, opAnd, opOr, opXor, opDiff, opShr, opBit, ntv, csv, ntw, csw, hbig, ntsv1, cssv1, gs, c1, eA, ntsv2, cssv2, gt, ntu1, csu1, lnu1, ntu2, csu2, lnu2, ntu3, csu3, lnu3, ntu4, csu4, lnu4, d1, eR, lnR, gtR, e28, e29, e30, e38, e39, e290, e291, e292, hlt, q_q, g_q, l_q, r_q, z_q, tx]
          refine loopK_next _ ?hm ?hf ⟨j + 1, rfl, rfl, (by rw [sP]; simp), (by rw [sQ]; simp [e39]), (by simp (disch := first | omega | (simp; done) | fail) [wrap64c, if_pos, if_neg, opAnd, opOr, opXor, opDiff, opShr, opBit, ntv, csv, ntw, csw, hbig, ntsv1, cssv1, gs, c1, eA, ntsv2, cssv2, gt, ntu1, csu1, lnu1, ntu2, csu2, lnu2, ntu3, csu3, lnu3, ntu4, csu4, lnu4, d1, eR, lnR, gtR, e28, e29, e30, e38, e39, e290, e291, e292, hlt, q_q, g_q, l_q, r_q, z_q, tx] <;> omega), (by first | omega | assumption | (simp (disch := first | omega | (simp; done) | fail) [wrap64c, if_pos, if_neg, opAnd, opOr, opXor, opDiff, opShr, opBit, ntv, csv, ntw, csw, hbig, ntsv1, cssv1, gs, c1, eA, ntsv2, cssv2, gt, ntu1, csu1, lnu1, ntu2, csu2, lnu2, ntu3, csu3, lnu3, ntu4, csu4, lnu4, d1, eR, lnR, gtR, e28, e29, e30, e38, e39, e290, e291, e292, hlt, q_q, g_q, l_q, r_q, z_q, tx] <;> omega))⟩
          (case hm => first | omega | (simp; omega))
          (case hf => simp [FrameL, ntv, csv, ntw, csw, hbig, ntsv1, cssv1, gs, c1, eA, ntsv2, cssv2, gt, ntu1, csu1, lnu1, ntu2, csu2, lnu2, ntu3, csu3, lnu3, ntu4, csu4, lnu4, d1, eR, lnR, gtR, e28, e29, e30, e38, e39, e290, e291, e292, hlt, q_q, g_q, l_q, r_q, z_q, tx, f28_0, f29_0, f30_0, f290_0, f291_0])
      · have hft : R.take j = R := List.take_of_length_le (by omega)
        rw [hft] at e38 e39 tpl tql
        have e38' := e38
        have e39' := e39
        have ans := ansB_of gd2 tpl tql (tell_apart x R)
        have pOK : prfOK (m2 : Int) (toN ys2) (x : Int) ((tellP x R 0 : Nat) : Int) ((tellQ x R 0 : Nat) : Int) = true := by simp [prfOK, d1, ans]
        have pB : prfB (m2 : Int) (toN ys2) (x : Int) ((tellP x R 0 : Nat) : Int) ((tellQ x R 0 : Nat) : Int) = true := by simp [prfB, pOK]; rw [hR]; exact run_proof gd2 hx
        have q1 := implIsProof_ok g6 _ (m2 : Int) (toN ys2) (x : Int) ((tellP x R 0 : Nat) : Int) ((tellQ x R 0 : Nat) : Int) hD lY39
        rw [pOK, pB] at q1
        obtain ⟨w1, w2⟩ := go_none gd2
        have q2 := implWorstQ_ok g6 _ (m2 : Int) (toN ys2) 0 0 hD lY39
        rw [w1, w2] at q2
        have hng : ¬ ((worstN ys2 : Nat) : Int) < ((R.length : Nat) : Int) := by omega
        try simp (disch := first | omega | (simp; done) | fail) [wrap64c, if_pos, if_neg, opAnd, opOr, opXor, opDiff, opShr, opBit, ntv, csv, ntw, csw, hbig, ntsv1, cssv1, gs, c1, eA, ntsv2, cssv2, gt, ntu1, csu1, lnu1, ntu2, csu2, lnu2, ntu3, csu3, lnu3, ntu4, csu4, lnu4, d1, eR, lnR, gtR, e28, e29, e30, e38, e39, e290, e291, e292, hlt, e38', e39', hng]
        refine callG_c (by simp) (by simp) ?ha (q1) ?_
        (case ha => simp (disch := first | omega | (simp; done) | fail) [wrap64c, if_pos, if_neg, opAnd, opOr, opXor, opDiff, opShr, opBit, ntv, csv, ntw, csw, hbig, ntsv1, cssv1, gs, c1, eA, ntsv2, cssv2, gt, ntu1, csu1, lnu1, ntu2, csu2, lnu2, ntu3, csu3, lnu3, ntu4, csu4, lnu4, d1, eR, lnR, gtR, e28, e29, e30, e38, e39, e290, e291, e292, hlt, e38', e39', hng])
        try simp (disch := first | omega | (simp; done) | fail) [wrap64c, if_pos, if_neg, opAnd, opOr, opXor, opDiff, opShr, opBit, ntv, csv, ntw, csw, hbig, ntsv1, cssv1, gs, c1, eA, ntsv2, cssv2, gt, ntu1, csu1, lnu1, ntu2, csu2, lnu2, ntu3, csu3, lnu3, ntu4, csu4, lnu4, d1, eR, lnR, gtR, e28, e29, e30, e38, e39, e290, e291, e292, hlt, e38', e39', hng]
        refine callG_c (by simp) (by simp) ?ha (q2) ?_
        (case ha => simp (disch := first | omega | (simp; done) | fail) [wrap64c, if_pos, if_neg, opAnd, opOr, opXor, opDiff, opShr, opBit, ntv, csv, ntw, csw, hbig, ntsv1, cssv1, gs, c1, eA, ntsv2, cssv2, gt, ntu1, csu1, lnu1, ntu2, csu2, lnu2, ntu3, csu3, lnu3, ntu4, csu4, lnu4, d1, eR, lnR, gtR, e28, e29, e30, e38, e39, e290, e291, e292, hlt, e38', e39', hng])
        try simp (disch := first | omega | (simp; done) | fail) [wrap64c, if_pos, if_neg, opAnd, opOr, opXor, opDiff, opShr, opBit, ntv, csv, ntw, csw, hbig, ntsv1, cssv1, gs, c1, eA, ntsv2, cssv2, gt, ntu1, csu1, lnu1, ntu2, csu2, lnu2, ntu3, csu3, lnu3, ntu4, csu4, lnu4, d1, eR, lnR, gtR, e28, e29, e30, e38, e39, e290, e291, e292, hlt, e38', e39', hng]
        exact done_ret rfl (by simp [K6])
  · obtain ⟨n, fs, a, b, eN, eX, ea, eb, gd, hal, hbl, hab, hne⟩ := goB_true c1
    subst eN eX ea eb
    have n7 := gd.n7
    have hb := bit7 n7
    obtain ⟨L, hLe⟩ : ∃ L, L = leftN fs a b := ⟨_, rfl⟩
    have sl : SLn n L := hLe ▸ gd.sl.left a b
    rw [← hLe] at hne
    have hl0 := List.length_pos_iff.2 hne
    have hl7 : L.length ≤ 128 := by have := left_len fs a b; have := gd.len7; rw [hLe]; omega
    obtain ⟨wn, hwn⟩ : ∃ q, q = worstN L := ⟨_, rfl⟩
    have hwl := worstN_le L
    rw [← hwn] at hwl
    have hwp := worst_pos sl hl0
    rw [← hwn] at hwp
    have eW : worstQR (n : Int) (toN fs) (a : Int) (b : Int) = (wn : Int) := by rw [worstQR, if_pos c1, natsOf_toN, hwn, hLe]; rfl
    have eA : askB (n : Int) (toN fs) (a : Int) (b : Int) = !decide (L.length = 1) := by simp [askB, c1, hLe]
    by_cases hone : L.length = 1
    · have eA1 : askB (n : Int) (toN fs) (a : Int) (b : Int) = false := by rw [eA]; simp [hone]
      have hw0 : ¬ 0 < wn := by omega
      try simp (disch := first | omega | (simp; done) | fail) [wrap64c, if_pos, if_neg, opAnd, opOr, opXor, opDiff, opShr, opBit, ntv, csv, ntw, csw, hbig, ntsv1, cssv1, gs, c1, eW, eA1, hw0]
      obtain ⟨g0, hg0⟩ : ∃ x, x = h2 := ⟨_, rfl⟩
      have K0 := K2
      rw [← hg0] at K0
      have hv := hv
      have hw := hw
      rw [← hg0] at hv
      rw [← hg0] at hw
      try rw [← hg0]
      obtain ⟨_, g1, p1, a1, s2, G, Y, t, rfl, hD, lY⟩ := drawAskRun_ok g0 w ys (bytes_old hw)
      refine callG_c (by simp) (by simp) ?ha (p1) ?_
      (case ha => simp (disch := first | omega | (simp; done) | fail) [wrap64c, if_pos, if_neg, opAnd, opOr, opXor, opDiff, opShr, opBit, ntv, csv, ntw, csw, hbig, ntsv1, cssv1, gs, c1, eW, eA1, hw0])
      have n1 := a1.1.1
      have K1 := K0.trans a1.1
      have hv := hv.keep a1.1
      have hw := hw.keep a1.1
      obtain ⟨sv2, rfl, hsv2⟩ := hD
      have hsv2 := hsv2.ints
      have ntsv2 := hsv2.nt
      have cssv2 := hsv2.cs
      have hD : Space g1 (.agg #[.int .i64 G, sv2]) G Y := .mk hsv2
      try simp (disch := first | omega | (simp; done) | fail) [wrap64c, if_pos, if_neg, opAnd, opOr, opXor, opDiff, opShr, opBit, ntv, csv, ntw, csw, hbig, ntsv1, cssv1, gs, c1, eW, eA1, hw0, ntsv2, cssv2, putCells]
      first | refine WY_heap fun g2 q_g2 => ?_ | refine callG_heap fun g2 q_g2 => ?_ | refine callP_heap fun g2 q_g2 => ?_ | refine callS_heap fun g2 q_g2 => ?_ | refine RY_heap fun g2 q_g2 => ?_ | refine PY_heap fun g2 q_g2 => ?_ | refine SY_heap fun g2 q_g2 => ?_ | refine doneY_heap fun g2 q_g2 => ?_ | refine loopK_heap fun g2 q_g2 => ?_ | refine thenY_heap fun g2 q_g2 => ?_ | refine thenM_heap fun g2 q_g2 => ?_
      have b2 : Adds g1 g2 := by rw [q_g2]; exact (by first | exact aK | exact kK)
      have n2 := b2.1.1
      have K2 := K1.trans b2.1
      have hv := hv.keep b2.1
      have hw := hw.keep b2.1
      have hD := hD.keep b2.1
      have m2 : g2.next = g1.next + 1 := by simp [q_g2]
      have gt : g2.get g1.next = .cells [.int .i64 G, sv2] true true 1 := by simp [q_g2]
      have lY' : Y.length < 2 ^ 40 := by omega
      have lY39 : Y.length < 2 ^ 39 := by omega
      obtain ⟨_, g3, p3, a3, u1, rfl, hu1⟩ := implAsk_ok g2 _ G Y t hD lY'
      refine callG_c (by simp) (by simp) ?ha (p3) ?_
      (case ha => simp (disch := first | omega | (simp; done) | fail) [wrap64c, if_pos, if_neg, opAnd, opOr, opXor, opDiff, opShr, opBit, ntv, csv, ntw, csw, hbig, ntsv1, cssv1, gs, c1, eW, eA1, hw0, ntsv2, cssv2, gt])
      have n3 := a3.1.1
      have K3 := K2.trans a3.1
      have gt : g3.get g1.next = .cells [.int .i64 G, sv2] true true 1 := by rw [a3.1.2 _ (by omega)]; exact gt
      have hv := hv.keep a3.1
      have hw := hw.keep a3.1
      have hD := hD.keep a3.1
      have hu1 := hu1.ints
      have ntu1 := hu1.nt
      have csu1 := hu1.cs
      have lnu1 := hu1.lenD
      try simp (disch := first | omega | (simp; done) | fail) [wrap64c, if_pos, if_neg, opAnd, opOr, opXor, opDiff, opShr, opBit, ntv, csv, ntw, csw, hbig, ntsv1, cssv1, gs, c1, eW, eA1, hw0, ntsv2, cssv2, gt, ntu1, csu1, lnu1]
      obtain ⟨_, g4, p4, a4, u2, rfl, hu2⟩ := specAsk_ok g3 _ G Y t hD lY'
      refine callG_c (by simp) (by simp) ?ha (p4) ?_
      (case ha => simp (disch := first | omega | (simp; done) | fail) [wrap64c, if_pos, if_neg, opAnd, opOr, opXor, opDiff, opShr, opBit, ntv, csv, ntw, csw, hbig, ntsv1, cssv1, gs, c1, eW, eA1, hw0, ntsv2, cssv2, gt, ntu1, csu1, lnu1])
      have n4 := a4.1.1
      have K4 := K3.trans a4.1
      have gt : g4.get g1.next = .cells [.int .i64 G, sv2] true true 1 := by rw [a4.1.2 _ (by omega)]; exact gt
      have hv := hv.keep a4.1
      have hw := hw.keep a4.1
      have hD := hD.keep a4.1
      have hu1 := hu1.keep a4.1
      have hu2 := hu2.ints
      have ntu2 := hu2.nt
      have csu2 := hu2.cs
      have lnu2 := hu2.lenD
      try simp (disch := first | omega | (simp; done) | fail) [wrap64c, if_pos, if_neg, opAnd, opOr, opXor, opDiff, opShr, opBit, ntv, csv, ntw, csw, hbig, ntsv1, cssv1, gs, c1, eW, eA1, hw0, ntsv2, cssv2, gt, ntu1, csu1, lnu1, ntu2, csu2, lnu2]
      obtain ⟨_, g5, p5, a5, u3, rfl, hu3⟩ := implHalf_ok g4 _ G Y t hD lY'
      refine callG_c (by simp) (by simp) ?ha (p5) ?_
      (case ha => simp (disch := first | omega | (simp; done) | fail) [wrap64c, if_pos, if_neg, opAnd, opOr, opXor, opDiff, opShr, opBit, ntv, csv, ntw, csw, hbig, ntsv1, cssv1, gs, c1, eW, eA1, hw0, ntsv2, cssv2, gt, ntu1, csu1, lnu1, ntu2, csu2, lnu2])
      have n5 := a5.1.1
      have K5 := K4.trans a5.1
      have gt : g5.get g1.next = .cells [.int .i64 G, sv2] true true 1 := by rw [a5.1.2 _ (by omega)]; exact gt
      have hv := hv.keep a5.1
      have hw := hw.keep a5.1
      have hD := hD.keep a5.1
      have hu1 := hu1.keep a5.1
      have hu2 := hu2.keep a5.1
      have hu3 := hu3.ints
      have ntu3 := hu3.nt
      have csu3 := hu3.cs
      have lnu3 := hu3.lenD
      try simp (disch := first | omega | (simp; done) | fail) [wrap64c, if_pos, if_neg, opAnd, opOr, opXor, opDiff, opShr, opBit, ntv, csv, ntw, csw, hbig, ntsv1, cssv1, gs, c1, eW, eA1, hw0, ntsv2, cssv2, gt, ntu1, csu1, lnu1, ntu2, csu2, lnu2, ntu3, csu3, lnu3]
      obtain ⟨_, g6, p6, a6, u4, rfl, hu4⟩ := specHalf_ok g5 _ G Y t hD lY'
      refine callG_c (by simp) (by simp) ?ha (p6) ?_
      (case ha => simp (disch := first | omega | (simp; done) | fail) [wrap64c, if_pos, if_neg, opAnd, opOr, opXor, opDiff, opShr, opBit, ntv, csv, ntw, csw, hbig, ntsv1, cssv1, gs, c1, eW, eA1, hw0, ntsv2, cssv2, gt, ntu1, csu1, lnu1, ntu2, csu2, lnu2, ntu3, csu3, lnu3])
      have n6 := a6.1.1
      have K6 := K5.trans a6.1
      have gt : g6.get g1.next = .cells [.int .i64 G, sv2] true true 1 := by rw [a6.1.2 _ (by omega)]; exact gt
      have hv := hv.keep a6.1
      have hw := hw.keep a6.1
      have hD := hD.keep a6.1
      have hu1 := hu1.keep a6.1
      have hu2 := hu2.keep a6.1
      have hu3 := hu3.keep a6.1
      have hu4 := hu4.ints
      have ntu4 := hu4.nt
      have csu4 := hu4.cs
      have lnu4 := hu4.lenD
      try simp (disch := first | omega | (simp; done) | fail) [wrap64c, if_pos, if_neg, opAnd, opOr, opXor, opDiff, opShr, opBit, ntv, csv, ntw, csw, hbig, ntsv1, cssv1, gs, c1, eW, eA1, hw0, ntsv2, cssv2, gt, ntu1, csu1, lnu1, ntu2, csu2, lnu2, ntu3, csu3, lnu3, ntu4, csu4, lnu4]
      refine callG_c (by simp) (by simp) ?ha (jSame_ok g6 _ _ _ _ hu1 hu2) ?_
      (case ha => simp (disch := first | omega | (simp; done) | fail) [wrap64c, if_pos, if_neg, opAnd, opOr, opXor, opDiff, opShr, opBit, ntv, csv, ntw, csw, hbig, ntsv1, cssv1, gs, c1, eW, eA1, hw0, ntsv2, cssv2, gt, ntu1, csu1, lnu1, ntu2, csu2, lnu2, ntu3, csu3, lnu3, ntu4, csu4, lnu4])
      try simp (disch := first | omega | (simp; done) | fail) [wrap64c, if_pos, if_neg, opAnd, opOr, opXor, opDiff, opShr, opBit, ntv, csv, ntw, csw, hbig, ntsv1, cssv1, gs, c1, eW, eA1, hw0, ntsv2, cssv2, gt, ntu1, csu1, lnu1, ntu2, csu2, lnu2, ntu3, csu3, lnu3, ntu4, csu4, lnu4]
      refine callG_c (by simp) (by simp) ?ha (jSame_ok g6 _ _ _ _ hu3 hu4) ?_
      (case ha => simp (disch := first | omega | (simp; done) | fail) [wrap64c, if_pos, if_neg, opAnd, opOr, opXor, opDiff, opShr, opBit, ntv, csv, ntw, csw, hbig, ntsv1, cssv1, gs, c1, eW, eA1, hw0, ntsv2, cssv2, gt, ntu1, csu1, lnu1, ntu2, csu2, lnu2, ntu3, csu3, lnu3, ntu4, csu4, lnu4])
      cases d1 : oneB G Y t
      · try simp (disch := first | omega | (simp; done) | fail) [wrap64c, if_pos, if_neg, opAnd, opOr, opXor, opDiff, opShr, opBit, ntv, csv, ntw, csw, hbig, ntsv1, cssv1, gs, c1, eW, eA1, hw0, ntsv2, cssv2, gt, ntu1, csu1, lnu1, ntu2, csu2, lnu2, ntu3, csu3, lnu3, ntu4, csu4, lnu4, d1]
        exact done_ret rfl (by simp [K6])
      · obtain ⟨m2, ys2, x, eG, eY, ex, gd2, hx⟩ := oneB_true d1
        subst eG eY ex
        have n27 := gd2.n7
        have hb2 := bit7 n27
        have xlt := gd2.lt x hx
        have x128 : x < 128 := by omega
        obtain ⟨R, hR⟩ : ∃ R, R = runF bestN x ys2.length ys2 := ⟨_, rfl⟩
        have eR : askR (m2 : Int) (toN ys2) (x : Int) = toN R := by rw [askR, if_pos d1, natsOf_toN, toN_length, Int.toNat_natCast, hR]
        rw [eR] at hu1
        have lnR := toN_length R
        have gtR := toN_get R
        have hRl : R.length ≤ worstN ys2 := hR ▸ run_worst x _ _
        have hwl := worstN_le ys2
        have hl7 := gd2.len7
        have hRm : ∀ i ∈ R, i < m2 := fun i hi => open_lt gd2.sl (run_mem askBest x _ _ i (hR ▸ hi))
        try simp (disch := first | omega | (simp; done) | fail) [wrap64c, if_pos, if_neg, opAnd, opOr, opXor, opDiff, opShr, opBit, ntv, csv, ntw, csw, hbig, ntsv1, cssv1, gs, c1, eW, eA1, hw0, ntsv2, cssv2, gt, ntu1, csu1, lnu1, ntu2, csu2, lnu2, ntu3, csu3, lnu3, ntu4, csu4, lnu4, d1, eR, lnR, gtR]
        refine WD_loopC [28, 29, 30, 290, 291] (fun m tm h' => ∃ j, m = R.length - j ∧ g6 = h' ∧ tm 38 = .int .i64 ((tellP x (R.take j) 0 : Nat) : Int) ∧ tm 39 = .int .i64 ((tellQ x (R.take j) 0 : Nat) : Int) ∧ tm 292 = .int .i64 (j : Int) ∧ (j ≤ R.length)) _ ⟨0, rfl, rfl, (by simp [tellP]), (by simp [tellQ]), (by simp (disch := first | omega | (simp; done) | fail) [wrap64c, if_pos, if_neg, opAnd, opOr, opXor, opDiff, opShr, opBit, ntv, csv, ntw, csw, hbig, ntsv1, cssv1, gs, c1, eW, eA1, hw0, ntsv2, cssv2, gt, ntu1, csu1, lnu1, ntu2, csu2, lnu2, ntu3, csu3, lnu3, ntu4, csu4, lnu4, d1, eR, lnR, gtR]), (by first | omega | assumption | (simp (disch := first | omega | (simp; done) | fail) [wrap64c, if_pos, if_neg, opAnd, opOr, opXor, opDiff, opShr, opBit, ntv, csv, ntw, csw, hbig, ntsv1, cssv1, gs, c1, eW, eA1, hw0, ntsv2, cssv2, gt, ntu1, csu1, lnu1, ntu2, csu2, lnu2, ntu3, csu3, lnu3, ntu4, csu4, lnu4, d1, eR, lnR, gtR] <;> omega))⟩ ?_
        rintro m tm h' hFr ⟨j, rfl, rfl, e38, e39, e292, hj⟩
        simp only [FrameL] at hFr
        obtain ⟨f28_1, f29_1, f30_1, f290_1, f291_1, -⟩ := hFr
        try simp (disch := first | omega | (simp; done) | fail) [wrap64c, if_pos, if_neg, opAnd, opOr, opXor, opDiff, opShr, opBit, ntv, csv, ntw, csw, hbig, ntsv1, cssv1, gs, c1, eW, eA1, hw0, ntsv2, cssv2, gt, ntu1, csu1, lnu1, ntu2, csu2, lnu2, ntu3, csu3, lnu3, ntu4, csu4, lnu4, d1, eR, lnR, gtR] at f28_1 f29_1 f30_1 f290_1 f291_1
        have e28 := f28_1
        have e29 := f29_1
        have e30 := f30_1
        have e290 := f290_1
        have e291 := f291_1
        have tpl : tellP x (R.take j) 0 < bit m2 := tellP_lt fun i hi => hRm i (List.mem_of_mem_take hi)
        have tql : tellQ x (R.take j) 0 < bit m2 := tellQ_lt fun i hi => hRm i (List.mem_of_mem_take hi)
        by_cases hlt : j < R.length
        · have hij := hRm _ (List.getElem_mem hlt)
          have hbj := bit7 (i := R[j]) (by omega)
          have tx := shrMod x R[j]
          have sP := tellP_snoc x R[j] (R.take j) 0
          have sQ := tellQ_snoc x R[j] (R.take j) 0
          rw [← List.take_succ_eq_append_getElem hlt] at sP sQ
          have hsx := nShr_le x R[j]
          obtain ⟨o_q, i_q, c_q, cs_q, own_q, ex_q, es_q, q_q, b_q, g_q, l_q, r_q⟩ := hu1.open ((by simp; omega))
          have z_q : ∀ h2 : i_q < cs_q.length, cs_q[i_q] = _ := fun h2 => r_q 0 ((by simp; omega)) h2
          cases xb : x.testBit R[j]
          · rw [xb] at tx sP sQ
            have tx := tx
            try simp (disch := first | omega | (simp; done) | fail) [wrap64c, if_pos, if_neg, opAnd, opOr, opXor, opDiff, opShr, opBit, ntv, csv, ntw, csw, hbig, ntsv1, cssv1, gs, c1, eW, eA1, hw0, ntsv2, cssv2, gt, ntu1, csu1, lnu1, ntu2, csu2, lnu2, ntu3, csu3, lnu3, ntu4, csu4, lnu4, d1, eR, lnR, gtR, e28, e29, e30, e38, e39, e290, e291, e292, hlt, q_q, g_q, l_q, r_q, z_q, tx]
            refine loopK_next _ ?hm ?hf ⟨j + 1, rfl, rfl, (by rw [sP]; simp [e38]), (by rw [sQ]; simp), (by simp (disch := first | omega | (simp; done) | fail) [wrap64c, if_pos, if_neg, opAnd, opOr, opXor, opDiff, opShr, opBit, ntv, csv, ntw, csw, hbig, ntsv1, cssv1, gs, c1, eW, eA1, hw0, ntsv2, cssv2, gt, ntu1, csu1, lnu1, ntu2, csu2, lnu2, ntu3, csu3, lnu3, ntu4, csu4, lnu4, d1, eR, lnR, gtR, e28, e29, e30, e38, e39, e290, e291, e292, hlt, q_q, g_q, l_q, r_q, z_q, tx] <;> omega), (by first | omega | assumption | (simp (disch := first | omega | (simp; done) | fail) [wrap64c, if_pos, if_neg, opAnd, opOr, opXor, opDiff, opShr, opBit, ntv, csv, ntw, csw, hbig, ntsv1, cssv1, gs, c1, eW, eA1, hw0, ntsv2, cssv2, gt, ntu1, csu1, lnu1, ntu2, csu2, lnu2, ntu3, csu3, lnu3, ntu4, csu4, lnu4, d1, eR, lnR, gtR, e28, e29, e30, e38, e39, e290, e291, e292, hlt, q_q, g_q, l_q, r_q, z_q, tx] <;> omega))⟩
            (case hm => first | omega | (simp; omega))
            (case hf => simp [FrameL, ntv, csv, ntw, csw, hbig, ntsv1, cssv1, gs, c1, eW, eA1, hw0, ntsv2, cssv2, gt, ntu1, csu1, lnu1, ntu2, csu2, lnu2, ntu3, csu3, lnu3, ntu4, csu4, lnu4, d1, eR, lnR, gtR, e28, e29, e30, e38, e39, e290, e291, e292, hlt, q_q, g_q, l_q, r_q, z_q, tx, f28_1, f29_1, f30_1, f290_1, f291_1])
          · rw [xb] at tx sP sQ
            have tx := tx
            try simp (disch := first | omega | (simp; done) | fail) [wrap64c, if_pos, if_neg, opAnd, opOr, opXor, opDiff, opShr, opBit, ntv, csv, ntw, csw, hbig, ntsv1, cssv1, gs, c1, eW, eA1, hw0, ntsv2, cssv2, gt, ntu1, csu1, lnu1, ntu2, csu2, lnu2, ntu3, csu3, lnu3, ntu4, csu4, lnu4, d1, eR, lnR, gtR, e28, e29, e30, e38, e39, e290, e291, e292, hlt, q_q, g_q, l_q, r_q, z_q, tx]
            refine loopK_next _ ?hm ?hf ⟨j + 1, rfl, rfl, (by rw [sP]; simp), (by rw [sQ]; simp [e39]), (by simp (disch := first | omega | (simp; done) | fail) [wrap64c, if_pos, if_neg, opAnd, opOr, opXor, opDiff, opShr, opBit, ntv, csv, ntw, csw, hbig, ntsv1, cssv1, gs, c1, eW, eA1, hw0, ntsv2, cssv2, gt, ntu1, csu1, lnu1, ntu2, csu2, lnu2, ntu3, csu3, lnu3, ntu4, csu4, lnu4, d1, eR, lnR, gtR, e28, e29, e30, e38, e39, e290, e291, e292, hlt, q_q, g_q, l_q, r_q, z_q, tx] <;> omega), (by first | omega | assumption | (simp (disch := first | omega | (simp; done) | fail) [wrap64c, if_pos, if_neg, opAnd, opOr, opXor, opDiff, opShr, opBit, ntv, csv, ntw, csw, hbig, ntsv1, cssv1, gs, c1, eW, eA1, hw0, ntsv2, cssv2, gt, ntu1, csu1, lnu1, ntu2, csu2, lnu2, ntu3, csu3, lnu3, ntu4, csu4, lnu4, d1, eR, lnR, gtR, e28, e29, e30, e38, e39, e290, e291, e292, hlt, q_q, g_q, l_q, r_q, z_q, tx] <;> omega))⟩
            (case hm => first | omega | (simp; omega))
            (case hf => simp [FrameL, ntv, csv, ntw, csw, hbig, ntsv1, cssv1, gs, c1, eW, eA1, hw0, ntsv2, cssv2, gt, ntu1, csu1, lnu1, ntu2, csu2, lnu2, ntu3, csu3, lnu3, ntu4, csu4, lnu4, d1, eR, lnR, gtR, e28, e29, e30, e38, e39, e290, e291, e292, hlt, q_q, g_q, l_q, r_q, z_q, tx, f28_1, f29_1, f30_1, f290_1, f291_1])
        · have hft : R.take j = R := List.take_of_length_le (by omega)
          rw [hft] at e38 e39 tpl tql
          have e38' := e38
          have e39' := e39
          have ans := ansB_of gd2 tpl tql (tell_apart x R)
          have pOK : prfOK (m2 : Int) (toN ys2) (x : Int) ((tellP x R 0 : Nat) : Int) ((tellQ x R 0 : Nat) : Int) = true := by simp [prfOK, d1, ans]
          have pB : prfB (m2 : Int) (toN ys2) (x : Int) ((tellP x R 0 : Nat) : Int) ((tellQ x R 0 : Nat) : Int) = true := by simp [prfB, pOK]; rw [hR]; exact run_proof gd2 hx
          have q1 := implIsProof_ok g6 _ (m2 : Int) (toN ys2) (x : Int) ((tellP x R 0 : Nat) : Int) ((tellQ x R 0 : Nat) : Int) hD lY39
          rw [pOK, pB] at q1
          obtain ⟨w1, w2⟩ := go_none gd2
          have q2 := implWorstQ_ok g6 _ (m2 : Int) (toN ys2) 0 0 hD lY39
          rw [w1, w2] at q2
          have hng : ¬ ((worstN ys2 : Nat) : Int) < ((R.length : Nat) : Int) := by omega
          try simp (disch := first | omega | (simp; done) | fail) [wrap64c, if_pos, if_neg, opAnd, opOr, opXor, opDiff, opShr, opBit, ntv, csv, ntw, csw, hbig, ntsv1, cssv1, gs, c1, eW, eA1, hw0, ntsv2, cssv2, gt, ntu1, csu1, lnu1, ntu2, csu2, lnu2, ntu3, csu3, lnu3, ntu4, csu4, lnu4, d1, eR, lnR, gtR, e28, e29, e30, e38, e39, e290, e291, e292, hlt, e38', e39', hng]
          refine callG_c (by simp) (by simp) ?ha (q1) ?_
          (case ha => simp (disch := first | omega | (simp; done) | fail) [wrap64c, if_pos, if_neg, opAnd, opOr, opXor, opDiff, opShr, opBit, ntv, csv, ntw, csw, hbig, ntsv1, cssv1, gs, c1, eW, eA1, hw0, ntsv2, cssv2, gt, ntu1, csu1, lnu1, ntu2, csu2, lnu2, ntu3, csu3, lnu3, ntu4, csu4, lnu4, d1, eR, lnR, gtR, e28, e29, e30, e38, e39, e290, e291, e292, hlt, e38', e39', hng])
          try simp (disch := first | omega | (simp; done) | fail) [wrap64c, if_pos, if_neg, opAnd, opOr, opXor, opDiff, opShr, opBit, ntv, csv, ntw, csw, hbig, ntsv1, cssv1, gs, c1, eW, eA1, hw0, ntsv2, cssv2, gt, ntu1, csu1, lnu1, ntu2, csu2, lnu2, ntu3, csu3, lnu3, ntu4, csu4, lnu4, d1, eR, lnR, gtR, e28, e29, e30, e38, e39, e290, e291, e292, hlt, e38', e39', hng]
          refine callG_c (by simp) (by simp) ?ha (q2) ?_
          (case ha => simp (disch := first | omega | (simp; done) | fail) [wrap64c, if_pos, if_neg, opAnd, opOr, opXor, opDiff, opShr, opBit, ntv, csv, ntw, csw, hbig, ntsv1, cssv1, gs, c1, eW, eA1, hw0, ntsv2, cssv2, gt, ntu1, csu1, lnu1, ntu2, csu2, lnu2, ntu3, csu3, lnu3, ntu4, csu4, lnu4, d1, eR, lnR, gtR, e28, e29, e30, e38, e39, e290, e291, e292, hlt, e38', e39', hng])
          try simp (disch := first | omega | (simp; done) | fail) [wrap64c, if_pos, if_neg, opAnd, opOr, opXor, opDiff, opShr, opBit, ntv, csv, ntw, csw, hbig, ntsv1, cssv1, gs, c1, eW, eA1, hw0, ntsv2, cssv2, gt, ntu1, csu1, lnu1, ntu2, csu2, lnu2, ntu3, csu3, lnu3, ntu4, csu4, lnu4, d1, eR, lnR, gtR, e28, e29, e30, e38, e39, e290, e291, e292, hlt, e38', e39', hng]
          exact done_ret rfl (by simp [K6])
    · have eA1 : askB (n : Int) (toN fs) (a : Int) (b : Int) = true := by rw [eA]; simp [hone]
      have hw0 : 0 < wn := by omega
      obtain ⟨it, hb1, hb2, hb3⟩ := bestN_mem (sl.open1.2 (by omega))
      have eB : bestQR (n : Int) (toN fs) (a : Int) (b : Int) = (it : Int) := by rw [bestQR, if_pos eA1, natsOf_toN, ← hb1, hLe]; rfl
      have hbef := bestN_before hb1
      have hitn := open_lt sl hb2
      have hbit := bit7 (i := it) (by omega)
      have hop := (mem_openK.1 hb2).2
      have hlen := has_len hop
      obtain ⟨⟨x1, x2⟩, x3, x4⟩ := worst_with gd hal hbl hab hitn (hLe ▸ hop)
      rw [← hLe] at x2 x4
      obtain ⟨p1, hp1⟩ : ∃ q, q = worstN (hasL L it) := ⟨_, rfl⟩
      obtain ⟨p2, hp2⟩ : ∃ q, q = worstN (lacksL L it) := ⟨_, rfl⟩
      rw [← hp1] at x2
      rw [← hp2] at x4
      unfold askN at hb3
      rw [← hp1, ← hp2, ← hwn] at hb3
      have qW := implWorstQ_ok h2 _ (n : Int) (toN fs) ((nOr a (bit it) : Nat) : Int) (b : Int) hC lX'
      rw [x1, x2] at qW
      have qV := implWorstQ_ok h2 _ (n : Int) (toN fs) (a : Int) ((nOr b (bit it) : Nat) : Int) hC lX'
      rw [x3, x4] at qV
      have hge1 : ¬ (wn : Int) ≤ (p1 : Int) := by omega
      have hge2 : ¬ (wn : Int) ≤ (p2 : Int) := by omega
      obtain ⟨iN, hiN⟩ : ∃ q, q = inS n L := ⟨_, rfl⟩
      obtain ⟨oN, hoN⟩ : ∃ q, q = outS n L := ⟨_, rfl⟩
      have eI : inR (n : Int) (toN fs) (a : Int) (b : Int) = (iN : Int) := by rw [inR, if_pos c1, natsOf_toN, hiN, hLe]; rfl
      have eO : outR (n : Int) (toN fs) (a : Int) (b : Int) = (oN : Int) := by rw [outR, if_pos c1, natsOf_toN, hoN, hLe]; rfl
      have iNl : iN < bit n := hiN ▸ inS_lt n L
      have oNl : oN < bit n := hoN ▸ outS_lt n L
      have hab2 := nOr_lt iNl oNl
      try simp (disch := first | omega | (simp; done) | fail) [wrap64c, if_pos, if_neg, opAnd, opOr, opXor, opDiff, opShr, opBit, ntv, csv, ntw, csw, hbig, ntsv1, cssv1, gs, c1, eW, eA1, hw0, eB, hge1, hge2, eI, eO]
      refine WD_chainC rfl (by kernel_rfl) (by kernel_rfl) ?_
      try simp (disch := first | omega | (simp; done) | fail) [wrap64c, if_pos, if_neg, opAnd, opOr, opXor, opDiff, opShr, opBit, ntv, csv, ntw, csw, hbig, ntsv1, cssv1, gs, c1, eW, eA1, hw0, eB, hge1, hge2, eI, eO]
      refine callG_c (by simp) (by simp) ?ha (qW) ?_
      (case ha => simp (disch := first | omega | (simp; done) | fail) [wrap64c, if_pos, if_neg, opAnd, opOr, opXor, opDiff, opShr, opBit, ntv, csv, ntw, csw, hbig, ntsv1, cssv1, gs, c1, eW, eA1, hw0, eB, hge1, hge2, eI, eO])
      try simp (disch := first | omega | (simp; done) | fail) [wrap64c, if_pos, if_neg, opAnd, opOr, opXor, opDiff, opShr, opBit, ntv, csv, ntw, csw, hbig, ntsv1, cssv1, gs, c1, eW, eA1, hw0, eB, hge1, hge2, eI, eO]
      refine WD_chainC rfl (by kernel_rfl) (by kernel_rfl) ?_
      try simp (disch := first | omega | (simp; done) | fail) [wrap64c, if_pos, if_neg, opAnd, opOr, opXor, opDiff, opShr, opBit, ntv, csv, ntw, csw, hbig, ntsv1, cssv1, gs, c1, eW, eA1, hw0, eB, hge1, hge2, eI, eO]
      refine callG_c (by simp) (by simp) ?ha (qV) ?_
      (case ha => simp (disch := first | omega | (simp; done) | fail) [wrap64c, if_pos, if_neg, opAnd, opOr, opXor, opDiff, opShr, opBit, ntv, csv, ntw, csw, hbig, ntsv1, cssv1, gs, c1, eW, eA1, hw0, eB, hge1, hge2, eI, eO])
      by_cases hw1 : (p1 : Int) = (wn : Int) - 1
      · have hw1' : ((p1 : Int) != (wn : Int) - 1) = false := by simp [hw1]
        try simp (disch := first | omega | (simp; done) | fail) [wrap64c, if_pos, if_neg, opAnd, opOr, opXor, opDiff, opShr, opBit, ntv, csv, ntw, csw, hbig, ntsv1, cssv1, gs, c1, eW, eA1, hw0, eB, hge1, hge2, eI, eO, hw1']
        refine callG_c (by simp) (by simp) ?ha (implKnown_ok h2 _ (n : Int) (toN fs) (a : Int) (b : Int) hC lX') ?_
        (case ha => simp (disch := first | omega | (simp; done) | fail) [wrap64c, if_pos, if_neg, opAnd, opOr, opXor, opDiff, opShr, opBit, ntv, csv, ntw, csw, hbig, ntsv1, cssv1, gs, c1, eW, eA1, hw0, eB, hge1, hge2, eI, eO, hw1'])
        try simp (disch := first | omega | (simp; done) | fail) [wrap64c, if_pos, if_neg, opAnd, opOr, opXor, opDiff, opShr, opBit, ntv, csv, ntw, csw, hbig, ntsv1, cssv1, gs, c1, eW, eA1, hw0, eB, hge1, hge2, eI, eO, hw1']
        refine WD_loopC [1, 5, 6, 7, 8, 12, 20, 21, 22] (fun m tm h' => ∃ j, m = n - j ∧ h2 = h' ∧ tm 23 = .int .i64 (j : Int) ∧ (j ≤ n)) _ ⟨0, rfl, rfl, (by simp (disch := first | omega | (simp; done) | fail) [wrap64c, if_pos, if_neg, opAnd, opOr, opXor, opDiff, opShr, opBit, ntv, csv, ntw, csw, hbig, ntsv1, cssv1, gs, c1, eW, eA1, hw0, eB, hge1, hge2, eI, eO, hw1']), (by first | omega | assumption | (simp (disch := first | omega | (simp; done) | fail) [wrap64c, if_pos, if_neg, opAnd, opOr, opXor, opDiff, opShr, opBit, ntv, csv, ntw, csw, hbig, ntsv1, cssv1, gs, c1, eW, eA1, hw0, eB, hge1, hge2, eI, eO, hw1'] <;> omega))⟩ ?_
        rintro m tm h' hFr ⟨j, rfl, rfl, e23, hj⟩
        simp only [FrameL] at hFr
        obtain ⟨f1_2, f5_2, f6_2, f7_2, f8_2, f12_2, f20_2, f21_2, f22_2, -⟩ := hFr
        try simp (disch := first | omega | (simp; done) | fail) [wrap64c, if_pos, if_neg, opAnd, opOr, opXor, opDiff, opShr, opBit, ntv, csv, ntw, csw, hbig, ntsv1, cssv1, gs, c1, eW, eA1, hw0, eB, hge1, hge2, eI, eO, hw1'] at f1_2 f5_2 f6_2 f7_2 f8_2 f12_2 f20_2 f21_2 f22_2
        have e1 := f1_2
        have e5 := f5_2
        have e6 := f6_2
        have e7 := f7_2
        have e8 := f8_2
        have e12 := f12_2
        have e20 := f20_2
        have e21 := f21_2
        have e22 := f22_2
        by_cases hlt : j < n
        · have hbj := bit7 (i := j) (by omega)
          have tx := shrMod (nOr iN oN) j
          have hkn := known_open hne hlt
          rw [← hiN, ← hoN] at hkn
          rw [hkn] at tx
          have hor : nShr (nOr iN oN) j ≤ nOr iN oN := nShr_le _ _
          cases hopj : opB L j
          · rw [hopj] at tx
            have tx := tx
            try simp (disch := first | omega | (simp; done) | fail) [wrap64c, if_pos, if_neg, opAnd, opOr, opXor, opDiff, opShr, opBit, ntv, csv, ntw, csw, hbig, ntsv1, cssv1, gs, c1, eW, eA1, hw0, eB, hge1, hge2, eI, eO, hw1', e1, e5, e6, e7, e8, e12, e20, e21, e22, e23, hlt, tx]
            refine loopK_next _ ?hm ?hf ⟨j + 1, rfl, rfl, (by simp (disch := first | omega | (simp; done) | fail) [wrap64c, if_pos, if_neg, opAnd, opOr, opXor, opDiff, opShr, opBit, ntv, csv, ntw, csw, hbig, ntsv1, cssv1, gs, c1, eW, eA1, hw0, eB, hge1, hge2, eI, eO, hw1', e1, e5, e6, e7, e8, e12, e20, e21, e22, e23, hlt, tx] <;> omega), (by first | omega | assumption | (simp (disch := first | omega | (simp; done) | fail) [wrap64c, if_pos, if_neg, opAnd, opOr, opXor, opDiff, opShr, opBit, ntv, csv, ntw, csw, hbig, ntsv1, cssv1, gs, c1, eW, eA1, hw0, eB, hge1, hge2, eI, eO, hw1', e1, e5, e6, e7, e8, e12, e20, e21, e22, e23, hlt, tx] <;> omega))⟩
            (case hm => first | omega | (simp; omega))
            (case hf => simp [FrameL, ntv, csv, ntw, csw, hbig, ntsv1, cssv1, gs, c1, eW, eA1, hw0, eB, hge1, hge2, eI, eO, hw1', e1, e5, e6, e7, e8, e12, e20, e21, e22, e23, hlt, tx, f1_2, f5_2, f6_2, f7_2, f8_2, f12_2, f20_2, f21_2, f22_2])
          · rw [hopj] at tx
            have tx := tx
            have hmj : j ∈ openN L := mem_openK.2 ⟨by omega, hopj⟩
            have hle := worst_le_ask hmj
            have hbj2 := hbef j hmj
            obtain ⟨⟨y1, y2⟩, y3, y4⟩ := worst_with gd hal hbl hab hlt (hLe ▸ hopj)
            rw [← hLe] at y2 y4
            obtain ⟨r1, hr1⟩ : ∃ q, q = worstN (hasL L j) := ⟨_, rfl⟩
            obtain ⟨r2, hr2⟩ : ∃ q, q = worstN (lacksL L j) := ⟨_, rfl⟩
            have hr1l := worstN_le (hasL L j)
            have hr2l := worstN_le (lacksL L j)
            have hlen2 := has_len hopj
            rw [← hr1] at y2 hr1l
            rw [← hr2] at y4 hr2l
            unfold askN at hle hbj2
            rw [← hr1, ← hr2, ← hwn] at hle hbj2
            have rW := implWorstQ_ok h2 _ (n : Int) (toN fs) ((nOr a (bit j) : Nat) : Int) (b : Int) hC lX'
            rw [y1, y2] at rW
            have rV := implWorstQ_ok h2 _ (n : Int) (toN fs) (a : Int) ((nOr b (bit j) : Nat) : Int) hC lX'
            rw [y3, y4] at rV
            try simp (disch := first | omega | (simp; done) | fail) [wrap64c, if_pos, if_neg, opAnd, opOr, opXor, opDiff, opShr, opBit, ntv, csv, ntw, csw, hbig, ntsv1, cssv1, gs, c1, eW, eA1, hw0, eB, hge1, hge2, eI, eO, hw1', e1, e5, e6, e7, e8, e12, e20, e21, e22, e23, hlt, tx]
            refine WD_chainC rfl (by kernel_rfl) (by kernel_rfl) ?_
            try simp (disch := first | omega | (simp; done) | fail) [wrap64c, if_pos, if_neg, opAnd, opOr, opXor, opDiff, opShr, opBit, ntv, csv, ntw, csw, hbig, ntsv1, cssv1, gs, c1, eW, eA1, hw0, eB, hge1, hge2, eI, eO, hw1', e1, e5, e6, e7, e8, e12, e20, e21, e22, e23, hlt, tx]
            refine callG_c (by simp) (by simp) ?ha (rW) ?_
            (case ha => simp (disch := first | omega | (simp; done) | fail) [wrap64c, if_pos, if_neg, opAnd, opOr, opXor, opDiff, opShr, opBit, ntv, csv, ntw, csw, hbig, ntsv1, cssv1, gs, c1, eW, eA1, hw0, eB, hge1, hge2, eI, eO, hw1', e1, e5, e6, e7, e8, e12, e20, e21, e22, e23, hlt, tx])
            try simp (disch := first | omega | (simp; done) | fail) [wrap64c, if_pos, if_neg, opAnd, opOr, opXor, opDiff, opShr, opBit, ntv, csv, ntw, csw, hbig, ntsv1, cssv1, gs, c1, eW, eA1, hw0, eB, hge1, hge2, eI, eO, hw1', e1, e5, e6, e7, e8, e12, e20, e21, e22, e23, hlt, tx]
            refine WD_chainC rfl (by kernel_rfl) (by kernel_rfl) ?_
            try simp (disch := first | omega | (simp; done) | fail) [wrap64c, if_pos, if_neg, opAnd, opOr, opXor, opDiff, opShr, opBit, ntv, csv, ntw, csw, hbig, ntsv1, cssv1, gs, c1, eW, eA1, hw0, eB, hge1, hge2, eI, eO, hw1', e1, e5, e6, e7, e8, e12, e20, e21, e22, e23, hlt, tx]
            refine callG_c (by simp) (by simp) ?ha (rV) ?_
            (case ha => simp (disch := first | omega | (simp; done) | fail) [wrap64c, if_pos, if_neg, opAnd, opOr, opXor, opDiff, opShr, opBit, ntv, csv, ntw, csw, hbig, ntsv1, cssv1, gs, c1, eW, eA1, hw0, eB, hge1, hge2, eI, eO, hw1', e1, e5, e6, e7, e8, e12, e20, e21, e22, e23, hlt, tx])
            have hcase : ∃ c1 c2 : Bool, (c1 = true ↔ (r1 : Int) < (wn : Int) - 1) ∧ (c2 = true ↔ (j : Int) < (it : Int)) := ⟨decide ((r1 : Int) < (wn : Int) - 1), decide ((j : Int) < (it : Int)), by simp, by simp⟩
            by_cases s1 : (r1 : Int) < (wn : Int) - 1
            · have s2 : ¬ (r2 : Int) < (wn : Int) - 1 := by omega
              by_cases s3 : (j : Int) < (it : Int)
              · have s5 := hbj2 (by omega)
                by_cases s4 : (r1 : Int) < (wn : Int)
                · have s6 : ¬ (r2 : Int) < (wn : Int) := by omega
                  try simp (disch := first | omega | (simp; done) | fail) [wrap64c, if_pos, if_neg, opAnd, opOr, opXor, opDiff, opShr, opBit, ntv, csv, ntw, csw, hbig, ntsv1, cssv1, gs, c1, eW, eA1, hw0, eB, hge1, hge2, eI, eO, hw1', e1, e5, e6, e7, e8, e12, e20, e21, e22, e23, hlt, tx, s1, s2, s3, s4, s6]
                  refine loopK_next _ ?hm ?hf ⟨j + 1, rfl, rfl, (by simp (disch := first | omega | (simp; done) | fail) [wrap64c, if_pos, if_neg, opAnd, opOr, opXor, opDiff, opShr, opBit, ntv, csv, ntw, csw, hbig, ntsv1, cssv1, gs, c1, eW, eA1, hw0, eB, hge1, hge2, eI, eO, hw1', e1, e5, e6, e7, e8, e12, e20, e21, e22, e23, hlt, tx, s1, s2, s3, s4, s6] <;> omega), (by first | omega | assumption | (simp (disch := first | omega | (simp; done) | fail) [wrap64c, if_pos, if_neg, opAnd, opOr, opXor, opDiff, opShr, opBit, ntv, csv, ntw, csw, hbig, ntsv1, cssv1, gs, c1, eW, eA1, hw0, eB, hge1, hge2, eI, eO, hw1', e1, e5, e6, e7, e8, e12, e20, e21, e22, e23, hlt, tx, s1, s2, s3, s4, s6] <;> omega))⟩
                  (case hm => first | omega | (simp; omega))
                  (case hf => simp [FrameL, ntv, csv, ntw, csw, hbig, ntsv1, cssv1, gs, c1, eW, eA1, hw0, eB, hge1, hge2, eI, eO, hw1', e1, e5, e6, e7, e8, e12, e20, e21, e22, e23, hlt, tx, s1, s2, s3, s4, s6, f1_2, f5_2, f6_2, f7_2, f8_2, f12_2, f20_2, f21_2, f22_2])
                · try simp (disch := first | omega | (simp; done) | fail) [wrap64c, if_pos, if_neg, opAnd, opOr, opXor, opDiff, opShr, opBit, ntv, csv, ntw, csw, hbig, ntsv1, cssv1, gs, c1, eW, eA1, hw0, eB, hge1, hge2, eI, eO, hw1', e1, e5, e6, e7, e8, e12, e20, e21, e22, e23, hlt, tx, s1, s2, s3, s4]
                  refine loopK_next _ ?hm ?hf ⟨j + 1, rfl, rfl, (by simp (disch := first | omega | (simp; done) | fail) [wrap64c, if_pos, if_neg, opAnd, opOr, opXor, opDiff, opShr, opBit, ntv, csv, ntw, csw, hbig, ntsv1, cssv1, gs, c1, eW, eA1, hw0, eB, hge1, hge2, eI, eO, hw1', e1, e5, e6, e7, e8, e12, e20, e21, e22, e23, hlt, tx, s1, s2, s3, s4] <;> omega), (by first | omega | assumption | (simp (disch := first | omega | (simp; done) | fail) [wrap64c, if_pos, if_neg, opAnd, opOr, opXor, opDiff, opShr, opBit, ntv, csv, ntw, csw, hbig, ntsv1, cssv1, gs, c1, eW, eA1, hw0, eB, hge1, hge2, eI, eO, hw1', e1, e5, e6, e7, e8, e12, e20, e21, e22, e23, hlt, tx, s1, s2, s3, s4] <;> omega))⟩
                  (case hm => first | omega | (simp; omega))
                  (case hf => simp [FrameL, ntv, csv, ntw, csw, hbig, ntsv1, cssv1, gs, c1, eW, eA1, hw0, eB, hge1, hge2, eI, eO, hw1', e1, e5, e6, e7, e8, e12, e20, e21, e22, e23, hlt, tx, s1, s2, s3, s4, f1_2, f5_2, f6_2, f7_2, f8_2, f12_2, f20_2, f21_2, f22_2])
              · try simp (disch := first | omega | (simp; done) | fail) [wrap64c, if_pos, if_neg, opAnd, opOr, opXor, opDiff, opShr, opBit, ntv, csv, ntw, csw, hbig, ntsv1, cssv1, gs, c1, eW, eA1, hw0, eB, hge1, hge2, eI, eO, hw1', e1, e5, e6, e7, e8, e12, e20, e21, e22, e23, hlt, tx, s1, s2, s3]
                refine loopK_next _ ?hm ?hf ⟨j + 1, rfl, rfl, (by simp (disch := first | omega | (simp; done) | fail) [wrap64c, if_pos, if_neg, opAnd, opOr, opXor, opDiff, opShr, opBit, ntv, csv, ntw, csw, hbig, ntsv1, cssv1, gs, c1, eW, eA1, hw0, eB, hge1, hge2, eI, eO, hw1', e1, e5, e6, e7, e8, e12, e20, e21, e22, e23, hlt, tx, s1, s2, s3] <;> omega), (by first | omega | assumption | (simp (disch := first | omega | (simp; done) | fail) [wrap64c, if_pos, if_neg, opAnd, opOr, opXor, opDiff, opShr, opBit, ntv, csv, ntw, csw, hbig, ntsv1, cssv1, gs, c1, eW, eA1, hw0, eB, hge1, hge2, eI, eO, hw1', e1, e5, e6, e7, e8, e12, e20, e21, e22, e23, hlt, tx, s1, s2, s3] <;> omega))⟩
                (case hm => first | omega | (simp; omega))
                (case hf => simp [FrameL, ntv, csv, ntw, csw, hbig, ntsv1, cssv1, gs, c1, eW, eA1, hw0, eB, hge1, hge2, eI, eO, hw1', e1, e5, e6, e7, e8, e12, e20, e21, e22, e23, hlt, tx, s1, s2, s3, f1_2, f5_2, f6_2, f7_2, f8_2, f12_2, f20_2, f21_2, f22_2])
            · by_cases s3 : (j : Int) < (it : Int)
              · have s5 := hbj2 (by omega)
                by_cases s4 : (r1 : Int) < (wn : Int)
                · have s6 : ¬ (r2 : Int) < (wn : Int) := by omega
                  try simp (disch := first | omega | (simp; done) | fail) [wrap64c, if_pos, if_neg, opAnd, opOr, opXor, opDiff, opShr, opBit, ntv, csv, ntw, csw, hbig, ntsv1, cssv1, gs, c1, eW, eA1, hw0, eB, hge1, hge2, eI, eO, hw1', e1, e5, e6, e7, e8, e12, e20, e21, e22, e23, hlt, tx, s1, s3, s4, s6]
                  refine loopK_next _ ?hm ?hf ⟨j + 1, rfl, rfl, (by simp (disch := first | omega | (simp; done) | fail) [wrap64c, if_pos, if_neg, opAnd, opOr, opXor, opDiff, opShr, opBit, ntv, csv, ntw, csw, hbig, ntsv1, cssv1, gs, c1, eW, eA1, hw0, eB, hge1, hge2, eI, eO, hw1', e1, e5, e6, e7, e8, e12, e20, e21, e22, e23, hlt, tx, s1, s3, s4, s6] <;> omega), (by first | omega | assumption | (simp (disch := first | omega | (simp; done) | fail) [wrap64c, if_pos, if_neg, opAnd, opOr, opXor, opDiff, opShr, opBit, ntv, csv, ntw, csw, hbig, ntsv1, cssv1, gs, c1, eW, eA1, hw0, eB, hge1, hge2, eI, eO, hw1', e1, e5, e6, e7, e8, e12, e20, e21, e22, e23, hlt, tx, s1, s3, s4, s6] <;> omega))⟩
                  (case hm => first | omega | (simp; omega))
                  (case hf => simp [FrameL, ntv, csv, ntw, csw, hbig, ntsv1, cssv1, gs, c1, eW, eA1, hw0, eB, hge1, hge2, eI, eO, hw1', e1, e5, e6, e7, e8, e12, e20, e21, e22, e23, hlt, tx, s1, s3, s4, s6, f1_2, f5_2, f6_2, f7_2, f8_2, f12_2, f20_2, f21_2, f22_2])
                · try simp (disch := first | omega | (simp; done) | fail) [wrap64c, if_pos, if_neg, opAnd, opOr, opXor, opDiff, opShr, opBit, ntv, csv, ntw, csw, hbig, ntsv1, cssv1, gs, c1, eW, eA1, hw0, eB, hge1, hge2, eI, eO, hw1', e1, e5, e6, e7, e8, e12, e20, e21, e22, e23, hlt, tx, s1, s3, s4]
                  refine loopK_next _ ?hm ?hf ⟨j + 1, rfl, rfl, (by simp (disch := first | omega | (simp; done) | fail) [wrap64c, if_pos, if_neg, opAnd, opOr, opXor, opDiff, opShr, opBit, ntv, csv, ntw, csw, hbig, ntsv1, cssv1, gs, c1, eW, eA1, hw0, eB, hge1, hge2, eI, eO, hw1', e1, e5, e6, e7, e8, e12, e20, e21, e22, e23, hlt, tx, s1, s3, s4] <;> omega), (by first | omega | assumption | (simp (disch := first | omega | (simp; done) | fail) [wrap64c, if_pos, if_neg, opAnd, opOr, opXor, opDiff, opShr, opBit, ntv, csv, ntw, csw, hbig, ntsv1, cssv1, gs, c1, eW, eA1, hw0, eB, hge1, hge2, eI, eO, hw1', e1, e5, e6, e7, e8, e12, e20, e21, e22, e23, hlt, tx, s1, s3, s4] <;> omega))⟩
                  (case hm => first | omega | (simp; omega))
                  (case hf => simp [FrameL, ntv, csv, ntw, csw, hbig, ntsv1, cssv1, gs, c1, eW, eA1, hw0, eB, hge1, hge2, eI, eO, hw1', e1, e5, e6, e7, e8, e12, e20, e21, e22, e23, hlt, tx, s1, s3, s4, f1_2, f5_2, f6_2, f7_2, f8_2, f12_2, f20_2, f21_2, f22_2])
              · try simp (disch := first | omega | (simp; done) | fail) [wrap64c, if_pos, if_neg, opAnd, opOr, opXor, opDiff, opShr, opBit, ntv, csv, ntw, csw, hbig, ntsv1, cssv1, gs, c1, eW, eA1, hw0, eB, hge1, hge2, eI, eO, hw1', e1, e5, e6, e7, e8, e12, e20, e21, e22, e23, hlt, tx, s1, s3]
                refine loopK_next _ ?hm ?hf ⟨j + 1, rfl, rfl, (by simp (disch := first | omega | (simp; done) | fail) [wrap64c, if_pos, if_neg, opAnd, opOr, opXor, opDiff, opShr, opBit, ntv, csv, ntw, csw, hbig, ntsv1, cssv1, gs, c1, eW, eA1, hw0, eB, hge1, hge2, eI, eO, hw1', e1, e5, e6, e7, e8, e12, e20, e21, e22, e23, hlt, tx, s1, s3] <;> omega), (by first | omega | assumption | (simp (disch := first | omega | (simp; done) | fail) [wrap64c, if_pos, if_neg, opAnd, opOr, opXor, opDiff, opShr, opBit, ntv, csv, ntw, csw, hbig, ntsv1, cssv1, gs, c1, eW, eA1, hw0, eB, hge1, hge2, eI, eO, hw1', e1, e5, e6, e7, e8, e12, e20, e21, e22, e23, hlt, tx, s1, s3] <;> omega))⟩
                (case hm => first | omega | (simp; omega))
                (case hf => simp [FrameL, ntv, csv, ntw, csw, hbig, ntsv1, cssv1, gs, c1, eW, eA1, hw0, eB, hge1, hge2, eI, eO, hw1', e1, e5, e6, e7, e8, e12, e20, e21, e22, e23, hlt, tx, s1, s3, f1_2, f5_2, f6_2, f7_2, f8_2, f12_2, f20_2, f21_2, f22_2])
        · try simp (disch := first | omega | (simp; done) | fail) [wrap64c, if_pos, if_neg, opAnd, opOr, opXor, opDiff, opShr, opBit, ntv, csv, ntw, csw, hbig, ntsv1, cssv1, gs, c1, eW, eA1, hw0, eB, hge1, hge2, eI, eO, hw1', e1, e5, e6, e7, e8, e12, e20, e21, e22, e23, hlt]
          obtain ⟨g0, hg0⟩ : ∃ x, x = h2 := ⟨_, rfl⟩
          have K0 := K2
          rw [← hg0] at K0
          have hv := hv
          have hw := hw
          rw [← hg0] at hv
          rw [← hg0] at hw
          try rw [← hg0]
          obtain ⟨_, g1, p1, a1, s2, G, Y, t, rfl, hD, lY⟩ := drawAskRun_ok g0 w ys (bytes_old hw)
          refine callG_c (by simp) (by simp) ?ha (p1) ?_
          (case ha => simp (disch := first | omega | (simp; done) | fail) [wrap64c, if_pos, if_neg, opAnd, opOr, opXor, opDiff, opShr, opBit, ntv, csv, ntw, csw, hbig, ntsv1, cssv1, gs, c1, eW, eA1, hw0, eB, hge1, hge2, eI, eO, hw1', e1, e5, e6, e7, e8, e12, e20, e21, e22, e23, hlt])
          have n1 := a1.1.1
          have K1 := K0.trans a1.1
          have hv := hv.keep a1.1
          have hw := hw.keep a1.1
          obtain ⟨sv2, rfl, hsv2⟩ := hD
          have hsv2 := hsv2.ints
          have ntsv2 := hsv2.nt
          have cssv2 := hsv2.cs
          have hD : Space g1 (.agg #[.int .i64 G, sv2]) G Y := .mk hsv2
          try simp (disch := first | omega | (simp; done) | fail) [wrap64c, if_pos, if_neg, opAnd, opOr, opXor, opDiff, opShr, opBit, ntv, csv, ntw, csw, hbig, ntsv1, cssv1, gs, c1, eW, eA1, hw0, eB, hge1, hge2, eI, eO, hw1', e1, e5, e6, e7, e8, e12, e20, e21, e22, e23, hlt, ntsv2, cssv2, putCells]
          first | refine WY_heap fun g2 q_g2 => ?_ | refine callG_heap fun g2 q_g2 => ?_ | refine callP_heap fun g2 q_g2 => ?_ | refine callS_heap fun g2 q_g2 => ?_ | refine RY_heap fun g2 q_g2 => ?_ | refine PY_heap fun g2 q_g2 => ?_ | refine SY_heap fun g2 q_g2 => ?_ | refine doneY_heap fun g2 q_g2 => ?_ | refine loopK_heap fun g2 q_g2 => ?_ | refine thenY_heap fun g2 q_g2 => ?_ | refine thenM_heap fun g2 q_g2 => ?_
          have b2 : Adds g1 g2 := by rw [q_g2]; exact (by first | exact aK | exact kK)
          have n2 := b2.1.1
          have K2 := K1.trans b2.1
          have hv := hv.keep b2.1
          have hw := hw.keep b2.1
          have hD := hD.keep b2.1
          have m2 : g2.next = g1.next + 1 := by simp [q_g2]
          have gt : g2.get g1.next = .cells [.int .i64 G, sv2] true true 1 := by simp [q_g2]
          have lY' : Y.length < 2 ^ 40 := by omega
          have lY39 : Y.length < 2 ^ 39 := by omega
          obtain ⟨_, g3, p3, a3, u1, rfl, hu1⟩ := implAsk_ok g2 _ G Y t hD lY'
          refine callG_c (by simp) (by simp) ?ha (p3) ?_
          (case ha => simp (disch := first | omega | (simp; done) | fail) [wrap64c, if_pos, if_neg, opAnd, opOr, opXor, opDiff, opShr, opBit, ntv, csv, ntw, csw, hbig, ntsv1, cssv1, gs, c1, eW, eA1, hw0, eB, hge1, hge2, eI, eO, hw1', e1, e5, e6, e7, e8, e12, e20, e21, e22, e23, hlt, ntsv2, cssv2, gt])
          have n3 := a3.1.1
          have K3 := K2.trans a3.1
          have gt : g3.get g1.next = .cells [.int .i64 G, sv2] true true 1 := by rw [a3.1.2 _ (by omega)]; exact gt
          have hv := hv.keep a3.1
          have hw := hw.keep a3.1
          have hD := hD.keep a3.1
          have hu1 := hu1.ints
          have ntu1 := hu1.nt
          have csu1 := hu1.cs
          have lnu1 := hu1.lenD
          try simp (disch := first | omega | (simp; done) | fail) [wrap64c, if_pos, if_neg, opAnd, opOr, opXor, opDiff, opShr, opBit, ntv, csv, ntw, csw, hbig, ntsv1, cssv1, gs, c1, eW, eA1, hw0, eB, hge1, hge2, eI, eO, hw1', e1, e5, e6, e7, e8, e12, e20, e21, e22, e23, hlt, ntsv2, cssv2, gt, ntu1, csu1, lnu1]
          obtain ⟨_, g4, p4, a4, u2, rfl, hu2⟩ := specAsk_ok g3 _ G Y t hD lY'
          refine callG_c (by simp) (by simp) ?ha (p4) ?_
          (case ha => simp (disch := first | omega | (simp; done) | fail) [wrap64c, if_pos, if_neg, opAnd, opOr, opXor, opDiff, opShr, opBit, ntv, csv, ntw, csw, hbig, ntsv1, cssv1, gs, c1, eW, eA1, hw0, eB, hge1, hge2, eI, eO, hw1', e1, e5, e6, e7, e8, e12, e20, e21, e22, e23, hlt, ntsv2, cssv2, gt, ntu1, csu1, lnu1])
          have n4 := a4.1.1
          have K4 := K3.trans a4.1
          have gt : g4.get g1.next = .cells [.int .i64 G, sv2] true true 1 := by rw [a4.1.2 _ (by omega)]; exact gt
          have hv := hv.keep a4.1
          have hw := hw.keep a4.1
          have hD := hD.keep a4.1
          have hu1 := hu1.keep a4.1
          have hu2 := hu2.ints
          have ntu2 := hu2.nt
          have csu2 := hu2.cs
          have lnu2 := hu2.lenD
          try simp (disch := first | omega | (simp; done) | fail) [wrap64c, if_pos, if_neg, opAnd, opOr, opXor, opDiff, opShr, opBit, ntv, csv, ntw, csw, hbig, ntsv1, cssv1, gs, c1, eW, eA1, hw0, eB, hge1, hge2, eI, eO, hw1', e1, e5, e6, e7, e8, e12, e20, e21, e22, e23, hlt, ntsv2, cssv2, gt, ntu1, csu1, lnu1, ntu2, csu2, lnu2]
          obtain ⟨_, g5, p5, a5, u3, rfl, hu3⟩ := implHalf_ok g4 _ G Y t hD lY'
          refine callG_c (by simp) (by simp) ?ha (p5) ?_
          (case ha => simp (disch := first | omega | (simp; done) | fail) [wrap64c, if_pos, if_neg, opAnd, opOr, opXor, opDiff, opShr, opBit, ntv, csv, ntw, csw, hbig, ntsv1, cssv1, gs, c1, eW, eA1, hw0, eB, hge1, hge2, eI, eO, hw1', e1, e5, e6, e7, e8, e12, e20, e21, e22, e23, hlt, ntsv2, cssv2, gt, ntu1, csu1, lnu1, ntu2, csu2, lnu2])
          have n5 := a5.1.1
          have K5 := K4.trans a5.1
          have gt : g5.get g1.next = .cells [.int .i64 G, sv2] true true 1 := by rw [a5.1.2 _ (by omega)]; exact gt
          have hv := hv.keep a5.1
          have hw := hw.keep a5.1
          have hD := hD.keep a5.1
          have hu1 := hu1.keep a5.1
          have hu2 := hu2.keep a5.1
          have hu3 := hu3.ints
          have ntu3 := hu3.nt
          have csu3 := hu3.cs
          have lnu3 := hu3.lenD
          try simp (disch := first | omega | (simp; done) | fail) [wrap64c, if_pos, if_neg, opAnd, opOr, opXor, opDiff, opShr, opBit, ntv, csv, ntw, csw, hbig, ntsv1, cssv1, gs, c1, eW, eA1, hw0, eB, hge1, hge2, eI, eO, hw1', e1, e5, e6, e7, e8, e12, e20, e21, e22, e23, hlt, ntsv2, cssv2, gt, ntu1, csu1, lnu1, ntu2, csu2, lnu2, ntu3, csu3, lnu3]
          obtain ⟨_, g6, p6, a6, u4, rfl, hu4⟩ := specHalf_ok g5 _ G Y t hD lY'
          refine callG_c (by simp) (by simp) ?ha (p6) ?_
          (case ha => simp (disch := first | omega | (simp; done) | fail) [wrap64c, if_pos, if_neg, opAnd, opOr, opXor, opDiff, opShr, opBit, ntv, csv, ntw, csw, hbig, ntsv1, cssv1, gs, c1, eW, eA1, hw0, eB, hge1, hge2, eI, eO, hw1', e1, e5, e6, e7, e8, e12, e20, e21, e22, e23, hlt, ntsv2, cssv2, gt, ntu1, csu1, lnu1, ntu2, csu2, lnu2, ntu3, csu3, lnu3])
          have n6 := a6.1.1
          have K6 := K5.trans a6.1
          have gt : g6.get g1.next = .cells [.int .i64 G, sv2] true true 1 := by rw [a6.1.2 _ (by omega)]; exact gt
          have hv := hv.keep a6.1
          have hw := hw.keep a6.1
          have hD := hD.keep a6.1
          have hu1 := hu1.keep a6.1
          have hu2 := hu2.keep a6.1
          have hu3 := hu3.keep a6.1
          have hu4 := hu4.ints
          have ntu4 := hu4.nt
          have csu4 := hu4.cs
          have lnu4 := hu4.lenD
          try simp (disch := first | omega | (simp; done) | fail) [wrap64c, if_pos, if_neg, opAnd, opOr, opXor, opDiff, opShr, opBit, ntv, csv, ntw, csw, hbig, ntsv1, cssv1, gs, c1, eW, eA1, hw0, eB, hge1, hge2, eI, eO, hw1', e1, e5, e6, e7, e8, e12, e20, e21, e22, e23, hlt, ntsv2, cssv2, gt, ntu1, csu1, lnu1, ntu2, csu2, lnu2, ntu3, csu3, lnu3, ntu4, csu4, lnu4]
          refine callG_c (by simp) (by simp) ?ha (jSame_ok g6 _ _ _ _ hu1 hu2) ?_
          (case ha => simp (disch := first | omega | (simp; done) | fail) [wrap64c, if_pos, if_neg, opAnd, opOr, opXor, opDiff, opShr, opBit, ntv, csv, ntw, csw, hbig, ntsv1, cssv1, gs, c1, eW, eA1, hw0, eB, hge1, hge2, eI, eO, hw1', e1, e5, e6, e7, e8, e12, e20, e21, e22, e23, hlt, ntsv2, cssv2, gt, ntu1, csu1, lnu1, ntu2, csu2, lnu2, ntu3, csu3, lnu3, ntu4, csu4, lnu4])
          try simp (disch := first | omega | (simp; done) | fail) [wrap64c, if_pos, if_neg, opAnd, opOr, opXor, opDiff, opShr, opBit, ntv, csv, ntw, csw, hbig, ntsv1, cssv1, gs, c1, eW, eA1, hw0, eB, hge1, hge2, eI, eO, hw1', e1, e5, e6, e7, e8, e12, e20, e21, e22, e23, hlt, ntsv2, cssv2, gt, ntu1, csu1, lnu1, ntu2, csu2, lnu2, ntu3, csu3, lnu3, ntu4, csu4, lnu4]
          refine callG_c (by simp) (by simp) ?ha (jSame_ok g6 _ _ _ _ hu3 hu4) ?_
          (case ha => simp (disch := first | omega | (simp; done) | fail) [wrap64c, if_pos, if_neg, opAnd, opOr, opXor, opDiff, opShr, opBit, ntv, csv, ntw, csw, hbig, ntsv1, cssv1, gs, c1, eW, eA1, hw0, eB, hge1, hge2, eI, eO, hw1', e1, e5, e6, e7, e8, e12, e20, e21, e22, e23, hlt, ntsv2, cssv2, gt, ntu1, csu1, lnu1, ntu2, csu2, lnu2, ntu3, csu3, lnu3, ntu4, csu4, lnu4])
          cases d1 : oneB G Y t
          · try simp (disch := first | omega | (simp; done) | fail) [wrap64c, if_pos, if_neg, opAnd, opOr, opXor, opDiff, opShr, opBit, ntv, csv, ntw, csw, hbig, ntsv1, cssv1, gs, c1, eW, eA1, hw0, eB, hge1, hge2, eI, eO, hw1', e1, e5, e6, e7, e8, e12, e20, e21, e22, e23, hlt, ntsv2, cssv2, gt, ntu1, csu1, lnu1, ntu2, csu2, lnu2, ntu3, csu3, lnu3, ntu4, csu4, lnu4, d1]
            exact done_ret rfl (by simp [K6])
          · obtain ⟨m2, ys2, x, eG, eY, ex, gd2, hx⟩ := oneB_true d1
            subst eG eY ex
            have n27 := gd2.n7
            have hb2 := bit7 n27
            have xlt := gd2.lt x hx
            have x128 : x < 128 := by omega
            obtain ⟨R, hR⟩ : ∃ R, R = runF bestN x ys2.length ys2 := ⟨_, rfl⟩
            have eR : askR (m2 : Int) (toN ys2) (x : Int) = toN R := by rw [askR, if_pos d1, natsOf_toN, toN_length, Int.toNat_natCast, hR]
            rw [eR] at hu1
            have lnR := toN_length R
            have gtR := toN_get R
            have hRl : R.length ≤ worstN ys2 := hR ▸ run_worst x _ _
            have hwl := worstN_le ys2
            have hl7 := gd2.len7
            have hRm : ∀ i ∈ R, i < m2 := fun i hi => open_lt gd2.sl (run_mem askBest x _ _ i (hR ▸ hi))
            try simp (disch := first | omega | (simp; done) | fail) [wrap64c, if_pos, if_neg, opAnd, opOr, opXor, opDiff, opShr, opBit, ntv, csv, ntw, csw, hbig, ntsv1, cssv1, gs, c1, eW, eA1, hw0, eB, hge1, hge2, eI, eO, hw1', e1, e5, e6, e7, e8, e12, e20, e21, e22, e23, hlt, ntsv2, cssv2, gt, ntu1, csu1, lnu1, ntu2, csu2, lnu2, ntu3, csu3, lnu3, ntu4, csu4, lnu4, d1, eR, lnR, gtR]
            refine WD_loopC [28, 29, 30, 290, 291] (fun m tm h' => ∃ j, m = R.length - j ∧ g6 = h' ∧ tm 38 = .int .i64 ((tellP x (R.take j) 0 : Nat) : Int) ∧ tm 39 = .int .i64 ((tellQ x (R.take j) 0 : Nat) : Int) ∧ tm 292 = .int .i64 (j : Int) ∧ (j ≤ R.length)) _ ⟨0, rfl, rfl, (by simp [tellP]), (by simp [tellQ]), (by simp (disch := first | omega | (simp; done) | fail) [wrap64c, if_pos, if_neg, opAnd, opOr, opXor, opDiff, opShr, opBit, ntv, csv, ntw, csw, hbig, ntsv1, cssv1, gs, c1, eW, eA1, hw0, eB, hge1, hge2, eI, eO, hw1', e1, e5, e6, e7, e8, e12, e20, e21, e22, e23, hlt, ntsv2, cssv2, gt, ntu1, csu1, lnu1, ntu2, csu2, lnu2, ntu3, csu3, lnu3, ntu4, csu4, lnu4, d1, eR, lnR, gtR]), (by first | omega | assumption | (simp (disch := first | omega | (simp; done) | fail) [wrap64c, if_pos, if_neg, opAnd, opOr, opXor, opDiff, opShr, opBit, ntv, csv, ntw, csw, hbig, ntsv1, cssv1, gs, c1, eW, eA1, hw0, eB, hge1, hge2, eI, eO, hw1', e1, e5, e6, e7, e8, e12, e20, e21, e22, e23, hlt, ntsv2, cssv2, gt, ntu1, csu1, lnu1, ntu2, csu2, lnu2, ntu3, csu3, lnu3, ntu4, csu4, lnu4, d1, eR, lnR, gtR] <;> omega))⟩ ?_
            rintro m tm h' hFr ⟨j, rfl, rfl, e38, e39, e292, hj⟩
            simp only [FrameL] at hFr
            obtain ⟨f28_3, f29_3, f30_3, f290_3, f291_3, -⟩ := hFr
            try simp (disch := first | omega | (simp; done) | fail) [wrap64c, if_pos, if_neg, opAnd, opOr, opXor, opDiff, opShr, opBit, ntv, csv, ntw, csw, hbig, ntsv1, cssv1, gs, c1, eW, eA1, hw0, eB, hge1, hge2, eI, eO, hw1', e1, e5, e6, e7, e8, e12, e20, e21, e22, e23, hlt, ntsv2, cssv2, gt, ntu1, csu1, lnu1, ntu2, csu2, lnu2, ntu3, csu3, lnu3, ntu4, csu4, lnu4, d1, eR, lnR, gtR] at f28_3 f29_3 f30_3 f290_3 f291_3
            have e28 := f28_3
            have e29 := f29_3
            have e30 := f30_3
            have e290 := f290_3
            have e291 := f291_3
            have tpl : tellP x (R.take j) 0 < bit m2 := tellP_lt fun i hi => hRm i (List.mem_of_mem_take hi)
            have tql : tellQ x (R.take j) 0 < bit m2 := tellQ_lt fun i hi => hRm i (List.mem_of_mem_take hi)
            by_cases hlt : j < R.length
            · have hij := hRm _ (List.getElem_mem hlt)
              have hbj := bit7 (i := R[j]) (by omega)
              have tx := shrMod x R[j]
              have sP := tellP_snoc x R[j] (R.take j) 0
              have sQ := tellQ_snoc x R[j] (R.take j) 0
              rw [← List.take_succ_eq_append_getElem hlt] at sP sQ
              have hsx := nShr_le x R[j]
              obtain ⟨o_q, i_q, c_q, cs_q, own_q, ex_q, es_q, q_q, b_q, g_q, l_q, r_q⟩ := hu1.open ((by simp; omega))
              have z_q : ∀ h2 : i_q < cs_q.length, cs_q[i_q] = _ := fun h2 => r_q 0 ((by simp; omega)) h2
              cases xb : x.testBit R[j]
              · rw [xb] at tx sP sQ
                have tx := tx
                try simp (disch := first | omega | (simp; done) | fail) [wrap64c, if_pos, if_neg, opAnd, opOr, opXor, opDiff, opShr, opBit, ntv, csv, ntw, csw, hbig, ntsv1, cssv1, gs, c1, eW, eA1, hw0, eB, hge1, hge2, eI, eO, hw1', e1, e5, e6, e7, e8, e12, e20, e21, e22, e23, hlt, ntsv2, cssv2, gt, ntu1, csu1, lnu1, ntu2, csu2, lnu2, ntu3, csu3, lnu3, ntu4, csu4, lnu4, d1, eR, lnR, gtR, e28, e29, e30, e38, e39, e290, e291, e292, q_q, g_q, l_q, r_q, z_q, tx]
                refine loopK_next _ ?hm ?hf ⟨j + 1, rfl, rfl, (by rw [sP]; simp [e38]), (by rw [sQ]; simp), (by simp (disch := first | omega | (simp; done) | fail) [wrap64c, if_pos, if_neg, opAnd, opOr, opXor, opDiff, opShr, opBit, ntv, csv, ntw, csw, hbig, ntsv1, cssv1, gs, c1, eW, eA1, hw0, eB, hge1, hge2, eI, eO, hw1', e1, e5, e6, e7, e8, e12, e20, e21, e22, e23, hlt, ntsv2, cssv2, gt, ntu1, csu1, lnu1, ntu2, csu2, lnu2, ntu3, csu3, lnu3, ntu4, csu4, lnu4, d1, eR, lnR, gtR, e28, e29, e30, e38, e39, e290, e291, e292, q_q, g_q, l_q, r_q, z_q, tx] <;> omega), (by first | omega | assumption | (simp (disch := first | omega | (simp; done) | fail) [wrap64c, if_pos, if_neg, opAnd, opOr, opXor, opDiff, opShr, opBit, ntv, csv, ntw, csw, hbig, ntsv1, cssv1, gs, c1, eW, eA1, hw0, eB, hge1, hge2, eI, eO, hw1', e1, e5, e6, e7, e8, e12, e20, e21, e22, e23, hlt, ntsv2, cssv2, gt, ntu1, csu1, lnu1, ntu2, csu2, lnu2, ntu3, csu3, lnu3, ntu4, csu4, lnu4, d1, eR, lnR, gtR, e28, e29, e30, e38, e39, e290, e291, e292, q_q, g_q, l_q, r_q, z_q, tx] <;> omega))⟩
                (case hm => first | omega | (simp; omega))
                (case hf => simp [FrameL, ntv, csv, ntw, csw, hbig, ntsv1, cssv1, gs, c1, eW, eA1, hw0, eB, hge1, hge2, eI, eO, hw1', e1, e5, e6, e7, e8, e12, e20, e21, e22, e23, hlt, ntsv2, cssv2, gt, ntu1, csu1, lnu1, ntu2, csu2, lnu2, ntu3, csu3, lnu3, ntu4, csu4, lnu4, d1, eR, lnR, gtR, e28, e29, e30, e38, e39, e290, e291, e292, q_q, g_q, l_q, r_q, z_q, tx, f28_3, f29_3, f30_3, f290_3, f291_3])
              · rw [xb] at tx sP sQ
                have tx := tx
                try simp (disch := first | omega | (simp; done) | fail) [wrap64c, if_pos, if_neg, opAnd, opOr, opXor, opDiff, opShr, opBit, ntv, csv, ntw, csw, hbig, ntsv1, cssv1, gs, c1, eW, eA1, hw0, eB, hge1, hge2, eI, eO, hw1', e1, e5, e6, e7, e8, e12, e20, e21, e22, e23, hlt, ntsv2, cssv2, gt, ntu1, csu1, lnu1, ntu2, csu2, lnu2, ntu3, csu3, lnu3, ntu4, csu4, lnu4, d1, eR, lnR, gtR, e28, e29, e30, e38, e39, e290, e291, e292, q_q, g_q, l_q, r_q, z_q, tx]
                refine loopK_next _ ?hm ?hf ⟨j + 1, rfl, rfl, (by rw [sP]; simp), (by rw [sQ]; simp [e39]), (by simp (disch := first | omega | (simp; done) | fail) [wrap64c, if_pos, if_neg, opAnd, opOr, opXor, opDiff, opShr, opBit, ntv, csv, ntw, csw, hbig, ntsv1, cssv1, gs, c1, eW, eA1, hw0, eB, hge1, hge2, eI, eO, hw1', e1, e5, e6, e7, e8, e12, e20, e21, e22, e23, hlt, ntsv2, cssv2, gt, ntu1, csu1, lnu1, ntu2, csu2, lnu2, ntu3, csu3, lnu3, ntu4, csu4, lnu4, d1, eR, lnR, gtR, e28, e29, e30, e38, e39, e290, e291, e292, q_q, g_q, l_q, r_q, z_q, tx] <;> omega), (by first | omega | assumption | (simp (disch := first | omega | (simp; done) | fail) [wrap64c, if_pos, if_neg, opAnd, opOr, opXor, opDiff, opShr, opBit, ntv, csv, ntw, csw, hbig, ntsv1, cssv1, gs, c1, eW, eA1, hw0, eB, hge1, hge2, eI, eO, hw1', e1, e5, e6, e7, e8, e12, e20, e21, e22, e23, hlt, ntsv2, cssv2, gt, ntu1, csu1, lnu1, ntu2, csu2, lnu2, ntu3, csu3, lnu3, ntu4, csu4, lnu4, d1, eR, lnR, gtR, e28, e29, e30, e38, e39, e290, e291, e292, q_q, g_q, l_q, r_q, z_q, tx] <;> omega))⟩
                (case hm => first | omega | (simp; omega))
                (case hf => simp [FrameL, ntv, csv, ntw, csw, hbig, ntsv1, cssv1, gs, c1, eW, eA1, hw0, eB, hge1, hge2, eI, eO, hw1', e1, e5, e6, e7, e8, e12, e20, e21, e22, e23, hlt, ntsv2, cssv2, gt, ntu1, csu1, lnu1, ntu2, csu2, lnu2, ntu3, csu3, lnu3, ntu4, csu4, lnu4, d1, eR, lnR, gtR, e28, e29, e30, e38, e39, e290, e291, e292, q_q, g_q, l_q, r_q, z_q, tx, f28_3, f29_3, f30_3, f290_3, f291_3])
            · have hft : R.take j = R := List.take_of_length_le (by omega)
              rw [hft] at e38 e39 tpl tql
              have e38' := e38
              have e39' := e39
              have ans := ansB_of gd2 tpl tql (tell_apart x R)
              have pOK : prfOK (m2 : Int) (toN ys2) (x : Int) ((tellP x R 0 : Nat) : Int) ((tellQ x R 0 : Nat) : Int) = true := by simp [prfOK, d1, ans]
              have pB : prfB (m2 : Int) (toN ys2) (x : Int) ((tellP x R 0 : Nat) : Int) ((tellQ x R 0 : Nat) : Int) = true := by simp [prfB, pOK]; rw [hR]; exact run_proof gd2 hx
              have q1 := implIsProof_ok g6 _ (m2 : Int) (toN ys2) (x : Int) ((tellP x R 0 : Nat) : Int) ((tellQ x R 0 : Nat) : Int) hD lY39
              rw [pOK, pB] at q1
              obtain ⟨w1, w2⟩ := go_none gd2
              have q2 := implWorstQ_ok g6 _ (m2 : Int) (toN ys2) 0 0 hD lY39
              rw [w1, w2] at q2
              have hng : ¬ ((worstN ys2 : Nat) : Int) < ((R.length : Nat) : Int) := by omega
              try simp (disch := first | omega | (simp; done) | fail) [wrap64c, if_pos, if_neg, opAnd, opOr, opXor, opDiff, opShr, opBit, ntv, csv, ntw, csw, hbig, ntsv1, cssv1, gs, c1, eW, eA1, hw0, eB, hge1, hge2, eI, eO, hw1', e1, e5, e6, e7, e8, e12, e20, e21, e22, e23, hlt, ntsv2, cssv2, gt, ntu1, csu1, lnu1, ntu2, csu2, lnu2, ntu3, csu3, lnu3, ntu4, csu4, lnu4, d1, eR, lnR, gtR, e28, e29, e30, e38, e39, e290, e291, e292, e38', e39', hng]
              refine callG_c (by simp) (by simp) ?ha (q1) ?_
              (case ha => simp (disch := first | omega | (simp; done) | fail) [wrap64c, if_pos, if_neg, opAnd, opOr, opXor, opDiff, opShr, opBit, ntv, csv, ntw, csw, hbig, ntsv1, cssv1, gs, c1, eW, eA1, hw0, eB, hge1, hge2, eI, eO, hw1', e1, e5, e6, e7, e8, e12, e20, e21, e22, e23, hlt, ntsv2, cssv2, gt, ntu1, csu1, lnu1, ntu2, csu2, lnu2, ntu3, csu3, lnu3, ntu4, csu4, lnu4, d1, eR, lnR, gtR, e28, e29, e30, e38, e39, e290, e291, e292, e38', e39', hng])
              try simp (disch := first | omega | (simp; done) | fail) [wrap64c, if_pos, if_neg, opAnd, opOr, opXor, opDiff, opShr, opBit, ntv, csv, ntw, csw, hbig, ntsv1, cssv1, gs, c1, eW, eA1, hw0, eB, hge1, hge2, eI, eO, hw1', e1, e5, e6, e7, e8, e12, e20, e21, e22, e23, hlt, ntsv2, cssv2, gt, ntu1, csu1, lnu1, ntu2, csu2, lnu2, ntu3, csu3, lnu3, ntu4, csu4, lnu4, d1, eR, lnR, gtR, e28, e29, e30, e38, e39, e290, e291, e292, e38', e39', hng]
              refine callG_c (by simp) (by simp) ?ha (q2) ?_
              (case ha => simp (disch := first | omega | (simp; done) | fail) [wrap64c, if_pos, if_neg, opAnd, opOr, opXor, opDiff, opShr, opBit, ntv, csv, ntw, csw, hbig, ntsv1, cssv1, gs, c1, eW, eA1, hw0, eB, hge1, hge2, eI, eO, hw1', e1, e5, e6, e7, e8, e12, e20, e21, e22, e23, hlt, ntsv2, cssv2, gt, ntu1, csu1, lnu1, ntu2, csu2, lnu2, ntu3, csu3, lnu3, ntu4, csu4, lnu4, d1, eR, lnR, gtR, e28, e29, e30, e38, e39, e290, e291, e292, e38', e39', hng])
              try simp (disch := first | omega | (simp; done) | fail) [wrap64c, if_pos, if_neg, opAnd, opOr, opXor, opDiff, opShr, opBit, ntv, csv, ntw, csw, hbig, ntsv1, cssv1, gs, c1, eW, eA1, hw0, eB, hge1, hge2, eI, eO, hw1', e1, e5, e6, e7, e8, e12, e20, e21, e22, e23, hlt, ntsv2, cssv2, gt, ntu1, csu1, lnu1, ntu2, csu2, lnu2, ntu3, csu3, lnu3, ntu4, csu4, lnu4, d1, eR, lnR, gtR, e28, e29, e30, e38, e39, e290, e291, e292, e38', e39', hng]
              exact done_ret rfl (by simp [K6])
      · have hw1' : ((p1 : Int) != (wn : Int) - 1) = true := by simp [hw1]
        have hw2' : ((p2 : Int) != (wn : Int) - 1) = false := by simp; omega
        try simp (disch := first | omega | (simp; done) | fail) [wrap64c, if_pos, if_neg, opAnd, opOr, opXor, opDiff, opShr, opBit, ntv, csv, ntw, csw, hbig, ntsv1, cssv1, gs, c1, eW, eA1, hw0, eB, hge1, hge2, eI, eO, hw1', hw2']
        refine callG_c (by simp) (by simp) ?ha (implKnown_ok h2 _ (n : Int) (toN fs) (a : Int) (b : Int) hC lX') ?_
        (case ha => simp (disch := first | omega | (simp; done) | fail) [wrap64c, if_pos, if_neg, opAnd, opOr, opXor, opDiff, opShr, opBit, ntv, csv, ntw, csw, hbig, ntsv1, cssv1, gs, c1, eW, eA1, hw0, eB, hge1, hge2, eI, eO, hw1', hw2'])
        try simp (disch := first | omega | (simp; done) | fail) [wrap64c, if_pos, if_neg, opAnd, opOr, opXor, opDiff, opShr, opBit, ntv, csv, ntw, csw, hbig, ntsv1, cssv1, gs, c1, eW, eA1, hw0, eB, hge1, hge2, eI, eO, hw1', hw2']
        refine WD_loopC [1, 5, 6, 7, 8, 12, 20, 21, 22] (fun m tm h' => ∃ j, m = n - j ∧ h2 = h' ∧ tm 23 = .int .i64 (j : Int) ∧ (j ≤ n)) _ ⟨0, rfl, rfl, (by simp (disch := first | omega | (simp; done) | fail) [wrap64c, if_pos, if_neg, opAnd, opOr, opXor, opDiff, opShr, opBit, ntv, csv, ntw, csw, hbig, ntsv1, cssv1, gs, c1, eW, eA1, hw0, eB, hge1, hge2, eI, eO, hw1', hw2']), (by first | omega | assumption | (simp (disch := first | omega | (simp; done) | fail) [wrap64c, if_pos, if_neg, opAnd, opOr, opXor, opDiff, opShr, opBit, ntv, csv, ntw, csw, hbig, ntsv1, cssv1, gs, c1, eW, eA1, hw0, eB, hge1, hge2, eI, eO, hw1', hw2'] <;> omega))⟩ ?_
        rintro m tm h' hFr ⟨j, rfl, rfl, e23, hj⟩
        simp only [FrameL] at hFr
        obtain ⟨f1_4, f5_4, f6_4, f7_4, f8_4, f12_4, f20_4, f21_4, f22_4, -⟩ := hFr
        try simp (disch := first | omega | (simp; done) | fail) [wrap64c, if_pos, if_neg, opAnd, opOr, opXor, opDiff, opShr, opBit, ntv, csv, ntw, csw, hbig, ntsv1, cssv1, gs, c1, eW, eA1, hw0, eB, hge1, hge2, eI, eO, hw1', hw2'] at f1_4 f5_4 f6_4 f7_4 f8_4 f12_4 f20_4 f21_4 f22_4
        have e1 := f1_4
        have e5 := f5_4
        have e6 := f6_4
        have e7 := f7_4
        have e8 := f8_4
        have e12 := f12_4
        have e20 := f20_4
        have e21 := f21_4
        have e22 := f22_4
        by_cases hlt : j < n
        · have hbj := bit7 (i := j) (by omega)
          have tx := shrMod (nOr iN oN) j
          have hkn := known_open hne hlt
          rw [← hiN, ← hoN] at hkn
          rw [hkn] at tx
          have hor : nShr (nOr iN oN) j ≤ nOr iN oN := nShr_le _ _
          cases hopj : opB L j
          · rw [hopj] at tx
            have tx := tx
            try simp (disch := first | omega | (simp; done) | fail) [wrap64c, if_pos, if_neg, opAnd, opOr, opXor, opDiff, opShr, opBit, ntv, csv, ntw, csw, hbig, ntsv1, cssv1, gs, c1, eW, eA1, hw0, eB, hge1, hge2, eI, eO, hw1', hw2', e1, e5, e6, e7, e8, e12, e20, e21, e22, e23, hlt, tx]
            refine loopK_next _ ?hm ?hf ⟨j + 1, rfl, rfl, (by simp (disch := first | omega | (simp; done) | fail) [wrap64c, if_pos, if_neg, opAnd, opOr, opXor, opDiff, opShr, opBit, ntv, csv, ntw, csw, hbig, ntsv1, cssv1, gs, c1, eW, eA1, hw0, eB, hge1, hge2, eI, eO, hw1', hw2', e1, e5, e6, e7, e8, e12, e20, e21, e22, e23, hlt, tx] <;> omega), (by first | omega | assumption | (simp (disch := first | omega | (simp; done) | fail) [wrap64c, if_pos, if_neg, opAnd, opOr, opXor, opDiff, opShr, opBit, ntv, csv, ntw, csw, hbig, ntsv1, cssv1, gs, c1, eW, eA1, hw0, eB, hge1, hge2, eI, eO, hw1', hw2', e1, e5, e6, e7, e8, e12, e20, e21, e22, e23, hlt, tx] <;> omega))⟩
            (case hm => first | omega | (simp; omega))
            (case hf => simp [FrameL, ntv, csv, ntw, csw, hbig, ntsv1, cssv1, gs, c1, eW, eA1, hw0, eB, hge1, hge2, eI, eO, hw1', hw2', e1, e5, e6, e7, e8, e12, e20, e21, e22, e23, hlt, tx, f1_4, f5_4, f6_4, f7_4, f8_4, f12_4, f20_4, f21_4, f22_4])
          · rw [hopj] at tx
            have tx := tx
            have hmj : j ∈ openN L := mem_openK.2 ⟨by omega, hopj⟩
            have hle := worst_le_ask hmj
            have hbj2 := hbef j hmj
            obtain ⟨⟨y1, y2⟩, y3, y4⟩ := worst_with gd hal hbl hab hlt (hLe ▸ hopj)
            rw [← hLe] at y2 y4
            obtain ⟨r1, hr1⟩ : ∃ q, q = worstN (hasL L j) := ⟨_, rfl⟩
            obtain ⟨r2, hr2⟩ : ∃ q, q = worstN (lacksL L j) := ⟨_, rfl⟩
            have hr1l := worstN_le (hasL L j)
            have hr2l := worstN_le (lacksL L j)
            have hlen2 := has_len hopj
            rw [← hr1] at y2 hr1l
            rw [← hr2] at y4 hr2l
            unfold askN at hle hbj2
            rw [← hr1, ← hr2, ← hwn] at hle hbj2
            have rW := implWorstQ_ok h2 _ (n : Int) (toN fs) ((nOr a (bit j) : Nat) : Int) (b : Int) hC lX'
            rw [y1, y2] at rW
            have rV := implWorstQ_ok h2 _ (n : Int) (toN fs) (a : Int) ((nOr b (bit j) : Nat) : Int) hC lX'
            rw [y3, y4] at rV
            try simp (disch := first | omega | (simp; done) | fail) [wrap64c, if_pos, if_neg, opAnd, opOr, opXor, opDiff, opShr, opBit, ntv, csv, ntw, csw, hbig, ntsv1, cssv1, gs, c1, eW, eA1, hw0, eB, hge1, hge2, eI, eO, hw1', hw2', e1, e5, e6, e7, e8, e12, e20, e21, e22, e23, hlt, tx]
            refine WD_chainC rfl (by kernel_rfl) (by kernel_rfl) ?_
            try simp (disch := first | omega | (simp; done) | fail) [wrap64c, if_pos, if_neg, opAnd, opOr, opXor, opDiff, opShr, opBit, ntv, csv, ntw, csw, hbig, ntsv1, cssv1, gs, c1, eW, eA1, hw0, eB, hge1, hge2, eI, eO, hw1', hw2', e1, e5, e6, e7, e8, e12, e20, e21, e22, e23, hlt, tx]
            refine callG_c (by simp) (by simp) ?ha (rW) ?_
            (case ha => simp (disch := first | omega | (simp; done) | fail) [wrap64c, if_pos, if_neg, opAnd, opOr, opXor, opDiff, opShr, opBit, ntv, csv, ntw, csw, hbig, ntsv1, cssv1, gs, c1, eW, eA1, hw0, eB, hge1, hge2, eI, eO, hw1', hw2', e1, e5, e6, e7, e8, e12, e20, e21, e22, e23, hlt, tx])
            try simp (disch := first | omega | (simp; done) | fail) [wrap64c, if_pos, if_neg, opAnd, opOr, opXor, opDiff, opShr, opBit, ntv, csv, ntw, csw, hbig, ntsv1, cssv1, gs, c1, eW, eA1, hw0, eB, hge1, hge2, eI, eO, hw1', hw2', e1, e5, e6, e7, e8, e12, e20, e21, e22, e23, hlt, tx]
            refine WD_chainC rfl (by kernel_rfl) (by kernel_rfl) ?_
            try simp (disch := first | omega | (simp; done) | fail) [wrap64c, if_pos, if_neg, opAnd, opOr, opXor, opDiff, opShr, opBit, ntv, csv, ntw, csw, hbig, ntsv1, cssv1, gs, c1, eW, eA1, hw0, eB, hge1, hge2, eI, eO, hw1', hw2', e1, e5, e6, e7, e8, e12, e20, e21, e22, e23, hlt, tx]
            refine callG_c (by simp) (by simp) ?ha (rV) ?_
            (case ha => simp (disch := first | omega | (simp; done) | fail) [wrap64c, if_pos, if_neg, opAnd, opOr, opXor, opDiff, opShr, opBit, ntv, csv, ntw, csw, hbig, ntsv1, cssv1, gs, c1, eW, eA1, hw0, eB, hge1, hge2, eI, eO, hw1', hw2', e1, e5, e6, e7, e8, e12, e20, e21, e22, e23, hlt, tx])
            have hcase : ∃ c1 c2 : Bool, (c1 = true ↔ (r1 : Int) < (wn : Int) - 1) ∧ (c2 = true ↔ (j : Int) < (it : Int)) := ⟨decide ((r1 : Int) < (wn : Int) - 1), decide ((j : Int) < (it : Int)), by simp, by simp⟩
            by_cases s1 : (r1 : Int) < (wn : Int) - 1
            · have s2 : ¬ (r2 : Int) < (wn : Int) - 1 := by omega
              by_cases s3 : (j : Int) < (it : Int)
              · have s5 := hbj2 (by omega)
                by_cases s4 : (r1 : Int) < (wn : Int)
                · have s6 : ¬ (r2 : Int) < (wn : Int) := by omega
                  try simp (disch := first | omega | (simp; done) | fail) [wrap64c, if_pos, if_neg, opAnd, opOr, opXor, opDiff, opShr, opBit, ntv, csv, ntw, csw, hbig, ntsv1, cssv1, gs, c1, eW, eA1, hw0, eB, hge1, hge2, eI, eO, hw1', hw2', e1, e5, e6, e7, e8, e12, e20, e21, e22, e23, hlt, tx, s1, s2, s3, s4, s6]
                  refine loopK_next _ ?hm ?hf ⟨j + 1, rfl, rfl, (by simp (disch := first | omega | (simp; done) | fail) [wrap64c, if_pos, if_neg, opAnd, opOr, opXor, opDiff, opShr, opBit, ntv, csv, ntw, csw, hbig, ntsv1, cssv1, gs, c1, eW, eA1, hw0, eB, hge1, hge2, eI, eO, hw1', hw2', e1, e5, e6, e7, e8, e12, e20, e21, e22, e23, hlt, tx, s1, s2, s3, s4, s6] <;> omega), (by first | omega | assumption | (simp (disch := first | omega | (simp; done) | fail) [wrap64c, if_pos, if_neg, opAnd, opOr, opXor, opDiff, opShr, opBit, ntv, csv, ntw, csw, hbig, ntsv1, cssv1, gs, c1, eW, eA1, hw0, eB, hge1, hge2, eI, eO, hw1', hw2', e1, e5, e6, e7, e8, e12, e20, e21, e22, e23, hlt, tx, s1, s2, s3, s4, s6] <;> omega))⟩
                  (case hm => first | omega | (simp; omega))
                  (case hf => simp [FrameL, ntv, csv, ntw, csw, hbig, ntsv1, cssv1, gs, c1, eW, eA1, hw0, eB, hge1, hge2, eI, eO, hw1', hw2', e1, e5, e6, e7, e8, e12, e20, e21, e22, e23, hlt, tx, s1, s2, s3, s4, s6, f1_4, f5_4, f6_4, f7_4, f8_4, f12_4, f20_4, f21_4, f22_4])
                · try simp (disch := first | omega | (simp; done) | fail) [wrap64c, if_pos, if_neg, opAnd, opOr, opXor, opDiff, opShr, opBit, ntv, csv, ntw, csw, hbig, ntsv1, cssv1, gs, c1, eW, eA1, hw0, eB, hge1, hge2, eI, eO, hw1', hw2', e1, e5, e6, e7, e8, e12, e20, e21, e22, e23, hlt, tx, s1, s2, s3, s4]
                  refine loopK_next _ ?hm ?hf ⟨j + 1, rfl, rfl, (by simp (disch := first | omega | (simp; done) | fail) [wrap64c, if_pos, if_neg, opAnd, opOr, opXor, opDiff, opShr, opBit, ntv, csv, ntw, csw, hbig, ntsv1, cssv1, gs, c1, eW, eA1, hw0, eB, hge1, hge2, eI, eO, hw1', hw2', e1, e5, e6, e7, e8, e12, e20, e21, e22, e23, hlt, tx, s1, s2, s3, s4] <;> omega), (by first | omega | assumption | (simp (disch := first | omega | (simp; done) | fail) [wrap64c, if_pos, if_neg, opAnd, opOr, opXor, opDiff, opShr, opBit, ntv, csv, ntw, csw, hbig, ntsv1, cssv1, gs, c1, eW, eA1, hw0, eB, hge1, hge2, eI, eO, hw1', hw2', e1, e5, e6, e7, e8, e12, e20, e21, e22, e23, hlt, tx, s1, s2, s3, s4] <;> omega))⟩
                  (case hm => first | omega | (simp; omega))
                  (case hf => simp [FrameL, ntv, csv, ntw, csw, hbig, ntsv1, cssv1, gs, c1, eW, eA1, hw0, eB, hge1, hge2, eI, eO, hw1', hw2', e1, e5, e6, e7, e8, e12, e20, e21, e22, e23, hlt, tx, s1, s2, s3, s4, f1_4, f5_4, f6_4, f7_4, f8_4, f12_4, f20_4, f21_4, f22_4])
              · try simp (disch := first | omega | (simp; done) | fail) [wrap64c, if_pos, if_neg, opAnd, opOr, opXor, opDiff, opShr, opBit, ntv, csv, ntw, csw, hbig, ntsv1, cssv1, gs, c1, eW, eA1, hw0, eB, hge1, hge2, eI, eO, hw1', hw2', e1, e5, e6, e7, e8, e12, e20, e21, e22, e23, hlt, tx, s1, s2, s3]
                refine loopK_next _ ?hm ?hf ⟨j + 1, rfl, rfl, (by simp (disch := first | omega | (simp; done) | fail) [wrap64c, if_pos, if_neg, opAnd, opOr, opXor, opDiff, opShr, opBit, ntv, csv, ntw, csw, hbig, ntsv1, cssv1, gs, c1, eW, eA1, hw0, eB, hge1, hge2, eI, eO, hw1', hw2', e1, e5, e6, e7, e8, e12, e20, e21, e22, e23, hlt, tx, s1, s2, s3] <;> omega), (by first | omega | assumption | (simp (disch := first | omega | (simp; done) | fail) [wrap64c, if_pos, if_neg, opAnd, opOr, opXor, opDiff, opShr, opBit, ntv, csv, ntw, csw, hbig, ntsv1, cssv1, gs, c1, eW, eA1, hw0, eB, hge1, hge2, eI, eO, hw1', hw2', e1, e5, e6, e7, e8, e12, e20, e21, e22, e23, hlt, tx, s1, s2, s3] <;> omega))⟩
                (case hm => first | omega | (simp; omega))
                (case hf => simp [FrameL, ntv, csv, ntw, csw, hbig, ntsv1, cssv1, gs, c1, eW, eA1, hw0, eB, hge1, hge2, eI, eO, hw1', hw2', e1, e5, e6, e7, e8, e12, e20, e21, e22, e23, hlt, tx, s1, s2, s3, f1_4, f5_4, f6_4, f7_4, f8_4, f12_4, f20_4, f21_4, f22_4])
            · by_cases s3 : (j : Int) < (it : Int)
              · have s5 := hbj2 (by omega)
                by_cases s4 : (r1 : Int) < (wn : Int)
                · have s6 : ¬ (r2 : Int) < (wn : Int) := by omega
                  try simp (disch := first | omega | (simp; done) | fail) [wrap64c, if_pos, if_neg, opAnd, opOr, opXor, opDiff, opShr, opBit, ntv, csv, ntw, csw, hbig, ntsv1, cssv1, gs, c1, eW, eA1, hw0, eB, hge1, hge2, eI, eO, hw1', hw2', e1, e5, e6, e7, e8, e12, e20, e21, e22, e23, hlt, tx, s1, s3, s4, s6]
                  refine loopK_next _ ?hm ?hf ⟨j + 1, rfl, rfl, (by simp (disch := first | omega | (simp; done) | fail) [wrap64c, if_pos, if_neg, opAnd, opOr, opXor, opDiff, opShr, opBit, ntv, csv, ntw, csw, hbig, ntsv1, cssv1, gs, c1, eW, eA1, hw0, eB, hge1, hge2, eI, eO, hw1', hw2', e1, e5, e6, e7, e8, e12, e20, e21, e22, e23, hlt, tx, s1, s3, s4, s6] <;> omega), (by first | omega | assumption | (simp (disch := first | omega | (simp; done) | fail) [wrap64c, if_pos, if_neg, opAnd, opOr, opXor, opDiff, opShr, opBit, ntv, csv, ntw, csw, hbig, ntsv1, cssv1, gs, c1, eW, eA1, hw0, eB, hge1, hge2, eI, eO, hw1', hw2', e1, e5, e6, e7, e8, e12, e20, e21, e22, e23, hlt, tx, s1, s3, s4, s6] <;> omega))⟩
                  (case hm => first | omega | (simp; omega))
                  (case hf => simp [FrameL, ntv, csv, ntw, csw, hbig, ntsv1, cssv1, gs, c1, eW, eA1, hw0, eB, hge1, hge2, eI, eO, hw1', hw2', e1, e5, e6, e7, e8, e12, e20, e21, e22, e23, hlt, tx, s1, s3, s4, s6, f1_4, f5_4, f6_4, f7_4, f8_4, f12_4, f20_4, f21_4, f22_4])
                · try simp (disch := first | omega | (simp; done) | fail) [wrap64c, if_pos, if_neg, opAnd, opOr, opXor, opDiff, opShr, opBit, ntv, csv, ntw, csw, hbig, ntsv1, cssv1, gs, c1, eW, eA1, hw0, eB, hge1, hge2, eI, eO, hw1', hw2', e1, e5, e6, e7, e8, e12, e20, e21, e22, e23, hlt, tx, s1, s3, s4]
                  refine loopK_next _ ?hm ?hf ⟨j + 1, rfl, rfl, (by simp (disch := first | omega | (simp; done) | fail) [wrap64c, if_pos, if_neg, opAnd, opOr, opXor, opDiff, opShr, opBit, ntv, csv, ntw, csw, hbig, ntsv1, cssv1, gs, c1, eW, eA1, hw0, eB, hge1, hge2, eI, eO, hw1', hw2', e1, e5, e6, e7, e8, e12, e20, e21, e22, e23, hlt, tx, s1, s3, s4] <;> omega), (by first | omega | assumption | (simp (disch := first | omega | (simp; done) | fail) [wrap64c, if_pos, if_neg, opAnd, opOr, opXor, opDiff, opShr, opBit, ntv, csv, ntw, csw, hbig, ntsv1, cssv1, gs, c1, eW, eA1, hw0, eB, hge1, hge2, eI, eO, hw1', hw2', e1, e5, e6, e7, e8, e12, e20, e21, e22, e23, hlt, tx, s1, s3, s4] <;> omega))⟩
                  (case hm => first | omega | (simp; omega))
                  (case hf => simp [FrameL, ntv, csv, ntw, csw, hbig, ntsv1, cssv1, gs, c1, eW, eA1, hw0, eB, hge1, hge2, eI, eO, hw1', hw2', e1, e5, e6, e7, e8, e12, e20, e21, e22, e23, hlt, tx, s1, s3, s4, f1_4, f5_4, f6_4, f7_4, f8_4, f12_4, f20_4, f21_4, f22_4])
              · try simp (disch := first | omega | (simp; done) | fail) [wrap64c, if_pos, if_neg, opAnd, opOr, opXor, opDiff, opShr, opBit, ntv, csv, ntw, csw, hbig, ntsv1, cssv1, gs, c1, eW, eA1, hw0, eB, hge1, hge2, eI, eO, hw1', hw2', e1, e5, e6, e7, e8, e12, e20, e21, e22, e23, hlt, tx, s1, s3]
                refine loopK_next _ ?hm ?hf ⟨j + 1, rfl, rfl, (by simp (disch := first | omega | (simp; done) | fail) [wrap64c, if_pos, if_neg, opAnd, opOr, opXor, opDiff, opShr, opBit, ntv, csv, ntw, csw, hbig, ntsv1, cssv1, gs, c1, eW, eA1, hw0, eB, hge1, hge2, eI, eO, hw1', hw2', e1, e5, e6, e7, e8, e12, e20, e21, e22, e23, hlt, tx, s1, s3] <;> omega), (by first | omega | assumption | (simp (disch := first | omega | (simp; done) | fail) [wrap64c, if_pos, if_neg, opAnd, opOr, opXor, opDiff, opShr, opBit, ntv, csv, ntw, csw, hbig, ntsv1, cssv1, gs, c1, eW, eA1, hw0, eB, hge1, hge2, eI, eO, hw1', hw2', e1, e5, e6, e7, e8, e12, e20, e21, e22, e23, hlt, tx, s1, s3] <;> omega))⟩
                (case hm => first | omega | (simp; omega))
                (case hf => simp [FrameL, ntv, csv, ntw, csw, hbig, ntsv1, cssv1, gs, c1, eW, eA1, hw0, eB, hge1, hge2, eI, eO, hw1', hw2', e1, e5, e6, e7, e8, e12, e20, e21, e22, e23, hlt, tx, s1, s3, f1_4, f5_4, f6_4, f7_4, f8_4, f12_4, f20_4, f21_4, f22_4])
        · try simp (disch := first | omega | (simp; done) | fail) [wrap64c, if_pos, if_neg, opAnd, opOr, opXor, opDiff, opShr, opBit, ntv, csv, ntw, csw, hbig, ntsv1, cssv1, gs, c1, eW, eA1, hw0, eB, hge1, hge2, eI, eO, hw1', hw2', e1, e5, e6, e7, e8, e12, e20, e21, e22, e23, hlt]
          obtain ⟨g0, hg0⟩ : ∃ x, x = h2 := ⟨_, rfl⟩
          have K0 := K2
          rw [← hg0] at K0
          have hv := hv
          have hw := hw
          rw [← hg0] at hv
          rw [← hg0] at hw
          try rw [← hg0]
          obtain ⟨_, g1, p1, a1, s2, G, Y, t, rfl, hD, lY⟩ := drawAskRun_ok g0 w ys (bytes_old hw)
          refine callG_c (by simp) (by simp) ?ha (p1) ?_
          (case ha => simp (disch := first | omega | (simp; done) | fail) [wrap64c, if_pos, if_neg, opAnd, opOr, opXor, opDiff, opShr, opBit, ntv, csv, ntw, csw, hbig, ntsv1, cssv1, gs, c1, eW, eA1, hw0, eB, hge1, hge2, eI, eO, hw1', hw2', e1, e5, e6, e7, e8, e12, e20, e21, e22, e23, hlt])
          have n1 := a1.1.1
          have K1 := K0.trans a1.1
          have hv := hv.keep a1.1
          have hw := hw.keep a1.1
          obtain ⟨sv2, rfl, hsv2⟩ := hD
          have hsv2 := hsv2.ints
          have ntsv2 := hsv2.nt
          have cssv2 := hsv2.cs
          have hD : Space g1 (.agg #[.int .i64 G, sv2]) G Y := .mk hsv2
          try simp (disch := first | omega | (simp; done) | fail) [wrap64c, if_pos, if_neg, opAnd, opOr, opXor, opDiff, opShr, opBit, ntv, csv, ntw, csw, hbig, ntsv1, cssv1, gs, c1, eW, eA1, hw0, eB, hge1, hge2, eI, eO, hw1', hw2', e1, e5, e6, e7, e8, e12, e20, e21, e22, e23, hlt, ntsv2, cssv2, putCells]
          first | refine WY_heap fun g2 q_g2 => ?_ | refine callG_heap fun g2 q_g2 => ?_ | refine callP_heap fun g2 q_g2 => ?_ | refine callS_heap fun g2 q_g2 => ?_ | refine RY_heap fun g2 q_g2 => ?_ | refine PY_heap fun g2 q_g2 => ?_ | refine SY_heap fun g2 q_g2 => ?_ | refine doneY_heap fun g2 q_g2 => ?_ | refine loopK_heap fun g2 q_g2 => ?_ | refine thenY_heap fun g2 q_g2 => ?_ | refine thenM_heap fun g2 q_g2 => ?_
          have b2 : Adds g1 g2 := by rw [q_g2]; exact (by first | exact aK | exact kK)
          have n2 := b2.1.1
          have K2 := K1.trans b2.1
          have hv := hv.keep b2.1
          have hw := hw.keep b2.1
          have hD := hD.keep b2.1
          have m2 : g2.next = g1.next + 1 := by simp [q_g2]
          have gt : g2.get g1.next = .cells [.int .i64 G, sv2] true true 1 := by simp [q_g2]
          have lY' : Y.length < 2 ^ 40 := by omega
          have lY39 : Y.length < 2 ^ 39 := by omega
          obtain ⟨_, g3, p3, a3, u1, rfl, hu1⟩ := implAsk_ok g2 _ G Y t hD lY'
          refine callG_c (by simp) (by simp) ?ha (p3) ?_
          (case ha => simp (disch := first | omega | (simp; done) | fail) [wrap64c, if_pos, if_neg, opAnd, opOr, opXor, opDiff, opShr, opBit, ntv, csv, ntw, csw, hbig, ntsv1, cssv1, gs, c1, eW, eA1, hw0, eB, hge1, hge2, eI, eO, hw1', hw2', e1, e5, e6, e7, e8, e12, e20, e21, e22, e23, hlt, ntsv2, cssv2, gt])
          have n3 := a3.1.1
          have K3 := K2.trans a3.1
          have gt : g3.get g1.next = .cells [.int .i64 G, sv2] true true 1 := by rw [a3.1.2 _ (by omega)]; exact gt
          have hv := hv.keep a3.1
          have hw := hw.keep a3.1
          have hD := hD.keep a3.1
          have hu1 := hu1.ints
          have ntu1 := hu1.nt
          have csu1 := hu1.cs
          have lnu1 := hu1.lenD
          try simp (disch := first | omega | (simp; done) | fail) [wrap64c, if_pos, if_neg, opAnd, opOr, opXor, opDiff, opShr, opBit, ntv, csv, ntw, csw, hbig, ntsv1, cssv1, gs, c1, eW, eA1, hw0, eB, hge1, hge2, eI, eO, hw1', hw2', e1, e5, e6, e7, e8, e12, e20, e21, e22, e23, hlt, ntsv2, cssv2, gt, ntu1, csu1, lnu1]
          obtain ⟨_, g4, p4, a4, u2, rfl, hu2⟩ := specAsk_ok g3 _ G Y t hD lY'
          refine callG_c (by simp) (by simp) ?ha (p4) ?_
          (case ha => simp (disch := first | omega | (simp; done) | fail) [wrap64c, if_pos, if_neg, opAnd, opOr, opXor, opDiff, opShr, opBit, ntv, csv, ntw, csw, hbig, ntsv1, cssv1, gs, c1, eW, eA1, hw0, eB, hge1, hge2, eI, eO, hw1', hw2', e1, e5, e6, e7, e8, e12, e20, e21, e22, e23, hlt, ntsv2, cssv2, gt, ntu1, csu1, lnu1])
          have n4 := a4.1.1
          have K4 := K3.trans a4.1
          have gt : g4.get g1.next = .cells [.int .i64 G, sv2] true true 1 := by rw [a4.1.2 _ (by omega)]; exact gt
          have hv := hv.keep a4.1
          have hw := hw.keep a4.1
          have hD := hD.keep a4.1
          have hu1 := hu1.keep a4.1
          have hu2 := hu2.ints
          have ntu2 := hu2.nt
          have csu2 := hu2.cs
          have lnu2 := hu2.lenD
          try simp (disch := first | omega | (simp; done) | fail) [wrap64c, if_pos, if_neg, opAnd, opOr, opXor, opDiff, opShr, opBit, ntv, csv, ntw, csw, hbig, ntsv1, cssv1, gs, c1, eW, eA1, hw0, eB, hge1, hge2, eI, eO, hw1', hw2', e1, e5, e6, e7, e8, e12, e20, e21, e22, e23, hlt, ntsv2, cssv2, gt, ntu1, csu1, lnu1, ntu2, csu2, lnu2]
          obtain ⟨_, g5, p5, a5, u3, rfl, hu3⟩ := implHalf_ok g4 _ G Y t hD lY'
          refine callG_c (by simp) (by simp) ?ha (p5) ?_
          (case ha => simp (disch := first | omega | (simp; done) | fail) [wrap64c, if_pos, if_neg, opAnd, opOr, opXor, opDiff, opShr, opBit, ntv, csv, ntw, csw, hbig, ntsv1, cssv1, gs, c1, eW, eA1, hw0, eB, hge1, hge2, eI, eO, hw1', hw2', e1, e5, e6, e7, e8, e12, e20, e21, e22, e23, hlt, ntsv2, cssv2, gt, ntu1, csu1, lnu1, ntu2, csu2, lnu2])
          have n5 := a5.1.1
          have K5 := K4.trans a5.1
          have gt : g5.get g1.next = .cells [.int .i64 G, sv2] true true 1 := by rw [a5.1.2 _ (by omega)]; exact gt
          have hv := hv.keep a5.1
          have hw := hw.keep a5.1
          have hD := hD.keep a5.1
          have hu1 := hu1.keep a5.1
          have hu2 := hu2.keep a5.1
          have hu3 := hu3.ints
          have ntu3 := hu3.nt
          have csu3 := hu3.cs
          have lnu3 := hu3.lenD
          try simp (disch := first | omega | (simp; done) | fail) [wrap64c, if_pos, if_neg, opAnd, opOr, opXor, opDiff, opShr, opBit, ntv, csv, ntw, csw, hbig, ntsv1, cssv1, gs, c1, eW, eA1, hw0, eB, hge1, hge2, eI, eO, hw1', hw2', e1, e5, e6, e7, e8, e12, e20, e21, e22, e23, hlt, ntsv2, cssv2, gt, ntu1, csu1, lnu1, ntu2, csu2, lnu2, ntu3, csu3, lnu3]
          obtain ⟨_, g6, p6, a6, u4, rfl, hu4⟩ := specHalf_ok g5 _ G Y t hD lY'
          refine callG_c (by simp) (by simp) ?ha (p6) ?_
          (case ha => simp (disch := first | omega | (simp; done) | fail) [wrap64c, if_pos, if_neg, opAnd, opOr, opXor, opDiff, opShr, opBit, ntv, csv, ntw, csw, hbig, ntsv1, cssv1, gs, c1, eW, eA1, hw0, eB, hge1, hge2, eI, eO, hw1', hw2', e1, e5, e6, e7, e8, e12, e20, e21, e22, e23, hlt, ntsv2, cssv2, gt, ntu1, csu1, lnu1, ntu2, csu2, lnu2, ntu3, csu3, lnu3])
          have n6 := a6.1.1
          have K6 := K5.trans a6.1
          have gt : g6.get g1.next = .cells [.int .i64 G, sv2] true true 1 := by rw [a6.1.2 _ (by omega)]; exact gt
          have hv := hv.keep a6.1
          have hw := hw.keep a6.1
          have hD := hD.keep a6.1
          have hu1 := hu1.keep a6.1
          have hu2 := hu2.keep a6.1
          have hu3 := hu3.keep a6.1
          have hu4 := hu4.ints
          have ntu4 := hu4.nt
          have csu4 := hu4.cs
          have lnu4 := hu4.lenD
          try simp (disch := first | omega | (simp; done) | fail) [wrap64c, if_pos, if_neg, opAnd, opOr, opXor, opDiff, opShr, opBit, ntv, csv, ntw, csw, hbig, ntsv1, cssv1, gs, c1, eW, eA1, hw0, eB, hge1, hge2, eI, eO, hw1', hw2', e1, e5, e6, e7, e8, e12, e20, e21, e22, e23, hlt, ntsv2, cssv2, gt, ntu1, csu1, lnu1, ntu2, csu2, lnu2, ntu3, csu3, lnu3, ntu4, csu4, lnu4]
          refine callG_c (by simp) (by simp) ?ha (jSame_ok g6 _ _ _ _ hu1 hu2) ?_
          (case ha => simp (disch := first | omega | (simp; done) | fail) [wrap64c, if_pos, if_neg, opAnd, opOr, opXor, opDiff, opShr, opBit, ntv, csv, ntw, csw, hbig, ntsv1, cssv1, gs, c1, eW, eA1, hw0, eB, hge1, hge2, eI, eO, hw1', hw2', e1, e5, e6, e7, e8, e12, e20, e21, e22, e23, hlt, ntsv2, cssv2, gt, ntu1, csu1, lnu1, ntu2, csu2, lnu2, ntu3, csu3, lnu3, ntu4, csu4, lnu4])
          try simp (disch := first | omega | (simp; done) | fail) [wrap64c, if_pos, if_neg, opAnd, opOr, opXor, opDiff, opShr, opBit, ntv, csv, ntw, csw, hbig, ntsv1, cssv1, gs, c1, eW, eA1, hw0, eB, hge1, hge2, eI, eO, hw1', hw2', e1, e5, e6, e7, e8, e12, e20, e21, e22, e23, hlt, ntsv2, cssv2, gt, ntu1, csu1, lnu1, ntu2, csu2, lnu2, ntu3, csu3, lnu3, ntu4, csu4, lnu4]
          refine callG_c (by simp) (by simp) ?ha (jSame_ok g6 _ _ _ _ hu3 hu4) ?_
          (case ha => simp (disch := first | omega | (simp; done) | fail) [wrap64c, if_pos, if_neg, opAnd, opOr, opXor, opDiff, opShr, opBit, ntv, csv, ntw, csw, hbig, ntsv1, cssv1, gs, c1, eW, eA1, hw0, eB, hge1, hge2, eI, eO, hw1', hw2', e1, e5, e6, e7, e8, e12, e20, e21, e22, e23, hlt, ntsv2, cssv2, gt, ntu1, csu1, lnu1, ntu2, csu2, lnu2, ntu3, csu3, lnu3, ntu4, csu4, lnu4])
          cases d1 : oneB G Y t
          · try simp (disch := first | omega | (simp; done) | fail) [wrap64c, if_pos, if_neg, opAnd, opOr, opXor, opDiff, opShr, opBit, ntv, csv, ntw, csw, hbig, ntsv1, cssv1, gs, c1, eW, eA1, hw0, eB, hge1, hge2, eI, eO, hw1', hw2', e1, e5, e6, e7, e8, e12, e20, e21, e22, e23, hlt, ntsv2, cssv2, gt, ntu1, csu1, lnu1, ntu2, csu2, lnu2, ntu3, csu3, lnu3, ntu4, csu4, lnu4, d1]
            exact done_ret rfl (by simp [K6])
          · obtain ⟨m2, ys2, x, eG, eY, ex, gd2, hx⟩ := oneB_true d1
            subst eG eY ex
            have n27 := gd2.n7
            have hb2 := bit7 n27
            have xlt := gd2.lt x hx
            have x128 : x < 128 := by omega
            obtain ⟨R, hR⟩ : ∃ R, R = runF bestN x ys2.length ys2 := ⟨_, rfl⟩
            have eR : askR (m2 : Int) (toN ys2) (x : Int) = toN R := by rw [askR, if_pos d1, natsOf_toN, toN_length, Int.toNat_natCast, hR]
            rw [eR] at hu1
            have lnR := toN_length R
            have gtR := toN_get R
            have hRl : R.length ≤ worstN ys2 := hR ▸ run_worst x _ _
            have hwl := worstN_le ys2
            have hl7 := gd2.len7
            have hRm : ∀ i ∈ R, i < m2 := fun i hi => open_lt gd2.sl (run_mem askBest x _ _ i (hR ▸ hi))
            try simp (disch := first | omega | (simp; done) | fail) [wrap64c, if_pos, if_neg, opAnd, opOr, opXor, opDiff, opShr, opBit, ntv, csv, ntw, csw, hbig, ntsv1, cssv1, gs, c1, eW, eA1, hw0, eB, hge1, hge2, eI, eO, hw1', hw2', e1, e5, e6, e7, e8, e12, e20, e21, e22, e23, hlt, ntsv2, cssv2, gt, ntu1, csu1, lnu1, ntu2, csu2, lnu2, ntu3, csu3, lnu3, ntu4, csu4, lnu4, d1, eR, lnR, gtR]
            refine WD_loopC [28, 29, 30, 290, 291] (fun m tm h' => ∃ j, m = R.length - j ∧ g6 = h' ∧ tm 38 = .int .i64 ((tellP x (R.take j) 0 : Nat) : Int) ∧ tm 39 = .int .i64 ((tellQ x (R.take j) 0 : Nat) : Int) ∧ tm 292 = .int .i64 (j : Int) ∧ (j ≤ R.length)) _ ⟨0, rfl, rfl, (by simp [tellP]), (by simp [tellQ]), (by simp (disch := first | omega | (simp; done) | fail) [wrap64c, if_pos, if_neg, opAnd, opOr, opXor, opDiff, opShr, opBit, ntv, csv, ntw, csw, hbig, ntsv1, cssv1, gs, c1, eW, eA1, hw0, eB, hge1, hge2, eI, eO, hw1', hw2', e1, e5, e6, e7, e8, e12, e20, e21, e22, e23, hlt, ntsv2, cssv2, gt, ntu1, csu1, lnu1, ntu2, csu2, lnu2, ntu3, csu3, lnu3, ntu4, csu4, lnu4, d1, eR, lnR, gtR]), (by first | omega | assumption | (simp (disch := first | omega | (simp; done) | fail) [wrap64c, if_pos, if_neg, opAnd, opOr, opXor, opDiff, opShr, opBit, ntv, csv, ntw, csw, hbig, ntsv1, cssv1, gs, c1, eW, eA1, hw0, eB, hge1, hge2, eI, eO, hw1', hw2', e1, e5, e6, e7, e8, e12, e20, e21, e22, e23, hlt, ntsv2, cssv2, gt, ntu1, csu1, lnu1, ntu2, csu2, lnu2, ntu3, csu3, lnu3, ntu4, csu4, lnu4, d1, eR, lnR, gtR] <;> omega))⟩ ?_
            rintro m tm h' hFr ⟨j, rfl, rfl, e38, e39, e292, hj⟩
            simp only [FrameL] at hFr
            obtain ⟨f28_5, f29_5, f30_5, f290_5, f291_5, -⟩ := hFr
            try simp (disch := first | omega | (simp; done) | fail) [wrap64c, if_pos, if_neg, opAnd, opOr, opXor, opDiff, opShr, opBit, ntv, csv, ntw, csw, hbig, ntsv1, cssv1, gs, c1, eW, eA1, hw0, eB, hge1, hge2, eI, eO, hw1', hw2', e1, e5, e6, e7, e8, e12, e20, e21, e22, e23, hlt, ntsv2, cssv2, gt, ntu1, csu1, lnu1, ntu2, csu2, lnu2, ntu3, csu3, lnu3, ntu4, csu4, lnu4, d1, eR, lnR, gtR] at f28_5 f29_5 f30_5 f290_5 f291_5
            have e28 := f28_5
            have e29 := f29_5
            have e30 := f30_5
            have e290 := f290_5
            have e291 := f291_5
            have tpl : tellP x (R.take j) 0 < bit m2 := tellP_lt fun i hi => hRm i (List.mem_of_mem_take hi)
            have tql : tellQ x (R.take j) 0 < bit m2 := tellQ_lt fun i hi => hRm i (List.mem_of_mem_take hi)
            by_cases hlt : j < R.length
            · have hij := hRm _ (List.getElem_mem hlt)
              have hbj := bit7 (i := R[j]) (by omega)
              have tx := shrMod x R[j]
              have sP := tellP_snoc x R[j] (R.take j) 0
              have sQ := tellQ_snoc x R[j] (R.take j) 0
              rw [← List.take_succ_eq_append_getElem hlt] at sP sQ
              have hsx := nShr_le x R[j]
              obtain ⟨o_q, i_q, c_q, cs_q, own_q, ex_q, es_q, q_q, b_q, g_q, l_q, r_q⟩ := hu1.open ((by simp; omega))
              have z_q : ∀ h2 : i_q < cs_q.length, cs_q[i_q] = _ := fun h2 => r_q 0 ((by simp; omega)) h2
              cases xb : x.testBit R[j]
              · rw [xb] at tx sP sQ
                have tx := tx
                try simp (disch := first | omega | (simp; done) | fail) [wrap64c, if_pos, if_neg, opAnd, opOr, opXor, opDiff, opShr, opBit, ntv, csv, ntw, csw, hbig, ntsv1, cssv1, gs, c1, eW, eA1, hw0, eB, hge1, hge2, eI, eO, hw1', hw2', e1, e5, e6, e7, e8, e12, e20, e21, e22, e23, hlt, ntsv2, cssv2, gt, ntu1, csu1, lnu1, ntu2, csu2, lnu2, ntu3, csu3, lnu3, ntu4, csu4, lnu4, d1, eR, lnR, gtR, e28, e29, e30, e38, e39, e290, e291, e292, q_q, g_q, l_q, r_q, z_q, tx]
                refine loopK_next _ ?hm ?hf ⟨j + 1, rfl, rfl, (by rw [sP]; simp [e38]), (by rw [sQ]; simp), (by simp (disch := first | omega | (simp; done) | fail) [wrap64c, if_pos, if_neg, opAnd, opOr, opXor, opDiff, opShr, opBit, ntv, csv, ntw, csw, hbig, ntsv1, cssv1, gs, c1, eW, eA1, hw0, eB, hge1, hge2, eI, eO, hw1', hw2', e1, e5, e6, e7, e8, e12, e20, e21, e22, e23, hlt, ntsv2, cssv2, gt, ntu1, csu1, lnu1, ntu2, csu2, lnu2, ntu3, csu3, lnu3, ntu4, csu4, lnu4, d1, eR, lnR, gtR, e28, e29, e30, e38, e39, e290, e291, e292, q_q, g_q, l_q, r_q, z_q, tx] <;> omega), (by first | omega | assumption | (simp (disch := first | omega | (simp; done) | fail) [wrap64c, if_pos, if_neg, opAnd, opOr, opXor, opDiff, opShr, opBit, ntv, csv, ntw, csw, hbig, ntsv1, cssv1, gs, c1, eW, eA1, hw0, eB, hge1, hge2, eI, eO, hw1', hw2', e1, e5, e6, e7, e8, e12, e20, e21, e22, e23, hlt, ntsv2, cssv2, gt, ntu1, csu1, lnu1, ntu2, csu2, lnu2, ntu3, csu3, lnu3, ntu4, csu4, lnu4, d1, eR, lnR, gtR, e28, e29, e30, e38, e39, e290, e291, e292, q_q, g_q, l_q, r_q, z_q, tx] <;> omega))⟩
                (case hm => first | omega | (simp; omega))
                (case hf => simp [FrameL, ntv, csv, ntw, csw, hbig, ntsv1, cssv1, gs, c1, eW, eA1, hw0, eB, hge1, hge2, eI, eO, hw1', hw2', e1, e5, e6, e7, e8, e12, e20, e21, e22, e23, hlt, ntsv2, cssv2, gt, ntu1, csu1, lnu1, ntu2, csu2, lnu2, ntu3, csu3, lnu3, ntu4, csu4, lnu4, d1, eR, lnR, gtR, e28, e29, e30, e38, e39, e290, e291, e292, q_q, g_q, l_q, r_q, z_q, tx, f28_5, f29_5, f30_5, f290_5, f291_5])
              · rw [xb] at tx sP sQ
                have tx := tx
                try simp (disch := first | omega | (simp; done) | fail) [wrap64c, if_pos, if_neg, opAnd, opOr, opXor, opDiff, opShr, opBit, ntv, csv, ntw, csw, hbig, ntsv1, cssv1, gs, c1, eW, eA1, hw0, eB, hge1, hge2, eI, eO, hw1', hw2', e1, e5, e6, e7, e8, e12, e20, e21, e22, e23, hlt, ntsv2, cssv2, gt, ntu1, csu1, lnu1, ntu2, csu2, lnu2, ntu3, csu3, lnu3, ntu4, csu4, lnu4, d1, eR, lnR, gtR, e28, e29, e30, e38, e39, e290, e291, e292, q_q, g_q, l_q, r_q, z_q, tx]
                refine loopK_next _ ?hm ?hf ⟨j + 1, rfl, rfl, (by rw [sP]; simp), (by rw [sQ]; simp [e39]), (by simp (disch := first | omega | (simp; done) | fail) [wrap64c, if_pos, if_neg, opAnd, opOr, opXor, opDiff, opShr, opBit, ntv, csv, ntw, csw, hbig, ntsv1, cssv1, gs, c1, eW, eA1, hw0, eB, hge1, hge2, eI, eO, hw1', hw2', e1, e5, e6, e7, e8, e12, e20, e21, e22, e23, hlt, ntsv2, cssv2, gt, ntu1, csu1, lnu1, ntu2, csu2, lnu2, ntu3, csu3, lnu3, ntu4, csu4, lnu4, d1, eR, lnR, gtR, e28, e29, e30, e38, e39, e290, e291, e292, q_q, g_q, l_q, r_q, z_q, tx] <;> omega), (by first | omega | assumption | (simp (disch := first | omega | (simp; done) | fail) [wrap64c, if_pos, if_neg, opAnd, opOr, opXor, opDiff, opShr, opBit, ntv, csv, ntw, csw, hbig, ntsv1, cssv1, gs, c1, eW, eA1, hw0, eB, hge1, hge2, eI, eO, hw1', hw2', e1, e5, e6, e7, e8, e12, e20, e21, e22, e23, hlt, ntsv2, cssv2, gt, ntu1, csu1, lnu1, ntu2, csu2, lnu2, ntu3, csu3, lnu3, ntu4, csu4, lnu4, d1, eR, lnR, gtR, e28, e29, e30, e38, e39, e290, e291, e292, q_q, g_q, l_q, r_q, z_q, tx] <;> omega))⟩
                (case hm => first | omega | (simp; omega))
                (case hf => simp [FrameL, ntv, csv, ntw, csw, hbig, ntsv1, cssv1, gs, c1, eW, eA1, hw0, eB, hge1, hge2, eI, eO, hw1', hw2', e1, e5, e6, e7, e8, e12, e20, e21, e22, e23, hlt, ntsv2, cssv2, gt, ntu1, csu1, lnu1, ntu2, csu2, lnu2, ntu3, csu3, lnu3, ntu4, csu4, lnu4, d1, eR, lnR, gtR, e28, e29, e30, e38, e39, e290, e291, e292, q_q, g_q, l_q, r_q, z_q, tx, f28_5, f29_5, f30_5, f290_5, f291_5])
            · have hft : R.take j = R := List.take_of_length_le (by omega)
              rw [hft] at e38 e39 tpl tql
              have e38' := e38
              have e39' := e39
              have ans := ansB_of gd2 tpl tql (tell_apart x R)
              have pOK : prfOK (m2 : Int) (toN ys2) (x : Int) ((tellP x R 0 : Nat) : Int) ((tellQ x R 0 : Nat) : Int) = true := by simp [prfOK, d1, ans]
              have pB : prfB (m2 : Int) (toN ys2) (x : Int) ((tellP x R 0 : Nat) : Int) ((tellQ x R 0 : Nat) : Int) = true := by simp [prfB, pOK]; rw [hR]; exact run_proof gd2 hx
              have q1 := implIsProof_ok g6 _ (m2 : Int) (toN ys2) (x : Int) ((tellP x R 0 : Nat) : Int) ((tellQ x R 0 : Nat) : Int) hD lY39
              rw [pOK, pB] at q1
              obtain ⟨w1, w2⟩ := go_none gd2
              have q2 := implWorstQ_ok g6 _ (m2 : Int) (toN ys2) 0 0 hD lY39
              rw [w1, w2] at q2
              have hng : ¬ ((worstN ys2 : Nat) : Int) < ((R.length : Nat) : Int) := by omega
              try simp (disch := first | omega | (simp; done) | fail) [wrap64c, if_pos, if_neg, opAnd, opOr, opXor, opDiff, opShr, opBit, ntv, csv, ntw, csw, hbig, ntsv1, cssv1, gs, c1, eW, eA1, hw0, eB, hge1, hge2, eI, eO, hw1', hw2', e1, e5, e6, e7, e8, e12, e20, e21, e22, e23, hlt, ntsv2, cssv2, gt, ntu1, csu1, lnu1, ntu2, csu2, lnu2, ntu3, csu3, lnu3, ntu4, csu4, lnu4, d1, eR, lnR, gtR, e28, e29, e30, e38, e39, e290, e291, e292, e38', e39', hng]
              refine callG_c (by simp) (by simp) ?ha (q1) ?_
              (case ha => simp (disch := first | omega | (simp; done) | fail) [wrap64c, if_pos, if_neg, opAnd, opOr, opXor, opDiff, opShr, opBit, ntv, csv, ntw, csw, hbig, ntsv1, cssv1, gs, c1, eW, eA1, hw0, eB, hge1, hge2, eI, eO, hw1', hw2', e1, e5, e6, e7, e8, e12, e20, e21, e22, e23, hlt, ntsv2, cssv2, gt, ntu1, csu1, lnu1, ntu2, csu2, lnu2, ntu3, csu3, lnu3, ntu4, csu4, lnu4, d1, eR, lnR, gtR, e28, e29, e30, e38, e39, e290, e291, e292, e38', e39', hng])
              try simp (disch := first | omega | (simp; done) | fail) [wrap64c, if_pos, if_neg, opAnd, opOr, opXor, opDiff, opShr, opBit, ntv, csv, ntw, csw, hbig, ntsv1, cssv1, gs, c1, eW, eA1, hw0, eB, hge1, hge2, eI, eO, hw1', hw2', e1, e5, e6, e7, e8, e12, e20, e21, e22, e23, hlt, ntsv2, cssv2, gt, ntu1, csu1, lnu1, ntu2, csu2, lnu2, ntu3, csu3, lnu3, ntu4, csu4, lnu4, d1, eR, lnR, gtR, e28, e29, e30, e38, e39, e290, e291, e292, e38', e39', hng]
              refine callG_c (by simp) (by simp) ?ha (q2) ?_
              (case ha => simp (disch := first | omega | (simp; done) | fail) [wrap64c, if_pos, if_neg, opAnd, opOr, opXor, opDiff, opShr, opBit, ntv, csv, ntw, csw, hbig, ntsv1, cssv1, gs, c1, eW, eA1, hw0, eB, hge1, hge2, eI, eO, hw1', hw2', e1, e5, e6, e7, e8, e12, e20, e21, e22, e23, hlt, ntsv2, cssv2, gt, ntu1, csu1, lnu1, ntu2, csu2, lnu2, ntu3, csu3, lnu3, ntu4, csu4, lnu4, d1, eR, lnR, gtR, e28, e29, e30, e38, e39, e290, e291, e292, e38', e39', hng])
              try simp (disch := first | omega | (simp; done) | fail) [wrap64c, if_pos, if_neg, opAnd, opOr, opXor, opDiff, opShr, opBit, ntv, csv, ntw, csw, hbig, ntsv1, cssv1, gs, c1, eW, eA1, hw0, eB, hge1, hge2, eI, eO, hw1', hw2', e1, e5, e6, e7, e8, e12, e20, e21, e22, e23, hlt, ntsv2, cssv2, gt, ntu1, csu1, lnu1, ntu2, csu2, lnu2, ntu3, csu3, lnu3, ntu4, csu4, lnu4, d1, eR, lnR, gtR, e28, e29, e30, e38, e39, e290, e291, e292, e38', e39', hng]
              exact done_ret rfl (by simp [K6])
end Go.Proofs.Ytnncipcldbopgaa
namespace Go.Proofs.Ytnncipcldbopgaa
set_option linter.unusedSimpArgs false
set_option linter.unusedVariables false
open Go Go.Eng Go.ChangeShapes Go.WideShapes Go.ChangeAt Go.RowKit Go.Joins
set_option maxRecDepth 100000 in
theorem bestQuestions_lifted (os : Os) (started : os.Started) (H : Type) (enc : TypeId × Value → H) :
    ReturnsInHanded {} Try.checked os 5 .any (Rows.fnBestQuestionsSpec.pre6 enc Try.prog Try.f5 Rows.fnBestQuestionsRow.domain false) (Rows.fnBestQuestionsSpec.post enc Try.prog Try.f5 false true false false) := by
  refine returnsInHanded_of_change (C := Try.checked) own started (by kernel_rfl) Try.func5
    (ChangeSpec.witness6 (enc := enc) (C := Try.checked) false ⟨#[], #[.slice none 0 0, .slice none 0 0], []⟩ 8 (by kernel_rfl) (by kernel_rfl) (by kernel_rfl) (by kernel_rfl)) ?_
  intro W base args ds gs before hval0 hW hcnd _
  have hval : ∀ (j : Nat) t v, Try.f5.params[j]? = some t → args[j]? = some v → Value.okWide Try.prog W .any base t v := hval0
  have hW' := hW
  obtain ⟨p, q, hA0, hV, rfl, hfz, hnd⟩ := hW
  have hA : DataW.TrodAll enc Try.prog W 0 (fun _ => true) true Try.f5.params.toList args.toList ds p := hA0
  rw [Try.params5] at hA hval
  obtain ⟨v0, v1, d0, d1, p0, p1, rfl, rfl, rfl, h0, h1⟩ := trodAll_two hA
  obtain ⟨rfl, rfl⟩ := trodVars_none hV
  simp only [List.append_nil] at hW'
  have lt0 : ∀ x ∈ p0, x.block < W.heap.size := by obtain ⟨m, hm⟩ := h0; exact DataW.trod_lt m _ _ _ hm
  have lt1 : ∀ x ∈ p1, x.block < W.heap.size := by obtain ⟨m, hm⟩ := h1; exact DataW.trod_lt m _ _ _ hm
  obtain ⟨E0, hh0, a0, X0, st0, m0, hva0, hc0⟩ := lay_bytes (hval 0 22 v0 rfl rfl) h0 (start0 W)
  obtain ⟨E1, hh1, a1, X1, st1, m1, hva1, hc1⟩ := lay_bytes (hval 1 22 v1 rfl rfl) h1 st0
  replace hva0 := m1.vrel _ _ hva0
  replace hc0 := hc0.keep m1.keep
  refine (law_calls (args := #[a0, a1]) (args' := #[v0, v1]) st1 rfl (fun i hi => ?_) (lawBestQuestions_ok hh1 a0 X0 hc0 a1 X1 hc1) rfl).mono fun e W' ⟨he, bel⟩ => ?_
  · have : i = 0 ∨ i = 1 := by simp at hi; omega
    rcases this with rfl | rfl
    · exact hva0
    · exact hva1
  · subst he
    exact ⟨_, rfl, _, _, _, [], _, [], hW', trodAll_mk1 (shut_bool Try.underlying4 _), trodAll_mk2 (Below.trod laidOut (by kernel_rfl) (of_decide_eq_true (by kernel_rfl)) h0 bel lt0) (Below.trod laidOut (by kernel_rfl) (of_decide_eq_true (by kernel_rfl)) h1 bel lt1), rfl, bel.frame _, fun h => by cases h⟩
theorem bestQuestions_holds : Rows.FnBestQuestionsSaid :=
  OpenClaim.holds_of_wide 5 Try.f5 rfl rfl rfl rfl rfl rfl rfl ⟨rfl, rfl, rfl, rfl, rfl⟩ rfl rfl rfl rfl rfl (by kernel_rfl) Try.func5 (by kernel_rfl)
    (of_decide_eq_true (by kernel_rfl)) (by unfold Func.isWrapper; first | (rw [if_pos (by decide +kernel)]; kernel_rfl) | (rw [if_neg (by decide +kernel)]; exact ⟨rfl, rfl⟩))
    (fun os started H enc _ => bestQuestions_lifted os started H enc)
end Go.Proofs.Ytnncipcldbopgaa
