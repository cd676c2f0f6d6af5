/- Part 6 of the proof of answersLeave_holds: what it uses of the texts that lie in the notes, merged. -/
import Derived.Test.YtnncipcldbopgaaQa5
namespace Go.Proofs.Ytnncipcldbopgaa
set_option linter.unusedSimpArgs false
set_option linter.unusedVariables false
set_option maxHeartbeats 4000000
set_option maxRecDepth 20000
open Go Go.Eng
attribute [local irreducible] WD RunD PreD Runs CallOK
theorem lawAnswersLeave_ok (h0 : Hp) (v : Value) (xs : List Int) (hv : Bytes h0 v xs) (w : Value) (ys : List Int) (hw : Bytes h0 w ys) : CallOK Try.prog 6 #[v, w] h0 (.bool true) h0 := by
  have ntv := hv.nt
  have csv := hv.cs
  have ntw := hw.nt
  have csw := hw.cs
  refine callY_P 405 _ [.tmp 4] Try.func6 rfl rfl rfl (by first | rfl | simp) ?_
  try simp (disch := first | omega | (simp; done) | fail) [wrap64c, if_pos, if_neg, opAnd, opOr, opXor, opDiff, opShr, opBit, ntv, csv, ntw, csw]
  refine callG_c (by simp) (by simp) ?ha (big_ok h0 _ _ _ _ hv hw) ?_
  (case ha => simp (disch := first | omega | (simp; done) | fail) [wrap64c, if_pos, if_neg, opAnd, opOr, opXor, opDiff, opShr, opBit, ntv, csv, ntw, csw])
  by_cases hbig : 1048576 < xs.length ∨ 1048576 - (xs.length : Int) < ys.length
  case pos =>
    try simp (disch := first | omega | (simp; done) | fail) [wrap64c, if_pos, if_neg, opAnd, opOr, opXor, opDiff, opShr, opBit, ntv, csv, ntw, csw, hbig]
    exact done_ret rfl (by simp)
  have lxs : xs.length ≤ 1048576 := by omega
  have lys : ys.length ≤ 1048576 := by omega
  try simp (disch := first | omega | (simp; done) | fail) [wrap64c, if_pos, if_neg, opAnd, opOr, opXor, opDiff, opShr, opBit, ntv, csv, ntw, csw, hbig]
  have K0 : Keeps h0 h0 := .refl _
  obtain ⟨_, h1, p1, a1, s1, N, X, y, z, rfl, hC, lX⟩ := drawSetsLeft_ok h0 v xs (bytes_old hv)
  refine callG_c (by simp) (by simp) ?ha (p1) ?_
  (case ha => simp (disch := first | omega | (simp; done) | fail) [wrap64c, if_pos, if_neg, opAnd, opOr, opXor, opDiff, opShr, opBit, ntv, csv, ntw, csw, hbig])
  have n1 := a1.1.1
  have K1 := K0.trans a1.1
  have hv := hv.keep a1.1
  have hw := hw.keep a1.1
  obtain ⟨sv1, rfl, hsv1⟩ := hC
  have hsv1 := hsv1.ints
  have ntsv1 := hsv1.nt
  have cssv1 := hsv1.cs
  have hC : Space h1 (.agg #[.int .i64 N, sv1]) N X := .mk hsv1
  try simp (disch := first | omega | (simp; done) | fail) [wrap64c, if_pos, if_neg, opAnd, opOr, opXor, opDiff, opShr, opBit, ntv, csv, ntw, csw, hbig, ntsv1, cssv1, putCells]
  first | refine WY_heap fun h2 q_h2 => ?_ | refine callG_heap fun h2 q_h2 => ?_ | refine callP_heap fun h2 q_h2 => ?_ | refine callS_heap fun h2 q_h2 => ?_ | refine RY_heap fun h2 q_h2 => ?_ | refine PY_heap fun h2 q_h2 => ?_ | refine SY_heap fun h2 q_h2 => ?_ | refine doneY_heap fun h2 q_h2 => ?_ | refine loopK_heap fun h2 q_h2 => ?_ | refine thenY_heap fun h2 q_h2 => ?_ | refine thenM_heap fun h2 q_h2 => ?_
  have b2 : Adds h1 h2 := by rw [q_h2]; exact (by first | exact aK | exact kK)
  have n2 := b2.1.1
  have K2 := K1.trans b2.1
  have hv := hv.keep b2.1
  have hw := hw.keep b2.1
  have hC := hC.keep b2.1
  have m2 : h2.next = h1.next + 1 := by simp [q_h2]
  have gs : h2.get h1.next = .cells [.int .i64 N, sv1] true true 1 := by simp [q_h2]
  have lX' : X.length < 2 ^ 39 := by omega
  obtain ⟨_, h3, p3, a3, u1, rfl, hu1⟩ := implLeft_ok h2 _ N X y z hC lX'
  refine callG_c (by simp) (by simp) ?ha (p3) ?_
  (case ha => simp (disch := first | omega | (simp; done) | fail) [wrap64c, if_pos, if_neg, opAnd, opOr, opXor, opDiff, opShr, opBit, ntv, csv, ntw, csw, hbig, ntsv1, cssv1, gs])
  have n3 := a3.1.1
  have K3 := K2.trans a3.1
  have gs : h3.get h1.next = .cells [.int .i64 N, sv1] true true 1 := by rw [a3.1.2 _ (by omega)]; exact gs
  have hv := hv.keep a3.1
  have hw := hw.keep a3.1
  have hC := hC.keep a3.1
  have hu1 := hu1.ints
  have ntu1 := hu1.nt
  have csu1 := hu1.cs
  have lnu1 := hu1.lenD
  try simp (disch := first | omega | (simp; done) | fail) [wrap64c, if_pos, if_neg, opAnd, opOr, opXor, opDiff, opShr, opBit, ntv, csv, ntw, csw, hbig, ntsv1, cssv1, gs, ntu1, csu1, lnu1]
  obtain ⟨_, h4, p4, a4, u2, rfl, hu2⟩ := specLeft_ok h3 _ N X y z hC lX'
  refine callG_c (by simp) (by simp) ?ha (p4) ?_
  (case ha => simp (disch := first | omega | (simp; done) | fail) [wrap64c, if_pos, if_neg, opAnd, opOr, opXor, opDiff, opShr, opBit, ntv, csv, ntw, csw, hbig, ntsv1, cssv1, gs, ntu1, csu1, lnu1])
  have n4 := a4.1.1
  have K4 := K3.trans a4.1
  have gs : h4.get h1.next = .cells [.int .i64 N, sv1] true true 1 := by rw [a4.1.2 _ (by omega)]; exact gs
  have hv := hv.keep a4.1
  have hw := hw.keep a4.1
  have hC := hC.keep a4.1
  have hu1 := hu1.keep a4.1
  have hu2 := hu2.ints
  have ntu2 := hu2.nt
  have csu2 := hu2.cs
  have lnu2 := hu2.lenD
  try simp (disch := first | omega | (simp; done) | fail) [wrap64c, if_pos, if_neg, opAnd, opOr, opXor, opDiff, opShr, opBit, ntv, csv, ntw, csw, hbig, ntsv1, cssv1, gs, ntu1, csu1, lnu1, ntu2, csu2, lnu2]
  refine callG_c (by simp) (by simp) ?ha (implCountL_ok h4 _ N X y z hC lX') ?_
  (case ha => simp (disch := first | omega | (simp; done) | fail) [wrap64c, if_pos, if_neg, opAnd, opOr, opXor, opDiff, opShr, opBit, ntv, csv, ntw, csw, hbig, ntsv1, cssv1, gs, ntu1, csu1, lnu1, ntu2, csu2, lnu2])
  try simp (disch := first | omega | (simp; done) | fail) [wrap64c, if_pos, if_neg, opAnd, opOr, opXor, opDiff, opShr, opBit, ntv, csv, ntw, csw, hbig, ntsv1, cssv1, gs, ntu1, csu1, lnu1, ntu2, csu2, lnu2]
  refine callG_c (by simp) (by simp) ?ha (implKnown_ok h4 _ N X y z hC lX') ?_
  (case ha => simp (disch := first | omega | (simp; done) | fail) [wrap64c, if_pos, if_neg, opAnd, opOr, opXor, opDiff, opShr, opBit, ntv, csv, ntw, csw, hbig, ntsv1, cssv1, gs, ntu1, csu1, lnu1, ntu2, csu2, lnu2])
  try simp (disch := first | omega | (simp; done) | fail) [wrap64c, if_pos, if_neg, opAnd, opOr, opXor, opDiff, opShr, opBit, ntv, csv, ntw, csw, hbig, ntsv1, cssv1, gs, ntu1, csu1, lnu1, ntu2, csu2, lnu2]
  refine callG_c (by simp) (by simp) ?ha (specKnown_ok h4 _ N X y z hC lX') ?_
  (case ha => simp (disch := first | omega | (simp; done) | fail) [wrap64c, if_pos, if_neg, opAnd, opOr, opXor, opDiff, opShr, opBit, ntv, csv, ntw, csw, hbig, ntsv1, cssv1, gs, ntu1, csu1, lnu1, ntu2, csu2, lnu2])
  try simp (disch := first | omega | (simp; done) | fail) [wrap64c, if_pos, if_neg, opAnd, opOr, opXor, opDiff, opShr, opBit, ntv, csv, ntw, csw, hbig, ntsv1, cssv1, gs, ntu1, csu1, lnu1, ntu2, csu2, lnu2]
  refine callG_c (by simp) (by simp) ?ha (implHalfQ_ok h4 _ N X y z hC lX') ?_
  (case ha => simp (disch := first | omega | (simp; done) | fail) [wrap64c, if_pos, if_neg, opAnd, opOr, opXor, opDiff, opShr, opBit, ntv, csv, ntw, csw, hbig, ntsv1, cssv1, gs, ntu1, csu1, lnu1, ntu2, csu2, lnu2])
  try simp (disch := first | omega | (simp; done) | fail) [wrap64c, if_pos, if_neg, opAnd, opOr, opXor, opDiff, opShr, opBit, ntv, csv, ntw, csw, hbig, ntsv1, cssv1, gs, ntu1, csu1, lnu1, ntu2, csu2, lnu2]
  refine callG_c (by simp) (by simp) ?ha (specHalfQ_ok h4 _ N X y z hC lX') ?_
  (case ha => simp (disch := first | omega | (simp; done) | fail) [wrap64c, if_pos, if_neg, opAnd, opOr, opXor, opDiff, opShr, opBit, ntv, csv, ntw, csw, hbig, ntsv1, cssv1, gs, ntu1, csu1, lnu1, ntu2, csu2, lnu2])
  try simp (disch := first | omega | (simp; done) | fail) [wrap64c, if_pos, if_neg, opAnd, opOr, opXor, opDiff, opShr, opBit, ntv, csv, ntw, csw, hbig, ntsv1, cssv1, gs, ntu1, csu1, lnu1, ntu2, csu2, lnu2]
  refine callG_c (by simp) (by simp) ?ha (jSame_ok h4 _ _ _ _ hu1 hu2) ?_
  (case ha => simp (disch := first | omega | (simp; done) | fail) [wrap64c, if_pos, if_neg, opAnd, opOr, opXor, opDiff, opShr, opBit, ntv, csv, ntw, csw, hbig, ntsv1, cssv1, gs, ntu1, csu1, lnu1, ntu2, csu2, lnu2])
  try simp (disch := first | omega | (simp; done) | fail) [wrap64c, if_pos, if_neg, opAnd, opOr, opXor, opDiff, opShr, opBit, ntv, csv, ntw, csw, hbig, ntsv1, cssv1, gs, ntu1, csu1, lnu1, ntu2, csu2, lnu2]
  cases c1 : goB N X y z
  · try simp (disch := first | omega | (simp; done) | fail) [wrap64c, if_pos, if_neg, opAnd, opOr, opXor, opDiff, opShr, opBit, ntv, csv, ntw, csw, hbig, ntsv1, cssv1, gs, ntu1, csu1, lnu1, ntu2, csu2, lnu2, c1]
    obtain ⟨g0, hg0⟩ : ∃ x, x = h4 := ⟨_, rfl⟩
    have K0 := K4
    rw [← hg0] at K0
    have hv := hv
    have hw := hw
    rw [← hg0] at hv
    rw [← hg0] at hw
    try rw [← hg0]
    obtain ⟨_, g1, p1, a1, s2, G, Y, t, p, q, rfl, hD, lY⟩ := drawIsProof_ok g0 w ys (bytes_old hw)
    refine callG_c (by simp) (by simp) ?ha (p1) ?_
    (case ha => simp (disch := first | omega | (simp; done) | fail) [wrap64c, if_pos, if_neg, opAnd, opOr, opXor, opDiff, opShr, opBit, ntv, csv, ntw, csw, hbig, ntsv1, cssv1, gs, ntu1, csu1, lnu1, ntu2, csu2, lnu2, c1])
    have n1 := a1.1.1
    have K1 := K0.trans a1.1
    have hv := hv.keep a1.1
    have hw := hw.keep a1.1
    obtain ⟨sv2, rfl, hsv2⟩ := hD
    have hsv2 := hsv2.ints
    have ntsv2 := hsv2.nt
    have cssv2 := hsv2.cs
    have hD : Space g1 (.agg #[.int .i64 G, sv2]) G Y := .mk hsv2
    try simp (disch := first | omega | (simp; done) | fail) [wrap64c, if_pos, if_neg, opAnd, opOr, opXor, opDiff, opShr, opBit, ntv, csv, ntw, csw, hbig, ntsv1, cssv1, gs, ntu1, csu1, lnu1, ntu2, csu2, lnu2, c1, ntsv2, cssv2, putCells]
    first | refine WY_heap fun g2 q_g2 => ?_ | refine callG_heap fun g2 q_g2 => ?_ | refine callP_heap fun g2 q_g2 => ?_ | refine callS_heap fun g2 q_g2 => ?_ | refine RY_heap fun g2 q_g2 => ?_ | refine PY_heap fun g2 q_g2 => ?_ | refine SY_heap fun g2 q_g2 => ?_ | refine doneY_heap fun g2 q_g2 => ?_ | refine loopK_heap fun g2 q_g2 => ?_ | refine thenY_heap fun g2 q_g2 => ?_ | refine thenM_heap fun g2 q_g2 => ?_
    have b2 : Adds g1 g2 := by rw [q_g2]; exact (by first | exact aK | exact kK)
    have n2 := b2.1.1
    have K2 := K1.trans b2.1
    have hv := hv.keep b2.1
    have hw := hw.keep b2.1
    have hD := hD.keep b2.1
    have m2 : g2.next = g1.next + 1 := by simp [q_g2]
    have gt : g2.get g1.next = .cells [.int .i64 G, sv2] true true 1 := by simp [q_g2]
    have lY' : Y.length < 2 ^ 39 := by omega
    have lY40 : Y.length < 2 ^ 40 := by omega
    refine callG_c (by simp) (by simp) ?ha (implIsProof_ok g2 _ G Y t p q hD lY') ?_
    (case ha => simp (disch := first | omega | (simp; done) | fail) [wrap64c, if_pos, if_neg, opAnd, opOr, opXor, opDiff, opShr, opBit, ntv, csv, ntw, csw, hbig, ntsv1, cssv1, gs, ntu1, csu1, lnu1, ntu2, csu2, lnu2, c1, ntsv2, cssv2, gt])
    try simp (disch := first | omega | (simp; done) | fail) [wrap64c, if_pos, if_neg, opAnd, opOr, opXor, opDiff, opShr, opBit, ntv, csv, ntw, csw, hbig, ntsv1, cssv1, gs, ntu1, csu1, lnu1, ntu2, csu2, lnu2, c1, ntsv2, cssv2, gt]
    refine callG_c (by simp) (by simp) ?ha (specIsProof_ok g2 _ G Y t p q hD lY') ?_
    (case ha => simp (disch := first | omega | (simp; done) | fail) [wrap64c, if_pos, if_neg, opAnd, opOr, opXor, opDiff, opShr, opBit, ntv, csv, ntw, csw, hbig, ntsv1, cssv1, gs, ntu1, csu1, lnu1, ntu2, csu2, lnu2, c1, ntsv2, cssv2, gt])
    try simp (disch := first | omega | (simp; done) | fail) [wrap64c, if_pos, if_neg, opAnd, opOr, opXor, opDiff, opShr, opBit, ntv, csv, ntw, csw, hbig, ntsv1, cssv1, gs, ntu1, csu1, lnu1, ntu2, csu2, lnu2, c1, ntsv2, cssv2, gt]
    refine callG_c (by simp) (by simp) ?ha (implProofOf_ok g2 _ G Y t hD lY40) ?_
    (case ha => simp (disch := first | omega | (simp; done) | fail) [wrap64c, if_pos, if_neg, opAnd, opOr, opXor, opDiff, opShr, opBit, ntv, csv, ntw, csw, hbig, ntsv1, cssv1, gs, ntu1, csu1, lnu1, ntu2, csu2, lnu2, c1, ntsv2, cssv2, gt])
    try simp (disch := first | omega | (simp; done) | fail) [wrap64c, if_pos, if_neg, opAnd, opOr, opXor, opDiff, opShr, opBit, ntv, csv, ntw, csw, hbig, ntsv1, cssv1, gs, ntu1, csu1, lnu1, ntu2, csu2, lnu2, c1, ntsv2, cssv2, gt]
    refine callG_c (by simp) (by simp) ?ha (specProofOf_ok g2 _ G Y t hD lY40) ?_
    (case ha => simp (disch := first | omega | (simp; done) | fail) [wrap64c, if_pos, if_neg, opAnd, opOr, opXor, opDiff, opShr, opBit, ntv, csv, ntw, csw, hbig, ntsv1, cssv1, gs, ntu1, csu1, lnu1, ntu2, csu2, lnu2, c1, ntsv2, cssv2, gt])
    try simp (disch := first | omega | (simp; done) | fail) [wrap64c, if_pos, if_neg, opAnd, opOr, opXor, opDiff, opShr, opBit, ntv, csv, ntw, csw, hbig, ntsv1, cssv1, gs, ntu1, csu1, lnu1, ntu2, csu2, lnu2, c1, ntsv2, cssv2, gt]
    cases d1 : oneB G Y t
    · have d2 : prfOK G Y t p q = false := by simp [prfOK, d1]
      try simp (disch := first | omega | (simp; done) | fail) [wrap64c, if_pos, if_neg, opAnd, opOr, opXor, opDiff, opShr, opBit, ntv, csv, ntw, csw, hbig, ntsv1, cssv1, gs, ntu1, csu1, lnu1, ntu2, csu2, lnu2, c1, ntsv2, cssv2, gt, d1, d2]
      obtain ⟨f0, hf0⟩ : ∃ x, x = g2 := ⟨_, rfl⟩
      have K0 := K2
      rw [← hf0] at K0
      have hv := hv
      have hw := hw
      rw [← hf0] at hv
      rw [← hf0] at hw
      try rw [← hf0]
      obtain ⟨_, f1, p1, a1, s3, J, Z, rfl, hE, lZ⟩ := drawLongest_ok f0 w ys (bytes_old hw)
      refine callG_c (by simp) (by simp) ?ha (p1) ?_
      (case ha => simp (disch := first | omega | (simp; done) | fail) [wrap64c, if_pos, if_neg, opAnd, opOr, opXor, opDiff, opShr, opBit, ntv, csv, ntw, csw, hbig, ntsv1, cssv1, gs, ntu1, csu1, lnu1, ntu2, csu2, lnu2, c1, ntsv2, cssv2, gt, d1, d2])
      have n1 := a1.1.1
      have K1 := K0.trans a1.1
      have hv := hv.keep a1.1
      have hw := hw.keep a1.1
      obtain ⟨sv3, rfl, hsv3⟩ := hE
      have hsv3 := hsv3.ints
      have ntsv3 := hsv3.nt
      have cssv3 := hsv3.cs
      have hE : Space f1 (.agg #[.int .i64 J, sv3]) J Z := .mk hsv3
      try simp (disch := first | omega | (simp; done) | fail) [wrap64c, if_pos, if_neg, opAnd, opOr, opXor, opDiff, opShr, opBit, ntv, csv, ntw, csw, hbig, ntsv1, cssv1, gs, ntu1, csu1, lnu1, ntu2, csu2, lnu2, c1, ntsv2, cssv2, gt, d1, d2, ntsv3, cssv3, putCells]
      first | refine WY_heap fun f2 q_f2 => ?_ | refine callG_heap fun f2 q_f2 => ?_ | refine callP_heap fun f2 q_f2 => ?_ | refine callS_heap fun f2 q_f2 => ?_ | refine RY_heap fun f2 q_f2 => ?_ | refine PY_heap fun f2 q_f2 => ?_ | refine SY_heap fun f2 q_f2 => ?_ | refine doneY_heap fun f2 q_f2 => ?_ | refine loopK_heap fun f2 q_f2 => ?_ | refine thenY_heap fun f2 q_f2 => ?_ | refine thenM_heap fun f2 q_f2 => ?_
      have b2 : Adds f1 f2 := by rw [q_f2]; exact (by first | exact aK | exact kK)
      have n2 := b2.1.1
      have K2 := K1.trans b2.1
      have hv := hv.keep b2.1
      have hw := hw.keep b2.1
      have hE := hE.keep b2.1
      have m2 : f2.next = f1.next + 1 := by simp [q_f2]
      have gu : f2.get f1.next = .cells [.int .i64 J, sv3] true true 1 := by simp [q_f2]
      have lZ' : Z.length < 2 ^ 39 := by omega
      refine callG_c (by simp) (by simp) ?ha (implLongest_ok f2 _ J Z hE lZ') ?_
      (case ha => simp (disch := first | omega | (simp; done) | fail) [wrap64c, if_pos, if_neg, opAnd, opOr, opXor, opDiff, opShr, opBit, ntv, csv, ntw, csw, hbig, ntsv1, cssv1, gs, ntu1, csu1, lnu1, ntu2, csu2, lnu2, c1, ntsv2, cssv2, gt, d1, d2, ntsv3, cssv3, gu])
      try simp (disch := first | omega | (simp; done) | fail) [wrap64c, if_pos, if_neg, opAnd, opOr, opXor, opDiff, opShr, opBit, ntv, csv, ntw, csw, hbig, ntsv1, cssv1, gs, ntu1, csu1, lnu1, ntu2, csu2, lnu2, c1, ntsv2, cssv2, gt, d1, d2, ntsv3, cssv3, gu]
      refine callG_c (by simp) (by simp) ?ha (specLongest_ok f2 _ J Z hE lZ') ?_
      (case ha => simp (disch := first | omega | (simp; done) | fail) [wrap64c, if_pos, if_neg, opAnd, opOr, opXor, opDiff, opShr, opBit, ntv, csv, ntw, csw, hbig, ntsv1, cssv1, gs, ntu1, csu1, lnu1, ntu2, csu2, lnu2, c1, ntsv2, cssv2, gt, d1, d2, ntsv3, cssv3, gu])
      try simp (disch := first | omega | (simp; done) | fail) [wrap64c, if_pos, if_neg, opAnd, opOr, opXor, opDiff, opShr, opBit, ntv, csv, ntw, csw, hbig, ntsv1, cssv1, gs, ntu1, csu1, lnu1, ntu2, csu2, lnu2, c1, ntsv2, cssv2, gt, d1, d2, ntsv3, cssv3, gu]
      exact done_ret rfl (by simp [K2])
    · obtain ⟨m2, ys2, x, eG, eY, ex, gd2, hx⟩ := oneB_true d1
      subst eG eY ex
      have n27 := gd2.n7
      have hb2 := bit7 n27
      have xlt := gd2.lt x hx
      have x128 : x < 128 := by omega
      obtain ⟨iv, hiv⟩ : ∃ q, q = innerN (fam ys2) x := ⟨_, rfl⟩
      obtain ⟨ov, hov⟩ : ∃ q, q = outerN (fam ys2) m2 x := ⟨_, rfl⟩
      have ivl : iv < bit m2 := hiv ▸ innerN_le gd2 hx
      have ovl : ov < bit m2 := hov ▸ outerN_lt _ _ _
      have eI : innerR (m2 : Int) (toN ys2) (x : Int) = (iv : Int) := by simp [innerR, d1, hiv]
      have eO : outerR (m2 : Int) (toN ys2) (x : Int) = (ov : Int) := by simp [outerR, d1, hov]
      have hap : nAnd iv ov = 0 := by rw [hiv, hov]; exact fringes_apart _ _
      have pOK : prfOK (m2 : Int) (toN ys2) (x : Int) (iv : Int) (ov : Int) = true := by simp [prfOK, d1, ansB_of gd2 ivl ovl hap]
      have pB : prfB (m2 : Int) (toN ys2) (x : Int) (iv : Int) (ov : Int) = true := by simp [prfB, pOK]; rw [hiv, hov]; exact fringes_proof gd2 hx
      have q1 := implIsProof_ok g2 _ (m2 : Int) (toN ys2) (x : Int) (iv : Int) (ov : Int) hD lY'
      rw [pOK, pB] at q1
      cases d2 : prfOK (m2 : Int) (toN ys2) (x : Int) p q
      · try simp (disch := first | omega | (simp; done) | fail) [wrap64c, if_pos, if_neg, opAnd, opOr, opXor, opDiff, opShr, opBit, ntv, csv, ntw, csw, hbig, ntsv1, cssv1, gs, ntu1, csu1, lnu1, ntu2, csu2, lnu2, c1, ntsv2, cssv2, gt, d1, eI, eO, d2]
        refine callG_c (by simp) (by simp) ?ha (q1) ?_
        (case ha => simp (disch := first | omega | (simp; done) | fail) [wrap64c, if_pos, if_neg, opAnd, opOr, opXor, opDiff, opShr, opBit, ntv, csv, ntw, csw, hbig, ntsv1, cssv1, gs, ntu1, csu1, lnu1, ntu2, csu2, lnu2, c1, ntsv2, cssv2, gt, d1, eI, eO, d2])
        try simp (disch := first | omega | (simp; done) | fail) [wrap64c, if_pos, if_neg, opAnd, opOr, opXor, opDiff, opShr, opBit, ntv, csv, ntw, csw, hbig, ntsv1, cssv1, gs, ntu1, csu1, lnu1, ntu2, csu2, lnu2, c1, ntsv2, cssv2, gt, d1, eI, eO, d2]
        obtain ⟨f0, hf0⟩ : ∃ x, x = g2 := ⟨_, rfl⟩
        have K0 := K2
        rw [← hf0] at K0
        have hv := hv
        have hw := hw
        rw [← hf0] at hv
        rw [← hf0] at hw
        try rw [← hf0]
        obtain ⟨_, f1, p1, a1, s3, J, Z, rfl, hE, lZ⟩ := drawLongest_ok f0 w ys (bytes_old hw)
        refine callG_c (by simp) (by simp) ?ha (p1) ?_
        (case ha => simp (disch := first | omega | (simp; done) | fail) [wrap64c, if_pos, if_neg, opAnd, opOr, opXor, opDiff, opShr, opBit, ntv, csv, ntw, csw, hbig, ntsv1, cssv1, gs, ntu1, csu1, lnu1, ntu2, csu2, lnu2, c1, ntsv2, cssv2, gt, d1, eI, eO, d2])
        have n1 := a1.1.1
        have K1 := K0.trans a1.1
        have hv := hv.keep a1.1
        have hw := hw.keep a1.1
        obtain ⟨sv3, rfl, hsv3⟩ := hE
        have hsv3 := hsv3.ints
        have ntsv3 := hsv3.nt
        have cssv3 := hsv3.cs
        have hE : Space f1 (.agg #[.int .i64 J, sv3]) J Z := .mk hsv3
        try simp (disch := first | omega | (simp; done) | fail) [wrap64c, if_pos, if_neg, opAnd, opOr, opXor, opDiff, opShr, opBit, ntv, csv, ntw, csw, hbig, ntsv1, cssv1, gs, ntu1, csu1, lnu1, ntu2, csu2, lnu2, c1, ntsv2, cssv2, gt, d1, eI, eO, d2, ntsv3, cssv3, putCells]
        first | refine WY_heap fun f2 q_f2 => ?_ | refine callG_heap fun f2 q_f2 => ?_ | refine callP_heap fun f2 q_f2 => ?_ | refine callS_heap fun f2 q_f2 => ?_ | refine RY_heap fun f2 q_f2 => ?_ | refine PY_heap fun f2 q_f2 => ?_ | refine SY_heap fun f2 q_f2 => ?_ | refine doneY_heap fun f2 q_f2 => ?_ | refine loopK_heap fun f2 q_f2 => ?_ | refine thenY_heap fun f2 q_f2 => ?_ | refine thenM_heap fun f2 q_f2 => ?_
        have b2 : Adds f1 f2 := by rw [q_f2]; exact (by first | exact aK | exact kK)
        have n2 := b2.1.1
        have K2 := K1.trans b2.1
        have hv := hv.keep b2.1
        have hw := hw.keep b2.1
        have hE := hE.keep b2.1
        have m2 : f2.next = f1.next + 1 := by simp [q_f2]
        have gu : f2.get f1.next = .cells [.int .i64 J, sv3] true true 1 := by simp [q_f2]
        have lZ' : Z.length < 2 ^ 39 := by omega
        refine callG_c (by simp) (by simp) ?ha (implLongest_ok f2 _ J Z hE lZ') ?_
        (case ha => simp (disch := first | omega | (simp; done) | fail) [wrap64c, if_pos, if_neg, opAnd, opOr, opXor, opDiff, opShr, opBit, ntv, csv, ntw, csw, hbig, ntsv1, cssv1, gs, ntu1, csu1, lnu1, ntu2, csu2, lnu2, c1, ntsv2, cssv2, gt, d1, eI, eO, d2, ntsv3, cssv3, gu])
        try simp (disch := first | omega | (simp; done) | fail) [wrap64c, if_pos, if_neg, opAnd, opOr, opXor, opDiff, opShr, opBit, ntv, csv, ntw, csw, hbig, ntsv1, cssv1, gs, ntu1, csu1, lnu1, ntu2, csu2, lnu2, c1, ntsv2, cssv2, gt, d1, eI, eO, d2, ntsv3, cssv3, gu]
        refine callG_c (by simp) (by simp) ?ha (specLongest_ok f2 _ J Z hE lZ') ?_
        (case ha => simp (disch := first | omega | (simp; done) | fail) [wrap64c, if_pos, if_neg, opAnd, opOr, opXor, opDiff, opShr, opBit, ntv, csv, ntw, csw, hbig, ntsv1, cssv1, gs, ntu1, csu1, lnu1, ntu2, csu2, lnu2, c1, ntsv2, cssv2, gt, d1, eI, eO, d2, ntsv3, cssv3, gu])
        try simp (disch := first | omega | (simp; done) | fail) [wrap64c, if_pos, if_neg, opAnd, opOr, opXor, opDiff, opShr, opBit, ntv, csv, ntw, csw, hbig, ntsv1, cssv1, gs, ntu1, csu1, lnu1, ntu2, csu2, lnu2, c1, ntsv2, cssv2, gt, d1, eI, eO, d2, ntsv3, cssv3, gu]
        exact done_ret rfl (by simp [K2])
      · have hans : ansB (m2 : Int) (toN ys2) p q = true := by simpa [prfOK, d1] using d2
        obtain ⟨m3, ys3, a3, b3, qa1, qa2, qa3, qa4, _, la3, lb3, ab3⟩ := ansB_true hans
        have qb1 : m3 = m2 := by omega
        have qb2 := toN_inj.1 qa2
        subst qb1 qb2 qa3 qa4
        have hPB : prfB (m3 : Int) (toN ys2) (x : Int) (a3 : Int) (b3 : Int) = decide (leftN ys2 a3 b3 = [x]) := by simp [prfB, d2]
        have hiff := proof_iff gd2 hx a3 b3
        rw [← hiv, ← hov] at hiff
        have hb2b := bit7 n27
        by_cases kk0 : ndiff a3 x = 0
        case neg =>
          have hpf : prfB (m3 : Int) (toN ys2) (x : Int) (a3 : Int) (b3 : Int) = false := by rw [hPB]; exact decide_eq_false fun h => kk0 ((hiff.1 h).1)
          try simp (disch := first | omega | (simp; done) | fail) [wrap64c, if_pos, if_neg, opAnd, opOr, opXor, opDiff, opShr, opBit, ntv, csv, ntw, csw, hbig, ntsv1, cssv1, gs, ntu1, csu1, lnu1, ntu2, csu2, lnu2, c1, ntsv2, cssv2, gt, d1, eI, eO, d2, kk0, hpf]
          refine callG_c (by simp) (by simp) ?ha (q1) ?_
          (case ha => simp (disch := first | omega | (simp; done) | fail) [wrap64c, if_pos, if_neg, opAnd, opOr, opXor, opDiff, opShr, opBit, ntv, csv, ntw, csw, hbig, ntsv1, cssv1, gs, ntu1, csu1, lnu1, ntu2, csu2, lnu2, c1, ntsv2, cssv2, gt, d1, eI, eO, d2, kk0, hpf])
          try simp (disch := first | omega | (simp; done) | fail) [wrap64c, if_pos, if_neg, opAnd, opOr, opXor, opDiff, opShr, opBit, ntv, csv, ntw, csw, hbig, ntsv1, cssv1, gs, ntu1, csu1, lnu1, ntu2, csu2, lnu2, c1, ntsv2, cssv2, gt, d1, eI, eO, d2, kk0, hpf]
          obtain ⟨f0, hf0⟩ : ∃ x, x = g2 := ⟨_, rfl⟩
          have K0 := K2
          rw [← hf0] at K0
          have hv := hv
          have hw := hw
          rw [← hf0] at hv
          rw [← hf0] at hw
          try rw [← hf0]
          obtain ⟨_, f1, p1, a1, s3, J, Z, rfl, hE, lZ⟩ := drawLongest_ok f0 w ys (bytes_old hw)
          refine callG_c (by simp) (by simp) ?ha (p1) ?_
          (case ha => simp (disch := first | omega | (simp; done) | fail) [wrap64c, if_pos, if_neg, opAnd, opOr, opXor, opDiff, opShr, opBit, ntv, csv, ntw, csw, hbig, ntsv1, cssv1, gs, ntu1, csu1, lnu1, ntu2, csu2, lnu2, c1, ntsv2, cssv2, gt, d1, eI, eO, d2, kk0, hpf])
          have n1 := a1.1.1
          have K1 := K0.trans a1.1
          have hv := hv.keep a1.1
          have hw := hw.keep a1.1
          obtain ⟨sv3, rfl, hsv3⟩ := hE
          have hsv3 := hsv3.ints
          have ntsv3 := hsv3.nt
          have cssv3 := hsv3.cs
          have hE : Space f1 (.agg #[.int .i64 J, sv3]) J Z := .mk hsv3
          try simp (disch := first | omega | (simp; done) | fail) [wrap64c, if_pos, if_neg, opAnd, opOr, opXor, opDiff, opShr, opBit, ntv, csv, ntw, csw, hbig, ntsv1, cssv1, gs, ntu1, csu1, lnu1, ntu2, csu2, lnu2, c1, ntsv2, cssv2, gt, d1, eI, eO, d2, kk0, hpf, ntsv3, cssv3, putCells]
          first | refine WY_heap fun f2 q_f2 => ?_ | refine callG_heap fun f2 q_f2 => ?_ | refine callP_heap fun f2 q_f2 => ?_ | refine callS_heap fun f2 q_f2 => ?_ | refine RY_heap fun f2 q_f2 => ?_ | refine PY_heap fun f2 q_f2 => ?_ | refine SY_heap fun f2 q_f2 => ?_ | refine doneY_heap fun f2 q_f2 => ?_ | refine loopK_heap fun f2 q_f2 => ?_ | refine thenY_heap fun f2 q_f2 => ?_ | refine thenM_heap fun f2 q_f2 => ?_
          have b2 : Adds f1 f2 := by rw [q_f2]; exact (by first | exact aK | exact kK)
          have n2 := b2.1.1
          have K2 := K1.trans b2.1
          have hv := hv.keep b2.1
          have hw := hw.keep b2.1
          have hE := hE.keep b2.1
          have m2 : f2.next = f1.next + 1 := by simp [q_f2]
          have gu : f2.get f1.next = .cells [.int .i64 J, sv3] true true 1 := by simp [q_f2]
          have lZ' : Z.length < 2 ^ 39 := by omega
          refine callG_c (by simp) (by simp) ?ha (implLongest_ok f2 _ J Z hE lZ') ?_
          (case ha => simp (disch := first | omega | (simp; done) | fail) [wrap64c, if_pos, if_neg, opAnd, opOr, opXor, opDiff, opShr, opBit, ntv, csv, ntw, csw, hbig, ntsv1, cssv1, gs, ntu1, csu1, lnu1, ntu2, csu2, lnu2, c1, ntsv2, cssv2, gt, d1, eI, eO, d2, kk0, hpf, ntsv3, cssv3, gu])
          try simp (disch := first | omega | (simp; done) | fail) [wrap64c, if_pos, if_neg, opAnd, opOr, opXor, opDiff, opShr, opBit, ntv, csv, ntw, csw, hbig, ntsv1, cssv1, gs, ntu1, csu1, lnu1, ntu2, csu2, lnu2, c1, ntsv2, cssv2, gt, d1, eI, eO, d2, kk0, hpf, ntsv3, cssv3, gu]
          refine callG_c (by simp) (by simp) ?ha (specLongest_ok f2 _ J Z hE lZ') ?_
          (case ha => simp (disch := first | omega | (simp; done) | fail) [wrap64c, if_pos, if_neg, opAnd, opOr, opXor, opDiff, opShr, opBit, ntv, csv, ntw, csw, hbig, ntsv1, cssv1, gs, ntu1, csu1, lnu1, ntu2, csu2, lnu2, c1, ntsv2, cssv2, gt, d1, eI, eO, d2, kk0, hpf, ntsv3, cssv3, gu])
          try simp (disch := first | omega | (simp; done) | fail) [wrap64c, if_pos, if_neg, opAnd, opOr, opXor, opDiff, opShr, opBit, ntv, csv, ntw, csw, hbig, ntsv1, cssv1, gs, ntu1, csu1, lnu1, ntu2, csu2, lnu2, c1, ntsv2, cssv2, gt, d1, eI, eO, d2, kk0, hpf, ntsv3, cssv3, gu]
          exact done_ret rfl (by simp [K2])
        by_cases kk1 : nAnd b3 x = 0
        case neg =>
          have hpf : prfB (m3 : Int) (toN ys2) (x : Int) (a3 : Int) (b3 : Int) = false := by rw [hPB]; exact decide_eq_false fun h => kk1 ((hiff.1 h).2.1)
          try simp (disch := first | omega | (simp; done) | fail) [wrap64c, if_pos, if_neg, opAnd, opOr, opXor, opDiff, opShr, opBit, ntv, csv, ntw, csw, hbig, ntsv1, cssv1, gs, ntu1, csu1, lnu1, ntu2, csu2, lnu2, c1, ntsv2, cssv2, gt, d1, eI, eO, d2, kk0, kk1, hpf]
          refine callG_c (by simp) (by simp) ?ha (q1) ?_
          (case ha => simp (disch := first | omega | (simp; done) | fail) [wrap64c, if_pos, if_neg, opAnd, opOr, opXor, opDiff, opShr, opBit, ntv, csv, ntw, csw, hbig, ntsv1, cssv1, gs, ntu1, csu1, lnu1, ntu2, csu2, lnu2, c1, ntsv2, cssv2, gt, d1, eI, eO, d2, kk0, kk1, hpf])
          try simp (disch := first | omega | (simp; done) | fail) [wrap64c, if_pos, if_neg, opAnd, opOr, opXor, opDiff, opShr, opBit, ntv, csv, ntw, csw, hbig, ntsv1, cssv1, gs, ntu1, csu1, lnu1, ntu2, csu2, lnu2, c1, ntsv2, cssv2, gt, d1, eI, eO, d2, kk0, kk1, hpf]
          obtain ⟨f0, hf0⟩ : ∃ x, x = g2 := ⟨_, rfl⟩
          have K0 := K2
          rw [← hf0] at K0
          have hv := hv
          have hw := hw
          rw [← hf0] at hv
          rw [← hf0] at hw
          try rw [← hf0]
          obtain ⟨_, f1, p1, a1, s3, J, Z, rfl, hE, lZ⟩ := drawLongest_ok f0 w ys (bytes_old hw)
          refine callG_c (by simp) (by simp) ?ha (p1) ?_
          (case ha => simp (disch := first | omega | (simp; done) | fail) [wrap64c, if_pos, if_neg, opAnd, opOr, opXor, opDiff, opShr, opBit, ntv, csv, ntw, csw, hbig, ntsv1, cssv1, gs, ntu1, csu1, lnu1, ntu2, csu2, lnu2, c1, ntsv2, cssv2, gt, d1, eI, eO, d2, kk0, kk1, hpf])
          have n1 := a1.1.1
          have K1 := K0.trans a1.1
          have hv := hv.keep a1.1
          have hw := hw.keep a1.1
          obtain ⟨sv3, rfl, hsv3⟩ := hE
          have hsv3 := hsv3.ints
          have ntsv3 := hsv3.nt
          have cssv3 := hsv3.cs
          have hE : Space f1 (.agg #[.int .i64 J, sv3]) J Z := .mk hsv3
          try simp (disch := first | omega | (simp; done) | fail) [wrap64c, if_pos, if_neg, opAnd, opOr, opXor, opDiff, opShr, opBit, ntv, csv, ntw, csw, hbig, ntsv1, cssv1, gs, ntu1, csu1, lnu1, ntu2, csu2, lnu2, c1, ntsv2, cssv2, gt, d1, eI, eO, d2, kk0, kk1, hpf, ntsv3, cssv3, putCells]
          first | refine WY_heap fun f2 q_f2 => ?_ | refine callG_heap fun f2 q_f2 => ?_ | refine callP_heap fun f2 q_f2 => ?_ | refine callS_heap fun f2 q_f2 => ?_ | refine RY_heap fun f2 q_f2 => ?_ | refine PY_heap fun f2 q_f2 => ?_ | refine SY_heap fun f2 q_f2 => ?_ | refine doneY_heap fun f2 q_f2 => ?_ | refine loopK_heap fun f2 q_f2 => ?_ | refine thenY_heap fun f2 q_f2 => ?_ | refine thenM_heap fun f2 q_f2 => ?_
          have b2 : Adds f1 f2 := by rw [q_f2]; exact (by first | exact aK | exact kK)
          have n2 := b2.1.1
          have K2 := K1.trans b2.1
          have hv := hv.keep b2.1
          have hw := hw.keep b2.1
          have hE := hE.keep b2.1
          have m2 : f2.next = f1.next + 1 := by simp [q_f2]
          have gu : f2.get f1.next = .cells [.int .i64 J, sv3] true true 1 := by simp [q_f2]
          have lZ' : Z.length < 2 ^ 39 := by omega
          refine callG_c (by simp) (by simp) ?ha (implLongest_ok f2 _ J Z hE lZ') ?_
          (case ha => simp (disch := first | omega | (simp; done) | fail) [wrap64c, if_pos, if_neg, opAnd, opOr, opXor, opDiff, opShr, opBit, ntv, csv, ntw, csw, hbig, ntsv1, cssv1, gs, ntu1, csu1, lnu1, ntu2, csu2, lnu2, c1, ntsv2, cssv2, gt, d1, eI, eO, d2, kk0, kk1, hpf, ntsv3, cssv3, gu])
          try simp (disch := first | omega | (simp; done) | fail) [wrap64c, if_pos, if_neg, opAnd, opOr, opXor, opDiff, opShr, opBit, ntv, csv, ntw, csw, hbig, ntsv1, cssv1, gs, ntu1, csu1, lnu1, ntu2, csu2, lnu2, c1, ntsv2, cssv2, gt, d1, eI, eO, d2, kk0, kk1, hpf, ntsv3, cssv3, gu]
          refine callG_c (by simp) (by simp) ?ha (specLongest_ok f2 _ J Z hE lZ') ?_
          (case ha => simp (disch := first | omega | (simp; done) | fail) [wrap64c, if_pos, if_neg, opAnd, opOr, opXor, opDiff, opShr, opBit, ntv, csv, ntw, csw, hbig, ntsv1, cssv1, gs, ntu1, csu1, lnu1, ntu2, csu2, lnu2, c1, ntsv2, cssv2, gt, d1, eI, eO, d2, kk0, kk1, hpf, ntsv3, cssv3, gu])
          try simp (disch := first | omega | (simp; done) | fail) [wrap64c, if_pos, if_neg, opAnd, opOr, opXor, opDiff, opShr, opBit, ntv, csv, ntw, csw, hbig, ntsv1, cssv1, gs, ntu1, csu1, lnu1, ntu2, csu2, lnu2, c1, ntsv2, cssv2, gt, d1, eI, eO, d2, kk0, kk1, hpf, ntsv3, cssv3, gu]
          exact done_ret rfl (by simp [K2])
        by_cases kk2 : ndiff iv a3 = 0
        case neg =>
          have hpf : prfB (m3 : Int) (toN ys2) (x : Int) (a3 : Int) (b3 : Int) = false := by rw [hPB]; exact decide_eq_false fun h => kk2 ((hiff.1 h).2.2.1)
          try simp (disch := first | omega | (simp; done) | fail) [wrap64c, if_pos, if_neg, opAnd, opOr, opXor, opDiff, opShr, opBit, ntv, csv, ntw, csw, hbig, ntsv1, cssv1, gs, ntu1, csu1, lnu1, ntu2, csu2, lnu2, c1, ntsv2, cssv2, gt, d1, eI, eO, d2, kk0, kk1, kk2, hpf]
          refine callG_c (by simp) (by simp) ?ha (q1) ?_
          (case ha => simp (disch := first | omega | (simp; done) | fail) [wrap64c, if_pos, if_neg, opAnd, opOr, opXor, opDiff, opShr, opBit, ntv, csv, ntw, csw, hbig, ntsv1, cssv1, gs, ntu1, csu1, lnu1, ntu2, csu2, lnu2, c1, ntsv2, cssv2, gt, d1, eI, eO, d2, kk0, kk1, kk2, hpf])
          try simp (disch := first | omega | (simp; done) | fail) [wrap64c, if_pos, if_neg, opAnd, opOr, opXor, opDiff, opShr, opBit, ntv, csv, ntw, csw, hbig, ntsv1, cssv1, gs, ntu1, csu1, lnu1, ntu2, csu2, lnu2, c1, ntsv2, cssv2, gt, d1, eI, eO, d2, kk0, kk1, kk2, hpf]
          obtain ⟨f0, hf0⟩ : ∃ x, x = g2 := ⟨_, rfl⟩
          have K0 := K2
          rw [← hf0] at K0
          have hv := hv
          have hw := hw
          rw [← hf0] at hv
          rw [← hf0] at hw
          try rw [← hf0]
          obtain ⟨_, f1, p1, a1, s3, J, Z, rfl, hE, lZ⟩ := drawLongest_ok f0 w ys (bytes_old hw)
          refine callG_c (by simp) (by simp) ?ha (p1) ?_
          (case ha => simp (disch := first | omega | (simp; done) | fail) [wrap64c, if_pos, if_neg, opAnd, opOr, opXor, opDiff, opShr, opBit, ntv, csv, ntw, csw, hbig, ntsv1, cssv1, gs, ntu1, csu1, lnu1, ntu2, csu2, lnu2, c1, ntsv2, cssv2, gt, d1, eI, eO, d2, kk0, kk1, kk2, hpf])
          have n1 := a1.1.1
          have K1 := K0.trans a1.1
          have hv := hv.keep a1.1
          have hw := hw.keep a1.1
          obtain ⟨sv3, rfl, hsv3⟩ := hE
          have hsv3 := hsv3.ints
          have ntsv3 := hsv3.nt
          have cssv3 := hsv3.cs
          have hE : Space f1 (.agg #[.int .i64 J, sv3]) J Z := .mk hsv3
          try simp (disch := first | omega | (simp; done) | fail) [wrap64c, if_pos, if_neg, opAnd, opOr, opXor, opDiff, opShr, opBit, ntv, csv, ntw, csw, hbig, ntsv1, cssv1, gs, ntu1, csu1, lnu1, ntu2, csu2, lnu2, c1, ntsv2, cssv2, gt, d1, eI, eO, d2, kk0, kk1, kk2, hpf, ntsv3, cssv3, putCells]
          first | refine WY_heap fun f2 q_f2 => ?_ | refine callG_heap fun f2 q_f2 => ?_ | refine callP_heap fun f2 q_f2 => ?_ | refine callS_heap fun f2 q_f2 => ?_ | refine RY_heap fun f2 q_f2 => ?_ | refine PY_heap fun f2 q_f2 => ?_ | refine SY_heap fun f2 q_f2 => ?_ | refine doneY_heap fun f2 q_f2 => ?_ | refine loopK_heap fun f2 q_f2 => ?_ | refine thenY_heap fun f2 q_f2 => ?_ | refine thenM_heap fun f2 q_f2 => ?_
          have b2 : Adds f1 f2 := by rw [q_f2]; exact (by first | exact aK | exact kK)
          have n2 := b2.1.1
          have K2 := K1.trans b2.1
          have hv := hv.keep b2.1
          have hw := hw.keep b2.1
          have hE := hE.keep b2.1
          have m2 : f2.next = f1.next + 1 := by simp [q_f2]
          have gu : f2.get f1.next = .cells [.int .i64 J, sv3] true true 1 := by simp [q_f2]
          have lZ' : Z.length < 2 ^ 39 := by omega
          refine callG_c (by simp) (by simp) ?ha (implLongest_ok f2 _ J Z hE lZ') ?_
          (case ha => simp (disch := first | omega | (simp; done) | fail) [wrap64c, if_pos, if_neg, opAnd, opOr, opXor, opDiff, opShr, opBit, ntv, csv, ntw, csw, hbig, ntsv1, cssv1, gs, ntu1, csu1, lnu1, ntu2, csu2, lnu2, c1, ntsv2, cssv2, gt, d1, eI, eO, d2, kk0, kk1, kk2, hpf, ntsv3, cssv3, gu])
          try simp (disch := first | omega | (simp; done) | fail) [wrap64c, if_pos, if_neg, opAnd, opOr, opXor, opDiff, opShr, opBit, ntv, csv, ntw, csw, hbig, ntsv1, cssv1, gs, ntu1, csu1, lnu1, ntu2, csu2, lnu2, c1, ntsv2, cssv2, gt, d1, eI, eO, d2, kk0, kk1, kk2, hpf, ntsv3, cssv3, gu]
          refine callG_c (by simp) (by simp) ?ha (specLongest_ok f2 _ J Z hE lZ') ?_
          (case ha => simp (disch := first | omega | (simp; done) | fail) [wrap64c, if_pos, if_neg, opAnd, opOr, opXor, opDiff, opShr, opBit, ntv, csv, ntw, csw, hbig, ntsv1, cssv1, gs, ntu1, csu1, lnu1, ntu2, csu2, lnu2, c1, ntsv2, cssv2, gt, d1, eI, eO, d2, kk0, kk1, kk2, hpf, ntsv3, cssv3, gu])
          try simp (disch := first | omega | (simp; done) | fail) [wrap64c, if_pos, if_neg, opAnd, opOr, opXor, opDiff, opShr, opBit, ntv, csv, ntw, csw, hbig, ntsv1, cssv1, gs, ntu1, csu1, lnu1, ntu2, csu2, lnu2, c1, ntsv2, cssv2, gt, d1, eI, eO, d2, kk0, kk1, kk2, hpf, ntsv3, cssv3, gu]
          exact done_ret rfl (by simp [K2])
        by_cases kk3 : ndiff ov b3 = 0
        case neg =>
          have hpf : prfB (m3 : Int) (toN ys2) (x : Int) (a3 : Int) (b3 : Int) = false := by rw [hPB]; exact decide_eq_false fun h => kk3 ((hiff.1 h).2.2.2)
          try simp (disch := first | omega | (simp; done) | fail) [wrap64c, if_pos, if_neg, opAnd, opOr, opXor, opDiff, opShr, opBit, ntv, csv, ntw, csw, hbig, ntsv1, cssv1, gs, ntu1, csu1, lnu1, ntu2, csu2, lnu2, c1, ntsv2, cssv2, gt, d1, eI, eO, d2, kk0, kk1, kk2, kk3, hpf]
          refine callG_c (by simp) (by simp) ?ha (q1) ?_
          (case ha => simp (disch := first | omega | (simp; done) | fail) [wrap64c, if_pos, if_neg, opAnd, opOr, opXor, opDiff, opShr, opBit, ntv, csv, ntw, csw, hbig, ntsv1, cssv1, gs, ntu1, csu1, lnu1, ntu2, csu2, lnu2, c1, ntsv2, cssv2, gt, d1, eI, eO, d2, kk0, kk1, kk2, kk3, hpf])
          try simp (disch := first | omega | (simp; done) | fail) [wrap64c, if_pos, if_neg, opAnd, opOr, opXor, opDiff, opShr, opBit, ntv, csv, ntw, csw, hbig, ntsv1, cssv1, gs, ntu1, csu1, lnu1, ntu2, csu2, lnu2, c1, ntsv2, cssv2, gt, d1, eI, eO, d2, kk0, kk1, kk2, kk3, hpf]
          obtain ⟨f0, hf0⟩ : ∃ x, x = g2 := ⟨_, rfl⟩
          have K0 := K2
          rw [← hf0] at K0
          have hv := hv
          have hw := hw
          rw [← hf0] at hv
          rw [← hf0] at hw
          try rw [← hf0]
          obtain ⟨_, f1, p1, a1, s3, J, Z, rfl, hE, lZ⟩ := drawLongest_ok f0 w ys (bytes_old hw)
          refine callG_c (by simp) (by simp) ?ha (p1) ?_
          (case ha => simp (disch := first | omega | (simp; done) | fail) [wrap64c, if_pos, if_neg, opAnd, opOr, opXor, opDiff, opShr, opBit, ntv, csv, ntw, csw, hbig, ntsv1, cssv1, gs, ntu1, csu1, lnu1, ntu2, csu2, lnu2, c1, ntsv2, cssv2, gt, d1, eI, eO, d2, kk0, kk1, kk2, kk3, hpf])
          have n1 := a1.1.1
          have K1 := K0.trans a1.1
          have hv := hv.keep a1.1
          have hw := hw.keep a1.1
          obtain ⟨sv3, rfl, hsv3⟩ := hE
          have hsv3 := hsv3.ints
          have ntsv3 := hsv3.nt
          have cssv3 := hsv3.cs
          have hE : Space f1 (.agg #[.int .i64 J, sv3]) J Z := .mk hsv3
          try simp (disch := first | omega | (simp; done) | fail) [wrap64c, if_pos, if_neg, opAnd, opOr, opXor, opDiff, opShr, opBit, ntv, csv, ntw, csw, hbig, ntsv1, cssv1, gs, ntu1, csu1, lnu1, ntu2, csu2, lnu2, c1, ntsv2, cssv2, gt, d1, eI, eO, d2, kk0, kk1, kk2, kk3, hpf, ntsv3, cssv3, putCells]
          first | refine WY_heap fun f2 q_f2 => ?_ | refine callG_heap fun f2 q_f2 => ?_ | refine callP_heap fun f2 q_f2 => ?_ | refine callS_heap fun f2 q_f2 => ?_ | refine RY_heap fun f2 q_f2 => ?_ | refine PY_heap fun f2 q_f2 => ?_ | refine SY_heap fun f2 q_f2 => ?_ | refine doneY_heap fun f2 q_f2 => ?_ | refine loopK_heap fun f2 q_f2 => ?_ | refine thenY_heap fun f2 q_f2 => ?_ | refine thenM_heap fun f2 q_f2 => ?_
          have b2 : Adds f1 f2 := by rw [q_f2]; exact (by first | exact aK | exact kK)
          have n2 := b2.1.1
          have K2 := K1.trans b2.1
          have hv := hv.keep b2.1
          have hw := hw.keep b2.1
          have hE := hE.keep b2.1
          have m2 : f2.next = f1.next + 1 := by simp [q_f2]
          have gu : f2.get f1.next = .cells [.int .i64 J, sv3] true true 1 := by simp [q_f2]
          have lZ' : Z.length < 2 ^ 39 := by omega
          refine callG_c (by simp) (by simp) ?ha (implLongest_ok f2 _ J Z hE lZ') ?_
          (case ha => simp (disch := first | omega | (simp; done) | fail) [wrap64c, if_pos, if_neg, opAnd, opOr, opXor, opDiff, opShr, opBit, ntv, csv, ntw, csw, hbig, ntsv1, cssv1, gs, ntu1, csu1, lnu1, ntu2, csu2, lnu2, c1, ntsv2, cssv2, gt, d1, eI, eO, d2, kk0, kk1, kk2, kk3, hpf, ntsv3, cssv3, gu])
          try simp (disch := first | omega | (simp; done) | fail) [wrap64c, if_pos, if_neg, opAnd, opOr, opXor, opDiff, opShr, opBit, ntv, csv, ntw, csw, hbig, ntsv1, cssv1, gs, ntu1, csu1, lnu1, ntu2, csu2, lnu2, c1, ntsv2, cssv2, gt, d1, eI, eO, d2, kk0, kk1, kk2, kk3, hpf, ntsv3, cssv3, gu]
          refine callG_c (by simp) (by simp) ?ha (specLongest_ok f2 _ J Z hE lZ') ?_
          (case ha => simp (disch := first | omega | (simp; done) | fail) [wrap64c, if_pos, if_neg, opAnd, opOr, opXor, opDiff, opShr, opBit, ntv, csv, ntw, csw, hbig, ntsv1, cssv1, gs, ntu1, csu1, lnu1, ntu2, csu2, lnu2, c1, ntsv2, cssv2, gt, d1, eI, eO, d2, kk0, kk1, kk2, kk3, hpf, ntsv3, cssv3, gu])
          try simp (disch := first | omega | (simp; done) | fail) [wrap64c, if_pos, if_neg, opAnd, opOr, opXor, opDiff, opShr, opBit, ntv, csv, ntw, csw, hbig, ntsv1, cssv1, gs, ntu1, csu1, lnu1, ntu2, csu2, lnu2, c1, ntsv2, cssv2, gt, d1, eI, eO, d2, kk0, kk1, kk2, kk3, hpf, ntsv3, cssv3, gu]
          exact done_ret rfl (by simp [K2])
        have hpt : prfB (m3 : Int) (toN ys2) (x : Int) (a3 : Int) (b3 : Int) = true := by rw [hPB]; exact decide_eq_true (hiff.2 ⟨kk0, kk1, kk2, kk3⟩)
        try simp (disch := first | omega | (simp; done) | fail) [wrap64c, if_pos, if_neg, opAnd, opOr, opXor, opDiff, opShr, opBit, ntv, csv, ntw, csw, hbig, ntsv1, cssv1, gs, ntu1, csu1, lnu1, ntu2, csu2, lnu2, c1, ntsv2, cssv2, gt, d1, eI, eO, d2, kk0, kk1, kk2, kk3, hpt]
        refine callG_c (by simp) (by simp) ?ha (q1) ?_
        (case ha => simp (disch := first | omega | (simp; done) | fail) [wrap64c, if_pos, if_neg, opAnd, opOr, opXor, opDiff, opShr, opBit, ntv, csv, ntw, csw, hbig, ntsv1, cssv1, gs, ntu1, csu1, lnu1, ntu2, csu2, lnu2, c1, ntsv2, cssv2, gt, d1, eI, eO, d2, kk0, kk1, kk2, kk3, hpt])
        try simp (disch := first | omega | (simp; done) | fail) [wrap64c, if_pos, if_neg, opAnd, opOr, opXor, opDiff, opShr, opBit, ntv, csv, ntw, csw, hbig, ntsv1, cssv1, gs, ntu1, csu1, lnu1, ntu2, csu2, lnu2, c1, ntsv2, cssv2, gt, d1, eI, eO, d2, kk0, kk1, kk2, kk3, hpt]
        obtain ⟨f0, hf0⟩ : ∃ x, x = g2 := ⟨_, rfl⟩
        have K0 := K2
        rw [← hf0] at K0
        have hv := hv
        have hw := hw
        rw [← hf0] at hv
        rw [← hf0] at hw
        try rw [← hf0]
        obtain ⟨_, f1, p1, a1, s3, J, Z, rfl, hE, lZ⟩ := drawLongest_ok f0 w ys (bytes_old hw)
        refine callG_c (by simp) (by simp) ?ha (p1) ?_
        (case ha => simp (disch := first | omega | (simp; done) | fail) [wrap64c, if_pos, if_neg, opAnd, opOr, opXor, opDiff, opShr, opBit, ntv, csv, ntw, csw, hbig, ntsv1, cssv1, gs, ntu1, csu1, lnu1, ntu2, csu2, lnu2, c1, ntsv2, cssv2, gt, d1, eI, eO, d2, kk0, kk1, kk2, kk3, hpt])
        have n1 := a1.1.1
        have K1 := K0.trans a1.1
        have hv := hv.keep a1.1
        have hw := hw.keep a1.1
        obtain ⟨sv3, rfl, hsv3⟩ := hE
        have hsv3 := hsv3.ints
        have ntsv3 := hsv3.nt
        have cssv3 := hsv3.cs
        have hE : Space f1 (.agg #[.int .i64 J, sv3]) J Z := .mk hsv3
        try simp (disch := first | omega | (simp; done) | fail) [wrap64c, if_pos, if_neg, opAnd, opOr, opXor, opDiff, opShr, opBit, ntv, csv, ntw, csw, hbig, ntsv1, cssv1, gs, ntu1, csu1, lnu1, ntu2, csu2, lnu2, c1, ntsv2, cssv2, gt, d1, eI, eO, d2, kk0, kk1, kk2, kk3, hpt, ntsv3, cssv3, putCells]
        first | refine WY_heap fun f2 q_f2 => ?_ | refine callG_heap fun f2 q_f2 => ?_ | refine callP_heap fun f2 q_f2 => ?_ | refine callS_heap fun f2 q_f2 => ?_ | refine RY_heap fun f2 q_f2 => ?_ | refine PY_heap fun f2 q_f2 => ?_ | refine SY_heap fun f2 q_f2 => ?_ | refine doneY_heap fun f2 q_f2 => ?_ | refine loopK_heap fun f2 q_f2 => ?_ | refine thenY_heap fun f2 q_f2 => ?_ | refine thenM_heap fun f2 q_f2 => ?_
        have b2 : Adds f1 f2 := by rw [q_f2]; exact (by first | exact aK | exact kK)
        have n2 := b2.1.1
        have K2 := K1.trans b2.1
        have hv := hv.keep b2.1
        have hw := hw.keep b2.1
        have hE := hE.keep b2.1
        have m2 : f2.next = f1.next + 1 := by simp [q_f2]
        have gu : f2.get f1.next = .cells [.int .i64 J, sv3] true true 1 := by simp [q_f2]
        have lZ' : Z.length < 2 ^ 39 := by omega
        refine callG_c (by simp) (by simp) ?ha (implLongest_ok f2 _ J Z hE lZ') ?_
        (case ha => simp (disch := first | omega | (simp; done) | fail) [wrap64c, if_pos, if_neg, opAnd, opOr, opXor, opDiff, opShr, opBit, ntv, csv, ntw, csw, hbig, ntsv1, cssv1, gs, ntu1, csu1, lnu1, ntu2, csu2, lnu2, c1, ntsv2, cssv2, gt, d1, eI, eO, d2, kk0, kk1, kk2, kk3, hpt, ntsv3, cssv3, gu])
        try simp (disch := first | omega | (simp; done) | fail) [wrap64c, if_pos, if_neg, opAnd, opOr, opXor, opDiff, opShr, opBit, ntv, csv, ntw, csw, hbig, ntsv1, cssv1, gs, ntu1, csu1, lnu1, ntu2, csu2, lnu2, c1, ntsv2, cssv2, gt, d1, eI, eO, d2, kk0, kk1, kk2, kk3, hpt, ntsv3, cssv3, gu]
        refine callG_c (by simp) (by simp) ?ha (specLongest_ok f2 _ J Z hE lZ') ?_
        (case ha => simp (disch := first | omega | (simp; done) | fail) [wrap64c, if_pos, if_neg, opAnd, opOr, opXor, opDiff, opShr, opBit, ntv, csv, ntw, csw, hbig, ntsv1, cssv1, gs, ntu1, csu1, lnu1, ntu2, csu2, lnu2, c1, ntsv2, cssv2, gt, d1, eI, eO, d2, kk0, kk1, kk2, kk3, hpt, ntsv3, cssv3, gu])
        try simp (disch := first | omega | (simp; done) | fail) [wrap64c, if_pos, if_neg, opAnd, opOr, opXor, opDiff, opShr, opBit, ntv, csv, ntw, csw, hbig, ntsv1, cssv1, gs, ntu1, csu1, lnu1, ntu2, csu2, lnu2, c1, ntsv2, cssv2, gt, d1, eI, eO, d2, kk0, kk1, kk2, kk3, hpt, ntsv3, cssv3, gu]
        exact done_ret rfl (by simp [K2])
  · have triv : True := trivial
    obtain ⟨n, fs, a, b, eN, eX, ea, eb, gd, hal, hbl, hab, hne⟩ := goB_true c1
    subst eN eX ea eb
    have n7 := gd.n7
    have hb := bit7 n7
    obtain ⟨L, hLe⟩ : ∃ L, L = leftN fs a b := ⟨_, rfl⟩
    have sl : SLn n L := hLe ▸ gd.sl.left a b
    rw [← hLe] at hne
    have hl0 := List.length_pos_iff.2 hne
    have eL : leftR (n : Int) (toN fs) (a : Int) (b : Int) = toN L := by rw [leftR, if_pos c1, natsOf_toN, hLe]; rfl
    have eL' := eL
    rw [eL] at hu1 hu2
    have lnT := toN_length L
    obtain ⟨iN, hiN⟩ : ∃ q, q = inS n L := ⟨_, rfl⟩
    obtain ⟨oN, hoN⟩ : ∃ q, q = outS n L := ⟨_, rfl⟩
    have eI : inR (n : Int) (toN fs) (a : Int) (b : Int) = (iN : Int) := by rw [inR, if_pos c1, natsOf_toN, hiN, hLe]; rfl
    have eO : outR (n : Int) (toN fs) (a : Int) (b : Int) = (oN : Int) := by rw [outR, if_pos c1, natsOf_toN, hoN, hLe]; rfl
    have iNl : iN < bit n := hiN ▸ inS_lt n L
    have oNl : oN < bit n := hoN ▸ outS_lt n L
    have z1 : ndiff a iN = 0 := by rw [hiN, hLe]; exact yes_in hal
    have z2 : ndiff b oN = 0 := by rw [hoN, hLe]; exact no_out hbl
    have z3 : nAnd iN oN = 0 := by rw [hiN, hoN]; exact in_out hne
    have hcl : leftN fs iN oN = L := by rw [hiN, hoN, hLe]; exact closed_left gd.lt (hLe ▸ hne)
    have g2 : goB (n : Int) (toN fs) (iN : Int) (oN : Int) = true := goB_of gd iNl oNl z3 (by rw [hcl]; exact hne)
    have eL2 : leftR (n : Int) (toN fs) (iN : Int) (oN : Int) = toN L := by rw [leftR, if_pos g2, natsOf_toN]; simp [hcl]
    have hall := known_all sl hne
    rw [← hiN, ← hoN] at hall
    have hab2 := nOr_lt iNl oNl
    have eA : askB (n : Int) (toN fs) (a : Int) (b : Int) = !decide (L.length = 1) := by simp [askB, c1, hLe]
    have hl0' : ¬ ((L.length : Int) = 0) := by omega
    try simp (disch := first | omega | (simp; done) | fail) [wrap64c, if_pos, if_neg, opAnd, opOr, opXor, opDiff, opShr, opBit, ntv, csv, ntw, csw, hbig, ntsv1, cssv1, gs, ntu1, csu1, lnu1, ntu2, csu2, lnu2, c1, eL', lnT, eI, eO, z1, z2, z3, hl0']
    obtain ⟨_, h5, p5, a5, u3, rfl, hu3⟩ := implLeft_ok h4 _ (n : Int) (toN fs) (iN : Int) (oN : Int) hC lX'
    rw [g2] at p5
    rw [eL2] at hu3
    refine callG_c (by simp) (by simp) ?ha (p5) ?_
    (case ha => simp (disch := first | omega | (simp; done) | fail) [wrap64c, if_pos, if_neg, opAnd, opOr, opXor, opDiff, opShr, opBit, ntv, csv, ntw, csw, hbig, ntsv1, cssv1, gs, ntu1, csu1, lnu1, ntu2, csu2, lnu2, c1, eL', lnT, eI, eO, z1, z2, z3, hl0'])
    have n5 := a5.1.1
    have K5 := K4.trans a5.1
    have gs : h5.get h1.next = .cells [.int .i64 (n : Int), sv1] true true 1 := by rw [a5.1.2 _ (by omega)]; exact gs
    have hv := hv.keep a5.1
    have hw := hw.keep a5.1
    have hC := hC.keep a5.1
    have hu1 := hu1.keep a5.1
    have hu2 := hu2.keep a5.1
    have hu3 := hu3.ints
    have ntu3 := hu3.nt
    have csu3 := hu3.cs
    have lnu3 := hu3.lenD
    have pjs := jSame_ok h5 _ _ _ _ hu3 hu1
    by_cases hone : L.length = 1
    · have hone' : ((L.length : Int) == 1) = true := by simp [hone]
      have hgt1 : ¬ 1 < (L.length : Int) := by omega
      have eA1 : askB (n : Int) (toN fs) (a : Int) (b : Int) = false := by rw [eA]; simp [hone]
      have hfu : (((nOr iN oN : Nat) : Int) == ((bit n : Nat) : Int) - 1) = true := by have := hall.2 hone; simp; omega
      try simp (disch := first | omega | (simp; done) | fail) [wrap64c, if_pos, if_neg, opAnd, opOr, opXor, opDiff, opShr, opBit, ntv, csv, ntw, csw, hbig, ntsv1, cssv1, gs, ntu1, csu1, lnu1, ntu2, csu2, lnu2, c1, eL', lnT, eI, eO, z1, z2, z3, hl0', ntu3, csu3, lnu3, hone', hgt1, eA1, hfu]
      refine callG_c (by simp) (by simp) ?ha (pjs) ?_
      (case ha => simp (disch := first | omega | (simp; done) | fail) [wrap64c, if_pos, if_neg, opAnd, opOr, opXor, opDiff, opShr, opBit, ntv, csv, ntw, csw, hbig, ntsv1, cssv1, gs, ntu1, csu1, lnu1, ntu2, csu2, lnu2, c1, eL', lnT, eI, eO, z1, z2, z3, hl0', ntu3, csu3, lnu3, hone', hgt1, eA1, hfu])
      try simp (disch := first | omega | (simp; done) | fail) [wrap64c, if_pos, if_neg, opAnd, opOr, opXor, opDiff, opShr, opBit, ntv, csv, ntw, csw, hbig, ntsv1, cssv1, gs, ntu1, csu1, lnu1, ntu2, csu2, lnu2, c1, eL', lnT, eI, eO, z1, z2, z3, hl0', ntu3, csu3, lnu3, hone', hgt1, eA1, hfu]
      refine WD_loopC [1, 5, 12, 14, 15] (fun m tm h' => ∃ j, m = n - j ∧ h5 = h' ∧ tm 26 = .int .i64 (j : Int) ∧ (j ≤ n)) _ ⟨0, rfl, rfl, (by simp (disch := first | omega | (simp; done) | fail) [wrap64c, if_pos, if_neg, opAnd, opOr, opXor, opDiff, opShr, opBit, ntv, csv, ntw, csw, hbig, ntsv1, cssv1, gs, ntu1, csu1, lnu1, ntu2, csu2, lnu2, c1, eL', lnT, eI, eO, z1, z2, z3, hl0', ntu3, csu3, lnu3, hone', hgt1, eA1, hfu]), (by first | omega | assumption | (simp (disch := first | omega | (simp; done) | fail) [wrap64c, if_pos, if_neg, opAnd, opOr, opXor, opDiff, opShr, opBit, ntv, csv, ntw, csw, hbig, ntsv1, cssv1, gs, ntu1, csu1, lnu1, ntu2, csu2, lnu2, c1, eL', lnT, eI, eO, z1, z2, z3, hl0', ntu3, csu3, lnu3, hone', hgt1, eA1, hfu] <;> omega))⟩ ?_
      rintro m tm h' hFr ⟨j, rfl, rfl, e26, hj⟩
      simp only [FrameL] at hFr
      obtain ⟨f1_0, f5_0, f12_0, f14_0, f15_0, -⟩ := hFr
      try simp (disch := first | omega | (simp; done) | fail) [wrap64c, if_pos, if_neg, opAnd, opOr, opXor, opDiff, opShr, opBit, ntv, csv, ntw, csw, hbig, ntsv1, cssv1, gs, ntu1, csu1, lnu1, ntu2, csu2, lnu2, c1, eL', lnT, eI, eO, z1, z2, z3, hl0', ntu3, csu3, lnu3, hone', hgt1, eA1, hfu] at f1_0 f5_0 f12_0 f14_0 f15_0
      have e1 := f1_0
      have e5 := f5_0
      have e12 := f12_0
      have e14 := f14_0
      have e15 := f15_0
      by_cases hlt : j < n
      · have hbj := bit7 (i := j) (by omega)
        have tx := shrMod (nOr iN oN) j
        have hkn := known_open hne hlt
        rw [← hiN, ← hoN] at hkn
        rw [hkn] at tx
        have hor : nShr (nOr iN oN) j ≤ nOr iN oN := nShr_le _ _
        cases hop : opB L j
        · rw [hop] at tx
          have tx := tx
          try simp (disch := first | omega | (simp; done) | fail) [wrap64c, if_pos, if_neg, opAnd, opOr, opXor, opDiff, opShr, opBit, ntv, csv, ntw, csw, hbig, ntsv1, cssv1, gs, ntu1, csu1, lnu1, ntu2, csu2, lnu2, c1, eL', lnT, eI, eO, z1, z2, z3, hl0', ntu3, csu3, lnu3, hone', hgt1, eA1, hfu, e1, e5, e12, e14, e15, e26, hlt, tx]
          refine loopK_next _ ?hm ?hf ⟨j + 1, rfl, rfl, (by simp (disch := first | omega | (simp; done) | fail) [wrap64c, if_pos, if_neg, opAnd, opOr, opXor, opDiff, opShr, opBit, ntv, csv, ntw, csw, hbig, ntsv1, cssv1, gs, ntu1, csu1, lnu1, ntu2, csu2, lnu2, c1, eL', lnT, eI, eO, z1, z2, z3, hl0', ntu3, csu3, lnu3, hone', hgt1, eA1, hfu, e1, e5, e12, e14, e15, e26, hlt, tx] <;> omega), (by first | omega | assumption | (simp (disch := first | omega | (simp; done) | fail) [wrap64c, if_pos, if_neg, opAnd, opOr, opXor, opDiff, opShr, opBit, ntv, csv, ntw, csw, hbig, ntsv1, cssv1, gs, ntu1, csu1, lnu1, ntu2, csu2, lnu2, c1, eL', lnT, eI, eO, z1, z2, z3, hl0', ntu3, csu3, lnu3, hone', hgt1, eA1, hfu, e1, e5, e12, e14, e15, e26, hlt, tx] <;> omega))⟩
          (case hm => first | omega | (simp; omega))
          (case hf => simp [FrameL, ntv, csv, ntw, csw, hbig, ntsv1, cssv1, gs, ntu1, csu1, lnu1, ntu2, csu2, lnu2, c1, eL', lnT, eI, eO, z1, z2, z3, hl0', ntu3, csu3, lnu3, hone', hgt1, eA1, hfu, e1, e5, e12, e14, e15, e26, hlt, tx, f1_0, f5_0, f12_0, f14_0, f15_0])
        · rw [hop] at tx
          have tx := tx
          obtain ⟨y1, y2⟩ := ask_yes hne hlt hop
          rw [← hiN, ← hoN] at y1 y2
          have hlen := has_len hop
          exfalso
          omega
      · try simp (disch := first | omega | (simp; done) | fail) [wrap64c, if_pos, if_neg, opAnd, opOr, opXor, opDiff, opShr, opBit, ntv, csv, ntw, csw, hbig, ntsv1, cssv1, gs, ntu1, csu1, lnu1, ntu2, csu2, lnu2, c1, eL', lnT, eI, eO, z1, z2, z3, hl0', ntu3, csu3, lnu3, hone', hgt1, eA1, hfu, e1, e5, e12, e14, e15, e26, hlt]
        obtain ⟨g0, hg0⟩ : ∃ x, x = h5 := ⟨_, rfl⟩
        have K0 := K5
        rw [← hg0] at K0
        have hv := hv
        have hw := hw
        rw [← hg0] at hv
        rw [← hg0] at hw
        try rw [← hg0]
        obtain ⟨_, g1, p1, a1, s2, G, Y, t, p, q, rfl, hD, lY⟩ := drawIsProof_ok g0 w ys (bytes_old hw)
        refine callG_c (by simp) (by simp) ?ha (p1) ?_
        (case ha => simp (disch := first | omega | (simp; done) | fail) [wrap64c, if_pos, if_neg, opAnd, opOr, opXor, opDiff, opShr, opBit, ntv, csv, ntw, csw, hbig, ntsv1, cssv1, gs, ntu1, csu1, lnu1, ntu2, csu2, lnu2, c1, eL', lnT, eI, eO, z1, z2, z3, hl0', ntu3, csu3, lnu3, hone', hgt1, eA1, hfu, e1, e5, e12, e14, e15, e26, hlt])
        have n1 := a1.1.1
        have K1 := K0.trans a1.1
        have hv := hv.keep a1.1
        have hw := hw.keep a1.1
        obtain ⟨sv2, rfl, hsv2⟩ := hD
        have hsv2 := hsv2.ints
        have ntsv2 := hsv2.nt
        have cssv2 := hsv2.cs
        have hD : Space g1 (.agg #[.int .i64 G, sv2]) G Y := .mk hsv2
        try simp (disch := first | omega | (simp; done) | fail) [wrap64c, if_pos, if_neg, opAnd, opOr, opXor, opDiff, opShr, opBit, ntv, csv, ntw, csw, hbig, ntsv1, cssv1, gs, ntu1, csu1, lnu1, ntu2, csu2, lnu2, c1, eL', lnT, eI, eO, z1, z2, z3, hl0', ntu3, csu3, lnu3, hone', hgt1, eA1, hfu, e1, e5, e12, e14, e15, e26, hlt, ntsv2, cssv2, putCells]
        first | refine WY_heap fun g2 q_g2 => ?_ | refine callG_heap fun g2 q_g2 => ?_ | refine callP_heap fun g2 q_g2 => ?_ | refine callS_heap fun g2 q_g2 => ?_ | refine RY_heap fun g2 q_g2 => ?_ | refine PY_heap fun g2 q_g2 => ?_ | refine SY_heap fun g2 q_g2 => ?_ | refine doneY_heap fun g2 q_g2 => ?_ | refine loopK_heap fun g2 q_g2 => ?_ | refine thenY_heap fun g2 q_g2 => ?_ | refine thenM_heap fun g2 q_g2 => ?_
        have b2 : Adds g1 g2 := by rw [q_g2]; exact (by first | exact aK | exact kK)
        have n2 := b2.1.1
        have K2 := K1.trans b2.1
        have hv := hv.keep b2.1
        have hw := hw.keep b2.1
        have hD := hD.keep b2.1
        have m2 : g2.next = g1.next + 1 := by simp [q_g2]
        have gt : g2.get g1.next = .cells [.int .i64 G, sv2] true true 1 := by simp [q_g2]
        have lY' : Y.length < 2 ^ 39 := by omega
        have lY40 : Y.length < 2 ^ 40 := by omega
        refine callG_c (by simp) (by simp) ?ha (implIsProof_ok g2 _ G Y t p q hD lY') ?_
        (case ha => simp (disch := first | omega | (simp; done) | fail) [wrap64c, if_pos, if_neg, opAnd, opOr, opXor, opDiff, opShr, opBit, ntv, csv, ntw, csw, hbig, ntsv1, cssv1, gs, ntu1, csu1, lnu1, ntu2, csu2, lnu2, c1, eL', lnT, eI, eO, z1, z2, z3, hl0', ntu3, csu3, lnu3, hone', hgt1, eA1, hfu, e1, e5, e12, e14, e15, e26, hlt, ntsv2, cssv2, gt])
        try simp (disch := first | omega | (simp; done) | fail) [wrap64c, if_pos, if_neg, opAnd, opOr, opXor, opDiff, opShr, opBit, ntv, csv, ntw, csw, hbig, ntsv1, cssv1, gs, ntu1, csu1, lnu1, ntu2, csu2, lnu2, c1, eL', lnT, eI, eO, z1, z2, z3, hl0', ntu3, csu3, lnu3, hone', hgt1, eA1, hfu, e1, e5, e12, e14, e15, e26, hlt, ntsv2, cssv2, gt]
        refine callG_c (by simp) (by simp) ?ha (specIsProof_ok g2 _ G Y t p q hD lY') ?_
        (case ha => simp (disch := first | omega | (simp; done) | fail) [wrap64c, if_pos, if_neg, opAnd, opOr, opXor, opDiff, opShr, opBit, ntv, csv, ntw, csw, hbig, ntsv1, cssv1, gs, ntu1, csu1, lnu1, ntu2, csu2, lnu2, c1, eL', lnT, eI, eO, z1, z2, z3, hl0', ntu3, csu3, lnu3, hone', hgt1, eA1, hfu, e1, e5, e12, e14, e15, e26, hlt, ntsv2, cssv2, gt])
        try simp (disch := first | omega | (simp; done) | fail) [wrap64c, if_pos, if_neg, opAnd, opOr, opXor, opDiff, opShr, opBit, ntv, csv, ntw, csw, hbig, ntsv1, cssv1, gs, ntu1, csu1, lnu1, ntu2, csu2, lnu2, c1, eL', lnT, eI, eO, z1, z2, z3, hl0', ntu3, csu3, lnu3, hone', hgt1, eA1, hfu, e1, e5, e12, e14, e15, e26, hlt, ntsv2, cssv2, gt]
        refine callG_c (by simp) (by simp) ?ha (implProofOf_ok g2 _ G Y t hD lY40) ?_
        (case ha => simp (disch := first | omega | (simp; done) | fail) [wrap64c, if_pos, if_neg, opAnd, opOr, opXor, opDiff, opShr, opBit, ntv, csv, ntw, csw, hbig, ntsv1, cssv1, gs, ntu1, csu1, lnu1, ntu2, csu2, lnu2, c1, eL', lnT, eI, eO, z1, z2, z3, hl0', ntu3, csu3, lnu3, hone', hgt1, eA1, hfu, e1, e5, e12, e14, e15, e26, hlt, ntsv2, cssv2, gt])
        try simp (disch := first | omega | (simp; done) | fail) [wrap64c, if_pos, if_neg, opAnd, opOr, opXor, opDiff, opShr, opBit, ntv, csv, ntw, csw, hbig, ntsv1, cssv1, gs, ntu1, csu1, lnu1, ntu2, csu2, lnu2, c1, eL', lnT, eI, eO, z1, z2, z3, hl0', ntu3, csu3, lnu3, hone', hgt1, eA1, hfu, e1, e5, e12, e14, e15, e26, hlt, ntsv2, cssv2, gt]
        refine callG_c (by simp) (by simp) ?ha (specProofOf_ok g2 _ G Y t hD lY40) ?_
        (case ha => simp (disch := first | omega | (simp; done) | fail) [wrap64c, if_pos, if_neg, opAnd, opOr, opXor, opDiff, opShr, opBit, ntv, csv, ntw, csw, hbig, ntsv1, cssv1, gs, ntu1, csu1, lnu1, ntu2, csu2, lnu2, c1, eL', lnT, eI, eO, z1, z2, z3, hl0', ntu3, csu3, lnu3, hone', hgt1, eA1, hfu, e1, e5, e12, e14, e15, e26, hlt, ntsv2, cssv2, gt])
        try simp (disch := first | omega | (simp; done) | fail) [wrap64c, if_pos, if_neg, opAnd, opOr, opXor, opDiff, opShr, opBit, ntv, csv, ntw, csw, hbig, ntsv1, cssv1, gs, ntu1, csu1, lnu1, ntu2, csu2, lnu2, c1, eL', lnT, eI, eO, z1, z2, z3, hl0', ntu3, csu3, lnu3, hone', hgt1, eA1, hfu, e1, e5, e12, e14, e15, e26, hlt, ntsv2, cssv2, gt]
        cases d1 : oneB G Y t
        · have d2 : prfOK G Y t p q = false := by simp [prfOK, d1]
          try simp (disch := first | omega | (simp; done) | fail) [wrap64c, if_pos, if_neg, opAnd, opOr, opXor, opDiff, opShr, opBit, ntv, csv, ntw, csw, hbig, ntsv1, cssv1, gs, ntu1, csu1, lnu1, ntu2, csu2, lnu2, c1, eL', lnT, eI, eO, z1, z2, z3, hl0', ntu3, csu3, lnu3, hone', hgt1, eA1, hfu, e1, e5, e12, e14, e15, e26, hlt, ntsv2, cssv2, gt, d1, d2]
          obtain ⟨f0, hf0⟩ : ∃ x, x = g2 := ⟨_, rfl⟩
          have K0 := K2
          rw [← hf0] at K0
          have hv := hv
          have hw := hw
          rw [← hf0] at hv
          rw [← hf0] at hw
          try rw [← hf0]
          obtain ⟨_, f1, p1, a1, s3, J, Z, rfl, hE, lZ⟩ := drawLongest_ok f0 w ys (bytes_old hw)
          refine callG_c (by simp) (by simp) ?ha (p1) ?_
          (case ha => simp (disch := first | omega | (simp; done) | fail) [wrap64c, if_pos, if_neg, opAnd, opOr, opXor, opDiff, opShr, opBit, ntv, csv, ntw, csw, hbig, ntsv1, cssv1, gs, ntu1, csu1, lnu1, ntu2, csu2, lnu2, c1, eL', lnT, eI, eO, z1, z2, z3, hl0', ntu3, csu3, lnu3, hone', hgt1, eA1, hfu, e1, e5, e12, e14, e15, e26, hlt, ntsv2, cssv2, gt, d1, d2])
          have n1 := a1.1.1
          have K1 := K0.trans a1.1
          have hv := hv.keep a1.1
          have hw := hw.keep a1.1
          obtain ⟨sv3, rfl, hsv3⟩ := hE
          have hsv3 := hsv3.ints
          have ntsv3 := hsv3.nt
          have cssv3 := hsv3.cs
          have hE : Space f1 (.agg #[.int .i64 J, sv3]) J Z := .mk hsv3
          try simp (disch := first | omega | (simp; done) | fail) [wrap64c, if_pos, if_neg, opAnd, opOr, opXor, opDiff, opShr, opBit, ntv, csv, ntw, csw, hbig, ntsv1, cssv1, gs, ntu1, csu1, lnu1, ntu2, csu2, lnu2, c1, eL', lnT, eI, eO, z1, z2, z3, hl0', ntu3, csu3, lnu3, hone', hgt1, eA1, hfu, e1, e5, e12, e14, e15, e26, hlt, ntsv2, cssv2, gt, d1, d2, ntsv3, cssv3, putCells]
          first | refine WY_heap fun f2 q_f2 => ?_ | refine callG_heap fun f2 q_f2 => ?_ | refine callP_heap fun f2 q_f2 => ?_ | refine callS_heap fun f2 q_f2 => ?_ | refine RY_heap fun f2 q_f2 => ?_ | refine PY_heap fun f2 q_f2 => ?_ | refine SY_heap fun f2 q_f2 => ?_ | refine doneY_heap fun f2 q_f2 => ?_ | refine loopK_heap fun f2 q_f2 => ?_ | refine thenY_heap fun f2 q_f2 => ?_ | refine thenM_heap fun f2 q_f2 => ?_
          have b2 : Adds f1 f2 := by rw [q_f2]; exact (by first | exact aK | exact kK)
          have n2 := b2.1.1
          have K2 := K1.trans b2.1
          have hv := hv.keep b2.1
          have hw := hw.keep b2.1
          have hE := hE.keep b2.1
          have m2 : f2.next = f1.next + 1 := by simp [q_f2]
          have gu : f2.get f1.next = .cells [.int .i64 J, sv3] true true 1 := by simp [q_f2]
          have lZ' : Z.length < 2 ^ 39 := by omega
          refine callG_c (by simp) (by simp) ?ha (implLongest_ok f2 _ J Z hE lZ') ?_
          (case ha => simp (disch := first | omega | (simp; done) | fail) [wrap64c, if_pos, if_neg, opAnd, opOr, opXor, opDiff, opShr, opBit, ntv, csv, ntw, csw, hbig, ntsv1, cssv1, gs, ntu1, csu1, lnu1, ntu2, csu2, lnu2, c1, eL', lnT, eI, eO, z1, z2, z3, hl0', ntu3, csu3, lnu3, hone', hgt1, eA1, hfu, e1, e5, e12, e14, e15, e26, hlt, ntsv2, cssv2, gt, d1, d2, ntsv3, cssv3, gu])
          try simp (disch := first | omega | (simp; done) | fail) [wrap64c, if_pos, if_neg, opAnd, opOr, opXor, opDiff, opShr, opBit, ntv, csv, ntw, csw, hbig, ntsv1, cssv1, gs, ntu1, csu1, lnu1, ntu2, csu2, lnu2, c1, eL', lnT, eI, eO, z1, z2, z3, hl0', ntu3, csu3, lnu3, hone', hgt1, eA1, hfu, e1, e5, e12, e14, e15, e26, hlt, ntsv2, cssv2, gt, d1, d2, ntsv3, cssv3, gu]
          refine callG_c (by simp) (by simp) ?ha (specLongest_ok f2 _ J Z hE lZ') ?_
          (case ha => simp (disch := first | omega | (simp; done) | fail) [wrap64c, if_pos, if_neg, opAnd, opOr, opXor, opDiff, opShr, opBit, ntv, csv, ntw, csw, hbig, ntsv1, cssv1, gs, ntu1, csu1, lnu1, ntu2, csu2, lnu2, c1, eL', lnT, eI, eO, z1, z2, z3, hl0', ntu3, csu3, lnu3, hone', hgt1, eA1, hfu, e1, e5, e12, e14, e15, e26, hlt, ntsv2, cssv2, gt, d1, d2, ntsv3, cssv3, gu])
          try simp (disch := first | omega | (simp; done) | fail) [wrap64c, if_pos, if_neg, opAnd, opOr, opXor, opDiff, opShr, opBit, ntv, csv, ntw, csw, hbig, ntsv1, cssv1, gs, ntu1, csu1, lnu1, ntu2, csu2, lnu2, c1, eL', lnT, eI, eO, z1, z2, z3, hl0', ntu3, csu3, lnu3, hone', hgt1, eA1, hfu, e1, e5, e12, e14, e15, e26, hlt, ntsv2, cssv2, gt, d1, d2, ntsv3, cssv3, gu]
          exact done_ret rfl (by simp [K2])
        · obtain ⟨m2, ys2, x, eG, eY, ex, gd2, hx⟩ := oneB_true d1
          subst eG eY ex
          have n27 := gd2.n7
          have hb2 := bit7 n27
          have xlt := gd2.lt x hx
          have x128 : x < 128 := by omega
          obtain ⟨iv, hiv⟩ : ∃ q, q = innerN (fam ys2) x := ⟨_, rfl⟩
          obtain ⟨ov, hov⟩ : ∃ q, q = outerN (fam ys2) m2 x := ⟨_, rfl⟩
          have ivl : iv < bit m2 := hiv ▸ innerN_le gd2 hx
          have ovl : ov < bit m2 := hov ▸ outerN_lt _ _ _
          have eI : innerR (m2 : Int) (toN ys2) (x : Int) = (iv : Int) := by simp [innerR, d1, hiv]
          have eO : outerR (m2 : Int) (toN ys2) (x : Int) = (ov : Int) := by simp [outerR, d1, hov]
          have hap : nAnd iv ov = 0 := by rw [hiv, hov]; exact fringes_apart _ _
          have pOK : prfOK (m2 : Int) (toN ys2) (x : Int) (iv : Int) (ov : Int) = true := by simp [prfOK, d1, ansB_of gd2 ivl ovl hap]
          have pB : prfB (m2 : Int) (toN ys2) (x : Int) (iv : Int) (ov : Int) = true := by simp [prfB, pOK]; rw [hiv, hov]; exact fringes_proof gd2 hx
          have q1 := implIsProof_ok g2 _ (m2 : Int) (toN ys2) (x : Int) (iv : Int) (ov : Int) hD lY'
          rw [pOK, pB] at q1
          cases d2 : prfOK (m2 : Int) (toN ys2) (x : Int) p q
          · try simp (disch := first | omega | (simp; done) | fail) [wrap64c, if_pos, if_neg, opAnd, opOr, opXor, opDiff, opShr, opBit, ntv, csv, ntw, csw, hbig, ntsv1, cssv1, gs, ntu1, csu1, lnu1, ntu2, csu2, lnu2, c1, eL', lnT, eI, eO, z1, z2, z3, hl0', ntu3, csu3, lnu3, hone', hgt1, eA1, hfu, e1, e5, e12, e14, e15, e26, hlt, ntsv2, cssv2, gt, d1, d2]
            refine callG_c (by simp) (by simp) ?ha (q1) ?_
            (case ha => simp (disch := first | omega | (simp; done) | fail) [wrap64c, if_pos, if_neg, opAnd, opOr, opXor, opDiff, opShr, opBit, ntv, csv, ntw, csw, hbig, ntsv1, cssv1, gs, ntu1, csu1, lnu1, ntu2, csu2, lnu2, c1, eL', lnT, eI, eO, z1, z2, z3, hl0', ntu3, csu3, lnu3, hone', hgt1, eA1, hfu, e1, e5, e12, e14, e15, e26, hlt, ntsv2, cssv2, gt, d1, d2])
            try simp (disch := first | omega | (simp; done) | fail) [wrap64c, if_pos, if_neg, opAnd, opOr, opXor, opDiff, opShr, opBit, ntv, csv, ntw, csw, hbig, ntsv1, cssv1, gs, ntu1, csu1, lnu1, ntu2, csu2, lnu2, c1, eL', lnT, eI, eO, z1, z2, z3, hl0', ntu3, csu3, lnu3, hone', hgt1, eA1, hfu, e1, e5, e12, e14, e15, e26, hlt, ntsv2, cssv2, gt, d1, d2]
            obtain ⟨f0, hf0⟩ : ∃ x, x = g2 := ⟨_, rfl⟩
            have K0 := K2
            rw [← hf0] at K0
            have hv := hv
            have hw := hw
            rw [← hf0] at hv
            rw [← hf0] at hw
            try rw [← hf0]
            obtain ⟨_, f1, p1, a1, s3, J, Z, rfl, hE, lZ⟩ := drawLongest_ok f0 w ys (bytes_old hw)
            refine callG_c (by simp) (by simp) ?ha (p1) ?_
            (case ha => simp (disch := first | omega | (simp; done) | fail) [wrap64c, if_pos, if_neg, opAnd, opOr, opXor, opDiff, opShr, opBit, ntv, csv, ntw, csw, hbig, ntsv1, cssv1, gs, ntu1, csu1, lnu1, ntu2, csu2, lnu2, c1, eL', lnT, eI, eO, z1, z2, z3, hl0', ntu3, csu3, lnu3, hone', hgt1, eA1, hfu, e1, e5, e12, e14, e15, e26, hlt, ntsv2, cssv2, gt, d1, d2])
            have n1 := a1.1.1
            have K1 := K0.trans a1.1
            have hv := hv.keep a1.1
            have hw := hw.keep a1.1
            obtain ⟨sv3, rfl, hsv3⟩ := hE
            have hsv3 := hsv3.ints
            have ntsv3 := hsv3.nt
            have cssv3 := hsv3.cs
            have hE : Space f1 (.agg #[.int .i64 J, sv3]) J Z := .mk hsv3
            try simp (disch := first | omega | (simp; done) | fail) [wrap64c, if_pos, if_neg, opAnd, opOr, opXor, opDiff, opShr, opBit, ntv, csv, ntw, csw, hbig, ntsv1, cssv1, gs, ntu1, csu1, lnu1, ntu2, csu2, lnu2, c1, eL', lnT, eI, eO, z1, z2, z3, hl0', ntu3, csu3, lnu3, hone', hgt1, eA1, hfu, e1, e5, e12, e14, e15, e26, hlt, ntsv2, cssv2, gt, d1, d2, ntsv3, cssv3, putCells]
            first | refine WY_heap fun f2 q_f2 => ?_ | refine callG_heap fun f2 q_f2 => ?_ | refine callP_heap fun f2 q_f2 => ?_ | refine callS_heap fun f2 q_f2 => ?_ | refine RY_heap fun f2 q_f2 => ?_ | refine PY_heap fun f2 q_f2 => ?_ | refine SY_heap fun f2 q_f2 => ?_ | refine doneY_heap fun f2 q_f2 => ?_ | refine loopK_heap fun f2 q_f2 => ?_ | refine thenY_heap fun f2 q_f2 => ?_ | refine thenM_heap fun f2 q_f2 => ?_
            have b2 : Adds f1 f2 := by rw [q_f2]; exact (by first | exact aK | exact kK)
            have n2 := b2.1.1
            have K2 := K1.trans b2.1
            have hv := hv.keep b2.1
            have hw := hw.keep b2.1
            have hE := hE.keep b2.1
            have m2 : f2.next = f1.next + 1 := by simp [q_f2]
            have gu : f2.get f1.next = .cells [.int .i64 J, sv3] true true 1 := by simp [q_f2]
            have lZ' : Z.length < 2 ^ 39 := by omega
            refine callG_c (by simp) (by simp) ?ha (implLongest_ok f2 _ J Z hE lZ') ?_
            (case ha => simp (disch := first | omega | (simp; done) | fail) [wrap64c, if_pos, if_neg, opAnd, opOr, opXor, opDiff, opShr, opBit, ntv, csv, ntw, csw, hbig, ntsv1, cssv1, gs, ntu1, csu1, lnu1, ntu2, csu2, lnu2, c1, eL', lnT, eI, eO, z1, z2, z3, hl0', ntu3, csu3, lnu3, hone', hgt1, eA1, hfu, e1, e5, e12, e14, e15, e26, hlt, ntsv2, cssv2, gt, d1, d2, ntsv3, cssv3, gu])
            try simp (disch := first | omega | (simp; done) | fail) [wrap64c, if_pos, if_neg, opAnd, opOr, opXor, opDiff, opShr, opBit, ntv, csv, ntw, csw, hbig, ntsv1, cssv1, gs, ntu1, csu1, lnu1, ntu2, csu2, lnu2, c1, eL', lnT, eI, eO, z1, z2, z3, hl0', ntu3, csu3, lnu3, hone', hgt1, eA1, hfu, e1, e5, e12, e14, e15, e26, hlt, ntsv2, cssv2, gt, d1, d2, ntsv3, cssv3, gu]
            refine callG_c (by simp) (by simp) ?ha (specLongest_ok f2 _ J Z hE lZ') ?_
            (case ha => simp (disch := first | omega | (simp; done) | fail) [wrap64c, if_pos, if_neg, opAnd, opOr, opXor, opDiff, opShr, opBit, ntv, csv, ntw, csw, hbig, ntsv1, cssv1, gs, ntu1, csu1, lnu1, ntu2, csu2, lnu2, c1, eL', lnT, eI, eO, z1, z2, z3, hl0', ntu3, csu3, lnu3, hone', hgt1, eA1, hfu, e1, e5, e12, e14, e15, e26, hlt, ntsv2, cssv2, gt, d1, d2, ntsv3, cssv3, gu])
            try simp (disch := first | omega | (simp; done) | fail) [wrap64c, if_pos, if_neg, opAnd, opOr, opXor, opDiff, opShr, opBit, ntv, csv, ntw, csw, hbig, ntsv1, cssv1, gs, ntu1, csu1, lnu1, ntu2, csu2, lnu2, c1, eL', lnT, eI, eO, z1, z2, z3, hl0', ntu3, csu3, lnu3, hone', hgt1, eA1, hfu, e1, e5, e12, e14, e15, e26, hlt, ntsv2, cssv2, gt, d1, d2, ntsv3, cssv3, gu]
            exact done_ret rfl (by simp [K2])
          · have hans : ansB (m2 : Int) (toN ys2) p q = true := by simpa [prfOK, d1] using d2
            obtain ⟨m3, ys3, a3, b3, qa1, qa2, qa3, qa4, _, la3, lb3, ab3⟩ := ansB_true hans
            have qb1 : m3 = m2 := by omega
            have qb2 := toN_inj.1 qa2
            subst qb1 qb2 qa3 qa4
            have hPB : prfB (m3 : Int) (toN ys2) (x : Int) (a3 : Int) (b3 : Int) = decide (leftN ys2 a3 b3 = [x]) := by simp [prfB, d2]
            have hiff := proof_iff gd2 hx a3 b3
            rw [← hiv, ← hov] at hiff
            have hb2b := bit7 n27
            by_cases kk0 : ndiff a3 x = 0
            case neg =>
              have hpf : prfB (m3 : Int) (toN ys2) (x : Int) (a3 : Int) (b3 : Int) = false := by rw [hPB]; exact decide_eq_false fun h => kk0 ((hiff.1 h).1)
              try simp (disch := first | omega | (simp; done) | fail) [wrap64c, if_pos, if_neg, opAnd, opOr, opXor, opDiff, opShr, opBit, ntv, csv, ntw, csw, hbig, ntsv1, cssv1, gs, ntu1, csu1, lnu1, ntu2, csu2, lnu2, c1, eL', lnT, eI, eO, z1, z2, z3, hl0', ntu3, csu3, lnu3, hone', hgt1, eA1, hfu, e1, e5, e12, e14, e15, e26, hlt, ntsv2, cssv2, gt, d1, d2, kk0, hpf]
              refine callG_c (by simp) (by simp) ?ha (q1) ?_
              (case ha => simp (disch := first | omega | (simp; done) | fail) [wrap64c, if_pos, if_neg, opAnd, opOr, opXor, opDiff, opShr, opBit, ntv, csv, ntw, csw, hbig, ntsv1, cssv1, gs, ntu1, csu1, lnu1, ntu2, csu2, lnu2, c1, eL', lnT, eI, eO, z1, z2, z3, hl0', ntu3, csu3, lnu3, hone', hgt1, eA1, hfu, e1, e5, e12, e14, e15, e26, hlt, ntsv2, cssv2, gt, d1, d2, kk0, hpf])
              try simp (disch := first | omega | (simp; done) | fail) [wrap64c, if_pos, if_neg, opAnd, opOr, opXor, opDiff, opShr, opBit, ntv, csv, ntw, csw, hbig, ntsv1, cssv1, gs, ntu1, csu1, lnu1, ntu2, csu2, lnu2, c1, eL', lnT, eI, eO, z1, z2, z3, hl0', ntu3, csu3, lnu3, hone', hgt1, eA1, hfu, e1, e5, e12, e14, e15, e26, hlt, ntsv2, cssv2, gt, d1, d2, kk0, hpf]
              obtain ⟨f0, hf0⟩ : ∃ x, x = g2 := ⟨_, rfl⟩
              have K0 := K2
              rw [← hf0] at K0
              have hv := hv
              have hw := hw
              rw [← hf0] at hv
              rw [← hf0] at hw
              try rw [← hf0]
              obtain ⟨_, f1, p1, a1, s3, J, Z, rfl, hE, lZ⟩ := drawLongest_ok f0 w ys (bytes_old hw)
              refine callG_c (by simp) (by simp) ?ha (p1) ?_
              (case ha => simp (disch := first | omega | (simp; done) | fail) [wrap64c, if_pos, if_neg, opAnd, opOr, opXor, opDiff, opShr, opBit, ntv, csv, ntw, csw, hbig, ntsv1, cssv1, gs, ntu1, csu1, lnu1, ntu2, csu2, lnu2, c1, eL', lnT, eI, eO, z1, z2, z3, hl0', ntu3, csu3, lnu3, hone', hgt1, eA1, hfu, e1, e5, e12, e14, e15, e26, hlt, ntsv2, cssv2, gt, d1, d2, kk0, hpf])
              have n1 := a1.1.1
              have K1 := K0.trans a1.1
              have hv := hv.keep a1.1
              have hw := hw.keep a1.1
              obtain ⟨sv3, rfl, hsv3⟩ := hE
              have hsv3 := hsv3.ints
              have ntsv3 := hsv3.nt
              have cssv3 := hsv3.cs
              have hE : Space f1 (.agg #[.int .i64 J, sv3]) J Z := .mk hsv3
              try simp (disch := first | omega | (simp; done) | fail) [wrap64c, if_pos, if_neg, opAnd, opOr, opXor, opDiff, opShr, opBit, ntv, csv, ntw, csw, hbig, ntsv1, cssv1, gs, ntu1, csu1, lnu1, ntu2, csu2, lnu2, c1, eL', lnT, eI, eO, z1, z2, z3, hl0', ntu3, csu3, lnu3, hone', hgt1, eA1, hfu, e1, e5, e12, e14, e15, e26, hlt, ntsv2, cssv2, gt, d1, d2, kk0, hpf, ntsv3, cssv3, putCells]
              first | refine WY_heap fun f2 q_f2 => ?_ | refine callG_heap fun f2 q_f2 => ?_ | refine callP_heap fun f2 q_f2 => ?_ | refine callS_heap fun f2 q_f2 => ?_ | refine RY_heap fun f2 q_f2 => ?_ | refine PY_heap fun f2 q_f2 => ?_ | refine SY_heap fun f2 q_f2 => ?_ | refine doneY_heap fun f2 q_f2 => ?_ | refine loopK_heap fun f2 q_f2 => ?_ | refine thenY_heap fun f2 q_f2 => ?_ | refine thenM_heap fun f2 q_f2 => ?_
              have b2 : Adds f1 f2 := by rw [q_f2]; exact (by first | exact aK | exact kK)
              have n2 := b2.1.1
              have K2 := K1.trans b2.1
              have hv := hv.keep b2.1
              have hw := hw.keep b2.1
              have hE := hE.keep b2.1
              have m2 : f2.next = f1.next + 1 := by simp [q_f2]
              have gu : f2.get f1.next = .cells [.int .i64 J, sv3] true true 1 := by simp [q_f2]
              have lZ' : Z.length < 2 ^ 39 := by omega
              refine callG_c (by simp) (by simp) ?ha (implLongest_ok f2 _ J Z hE lZ') ?_
              (case ha => simp (disch := first | omega | (simp; done) | fail) [wrap64c, if_pos, if_neg, opAnd, opOr, opXor, opDiff, opShr, opBit, ntv, csv, ntw, csw, hbig, ntsv1, cssv1, gs, ntu1, csu1, lnu1, ntu2, csu2, lnu2, c1, eL', lnT, eI, eO, z1, z2, z3, hl0', ntu3, csu3, lnu3, hone', hgt1, eA1, hfu, e1, e5, e12, e14, e15, e26, hlt, ntsv2, cssv2, gt, d1, d2, kk0, hpf, ntsv3, cssv3, gu])
              try simp (disch := first | omega | (simp; done) | fail) [wrap64c, if_pos, if_neg, opAnd, opOr, opXor, opDiff, opShr, opBit, ntv, csv, ntw, csw, hbig, ntsv1, cssv1, gs, ntu1, csu1, lnu1, ntu2, csu2, lnu2, c1, eL', lnT, eI, eO, z1, z2, z3, hl0', ntu3, csu3, lnu3, hone', hgt1, eA1, hfu, e1, e5, e12, e14, e15, e26, hlt, ntsv2, cssv2, gt, d1, d2, kk0, hpf, ntsv3, cssv3, gu]
              refine callG_c (by simp) (by simp) ?ha (specLongest_ok f2 _ J Z hE lZ') ?_
              (case ha => simp (disch := first | omega | (simp; done) | fail) [wrap64c, if_pos, if_neg, opAnd, opOr, opXor, opDiff, opShr, opBit, ntv, csv, ntw, csw, hbig, ntsv1, cssv1, gs, ntu1, csu1, lnu1, ntu2, csu2, lnu2, c1, eL', lnT, eI, eO, z1, z2, z3, hl0', ntu3, csu3, lnu3, hone', hgt1, eA1, hfu, e1, e5, e12, e14, e15, e26, hlt, ntsv2, cssv2, gt, d1, d2, kk0, hpf, ntsv3, cssv3, gu])
              try simp (disch := first | omega | (simp; done) | fail) [wrap64c, if_pos, if_neg, opAnd, opOr, opXor, opDiff, opShr, opBit, ntv, csv, ntw, csw, hbig, ntsv1, cssv1, gs, ntu1, csu1, lnu1, ntu2, csu2, lnu2, c1, eL', lnT, eI, eO, z1, z2, z3, hl0', ntu3, csu3, lnu3, hone', hgt1, eA1, hfu, e1, e5, e12, e14, e15, e26, hlt, ntsv2, cssv2, gt, d1, d2, kk0, hpf, ntsv3, cssv3, gu]
              exact done_ret rfl (by simp [K2])
            by_cases kk1 : nAnd b3 x = 0
            case neg =>
              have hpf : prfB (m3 : Int) (toN ys2) (x : Int) (a3 : Int) (b3 : Int) = false := by rw [hPB]; exact decide_eq_false fun h => kk1 ((hiff.1 h).2.1)
              try simp (disch := first | omega | (simp; done) | fail) [wrap64c, if_pos, if_neg, opAnd, opOr, opXor, opDiff, opShr, opBit, ntv, csv, ntw, csw, hbig, ntsv1, cssv1, gs, ntu1, csu1, lnu1, ntu2, csu2, lnu2, c1, eL', lnT, eI, eO, z1, z2, z3, hl0', ntu3, csu3, lnu3, hone', hgt1, eA1, hfu, e1, e5, e12, e14, e15, e26, hlt, ntsv2, cssv2, gt, d1, d2, kk0, kk1, hpf]
              refine callG_c (by simp) (by simp) ?ha (q1) ?_
              (case ha => simp (disch := first | omega | (simp; done) | fail) [wrap64c, if_pos, if_neg, opAnd, opOr, opXor, opDiff, opShr, opBit, ntv, csv, ntw, csw, hbig, ntsv1, cssv1, gs, ntu1, csu1, lnu1, ntu2, csu2, lnu2, c1, eL', lnT, eI, eO, z1, z2, z3, hl0', ntu3, csu3, lnu3, hone', hgt1, eA1, hfu, e1, e5, e12, e14, e15, e26, hlt, ntsv2, cssv2, gt, d1, d2, kk0, kk1, hpf])
              try simp (disch := first | omega | (simp; done) | fail) [wrap64c, if_pos, if_neg, opAnd, opOr, opXor, opDiff, opShr, opBit, ntv, csv, ntw, csw, hbig, ntsv1, cssv1, gs, ntu1, csu1, lnu1, ntu2, csu2, lnu2, c1, eL', lnT, eI, eO, z1, z2, z3, hl0', ntu3, csu3, lnu3, hone', hgt1, eA1, hfu, e1, e5, e12, e14, e15, e26, hlt, ntsv2, cssv2, gt, d1, d2, kk0, kk1, hpf]
              obtain ⟨f0, hf0⟩ : ∃ x, x = g2 := ⟨_, rfl⟩
              have K0 := K2
              rw [← hf0] at K0
              have hv := hv
              have hw := hw
              rw [← hf0] at hv
              rw [← hf0] at hw
              try rw [← hf0]
              obtain ⟨_, f1, p1, a1, s3, J, Z, rfl, hE, lZ⟩ := drawLongest_ok f0 w ys (bytes_old hw)
              refine callG_c (by simp) (by simp) ?ha (p1) ?_
              (case ha => simp (disch := first | omega | (simp; done) | fail) [wrap64c, if_pos, if_neg, opAnd, opOr, opXor, opDiff, opShr, opBit, ntv, csv, ntw, csw, hbig, ntsv1, cssv1, gs, ntu1, csu1, lnu1, ntu2, csu2, lnu2, c1, eL', lnT, eI, eO, z1, z2, z3, hl0', ntu3, csu3, lnu3, hone', hgt1, eA1, hfu, e1, e5, e12, e14, e15, e26, hlt, ntsv2, cssv2, gt, d1, d2, kk0, kk1, hpf])
              have n1 := a1.1.1
              have K1 := K0.trans a1.1
              have hv := hv.keep a1.1
              have hw := hw.keep a1.1
              obtain ⟨sv3, rfl, hsv3⟩ := hE
              have hsv3 := hsv3.ints
              have ntsv3 := hsv3.nt
              have cssv3 := hsv3.cs
              have hE : Space f1 (.agg #[.int .i64 J, sv3]) J Z := .mk hsv3
              try simp (disch := first | omega | (simp; done) | fail) [wrap64c, if_pos, if_neg, opAnd, opOr, opXor, opDiff, opShr, opBit, ntv, csv, ntw, csw, hbig, ntsv1, cssv1, gs, ntu1, csu1, lnu1, ntu2, csu2, lnu2, c1, eL', lnT, eI, eO, z1, z2, z3, hl0', ntu3, csu3, lnu3, hone', hgt1, eA1, hfu, e1, e5, e12, e14, e15, e26, hlt, ntsv2, cssv2, gt, d1, d2, kk0, kk1, hpf, ntsv3, cssv3, putCells]
              first | refine WY_heap fun f2 q_f2 => ?_ | refine callG_heap fun f2 q_f2 => ?_ | refine callP_heap fun f2 q_f2 => ?_ | refine callS_heap fun f2 q_f2 => ?_ | refine RY_heap fun f2 q_f2 => ?_ | refine PY_heap fun f2 q_f2 => ?_ | refine SY_heap fun f2 q_f2 => ?_ | refine doneY_heap fun f2 q_f2 => ?_ | refine loopK_heap fun f2 q_f2 => ?_ | refine thenY_heap fun f2 q_f2 => ?_ | refine thenM_heap fun f2 q_f2 => ?_
              have b2 : Adds f1 f2 := by rw [q_f2]; exact (by first | exact aK | exact kK)
              have n2 := b2.1.1
              have K2 := K1.trans b2.1
              have hv := hv.keep b2.1
              have hw := hw.keep b2.1
              have hE := hE.keep b2.1
              have m2 : f2.next = f1.next + 1 := by simp [q_f2]
              have gu : f2.get f1.next = .cells [.int .i64 J, sv3] true true 1 := by simp [q_f2]
              have lZ' : Z.length < 2 ^ 39 := by omega
              refine callG_c (by simp) (by simp) ?ha (implLongest_ok f2 _ J Z hE lZ') ?_
              (case ha => simp (disch := first | omega | (simp; done) | fail) [wrap64c, if_pos, if_neg, opAnd, opOr, opXor, opDiff, opShr, opBit, ntv, csv, ntw, csw, hbig, ntsv1, cssv1, gs, ntu1, csu1, lnu1, ntu2, csu2, lnu2, c1, eL', lnT, eI, eO, z1, z2, z3, hl0', ntu3, csu3, lnu3, hone', hgt1, eA1, hfu, e1, e5, e12, e14, e15, e26, hlt, ntsv2, cssv2, gt, d1, d2, kk0, kk1, hpf, ntsv3, cssv3, gu])
              try simp (disch := first | omega | (simp; done) | fail) [wrap64c, if_pos, if_neg, opAnd, opOr, opXor, opDiff, opShr, opBit, ntv, csv, ntw, csw, hbig, ntsv1, cssv1, gs, ntu1, csu1, lnu1, ntu2, csu2, lnu2, c1, eL', lnT, eI, eO, z1, z2, z3, hl0', ntu3, csu3, lnu3, hone', hgt1, eA1, hfu, e1, e5, e12, e14, e15, e26, hlt, ntsv2, cssv2, gt, d1, d2, kk0, kk1, hpf, ntsv3, cssv3, gu]
              refine callG_c (by simp) (by simp) ?ha (specLongest_ok f2 _ J Z hE lZ') ?_
              (case ha => simp (disch := first | omega | (simp; done) | fail) [wrap64c, if_pos, if_neg, opAnd, opOr, opXor, opDiff, opShr, opBit, ntv, csv, ntw, csw, hbig, ntsv1, cssv1, gs, ntu1, csu1, lnu1, ntu2, csu2, lnu2, c1, eL', lnT, eI, eO, z1, z2, z3, hl0', ntu3, csu3, lnu3, hone', hgt1, eA1, hfu, e1, e5, e12, e14, e15, e26, hlt, ntsv2, cssv2, gt, d1, d2, kk0, kk1, hpf, ntsv3, cssv3, gu])
              try simp (disch := first | omega | (simp; done) | fail) [wrap64c, if_pos, if_neg, opAnd, opOr, opXor, opDiff, opShr, opBit, ntv, csv, ntw, csw, hbig, ntsv1, cssv1, gs, ntu1, csu1, lnu1, ntu2, csu2, lnu2, c1, eL', lnT, eI, eO, z1, z2, z3, hl0', ntu3, csu3, lnu3, hone', hgt1, eA1, hfu, e1, e5, e12, e14, e15, e26, hlt, ntsv2, cssv2, gt, d1, d2, kk0, kk1, hpf, ntsv3, cssv3, gu]
              exact done_ret rfl (by simp [K2])
            by_cases kk2 : ndiff iv a3 = 0
            case neg =>
              have hpf : prfB (m3 : Int) (toN ys2) (x : Int) (a3 : Int) (b3 : Int) = false := by rw [hPB]; exact decide_eq_false fun h => kk2 ((hiff.1 h).2.2.1)
              try simp (disch := first | omega | (simp; done) | fail) [wrap64c, if_pos, if_neg, opAnd, opOr, opXor, opDiff, opShr, opBit, ntv, csv, ntw, csw, hbig, ntsv1, cssv1, gs, ntu1, csu1, lnu1, ntu2, csu2, lnu2, c1, eL', lnT, eI, eO, z1, z2, z3, hl0', ntu3, csu3, lnu3, hone', hgt1, eA1, hfu, e1, e5, e12, e14, e15, e26, hlt, ntsv2, cssv2, gt, d1, d2, kk0, kk1, kk2, hpf]
              refine callG_c (by simp) (by simp) ?ha (q1) ?_
              (case ha => simp (disch := first | omega | (simp; done) | fail) [wrap64c, if_pos, if_neg, opAnd, opOr, opXor, opDiff, opShr, opBit, ntv, csv, ntw, csw, hbig, ntsv1, cssv1, gs, ntu1, csu1, lnu1, ntu2, csu2, lnu2, c1, eL', lnT, eI, eO, z1, z2, z3, hl0', ntu3, csu3, lnu3, hone', hgt1, eA1, hfu, e1, e5, e12, e14, e15, e26, hlt, ntsv2, cssv2, gt, d1, d2, kk0, kk1, kk2, hpf])
              try simp (disch := first | omega | (simp; done) | fail) [wrap64c, if_pos, if_neg, opAnd, opOr, opXor, opDiff, opShr, opBit, ntv, csv, ntw, csw, hbig, ntsv1, cssv1, gs, ntu1, csu1, lnu1, ntu2, csu2, lnu2, c1, eL', lnT, eI, eO, z1, z2, z3, hl0', ntu3, csu3, lnu3, hone', hgt1, eA1, hfu, e1, e5, e12, e14, e15, e26, hlt, ntsv2, cssv2, gt, d1, d2, kk0, kk1, kk2, hpf]
              obtain ⟨f0, hf0⟩ : ∃ x, x = g2 := ⟨_, rfl⟩
              have K0 := K2
              rw [← hf0] at K0
              have hv := hv
              have hw := hw
              rw [← hf0] at hv
              rw [← hf0] at hw
              try rw [← hf0]
              obtain ⟨_, f1, p1, a1, s3, J, Z, rfl, hE, lZ⟩ := drawLongest_ok f0 w ys (bytes_old hw)
              refine callG_c (by simp) (by simp) ?ha (p1) ?_
              (case ha => simp (disch := first | omega | (simp; done) | fail) [wrap64c, if_pos, if_neg, opAnd, opOr, opXor, opDiff, opShr, opBit, ntv, csv, ntw, csw, hbig, ntsv1, cssv1, gs, ntu1, csu1, lnu1, ntu2, csu2, lnu2, c1, eL', lnT, eI, eO, z1, z2, z3, hl0', ntu3, csu3, lnu3, hone', hgt1, eA1, hfu, e1, e5, e12, e14, e15, e26, hlt, ntsv2, cssv2, gt, d1, d2, kk0, kk1, kk2, hpf])
              have n1 := a1.1.1
              have K1 := K0.trans a1.1
              have hv := hv.keep a1.1
              have hw := hw.keep a1.1
              obtain ⟨sv3, rfl, hsv3⟩ := hE
              have hsv3 := hsv3.ints
              have ntsv3 := hsv3.nt
              have cssv3 := hsv3.cs
              have hE : Space f1 (.agg #[.int .i64 J, sv3]) J Z := .mk hsv3
              try simp (disch := first | omega | (simp; done) | fail) [wrap64c, if_pos, if_neg, opAnd, opOr, opXor, opDiff, opShr, opBit, ntv, csv, ntw, csw, hbig, ntsv1, cssv1, gs, ntu1, csu1, lnu1, ntu2, csu2, lnu2, c1, eL', lnT, eI, eO, z1, z2, z3, hl0', ntu3, csu3, lnu3, hone', hgt1, eA1, hfu, e1, e5, e12, e14, e15, e26, hlt, ntsv2, cssv2, gt, d1, d2, kk0, kk1, kk2, hpf, ntsv3, cssv3, putCells]
              first | refine WY_heap fun f2 q_f2 => ?_ | refine callG_heap fun f2 q_f2 => ?_ | refine callP_heap fun f2 q_f2 => ?_ | refine callS_heap fun f2 q_f2 => ?_ | refine RY_heap fun f2 q_f2 => ?_ | refine PY_heap fun f2 q_f2 => ?_ | refine SY_heap fun f2 q_f2 => ?_ | refine doneY_heap fun f2 q_f2 => ?_ | refine loopK_heap fun f2 q_f2 => ?_ | refine thenY_heap fun f2 q_f2 => ?_ | refine thenM_heap fun f2 q_f2 => ?_
              have b2 : Adds f1 f2 := by rw [q_f2]; exact (by first | exact aK | exact kK)
              have n2 := b2.1.1
              have K2 := K1.trans b2.1
              have hv := hv.keep b2.1
              have hw := hw.keep b2.1
              have hE := hE.keep b2.1
              have m2 : f2.next = f1.next + 1 := by simp [q_f2]
              have gu : f2.get f1.next = .cells [.int .i64 J, sv3] true true 1 := by simp [q_f2]
              have lZ' : Z.length < 2 ^ 39 := by omega
              refine callG_c (by simp) (by simp) ?ha (implLongest_ok f2 _ J Z hE lZ') ?_
              (case ha => simp (disch := first | omega | (simp; done) | fail) [wrap64c, if_pos, if_neg, opAnd, opOr, opXor, opDiff, opShr, opBit, ntv, csv, ntw, csw, hbig, ntsv1, cssv1, gs, ntu1, csu1, lnu1, ntu2, csu2, lnu2, c1, eL', lnT, eI, eO, z1, z2, z3, hl0', ntu3, csu3, lnu3, hone', hgt1, eA1, hfu, e1, e5, e12, e14, e15, e26, hlt, ntsv2, cssv2, gt, d1, d2, kk0, kk1, kk2, hpf, ntsv3, cssv3, gu])
              try simp (disch := first | omega | (simp; done) | fail) [wrap64c, if_pos, if_neg, opAnd, opOr, opXor, opDiff, opShr, opBit, ntv, csv, ntw, csw, hbig, ntsv1, cssv1, gs, ntu1, csu1, lnu1, ntu2, csu2, lnu2, c1, eL', lnT, eI, eO, z1, z2, z3, hl0', ntu3, csu3, lnu3, hone', hgt1, eA1, hfu, e1, e5, e12, e14, e15, e26, hlt, ntsv2, cssv2, gt, d1, d2, kk0, kk1, kk2, hpf, ntsv3, cssv3, gu]
              refine callG_c (by simp) (by simp) ?ha (specLongest_ok f2 _ J Z hE lZ') ?_
              (case ha => simp (disch := first | omega | (simp; done) | fail) [wrap64c, if_pos, if_neg, opAnd, opOr, opXor, opDiff, opShr, opBit, ntv, csv, ntw, csw, hbig, ntsv1, cssv1, gs, ntu1, csu1, lnu1, ntu2, csu2, lnu2, c1, eL', lnT, eI, eO, z1, z2, z3, hl0', ntu3, csu3, lnu3, hone', hgt1, eA1, hfu, e1, e5, e12, e14, e15, e26, hlt, ntsv2, cssv2, gt, d1, d2, kk0, kk1, kk2, hpf, ntsv3, cssv3, gu])
              try simp (disch := first | omega | (simp; done) | fail) [wrap64c, if_pos, if_neg, opAnd, opOr, opXor, opDiff, opShr, opBit, ntv, csv, ntw, csw, hbig, ntsv1, cssv1, gs, ntu1, csu1, lnu1, ntu2, csu2, lnu2, c1, eL', lnT, eI, eO, z1, z2, z3, hl0', ntu3, csu3, lnu3, hone', hgt1, eA1, hfu, e1, e5, e12, e14, e15, e26, hlt, ntsv2, cssv2, gt, d1, d2, kk0, kk1, kk2, hpf, ntsv3, cssv3, gu]
              exact done_ret rfl (by simp [K2])
            by_cases kk3 : ndiff ov b3 = 0
            case neg =>
              have hpf : prfB (m3 : Int) (toN ys2) (x : Int) (a3 : Int) (b3 : Int) = false := by rw [hPB]; exact decide_eq_false fun h => kk3 ((hiff.1 h).2.2.2)
              try simp (disch := first | omega | (simp; done) | fail) [wrap64c, if_pos, if_neg, opAnd, opOr, opXor, opDiff, opShr, opBit, ntv, csv, ntw, csw, hbig, ntsv1, cssv1, gs, ntu1, csu1, lnu1, ntu2, csu2, lnu2, c1, eL', lnT, eI, eO, z1, z2, z3, hl0', ntu3, csu3, lnu3, hone', hgt1, eA1, hfu, e1, e5, e12, e14, e15, e26, hlt, ntsv2, cssv2, gt, d1, d2, kk0, kk1, kk2, kk3, hpf]
              refine callG_c (by simp) (by simp) ?ha (q1) ?_
              (case ha => simp (disch := first | omega | (simp; done) | fail) [wrap64c, if_pos, if_neg, opAnd, opOr, opXor, opDiff, opShr, opBit, ntv, csv, ntw, csw, hbig, ntsv1, cssv1, gs, ntu1, csu1, lnu1, ntu2, csu2, lnu2, c1, eL', lnT, eI, eO, z1, z2, z3, hl0', ntu3, csu3, lnu3, hone', hgt1, eA1, hfu, e1, e5, e12, e14, e15, e26, hlt, ntsv2, cssv2, gt, d1, d2, kk0, kk1, kk2, kk3, hpf])
              try simp (disch := first | omega | (simp; done) | fail) [wrap64c, if_pos, if_neg, opAnd, opOr, opXor, opDiff, opShr, opBit, ntv, csv, ntw, csw, hbig, ntsv1, cssv1, gs, ntu1, csu1, lnu1, ntu2, csu2, lnu2, c1, eL', lnT, eI, eO, z1, z2, z3, hl0', ntu3, csu3, lnu3, hone', hgt1, eA1, hfu, e1, e5, e12, e14, e15, e26, hlt, ntsv2, cssv2, gt, d1, d2, kk0, kk1, kk2, kk3, hpf]
              obtain ⟨f0, hf0⟩ : ∃ x, x = g2 := ⟨_, rfl⟩
              have K0 := K2
              rw [← hf0] at K0
              have hv := hv
              have hw := hw
              rw [← hf0] at hv
              rw [← hf0] at hw
              try rw [← hf0]
              obtain ⟨_, f1, p1, a1, s3, J, Z, rfl, hE, lZ⟩ := drawLongest_ok f0 w ys (bytes_old hw)
              refine callG_c (by simp) (by simp) ?ha (p1) ?_
              (case ha => simp (disch := first | omega | (simp; done) | fail) [wrap64c, if_pos, if_neg, opAnd, opOr, opXor, opDiff, opShr, opBit, ntv, csv, ntw, csw, hbig, ntsv1, cssv1, gs, ntu1, csu1, lnu1, ntu2, csu2, lnu2, c1, eL', lnT, eI, eO, z1, z2, z3, hl0', ntu3, csu3, lnu3, hone', hgt1, eA1, hfu, e1, e5, e12, e14, e15, e26, hlt, ntsv2, cssv2, gt, d1, d2, kk0, kk1, kk2, kk3, hpf])
              have n1 := a1.1.1
              have K1 := K0.trans a1.1
              have hv := hv.keep a1.1
              have hw := hw.keep a1.1
              obtain ⟨sv3, rfl, hsv3⟩ := hE
              have hsv3 := hsv3.ints
              have ntsv3 := hsv3.nt
              have cssv3 := hsv3.cs
              have hE : Space f1 (.agg #[.int .i64 J, sv3]) J Z := .mk hsv3
              try simp (disch := first | omega | (simp; done) | fail) [wrap64c, if_pos, if_neg, opAnd, opOr, opXor, opDiff, opShr, opBit, ntv, csv, ntw, csw, hbig, ntsv1, cssv1, gs, ntu1, csu1, lnu1, ntu2, csu2, lnu2, c1, eL', lnT, eI, eO, z1, z2, z3, hl0', ntu3, csu3, lnu3, hone', hgt1, eA1, hfu, e1, e5, e12, e14, e15, e26, hlt, ntsv2, cssv2, gt, d1, d2, kk0, kk1, kk2, kk3, hpf, ntsv3, cssv3, putCells]
              first | refine WY_heap fun f2 q_f2 => ?_ | refine callG_heap fun f2 q_f2 => ?_ | refine callP_heap fun f2 q_f2 => ?_ | refine callS_heap fun f2 q_f2 => ?_ | refine RY_heap fun f2 q_f2 => ?_ | refine PY_heap fun f2 q_f2 => ?_ | refine SY_heap fun f2 q_f2 => ?_ | refine doneY_heap fun f2 q_f2 => ?_ | refine loopK_heap fun f2 q_f2 => ?_ | refine thenY_heap fun f2 q_f2 => ?_ | refine thenM_heap fun f2 q_f2 => ?_
              have b2 : Adds f1 f2 := by rw [q_f2]; exact (by first | exact aK | exact kK)
              have n2 := b2.1.1
              have K2 := K1.trans b2.1
              have hv := hv.keep b2.1
              have hw := hw.keep b2.1
              have hE := hE.keep b2.1
              have m2 : f2.next = f1.next + 1 := by simp [q_f2]
              have gu : f2.get f1.next = .cells [.int .i64 J, sv3] true true 1 := by simp [q_f2]
              have lZ' : Z.length < 2 ^ 39 := by omega
              refine callG_c (by simp) (by simp) ?ha (implLongest_ok f2 _ J Z hE lZ') ?_
              (case ha => simp (disch := first | omega | (simp; done) | fail) [wrap64c, if_pos, if_neg, opAnd, opOr, opXor, opDiff, opShr, opBit, ntv, csv, ntw, csw, hbig, ntsv1, cssv1, gs, ntu1, csu1, lnu1, ntu2, csu2, lnu2, c1, eL', lnT, eI, eO, z1, z2, z3, hl0', ntu3, csu3, lnu3, hone', hgt1, eA1, hfu, e1, e5, e12, e14, e15, e26, hlt, ntsv2, cssv2, gt, d1, d2, kk0, kk1, kk2, kk3, hpf, ntsv3, cssv3, gu])
              try simp (disch := first | omega | (simp; done) | fail) [wrap64c, if_pos, if_neg, opAnd, opOr, opXor, opDiff, opShr, opBit, ntv, csv, ntw, csw, hbig, ntsv1, cssv1, gs, ntu1, csu1, lnu1, ntu2, csu2, lnu2, c1, eL', lnT, eI, eO, z1, z2, z3, hl0', ntu3, csu3, lnu3, hone', hgt1, eA1, hfu, e1, e5, e12, e14, e15, e26, hlt, ntsv2, cssv2, gt, d1, d2, kk0, kk1, kk2, kk3, hpf, ntsv3, cssv3, gu]
              refine callG_c (by simp) (by simp) ?ha (specLongest_ok f2 _ J Z hE lZ') ?_
              (case ha => simp (disch := first | omega | (simp; done) | fail) [wrap64c, if_pos, if_neg, opAnd, opOr, opXor, opDiff, opShr, opBit, ntv, csv, ntw, csw, hbig, ntsv1, cssv1, gs, ntu1, csu1, lnu1, ntu2, csu2, lnu2, c1, eL', lnT, eI, eO, z1, z2, z3, hl0', ntu3, csu3, lnu3, hone', hgt1, eA1, hfu, e1, e5, e12, e14, e15, e26, hlt, ntsv2, cssv2, gt, d1, d2, kk0, kk1, kk2, kk3, hpf, ntsv3, cssv3, gu])
              try simp (disch := first | omega | (simp; done) | fail) [wrap64c, if_pos, if_neg, opAnd, opOr, opXor, opDiff, opShr, opBit, ntv, csv, ntw, csw, hbig, ntsv1, cssv1, gs, ntu1, csu1, lnu1, ntu2, csu2, lnu2, c1, eL', lnT, eI, eO, z1, z2, z3, hl0', ntu3, csu3, lnu3, hone', hgt1, eA1, hfu, e1, e5, e12, e14, e15, e26, hlt, ntsv2, cssv2, gt, d1, d2, kk0, kk1, kk2, kk3, hpf, ntsv3, cssv3, gu]
              exact done_ret rfl (by simp [K2])
            have hpt : prfB (m3 : Int) (toN ys2) (x : Int) (a3 : Int) (b3 : Int) = true := by rw [hPB]; exact decide_eq_true (hiff.2 ⟨kk0, kk1, kk2, kk3⟩)
            try simp (disch := first | omega | (simp; done) | fail) [wrap64c, if_pos, if_neg, opAnd, opOr, opXor, opDiff, opShr, opBit, ntv, csv, ntw, csw, hbig, ntsv1, cssv1, gs, ntu1, csu1, lnu1, ntu2, csu2, lnu2, c1, eL', lnT, eI, eO, z1, z2, z3, hl0', ntu3, csu3, lnu3, hone', hgt1, eA1, hfu, e1, e5, e12, e14, e15, e26, hlt, ntsv2, cssv2, gt, d1, d2, kk0, kk1, kk2, kk3, hpt]
            refine callG_c (by simp) (by simp) ?ha (q1) ?_
            (case ha => simp (disch := first | omega | (simp; done) | fail) [wrap64c, if_pos, if_neg, opAnd, opOr, opXor, opDiff, opShr, opBit, ntv, csv, ntw, csw, hbig, ntsv1, cssv1, gs, ntu1, csu1, lnu1, ntu2, csu2, lnu2, c1, eL', lnT, eI, eO, z1, z2, z3, hl0', ntu3, csu3, lnu3, hone', hgt1, eA1, hfu, e1, e5, e12, e14, e15, e26, hlt, ntsv2, cssv2, gt, d1, d2, kk0, kk1, kk2, kk3, hpt])
            try simp (disch := first | omega | (simp; done) | fail) [wrap64c, if_pos, if_neg, opAnd, opOr, opXor, opDiff, opShr, opBit, ntv, csv, ntw, csw, hbig, ntsv1, cssv1, gs, ntu1, csu1, lnu1, ntu2, csu2, lnu2, c1, eL', lnT, eI, eO, z1, z2, z3, hl0', ntu3, csu3, lnu3, hone', hgt1, eA1, hfu, e1, e5, e12, e14, e15, e26, hlt, ntsv2, cssv2, gt, d1, d2, kk0, kk1, kk2, kk3, hpt]
            obtain ⟨f0, hf0⟩ : ∃ x, x = g2 := ⟨_, rfl⟩
            have K0 := K2
            rw [← hf0] at K0
            have hv := hv
            have hw := hw
            rw [← hf0] at hv
            rw [← hf0] at hw
            try rw [← hf0]
            obtain ⟨_, f1, p1, a1, s3, J, Z, rfl, hE, lZ⟩ := drawLongest_ok f0 w ys (bytes_old hw)
            refine callG_c (by simp) (by simp) ?ha (p1) ?_
            (case ha => simp (disch := first | omega | (simp; done) | fail) [wrap64c, if_pos, if_neg, opAnd, opOr, opXor, opDiff, opShr, opBit, ntv, csv, ntw, csw, hbig, ntsv1, cssv1, gs, ntu1, csu1, lnu1, ntu2, csu2, lnu2, c1, eL', lnT, eI, eO, z1, z2, z3, hl0', ntu3, csu3, lnu3, hone', hgt1, eA1, hfu, e1, e5, e12, e14, e15, e26, hlt, ntsv2, cssv2, gt, d1, d2, kk0, kk1, kk2, kk3, hpt])
            have n1 := a1.1.1
            have K1 := K0.trans a1.1
            have hv := hv.keep a1.1
            have hw := hw.keep a1.1
            obtain ⟨sv3, rfl, hsv3⟩ := hE
            have hsv3 := hsv3.ints
            have ntsv3 := hsv3.nt
            have cssv3 := hsv3.cs
            have hE : Space f1 (.agg #[.int .i64 J, sv3]) J Z := .mk hsv3
            try simp (disch := first | omega | (simp; done) | fail) [wrap64c, if_pos, if_neg, opAnd, opOr, opXor, opDiff, opShr, opBit, ntv, csv, ntw, csw, hbig, ntsv1, cssv1, gs, ntu1, csu1, lnu1, ntu2, csu2, lnu2, c1, eL', lnT, eI, eO, z1, z2, z3, hl0', ntu3, csu3, lnu3, hone', hgt1, eA1, hfu, e1, e5, e12, e14, e15, e26, hlt, ntsv2, cssv2, gt, d1, d2, kk0, kk1, kk2, kk3, hpt, ntsv3, cssv3, putCells]
            first | refine WY_heap fun f2 q_f2 => ?_ | refine callG_heap fun f2 q_f2 => ?_ | refine callP_heap fun f2 q_f2 => ?_ | refine callS_heap fun f2 q_f2 => ?_ | refine RY_heap fun f2 q_f2 => ?_ | refine PY_heap fun f2 q_f2 => ?_ | refine SY_heap fun f2 q_f2 => ?_ | refine doneY_heap fun f2 q_f2 => ?_ | refine loopK_heap fun f2 q_f2 => ?_ | refine thenY_heap fun f2 q_f2 => ?_ | refine thenM_heap fun f2 q_f2 => ?_
            have b2 : Adds f1 f2 := by rw [q_f2]; exact (by first | exact aK | exact kK)
            have n2 := b2.1.1
            have K2 := K1.trans b2.1
            have hv := hv.keep b2.1
            have hw := hw.keep b2.1
            have hE := hE.keep b2.1
            have m2 : f2.next = f1.next + 1 := by simp [q_f2]
            have gu : f2.get f1.next = .cells [.int .i64 J, sv3] true true 1 := by simp [q_f2]
            have lZ' : Z.length < 2 ^ 39 := by omega
            refine callG_c (by simp) (by simp) ?ha (implLongest_ok f2 _ J Z hE lZ') ?_
            (case ha => simp (disch := first | omega | (simp; done) | fail) [wrap64c, if_pos, if_neg, opAnd, opOr, opXor, opDiff, opShr, opBit, ntv, csv, ntw, csw, hbig, ntsv1, cssv1, gs, ntu1, csu1, lnu1, ntu2, csu2, lnu2, c1, eL', lnT, eI, eO, z1, z2, z3, hl0', ntu3, csu3, lnu3, hone', hgt1, eA1, hfu, e1, e5, e12, e14, e15, e26, hlt, ntsv2, cssv2, gt, d1, d2, kk0, kk1, kk2, kk3, hpt, ntsv3, cssv3, gu])
            try simp (disch := first | omega | (simp; done) | fail) [wrap64c, if_pos, if_neg, opAnd, opOr, opXor, opDiff, opShr, opBit, ntv, csv, ntw, csw, hbig, ntsv1, cssv1, gs, ntu1, csu1, lnu1, ntu2, csu2, lnu2, c1, eL', lnT, eI, eO, z1, z2, z3, hl0', ntu3, csu3, lnu3, hone', hgt1, eA1, hfu, e1, e5, e12, e14, e15, e26, hlt, ntsv2, cssv2, gt, d1, d2, kk0, kk1, kk2, kk3, hpt, ntsv3, cssv3, gu]
            refine callG_c (by simp) (by simp) ?ha (specLongest_ok f2 _ J Z hE lZ') ?_
            (case ha => simp (disch := first | omega | (simp; done) | fail) [wrap64c, if_pos, if_neg, opAnd, opOr, opXor, opDiff, opShr, opBit, ntv, csv, ntw, csw, hbig, ntsv1, cssv1, gs, ntu1, csu1, lnu1, ntu2, csu2, lnu2, c1, eL', lnT, eI, eO, z1, z2, z3, hl0', ntu3, csu3, lnu3, hone', hgt1, eA1, hfu, e1, e5, e12, e14, e15, e26, hlt, ntsv2, cssv2, gt, d1, d2, kk0, kk1, kk2, kk3, hpt, ntsv3, cssv3, gu])
            try simp (disch := first | omega | (simp; done) | fail) [wrap64c, if_pos, if_neg, opAnd, opOr, opXor, opDiff, opShr, opBit, ntv, csv, ntw, csw, hbig, ntsv1, cssv1, gs, ntu1, csu1, lnu1, ntu2, csu2, lnu2, c1, eL', lnT, eI, eO, z1, z2, z3, hl0', ntu3, csu3, lnu3, hone', hgt1, eA1, hfu, e1, e5, e12, e14, e15, e26, hlt, ntsv2, cssv2, gt, d1, d2, kk0, kk1, kk2, kk3, hpt, ntsv3, cssv3, gu]
            exact done_ret rfl (by simp [K2])
    · have hone' : ((L.length : Int) == 1) = false := beq_false_of_ne (by omega)
      have hgt1 : 1 < (L.length : Int) := by omega
      have eA1 : askB (n : Int) (toN fs) (a : Int) (b : Int) = true := by rw [eA]; simp [hone]
      have hfu : (((nOr iN oN : Nat) : Int) == ((bit n : Nat) : Int) - 1) = false := beq_false_of_ne (fun h => hone (hall.1 (by omega)))
      try simp (disch := first | omega | (simp; done) | fail) [wrap64c, if_pos, if_neg, opAnd, opOr, opXor, opDiff, opShr, opBit, ntv, csv, ntw, csw, hbig, ntsv1, cssv1, gs, ntu1, csu1, lnu1, ntu2, csu2, lnu2, c1, eL', lnT, eI, eO, z1, z2, z3, hl0', ntu3, csu3, lnu3, hone', hgt1, eA1, hfu]
      refine callG_c (by simp) (by simp) ?ha (pjs) ?_
      (case ha => simp (disch := first | omega | (simp; done) | fail) [wrap64c, if_pos, if_neg, opAnd, opOr, opXor, opDiff, opShr, opBit, ntv, csv, ntw, csw, hbig, ntsv1, cssv1, gs, ntu1, csu1, lnu1, ntu2, csu2, lnu2, c1, eL', lnT, eI, eO, z1, z2, z3, hl0', ntu3, csu3, lnu3, hone', hgt1, eA1, hfu])
      try simp (disch := first | omega | (simp; done) | fail) [wrap64c, if_pos, if_neg, opAnd, opOr, opXor, opDiff, opShr, opBit, ntv, csv, ntw, csw, hbig, ntsv1, cssv1, gs, ntu1, csu1, lnu1, ntu2, csu2, lnu2, c1, eL', lnT, eI, eO, z1, z2, z3, hl0', ntu3, csu3, lnu3, hone', hgt1, eA1, hfu]
      refine WD_loopC [1, 5, 12, 14, 15] (fun m tm h' => ∃ j, m = n - j ∧ h5 = h' ∧ tm 26 = .int .i64 (j : Int) ∧ (j ≤ n)) _ ⟨0, rfl, rfl, (by simp (disch := first | omega | (simp; done) | fail) [wrap64c, if_pos, if_neg, opAnd, opOr, opXor, opDiff, opShr, opBit, ntv, csv, ntw, csw, hbig, ntsv1, cssv1, gs, ntu1, csu1, lnu1, ntu2, csu2, lnu2, c1, eL', lnT, eI, eO, z1, z2, z3, hl0', ntu3, csu3, lnu3, hone', hgt1, eA1, hfu]), (by first | omega | assumption | (simp (disch := first | omega | (simp; done) | fail) [wrap64c, if_pos, if_neg, opAnd, opOr, opXor, opDiff, opShr, opBit, ntv, csv, ntw, csw, hbig, ntsv1, cssv1, gs, ntu1, csu1, lnu1, ntu2, csu2, lnu2, c1, eL', lnT, eI, eO, z1, z2, z3, hl0', ntu3, csu3, lnu3, hone', hgt1, eA1, hfu] <;> omega))⟩ ?_
      rintro m tm h' hFr ⟨j, rfl, rfl, e26, hj⟩
      simp only [FrameL] at hFr
      obtain ⟨f1_1, f5_1, f12_1, f14_1, f15_1, -⟩ := hFr
      try simp (disch := first | omega | (simp; done) | fail) [wrap64c, if_pos, if_neg, opAnd, opOr, opXor, opDiff, opShr, opBit, ntv, csv, ntw, csw, hbig, ntsv1, cssv1, gs, ntu1, csu1, lnu1, ntu2, csu2, lnu2, c1, eL', lnT, eI, eO, z1, z2, z3, hl0', ntu3, csu3, lnu3, hone', hgt1, eA1, hfu] at f1_1 f5_1 f12_1 f14_1 f15_1
      have e1 := f1_1
      have e5 := f5_1
      have e12 := f12_1
      have e14 := f14_1
      have e15 := f15_1
      by_cases hlt : j < n
      · have hbj := bit7 (i := j) (by omega)
        have tx := shrMod (nOr iN oN) j
        have hkn := known_open hne hlt
        rw [← hiN, ← hoN] at hkn
        rw [hkn] at tx
        have hor : nShr (nOr iN oN) j ≤ nOr iN oN := nShr_le _ _
        cases hop : opB L j
        · rw [hop] at tx
          have tx := tx
          try simp (disch := first | omega | (simp; done) | fail) [wrap64c, if_pos, if_neg, opAnd, opOr, opXor, opDiff, opShr, opBit, ntv, csv, ntw, csw, hbig, ntsv1, cssv1, gs, ntu1, csu1, lnu1, ntu2, csu2, lnu2, c1, eL', lnT, eI, eO, z1, z2, z3, hl0', ntu3, csu3, lnu3, hone', hgt1, eA1, hfu, e1, e5, e12, e14, e15, e26, hlt, tx]
          refine loopK_next _ ?hm ?hf ⟨j + 1, rfl, rfl, (by simp (disch := first | omega | (simp; done) | fail) [wrap64c, if_pos, if_neg, opAnd, opOr, opXor, opDiff, opShr, opBit, ntv, csv, ntw, csw, hbig, ntsv1, cssv1, gs, ntu1, csu1, lnu1, ntu2, csu2, lnu2, c1, eL', lnT, eI, eO, z1, z2, z3, hl0', ntu3, csu3, lnu3, hone', hgt1, eA1, hfu, e1, e5, e12, e14, e15, e26, hlt, tx] <;> omega), (by first | omega | assumption | (simp (disch := first | omega | (simp; done) | fail) [wrap64c, if_pos, if_neg, opAnd, opOr, opXor, opDiff, opShr, opBit, ntv, csv, ntw, csw, hbig, ntsv1, cssv1, gs, ntu1, csu1, lnu1, ntu2, csu2, lnu2, c1, eL', lnT, eI, eO, z1, z2, z3, hl0', ntu3, csu3, lnu3, hone', hgt1, eA1, hfu, e1, e5, e12, e14, e15, e26, hlt, tx] <;> omega))⟩
          (case hm => first | omega | (simp; omega))
          (case hf => simp [FrameL, ntv, csv, ntw, csw, hbig, ntsv1, cssv1, gs, ntu1, csu1, lnu1, ntu2, csu2, lnu2, c1, eL', lnT, eI, eO, z1, z2, z3, hl0', ntu3, csu3, lnu3, hone', hgt1, eA1, hfu, e1, e5, e12, e14, e15, e26, hlt, tx, f1_1, f5_1, f12_1, f14_1, f15_1])
        · rw [hop] at tx
          have tx := tx
          obtain ⟨y1, y2⟩ := ask_yes hne hlt hop
          rw [← hiN, ← hoN] at y1 y2
          have hlen := has_len hop
          have lw : nOr iN (bit j) < bit n := nOr_lt iNl (bit_lt_bit hlt)
          have lo : nOr oN (bit j) < bit n := nOr_lt oNl (bit_lt_bit hlt)
          have eW : leftN fs (nOr iN (bit j)) oN = hasL L j := by rw [left_yes, hcl]
          have eV : leftN fs iN (nOr oN (bit j)) = lacksL L j := by rw [left_no, hcl]
          have gW : goB (n : Int) (toN fs) ((nOr iN (bit j) : Nat) : Int) (oN : Int) = true := goB_of gd lw oNl y1 (by rw [eW]; exact List.length_pos_iff.1 hlen.2.2.1)
          have gV : goB (n : Int) (toN fs) (iN : Int) ((nOr oN (bit j) : Nat) : Int) = true := goB_of gd iNl lo y2 (by rw [eV]; exact List.length_pos_iff.1 hlen.2.2.2.1)
          have pW := implCountL_ok h5 _ (n : Int) (toN fs) ((nOr iN (bit j) : Nat) : Int) (oN : Int) hC lX'
          have pV := implCountL_ok h5 _ (n : Int) (toN fs) (iN : Int) ((nOr oN (bit j) : Nat) : Int) hC lX'
          rw [gW, leftR, if_pos gW, natsOf_toN, toN_length, Int.toNat_natCast, Int.toNat_natCast, eW] at pW
          rw [gV, leftR, if_pos gV, natsOf_toN, toN_length, Int.toNat_natCast, Int.toNat_natCast, eV] at pV
          obtain ⟨ca, hca⟩ : ∃ q, q = (hasL L j).length := ⟨_, rfl⟩
          obtain ⟨cb, hcb⟩ : ∃ q, q = (lacksL L j).length := ⟨_, rfl⟩
          rw [← hca] at pW hlen
          rw [← hcb] at pV hlen
          have lL : L.length ≤ 128 := by have := left_len fs a b; have := gd.len7; rw [hLe]; omega
          have hsum : (ca : Int) + (cb : Int) = (L.length : Int) := by omega
          have hca1 : ¬ (ca : Int) < 1 := by omega
          have hcb1 : ¬ (cb : Int) < 1 := by omega
          try simp (disch := first | omega | (simp; done) | fail) [wrap64c, if_pos, if_neg, opAnd, opOr, opXor, opDiff, opShr, opBit, ntv, csv, ntw, csw, hbig, ntsv1, cssv1, gs, ntu1, csu1, lnu1, ntu2, csu2, lnu2, c1, eL', lnT, eI, eO, z1, z2, z3, hl0', ntu3, csu3, lnu3, hone', hgt1, eA1, hfu, e1, e5, e12, e14, e15, e26, hlt, tx, hsum, hca1, hcb1]
          refine WD_chainC rfl (by kernel_rfl) (by kernel_rfl) ?_
          try simp (disch := first | omega | (simp; done) | fail) [wrap64c, if_pos, if_neg, opAnd, opOr, opXor, opDiff, opShr, opBit, ntv, csv, ntw, csw, hbig, ntsv1, cssv1, gs, ntu1, csu1, lnu1, ntu2, csu2, lnu2, c1, eL', lnT, eI, eO, z1, z2, z3, hl0', ntu3, csu3, lnu3, hone', hgt1, eA1, hfu, e1, e5, e12, e14, e15, e26, hlt, tx, hsum, hca1, hcb1]
          refine callG_c (by simp) (by simp) ?ha (pW) ?_
          (case ha => simp (disch := first | omega | (simp; done) | fail) [wrap64c, if_pos, if_neg, opAnd, opOr, opXor, opDiff, opShr, opBit, ntv, csv, ntw, csw, hbig, ntsv1, cssv1, gs, ntu1, csu1, lnu1, ntu2, csu2, lnu2, c1, eL', lnT, eI, eO, z1, z2, z3, hl0', ntu3, csu3, lnu3, hone', hgt1, eA1, hfu, e1, e5, e12, e14, e15, e26, hlt, tx, hsum, hca1, hcb1])
          try simp (disch := first | omega | (simp; done) | fail) [wrap64c, if_pos, if_neg, opAnd, opOr, opXor, opDiff, opShr, opBit, ntv, csv, ntw, csw, hbig, ntsv1, cssv1, gs, ntu1, csu1, lnu1, ntu2, csu2, lnu2, c1, eL', lnT, eI, eO, z1, z2, z3, hl0', ntu3, csu3, lnu3, hone', hgt1, eA1, hfu, e1, e5, e12, e14, e15, e26, hlt, tx, hsum, hca1, hcb1]
          refine WD_chainC rfl (by kernel_rfl) (by kernel_rfl) ?_
          try simp (disch := first | omega | (simp; done) | fail) [wrap64c, if_pos, if_neg, opAnd, opOr, opXor, opDiff, opShr, opBit, ntv, csv, ntw, csw, hbig, ntsv1, cssv1, gs, ntu1, csu1, lnu1, ntu2, csu2, lnu2, c1, eL', lnT, eI, eO, z1, z2, z3, hl0', ntu3, csu3, lnu3, hone', hgt1, eA1, hfu, e1, e5, e12, e14, e15, e26, hlt, tx, hsum, hca1, hcb1]
          refine callG_c (by simp) (by simp) ?ha (pV) ?_
          (case ha => simp (disch := first | omega | (simp; done) | fail) [wrap64c, if_pos, if_neg, opAnd, opOr, opXor, opDiff, opShr, opBit, ntv, csv, ntw, csw, hbig, ntsv1, cssv1, gs, ntu1, csu1, lnu1, ntu2, csu2, lnu2, c1, eL', lnT, eI, eO, z1, z2, z3, hl0', ntu3, csu3, lnu3, hone', hgt1, eA1, hfu, e1, e5, e12, e14, e15, e26, hlt, tx, hsum, hca1, hcb1])
          try simp (disch := first | omega | (simp; done) | fail) [wrap64c, if_pos, if_neg, opAnd, opOr, opXor, opDiff, opShr, opBit, ntv, csv, ntw, csw, hbig, ntsv1, cssv1, gs, ntu1, csu1, lnu1, ntu2, csu2, lnu2, c1, eL', lnT, eI, eO, z1, z2, z3, hl0', ntu3, csu3, lnu3, hone', hgt1, eA1, hfu, e1, e5, e12, e14, e15, e26, hlt, tx, hsum, hca1, hcb1]
          refine loopK_next _ ?hm ?hf ⟨j + 1, rfl, rfl, (by simp (disch := first | omega | (simp; done) | fail) [wrap64c, if_pos, if_neg, opAnd, opOr, opXor, opDiff, opShr, opBit, ntv, csv, ntw, csw, hbig, ntsv1, cssv1, gs, ntu1, csu1, lnu1, ntu2, csu2, lnu2, c1, eL', lnT, eI, eO, z1, z2, z3, hl0', ntu3, csu3, lnu3, hone', hgt1, eA1, hfu, e1, e5, e12, e14, e15, e26, hlt, tx, hsum, hca1, hcb1] <;> omega), (by first | omega | assumption | (simp (disch := first | omega | (simp; done) | fail) [wrap64c, if_pos, if_neg, opAnd, opOr, opXor, opDiff, opShr, opBit, ntv, csv, ntw, csw, hbig, ntsv1, cssv1, gs, ntu1, csu1, lnu1, ntu2, csu2, lnu2, c1, eL', lnT, eI, eO, z1, z2, z3, hl0', ntu3, csu3, lnu3, hone', hgt1, eA1, hfu, e1, e5, e12, e14, e15, e26, hlt, tx, hsum, hca1, hcb1] <;> omega))⟩
          (case hm => first | omega | (simp; omega))
          (case hf => simp [FrameL, ntv, csv, ntw, csw, hbig, ntsv1, cssv1, gs, ntu1, csu1, lnu1, ntu2, csu2, lnu2, c1, eL', lnT, eI, eO, z1, z2, z3, hl0', ntu3, csu3, lnu3, hone', hgt1, eA1, hfu, e1, e5, e12, e14, e15, e26, hlt, tx, hsum, hca1, hcb1, f1_1, f5_1, f12_1, f14_1, f15_1])
      · try simp (disch := first | omega | (simp; done) | fail) [wrap64c, if_pos, if_neg, opAnd, opOr, opXor, opDiff, opShr, opBit, ntv, csv, ntw, csw, hbig, ntsv1, cssv1, gs, ntu1, csu1, lnu1, ntu2, csu2, lnu2, c1, eL', lnT, eI, eO, z1, z2, z3, hl0', ntu3, csu3, lnu3, hone', hgt1, eA1, hfu, e1, e5, e12, e14, e15, e26, hlt]
        obtain ⟨g0, hg0⟩ : ∃ x, x = h5 := ⟨_, rfl⟩
        have K0 := K5
        rw [← hg0] at K0
        have hv := hv
        have hw := hw
        rw [← hg0] at hv
        rw [← hg0] at hw
        try rw [← hg0]
        obtain ⟨_, g1, p1, a1, s2, G, Y, t, p, q, rfl, hD, lY⟩ := drawIsProof_ok g0 w ys (bytes_old hw)
        refine callG_c (by simp) (by simp) ?ha (p1) ?_
        (case ha => simp (disch := first | omega | (simp; done) | fail) [wrap64c, if_pos, if_neg, opAnd, opOr, opXor, opDiff, opShr, opBit, ntv, csv, ntw, csw, hbig, ntsv1, cssv1, gs, ntu1, csu1, lnu1, ntu2, csu2, lnu2, c1, eL', lnT, eI, eO, z1, z2, z3, hl0', ntu3, csu3, lnu3, hone', hgt1, eA1, hfu, e1, e5, e12, e14, e15, e26, hlt])
        have n1 := a1.1.1
        have K1 := K0.trans a1.1
        have hv := hv.keep a1.1
        have hw := hw.keep a1.1
        obtain ⟨sv2, rfl, hsv2⟩ := hD
        have hsv2 := hsv2.ints
        have ntsv2 := hsv2.nt
        have cssv2 := hsv2.cs
        have hD : Space g1 (.agg #[.int .i64 G, sv2]) G Y := .mk hsv2
        try simp (disch := first | omega | (simp; done) | fail) [wrap64c, if_pos, if_neg, opAnd, opOr, opXor, opDiff, opShr, opBit, ntv, csv, ntw, csw, hbig, ntsv1, cssv1, gs, ntu1, csu1, lnu1, ntu2, csu2, lnu2, c1, eL', lnT, eI, eO, z1, z2, z3, hl0', ntu3, csu3, lnu3, hone', hgt1, eA1, hfu, e1, e5, e12, e14, e15, e26, hlt, ntsv2, cssv2, putCells]
        first | refine WY_heap fun g2 q_g2 => ?_ | refine callG_heap fun g2 q_g2 => ?_ | refine callP_heap fun g2 q_g2 => ?_ | refine callS_heap fun g2 q_g2 => ?_ | refine RY_heap fun g2 q_g2 => ?_ | refine PY_heap fun g2 q_g2 => ?_ | refine SY_heap fun g2 q_g2 => ?_ | refine doneY_heap fun g2 q_g2 => ?_ | refine loopK_heap fun g2 q_g2 => ?_ | refine thenY_heap fun g2 q_g2 => ?_ | refine thenM_heap fun g2 q_g2 => ?_
        have b2 : Adds g1 g2 := by rw [q_g2]; exact (by first | exact aK | exact kK)
        have n2 := b2.1.1
        have K2 := K1.trans b2.1
        have hv := hv.keep b2.1
        have hw := hw.keep b2.1
        have hD := hD.keep b2.1
        have m2 : g2.next = g1.next + 1 := by simp [q_g2]
        have gt : g2.get g1.next = .cells [.int .i64 G, sv2] true true 1 := by simp [q_g2]
        have lY' : Y.length < 2 ^ 39 := by omega
        have lY40 : Y.length < 2 ^ 40 := by omega
        refine callG_c (by simp) (by simp) ?ha (implIsProof_ok g2 _ G Y t p q hD lY') ?_
        (case ha => simp (disch := first | omega | (simp; done) | fail) [wrap64c, if_pos, if_neg, opAnd, opOr, opXor, opDiff, opShr, opBit, ntv, csv, ntw, csw, hbig, ntsv1, cssv1, gs, ntu1, csu1, lnu1, ntu2, csu2, lnu2, c1, eL', lnT, eI, eO, z1, z2, z3, hl0', ntu3, csu3, lnu3, hone', hgt1, eA1, hfu, e1, e5, e12, e14, e15, e26, hlt, ntsv2, cssv2, gt])
        try simp (disch := first | omega | (simp; done) | fail) [wrap64c, if_pos, if_neg, opAnd, opOr, opXor, opDiff, opShr, opBit, ntv, csv, ntw, csw, hbig, ntsv1, cssv1, gs, ntu1, csu1, lnu1, ntu2, csu2, lnu2, c1, eL', lnT, eI, eO, z1, z2, z3, hl0', ntu3, csu3, lnu3, hone', hgt1, eA1, hfu, e1, e5, e12, e14, e15, e26, hlt, ntsv2, cssv2, gt]
        refine callG_c (by simp) (by simp) ?ha (specIsProof_ok g2 _ G Y t p q hD lY') ?_
        (case ha => simp (disch := first | omega | (simp; done) | fail) [wrap64c, if_pos, if_neg, opAnd, opOr, opXor, opDiff, opShr, opBit, ntv, csv, ntw, csw, hbig, ntsv1, cssv1, gs, ntu1, csu1, lnu1, ntu2, csu2, lnu2, c1, eL', lnT, eI, eO, z1, z2, z3, hl0', ntu3, csu3, lnu3, hone', hgt1, eA1, hfu, e1, e5, e12, e14, e15, e26, hlt, ntsv2, cssv2, gt])
        try simp (disch := first | omega | (simp; done) | fail) [wrap64c, if_pos, if_neg, opAnd, opOr, opXor, opDiff, opShr, opBit, ntv, csv, ntw, csw, hbig, ntsv1, cssv1, gs, ntu1, csu1, lnu1, ntu2, csu2, lnu2, c1, eL', lnT, eI, eO, z1, z2, z3, hl0', ntu3, csu3, lnu3, hone', hgt1, eA1, hfu, e1, e5, e12, e14, e15, e26, hlt, ntsv2, cssv2, gt]
        refine callG_c (by simp) (by simp) ?ha (implProofOf_ok g2 _ G Y t hD lY40) ?_
        (case ha => simp (disch := first | omega | (simp; done) | fail) [wrap64c, if_pos, if_neg, opAnd, opOr, opXor, opDiff, opShr, opBit, ntv, csv, ntw, csw, hbig, ntsv1, cssv1, gs, ntu1, csu1, lnu1, ntu2, csu2, lnu2, c1, eL', lnT, eI, eO, z1, z2, z3, hl0', ntu3, csu3, lnu3, hone', hgt1, eA1, hfu, e1, e5, e12, e14, e15, e26, hlt, ntsv2, cssv2, gt])
        try simp (disch := first | omega | (simp; done) | fail) [wrap64c, if_pos, if_neg, opAnd, opOr, opXor, opDiff, opShr, opBit, ntv, csv, ntw, csw, hbig, ntsv1, cssv1, gs, ntu1, csu1, lnu1, ntu2, csu2, lnu2, c1, eL', lnT, eI, eO, z1, z2, z3, hl0', ntu3, csu3, lnu3, hone', hgt1, eA1, hfu, e1, e5, e12, e14, e15, e26, hlt, ntsv2, cssv2, gt]
        refine callG_c (by simp) (by simp) ?ha (specProofOf_ok g2 _ G Y t hD lY40) ?_
        (case ha => simp (disch := first | omega | (simp; done) | fail) [wrap64c, if_pos, if_neg, opAnd, opOr, opXor, opDiff, opShr, opBit, ntv, csv, ntw, csw, hbig, ntsv1, cssv1, gs, ntu1, csu1, lnu1, ntu2, csu2, lnu2, c1, eL', lnT, eI, eO, z1, z2, z3, hl0', ntu3, csu3, lnu3, hone', hgt1, eA1, hfu, e1, e5, e12, e14, e15, e26, hlt, ntsv2, cssv2, gt])
        try simp (disch := first | omega | (simp; done) | fail) [wrap64c, if_pos, if_neg, opAnd, opOr, opXor, opDiff, opShr, opBit, ntv, csv, ntw, csw, hbig, ntsv1, cssv1, gs, ntu1, csu1, lnu1, ntu2, csu2, lnu2, c1, eL', lnT, eI, eO, z1, z2, z3, hl0', ntu3, csu3, lnu3, hone', hgt1, eA1, hfu, e1, e5, e12, e14, e15, e26, hlt, ntsv2, cssv2, gt]
        cases d1 : oneB G Y t
        · have d2 : prfOK G Y t p q = false := by simp [prfOK, d1]
          try simp (disch := first | omega | (simp; done) | fail) [wrap64c, if_pos, if_neg, opAnd, opOr, opXor, opDiff, opShr, opBit, ntv, csv, ntw, csw, hbig, ntsv1, cssv1, gs, ntu1, csu1, lnu1, ntu2, csu2, lnu2, c1, eL', lnT, eI, eO, z1, z2, z3, hl0', ntu3, csu3, lnu3, hone', hgt1, eA1, hfu, e1, e5, e12, e14, e15, e26, hlt, ntsv2, cssv2, gt, d1, d2]
          obtain ⟨f0, hf0⟩ : ∃ x, x = g2 := ⟨_, rfl⟩
          have K0 := K2
          rw [← hf0] at K0
          have hv := hv
          have hw := hw
          rw [← hf0] at hv
          rw [← hf0] at hw
          try rw [← hf0]
          obtain ⟨_, f1, p1, a1, s3, J, Z, rfl, hE, lZ⟩ := drawLongest_ok f0 w ys (bytes_old hw)
          refine callG_c (by simp) (by simp) ?ha (p1) ?_
          (case ha => simp (disch := first | omega | (simp; done) | fail) [wrap64c, if_pos, if_neg, opAnd, opOr, opXor, opDiff, opShr, opBit, ntv, csv, ntw, csw, hbig, ntsv1, cssv1, gs, ntu1, csu1, lnu1, ntu2, csu2, lnu2, c1, eL', lnT, eI, eO, z1, z2, z3, hl0', ntu3, csu3, lnu3, hone', hgt1, eA1, hfu, e1, e5, e12, e14, e15, e26, hlt, ntsv2, cssv2, gt, d1, d2])
          have n1 := a1.1.1
          have K1 := K0.trans a1.1
          have hv := hv.keep a1.1
          have hw := hw.keep a1.1
          obtain ⟨sv3, rfl, hsv3⟩ := hE
          have hsv3 := hsv3.ints
          have ntsv3 := hsv3.nt
          have cssv3 := hsv3.cs
          have hE : Space f1 (.agg #[.int .i64 J, sv3]) J Z := .mk hsv3
          try simp (disch := first | omega | (simp; done) | fail) [wrap64c, if_pos, if_neg, opAnd, opOr, opXor, opDiff, opShr, opBit, ntv, csv, ntw, csw, hbig, ntsv1, cssv1, gs, ntu1, csu1, lnu1, ntu2, csu2, lnu2, c1, eL', lnT, eI, eO, z1, z2, z3, hl0', ntu3, csu3, lnu3, hone', hgt1, eA1, hfu, e1, e5, e12, e14, e15, e26, hlt, ntsv2, cssv2, gt, d1, d2, ntsv3, cssv3, putCells]
          first | refine WY_heap fun f2 q_f2 => ?_ | refine callG_heap fun f2 q_f2 => ?_ | refine callP_heap fun f2 q_f2 => ?_ | refine callS_heap fun f2 q_f2 => ?_ | refine RY_heap fun f2 q_f2 => ?_ | refine PY_heap fun f2 q_f2 => ?_ | refine SY_heap fun f2 q_f2 => ?_ | refine doneY_heap fun f2 q_f2 => ?_ | refine loopK_heap fun f2 q_f2 => ?_ | refine thenY_heap fun f2 q_f2 => ?_ | refine thenM_heap fun f2 q_f2 => ?_
          have b2 : Adds f1 f2 := by rw [q_f2]; exact (by first | exact aK | exact kK)
          have n2 := b2.1.1
          have K2 := K1.trans b2.1
          have hv := hv.keep b2.1
          have hw := hw.keep b2.1
          have hE := hE.keep b2.1
          have m2 : f2.next = f1.next + 1 := by simp [q_f2]
          have gu : f2.get f1.next = .cells [.int .i64 J, sv3] true true 1 := by simp [q_f2]
          have lZ' : Z.length < 2 ^ 39 := by omega
          refine callG_c (by simp) (by simp) ?ha (implLongest_ok f2 _ J Z hE lZ') ?_
          (case ha => simp (disch := first | omega | (simp; done) | fail) [wrap64c, if_pos, if_neg, opAnd, opOr, opXor, opDiff, opShr, opBit, ntv, csv, ntw, csw, hbig, ntsv1, cssv1, gs, ntu1, csu1, lnu1, ntu2, csu2, lnu2, c1, eL', lnT, eI, eO, z1, z2, z3, hl0', ntu3, csu3, lnu3, hone', hgt1, eA1, hfu, e1, e5, e12, e14, e15, e26, hlt, ntsv2, cssv2, gt, d1, d2, ntsv3, cssv3, gu])
          try simp (disch := first | omega | (simp; done) | fail) [wrap64c, if_pos, if_neg, opAnd, opOr, opXor, opDiff, opShr, opBit, ntv, csv, ntw, csw, hbig, ntsv1, cssv1, gs, ntu1, csu1, lnu1, ntu2, csu2, lnu2, c1, eL', lnT, eI, eO, z1, z2, z3, hl0', ntu3, csu3, lnu3, hone', hgt1, eA1, hfu, e1, e5, e12, e14, e15, e26, hlt, ntsv2, cssv2, gt, d1, d2, ntsv3, cssv3, gu]
          refine callG_c (by simp) (by simp) ?ha (specLongest_ok f2 _ J Z hE lZ') ?_
          (case ha => simp (disch := first | omega | (simp; done) | fail) [wrap64c, if_pos, if_neg, opAnd, opOr, opXor, opDiff, opShr, opBit, ntv, csv, ntw, csw, hbig, ntsv1, cssv1, gs, ntu1, csu1, lnu1, ntu2, csu2, lnu2, c1, eL', lnT, eI, eO, z1, z2, z3, hl0', ntu3, csu3, lnu3, hone', hgt1, eA1, hfu, e1, e5, e12, e14, e15, e26, hlt, ntsv2, cssv2, gt, d1, d2, ntsv3, cssv3, gu])
          try simp (disch := first | omega | (simp; done) | fail) [wrap64c, if_pos, if_neg, opAnd, opOr, opXor, opDiff, opShr, opBit, ntv, csv, ntw, csw, hbig, ntsv1, cssv1, gs, ntu1, csu1, lnu1, ntu2, csu2, lnu2, c1, eL', lnT, eI, eO, z1, z2, z3, hl0', ntu3, csu3, lnu3, hone', hgt1, eA1, hfu, e1, e5, e12, e14, e15, e26, hlt, ntsv2, cssv2, gt, d1, d2, ntsv3, cssv3, gu]
          exact done_ret rfl (by simp [K2])
        · obtain ⟨m2, ys2, x, eG, eY, ex, gd2, hx⟩ := oneB_true d1
          subst eG eY ex
          have n27 := gd2.n7
          have hb2 := bit7 n27
          have xlt := gd2.lt x hx
          have x128 : x < 128 := by omega
          obtain ⟨iv, hiv⟩ : ∃ q, q = innerN (fam ys2) x := ⟨_, rfl⟩
          obtain ⟨ov, hov⟩ : ∃ q, q = outerN (fam ys2) m2 x := ⟨_, rfl⟩
          have ivl : iv < bit m2 := hiv ▸ innerN_le gd2 hx
          have ovl : ov < bit m2 := hov ▸ outerN_lt _ _ _
          have eI : innerR (m2 : Int) (toN ys2) (x : Int) = (iv : Int) := by simp [innerR, d1, hiv]
          have eO : outerR (m2 : Int) (toN ys2) (x : Int) = (ov : Int) := by simp [outerR, d1, hov]
          have hap : nAnd iv ov = 0 := by rw [hiv, hov]; exact fringes_apart _ _
          have pOK : prfOK (m2 : Int) (toN ys2) (x : Int) (iv : Int) (ov : Int) = true := by simp [prfOK, d1, ansB_of gd2 ivl ovl hap]
          have pB : prfB (m2 : Int) (toN ys2) (x : Int) (iv : Int) (ov : Int) = true := by simp [prfB, pOK]; rw [hiv, hov]; exact fringes_proof gd2 hx
          have q1 := implIsProof_ok g2 _ (m2 : Int) (toN ys2) (x : Int) (iv : Int) (ov : Int) hD lY'
          rw [pOK, pB] at q1
          cases d2 : prfOK (m2 : Int) (toN ys2) (x : Int) p q
          · try simp (disch := first | omega | (simp; done) | fail) [wrap64c, if_pos, if_neg, opAnd, opOr, opXor, opDiff, opShr, opBit, ntv, csv, ntw, csw, hbig, ntsv1, cssv1, gs, ntu1, csu1, lnu1, ntu2, csu2, lnu2, c1, eL', lnT, eI, eO, z1, z2, z3, hl0', ntu3, csu3, lnu3, hone', hgt1, eA1, hfu, e1, e5, e12, e14, e15, e26, hlt, ntsv2, cssv2, gt, d1, d2]
            refine callG_c (by simp) (by simp) ?ha (q1) ?_
            (case ha => simp (disch := first | omega | (simp; done) | fail) [wrap64c, if_pos, if_neg, opAnd, opOr, opXor, opDiff, opShr, opBit, ntv, csv, ntw, csw, hbig, ntsv1, cssv1, gs, ntu1, csu1, lnu1, ntu2, csu2, lnu2, c1, eL', lnT, eI, eO, z1, z2, z3, hl0', ntu3, csu3, lnu3, hone', hgt1, eA1, hfu, e1, e5, e12, e14, e15, e26, hlt, ntsv2, cssv2, gt, d1, d2])
            try simp (disch := first | omega | (simp; done) | fail) [wrap64c, if_pos, if_neg, opAnd, opOr, opXor, opDiff, opShr, opBit, ntv, csv, ntw, csw, hbig, ntsv1, cssv1, gs, ntu1, csu1, lnu1, ntu2, csu2, lnu2, c1, eL', lnT, eI, eO, z1, z2, z3, hl0', ntu3, csu3, lnu3, hone', hgt1, eA1, hfu, e1, e5, e12, e14, e15, e26, hlt, ntsv2, cssv2, gt, d1, d2]
            obtain ⟨f0, hf0⟩ : ∃ x, x = g2 := ⟨_, rfl⟩
            have K0 := K2
            rw [← hf0] at K0
            have hv := hv
            have hw := hw
            rw [← hf0] at hv
            rw [← hf0] at hw
            try rw [← hf0]
            obtain ⟨_, f1, p1, a1, s3, J, Z, rfl, hE, lZ⟩ := drawLongest_ok f0 w ys (bytes_old hw)
            refine callG_c (by simp) (by simp) ?ha (p1) ?_
            (case ha => simp (disch := first | omega | (simp; done) | fail) [wrap64c, if_pos, if_neg, opAnd, opOr, opXor, opDiff, opShr, opBit, ntv, csv, ntw, csw, hbig, ntsv1, cssv1, gs, ntu1, csu1, lnu1, ntu2, csu2, lnu2, c1, eL', lnT, eI, eO, z1, z2, z3, hl0', ntu3, csu3, lnu3, hone', hgt1, eA1, hfu, e1, e5, e12, e14, e15, e26, hlt, ntsv2, cssv2, gt, d1, d2])
            have n1 := a1.1.1
            have K1 := K0.trans a1.1
            have hv := hv.keep a1.1
            have hw := hw.keep a1.1
            obtain ⟨sv3, rfl, hsv3⟩ := hE
            have hsv3 := hsv3.ints
            have ntsv3 := hsv3.nt
            have cssv3 := hsv3.cs
            have hE : Space f1 (.agg #[.int .i64 J, sv3]) J Z := .mk hsv3
            try simp (disch := first | omega | (simp; done) | fail) [wrap64c, if_pos, if_neg, opAnd, opOr, opXor, opDiff, opShr, opBit, ntv, csv, ntw, csw, hbig, ntsv1, cssv1, gs, ntu1, csu1, lnu1, ntu2, csu2, lnu2, c1, eL', lnT, eI, eO, z1, z2, z3, hl0', ntu3, csu3, lnu3, hone', hgt1, eA1, hfu, e1, e5, e12, e14, e15, e26, hlt, ntsv2, cssv2, gt, d1, d2, ntsv3, cssv3, putCells]
            first | refine WY_heap fun f2 q_f2 => ?_ | refine callG_heap fun f2 q_f2 => ?_ | refine callP_heap fun f2 q_f2 => ?_ | refine callS_heap fun f2 q_f2 => ?_ | refine RY_heap fun f2 q_f2 => ?_ | refine PY_heap fun f2 q_f2 => ?_ | refine SY_heap fun f2 q_f2 => ?_ | refine doneY_heap fun f2 q_f2 => ?_ | refine loopK_heap fun f2 q_f2 => ?_ | refine thenY_heap fun f2 q_f2 => ?_ | refine thenM_heap fun f2 q_f2 => ?_
            have b2 : Adds f1 f2 := by rw [q_f2]; exact (by first | exact aK | exact kK)
            have n2 := b2.1.1
            have K2 := K1.trans b2.1
            have hv := hv.keep b2.1
            have hw := hw.keep b2.1
            have hE := hE.keep b2.1
            have m2 : f2.next = f1.next + 1 := by simp [q_f2]
            have gu : f2.get f1.next = .cells [.int .i64 J, sv3] true true 1 := by simp [q_f2]
            have lZ' : Z.length < 2 ^ 39 := by omega
            refine callG_c (by simp) (by simp) ?ha (implLongest_ok f2 _ J Z hE lZ') ?_
            (case ha => simp (disch := first | omega | (simp; done) | fail) [wrap64c, if_pos, if_neg, opAnd, opOr, opXor, opDiff, opShr, opBit, ntv, csv, ntw, csw, hbig, ntsv1, cssv1, gs, ntu1, csu1, lnu1, ntu2, csu2, lnu2, c1, eL', lnT, eI, eO, z1, z2, z3, hl0', ntu3, csu3, lnu3, hone', hgt1, eA1, hfu, e1, e5, e12, e14, e15, e26, hlt, ntsv2, cssv2, gt, d1, d2, ntsv3, cssv3, gu])
            try simp (disch := first | omega | (simp; done) | fail) [wrap64c, if_pos, if_neg, opAnd, opOr, opXor, opDiff, opShr, opBit, ntv, csv, ntw, csw, hbig, ntsv1, cssv1, gs, ntu1, csu1, lnu1, ntu2, csu2, lnu2, c1, eL', lnT, eI, eO, z1, z2, z3, hl0', ntu3, csu3, lnu3, hone', hgt1, eA1, hfu, e1, e5, e12, e14, e15, e26, hlt, ntsv2, cssv2, gt, d1, d2, ntsv3, cssv3, gu]
            refine callG_c (by simp) (by simp) ?ha (specLongest_ok f2 _ J Z hE lZ') ?_
            (case ha => simp (disch := first | omega | (simp; done) | fail) [wrap64c, if_pos, if_neg, opAnd, opOr, opXor, opDiff, opShr, opBit, ntv, csv, ntw, csw, hbig, ntsv1, cssv1, gs, ntu1, csu1, lnu1, ntu2, csu2, lnu2, c1, eL', lnT, eI, eO, z1, z2, z3, hl0', ntu3, csu3, lnu3, hone', hgt1, eA1, hfu, e1, e5, e12, e14, e15, e26, hlt, ntsv2, cssv2, gt, d1, d2, ntsv3, cssv3, gu])
            try simp (disch := first | omega | (simp; done) | fail) [wrap64c, if_pos, if_neg, opAnd, opOr, opXor, opDiff, opShr, opBit, ntv, csv, ntw, csw, hbig, ntsv1, cssv1, gs, ntu1, csu1, lnu1, ntu2, csu2, lnu2, c1, eL', lnT, eI, eO, z1, z2, z3, hl0', ntu3, csu3, lnu3, hone', hgt1, eA1, hfu, e1, e5, e12, e14, e15, e26, hlt, ntsv2, cssv2, gt, d1, d2, ntsv3, cssv3, gu]
            exact done_ret rfl (by simp [K2])
          · have hans : ansB (m2 : Int) (toN ys2) p q = true := by simpa [prfOK, d1] using d2
            obtain ⟨m3, ys3, a3, b3, qa1, qa2, qa3, qa4, _, la3, lb3, ab3⟩ := ansB_true hans
            have qb1 : m3 = m2 := by omega
            have qb2 := toN_inj.1 qa2
            subst qb1 qb2 qa3 qa4
            have hPB : prfB (m3 : Int) (toN ys2) (x : Int) (a3 : Int) (b3 : Int) = decide (leftN ys2 a3 b3 = [x]) := by simp [prfB, d2]
            have hiff := proof_iff gd2 hx a3 b3
            rw [← hiv, ← hov] at hiff
            have hb2b := bit7 n27
            by_cases kk0 : ndiff a3 x = 0
            case neg =>
              have hpf : prfB (m3 : Int) (toN ys2) (x : Int) (a3 : Int) (b3 : Int) = false := by rw [hPB]; exact decide_eq_false fun h => kk0 ((hiff.1 h).1)
              try simp (disch := first | omega | (simp; done) | fail) [wrap64c, if_pos, if_neg, opAnd, opOr, opXor, opDiff, opShr, opBit, ntv, csv, ntw, csw, hbig, ntsv1, cssv1, gs, ntu1, csu1, lnu1, ntu2, csu2, lnu2, c1, eL', lnT, eI, eO, z1, z2, z3, hl0', ntu3, csu3, lnu3, hone', hgt1, eA1, hfu, e1, e5, e12, e14, e15, e26, hlt, ntsv2, cssv2, gt, d1, d2, kk0, hpf]
              refine callG_c (by simp) (by simp) ?ha (q1) ?_
              (case ha => simp (disch := first | omega | (simp; done) | fail) [wrap64c, if_pos, if_neg, opAnd, opOr, opXor, opDiff, opShr, opBit, ntv, csv, ntw, csw, hbig, ntsv1, cssv1, gs, ntu1, csu1, lnu1, ntu2, csu2, lnu2, c1, eL', lnT, eI, eO, z1, z2, z3, hl0', ntu3, csu3, lnu3, hone', hgt1, eA1, hfu, e1, e5, e12, e14, e15, e26, hlt, ntsv2, cssv2, gt, d1, d2, kk0, hpf])
              try simp (disch := first | omega | (simp; done) | fail) [wrap64c, if_pos, if_neg, opAnd, opOr, opXor, opDiff, opShr, opBit, ntv, csv, ntw, csw, hbig, ntsv1, cssv1, gs, ntu1, csu1, lnu1, ntu2, csu2, lnu2, c1, eL', lnT, eI, eO, z1, z2, z3, hl0', ntu3, csu3, lnu3, hone', hgt1, eA1, hfu, e1, e5, e12, e14, e15, e26, hlt, ntsv2, cssv2, gt, d1, d2, kk0, hpf]
              obtain ⟨f0, hf0⟩ : ∃ x, x = g2 := ⟨_, rfl⟩
              have K0 := K2
              rw [← hf0] at K0
              have hv := hv
              have hw := hw
              rw [← hf0] at hv
              rw [← hf0] at hw
              try rw [← hf0]
              obtain ⟨_, f1, p1, a1, s3, J, Z, rfl, hE, lZ⟩ := drawLongest_ok f0 w ys (bytes_old hw)
              refine callG_c (by simp) (by simp) ?ha (p1) ?_
              (case ha => simp (disch := first | omega | (simp; done) | fail) [wrap64c, if_pos, if_neg, opAnd, opOr, opXor, opDiff, opShr, opBit, ntv, csv, ntw, csw, hbig, ntsv1, cssv1, gs, ntu1, csu1, lnu1, ntu2, csu2, lnu2, c1, eL', lnT, eI, eO, z1, z2, z3, hl0', ntu3, csu3, lnu3, hone', hgt1, eA1, hfu, e1, e5, e12, e14, e15, e26, hlt, ntsv2, cssv2, gt, d1, d2, kk0, hpf])
              have n1 := a1.1.1
              have K1 := K0.trans a1.1
              have hv := hv.keep a1.1
              have hw := hw.keep a1.1
              obtain ⟨sv3, rfl, hsv3⟩ := hE
              have hsv3 := hsv3.ints
              have ntsv3 := hsv3.nt
              have cssv3 := hsv3.cs
              have hE : Space f1 (.agg #[.int .i64 J, sv3]) J Z := .mk hsv3
              try simp (disch := first | omega | (simp; done) | fail) [wrap64c, if_pos, if_neg, opAnd, opOr, opXor, opDiff, opShr, opBit, ntv, csv, ntw, csw, hbig, ntsv1, cssv1, gs, ntu1, csu1, lnu1, ntu2, csu2, lnu2, c1, eL', lnT, eI, eO, z1, z2, z3, hl0', ntu3, csu3, lnu3, hone', hgt1, eA1, hfu, e1, e5, e12, e14, e15, e26, hlt, ntsv2, cssv2, gt, d1, d2, kk0, hpf, ntsv3, cssv3, putCells]
              first | refine WY_heap fun f2 q_f2 => ?_ | refine callG_heap fun f2 q_f2 => ?_ | refine callP_heap fun f2 q_f2 => ?_ | refine callS_heap fun f2 q_f2 => ?_ | refine RY_heap fun f2 q_f2 => ?_ | refine PY_heap fun f2 q_f2 => ?_ | refine SY_heap fun f2 q_f2 => ?_ | refine doneY_heap fun f2 q_f2 => ?_ | refine loopK_heap fun f2 q_f2 => ?_ | refine thenY_heap fun f2 q_f2 => ?_ | refine thenM_heap fun f2 q_f2 => ?_
              have b2 : Adds f1 f2 := by rw [q_f2]; exact (by first | exact aK | exact kK)
              have n2 := b2.1.1
              have K2 := K1.trans b2.1
              have hv := hv.keep b2.1
              have hw := hw.keep b2.1
              have hE := hE.keep b2.1
              have m2 : f2.next = f1.next + 1 := by simp [q_f2]
              have gu : f2.get f1.next = .cells [.int .i64 J, sv3] true true 1 := by simp [q_f2]
              have lZ' : Z.length < 2 ^ 39 := by omega
              refine callG_c (by simp) (by simp) ?ha (implLongest_ok f2 _ J Z hE lZ') ?_
              (case ha => simp (disch := first | omega | (simp; done) | fail) [wrap64c, if_pos, if_neg, opAnd, opOr, opXor, opDiff, opShr, opBit, ntv, csv, ntw, csw, hbig, ntsv1, cssv1, gs, ntu1, csu1, lnu1, ntu2, csu2, lnu2, c1, eL', lnT, eI, eO, z1, z2, z3, hl0', ntu3, csu3, lnu3, hone', hgt1, eA1, hfu, e1, e5, e12, e14, e15, e26, hlt, ntsv2, cssv2, gt, d1, d2, kk0, hpf, ntsv3, cssv3, gu])
              try simp (disch := first | omega | (simp; done) | fail) [wrap64c, if_pos, if_neg, opAnd, opOr, opXor, opDiff, opShr, opBit, ntv, csv, ntw, csw, hbig, ntsv1, cssv1, gs, ntu1, csu1, lnu1, ntu2, csu2, lnu2, c1, eL', lnT, eI, eO, z1, z2, z3, hl0', ntu3, csu3, lnu3, hone', hgt1, eA1, hfu, e1, e5, e12, e14, e15, e26, hlt, ntsv2, cssv2, gt, d1, d2, kk0, hpf, ntsv3, cssv3, gu]
              refine callG_c (by simp) (by simp) ?ha (specLongest_ok f2 _ J Z hE lZ') ?_
              (case ha => simp (disch := first | omega | (simp; done) | fail) [wrap64c, if_pos, if_neg, opAnd, opOr, opXor, opDiff, opShr, opBit, ntv, csv, ntw, csw, hbig, ntsv1, cssv1, gs, ntu1, csu1, lnu1, ntu2, csu2, lnu2, c1, eL', lnT, eI, eO, z1, z2, z3, hl0', ntu3, csu3, lnu3, hone', hgt1, eA1, hfu, e1, e5, e12, e14, e15, e26, hlt, ntsv2, cssv2, gt, d1, d2, kk0, hpf, ntsv3, cssv3, gu])
              try simp (disch := first | omega | (simp; done) | fail) [wrap64c, if_pos, if_neg, opAnd, opOr, opXor, opDiff, opShr, opBit, ntv, csv, ntw, csw, hbig, ntsv1, cssv1, gs, ntu1, csu1, lnu1, ntu2, csu2, lnu2, c1, eL', lnT, eI, eO, z1, z2, z3, hl0', ntu3, csu3, lnu3, hone', hgt1, eA1, hfu, e1, e5, e12, e14, e15, e26, hlt, ntsv2, cssv2, gt, d1, d2, kk0, hpf, ntsv3, cssv3, gu]
              exact done_ret rfl (by simp [K2])
            by_cases kk1 : nAnd b3 x = 0
            case neg =>
              have hpf : prfB (m3 : Int) (toN ys2) (x : Int) (a3 : Int) (b3 : Int) = false := by rw [hPB]; exact decide_eq_false fun h => kk1 ((hiff.1 h).2.1)
              try simp (disch := first | omega | (simp; done) | fail) [wrap64c, if_pos, if_neg, opAnd, opOr, opXor, opDiff, opShr, opBit, ntv, csv, ntw, csw, hbig, ntsv1, cssv1, gs, ntu1, csu1, lnu1, ntu2, csu2, lnu2, c1, eL', lnT, eI, eO, z1, z2, z3, hl0', ntu3, csu3, lnu3, hone', hgt1, eA1, hfu, e1, e5, e12, e14, e15, e26, hlt, ntsv2, cssv2, gt, d1, d2, kk0, kk1, hpf]
              refine callG_c (by simp) (by simp) ?ha (q1) ?_
              (case ha => simp (disch := first | omega | (simp; done) | fail) [wrap64c, if_pos, if_neg, opAnd, opOr, opXor, opDiff, opShr, opBit, ntv, csv, ntw, csw, hbig, ntsv1, cssv1, gs, ntu1, csu1, lnu1, ntu2, csu2, lnu2, c1, eL', lnT, eI, eO, z1, z2, z3, hl0', ntu3, csu3, lnu3, hone', hgt1, eA1, hfu, e1, e5, e12, e14, e15, e26, hlt, ntsv2, cssv2, gt, d1, d2, kk0, kk1, hpf])
              try simp (disch := first | omega | (simp; done) | fail) [wrap64c, if_pos, if_neg, opAnd, opOr, opXor, opDiff, opShr, opBit, ntv, csv, ntw, csw, hbig, ntsv1, cssv1, gs, ntu1, csu1, lnu1, ntu2, csu2, lnu2, c1, eL', lnT, eI, eO, z1, z2, z3, hl0', ntu3, csu3, lnu3, hone', hgt1, eA1, hfu, e1, e5, e12, e14, e15, e26, hlt, ntsv2, cssv2, gt, d1, d2, kk0, kk1, hpf]
              obtain ⟨f0, hf0⟩ : ∃ x, x = g2 := ⟨_, rfl⟩
              have K0 := K2
              rw [← hf0] at K0
              have hv := hv
              have hw := hw
              rw [← hf0] at hv
              rw [← hf0] at hw
              try rw [← hf0]
              obtain ⟨_, f1, p1, a1, s3, J, Z, rfl, hE, lZ⟩ := drawLongest_ok f0 w ys (bytes_old hw)
              refine callG_c (by simp) (by simp) ?ha (p1) ?_
              (case ha => simp (disch := first | omega | (simp; done) | fail) [wrap64c, if_pos, if_neg, opAnd, opOr, opXor, opDiff, opShr, opBit, ntv, csv, ntw, csw, hbig, ntsv1, cssv1, gs, ntu1, csu1, lnu1, ntu2, csu2, lnu2, c1, eL', lnT, eI, eO, z1, z2, z3, hl0', ntu3, csu3, lnu3, hone', hgt1, eA1, hfu, e1, e5, e12, e14, e15, e26, hlt, ntsv2, cssv2, gt, d1, d2, kk0, kk1, hpf])
              have n1 := a1.1.1
              have K1 := K0.trans a1.1
              have hv := hv.keep a1.1
              have hw := hw.keep a1.1
              obtain ⟨sv3, rfl, hsv3⟩ := hE
              have hsv3 := hsv3.ints
              have ntsv3 := hsv3.nt
              have cssv3 := hsv3.cs
              have hE : Space f1 (.agg #[.int .i64 J, sv3]) J Z := .mk hsv3
              try simp (disch := first | omega | (simp; done) | fail) [wrap64c, if_pos, if_neg, opAnd, opOr, opXor, opDiff, opShr, opBit, ntv, csv, ntw, csw, hbig, ntsv1, cssv1, gs, ntu1, csu1, lnu1, ntu2, csu2, lnu2, c1, eL', lnT, eI, eO, z1, z2, z3, hl0', ntu3, csu3, lnu3, hone', hgt1, eA1, hfu, e1, e5, e12, e14, e15, e26, hlt, ntsv2, cssv2, gt, d1, d2, kk0, kk1, hpf, ntsv3, cssv3, putCells]
              first | refine WY_heap fun f2 q_f2 => ?_ | refine callG_heap fun f2 q_f2 => ?_ | refine callP_heap fun f2 q_f2 => ?_ | refine callS_heap fun f2 q_f2 => ?_ | refine RY_heap fun f2 q_f2 => ?_ | refine PY_heap fun f2 q_f2 => ?_ | refine SY_heap fun f2 q_f2 => ?_ | refine doneY_heap fun f2 q_f2 => ?_ | refine loopK_heap fun f2 q_f2 => ?_ | refine thenY_heap fun f2 q_f2 => ?_ | refine thenM_heap fun f2 q_f2 => ?_
              have b2 : Adds f1 f2 := by rw [q_f2]; exact (by first | exact aK | exact kK)
              have n2 := b2.1.1
              have K2 := K1.trans b2.1
              have hv := hv.keep b2.1
              have hw := hw.keep b2.1
              have hE := hE.keep b2.1
              have m2 : f2.next = f1.next + 1 := by simp [q_f2]
              have gu : f2.get f1.next = .cells [.int .i64 J, sv3] true true 1 := by simp [q_f2]
              have lZ' : Z.length < 2 ^ 39 := by omega
              refine callG_c (by simp) (by simp) ?ha (implLongest_ok f2 _ J Z hE lZ') ?_
              (case ha => simp (disch := first | omega | (simp; done) | fail) [wrap64c, if_pos, if_neg, opAnd, opOr, opXor, opDiff, opShr, opBit, ntv, csv, ntw, csw, hbig, ntsv1, cssv1, gs, ntu1, csu1, lnu1, ntu2, csu2, lnu2, c1, eL', lnT, eI, eO, z1, z2, z3, hl0', ntu3, csu3, lnu3, hone', hgt1, eA1, hfu, e1, e5, e12, e14, e15, e26, hlt, ntsv2, cssv2, gt, d1, d2, kk0, kk1, hpf, ntsv3, cssv3, gu])
              try simp (disch := first | omega | (simp; done) | fail) [wrap64c, if_pos, if_neg, opAnd, opOr, opXor, opDiff, opShr, opBit, ntv, csv, ntw, csw, hbig, ntsv1, cssv1, gs, ntu1, csu1, lnu1, ntu2, csu2, lnu2, c1, eL', lnT, eI, eO, z1, z2, z3, hl0', ntu3, csu3, lnu3, hone', hgt1, eA1, hfu, e1, e5, e12, e14, e15, e26, hlt, ntsv2, cssv2, gt, d1, d2, kk0, kk1, hpf, ntsv3, cssv3, gu]
              refine callG_c (by simp) (by simp) ?ha (specLongest_ok f2 _ J Z hE lZ') ?_
              (case ha => simp (disch := first | omega | (simp; done) | fail) [wrap64c, if_pos, if_neg, opAnd, opOr, opXor, opDiff, opShr, opBit, ntv, csv, ntw, csw, hbig, ntsv1, cssv1, gs, ntu1, csu1, lnu1, ntu2, csu2, lnu2, c1, eL', lnT, eI, eO, z1, z2, z3, hl0', ntu3, csu3, lnu3, hone', hgt1, eA1, hfu, e1, e5, e12, e14, e15, e26, hlt, ntsv2, cssv2, gt, d1, d2, kk0, kk1, hpf, ntsv3, cssv3, gu])
              try simp (disch := first | omega | (simp; done) | fail) [wrap64c, if_pos, if_neg, opAnd, opOr, opXor, opDiff, opShr, opBit, ntv, csv, ntw, csw, hbig, ntsv1, cssv1, gs, ntu1, csu1, lnu1, ntu2, csu2, lnu2, c1, eL', lnT, eI, eO, z1, z2, z3, hl0', ntu3, csu3, lnu3, hone', hgt1, eA1, hfu, e1, e5, e12, e14, e15, e26, hlt, ntsv2, cssv2, gt, d1, d2, kk0, kk1, hpf, ntsv3, cssv3, gu]
              exact done_ret rfl (by simp [K2])
            by_cases kk2 : ndiff iv a3 = 0
            case neg =>
              have hpf : prfB (m3 : Int) (toN ys2) (x : Int) (a3 : Int) (b3 : Int) = false := by rw [hPB]; exact decide_eq_false fun h => kk2 ((hiff.1 h).2.2.1)
              try simp (disch := first | omega | (simp; done) | fail) [wrap64c, if_pos, if_neg, opAnd, opOr, opXor, opDiff, opShr, opBit, ntv, csv, ntw, csw, hbig, ntsv1, cssv1, gs, ntu1, csu1, lnu1, ntu2, csu2, lnu2, c1, eL', lnT, eI, eO, z1, z2, z3, hl0', ntu3, csu3, lnu3, hone', hgt1, eA1, hfu, e1, e5, e12, e14, e15, e26, hlt, ntsv2, cssv2, gt, d1, d2, kk0, kk1, kk2, hpf]
              refine callG_c (by simp) (by simp) ?ha (q1) ?_
              (case ha => simp (disch := first | omega | (simp; done) | fail) [wrap64c, if_pos, if_neg, opAnd, opOr, opXor, opDiff, opShr, opBit, ntv, csv, ntw, csw, hbig, ntsv1, cssv1, gs, ntu1, csu1, lnu1, ntu2, csu2, lnu2, c1, eL', lnT, eI, eO, z1, z2, z3, hl0', ntu3, csu3, lnu3, hone', hgt1, eA1, hfu, e1, e5, e12, e14, e15, e26, hlt, ntsv2, cssv2, gt, d1, d2, kk0, kk1, kk2, hpf])
              try simp (disch := first | omega | (simp; done) | fail) [wrap64c, if_pos, if_neg, opAnd, opOr, opXor, opDiff, opShr, opBit, ntv, csv, ntw, csw, hbig, ntsv1, cssv1, gs, ntu1, csu1, lnu1, ntu2, csu2, lnu2, c1, eL', lnT, eI, eO, z1, z2, z3, hl0', ntu3, csu3, lnu3, hone', hgt1, eA1, hfu, e1, e5, e12, e14, e15, e26, hlt, ntsv2, cssv2, gt, d1, d2, kk0, kk1, kk2, hpf]
              obtain ⟨f0, hf0⟩ : ∃ x, x = g2 := ⟨_, rfl⟩
              have K0 := K2
              rw [← hf0] at K0
              have hv := hv
              have hw := hw
              rw [← hf0] at hv
              rw [← hf0] at hw
              try rw [← hf0]
              obtain ⟨_, f1, p1, a1, s3, J, Z, rfl, hE, lZ⟩ := drawLongest_ok f0 w ys (bytes_old hw)
              refine callG_c (by simp) (by simp) ?ha (p1) ?_
              (case ha => simp (disch := first | omega | (simp; done) | fail) [wrap64c, if_pos, if_neg, opAnd, opOr, opXor, opDiff, opShr, opBit, ntv, csv, ntw, csw, hbig, ntsv1, cssv1, gs, ntu1, csu1, lnu1, ntu2, csu2, lnu2, c1, eL', lnT, eI, eO, z1, z2, z3, hl0', ntu3, csu3, lnu3, hone', hgt1, eA1, hfu, e1, e5, e12, e14, e15, e26, hlt, ntsv2, cssv2, gt, d1, d2, kk0, kk1, kk2, hpf])
              have n1 := a1.1.1
              have K1 := K0.trans a1.1
              have hv := hv.keep a1.1
              have hw := hw.keep a1.1
              obtain ⟨sv3, rfl, hsv3⟩ := hE
              have hsv3 := hsv3.ints
              have ntsv3 := hsv3.nt
              have cssv3 := hsv3.cs
              have hE : Space f1 (.agg #[.int .i64 J, sv3]) J Z := .mk hsv3
              try simp (disch := first | omega | (simp; done) | fail) [wrap64c, if_pos, if_neg, opAnd, opOr, opXor, opDiff, opShr, opBit, ntv, csv, ntw, csw, hbig, ntsv1, cssv1, gs, ntu1, csu1, lnu1, ntu2, csu2, lnu2, c1, eL', lnT, eI, eO, z1, z2, z3, hl0', ntu3, csu3, lnu3, hone', hgt1, eA1, hfu, e1, e5, e12, e14, e15, e26, hlt, ntsv2, cssv2, gt, d1, d2, kk0, kk1, kk2, hpf, ntsv3, cssv3, putCells]
              first | refine WY_heap fun f2 q_f2 => ?_ | refine callG_heap fun f2 q_f2 => ?_ | refine callP_heap fun f2 q_f2 => ?_ | refine callS_heap fun f2 q_f2 => ?_ | refine RY_heap fun f2 q_f2 => ?_ | refine PY_heap fun f2 q_f2 => ?_ | refine SY_heap fun f2 q_f2 => ?_ | refine doneY_heap fun f2 q_f2 => ?_ | refine loopK_heap fun f2 q_f2 => ?_ | refine thenY_heap fun f2 q_f2 => ?_ | refine thenM_heap fun f2 q_f2 => ?_
              have b2 : Adds f1 f2 := by rw [q_f2]; exact (by first | exact aK | exact kK)
              have n2 := b2.1.1
              have K2 := K1.trans b2.1
              have hv := hv.keep b2.1
              have hw := hw.keep b2.1
              have hE := hE.keep b2.1
              have m2 : f2.next = f1.next + 1 := by simp [q_f2]
              have gu : f2.get f1.next = .cells [.int .i64 J, sv3] true true 1 := by simp [q_f2]
              have lZ' : Z.length < 2 ^ 39 := by omega
              refine callG_c (by simp) (by simp) ?ha (implLongest_ok f2 _ J Z hE lZ') ?_
              (case ha => simp (disch := first | omega | (simp; done) | fail) [wrap64c, if_pos, if_neg, opAnd, opOr, opXor, opDiff, opShr, opBit, ntv, csv, ntw, csw, hbig, ntsv1, cssv1, gs, ntu1, csu1, lnu1, ntu2, csu2, lnu2, c1, eL', lnT, eI, eO, z1, z2, z3, hl0', ntu3, csu3, lnu3, hone', hgt1, eA1, hfu, e1, e5, e12, e14, e15, e26, hlt, ntsv2, cssv2, gt, d1, d2, kk0, kk1, kk2, hpf, ntsv3, cssv3, gu])
              try simp (disch := first | omega | (simp; done) | fail) [wrap64c, if_pos, if_neg, opAnd, opOr, opXor, opDiff, opShr, opBit, ntv, csv, ntw, csw, hbig, ntsv1, cssv1, gs, ntu1, csu1, lnu1, ntu2, csu2, lnu2, c1, eL', lnT, eI, eO, z1, z2, z3, hl0', ntu3, csu3, lnu3, hone', hgt1, eA1, hfu, e1, e5, e12, e14, e15, e26, hlt, ntsv2, cssv2, gt, d1, d2, kk0, kk1, kk2, hpf, ntsv3, cssv3, gu]
              refine callG_c (by simp) (by simp) ?ha (specLongest_ok f2 _ J Z hE lZ') ?_
              (case ha => simp (disch := first | omega | (simp; done) | fail) [wrap64c, if_pos, if_neg, opAnd, opOr, opXor, opDiff, opShr, opBit, ntv, csv, ntw, csw, hbig, ntsv1, cssv1, gs, ntu1, csu1, lnu1, ntu2, csu2, lnu2, c1, eL', lnT, eI, eO, z1, z2, z3, hl0', ntu3, csu3, lnu3, hone', hgt1, eA1, hfu, e1, e5, e12, e14, e15, e26, hlt, ntsv2, cssv2, gt, d1, d2, kk0, kk1, kk2, hpf, ntsv3, cssv3, gu])
              try simp (disch := first | omega | (simp; done) | fail) [wrap64c, if_pos, if_neg, opAnd, opOr, opXor, opDiff, opShr, opBit, ntv, csv, ntw, csw, hbig, ntsv1, cssv1, gs, ntu1, csu1, lnu1, ntu2, csu2, lnu2, c1, eL', lnT, eI, eO, z1, z2, z3, hl0', ntu3, csu3, lnu3, hone', hgt1, eA1, hfu, e1, e5, e12, e14, e15, e26, hlt, ntsv2, cssv2, gt, d1, d2, kk0, kk1, kk2, hpf, ntsv3, cssv3, gu]
              exact done_ret rfl (by simp [K2])
            by_cases kk3 : ndiff ov b3 = 0
            case neg =>
              have hpf : prfB (m3 : Int) (toN ys2) (x : Int) (a3 : Int) (b3 : Int) = false := by rw [hPB]; exact decide_eq_false fun h => kk3 ((hiff.1 h).2.2.2)
              try simp (disch := first | omega | (simp; done) | fail) [wrap64c, if_pos, if_neg, opAnd, opOr, opXor, opDiff, opShr, opBit, ntv, csv, ntw, csw, hbig, ntsv1, cssv1, gs, ntu1, csu1, lnu1, ntu2, csu2, lnu2, c1, eL', lnT, eI, eO, z1, z2, z3, hl0', ntu3, csu3, lnu3, hone', hgt1, eA1, hfu, e1, e5, e12, e14, e15, e26, hlt, ntsv2, cssv2, gt, d1, d2, kk0, kk1, kk2, kk3, hpf]
              refine callG_c (by simp) (by simp) ?ha (q1) ?_
              (case ha => simp (disch := first | omega | (simp; done) | fail) [wrap64c, if_pos, if_neg, opAnd, opOr, opXor, opDiff, opShr, opBit, ntv, csv, ntw, csw, hbig, ntsv1, cssv1, gs, ntu1, csu1, lnu1, ntu2, csu2, lnu2, c1, eL', lnT, eI, eO, z1, z2, z3, hl0', ntu3, csu3, lnu3, hone', hgt1, eA1, hfu, e1, e5, e12, e14, e15, e26, hlt, ntsv2, cssv2, gt, d1, d2, kk0, kk1, kk2, kk3, hpf])
              try simp (disch := first | omega | (simp; done) | fail) [wrap64c, if_pos, if_neg, opAnd, opOr, opXor, opDiff, opShr, opBit, ntv, csv, ntw, csw, hbig, ntsv1, cssv1, gs, ntu1, csu1, lnu1, ntu2, csu2, lnu2, c1, eL', lnT, eI, eO, z1, z2, z3, hl0', ntu3, csu3, lnu3, hone', hgt1, eA1, hfu, e1, e5, e12, e14, e15, e26, hlt, ntsv2, cssv2, gt, d1, d2, kk0, kk1, kk2, kk3, hpf]
              obtain ⟨f0, hf0⟩ : ∃ x, x = g2 := ⟨_, rfl⟩
              have K0 := K2
              rw [← hf0] at K0
              have hv := hv
              have hw := hw
              rw [← hf0] at hv
              rw [← hf0] at hw
              try rw [← hf0]
              obtain ⟨_, f1, p1, a1, s3, J, Z, rfl, hE, lZ⟩ := drawLongest_ok f0 w ys (bytes_old hw)
              refine callG_c (by simp) (by simp) ?ha (p1) ?_
              (case ha => simp (disch := first | omega | (simp; done) | fail) [wrap64c, if_pos, if_neg, opAnd, opOr, opXor, opDiff, opShr, opBit, ntv, csv, ntw, csw, hbig, ntsv1, cssv1, gs, ntu1, csu1, lnu1, ntu2, csu2, lnu2, c1, eL', lnT, eI, eO, z1, z2, z3, hl0', ntu3, csu3, lnu3, hone', hgt1, eA1, hfu, e1, e5, e12, e14, e15, e26, hlt, ntsv2, cssv2, gt, d1, d2, kk0, kk1, kk2, kk3, hpf])
              have n1 := a1.1.1
              have K1 := K0.trans a1.1
              have hv := hv.keep a1.1
              have hw := hw.keep a1.1
              obtain ⟨sv3, rfl, hsv3⟩ := hE
              have hsv3 := hsv3.ints
              have ntsv3 := hsv3.nt
              have cssv3 := hsv3.cs
              have hE : Space f1 (.agg #[.int .i64 J, sv3]) J Z := .mk hsv3
              try simp (disch := first | omega | (simp; done) | fail) [wrap64c, if_pos, if_neg, opAnd, opOr, opXor, opDiff, opShr, opBit, ntv, csv, ntw, csw, hbig, ntsv1, cssv1, gs, ntu1, csu1, lnu1, ntu2, csu2, lnu2, c1, eL', lnT, eI, eO, z1, z2, z3, hl0', ntu3, csu3, lnu3, hone', hgt1, eA1, hfu, e1, e5, e12, e14, e15, e26, hlt, ntsv2, cssv2, gt, d1, d2, kk0, kk1, kk2, kk3, hpf, ntsv3, cssv3, putCells]
              first | refine WY_heap fun f2 q_f2 => ?_ | refine callG_heap fun f2 q_f2 => ?_ | refine callP_heap fun f2 q_f2 => ?_ | refine callS_heap fun f2 q_f2 => ?_ | refine RY_heap fun f2 q_f2 => ?_ | refine PY_heap fun f2 q_f2 => ?_ | refine SY_heap fun f2 q_f2 => ?_ | refine doneY_heap fun f2 q_f2 => ?_ | refine loopK_heap fun f2 q_f2 => ?_ | refine thenY_heap fun f2 q_f2 => ?_ | refine thenM_heap fun f2 q_f2 => ?_
              have b2 : Adds f1 f2 := by rw [q_f2]; exact (by first | exact aK | exact kK)
              have n2 := b2.1.1
              have K2 := K1.trans b2.1
              have hv := hv.keep b2.1
              have hw := hw.keep b2.1
              have hE := hE.keep b2.1
              have m2 : f2.next = f1.next + 1 := by simp [q_f2]
              have gu : f2.get f1.next = .cells [.int .i64 J, sv3] true true 1 := by simp [q_f2]
              have lZ' : Z.length < 2 ^ 39 := by omega
              refine callG_c (by simp) (by simp) ?ha (implLongest_ok f2 _ J Z hE lZ') ?_
              (case ha => simp (disch := first | omega | (simp; done) | fail) [wrap64c, if_pos, if_neg, opAnd, opOr, opXor, opDiff, opShr, opBit, ntv, csv, ntw, csw, hbig, ntsv1, cssv1, gs, ntu1, csu1, lnu1, ntu2, csu2, lnu2, c1, eL', lnT, eI, eO, z1, z2, z3, hl0', ntu3, csu3, lnu3, hone', hgt1, eA1, hfu, e1, e5, e12, e14, e15, e26, hlt, ntsv2, cssv2, gt, d1, d2, kk0, kk1, kk2, kk3, hpf, ntsv3, cssv3, gu])
              try simp (disch := first | omega | (simp; done) | fail) [wrap64c, if_pos, if_neg, opAnd, opOr, opXor, opDiff, opShr, opBit, ntv, csv, ntw, csw, hbig, ntsv1, cssv1, gs, ntu1, csu1, lnu1, ntu2, csu2, lnu2, c1, eL', lnT, eI, eO, z1, z2, z3, hl0', ntu3, csu3, lnu3, hone', hgt1, eA1, hfu, e1, e5, e12, e14, e15, e26, hlt, ntsv2, cssv2, gt, d1, d2, kk0, kk1, kk2, kk3, hpf, ntsv3, cssv3, gu]
              refine callG_c (by simp) (by simp) ?ha (specLongest_ok f2 _ J Z hE lZ') ?_
              (case ha => simp (disch := first | omega | (simp; done) | fail) [wrap64c, if_pos, if_neg, opAnd, opOr, opXor, opDiff, opShr, opBit, ntv, csv, ntw, csw, hbig, ntsv1, cssv1, gs, ntu1, csu1, lnu1, ntu2, csu2, lnu2, c1, eL', lnT, eI, eO, z1, z2, z3, hl0', ntu3, csu3, lnu3, hone', hgt1, eA1, hfu, e1, e5, e12, e14, e15, e26, hlt, ntsv2, cssv2, gt, d1, d2, kk0, kk1, kk2, kk3, hpf, ntsv3, cssv3, gu])
              try simp (disch := first | omega | (simp; done) | fail) [wrap64c, if_pos, if_neg, opAnd, opOr, opXor, opDiff, opShr, opBit, ntv, csv, ntw, csw, hbig, ntsv1, cssv1, gs, ntu1, csu1, lnu1, ntu2, csu2, lnu2, c1, eL', lnT, eI, eO, z1, z2, z3, hl0', ntu3, csu3, lnu3, hone', hgt1, eA1, hfu, e1, e5, e12, e14, e15, e26, hlt, ntsv2, cssv2, gt, d1, d2, kk0, kk1, kk2, kk3, hpf, ntsv3, cssv3, gu]
              exact done_ret rfl (by simp [K2])
            have hpt : prfB (m3 : Int) (toN ys2) (x : Int) (a3 : Int) (b3 : Int) = true := by rw [hPB]; exact decide_eq_true (hiff.2 ⟨kk0, kk1, kk2, kk3⟩)
            try simp (disch := first | omega | (simp; done) | fail) [wrap64c, if_pos, if_neg, opAnd, opOr, opXor, opDiff, opShr, opBit, ntv, csv, ntw, csw, hbig, ntsv1, cssv1, gs, ntu1, csu1, lnu1, ntu2, csu2, lnu2, c1, eL', lnT, eI, eO, z1, z2, z3, hl0', ntu3, csu3, lnu3, hone', hgt1, eA1, hfu, e1, e5, e12, e14, e15, e26, hlt, ntsv2, cssv2, gt, d1, d2, kk0, kk1, kk2, kk3, hpt]
            refine callG_c (by simp) (by simp) ?ha (q1) ?_
            (case ha => simp (disch := first | omega | (simp; done) | fail) [wrap64c, if_pos, if_neg, opAnd, opOr, opXor, opDiff, opShr, opBit, ntv, csv, ntw, csw, hbig, ntsv1, cssv1, gs, ntu1, csu1, lnu1, ntu2, csu2, lnu2, c1, eL', lnT, eI, eO, z1, z2, z3, hl0', ntu3, csu3, lnu3, hone', hgt1, eA1, hfu, e1, e5, e12, e14, e15, e26, hlt, ntsv2, cssv2, gt, d1, d2, kk0, kk1, kk2, kk3, hpt])
            try simp (disch := first | omega | (simp; done) | fail) [wrap64c, if_pos, if_neg, opAnd, opOr, opXor, opDiff, opShr, opBit, ntv, csv, ntw, csw, hbig, ntsv1, cssv1, gs, ntu1, csu1, lnu1, ntu2, csu2, lnu2, c1, eL', lnT, eI, eO, z1, z2, z3, hl0', ntu3, csu3, lnu3, hone', hgt1, eA1, hfu, e1, e5, e12, e14, e15, e26, hlt, ntsv2, cssv2, gt, d1, d2, kk0, kk1, kk2, kk3, hpt]
            obtain ⟨f0, hf0⟩ : ∃ x, x = g2 := ⟨_, rfl⟩
            have K0 := K2
            rw [← hf0] at K0
            have hv := hv
            have hw := hw
            rw [← hf0] at hv
            rw [← hf0] at hw
            try rw [← hf0]
            obtain ⟨_, f1, p1, a1, s3, J, Z, rfl, hE, lZ⟩ := drawLongest_ok f0 w ys (bytes_old hw)
            refine callG_c (by simp) (by simp) ?ha (p1) ?_
            (case ha => simp (disch := first | omega | (simp; done) | fail) [wrap64c, if_pos, if_neg, opAnd, opOr, opXor, opDiff, opShr, opBit, ntv, csv, ntw, csw, hbig, ntsv1, cssv1, gs, ntu1, csu1, lnu1, ntu2, csu2, lnu2, c1, eL', lnT, eI, eO, z1, z2, z3, hl0', ntu3, csu3, lnu3, hone', hgt1, eA1, hfu, e1, e5, e12, e14, e15, e26, hlt, ntsv2, cssv2, gt, d1, d2, kk0, kk1, kk2, kk3, hpt])
            have n1 := a1.1.1
            have K1 := K0.trans a1.1
            have hv := hv.keep a1.1
            have hw := hw.keep a1.1
            obtain ⟨sv3, rfl, hsv3⟩ := hE
            have hsv3 := hsv3.ints
            have ntsv3 := hsv3.nt
            have cssv3 := hsv3.cs
            have hE : Space f1 (.agg #[.int .i64 J, sv3]) J Z := .mk hsv3
            try simp (disch := first | omega | (simp; done) | fail) [wrap64c, if_pos, if_neg, opAnd, opOr, opXor, opDiff, opShr, opBit, ntv, csv, ntw, csw, hbig, ntsv1, cssv1, gs, ntu1, csu1, lnu1, ntu2, csu2, lnu2, c1, eL', lnT, eI, eO, z1, z2, z3, hl0', ntu3, csu3, lnu3, hone', hgt1, eA1, hfu, e1, e5, e12, e14, e15, e26, hlt, ntsv2, cssv2, gt, d1, d2, kk0, kk1, kk2, kk3, hpt, ntsv3, cssv3, putCells]
            first | refine WY_heap fun f2 q_f2 => ?_ | refine callG_heap fun f2 q_f2 => ?_ | refine callP_heap fun f2 q_f2 => ?_ | refine callS_heap fun f2 q_f2 => ?_ | refine RY_heap fun f2 q_f2 => ?_ | refine PY_heap fun f2 q_f2 => ?_ | refine SY_heap fun f2 q_f2 => ?_ | refine doneY_heap fun f2 q_f2 => ?_ | refine loopK_heap fun f2 q_f2 => ?_ | refine thenY_heap fun f2 q_f2 => ?_ | refine thenM_heap fun f2 q_f2 => ?_
            have b2 : Adds f1 f2 := by rw [q_f2]; exact (by first | exact aK | exact kK)
            have n2 := b2.1.1
            have K2 := K1.trans b2.1
            have hv := hv.keep b2.1
            have hw := hw.keep b2.1
            have hE := hE.keep b2.1
            have m2 : f2.next = f1.next + 1 := by simp [q_f2]
            have gu : f2.get f1.next = .cells [.int .i64 J, sv3] true true 1 := by simp [q_f2]
            have lZ' : Z.length < 2 ^ 39 := by omega
            refine callG_c (by simp) (by simp) ?ha (implLongest_ok f2 _ J Z hE lZ') ?_
            (case ha => simp (disch := first | omega | (simp; done) | fail) [wrap64c, if_pos, if_neg, opAnd, opOr, opXor, opDiff, opShr, opBit, ntv, csv, ntw, csw, hbig, ntsv1, cssv1, gs, ntu1, csu1, lnu1, ntu2, csu2, lnu2, c1, eL', lnT, eI, eO, z1, z2, z3, hl0', ntu3, csu3, lnu3, hone', hgt1, eA1, hfu, e1, e5, e12, e14, e15, e26, hlt, ntsv2, cssv2, gt, d1, d2, kk0, kk1, kk2, kk3, hpt, ntsv3, cssv3, gu])
            try simp (disch := first | omega | (simp; done) | fail) [wrap64c, if_pos, if_neg, opAnd, opOr, opXor, opDiff, opShr, opBit, ntv, csv, ntw, csw, hbig, ntsv1, cssv1, gs, ntu1, csu1, lnu1, ntu2, csu2, lnu2, c1, eL', lnT, eI, eO, z1, z2, z3, hl0', ntu3, csu3, lnu3, hone', hgt1, eA1, hfu, e1, e5, e12, e14, e15, e26, hlt, ntsv2, cssv2, gt, d1, d2, kk0, kk1, kk2, kk3, hpt, ntsv3, cssv3, gu]
            refine callG_c (by simp) (by simp) ?ha (specLongest_ok f2 _ J Z hE lZ') ?_
            (case ha => simp (disch := first | omega | (simp; done) | fail) [wrap64c, if_pos, if_neg, opAnd, opOr, opXor, opDiff, opShr, opBit, ntv, csv, ntw, csw, hbig, ntsv1, cssv1, gs, ntu1, csu1, lnu1, ntu2, csu2, lnu2, c1, eL', lnT, eI, eO, z1, z2, z3, hl0', ntu3, csu3, lnu3, hone', hgt1, eA1, hfu, e1, e5, e12, e14, e15, e26, hlt, ntsv2, cssv2, gt, d1, d2, kk0, kk1, kk2, kk3, hpt, ntsv3, cssv3, gu])
            try simp (disch := first | omega | (simp; done) | fail) [wrap64c, if_pos, if_neg, opAnd, opOr, opXor, opDiff, opShr, opBit, ntv, csv, ntw, csw, hbig, ntsv1, cssv1, gs, ntu1, csu1, lnu1, ntu2, csu2, lnu2, c1, eL', lnT, eI, eO, z1, z2, z3, hl0', ntu3, csu3, lnu3, hone', hgt1, eA1, hfu, e1, e5, e12, e14, e15, e26, hlt, ntsv2, cssv2, gt, d1, d2, kk0, kk1, kk2, kk3, hpt, ntsv3, cssv3, gu]
            exact done_ret rfl (by simp [K2])
end Go.Proofs.Ytnncipcldbopgaa
namespace Go.Proofs.Ytnncipcldbopgaa
set_option linter.unusedSimpArgs false
set_option linter.unusedVariables false
open Go Go.Eng Go.ChangeShapes Go.WideShapes Go.ChangeAt Go.RowKit Go.Joins
set_option maxRecDepth 100000 in
theorem answersLeave_lifted (os : Os) (started : os.Started) (H : Type) (enc : TypeId × Value → H) :
    ReturnsInHanded {} Try.checked os 6 .any (Rows.fnAnswersLeaveSpec.pre6 enc Try.prog Try.f6 Rows.fnAnswersLeaveRow.domain false) (Rows.fnAnswersLeaveSpec.post enc Try.prog Try.f6 false true false false) := by
  refine returnsInHanded_of_change (C := Try.checked) own started (by kernel_rfl) Try.func6
    (ChangeSpec.witness6 (enc := enc) (C := Try.checked) false ⟨#[], #[.slice none 0 0, .slice none 0 0], []⟩ 8 (by kernel_rfl) (by kernel_rfl) (by kernel_rfl) (by kernel_rfl)) ?_
  intro W base args ds gs before hval0 hW hcnd _
  have hval : ∀ (j : Nat) t v, Try.f6.params[j]? = some t → args[j]? = some v → Value.okWide Try.prog W .any base t v := hval0
  have hW' := hW
  obtain ⟨p, q, hA0, hV, rfl, hfz, hnd⟩ := hW
  have hA : DataW.TrodAll enc Try.prog W 0 (fun _ => true) true Try.f6.params.toList args.toList ds p := hA0
  rw [Try.params6] at hA hval
  obtain ⟨v0, v1, d0, d1, p0, p1, rfl, rfl, rfl, h0, h1⟩ := trodAll_two hA
  obtain ⟨rfl, rfl⟩ := trodVars_none hV
  simp only [List.append_nil] at hW'
  have lt0 : ∀ x ∈ p0, x.block < W.heap.size := by obtain ⟨m, hm⟩ := h0; exact DataW.trod_lt m _ _ _ hm
  have lt1 : ∀ x ∈ p1, x.block < W.heap.size := by obtain ⟨m, hm⟩ := h1; exact DataW.trod_lt m _ _ _ hm
  obtain ⟨E0, hh0, a0, X0, st0, m0, hva0, hc0⟩ := lay_bytes (hval 0 22 v0 rfl rfl) h0 (start0 W)
  obtain ⟨E1, hh1, a1, X1, st1, m1, hva1, hc1⟩ := lay_bytes (hval 1 22 v1 rfl rfl) h1 st0
  replace hva0 := m1.vrel _ _ hva0
  replace hc0 := hc0.keep m1.keep
  refine (law_calls (args := #[a0, a1]) (args' := #[v0, v1]) st1 rfl (fun i hi => ?_) (lawAnswersLeave_ok hh1 a0 X0 hc0 a1 X1 hc1) rfl).mono fun e W' ⟨he, bel⟩ => ?_
  · have : i = 0 ∨ i = 1 := by simp at hi; omega
    rcases this with rfl | rfl
    · exact hva0
    · exact hva1
  · subst he
    exact ⟨_, rfl, _, _, _, [], _, [], hW', trodAll_mk1 (shut_bool Try.underlying4 _), trodAll_mk2 (Below.trod laidOut (by kernel_rfl) (of_decide_eq_true (by kernel_rfl)) h0 bel lt0) (Below.trod laidOut (by kernel_rfl) (of_decide_eq_true (by kernel_rfl)) h1 bel lt1), rfl, bel.frame _, fun h => by cases h⟩
theorem answersLeave_holds : Rows.FnAnswersLeaveSaid :=
  OpenClaim.holds_of_wide 6 Try.f6 rfl rfl rfl rfl rfl rfl rfl ⟨rfl, rfl, rfl, rfl, rfl⟩ rfl rfl rfl rfl rfl (by kernel_rfl) Try.func6 (by kernel_rfl)
    (of_decide_eq_true (by kernel_rfl)) (by unfold Func.isWrapper; first | (rw [if_pos (by decide +kernel)]; kernel_rfl) | (rw [if_neg (by decide +kernel)]; exact ⟨rfl, rfl⟩))
    (fun os started H enc _ => answersLeave_lifted os started H enc)
end Go.Proofs.Ytnncipcldbopgaa
