/- The law on moves that may wait. -/
import Derived.Test.YtnnjehonbolliaaD6
import Derived.Test.YtnnjehonbolliaaH1
import Derived.Test.YtnnjehonbolliaaM1
import Derived.Test.YtnnjehonbolliaaB9
import Derived.Test.YtnnjehonbolliaaB11
namespace Go.Proofs.Ytnnjehonbolliaa
set_option linter.unusedSimpArgs false
set_option linter.unusedVariables false
set_option maxHeartbeats 4000000
set_option maxRecDepth 20000
open Go Go.Eng
attribute [local irreducible] WD RunD PreD Runs CallOK

theorem lawMovesMayWait_ok (h0 : Hp) (v : Value) (xs : List Int) (hv : Bytes h0 v xs) (w : Value) (ys : List Int) (hw : Bytes h0 w ys) : CallOK Try.prog 3 #[v, w] h0 (.bool true) h0 := by
  have ntv := hv.nt
  have csv := hv.cs
  have ntw := hw.nt
  have csw := hw.cs
  refine callY_P 391 _ [.tmp 4] Try.func3 rfl rfl rfl (by first | rfl | simp) ?_
  try simp (disch := first | omega | (simp; done) | fail) [wrap64c, if_pos, if_neg, ntv, csv, ntw, csw]
  refine callG_c (by simp) (by simp) ?ha (big_ok h0 _ _ _ _ hv hw) ?_
  (case ha => simp (disch := first | omega | (simp; done) | fail) [wrap64c, if_pos, if_neg, ntv, csv, ntw, csw])
  by_cases hbig : 1048576 < xs.length ∨ 1048576 - (xs.length : Int) < ys.length
  case pos =>
    try simp (disch := first | omega | (simp; done) | fail) [wrap64c, if_pos, if_neg, ntv, csv, ntw, csw, hbig]
    exact done_ret rfl (by simp)
  have lxs : xs.length ≤ 1048576 := by omega
  have lys : ys.length ≤ 1048576 := by omega
  try simp (disch := first | omega | (simp; done) | fail) [wrap64c, if_pos, if_neg, ntv, csv, ntw, csw, hbig]
  have K0 : Keeps h0 h0 := .refl _
  obtain ⟨_, h1, p1, a1, c, l1, L, A, cs, rfl, hC, hI, sm1, lcs⟩ := drawRunBy_ok h0 v xs (bytes_old hv)
  refine callG_c (by simp) (by simp) ?ha (p1) ?_
  (case ha => simp (disch := first | omega | (simp; done) | fail) [wrap64c, if_pos, if_neg, ntv, csv, ntw, csw, hbig])
  have n1 := a1.1.1
  have K1 := K0.trans a1.1
  have hv := hv.keep a1.1
  have hw := hw.keep a1.1
  obtain ⟨c0, c1, rfl, hc0, hc1⟩ := hC
  have ntc0 := hc0.nt
  have csc0 := hc0.cs
  have ntc1 := hc1.nt
  have csc1 := hc1.cs
  have hC : Chips h1 (.agg #[c0, c1]) (L) (A) := ⟨c0, c1, rfl, hc0, hc1⟩
  have nti := hI.nt
  have csi := hI.cs
  try simp (disch := first | omega | (simp; done) | fail) [wrap64c, if_pos, if_neg, ntv, csv, ntw, csw, hbig, ntc0, csc0, ntc1, csc1, nti, csi, putCells]
  first | refine WY_heap fun h2 q_h2 => ?_ | refine callG_heap fun h2 q_h2 => ?_ | refine callP_heap fun h2 q_h2 => ?_ | refine callS_heap fun h2 q_h2 => ?_ | refine RY_heap fun h2 q_h2 => ?_ | refine PY_heap fun h2 q_h2 => ?_ | refine SY_heap fun h2 q_h2 => ?_ | refine doneY_heap fun h2 q_h2 => ?_ | refine loopK_heap fun h2 q_h2 => ?_ | refine thenY_heap fun h2 q_h2 => ?_ | refine thenM_heap fun h2 q_h2 => ?_
  have b2 : Adds h1 h2 := by rw [q_h2]; exact (by first | exact aK | exact kK)
  have n2 := b2.1.1
  have K2 := K1.trans b2.1
  have hv := hv.keep b2.1
  have hw := hw.keep b2.1
  have hI := hI.keep b2.1
  have hC := hC.keep b2.1
  have m2 : h2.next = h1.next + 1 := by simp [q_h2]
  have gc : h2.get h1.next = .cells [c0, c1] true true 1 := by simp [q_h2]
  obtain ⟨_, h3, p3, a3, u1, rfl, hu1⟩ := imRunBy_ok h2 _ l1 L A cs hC hI
  refine callG_c (by simp) (by simp) ?ha (p3) ?_
  (case ha => simp (disch := first | omega | (simp; done) | fail) [wrap64c, if_pos, if_neg, ntv, csv, ntw, csw, hbig, ntc0, csc0, ntc1, csc1, nti, csi, gc])
  have n3 := a3.1.1
  have K3 := K2.trans a3.1
  have gc : h3.get h1.next = .cells [c0, c1] true true 1 := by rw [a3.1.2 _ (by omega)]; exact gc
  have hv := hv.keep a3.1
  have hw := hw.keep a3.1
  have hI := hI.keep a3.1
  have hC := hC.keep a3.1
  try simp (disch := first | omega | (simp; done) | fail) [wrap64c, if_pos, if_neg, ntv, csv, ntw, csw, hbig, ntc0, csc0, ntc1, csc1, nti, csi, gc]
  obtain ⟨_, h4, p4, a4, u2, rfl, hu2⟩ := spRunBy_ok h3 _ l1 L A cs hC hI
  refine callG_c (by simp) (by simp) ?ha (p4) ?_
  (case ha => simp (disch := first | omega | (simp; done) | fail) [wrap64c, if_pos, if_neg, ntv, csv, ntw, csw, hbig, ntc0, csc0, ntc1, csc1, nti, csi, gc])
  have n4 := a4.1.1
  have K4 := K3.trans a4.1
  have gc : h4.get h1.next = .cells [c0, c1] true true 1 := by rw [a4.1.2 _ (by omega)]; exact gc
  have hv := hv.keep a4.1
  have hw := hw.keep a4.1
  have hI := hI.keep a4.1
  have hC := hC.keep a4.1
  have hu1 := hu1.keep a4.1
  try simp (disch := first | omega | (simp; done) | fail) [wrap64c, if_pos, if_neg, ntv, csv, ntw, csw, hbig, ntc0, csc0, ntc1, csc1, nti, csi, gc]
  obtain ⟨_, h5, p5, a5, u3, rfl, hu3⟩ := imFirstRun_ok h4 _ L A hC
  refine callG_c (by simp) (by simp) ?ha (p5) ?_
  (case ha => simp (disch := first | omega | (simp; done) | fail) [wrap64c, if_pos, if_neg, ntv, csv, ntw, csw, hbig, ntc0, csc0, ntc1, csc1, nti, csi, gc])
  have n5 := a5.1.1
  have K5 := K4.trans a5.1
  have gc : h5.get h1.next = .cells [c0, c1] true true 1 := by rw [a5.1.2 _ (by omega)]; exact gc
  have hv := hv.keep a5.1
  have hw := hw.keep a5.1
  have hI := hI.keep a5.1
  have hC := hC.keep a5.1
  have hu1 := hu1.keep a5.1
  have hu2 := hu2.keep a5.1
  try simp (disch := first | omega | (simp; done) | fail) [wrap64c, if_pos, if_neg, ntv, csv, ntw, csw, hbig, ntc0, csc0, ntc1, csc1, nti, csi, gc]
  obtain ⟨_, h6, p6, a6, u4, rfl, hu4⟩ := spFirstRun_ok h5 _ L A hC
  refine callG_c (by simp) (by simp) ?ha (p6) ?_
  (case ha => simp (disch := first | omega | (simp; done) | fail) [wrap64c, if_pos, if_neg, ntv, csv, ntw, csw, hbig, ntc0, csc0, ntc1, csc1, nti, csi, gc])
  have n6 := a6.1.1
  have K6 := K5.trans a6.1
  have gc : h6.get h1.next = .cells [c0, c1] true true 1 := by rw [a6.1.2 _ (by omega)]; exact gc
  have hv := hv.keep a6.1
  have hw := hw.keep a6.1
  have hI := hI.keep a6.1
  have hC := hC.keep a6.1
  have hu1 := hu1.keep a6.1
  have hu2 := hu2.keep a6.1
  have hu3 := hu3.keep a6.1
  try simp (disch := first | omega | (simp; done) | fail) [wrap64c, if_pos, if_neg, ntv, csv, ntw, csw, hbig, ntc0, csc0, ntc1, csc1, nti, csi, gc]
  obtain ⟨_, h7, p7, a7, u5, rfl, hu5⟩ := imMoveCounts_ok h6 _ L A hC
  refine callG_c (by simp) (by simp) ?ha (p7) ?_
  (case ha => simp (disch := first | omega | (simp; done) | fail) [wrap64c, if_pos, if_neg, ntv, csv, ntw, csw, hbig, ntc0, csc0, ntc1, csc1, nti, csi, gc])
  have n7 := a7.1.1
  have K7 := K6.trans a7.1
  have gc : h7.get h1.next = .cells [c0, c1] true true 1 := by rw [a7.1.2 _ (by omega)]; exact gc
  have hv := hv.keep a7.1
  have hw := hw.keep a7.1
  have hI := hI.keep a7.1
  have hC := hC.keep a7.1
  have hu1 := hu1.keep a7.1
  have hu2 := hu2.keep a7.1
  have hu3 := hu3.keep a7.1
  have hu4 := hu4.keep a7.1
  try simp (disch := first | omega | (simp; done) | fail) [wrap64c, if_pos, if_neg, ntv, csv, ntw, csw, hbig, ntc0, csc0, ntc1, csc1, nti, csi, gc]
  obtain ⟨_, h8, p8, a8, u6, rfl, hu6⟩ := spMoveCounts_ok h7 _ L A hC
  refine callG_c (by simp) (by simp) ?ha (p8) ?_
  (case ha => simp (disch := first | omega | (simp; done) | fail) [wrap64c, if_pos, if_neg, ntv, csv, ntw, csw, hbig, ntc0, csc0, ntc1, csc1, nti, csi, gc])
  have n8 := a8.1.1
  have K8 := K7.trans a8.1
  have gc : h8.get h1.next = .cells [c0, c1] true true 1 := by rw [a8.1.2 _ (by omega)]; exact gc
  have hv := hv.keep a8.1
  have hw := hw.keep a8.1
  have hI := hI.keep a8.1
  have hC := hC.keep a8.1
  have hu1 := hu1.keep a8.1
  have hu2 := hu2.keep a8.1
  have hu3 := hu3.keep a8.1
  have hu4 := hu4.keep a8.1
  have hu5 := hu5.keep a8.1
  try simp (disch := first | omega | (simp; done) | fail) [wrap64c, if_pos, if_neg, ntv, csv, ntw, csw, hbig, ntc0, csc0, ntc1, csc1, nti, csi, gc]
  obtain ⟨_, h9, p9, a9, u7, rfl, hu7⟩ := imFinalChips_ok h8 _ L A hC
  refine callG_c (by simp) (by simp) ?ha (p9) ?_
  (case ha => simp (disch := first | omega | (simp; done) | fail) [wrap64c, if_pos, if_neg, ntv, csv, ntw, csw, hbig, ntc0, csc0, ntc1, csc1, nti, csi, gc])
  have n9 := a9.1.1
  have K9 := K8.trans a9.1
  have gc : h9.get h1.next = .cells [c0, c1] true true 1 := by rw [a9.1.2 _ (by omega)]; exact gc
  have hv := hv.keep a9.1
  have hw := hw.keep a9.1
  have hI := hI.keep a9.1
  have hC := hC.keep a9.1
  have hu1 := hu1.keep a9.1
  have hu2 := hu2.keep a9.1
  have hu3 := hu3.keep a9.1
  have hu4 := hu4.keep a9.1
  have hu5 := hu5.keep a9.1
  have hu6 := hu6.keep a9.1
  have hu7 := hu7.chips
  obtain ⟨f0, f1, rfl, hf0, hf1⟩ := hu7
  have ntf0 := hf0.nt
  have csf0 := hf0.cs
  have ntf1 := hf1.nt
  have csf1 := hf1.cs
  have hu7 : Chips h9 (.agg #[f0, f1]) (chL L (finalR L A)) (chA (finalR L A)) := ⟨f0, f1, rfl, hf0, hf1⟩
  try simp (disch := first | omega | (simp; done) | fail) [wrap64c, if_pos, if_neg, ntv, csv, ntw, csw, hbig, ntc0, csc0, ntc1, csc1, nti, csi, gc, ntf0, csf0, ntf1, csf1, putCells]
  first | refine WY_heap fun h10 q_h10 => ?_ | refine callG_heap fun h10 q_h10 => ?_ | refine callP_heap fun h10 q_h10 => ?_ | refine callS_heap fun h10 q_h10 => ?_ | refine RY_heap fun h10 q_h10 => ?_ | refine PY_heap fun h10 q_h10 => ?_ | refine SY_heap fun h10 q_h10 => ?_ | refine doneY_heap fun h10 q_h10 => ?_ | refine loopK_heap fun h10 q_h10 => ?_ | refine thenY_heap fun h10 q_h10 => ?_ | refine thenM_heap fun h10 q_h10 => ?_
  have b10 : Adds h9 h10 := by rw [q_h10]; exact (by first | exact aK | exact kK)
  have n10 := b10.1.1
  have K10 := K9.trans b10.1
  have gc : h10.get h1.next = .cells [c0, c1] true true 1 := by rw [b10.1.2 _ (by omega)]; exact gc
  have hv := hv.keep b10.1
  have hw := hw.keep b10.1
  have hI := hI.keep b10.1
  have hC := hC.keep b10.1
  have hu1 := hu1.keep b10.1
  have hu2 := hu2.keep b10.1
  have hu3 := hu3.keep b10.1
  have hu4 := hu4.keep b10.1
  have hu5 := hu5.keep b10.1
  have hu6 := hu6.keep b10.1
  have hu7 := hu7.keep b10.1
  have m10 : h10.next = h9.next + 1 := by simp [q_h10]
  have gf : h10.get h9.next = .cells [f0, f1] true true 1 := by simp [q_h10]
  obtain ⟨_, h11, p11, a11, u8, rfl, hu8⟩ := spFinalChips_ok h10 _ L A hC
  refine callG_c (by simp) (by simp) ?ha (p11) ?_
  (case ha => simp (disch := first | omega | (simp; done) | fail) [wrap64c, if_pos, if_neg, ntv, csv, ntw, csw, hbig, ntc0, csc0, ntc1, csc1, nti, csi, gc, ntf0, csf0, ntf1, csf1, gf])
  have n11 := a11.1.1
  have K11 := K10.trans a11.1
  have gc : h11.get h1.next = .cells [c0, c1] true true 1 := by rw [a11.1.2 _ (by omega)]; exact gc
  have gf : h11.get h9.next = .cells [f0, f1] true true 1 := by rw [a11.1.2 _ (by omega)]; exact gf
  have hv := hv.keep a11.1
  have hw := hw.keep a11.1
  have hI := hI.keep a11.1
  have hC := hC.keep a11.1
  have hu1 := hu1.keep a11.1
  have hu2 := hu2.keep a11.1
  have hu3 := hu3.keep a11.1
  have hu4 := hu4.keep a11.1
  have hu5 := hu5.keep a11.1
  have hu6 := hu6.keep a11.1
  have hu7 := hu7.keep a11.1
  have hu8 := hu8.chips
  obtain ⟨y0, y1, rfl, hy0, hy1⟩ := hu8
  have nty0 := hy0.nt
  have csy0 := hy0.cs
  have nty1 := hy1.nt
  have csy1 := hy1.cs
  have hu8 : Chips h11 (.agg #[y0, y1]) (chL L (finalR L A)) (chA (finalR L A)) := ⟨y0, y1, rfl, hy0, hy1⟩
  try simp (disch := first | omega | (simp; done) | fail) [wrap64c, if_pos, if_neg, ntv, csv, ntw, csw, hbig, ntc0, csc0, ntc1, csc1, nti, csi, gc, ntf0, csf0, ntf1, csf1, gf, nty0, csy0, nty1, csy1, putCells]
  first | refine WY_heap fun h12 q_h12 => ?_ | refine callG_heap fun h12 q_h12 => ?_ | refine callP_heap fun h12 q_h12 => ?_ | refine callS_heap fun h12 q_h12 => ?_ | refine RY_heap fun h12 q_h12 => ?_ | refine PY_heap fun h12 q_h12 => ?_ | refine SY_heap fun h12 q_h12 => ?_ | refine doneY_heap fun h12 q_h12 => ?_ | refine loopK_heap fun h12 q_h12 => ?_ | refine thenY_heap fun h12 q_h12 => ?_ | refine thenM_heap fun h12 q_h12 => ?_
  have b12 : Adds h11 h12 := by rw [q_h12]; exact (by first | exact aK | exact kK)
  have n12 := b12.1.1
  have K12 := K11.trans b12.1
  have gc : h12.get h1.next = .cells [c0, c1] true true 1 := by rw [b12.1.2 _ (by omega)]; exact gc
  have gf : h12.get h9.next = .cells [f0, f1] true true 1 := by rw [b12.1.2 _ (by omega)]; exact gf
  have hv := hv.keep b12.1
  have hw := hw.keep b12.1
  have hI := hI.keep b12.1
  have hC := hC.keep b12.1
  have hu1 := hu1.keep b12.1
  have hu2 := hu2.keep b12.1
  have hu3 := hu3.keep b12.1
  have hu4 := hu4.keep b12.1
  have hu5 := hu5.keep b12.1
  have hu6 := hu6.keep b12.1
  have hu7 := hu7.keep b12.1
  have hu8 := hu8.keep b12.1
  have m12 : h12.next = h11.next + 1 := by simp [q_h12]
  have ge : h12.get h11.next = .cells [y0, y1] true true 1 := by simp [q_h12]
  refine callG_c (by simp) (by simp) ?ha (imNeverEnds_ok h12 _ L A hC) ?_
  (case ha => simp (disch := first | omega | (simp; done) | fail) [wrap64c, if_pos, if_neg, ntv, csv, ntw, csw, hbig, ntc0, csc0, ntc1, csc1, nti, csi, gc, ntf0, csf0, ntf1, csf1, gf, nty0, csy0, nty1, csy1, ge])
  try simp (disch := first | omega | (simp; done) | fail) [wrap64c, if_pos, if_neg, ntv, csv, ntw, csw, hbig, ntc0, csc0, ntc1, csc1, nti, csi, gc, ntf0, csf0, ntf1, csf1, gf, nty0, csy0, nty1, csy1, ge]
  have lu1 := hu1.ints.lenD
  have lu3 := hu3.ints.lenD
  have b3 : (firstR L A).isSome = (fullR L A []).isSome := by unfold firstR; cases fullR L A [] <;> rfl
  have b4 : (countsR L A).isSome = (fullR L A []).isSome := by unfold countsR; cases fullR L A [] <;> rfl
  have b5 : (finalR L A).isSome = (fullR L A []).isSome := by unfold finalR; cases fullR L A [] <;> rfl
  refine callG_c (by simp) (by simp) ?ha (iSame_ok h12 _ _ _ _ hu1.ints hu2.ints) ?_
  (case ha => simp (disch := first | omega | (simp; done) | fail) [wrap64c, if_pos, if_neg, ntv, csv, ntw, csw, hbig, ntc0, csc0, ntc1, csc1, nti, csi, gc, ntf0, csf0, ntf1, csf1, gf, nty0, csy0, nty1, csy1, ge, lu1, lu3, b3, b4, b5])
  try simp (disch := first | omega | (simp; done) | fail) [wrap64c, if_pos, if_neg, ntv, csv, ntw, csw, hbig, ntc0, csc0, ntc1, csc1, nti, csi, gc, ntf0, csf0, ntf1, csf1, gf, nty0, csy0, nty1, csy1, ge, lu1, lu3, b3, b4, b5]
  refine callG_c (by simp) (by simp) ?ha (iSame_ok h12 _ _ _ _ hu3.ints hu4.ints) ?_
  (case ha => simp (disch := first | omega | (simp; done) | fail) [wrap64c, if_pos, if_neg, ntv, csv, ntw, csw, hbig, ntc0, csc0, ntc1, csc1, nti, csi, gc, ntf0, csf0, ntf1, csf1, gf, nty0, csy0, nty1, csy1, ge, lu1, lu3, b3, b4, b5])
  try simp (disch := first | omega | (simp; done) | fail) [wrap64c, if_pos, if_neg, ntv, csv, ntw, csw, hbig, ntc0, csc0, ntc1, csc1, nti, csi, gc, ntf0, csf0, ntf1, csf1, gf, nty0, csy0, nty1, csy1, ge, lu1, lu3, b3, b4, b5]
  refine callG_c (by simp) (by simp) ?ha (iSame_ok h12 _ _ _ _ hu5.ints hu6.ints) ?_
  (case ha => simp (disch := first | omega | (simp; done) | fail) [wrap64c, if_pos, if_neg, ntv, csv, ntw, csw, hbig, ntc0, csc0, ntc1, csc1, nti, csi, gc, ntf0, csf0, ntf1, csf1, gf, nty0, csy0, nty1, csy1, ge, lu1, lu3, b3, b4, b5])
  try simp (disch := first | omega | (simp; done) | fail) [wrap64c, if_pos, if_neg, ntv, csv, ntw, csw, hbig, ntc0, csc0, ntc1, csc1, nti, csi, gc, ntf0, csf0, ntf1, csf1, gf, nty0, csy0, nty1, csy1, ge, lu1, lu3, b3, b4, b5]
  refine callG_c (by simp) (by simp) ?ha (iChips_ok h12 _ _ _ _ _ _ hu7 hu8) ?_
  (case ha => simp (disch := first | omega | (simp; done) | fail) [wrap64c, if_pos, if_neg, ntv, csv, ntw, csw, hbig, ntc0, csc0, ntc1, csc1, nti, csi, gc, ntf0, csf0, ntf1, csf1, gf, nty0, csy0, nty1, csy1, ge, lu1, lu3, b3, b4, b5])
  try simp (disch := first | omega | (simp; done) | fail) [wrap64c, if_pos, if_neg, ntv, csv, ntw, csw, hbig, ntc0, csc0, ntc1, csc1, nti, csi, gc, ntf0, csf0, ntf1, csf1, gf, nty0, csy0, nty1, csy1, ge, lu1, lu3, b3, b4, b5]
  refine callG_c (by simp) (by simp) ?ha (imAreChips_ok h12 _ L A hC) ?_
  (case ha => simp (disch := first | omega | (simp; done) | fail) [wrap64c, if_pos, if_neg, ntv, csv, ntw, csw, hbig, ntc0, csc0, ntc1, csc1, nti, csi, gc, ntf0, csf0, ntf1, csf1, gf, nty0, csy0, nty1, csy1, ge, lu1, lu3, b3, b4, b5])
  by_cases hg : goodB L A = true
  case neg =>
    have hg' : goodB L A = false := by simpa using hg
    have bb : (byR L A cs).isSome = false := by simp [byR, fullR, hg']
    try simp (disch := first | omega | (simp; done) | fail) [wrap64c, if_pos, if_neg, ntv, csv, ntw, csw, hbig, ntc0, csc0, ntc1, csc1, nti, csi, gc, ntf0, csf0, ntf1, csf1, gf, nty0, csy0, nty1, csy1, ge, lu1, lu3, b3, b4, b5, hg', bb]
    obtain ⟨h0, hh0⟩ : ∃ x, x = h12 := ⟨_, rfl⟩
    have K0 := K12
    rw [← hh0] at K0
    have hv := hv
    have hw := hw
    rw [← hh0] at hv
    rw [← hh0] at hw
    try rw [← hh0]
    obtain ⟨_, h1, p1, a1, d, l2, M, B, ms, rfl, hD, hJ, sm2, lms⟩ := drawRun_ok h0 w ys (bytes_old hw)
    refine callG_c (by simp) (by simp) ?ha (p1) ?_
    (case ha => simp (disch := first | omega | (simp; done) | fail) [wrap64c, if_pos, if_neg, ntv, csv, ntw, csw, hbig, ntc0, csc0, ntc1, csc1, nti, csi, gc, ntf0, csf0, ntf1, csf1, gf, nty0, csy0, nty1, csy1, ge, lu1, lu3, b3, b4, b5, hg', bb])
    have n1 := a1.1.1
    have K1 := K0.trans a1.1
    have hv := hv.keep a1.1
    have hw := hw.keep a1.1
    obtain ⟨d0, d1, rfl, hd0, hd1⟩ := hD
    have ntd0 := hd0.nt
    have csd0 := hd0.cs
    have ntd1 := hd1.nt
    have csd1 := hd1.cs
    have hD : Chips h1 (.agg #[d0, d1]) (M) (B) := ⟨d0, d1, rfl, hd0, hd1⟩
    have ntj := hJ.nt
    have csj := hJ.cs
    try simp (disch := first | omega | (simp; done) | fail) [wrap64c, if_pos, if_neg, ntv, csv, ntw, csw, hbig, ntc0, csc0, ntc1, csc1, nti, csi, gc, ntf0, csf0, ntf1, csf1, gf, nty0, csy0, nty1, csy1, ge, lu1, lu3, b3, b4, b5, hg', bb, ntd0, csd0, ntd1, csd1, ntj, csj, putCells]
    first | refine WY_heap fun h2 q_h2 => ?_ | refine callG_heap fun h2 q_h2 => ?_ | refine callP_heap fun h2 q_h2 => ?_ | refine callS_heap fun h2 q_h2 => ?_ | refine RY_heap fun h2 q_h2 => ?_ | refine PY_heap fun h2 q_h2 => ?_ | refine SY_heap fun h2 q_h2 => ?_ | refine doneY_heap fun h2 q_h2 => ?_ | refine loopK_heap fun h2 q_h2 => ?_ | refine thenY_heap fun h2 q_h2 => ?_ | refine thenM_heap fun h2 q_h2 => ?_
    have b2 : Adds h1 h2 := by rw [q_h2]; exact (by first | exact aK | exact kK)
    have n2 := b2.1.1
    have K2 := K1.trans b2.1
    have hv := hv.keep b2.1
    have hw := hw.keep b2.1
    have hJ := hJ.keep b2.1
    have hD := hD.keep b2.1
    have m2 : h2.next = h1.next + 1 := by simp [q_h2]
    have gd : h2.get h1.next = .cells [d0, d1] true true 1 := by simp [q_h2]
    obtain ⟨_, h3, p3, a3, u9, rfl, hu9⟩ := imRunChips_ok h2 _ l2 M B ms hD hJ
    refine callG_c (by simp) (by simp) ?ha (p3) ?_
    (case ha => simp (disch := first | omega | (simp; done) | fail) [wrap64c, if_pos, if_neg, ntv, csv, ntw, csw, hbig, ntc0, csc0, ntc1, csc1, nti, csi, gc, ntf0, csf0, ntf1, csf1, gf, nty0, csy0, nty1, csy1, ge, lu1, lu3, b3, b4, b5, hg', bb, ntd0, csd0, ntd1, csd1, ntj, csj, gd])
    have n3 := a3.1.1
    have K3 := K2.trans a3.1
    have gd : h3.get h1.next = .cells [d0, d1] true true 1 := by rw [a3.1.2 _ (by omega)]; exact gd
    have hv := hv.keep a3.1
    have hw := hw.keep a3.1
    have hJ := hJ.keep a3.1
    have hD := hD.keep a3.1
    have hu9 := hu9.chips
    obtain ⟨g0, g1, rfl, hg0, hg1⟩ := hu9
    have ntg0 := hg0.nt
    have csg0 := hg0.cs
    have ntg1 := hg1.nt
    have csg1 := hg1.cs
    have hu9 : Chips h3 (.agg #[g0, g1]) (chL M (runR M B ms)) (chA (runR M B ms)) := ⟨g0, g1, rfl, hg0, hg1⟩
    try simp (disch := first | omega | (simp; done) | fail) [wrap64c, if_pos, if_neg, ntv, csv, ntw, csw, hbig, ntc0, csc0, ntc1, csc1, nti, csi, gc, ntf0, csf0, ntf1, csf1, gf, nty0, csy0, nty1, csy1, ge, lu1, lu3, b3, b4, b5, hg', bb, ntd0, csd0, ntd1, csd1, ntj, csj, gd, ntg0, csg0, ntg1, csg1, putCells]
    first | refine WY_heap fun h4 q_h4 => ?_ | refine callG_heap fun h4 q_h4 => ?_ | refine callP_heap fun h4 q_h4 => ?_ | refine callS_heap fun h4 q_h4 => ?_ | refine RY_heap fun h4 q_h4 => ?_ | refine PY_heap fun h4 q_h4 => ?_ | refine SY_heap fun h4 q_h4 => ?_ | refine doneY_heap fun h4 q_h4 => ?_ | refine loopK_heap fun h4 q_h4 => ?_ | refine thenY_heap fun h4 q_h4 => ?_ | refine thenM_heap fun h4 q_h4 => ?_
    have b4 : Adds h3 h4 := by rw [q_h4]; exact (by first | exact aK | exact kK)
    have n4 := b4.1.1
    have K4 := K3.trans b4.1
    have gd : h4.get h1.next = .cells [d0, d1] true true 1 := by rw [b4.1.2 _ (by omega)]; exact gd
    have hv := hv.keep b4.1
    have hw := hw.keep b4.1
    have hJ := hJ.keep b4.1
    have hD := hD.keep b4.1
    have hu9 := hu9.keep b4.1
    have m4 : h4.next = h3.next + 1 := by simp [q_h4]
    have gg : h4.get h3.next = .cells [g0, g1] true true 1 := by simp [q_h4]
    obtain ⟨_, h5, p5, a5, u10, rfl, hu10⟩ := spRunChips_ok h4 _ l2 M B ms hD hJ
    refine callG_c (by simp) (by simp) ?ha (p5) ?_
    (case ha => simp (disch := first | omega | (simp; done) | fail) [wrap64c, if_pos, if_neg, ntv, csv, ntw, csw, hbig, ntc0, csc0, ntc1, csc1, nti, csi, gc, ntf0, csf0, ntf1, csf1, gf, nty0, csy0, nty1, csy1, ge, lu1, lu3, b3, b4, b5, hg', bb, ntd0, csd0, ntd1, csd1, ntj, csj, gd, ntg0, csg0, ntg1, csg1, gg])
    have n5 := a5.1.1
    have K5 := K4.trans a5.1
    have gd : h5.get h1.next = .cells [d0, d1] true true 1 := by rw [a5.1.2 _ (by omega)]; exact gd
    have gg : h5.get h3.next = .cells [g0, g1] true true 1 := by rw [a5.1.2 _ (by omega)]; exact gg
    have hv := hv.keep a5.1
    have hw := hw.keep a5.1
    have hJ := hJ.keep a5.1
    have hD := hD.keep a5.1
    have hu9 := hu9.keep a5.1
    have hu10 := hu10.chips
    obtain ⟨j0, j1, rfl, hj0, hj1⟩ := hu10
    have ntj0 := hj0.nt
    have csj0 := hj0.cs
    have ntj1 := hj1.nt
    have csj1 := hj1.cs
    have hu10 : Chips h5 (.agg #[j0, j1]) (chL M (runR M B ms)) (chA (runR M B ms)) := ⟨j0, j1, rfl, hj0, hj1⟩
    try simp (disch := first | omega | (simp; done) | fail) [wrap64c, if_pos, if_neg, ntv, csv, ntw, csw, hbig, ntc0, csc0, ntc1, csc1, nti, csi, gc, ntf0, csf0, ntf1, csf1, gf, nty0, csy0, nty1, csy1, ge, lu1, lu3, b3, b4, b5, hg', bb, ntd0, csd0, ntd1, csd1, ntj, csj, gd, ntg0, csg0, ntg1, csg1, gg, ntj0, csj0, ntj1, csj1, putCells]
    first | refine WY_heap fun h6 q_h6 => ?_ | refine callG_heap fun h6 q_h6 => ?_ | refine callP_heap fun h6 q_h6 => ?_ | refine callS_heap fun h6 q_h6 => ?_ | refine RY_heap fun h6 q_h6 => ?_ | refine PY_heap fun h6 q_h6 => ?_ | refine SY_heap fun h6 q_h6 => ?_ | refine doneY_heap fun h6 q_h6 => ?_ | refine loopK_heap fun h6 q_h6 => ?_ | refine thenY_heap fun h6 q_h6 => ?_ | refine thenM_heap fun h6 q_h6 => ?_
    have b6 : Adds h5 h6 := by rw [q_h6]; exact (by first | exact aK | exact kK)
    have n6 := b6.1.1
    have K6 := K5.trans b6.1
    have gd : h6.get h1.next = .cells [d0, d1] true true 1 := by rw [b6.1.2 _ (by omega)]; exact gd
    have gg : h6.get h3.next = .cells [g0, g1] true true 1 := by rw [b6.1.2 _ (by omega)]; exact gg
    have hv := hv.keep b6.1
    have hw := hw.keep b6.1
    have hJ := hJ.keep b6.1
    have hD := hD.keep b6.1
    have hu9 := hu9.keep b6.1
    have hu10 := hu10.keep b6.1
    have m6 : h6.next = h5.next + 1 := by simp [q_h6]
    have gj : h6.get h5.next = .cells [j0, j1] true true 1 := by simp [q_h6]
    refine callG_c (by simp) (by simp) ?ha (imIsRun_ok h6 _ l2 M B ms hD hJ) ?_
    (case ha => simp (disch := first | omega | (simp; done) | fail) [wrap64c, if_pos, if_neg, ntv, csv, ntw, csw, hbig, ntc0, csc0, ntc1, csc1, nti, csi, gc, ntf0, csf0, ntf1, csf1, gf, nty0, csy0, nty1, csy1, ge, lu1, lu3, b3, b4, b5, hg', bb, ntd0, csd0, ntd1, csd1, ntj, csj, gd, ntg0, csg0, ntg1, csg1, gg, ntj0, csj0, ntj1, csj1, gj])
    try simp (disch := first | omega | (simp; done) | fail) [wrap64c, if_pos, if_neg, ntv, csv, ntw, csw, hbig, ntc0, csc0, ntc1, csc1, nti, csi, gc, ntf0, csf0, ntf1, csf1, gf, nty0, csy0, nty1, csy1, ge, lu1, lu3, b3, b4, b5, hg', bb, ntd0, csd0, ntd1, csd1, ntj, csj, gd, ntg0, csg0, ntg1, csg1, gg, ntj0, csj0, ntj1, csj1, gj]
    refine callG_c (by simp) (by simp) ?ha (spIsRun_ok h6 _ l2 M B ms hD hJ) ?_
    (case ha => simp (disch := first | omega | (simp; done) | fail) [wrap64c, if_pos, if_neg, ntv, csv, ntw, csw, hbig, ntc0, csc0, ntc1, csc1, nti, csi, gc, ntf0, csf0, ntf1, csf1, gf, nty0, csy0, nty1, csy1, ge, lu1, lu3, b3, b4, b5, hg', bb, ntd0, csd0, ntd1, csd1, ntj, csj, gd, ntg0, csg0, ntg1, csg1, gg, ntj0, csj0, ntj1, csj1, gj])
    have bR : isR M B ms = (runR M B ms).isSome := rfl
    try simp (disch := first | omega | (simp; done) | fail) [wrap64c, if_pos, if_neg, ntv, csv, ntw, csw, hbig, ntc0, csc0, ntc1, csc1, nti, csi, gc, ntf0, csf0, ntf1, csf1, gf, nty0, csy0, nty1, csy1, ge, lu1, lu3, b3, b4, b5, hg', bb, ntd0, csd0, ntd1, csd1, ntj, csj, gd, ntg0, csg0, ntg1, csg1, gg, ntj0, csj0, ntj1, csj1, gj, bR]
    refine callG_c (by simp) (by simp) ?ha (iChips_ok h6 _ _ _ _ _ _ hu9 hu10) ?_
    (case ha => simp (disch := first | omega | (simp; done) | fail) [wrap64c, if_pos, if_neg, ntv, csv, ntw, csw, hbig, ntc0, csc0, ntc1, csc1, nti, csi, gc, ntf0, csf0, ntf1, csf1, gf, nty0, csy0, nty1, csy1, ge, lu1, lu3, b3, b4, b5, hg', bb, ntd0, csd0, ntd1, csd1, ntj, csj, gd, ntg0, csg0, ntg1, csg1, gg, ntj0, csj0, ntj1, csj1, gj, bR])
    try simp (disch := first | omega | (simp; done) | fail) [wrap64c, if_pos, if_neg, ntv, csv, ntw, csw, hbig, ntc0, csc0, ntc1, csc1, nti, csi, gc, ntf0, csf0, ntf1, csf1, gf, nty0, csy0, nty1, csy1, ge, lu1, lu3, b3, b4, b5, hg', bb, ntd0, csd0, ntd1, csd1, ntj, csj, gd, ntg0, csg0, ntg1, csg1, gg, ntj0, csj0, ntj1, csj1, gj, bR]
    obtain ⟨_, h7, p7, a7, e, N, C, i, rfl, hE, sm3, li1, li2⟩ := drawMove_ok h6 w ys (bytes_old hw)
    refine callG_c (by simp) (by simp) ?ha (p7) ?_
    (case ha => simp (disch := first | omega | (simp; done) | fail) [wrap64c, if_pos, if_neg, ntv, csv, ntw, csw, hbig, ntc0, csc0, ntc1, csc1, nti, csi, gc, ntf0, csf0, ntf1, csf1, gf, nty0, csy0, nty1, csy1, ge, lu1, lu3, b3, b4, b5, hg', bb, ntd0, csd0, ntd1, csd1, ntj, csj, gd, ntg0, csg0, ntg1, csg1, gg, ntj0, csj0, ntj1, csj1, gj, bR])
    have n7 := a7.1.1
    have K7 := K6.trans a7.1
    have gd : h7.get h1.next = .cells [d0, d1] true true 1 := by rw [a7.1.2 _ (by omega)]; exact gd
    have gg : h7.get h3.next = .cells [g0, g1] true true 1 := by rw [a7.1.2 _ (by omega)]; exact gg
    have gj : h7.get h5.next = .cells [j0, j1] true true 1 := by rw [a7.1.2 _ (by omega)]; exact gj
    have hv := hv.keep a7.1
    have hw := hw.keep a7.1
    have hJ := hJ.keep a7.1
    have hD := hD.keep a7.1
    have hu9 := hu9.keep a7.1
    have hu10 := hu10.keep a7.1
    obtain ⟨k0, k1, rfl, hk0, hk1⟩ := hE
    have ntk0 := hk0.nt
    have csk0 := hk0.cs
    have ntk1 := hk1.nt
    have csk1 := hk1.cs
    have hE : Chips h7 (.agg #[k0, k1]) (N) (C) := ⟨k0, k1, rfl, hk0, hk1⟩
    try simp (disch := first | omega | (simp; done) | fail) [wrap64c, if_pos, if_neg, ntv, csv, ntw, csw, hbig, ntc0, csc0, ntc1, csc1, nti, csi, gc, ntf0, csf0, ntf1, csf1, gf, nty0, csy0, nty1, csy1, ge, lu1, lu3, b3, b4, b5, hg', bb, ntd0, csd0, ntd1, csd1, ntj, csj, gd, ntg0, csg0, ntg1, csg1, gg, ntj0, csj0, ntj1, csj1, gj, bR, ntk0, csk0, ntk1, csk1, putCells]
    first | refine WY_heap fun h8 q_h8 => ?_ | refine callG_heap fun h8 q_h8 => ?_ | refine callP_heap fun h8 q_h8 => ?_ | refine callS_heap fun h8 q_h8 => ?_ | refine RY_heap fun h8 q_h8 => ?_ | refine PY_heap fun h8 q_h8 => ?_ | refine SY_heap fun h8 q_h8 => ?_ | refine doneY_heap fun h8 q_h8 => ?_ | refine loopK_heap fun h8 q_h8 => ?_ | refine thenY_heap fun h8 q_h8 => ?_ | refine thenM_heap fun h8 q_h8 => ?_
    have b8 : Adds h7 h8 := by rw [q_h8]; exact (by first | exact aK | exact kK)
    have n8 := b8.1.1
    have K8 := K7.trans b8.1
    have gd : h8.get h1.next = .cells [d0, d1] true true 1 := by rw [b8.1.2 _ (by omega)]; exact gd
    have gg : h8.get h3.next = .cells [g0, g1] true true 1 := by rw [b8.1.2 _ (by omega)]; exact gg
    have gj : h8.get h5.next = .cells [j0, j1] true true 1 := by rw [b8.1.2 _ (by omega)]; exact gj
    have hv := hv.keep b8.1
    have hw := hw.keep b8.1
    have hJ := hJ.keep b8.1
    have hD := hD.keep b8.1
    have hu9 := hu9.keep b8.1
    have hu10 := hu10.keep b8.1
    have hE := hE.keep b8.1
    have m8 : h8.next = h7.next + 1 := by simp [q_h8]
    have gk : h8.get h7.next = .cells [k0, k1] true true 1 := by simp [q_h8]
    obtain ⟨_, h9, p9, a9, u11, rfl, hu11⟩ := imMoveChips_ok h8 _ N C i hE
    refine callG_c (by simp) (by simp) ?ha (p9) ?_
    (case ha => simp (disch := first | omega | (simp; done) | fail) [wrap64c, if_pos, if_neg, ntv, csv, ntw, csw, hbig, ntc0, csc0, ntc1, csc1, nti, csi, gc, ntf0, csf0, ntf1, csf1, gf, nty0, csy0, nty1, csy1, ge, lu1, lu3, b3, b4, b5, hg', bb, ntd0, csd0, ntd1, csd1, ntj, csj, gd, ntg0, csg0, ntg1, csg1, gg, ntj0, csj0, ntj1, csj1, gj, bR, ntk0, csk0, ntk1, csk1, gk])
    have n9 := a9.1.1
    have K9 := K8.trans a9.1
    have gd : h9.get h1.next = .cells [d0, d1] true true 1 := by rw [a9.1.2 _ (by omega)]; exact gd
    have gg : h9.get h3.next = .cells [g0, g1] true true 1 := by rw [a9.1.2 _ (by omega)]; exact gg
    have gj : h9.get h5.next = .cells [j0, j1] true true 1 := by rw [a9.1.2 _ (by omega)]; exact gj
    have gk : h9.get h7.next = .cells [k0, k1] true true 1 := by rw [a9.1.2 _ (by omega)]; exact gk
    have hv := hv.keep a9.1
    have hw := hw.keep a9.1
    have hJ := hJ.keep a9.1
    have hD := hD.keep a9.1
    have hu9 := hu9.keep a9.1
    have hu10 := hu10.keep a9.1
    have hE := hE.keep a9.1
    have hu11 := hu11.chips
    obtain ⟨q0, q1, rfl, hq0, hq1⟩ := hu11
    have ntq0 := hq0.nt
    have csq0 := hq0.cs
    have ntq1 := hq1.nt
    have csq1 := hq1.cs
    have hu11 : Chips h9 (.agg #[q0, q1]) (chL N (moveR N C i)) (chA (moveR N C i)) := ⟨q0, q1, rfl, hq0, hq1⟩
    try simp (disch := first | omega | (simp; done) | fail) [wrap64c, if_pos, if_neg, ntv, csv, ntw, csw, hbig, ntc0, csc0, ntc1, csc1, nti, csi, gc, ntf0, csf0, ntf1, csf1, gf, nty0, csy0, nty1, csy1, ge, lu1, lu3, b3, b4, b5, hg', bb, ntd0, csd0, ntd1, csd1, ntj, csj, gd, ntg0, csg0, ntg1, csg1, gg, ntj0, csj0, ntj1, csj1, gj, bR, ntk0, csk0, ntk1, csk1, gk, ntq0, csq0, ntq1, csq1, putCells]
    first | refine WY_heap fun h10 q_h10 => ?_ | refine callG_heap fun h10 q_h10 => ?_ | refine callP_heap fun h10 q_h10 => ?_ | refine callS_heap fun h10 q_h10 => ?_ | refine RY_heap fun h10 q_h10 => ?_ | refine PY_heap fun h10 q_h10 => ?_ | refine SY_heap fun h10 q_h10 => ?_ | refine doneY_heap fun h10 q_h10 => ?_ | refine loopK_heap fun h10 q_h10 => ?_ | refine thenY_heap fun h10 q_h10 => ?_ | refine thenM_heap fun h10 q_h10 => ?_
    have b10 : Adds h9 h10 := by rw [q_h10]; exact (by first | exact aK | exact kK)
    have n10 := b10.1.1
    have K10 := K9.trans b10.1
    have gd : h10.get h1.next = .cells [d0, d1] true true 1 := by rw [b10.1.2 _ (by omega)]; exact gd
    have gg : h10.get h3.next = .cells [g0, g1] true true 1 := by rw [b10.1.2 _ (by omega)]; exact gg
    have gj : h10.get h5.next = .cells [j0, j1] true true 1 := by rw [b10.1.2 _ (by omega)]; exact gj
    have gk : h10.get h7.next = .cells [k0, k1] true true 1 := by rw [b10.1.2 _ (by omega)]; exact gk
    have hv := hv.keep b10.1
    have hw := hw.keep b10.1
    have hJ := hJ.keep b10.1
    have hD := hD.keep b10.1
    have hu9 := hu9.keep b10.1
    have hu10 := hu10.keep b10.1
    have hE := hE.keep b10.1
    have hu11 := hu11.keep b10.1
    have m10 : h10.next = h9.next + 1 := by simp [q_h10]
    have gq : h10.get h9.next = .cells [q0, q1] true true 1 := by simp [q_h10]
    obtain ⟨_, h11, p11, a11, u12, rfl, hu12⟩ := spMoveChips_ok h10 _ N C i hE
    refine callG_c (by simp) (by simp) ?ha (p11) ?_
    (case ha => simp (disch := first | omega | (simp; done) | fail) [wrap64c, if_pos, if_neg, ntv, csv, ntw, csw, hbig, ntc0, csc0, ntc1, csc1, nti, csi, gc, ntf0, csf0, ntf1, csf1, gf, nty0, csy0, nty1, csy1, ge, lu1, lu3, b3, b4, b5, hg', bb, ntd0, csd0, ntd1, csd1, ntj, csj, gd, ntg0, csg0, ntg1, csg1, gg, ntj0, csj0, ntj1, csj1, gj, bR, ntk0, csk0, ntk1, csk1, gk, ntq0, csq0, ntq1, csq1, gq])
    have n11 := a11.1.1
    have K11 := K10.trans a11.1
    have gd : h11.get h1.next = .cells [d0, d1] true true 1 := by rw [a11.1.2 _ (by omega)]; exact gd
    have gg : h11.get h3.next = .cells [g0, g1] true true 1 := by rw [a11.1.2 _ (by omega)]; exact gg
    have gj : h11.get h5.next = .cells [j0, j1] true true 1 := by rw [a11.1.2 _ (by omega)]; exact gj
    have gk : h11.get h7.next = .cells [k0, k1] true true 1 := by rw [a11.1.2 _ (by omega)]; exact gk
    have gq : h11.get h9.next = .cells [q0, q1] true true 1 := by rw [a11.1.2 _ (by omega)]; exact gq
    have hv := hv.keep a11.1
    have hw := hw.keep a11.1
    have hJ := hJ.keep a11.1
    have hD := hD.keep a11.1
    have hu9 := hu9.keep a11.1
    have hu10 := hu10.keep a11.1
    have hE := hE.keep a11.1
    have hu11 := hu11.keep a11.1
    have hu12 := hu12.chips
    obtain ⟨r0, r1, rfl, hr0, hr1⟩ := hu12
    have ntr0 := hr0.nt
    have csr0 := hr0.cs
    have ntr1 := hr1.nt
    have csr1 := hr1.cs
    have hu12 : Chips h11 (.agg #[r0, r1]) (chL N (moveR N C i)) (chA (moveR N C i)) := ⟨r0, r1, rfl, hr0, hr1⟩
    try simp (disch := first | omega | (simp; done) | fail) [wrap64c, if_pos, if_neg, ntv, csv, ntw, csw, hbig, ntc0, csc0, ntc1, csc1, nti, csi, gc, ntf0, csf0, ntf1, csf1, gf, nty0, csy0, nty1, csy1, ge, lu1, lu3, b3, b4, b5, hg', bb, ntd0, csd0, ntd1, csd1, ntj, csj, gd, ntg0, csg0, ntg1, csg1, gg, ntj0, csj0, ntj1, csj1, gj, bR, ntk0, csk0, ntk1, csk1, gk, ntq0, csq0, ntq1, csq1, gq, ntr0, csr0, ntr1, csr1, putCells]
    first | refine WY_heap fun h12 q_h12 => ?_ | refine callG_heap fun h12 q_h12 => ?_ | refine callP_heap fun h12 q_h12 => ?_ | refine callS_heap fun h12 q_h12 => ?_ | refine RY_heap fun h12 q_h12 => ?_ | refine PY_heap fun h12 q_h12 => ?_ | refine SY_heap fun h12 q_h12 => ?_ | refine doneY_heap fun h12 q_h12 => ?_ | refine loopK_heap fun h12 q_h12 => ?_ | refine thenY_heap fun h12 q_h12 => ?_ | refine thenM_heap fun h12 q_h12 => ?_
    have b12 : Adds h11 h12 := by rw [q_h12]; exact (by first | exact aK | exact kK)
    have n12 := b12.1.1
    have K12 := K11.trans b12.1
    have gd : h12.get h1.next = .cells [d0, d1] true true 1 := by rw [b12.1.2 _ (by omega)]; exact gd
    have gg : h12.get h3.next = .cells [g0, g1] true true 1 := by rw [b12.1.2 _ (by omega)]; exact gg
    have gj : h12.get h5.next = .cells [j0, j1] true true 1 := by rw [b12.1.2 _ (by omega)]; exact gj
    have gk : h12.get h7.next = .cells [k0, k1] true true 1 := by rw [b12.1.2 _ (by omega)]; exact gk
    have gq : h12.get h9.next = .cells [q0, q1] true true 1 := by rw [b12.1.2 _ (by omega)]; exact gq
    have hv := hv.keep b12.1
    have hw := hw.keep b12.1
    have hJ := hJ.keep b12.1
    have hD := hD.keep b12.1
    have hu9 := hu9.keep b12.1
    have hu10 := hu10.keep b12.1
    have hE := hE.keep b12.1
    have hu11 := hu11.keep b12.1
    have hu12 := hu12.keep b12.1
    have m12 : h12.next = h11.next + 1 := by simp [q_h12]
    have gr : h12.get h11.next = .cells [r0, r1] true true 1 := by simp [q_h12]
    refine callG_c (by simp) (by simp) ?ha (iChips_ok h12 _ _ _ _ _ _ hu11 hu12) ?_
    (case ha => simp (disch := first | omega | (simp; done) | fail) [wrap64c, if_pos, if_neg, ntv, csv, ntw, csw, hbig, ntc0, csc0, ntc1, csc1, nti, csi, gc, ntf0, csf0, ntf1, csf1, gf, nty0, csy0, nty1, csy1, ge, lu1, lu3, b3, b4, b5, hg', bb, ntd0, csd0, ntd1, csd1, ntj, csj, gd, ntg0, csg0, ntg1, csg1, gg, ntj0, csj0, ntj1, csj1, gj, bR, ntk0, csk0, ntk1, csk1, gk, ntq0, csq0, ntq1, csq1, gq, ntr0, csr0, ntr1, csr1, gr])
    cases hmo : moveR N C i
    · have hmo' := hmo
      try simp (disch := first | omega | (simp; done) | fail) [wrap64c, if_pos, if_neg, ntv, csv, ntw, csw, hbig, ntc0, csc0, ntc1, csc1, nti, csi, gc, ntf0, csf0, ntf1, csf1, gf, nty0, csy0, nty1, csy1, ge, lu1, lu3, b3, b4, b5, hg', bb, ntd0, csd0, ntd1, csd1, ntj, csj, gd, ntg0, csg0, ntg1, csg1, gg, ntj0, csj0, ntj1, csj1, gj, bR, ntk0, csk0, ntk1, csk1, gk, ntq0, csq0, ntq1, csq1, gq, ntr0, csr0, ntr1, csr1, gr, hmo']
      obtain ⟨h0, hh0⟩ : ∃ x, x = h12 := ⟨_, rfl⟩
      have K0 := K12
      rw [← hh0] at K0
      have hv := hv
      have hw := hw
      rw [← hh0] at hv
      rw [← hh0] at hw
      try rw [← hh0]
      obtain ⟨_, h1, p1, a1, f, l3, O, D, ns, rfl, hF, hH, sm4, lns⟩ := drawReached_ok h0 v xs (bytes_old hv)
      refine callG_c (by simp) (by simp) ?ha (p1) ?_
      (case ha => simp (disch := first | omega | (simp; done) | fail) [wrap64c, if_pos, if_neg, ntv, csv, ntw, csw, hbig, ntc0, csc0, ntc1, csc1, nti, csi, gc, ntf0, csf0, ntf1, csf1, gf, nty0, csy0, nty1, csy1, ge, lu1, lu3, b3, b4, b5, hg', bb, ntd0, csd0, ntd1, csd1, ntj, csj, gd, ntg0, csg0, ntg1, csg1, gg, ntj0, csj0, ntj1, csj1, gj, bR, ntk0, csk0, ntk1, csk1, gk, ntq0, csq0, ntq1, csq1, gq, ntr0, csr0, ntr1, csr1, gr, hmo'])
      have n1 := a1.1.1
      have K1 := K0.trans a1.1
      have hv := hv.keep a1.1
      have hw := hw.keep a1.1
      obtain ⟨s0, s1, rfl, hs0, hs1⟩ := hF
      have nts0 := hs0.nt
      have css0 := hs0.cs
      have nts1 := hs1.nt
      have css1 := hs1.cs
      have hF : Chips h1 (.agg #[s0, s1]) (O) (D) := ⟨s0, s1, rfl, hs0, hs1⟩
      have nth := hH.nt
      have csh := hH.cs
      try simp (disch := first | omega | (simp; done) | fail) [wrap64c, if_pos, if_neg, ntv, csv, ntw, csw, hbig, ntc0, csc0, ntc1, csc1, nti, csi, gc, ntf0, csf0, ntf1, csf1, gf, nty0, csy0, nty1, csy1, ge, lu1, lu3, b3, b4, b5, hg', bb, ntd0, csd0, ntd1, csd1, ntj, csj, gd, ntg0, csg0, ntg1, csg1, gg, ntj0, csj0, ntj1, csj1, gj, bR, ntk0, csk0, ntk1, csk1, gk, ntq0, csq0, ntq1, csq1, gq, ntr0, csr0, ntr1, csr1, gr, hmo', nts0, css0, nts1, css1, nth, csh, putCells]
      first | refine WY_heap fun h2 q_h2 => ?_ | refine callG_heap fun h2 q_h2 => ?_ | refine callP_heap fun h2 q_h2 => ?_ | refine callS_heap fun h2 q_h2 => ?_ | refine RY_heap fun h2 q_h2 => ?_ | refine PY_heap fun h2 q_h2 => ?_ | refine SY_heap fun h2 q_h2 => ?_ | refine doneY_heap fun h2 q_h2 => ?_ | refine loopK_heap fun h2 q_h2 => ?_ | refine thenY_heap fun h2 q_h2 => ?_ | refine thenM_heap fun h2 q_h2 => ?_
      have b2 : Adds h1 h2 := by rw [q_h2]; exact (by first | exact aK | exact kK)
      have n2 := b2.1.1
      have K2 := K1.trans b2.1
      have hv := hv.keep b2.1
      have hw := hw.keep b2.1
      have hH := hH.keep b2.1
      have hF := hF.keep b2.1
      have m2 : h2.next = h1.next + 1 := by simp [q_h2]
      have gs : h2.get h1.next = .cells [s0, s1] true true 1 := by simp [q_h2]
      refine callG_c (by simp) (by simp) ?ha (imReachedBy_ok h2 _ _ O D ns hF hH) ?_
      (case ha => simp (disch := first | omega | (simp; done) | fail) [wrap64c, if_pos, if_neg, ntv, csv, ntw, csw, hbig, ntc0, csc0, ntc1, csc1, nti, csi, gc, ntf0, csf0, ntf1, csf1, gf, nty0, csy0, nty1, csy1, ge, lu1, lu3, b3, b4, b5, hg', bb, ntd0, csd0, ntd1, csd1, ntj, csj, gd, ntg0, csg0, ntg1, csg1, gg, ntj0, csj0, ntj1, csj1, gj, bR, ntk0, csk0, ntk1, csk1, gk, ntq0, csq0, ntq1, csq1, gq, ntr0, csr0, ntr1, csr1, gr, hmo', nts0, css0, nts1, css1, nth, csh, gs])
      try simp (disch := first | omega | (simp; done) | fail) [wrap64c, if_pos, if_neg, ntv, csv, ntw, csw, hbig, ntc0, csc0, ntc1, csc1, nti, csi, gc, ntf0, csf0, ntf1, csf1, gf, nty0, csy0, nty1, csy1, ge, lu1, lu3, b3, b4, b5, hg', bb, ntd0, csd0, ntd1, csd1, ntj, csj, gd, ntg0, csg0, ntg1, csg1, gg, ntj0, csj0, ntj1, csj1, gj, bR, ntk0, csk0, ntk1, csk1, gk, ntq0, csq0, ntq1, csq1, gq, ntr0, csr0, ntr1, csr1, gr, hmo', nts0, css0, nts1, css1, nth, csh, gs]
      refine callG_c (by simp) (by simp) ?ha (spReachedBy_ok h2 _ _ O D ns hF hH) ?_
      (case ha => simp (disch := first | omega | (simp; done) | fail) [wrap64c, if_pos, if_neg, ntv, csv, ntw, csw, hbig, ntc0, csc0, ntc1, csc1, nti, csi, gc, ntf0, csf0, ntf1, csf1, gf, nty0, csy0, nty1, csy1, ge, lu1, lu3, b3, b4, b5, hg', bb, ntd0, csd0, ntd1, csd1, ntj, csj, gd, ntg0, csg0, ntg1, csg1, gg, ntj0, csj0, ntj1, csj1, gj, bR, ntk0, csk0, ntk1, csk1, gk, ntq0, csq0, ntq1, csq1, gq, ntr0, csr0, ntr1, csr1, gr, hmo', nts0, css0, nts1, css1, nth, csh, gs])
      try simp (disch := first | omega | (simp; done) | fail) [wrap64c, if_pos, if_neg, ntv, csv, ntw, csw, hbig, ntc0, csc0, ntc1, csc1, nti, csi, gc, ntf0, csf0, ntf1, csf1, gf, nty0, csy0, nty1, csy1, ge, lu1, lu3, b3, b4, b5, hg', bb, ntd0, csd0, ntd1, csd1, ntj, csj, gd, ntg0, csg0, ntg1, csg1, gg, ntj0, csj0, ntj1, csj1, gj, bR, ntk0, csk0, ntk1, csk1, gk, ntq0, csq0, ntq1, csq1, gq, ntr0, csr0, ntr1, csr1, gr, hmo', nts0, css0, nts1, css1, nth, csh, gs]
      exact done_ret rfl (by simp [K2])
    · have hmo' := hmo
      obtain ⟨hg3, kk, rfl, hkk, hcan, rfl⟩ := moveR_some hmo
      have e6 : chL N (moveR N C (kk : Int)) = N := by rw [hmo]; rfl
      have e7 : chA (moveR N C (kk : Int)) = moveA N C kk := by rw [hmo]; rfl
      rw [e6, e7] at hu11
      try simp (disch := first | omega | (simp; done) | fail) [wrap64c, if_pos, if_neg, ntv, csv, ntw, csw, hbig, ntc0, csc0, ntc1, csc1, nti, csi, gc, ntf0, csf0, ntf1, csf1, gf, nty0, csy0, nty1, csy1, ge, lu1, lu3, b3, b4, b5, hg', bb, ntd0, csd0, ntd1, csd1, ntj, csj, gd, ntg0, csg0, ntg1, csg1, gg, ntj0, csj0, ntj1, csj1, gj, bR, ntk0, csk0, ntk1, csk1, gk, ntq0, csq0, ntq1, csq1, gq, ntr0, csr0, ntr1, csr1, gr, hmo']
      obtain ⟨u13, h13, p13, a13, hu13⟩ := imDegreesOf_ok h12 _ N C hE
      refine callG_c (by simp) (by simp) ?ha (p13) ?_
      (case ha => simp (disch := first | omega | (simp; done) | fail) [wrap64c, if_pos, if_neg, ntv, csv, ntw, csw, hbig, ntc0, csc0, ntc1, csc1, nti, csi, gc, ntf0, csf0, ntf1, csf1, gf, nty0, csy0, nty1, csy1, ge, lu1, lu3, b3, b4, b5, hg', bb, ntd0, csd0, ntd1, csd1, ntj, csj, gd, ntg0, csg0, ntg1, csg1, gg, ntj0, csj0, ntj1, csj1, gj, bR, ntk0, csk0, ntk1, csk1, gk, ntq0, csq0, ntq1, csq1, gq, ntr0, csr0, ntr1, csr1, gr, hmo'])
      have n13 := a13.1.1
      have K13 := K12.trans a13.1
      have gd : h13.get h1.next = .cells [d0, d1] true true 1 := by rw [a13.1.2 _ (by omega)]; exact gd
      have gg : h13.get h3.next = .cells [g0, g1] true true 1 := by rw [a13.1.2 _ (by omega)]; exact gg
      have gj : h13.get h5.next = .cells [j0, j1] true true 1 := by rw [a13.1.2 _ (by omega)]; exact gj
      have gk : h13.get h7.next = .cells [k0, k1] true true 1 := by rw [a13.1.2 _ (by omega)]; exact gk
      have gq : h13.get h9.next = .cells [q0, q1] true true 1 := by rw [a13.1.2 _ (by omega)]; exact gq
      have gr : h13.get h11.next = .cells [r0, r1] true true 1 := by rw [a13.1.2 _ (by omega)]; exact gr
      have hv := hv.keep a13.1
      have hw := hw.keep a13.1
      have hJ := hJ.keep a13.1
      have hD := hD.keep a13.1
      have hu9 := hu9.keep a13.1
      have hu10 := hu10.keep a13.1
      have hE := hE.keep a13.1
      have hu11 := hu11.keep a13.1
      have hu12 := hu12.keep a13.1
      have e8 : degR N C = (List.range C.length).map (deg N) := by rw [degR, if_pos hg3]
      rw [e8] at hu13
      have hg3' := hg3
      have hk1 : Ints h13 k1 C := by have := hE; obtain ⟨_, _, z1, z2, z3⟩ := this; cases z1; exact z3
      have hq1 : Ints h13 q1 (moveA N C kk) := by have := hu11; obtain ⟨_, _, z1, z2, z3⟩ := this; cases z1; exact z3
      have lB : (moveA N C kk).length = C.length := by simp [moveA]
      have lD : ((List.range C.length).map (deg N)).length = C.length := by simp
      have lB' := lB
      obtain ⟨o_x, i_x, c_x, cs_x, own_x, ex_x, es_x, q_x, b_x, g_x, l_x, r_x⟩ := hq1.open ((by omega))
      have z_x : ∀ h2 : i_x < cs_x.length, cs_x[i_x] = _ := fun h2 => r_x 0 ((by omega)) h2
      obtain ⟨o_y, i_y, c_y, cs_y, own_y, ex_y, es_y, q_y, b_y, g_y, l_y, r_y⟩ := hk1.open ((by omega))
      have z_y : ∀ h2 : i_y < cs_y.length, cs_y[i_y] = _ := fun h2 => r_y 0 ((by omega)) h2
      obtain ⟨o_z, i_z, c_z, cs_z, own_z, ex_z, es_z, q_z, b_z, g_z, l_z, r_z⟩ := hu13.ints.open ((by omega))
      have z_z : ∀ h2 : i_z < cs_z.length, cs_z[i_z] = _ := fun h2 => r_z 0 ((by omega)) h2
      have gN := good_of hg3
      have bC := gN.2.2.1 _ (List.getElem_mem hkk)
      have bd := gN.shape.deg hkk
      have eM : ∀ hq : kk < (moveA N C kk).length, (moveA N C kk)[kk] = C[kk] - deg N kk := fun hq => by have := move_at hg3 hkk; simpa [List.getD_eq_getElem?_getD, hq, hkk] using this
      have hrk : goodB N (moveA N C kk) = true := (Rn.step Rn.zero hkk hcan (by simpa using hkk)).good hg3
      have gM := good_of hrk
      have sM := move_sum gN.shape hkk
      try simp (disch := first | omega | (simp; done) | fail) [wrap64c, if_pos, if_neg, ntv, csv, ntw, csw, hbig, ntc0, csc0, ntc1, csc1, nti, csi, gc, ntf0, csf0, ntf1, csf1, gf, nty0, csy0, nty1, csy1, ge, lu1, lu3, b3, b4, b5, hg', bb, ntd0, csd0, ntd1, csd1, ntj, csj, gd, ntg0, csg0, ntg1, csg1, gg, ntj0, csj0, ntj1, csj1, gj, bR, ntk0, csk0, ntk1, csk1, gk, ntq0, csq0, ntq1, csq1, gq, ntr0, csr0, ntr1, csr1, gr, hmo', hg3', lB', hkk, lD, q_x, g_x, l_x, r_x, z_x, q_y, g_y, l_y, r_y, z_y, q_z, g_z, l_z, r_z, z_z, eM, sM]
      refine WD_drawC 26 rfl (by kernel_rfl) ?_
      try simp (disch := first | omega | (simp; done) | fail) [wrap64c, if_pos, if_neg, ntv, csv, ntw, csw, hbig, ntc0, csc0, ntc1, csc1, nti, csi, gc, ntf0, csf0, ntf1, csf1, gf, nty0, csy0, nty1, csy1, ge, lu1, lu3, b3, b4, b5, hg', bb, ntd0, csd0, ntd1, csd1, ntj, csj, gd, ntg0, csg0, ntg1, csg1, gg, ntj0, csj0, ntj1, csj1, gj, bR, ntk0, csk0, ntk1, csk1, gk, ntq0, csq0, ntq1, csq1, gq, ntr0, csr0, ntr1, csr1, gr, hmo', hg3', lB', hkk, lD, q_x, g_x, l_x, r_x, z_x, q_y, g_y, l_y, r_y, z_y, q_z, g_z, l_z, r_z, z_z, eM, sM]
      refine callP_c (by simp) (by simp) ?ha (iSum_ok h13 _ _ hq1 (by omega) (fun x hx => by have := gM.2.2.1 x hx; omega)) ?hadd ?_
      (case ha => simp (disch := first | omega | (simp; done) | fail) [wrap64c, if_pos, if_neg, ntv, csv, ntw, csw, hbig, ntc0, csc0, ntc1, csc1, nti, csi, gc, ntf0, csf0, ntf1, csf1, gf, nty0, csy0, nty1, csy1, ge, lu1, lu3, b3, b4, b5, hg', bb, ntd0, csd0, ntd1, csd1, ntj, csj, gd, ntg0, csg0, ntg1, csg1, gg, ntj0, csj0, ntj1, csj1, gj, bR, ntk0, csk0, ntk1, csk1, gk, ntq0, csq0, ntq1, csq1, gq, ntr0, csr0, ntr1, csr1, gr, hmo', hg3', lB', hkk, lD, q_x, g_x, l_x, r_x, z_x, q_y, g_y, l_y, r_y, z_y, q_z, g_z, l_z, r_z, z_z, eM, sM])
      (case hadd => first | assumption | exact adds_self _ | (simp; done))
      try simp (disch := first | omega | (simp; done) | fail) [wrap64c, if_pos, if_neg, ntv, csv, ntw, csw, hbig, ntc0, csc0, ntc1, csc1, nti, csi, gc, ntf0, csf0, ntf1, csf1, gf, nty0, csy0, nty1, csy1, ge, lu1, lu3, b3, b4, b5, hg', bb, ntd0, csd0, ntd1, csd1, ntj, csj, gd, ntg0, csg0, ntg1, csg1, gg, ntj0, csj0, ntj1, csj1, gj, bR, ntk0, csk0, ntk1, csk1, gk, ntq0, csq0, ntq1, csq1, gq, ntr0, csr0, ntr1, csr1, gr, hmo', hg3', lB', hkk, lD, q_x, g_x, l_x, r_x, z_x, q_y, g_y, l_y, r_y, z_y, q_z, g_z, l_z, r_z, z_z, eM, sM]
      refine callG_c (by simp) (by simp) ?ha (iSum_ok h13 _ _ hk1 (by omega) (fun x hx => by have := gN.2.2.1 x hx; omega)) ?_
      (case ha => simp (disch := first | omega | (simp; done) | fail) [wrap64c, if_pos, if_neg, ntv, csv, ntw, csw, hbig, ntc0, csc0, ntc1, csc1, nti, csi, gc, ntf0, csf0, ntf1, csf1, gf, nty0, csy0, nty1, csy1, ge, lu1, lu3, b3, b4, b5, hg', bb, ntd0, csd0, ntd1, csd1, ntj, csj, gd, ntg0, csg0, ntg1, csg1, gg, ntj0, csj0, ntj1, csj1, gj, bR, ntk0, csk0, ntk1, csk1, gk, ntq0, csq0, ntq1, csq1, gq, ntr0, csr0, ntr1, csr1, gr, hmo', hg3', lB', hkk, lD, q_x, g_x, l_x, r_x, z_x, q_y, g_y, l_y, r_y, z_y, q_z, g_z, l_z, r_z, z_z, eM, sM])
      try simp (disch := first | omega | (simp; done) | fail) [wrap64c, if_pos, if_neg, ntv, csv, ntw, csw, hbig, ntc0, csc0, ntc1, csc1, nti, csi, gc, ntf0, csf0, ntf1, csf1, gf, nty0, csy0, nty1, csy1, ge, lu1, lu3, b3, b4, b5, hg', bb, ntd0, csd0, ntd1, csd1, ntj, csj, gd, ntg0, csg0, ntg1, csg1, gg, ntj0, csj0, ntj1, csj1, gj, bR, ntk0, csk0, ntk1, csk1, gk, ntq0, csq0, ntq1, csq1, gq, ntr0, csr0, ntr1, csr1, gr, hmo', hg3', lB', hkk, lD, q_x, g_x, l_x, r_x, z_x, q_y, g_y, l_y, r_y, z_y, q_z, g_z, l_z, r_z, z_z, eM, sM]
      obtain ⟨h0, hh0⟩ : ∃ x, x = h13 := ⟨_, rfl⟩
      have K0 := K13
      rw [← hh0] at K0
      have hv := hv
      have hw := hw
      rw [← hh0] at hv
      rw [← hh0] at hw
      try rw [← hh0]
      obtain ⟨_, h1, p1, a1, f, l3, O, D, ns, rfl, hF, hH, sm4, lns⟩ := drawReached_ok h0 v xs (bytes_old hv)
      refine callG_c (by simp) (by simp) ?ha (p1) ?_
      (case ha => simp (disch := first | omega | (simp; done) | fail) [wrap64c, if_pos, if_neg, ntv, csv, ntw, csw, hbig, ntc0, csc0, ntc1, csc1, nti, csi, gc, ntf0, csf0, ntf1, csf1, gf, nty0, csy0, nty1, csy1, ge, lu1, lu3, b3, b4, b5, hg', bb, ntd0, csd0, ntd1, csd1, ntj, csj, gd, ntg0, csg0, ntg1, csg1, gg, ntj0, csj0, ntj1, csj1, gj, bR, ntk0, csk0, ntk1, csk1, gk, ntq0, csq0, ntq1, csq1, gq, ntr0, csr0, ntr1, csr1, gr, hmo', hg3', lB', hkk, lD, q_x, g_x, l_x, r_x, z_x, q_y, g_y, l_y, r_y, z_y, q_z, g_z, l_z, r_z, z_z, eM, sM])
      have n1 := a1.1.1
      have K1 := K0.trans a1.1
      have hv := hv.keep a1.1
      have hw := hw.keep a1.1
      obtain ⟨s0, s1, rfl, hs0, hs1⟩ := hF
      have nts0 := hs0.nt
      have css0 := hs0.cs
      have nts1 := hs1.nt
      have css1 := hs1.cs
      have hF : Chips h1 (.agg #[s0, s1]) (O) (D) := ⟨s0, s1, rfl, hs0, hs1⟩
      have nth := hH.nt
      have csh := hH.cs
      try simp (disch := first | omega | (simp; done) | fail) [wrap64c, if_pos, if_neg, ntv, csv, ntw, csw, hbig, ntc0, csc0, ntc1, csc1, nti, csi, gc, ntf0, csf0, ntf1, csf1, gf, nty0, csy0, nty1, csy1, ge, lu1, lu3, b3, b4, b5, hg', bb, ntd0, csd0, ntd1, csd1, ntj, csj, gd, ntg0, csg0, ntg1, csg1, gg, ntj0, csj0, ntj1, csj1, gj, bR, ntk0, csk0, ntk1, csk1, gk, ntq0, csq0, ntq1, csq1, gq, ntr0, csr0, ntr1, csr1, gr, hmo', hg3', lB', hkk, lD, q_x, g_x, l_x, r_x, z_x, q_y, g_y, l_y, r_y, z_y, q_z, g_z, l_z, r_z, z_z, eM, sM, nts0, css0, nts1, css1, nth, csh, putCells]
      first | refine WY_heap fun h2 q_h2 => ?_ | refine callG_heap fun h2 q_h2 => ?_ | refine callP_heap fun h2 q_h2 => ?_ | refine callS_heap fun h2 q_h2 => ?_ | refine RY_heap fun h2 q_h2 => ?_ | refine PY_heap fun h2 q_h2 => ?_ | refine SY_heap fun h2 q_h2 => ?_ | refine doneY_heap fun h2 q_h2 => ?_ | refine loopK_heap fun h2 q_h2 => ?_ | refine thenY_heap fun h2 q_h2 => ?_ | refine thenM_heap fun h2 q_h2 => ?_
      have b2 : Adds h1 h2 := by rw [q_h2]; exact (by first | exact aK | exact kK)
      have n2 := b2.1.1
      have K2 := K1.trans b2.1
      have hv := hv.keep b2.1
      have hw := hw.keep b2.1
      have hH := hH.keep b2.1
      have hF := hF.keep b2.1
      have m2 : h2.next = h1.next + 1 := by simp [q_h2]
      have gs : h2.get h1.next = .cells [s0, s1] true true 1 := by simp [q_h2]
      refine callG_c (by simp) (by simp) ?ha (imReachedBy_ok h2 _ _ O D ns hF hH) ?_
      (case ha => simp (disch := first | omega | (simp; done) | fail) [wrap64c, if_pos, if_neg, ntv, csv, ntw, csw, hbig, ntc0, csc0, ntc1, csc1, nti, csi, gc, ntf0, csf0, ntf1, csf1, gf, nty0, csy0, nty1, csy1, ge, lu1, lu3, b3, b4, b5, hg', bb, ntd0, csd0, ntd1, csd1, ntj, csj, gd, ntg0, csg0, ntg1, csg1, gg, ntj0, csj0, ntj1, csj1, gj, bR, ntk0, csk0, ntk1, csk1, gk, ntq0, csq0, ntq1, csq1, gq, ntr0, csr0, ntr1, csr1, gr, hmo', hg3', lB', hkk, lD, q_x, g_x, l_x, r_x, z_x, q_y, g_y, l_y, r_y, z_y, q_z, g_z, l_z, r_z, z_z, eM, sM, nts0, css0, nts1, css1, nth, csh, gs])
      try simp (disch := first | omega | (simp; done) | fail) [wrap64c, if_pos, if_neg, ntv, csv, ntw, csw, hbig, ntc0, csc0, ntc1, csc1, nti, csi, gc, ntf0, csf0, ntf1, csf1, gf, nty0, csy0, nty1, csy1, ge, lu1, lu3, b3, b4, b5, hg', bb, ntd0, csd0, ntd1, csd1, ntj, csj, gd, ntg0, csg0, ntg1, csg1, gg, ntj0, csj0, ntj1, csj1, gj, bR, ntk0, csk0, ntk1, csk1, gk, ntq0, csq0, ntq1, csq1, gq, ntr0, csr0, ntr1, csr1, gr, hmo', hg3', lB', hkk, lD, q_x, g_x, l_x, r_x, z_x, q_y, g_y, l_y, r_y, z_y, q_z, g_z, l_z, r_z, z_z, eM, sM, nts0, css0, nts1, css1, nth, csh, gs]
      refine callG_c (by simp) (by simp) ?ha (spReachedBy_ok h2 _ _ O D ns hF hH) ?_
      (case ha => simp (disch := first | omega | (simp; done) | fail) [wrap64c, if_pos, if_neg, ntv, csv, ntw, csw, hbig, ntc0, csc0, ntc1, csc1, nti, csi, gc, ntf0, csf0, ntf1, csf1, gf, nty0, csy0, nty1, csy1, ge, lu1, lu3, b3, b4, b5, hg', bb, ntd0, csd0, ntd1, csd1, ntj, csj, gd, ntg0, csg0, ntg1, csg1, gg, ntj0, csj0, ntj1, csj1, gj, bR, ntk0, csk0, ntk1, csk1, gk, ntq0, csq0, ntq1, csq1, gq, ntr0, csr0, ntr1, csr1, gr, hmo', hg3', lB', hkk, lD, q_x, g_x, l_x, r_x, z_x, q_y, g_y, l_y, r_y, z_y, q_z, g_z, l_z, r_z, z_z, eM, sM, nts0, css0, nts1, css1, nth, csh, gs])
      try simp (disch := first | omega | (simp; done) | fail) [wrap64c, if_pos, if_neg, ntv, csv, ntw, csw, hbig, ntc0, csc0, ntc1, csc1, nti, csi, gc, ntf0, csf0, ntf1, csf1, gf, nty0, csy0, nty1, csy1, ge, lu1, lu3, b3, b4, b5, hg', bb, ntd0, csd0, ntd1, csd1, ntj, csj, gd, ntg0, csg0, ntg1, csg1, gg, ntj0, csj0, ntj1, csj1, gj, bR, ntk0, csk0, ntk1, csk1, gk, ntq0, csq0, ntq1, csq1, gq, ntr0, csr0, ntr1, csr1, gr, hmo', hg3', lB', hkk, lD, q_x, g_x, l_x, r_x, z_x, q_y, g_y, l_y, r_y, z_y, q_z, g_z, l_z, r_z, z_z, eM, sM, nts0, css0, nts1, css1, nth, csh, gs]
      exact done_ret rfl (by simp [K2])
  have hg' := hg
  have bE : endR L A = !(fullR L A []).isSome := by simp [endR, hg]
  cases hb : byR L A cs
  case none =>
    have bb : (byR L A cs).isSome = false := by simp [hb]
    have bX : ((fullR L A []).isNone == (fullR L A []).isSome) = false := by cases fullR L A [] <;> rfl
    try simp (disch := first | omega | (simp; done) | fail) [wrap64c, if_pos, if_neg, ntv, csv, ntw, csw, hbig, ntc0, csc0, ntc1, csc1, nti, csi, gc, ntf0, csf0, ntf1, csf1, gf, nty0, csy0, nty1, csy1, ge, lu1, lu3, b3, b4, b5, hg', bE, bb, bX]
    obtain ⟨h0, hh0⟩ : ∃ x, x = h12 := ⟨_, rfl⟩
    have K0 := K12
    rw [← hh0] at K0
    have hv := hv
    have hw := hw
    rw [← hh0] at hv
    rw [← hh0] at hw
    try rw [← hh0]
    obtain ⟨_, h1, p1, a1, d, l2, M, B, ms, rfl, hD, hJ, sm2, lms⟩ := drawRun_ok h0 w ys (bytes_old hw)
    refine callG_c (by simp) (by simp) ?ha (p1) ?_
    (case ha => simp (disch := first | omega | (simp; done) | fail) [wrap64c, if_pos, if_neg, ntv, csv, ntw, csw, hbig, ntc0, csc0, ntc1, csc1, nti, csi, gc, ntf0, csf0, ntf1, csf1, gf, nty0, csy0, nty1, csy1, ge, lu1, lu3, b3, b4, b5, hg', bE, bb, bX])
    have n1 := a1.1.1
    have K1 := K0.trans a1.1
    have hv := hv.keep a1.1
    have hw := hw.keep a1.1
    obtain ⟨d0, d1, rfl, hd0, hd1⟩ := hD
    have ntd0 := hd0.nt
    have csd0 := hd0.cs
    have ntd1 := hd1.nt
    have csd1 := hd1.cs
    have hD : Chips h1 (.agg #[d0, d1]) (M) (B) := ⟨d0, d1, rfl, hd0, hd1⟩
    have ntj := hJ.nt
    have csj := hJ.cs
    try simp (disch := first | omega | (simp; done) | fail) [wrap64c, if_pos, if_neg, ntv, csv, ntw, csw, hbig, ntc0, csc0, ntc1, csc1, nti, csi, gc, ntf0, csf0, ntf1, csf1, gf, nty0, csy0, nty1, csy1, ge, lu1, lu3, b3, b4, b5, hg', bE, bb, bX, ntd0, csd0, ntd1, csd1, ntj, csj, putCells]
    first | refine WY_heap fun h2 q_h2 => ?_ | refine callG_heap fun h2 q_h2 => ?_ | refine callP_heap fun h2 q_h2 => ?_ | refine callS_heap fun h2 q_h2 => ?_ | refine RY_heap fun h2 q_h2 => ?_ | refine PY_heap fun h2 q_h2 => ?_ | refine SY_heap fun h2 q_h2 => ?_ | refine doneY_heap fun h2 q_h2 => ?_ | refine loopK_heap fun h2 q_h2 => ?_ | refine thenY_heap fun h2 q_h2 => ?_ | refine thenM_heap fun h2 q_h2 => ?_
    have b2 : Adds h1 h2 := by rw [q_h2]; exact (by first | exact aK | exact kK)
    have n2 := b2.1.1
    have K2 := K1.trans b2.1
    have hv := hv.keep b2.1
    have hw := hw.keep b2.1
    have hJ := hJ.keep b2.1
    have hD := hD.keep b2.1
    have m2 : h2.next = h1.next + 1 := by simp [q_h2]
    have gd : h2.get h1.next = .cells [d0, d1] true true 1 := by simp [q_h2]
    obtain ⟨_, h3, p3, a3, u9, rfl, hu9⟩ := imRunChips_ok h2 _ l2 M B ms hD hJ
    refine callG_c (by simp) (by simp) ?ha (p3) ?_
    (case ha => simp (disch := first | omega | (simp; done) | fail) [wrap64c, if_pos, if_neg, ntv, csv, ntw, csw, hbig, ntc0, csc0, ntc1, csc1, nti, csi, gc, ntf0, csf0, ntf1, csf1, gf, nty0, csy0, nty1, csy1, ge, lu1, lu3, b3, b4, b5, hg', bE, bb, bX, ntd0, csd0, ntd1, csd1, ntj, csj, gd])
    have n3 := a3.1.1
    have K3 := K2.trans a3.1
    have gd : h3.get h1.next = .cells [d0, d1] true true 1 := by rw [a3.1.2 _ (by omega)]; exact gd
    have hv := hv.keep a3.1
    have hw := hw.keep a3.1
    have hJ := hJ.keep a3.1
    have hD := hD.keep a3.1
    have hu9 := hu9.chips
    obtain ⟨g0, g1, rfl, hg0, hg1⟩ := hu9
    have ntg0 := hg0.nt
    have csg0 := hg0.cs
    have ntg1 := hg1.nt
    have csg1 := hg1.cs
    have hu9 : Chips h3 (.agg #[g0, g1]) (chL M (runR M B ms)) (chA (runR M B ms)) := ⟨g0, g1, rfl, hg0, hg1⟩
    try simp (disch := first | omega | (simp; done) | fail) [wrap64c, if_pos, if_neg, ntv, csv, ntw, csw, hbig, ntc0, csc0, ntc1, csc1, nti, csi, gc, ntf0, csf0, ntf1, csf1, gf, nty0, csy0, nty1, csy1, ge, lu1, lu3, b3, b4, b5, hg', bE, bb, bX, ntd0, csd0, ntd1, csd1, ntj, csj, gd, ntg0, csg0, ntg1, csg1, putCells]
    first | refine WY_heap fun h4 q_h4 => ?_ | refine callG_heap fun h4 q_h4 => ?_ | refine callP_heap fun h4 q_h4 => ?_ | refine callS_heap fun h4 q_h4 => ?_ | refine RY_heap fun h4 q_h4 => ?_ | refine PY_heap fun h4 q_h4 => ?_ | refine SY_heap fun h4 q_h4 => ?_ | refine doneY_heap fun h4 q_h4 => ?_ | refine loopK_heap fun h4 q_h4 => ?_ | refine thenY_heap fun h4 q_h4 => ?_ | refine thenM_heap fun h4 q_h4 => ?_
    have b4 : Adds h3 h4 := by rw [q_h4]; exact (by first | exact aK | exact kK)
    have n4 := b4.1.1
    have K4 := K3.trans b4.1
    have gd : h4.get h1.next = .cells [d0, d1] true true 1 := by rw [b4.1.2 _ (by omega)]; exact gd
    have hv := hv.keep b4.1
    have hw := hw.keep b4.1
    have hJ := hJ.keep b4.1
    have hD := hD.keep b4.1
    have hu9 := hu9.keep b4.1
    have m4 : h4.next = h3.next + 1 := by simp [q_h4]
    have gg : h4.get h3.next = .cells [g0, g1] true true 1 := by simp [q_h4]
    obtain ⟨_, h5, p5, a5, u10, rfl, hu10⟩ := spRunChips_ok h4 _ l2 M B ms hD hJ
    refine callG_c (by simp) (by simp) ?ha (p5) ?_
    (case ha => simp (disch := first | omega | (simp; done) | fail) [wrap64c, if_pos, if_neg, ntv, csv, ntw, csw, hbig, ntc0, csc0, ntc1, csc1, nti, csi, gc, ntf0, csf0, ntf1, csf1, gf, nty0, csy0, nty1, csy1, ge, lu1, lu3, b3, b4, b5, hg', bE, bb, bX, ntd0, csd0, ntd1, csd1, ntj, csj, gd, ntg0, csg0, ntg1, csg1, gg])
    have n5 := a5.1.1
    have K5 := K4.trans a5.1
    have gd : h5.get h1.next = .cells [d0, d1] true true 1 := by rw [a5.1.2 _ (by omega)]; exact gd
    have gg : h5.get h3.next = .cells [g0, g1] true true 1 := by rw [a5.1.2 _ (by omega)]; exact gg
    have hv := hv.keep a5.1
    have hw := hw.keep a5.1
    have hJ := hJ.keep a5.1
    have hD := hD.keep a5.1
    have hu9 := hu9.keep a5.1
    have hu10 := hu10.chips
    obtain ⟨j0, j1, rfl, hj0, hj1⟩ := hu10
    have ntj0 := hj0.nt
    have csj0 := hj0.cs
    have ntj1 := hj1.nt
    have csj1 := hj1.cs
    have hu10 : Chips h5 (.agg #[j0, j1]) (chL M (runR M B ms)) (chA (runR M B ms)) := ⟨j0, j1, rfl, hj0, hj1⟩
    try simp (disch := first | omega | (simp; done) | fail) [wrap64c, if_pos, if_neg, ntv, csv, ntw, csw, hbig, ntc0, csc0, ntc1, csc1, nti, csi, gc, ntf0, csf0, ntf1, csf1, gf, nty0, csy0, nty1, csy1, ge, lu1, lu3, b3, b4, b5, hg', bE, bb, bX, ntd0, csd0, ntd1, csd1, ntj, csj, gd, ntg0, csg0, ntg1, csg1, gg, ntj0, csj0, ntj1, csj1, putCells]
    first | refine WY_heap fun h6 q_h6 => ?_ | refine callG_heap fun h6 q_h6 => ?_ | refine callP_heap fun h6 q_h6 => ?_ | refine callS_heap fun h6 q_h6 => ?_ | refine RY_heap fun h6 q_h6 => ?_ | refine PY_heap fun h6 q_h6 => ?_ | refine SY_heap fun h6 q_h6 => ?_ | refine doneY_heap fun h6 q_h6 => ?_ | refine loopK_heap fun h6 q_h6 => ?_ | refine thenY_heap fun h6 q_h6 => ?_ | refine thenM_heap fun h6 q_h6 => ?_
    have b6 : Adds h5 h6 := by rw [q_h6]; exact (by first | exact aK | exact kK)
    have n6 := b6.1.1
    have K6 := K5.trans b6.1
    have gd : h6.get h1.next = .cells [d0, d1] true true 1 := by rw [b6.1.2 _ (by omega)]; exact gd
    have gg : h6.get h3.next = .cells [g0, g1] true true 1 := by rw [b6.1.2 _ (by omega)]; exact gg
    have hv := hv.keep b6.1
    have hw := hw.keep b6.1
    have hJ := hJ.keep b6.1
    have hD := hD.keep b6.1
    have hu9 := hu9.keep b6.1
    have hu10 := hu10.keep b6.1
    have m6 : h6.next = h5.next + 1 := by simp [q_h6]
    have gj : h6.get h5.next = .cells [j0, j1] true true 1 := by simp [q_h6]
    refine callG_c (by simp) (by simp) ?ha (imIsRun_ok h6 _ l2 M B ms hD hJ) ?_
    (case ha => simp (disch := first | omega | (simp; done) | fail) [wrap64c, if_pos, if_neg, ntv, csv, ntw, csw, hbig, ntc0, csc0, ntc1, csc1, nti, csi, gc, ntf0, csf0, ntf1, csf1, gf, nty0, csy0, nty1, csy1, ge, lu1, lu3, b3, b4, b5, hg', bE, bb, bX, ntd0, csd0, ntd1, csd1, ntj, csj, gd, ntg0, csg0, ntg1, csg1, gg, ntj0, csj0, ntj1, csj1, gj])
    try simp (disch := first | omega | (simp; done) | fail) [wrap64c, if_pos, if_neg, ntv, csv, ntw, csw, hbig, ntc0, csc0, ntc1, csc1, nti, csi, gc, ntf0, csf0, ntf1, csf1, gf, nty0, csy0, nty1, csy1, ge, lu1, lu3, b3, b4, b5, hg', bE, bb, bX, ntd0, csd0, ntd1, csd1, ntj, csj, gd, ntg0, csg0, ntg1, csg1, gg, ntj0, csj0, ntj1, csj1, gj]
    refine callG_c (by simp) (by simp) ?ha (spIsRun_ok h6 _ l2 M B ms hD hJ) ?_
    (case ha => simp (disch := first | omega | (simp; done) | fail) [wrap64c, if_pos, if_neg, ntv, csv, ntw, csw, hbig, ntc0, csc0, ntc1, csc1, nti, csi, gc, ntf0, csf0, ntf1, csf1, gf, nty0, csy0, nty1, csy1, ge, lu1, lu3, b3, b4, b5, hg', bE, bb, bX, ntd0, csd0, ntd1, csd1, ntj, csj, gd, ntg0, csg0, ntg1, csg1, gg, ntj0, csj0, ntj1, csj1, gj])
    have bR : isR M B ms = (runR M B ms).isSome := rfl
    try simp (disch := first | omega | (simp; done) | fail) [wrap64c, if_pos, if_neg, ntv, csv, ntw, csw, hbig, ntc0, csc0, ntc1, csc1, nti, csi, gc, ntf0, csf0, ntf1, csf1, gf, nty0, csy0, nty1, csy1, ge, lu1, lu3, b3, b4, b5, hg', bE, bb, bX, ntd0, csd0, ntd1, csd1, ntj, csj, gd, ntg0, csg0, ntg1, csg1, gg, ntj0, csj0, ntj1, csj1, gj, bR]
    refine callG_c (by simp) (by simp) ?ha (iChips_ok h6 _ _ _ _ _ _ hu9 hu10) ?_
    (case ha => simp (disch := first | omega | (simp; done) | fail) [wrap64c, if_pos, if_neg, ntv, csv, ntw, csw, hbig, ntc0, csc0, ntc1, csc1, nti, csi, gc, ntf0, csf0, ntf1, csf1, gf, nty0, csy0, nty1, csy1, ge, lu1, lu3, b3, b4, b5, hg', bE, bb, bX, ntd0, csd0, ntd1, csd1, ntj, csj, gd, ntg0, csg0, ntg1, csg1, gg, ntj0, csj0, ntj1, csj1, gj, bR])
    try simp (disch := first | omega | (simp; done) | fail) [wrap64c, if_pos, if_neg, ntv, csv, ntw, csw, hbig, ntc0, csc0, ntc1, csc1, nti, csi, gc, ntf0, csf0, ntf1, csf1, gf, nty0, csy0, nty1, csy1, ge, lu1, lu3, b3, b4, b5, hg', bE, bb, bX, ntd0, csd0, ntd1, csd1, ntj, csj, gd, ntg0, csg0, ntg1, csg1, gg, ntj0, csj0, ntj1, csj1, gj, bR]
    obtain ⟨_, h7, p7, a7, e, N, C, i, rfl, hE, sm3, li1, li2⟩ := drawMove_ok h6 w ys (bytes_old hw)
    refine callG_c (by simp) (by simp) ?ha (p7) ?_
    (case ha => simp (disch := first | omega | (simp; done) | fail) [wrap64c, if_pos, if_neg, ntv, csv, ntw, csw, hbig, ntc0, csc0, ntc1, csc1, nti, csi, gc, ntf0, csf0, ntf1, csf1, gf, nty0, csy0, nty1, csy1, ge, lu1, lu3, b3, b4, b5, hg', bE, bb, bX, ntd0, csd0, ntd1, csd1, ntj, csj, gd, ntg0, csg0, ntg1, csg1, gg, ntj0, csj0, ntj1, csj1, gj, bR])
    have n7 := a7.1.1
    have K7 := K6.trans a7.1
    have gd : h7.get h1.next = .cells [d0, d1] true true 1 := by rw [a7.1.2 _ (by omega)]; exact gd
    have gg : h7.get h3.next = .cells [g0, g1] true true 1 := by rw [a7.1.2 _ (by omega)]; exact gg
    have gj : h7.get h5.next = .cells [j0, j1] true true 1 := by rw [a7.1.2 _ (by omega)]; exact gj
    have hv := hv.keep a7.1
    have hw := hw.keep a7.1
    have hJ := hJ.keep a7.1
    have hD := hD.keep a7.1
    have hu9 := hu9.keep a7.1
    have hu10 := hu10.keep a7.1
    obtain ⟨k0, k1, rfl, hk0, hk1⟩ := hE
    have ntk0 := hk0.nt
    have csk0 := hk0.cs
    have ntk1 := hk1.nt
    have csk1 := hk1.cs
    have hE : Chips h7 (.agg #[k0, k1]) (N) (C) := ⟨k0, k1, rfl, hk0, hk1⟩
    try simp (disch := first | omega | (simp; done) | fail) [wrap64c, if_pos, if_neg, ntv, csv, ntw, csw, hbig, ntc0, csc0, ntc1, csc1, nti, csi, gc, ntf0, csf0, ntf1, csf1, gf, nty0, csy0, nty1, csy1, ge, lu1, lu3, b3, b4, b5, hg', bE, bb, bX, ntd0, csd0, ntd1, csd1, ntj, csj, gd, ntg0, csg0, ntg1, csg1, gg, ntj0, csj0, ntj1, csj1, gj, bR, ntk0, csk0, ntk1, csk1, putCells]
    first | refine WY_heap fun h8 q_h8 => ?_ | refine callG_heap fun h8 q_h8 => ?_ | refine callP_heap fun h8 q_h8 => ?_ | refine callS_heap fun h8 q_h8 => ?_ | refine RY_heap fun h8 q_h8 => ?_ | refine PY_heap fun h8 q_h8 => ?_ | refine SY_heap fun h8 q_h8 => ?_ | refine doneY_heap fun h8 q_h8 => ?_ | refine loopK_heap fun h8 q_h8 => ?_ | refine thenY_heap fun h8 q_h8 => ?_ | refine thenM_heap fun h8 q_h8 => ?_
    have b8 : Adds h7 h8 := by rw [q_h8]; exact (by first | exact aK | exact kK)
    have n8 := b8.1.1
    have K8 := K7.trans b8.1
    have gd : h8.get h1.next = .cells [d0, d1] true true 1 := by rw [b8.1.2 _ (by omega)]; exact gd
    have gg : h8.get h3.next = .cells [g0, g1] true true 1 := by rw [b8.1.2 _ (by omega)]; exact gg
    have gj : h8.get h5.next = .cells [j0, j1] true true 1 := by rw [b8.1.2 _ (by omega)]; exact gj
    have hv := hv.keep b8.1
    have hw := hw.keep b8.1
    have hJ := hJ.keep b8.1
    have hD := hD.keep b8.1
    have hu9 := hu9.keep b8.1
    have hu10 := hu10.keep b8.1
    have hE := hE.keep b8.1
    have m8 : h8.next = h7.next + 1 := by simp [q_h8]
    have gk : h8.get h7.next = .cells [k0, k1] true true 1 := by simp [q_h8]
    obtain ⟨_, h9, p9, a9, u11, rfl, hu11⟩ := imMoveChips_ok h8 _ N C i hE
    refine callG_c (by simp) (by simp) ?ha (p9) ?_
    (case ha => simp (disch := first | omega | (simp; done) | fail) [wrap64c, if_pos, if_neg, ntv, csv, ntw, csw, hbig, ntc0, csc0, ntc1, csc1, nti, csi, gc, ntf0, csf0, ntf1, csf1, gf, nty0, csy0, nty1, csy1, ge, lu1, lu3, b3, b4, b5, hg', bE, bb, bX, ntd0, csd0, ntd1, csd1, ntj, csj, gd, ntg0, csg0, ntg1, csg1, gg, ntj0, csj0, ntj1, csj1, gj, bR, ntk0, csk0, ntk1, csk1, gk])
    have n9 := a9.1.1
    have K9 := K8.trans a9.1
    have gd : h9.get h1.next = .cells [d0, d1] true true 1 := by rw [a9.1.2 _ (by omega)]; exact gd
    have gg : h9.get h3.next = .cells [g0, g1] true true 1 := by rw [a9.1.2 _ (by omega)]; exact gg
    have gj : h9.get h5.next = .cells [j0, j1] true true 1 := by rw [a9.1.2 _ (by omega)]; exact gj
    have gk : h9.get h7.next = .cells [k0, k1] true true 1 := by rw [a9.1.2 _ (by omega)]; exact gk
    have hv := hv.keep a9.1
    have hw := hw.keep a9.1
    have hJ := hJ.keep a9.1
    have hD := hD.keep a9.1
    have hu9 := hu9.keep a9.1
    have hu10 := hu10.keep a9.1
    have hE := hE.keep a9.1
    have hu11 := hu11.chips
    obtain ⟨q0, q1, rfl, hq0, hq1⟩ := hu11
    have ntq0 := hq0.nt
    have csq0 := hq0.cs
    have ntq1 := hq1.nt
    have csq1 := hq1.cs
    have hu11 : Chips h9 (.agg #[q0, q1]) (chL N (moveR N C i)) (chA (moveR N C i)) := ⟨q0, q1, rfl, hq0, hq1⟩
    try simp (disch := first | omega | (simp; done) | fail) [wrap64c, if_pos, if_neg, ntv, csv, ntw, csw, hbig, ntc0, csc0, ntc1, csc1, nti, csi, gc, ntf0, csf0, ntf1, csf1, gf, nty0, csy0, nty1, csy1, ge, lu1, lu3, b3, b4, b5, hg', bE, bb, bX, ntd0, csd0, ntd1, csd1, ntj, csj, gd, ntg0, csg0, ntg1, csg1, gg, ntj0, csj0, ntj1, csj1, gj, bR, ntk0, csk0, ntk1, csk1, gk, ntq0, csq0, ntq1, csq1, putCells]
    first | refine WY_heap fun h10 q_h10 => ?_ | refine callG_heap fun h10 q_h10 => ?_ | refine callP_heap fun h10 q_h10 => ?_ | refine callS_heap fun h10 q_h10 => ?_ | refine RY_heap fun h10 q_h10 => ?_ | refine PY_heap fun h10 q_h10 => ?_ | refine SY_heap fun h10 q_h10 => ?_ | refine doneY_heap fun h10 q_h10 => ?_ | refine loopK_heap fun h10 q_h10 => ?_ | refine thenY_heap fun h10 q_h10 => ?_ | refine thenM_heap fun h10 q_h10 => ?_
    have b10 : Adds h9 h10 := by rw [q_h10]; exact (by first | exact aK | exact kK)
    have n10 := b10.1.1
    have K10 := K9.trans b10.1
    have gd : h10.get h1.next = .cells [d0, d1] true true 1 := by rw [b10.1.2 _ (by omega)]; exact gd
    have gg : h10.get h3.next = .cells [g0, g1] true true 1 := by rw [b10.1.2 _ (by omega)]; exact gg
    have gj : h10.get h5.next = .cells [j0, j1] true true 1 := by rw [b10.1.2 _ (by omega)]; exact gj
    have gk : h10.get h7.next = .cells [k0, k1] true true 1 := by rw [b10.1.2 _ (by omega)]; exact gk
    have hv := hv.keep b10.1
    have hw := hw.keep b10.1
    have hJ := hJ.keep b10.1
    have hD := hD.keep b10.1
    have hu9 := hu9.keep b10.1
    have hu10 := hu10.keep b10.1
    have hE := hE.keep b10.1
    have hu11 := hu11.keep b10.1
    have m10 : h10.next = h9.next + 1 := by simp [q_h10]
    have gq : h10.get h9.next = .cells [q0, q1] true true 1 := by simp [q_h10]
    obtain ⟨_, h11, p11, a11, u12, rfl, hu12⟩ := spMoveChips_ok h10 _ N C i hE
    refine callG_c (by simp) (by simp) ?ha (p11) ?_
    (case ha => simp (disch := first | omega | (simp; done) | fail) [wrap64c, if_pos, if_neg, ntv, csv, ntw, csw, hbig, ntc0, csc0, ntc1, csc1, nti, csi, gc, ntf0, csf0, ntf1, csf1, gf, nty0, csy0, nty1, csy1, ge, lu1, lu3, b3, b4, b5, hg', bE, bb, bX, ntd0, csd0, ntd1, csd1, ntj, csj, gd, ntg0, csg0, ntg1, csg1, gg, ntj0, csj0, ntj1, csj1, gj, bR, ntk0, csk0, ntk1, csk1, gk, ntq0, csq0, ntq1, csq1, gq])
    have n11 := a11.1.1
    have K11 := K10.trans a11.1
    have gd : h11.get h1.next = .cells [d0, d1] true true 1 := by rw [a11.1.2 _ (by omega)]; exact gd
    have gg : h11.get h3.next = .cells [g0, g1] true true 1 := by rw [a11.1.2 _ (by omega)]; exact gg
    have gj : h11.get h5.next = .cells [j0, j1] true true 1 := by rw [a11.1.2 _ (by omega)]; exact gj
    have gk : h11.get h7.next = .cells [k0, k1] true true 1 := by rw [a11.1.2 _ (by omega)]; exact gk
    have gq : h11.get h9.next = .cells [q0, q1] true true 1 := by rw [a11.1.2 _ (by omega)]; exact gq
    have hv := hv.keep a11.1
    have hw := hw.keep a11.1
    have hJ := hJ.keep a11.1
    have hD := hD.keep a11.1
    have hu9 := hu9.keep a11.1
    have hu10 := hu10.keep a11.1
    have hE := hE.keep a11.1
    have hu11 := hu11.keep a11.1
    have hu12 := hu12.chips
    obtain ⟨r0, r1, rfl, hr0, hr1⟩ := hu12
    have ntr0 := hr0.nt
    have csr0 := hr0.cs
    have ntr1 := hr1.nt
    have csr1 := hr1.cs
    have hu12 : Chips h11 (.agg #[r0, r1]) (chL N (moveR N C i)) (chA (moveR N C i)) := ⟨r0, r1, rfl, hr0, hr1⟩
    try simp (disch := first | omega | (simp; done) | fail) [wrap64c, if_pos, if_neg, ntv, csv, ntw, csw, hbig, ntc0, csc0, ntc1, csc1, nti, csi, gc, ntf0, csf0, ntf1, csf1, gf, nty0, csy0, nty1, csy1, ge, lu1, lu3, b3, b4, b5, hg', bE, bb, bX, ntd0, csd0, ntd1, csd1, ntj, csj, gd, ntg0, csg0, ntg1, csg1, gg, ntj0, csj0, ntj1, csj1, gj, bR, ntk0, csk0, ntk1, csk1, gk, ntq0, csq0, ntq1, csq1, gq, ntr0, csr0, ntr1, csr1, putCells]
    first | refine WY_heap fun h12 q_h12 => ?_ | refine callG_heap fun h12 q_h12 => ?_ | refine callP_heap fun h12 q_h12 => ?_ | refine callS_heap fun h12 q_h12 => ?_ | refine RY_heap fun h12 q_h12 => ?_ | refine PY_heap fun h12 q_h12 => ?_ | refine SY_heap fun h12 q_h12 => ?_ | refine doneY_heap fun h12 q_h12 => ?_ | refine loopK_heap fun h12 q_h12 => ?_ | refine thenY_heap fun h12 q_h12 => ?_ | refine thenM_heap fun h12 q_h12 => ?_
    have b12 : Adds h11 h12 := by rw [q_h12]; exact (by first | exact aK | exact kK)
    have n12 := b12.1.1
    have K12 := K11.trans b12.1
    have gd : h12.get h1.next = .cells [d0, d1] true true 1 := by rw [b12.1.2 _ (by omega)]; exact gd
    have gg : h12.get h3.next = .cells [g0, g1] true true 1 := by rw [b12.1.2 _ (by omega)]; exact gg
    have gj : h12.get h5.next = .cells [j0, j1] true true 1 := by rw [b12.1.2 _ (by omega)]; exact gj
    have gk : h12.get h7.next = .cells [k0, k1] true true 1 := by rw [b12.1.2 _ (by omega)]; exact gk
    have gq : h12.get h9.next = .cells [q0, q1] true true 1 := by rw [b12.1.2 _ (by omega)]; exact gq
    have hv := hv.keep b12.1
    have hw := hw.keep b12.1
    have hJ := hJ.keep b12.1
    have hD := hD.keep b12.1
    have hu9 := hu9.keep b12.1
    have hu10 := hu10.keep b12.1
    have hE := hE.keep b12.1
    have hu11 := hu11.keep b12.1
    have hu12 := hu12.keep b12.1
    have m12 : h12.next = h11.next + 1 := by simp [q_h12]
    have gr : h12.get h11.next = .cells [r0, r1] true true 1 := by simp [q_h12]
    refine callG_c (by simp) (by simp) ?ha (iChips_ok h12 _ _ _ _ _ _ hu11 hu12) ?_
    (case ha => simp (disch := first | omega | (simp; done) | fail) [wrap64c, if_pos, if_neg, ntv, csv, ntw, csw, hbig, ntc0, csc0, ntc1, csc1, nti, csi, gc, ntf0, csf0, ntf1, csf1, gf, nty0, csy0, nty1, csy1, ge, lu1, lu3, b3, b4, b5, hg', bE, bb, bX, ntd0, csd0, ntd1, csd1, ntj, csj, gd, ntg0, csg0, ntg1, csg1, gg, ntj0, csj0, ntj1, csj1, gj, bR, ntk0, csk0, ntk1, csk1, gk, ntq0, csq0, ntq1, csq1, gq, ntr0, csr0, ntr1, csr1, gr])
    cases hmo : moveR N C i
    · have hmo' := hmo
      try simp (disch := first | omega | (simp; done) | fail) [wrap64c, if_pos, if_neg, ntv, csv, ntw, csw, hbig, ntc0, csc0, ntc1, csc1, nti, csi, gc, ntf0, csf0, ntf1, csf1, gf, nty0, csy0, nty1, csy1, ge, lu1, lu3, b3, b4, b5, hg', bE, bb, bX, ntd0, csd0, ntd1, csd1, ntj, csj, gd, ntg0, csg0, ntg1, csg1, gg, ntj0, csj0, ntj1, csj1, gj, bR, ntk0, csk0, ntk1, csk1, gk, ntq0, csq0, ntq1, csq1, gq, ntr0, csr0, ntr1, csr1, gr, hmo']
      obtain ⟨h0, hh0⟩ : ∃ x, x = h12 := ⟨_, rfl⟩
      have K0 := K12
      rw [← hh0] at K0
      have hv := hv
      have hw := hw
      rw [← hh0] at hv
      rw [← hh0] at hw
      try rw [← hh0]
      obtain ⟨_, h1, p1, a1, f, l3, O, D, ns, rfl, hF, hH, sm4, lns⟩ := drawReached_ok h0 v xs (bytes_old hv)
      refine callG_c (by simp) (by simp) ?ha (p1) ?_
      (case ha => simp (disch := first | omega | (simp; done) | fail) [wrap64c, if_pos, if_neg, ntv, csv, ntw, csw, hbig, ntc0, csc0, ntc1, csc1, nti, csi, gc, ntf0, csf0, ntf1, csf1, gf, nty0, csy0, nty1, csy1, ge, lu1, lu3, b3, b4, b5, hg', bE, bb, bX, ntd0, csd0, ntd1, csd1, ntj, csj, gd, ntg0, csg0, ntg1, csg1, gg, ntj0, csj0, ntj1, csj1, gj, bR, ntk0, csk0, ntk1, csk1, gk, ntq0, csq0, ntq1, csq1, gq, ntr0, csr0, ntr1, csr1, gr, hmo'])
      have n1 := a1.1.1
      have K1 := K0.trans a1.1
      have hv := hv.keep a1.1
      have hw := hw.keep a1.1
      obtain ⟨s0, s1, rfl, hs0, hs1⟩ := hF
      have nts0 := hs0.nt
      have css0 := hs0.cs
      have nts1 := hs1.nt
      have css1 := hs1.cs
      have hF : Chips h1 (.agg #[s0, s1]) (O) (D) := ⟨s0, s1, rfl, hs0, hs1⟩
      have nth := hH.nt
      have csh := hH.cs
      try simp (disch := first | omega | (simp; done) | fail) [wrap64c, if_pos, if_neg, ntv, csv, ntw, csw, hbig, ntc0, csc0, ntc1, csc1, nti, csi, gc, ntf0, csf0, ntf1, csf1, gf, nty0, csy0, nty1, csy1, ge, lu1, lu3, b3, b4, b5, hg', bE, bb, bX, ntd0, csd0, ntd1, csd1, ntj, csj, gd, ntg0, csg0, ntg1, csg1, gg, ntj0, csj0, ntj1, csj1, gj, bR, ntk0, csk0, ntk1, csk1, gk, ntq0, csq0, ntq1, csq1, gq, ntr0, csr0, ntr1, csr1, gr, hmo', nts0, css0, nts1, css1, nth, csh, putCells]
      first | refine WY_heap fun h2 q_h2 => ?_ | refine callG_heap fun h2 q_h2 => ?_ | refine callP_heap fun h2 q_h2 => ?_ | refine callS_heap fun h2 q_h2 => ?_ | refine RY_heap fun h2 q_h2 => ?_ | refine PY_heap fun h2 q_h2 => ?_ | refine SY_heap fun h2 q_h2 => ?_ | refine doneY_heap fun h2 q_h2 => ?_ | refine loopK_heap fun h2 q_h2 => ?_ | refine thenY_heap fun h2 q_h2 => ?_ | refine thenM_heap fun h2 q_h2 => ?_
      have b2 : Adds h1 h2 := by rw [q_h2]; exact (by first | exact aK | exact kK)
      have n2 := b2.1.1
      have K2 := K1.trans b2.1
      have hv := hv.keep b2.1
      have hw := hw.keep b2.1
      have hH := hH.keep b2.1
      have hF := hF.keep b2.1
      have m2 : h2.next = h1.next + 1 := by simp [q_h2]
      have gs : h2.get h1.next = .cells [s0, s1] true true 1 := by simp [q_h2]
      refine callG_c (by simp) (by simp) ?ha (imReachedBy_ok h2 _ _ O D ns hF hH) ?_
      (case ha => simp (disch := first | omega | (simp; done) | fail) [wrap64c, if_pos, if_neg, ntv, csv, ntw, csw, hbig, ntc0, csc0, ntc1, csc1, nti, csi, gc, ntf0, csf0, ntf1, csf1, gf, nty0, csy0, nty1, csy1, ge, lu1, lu3, b3, b4, b5, hg', bE, bb, bX, ntd0, csd0, ntd1, csd1, ntj, csj, gd, ntg0, csg0, ntg1, csg1, gg, ntj0, csj0, ntj1, csj1, gj, bR, ntk0, csk0, ntk1, csk1, gk, ntq0, csq0, ntq1, csq1, gq, ntr0, csr0, ntr1, csr1, gr, hmo', nts0, css0, nts1, css1, nth, csh, gs])
      try simp (disch := first | omega | (simp; done) | fail) [wrap64c, if_pos, if_neg, ntv, csv, ntw, csw, hbig, ntc0, csc0, ntc1, csc1, nti, csi, gc, ntf0, csf0, ntf1, csf1, gf, nty0, csy0, nty1, csy1, ge, lu1, lu3, b3, b4, b5, hg', bE, bb, bX, ntd0, csd0, ntd1, csd1, ntj, csj, gd, ntg0, csg0, ntg1, csg1, gg, ntj0, csj0, ntj1, csj1, gj, bR, ntk0, csk0, ntk1, csk1, gk, ntq0, csq0, ntq1, csq1, gq, ntr0, csr0, ntr1, csr1, gr, hmo', nts0, css0, nts1, css1, nth, csh, gs]
      refine callG_c (by simp) (by simp) ?ha (spReachedBy_ok h2 _ _ O D ns hF hH) ?_
      (case ha => simp (disch := first | omega | (simp; done) | fail) [wrap64c, if_pos, if_neg, ntv, csv, ntw, csw, hbig, ntc0, csc0, ntc1, csc1, nti, csi, gc, ntf0, csf0, ntf1, csf1, gf, nty0, csy0, nty1, csy1, ge, lu1, lu3, b3, b4, b5, hg', bE, bb, bX, ntd0, csd0, ntd1, csd1, ntj, csj, gd, ntg0, csg0, ntg1, csg1, gg, ntj0, csj0, ntj1, csj1, gj, bR, ntk0, csk0, ntk1, csk1, gk, ntq0, csq0, ntq1, csq1, gq, ntr0, csr0, ntr1, csr1, gr, hmo', nts0, css0, nts1, css1, nth, csh, gs])
      try simp (disch := first | omega | (simp; done) | fail) [wrap64c, if_pos, if_neg, ntv, csv, ntw, csw, hbig, ntc0, csc0, ntc1, csc1, nti, csi, gc, ntf0, csf0, ntf1, csf1, gf, nty0, csy0, nty1, csy1, ge, lu1, lu3, b3, b4, b5, hg', bE, bb, bX, ntd0, csd0, ntd1, csd1, ntj, csj, gd, ntg0, csg0, ntg1, csg1, gg, ntj0, csj0, ntj1, csj1, gj, bR, ntk0, csk0, ntk1, csk1, gk, ntq0, csq0, ntq1, csq1, gq, ntr0, csr0, ntr1, csr1, gr, hmo', nts0, css0, nts1, css1, nth, csh, gs]
      exact done_ret rfl (by simp [K2])
    · have hmo' := hmo
      obtain ⟨hg3, kk, rfl, hkk, hcan, rfl⟩ := moveR_some hmo
      have e6 : chL N (moveR N C (kk : Int)) = N := by rw [hmo]; rfl
      have e7 : chA (moveR N C (kk : Int)) = moveA N C kk := by rw [hmo]; rfl
      rw [e6, e7] at hu11
      try simp (disch := first | omega | (simp; done) | fail) [wrap64c, if_pos, if_neg, ntv, csv, ntw, csw, hbig, ntc0, csc0, ntc1, csc1, nti, csi, gc, ntf0, csf0, ntf1, csf1, gf, nty0, csy0, nty1, csy1, ge, lu1, lu3, b3, b4, b5, hg', bE, bb, bX, ntd0, csd0, ntd1, csd1, ntj, csj, gd, ntg0, csg0, ntg1, csg1, gg, ntj0, csj0, ntj1, csj1, gj, bR, ntk0, csk0, ntk1, csk1, gk, ntq0, csq0, ntq1, csq1, gq, ntr0, csr0, ntr1, csr1, gr, hmo']
      obtain ⟨u13, h13, p13, a13, hu13⟩ := imDegreesOf_ok h12 _ N C hE
      refine callG_c (by simp) (by simp) ?ha (p13) ?_
      (case ha => simp (disch := first | omega | (simp; done) | fail) [wrap64c, if_pos, if_neg, ntv, csv, ntw, csw, hbig, ntc0, csc0, ntc1, csc1, nti, csi, gc, ntf0, csf0, ntf1, csf1, gf, nty0, csy0, nty1, csy1, ge, lu1, lu3, b3, b4, b5, hg', bE, bb, bX, ntd0, csd0, ntd1, csd1, ntj, csj, gd, ntg0, csg0, ntg1, csg1, gg, ntj0, csj0, ntj1, csj1, gj, bR, ntk0, csk0, ntk1, csk1, gk, ntq0, csq0, ntq1, csq1, gq, ntr0, csr0, ntr1, csr1, gr, hmo'])
      have n13 := a13.1.1
      have K13 := K12.trans a13.1
      have gd : h13.get h1.next = .cells [d0, d1] true true 1 := by rw [a13.1.2 _ (by omega)]; exact gd
      have gg : h13.get h3.next = .cells [g0, g1] true true 1 := by rw [a13.1.2 _ (by omega)]; exact gg
      have gj : h13.get h5.next = .cells [j0, j1] true true 1 := by rw [a13.1.2 _ (by omega)]; exact gj
      have gk : h13.get h7.next = .cells [k0, k1] true true 1 := by rw [a13.1.2 _ (by omega)]; exact gk
      have gq : h13.get h9.next = .cells [q0, q1] true true 1 := by rw [a13.1.2 _ (by omega)]; exact gq
      have gr : h13.get h11.next = .cells [r0, r1] true true 1 := by rw [a13.1.2 _ (by omega)]; exact gr
      have hv := hv.keep a13.1
      have hw := hw.keep a13.1
      have hJ := hJ.keep a13.1
      have hD := hD.keep a13.1
      have hu9 := hu9.keep a13.1
      have hu10 := hu10.keep a13.1
      have hE := hE.keep a13.1
      have hu11 := hu11.keep a13.1
      have hu12 := hu12.keep a13.1
      have e8 : degR N C = (List.range C.length).map (deg N) := by rw [degR, if_pos hg3]
      rw [e8] at hu13
      have hg3' := hg3
      have hk1 : Ints h13 k1 C := by have := hE; obtain ⟨_, _, z1, z2, z3⟩ := this; cases z1; exact z3
      have hq1 : Ints h13 q1 (moveA N C kk) := by have := hu11; obtain ⟨_, _, z1, z2, z3⟩ := this; cases z1; exact z3
      have lB : (moveA N C kk).length = C.length := by simp [moveA]
      have lD : ((List.range C.length).map (deg N)).length = C.length := by simp
      have lB' := lB
      obtain ⟨o_x, i_x, c_x, cs_x, own_x, ex_x, es_x, q_x, b_x, g_x, l_x, r_x⟩ := hq1.open ((by omega))
      have z_x : ∀ h2 : i_x < cs_x.length, cs_x[i_x] = _ := fun h2 => r_x 0 ((by omega)) h2
      obtain ⟨o_y, i_y, c_y, cs_y, own_y, ex_y, es_y, q_y, b_y, g_y, l_y, r_y⟩ := hk1.open ((by omega))
      have z_y : ∀ h2 : i_y < cs_y.length, cs_y[i_y] = _ := fun h2 => r_y 0 ((by omega)) h2
      obtain ⟨o_z, i_z, c_z, cs_z, own_z, ex_z, es_z, q_z, b_z, g_z, l_z, r_z⟩ := hu13.ints.open ((by omega))
      have z_z : ∀ h2 : i_z < cs_z.length, cs_z[i_z] = _ := fun h2 => r_z 0 ((by omega)) h2
      have gN := good_of hg3
      have bC := gN.2.2.1 _ (List.getElem_mem hkk)
      have bd := gN.shape.deg hkk
      have eM : ∀ hq : kk < (moveA N C kk).length, (moveA N C kk)[kk] = C[kk] - deg N kk := fun hq => by have := move_at hg3 hkk; simpa [List.getD_eq_getElem?_getD, hq, hkk] using this
      have hrk : goodB N (moveA N C kk) = true := (Rn.step Rn.zero hkk hcan (by simpa using hkk)).good hg3
      have gM := good_of hrk
      have sM := move_sum gN.shape hkk
      try simp (disch := first | omega | (simp; done) | fail) [wrap64c, if_pos, if_neg, ntv, csv, ntw, csw, hbig, ntc0, csc0, ntc1, csc1, nti, csi, gc, ntf0, csf0, ntf1, csf1, gf, nty0, csy0, nty1, csy1, ge, lu1, lu3, b3, b4, b5, hg', bE, bb, bX, ntd0, csd0, ntd1, csd1, ntj, csj, gd, ntg0, csg0, ntg1, csg1, gg, ntj0, csj0, ntj1, csj1, gj, bR, ntk0, csk0, ntk1, csk1, gk, ntq0, csq0, ntq1, csq1, gq, ntr0, csr0, ntr1, csr1, gr, hmo', hg3', lB', hkk, lD, q_x, g_x, l_x, r_x, z_x, q_y, g_y, l_y, r_y, z_y, q_z, g_z, l_z, r_z, z_z, eM, sM]
      refine WD_drawC 26 rfl (by kernel_rfl) ?_
      try simp (disch := first | omega | (simp; done) | fail) [wrap64c, if_pos, if_neg, ntv, csv, ntw, csw, hbig, ntc0, csc0, ntc1, csc1, nti, csi, gc, ntf0, csf0, ntf1, csf1, gf, nty0, csy0, nty1, csy1, ge, lu1, lu3, b3, b4, b5, hg', bE, bb, bX, ntd0, csd0, ntd1, csd1, ntj, csj, gd, ntg0, csg0, ntg1, csg1, gg, ntj0, csj0, ntj1, csj1, gj, bR, ntk0, csk0, ntk1, csk1, gk, ntq0, csq0, ntq1, csq1, gq, ntr0, csr0, ntr1, csr1, gr, hmo', hg3', lB', hkk, lD, q_x, g_x, l_x, r_x, z_x, q_y, g_y, l_y, r_y, z_y, q_z, g_z, l_z, r_z, z_z, eM, sM]
      refine callP_c (by simp) (by simp) ?ha (iSum_ok h13 _ _ hq1 (by omega) (fun x hx => by have := gM.2.2.1 x hx; omega)) ?hadd ?_
      (case ha => simp (disch := first | omega | (simp; done) | fail) [wrap64c, if_pos, if_neg, ntv, csv, ntw, csw, hbig, ntc0, csc0, ntc1, csc1, nti, csi, gc, ntf0, csf0, ntf1, csf1, gf, nty0, csy0, nty1, csy1, ge, lu1, lu3, b3, b4, b5, hg', bE, bb, bX, ntd0, csd0, ntd1, csd1, ntj, csj, gd, ntg0, csg0, ntg1, csg1, gg, ntj0, csj0, ntj1, csj1, gj, bR, ntk0, csk0, ntk1, csk1, gk, ntq0, csq0, ntq1, csq1, gq, ntr0, csr0, ntr1, csr1, gr, hmo', hg3', lB', hkk, lD, q_x, g_x, l_x, r_x, z_x, q_y, g_y, l_y, r_y, z_y, q_z, g_z, l_z, r_z, z_z, eM, sM])
      (case hadd => first | assumption | exact adds_self _ | (simp; done))
      try simp (disch := first | omega | (simp; done) | fail) [wrap64c, if_pos, if_neg, ntv, csv, ntw, csw, hbig, ntc0, csc0, ntc1, csc1, nti, csi, gc, ntf0, csf0, ntf1, csf1, gf, nty0, csy0, nty1, csy1, ge, lu1, lu3, b3, b4, b5, hg', bE, bb, bX, ntd0, csd0, ntd1, csd1, ntj, csj, gd, ntg0, csg0, ntg1, csg1, gg, ntj0, csj0, ntj1, csj1, gj, bR, ntk0, csk0, ntk1, csk1, gk, ntq0, csq0, ntq1, csq1, gq, ntr0, csr0, ntr1, csr1, gr, hmo', hg3', lB', hkk, lD, q_x, g_x, l_x, r_x, z_x, q_y, g_y, l_y, r_y, z_y, q_z, g_z, l_z, r_z, z_z, eM, sM]
      refine callG_c (by simp) (by simp) ?ha (iSum_ok h13 _ _ hk1 (by omega) (fun x hx => by have := gN.2.2.1 x hx; omega)) ?_
      (case ha => simp (disch := first | omega | (simp; done) | fail) [wrap64c, if_pos, if_neg, ntv, csv, ntw, csw, hbig, ntc0, csc0, ntc1, csc1, nti, csi, gc, ntf0, csf0, ntf1, csf1, gf, nty0, csy0, nty1, csy1, ge, lu1, lu3, b3, b4, b5, hg', bE, bb, bX, ntd0, csd0, ntd1, csd1, ntj, csj, gd, ntg0, csg0, ntg1, csg1, gg, ntj0, csj0, ntj1, csj1, gj, bR, ntk0, csk0, ntk1, csk1, gk, ntq0, csq0, ntq1, csq1, gq, ntr0, csr0, ntr1, csr1, gr, hmo', hg3', lB', hkk, lD, q_x, g_x, l_x, r_x, z_x, q_y, g_y, l_y, r_y, z_y, q_z, g_z, l_z, r_z, z_z, eM, sM])
      try simp (disch := first | omega | (simp; done) | fail) [wrap64c, if_pos, if_neg, ntv, csv, ntw, csw, hbig, ntc0, csc0, ntc1, csc1, nti, csi, gc, ntf0, csf0, ntf1, csf1, gf, nty0, csy0, nty1, csy1, ge, lu1, lu3, b3, b4, b5, hg', bE, bb, bX, ntd0, csd0, ntd1, csd1, ntj, csj, gd, ntg0, csg0, ntg1, csg1, gg, ntj0, csj0, ntj1, csj1, gj, bR, ntk0, csk0, ntk1, csk1, gk, ntq0, csq0, ntq1, csq1, gq, ntr0, csr0, ntr1, csr1, gr, hmo', hg3', lB', hkk, lD, q_x, g_x, l_x, r_x, z_x, q_y, g_y, l_y, r_y, z_y, q_z, g_z, l_z, r_z, z_z, eM, sM]
      obtain ⟨h0, hh0⟩ : ∃ x, x = h13 := ⟨_, rfl⟩
      have K0 := K13
      rw [← hh0] at K0
      have hv := hv
      have hw := hw
      rw [← hh0] at hv
      rw [← hh0] at hw
      try rw [← hh0]
      obtain ⟨_, h1, p1, a1, f, l3, O, D, ns, rfl, hF, hH, sm4, lns⟩ := drawReached_ok h0 v xs (bytes_old hv)
      refine callG_c (by simp) (by simp) ?ha (p1) ?_
      (case ha => simp (disch := first | omega | (simp; done) | fail) [wrap64c, if_pos, if_neg, ntv, csv, ntw, csw, hbig, ntc0, csc0, ntc1, csc1, nti, csi, gc, ntf0, csf0, ntf1, csf1, gf, nty0, csy0, nty1, csy1, ge, lu1, lu3, b3, b4, b5, hg', bE, bb, bX, ntd0, csd0, ntd1, csd1, ntj, csj, gd, ntg0, csg0, ntg1, csg1, gg, ntj0, csj0, ntj1, csj1, gj, bR, ntk0, csk0, ntk1, csk1, gk, ntq0, csq0, ntq1, csq1, gq, ntr0, csr0, ntr1, csr1, gr, hmo', hg3', lB', hkk, lD, q_x, g_x, l_x, r_x, z_x, q_y, g_y, l_y, r_y, z_y, q_z, g_z, l_z, r_z, z_z, eM, sM])
      have n1 := a1.1.1
      have K1 := K0.trans a1.1
      have hv := hv.keep a1.1
      have hw := hw.keep a1.1
      obtain ⟨s0, s1, rfl, hs0, hs1⟩ := hF
      have nts0 := hs0.nt
      have css0 := hs0.cs
      have nts1 := hs1.nt
      have css1 := hs1.cs
      have hF : Chips h1 (.agg #[s0, s1]) (O) (D) := ⟨s0, s1, rfl, hs0, hs1⟩
      have nth := hH.nt
      have csh := hH.cs
      try simp (disch := first | omega | (simp; done) | fail) [wrap64c, if_pos, if_neg, ntv, csv, ntw, csw, hbig, ntc0, csc0, ntc1, csc1, nti, csi, gc, ntf0, csf0, ntf1, csf1, gf, nty0, csy0, nty1, csy1, ge, lu1, lu3, b3, b4, b5, hg', bE, bb, bX, ntd0, csd0, ntd1, csd1, ntj, csj, gd, ntg0, csg0, ntg1, csg1, gg, ntj0, csj0, ntj1, csj1, gj, bR, ntk0, csk0, ntk1, csk1, gk, ntq0, csq0, ntq1, csq1, gq, ntr0, csr0, ntr1, csr1, gr, hmo', hg3', lB', hkk, lD, q_x, g_x, l_x, r_x, z_x, q_y, g_y, l_y, r_y, z_y, q_z, g_z, l_z, r_z, z_z, eM, sM, nts0, css0, nts1, css1, nth, csh, putCells]
      first | refine WY_heap fun h2 q_h2 => ?_ | refine callG_heap fun h2 q_h2 => ?_ | refine callP_heap fun h2 q_h2 => ?_ | refine callS_heap fun h2 q_h2 => ?_ | refine RY_heap fun h2 q_h2 => ?_ | refine PY_heap fun h2 q_h2 => ?_ | refine SY_heap fun h2 q_h2 => ?_ | refine doneY_heap fun h2 q_h2 => ?_ | refine loopK_heap fun h2 q_h2 => ?_ | refine thenY_heap fun h2 q_h2 => ?_ | refine thenM_heap fun h2 q_h2 => ?_
      have b2 : Adds h1 h2 := by rw [q_h2]; exact (by first | exact aK | exact kK)
      have n2 := b2.1.1
      have K2 := K1.trans b2.1
      have hv := hv.keep b2.1
      have hw := hw.keep b2.1
      have hH := hH.keep b2.1
      have hF := hF.keep b2.1
      have m2 : h2.next = h1.next + 1 := by simp [q_h2]
      have gs : h2.get h1.next = .cells [s0, s1] true true 1 := by simp [q_h2]
      refine callG_c (by simp) (by simp) ?ha (imReachedBy_ok h2 _ _ O D ns hF hH) ?_
      (case ha => simp (disch := first | omega | (simp; done) | fail) [wrap64c, if_pos, if_neg, ntv, csv, ntw, csw, hbig, ntc0, csc0, ntc1, csc1, nti, csi, gc, ntf0, csf0, ntf1, csf1, gf, nty0, csy0, nty1, csy1, ge, lu1, lu3, b3, b4, b5, hg', bE, bb, bX, ntd0, csd0, ntd1, csd1, ntj, csj, gd, ntg0, csg0, ntg1, csg1, gg, ntj0, csj0, ntj1, csj1, gj, bR, ntk0, csk0, ntk1, csk1, gk, ntq0, csq0, ntq1, csq1, gq, ntr0, csr0, ntr1, csr1, gr, hmo', hg3', lB', hkk, lD, q_x, g_x, l_x, r_x, z_x, q_y, g_y, l_y, r_y, z_y, q_z, g_z, l_z, r_z, z_z, eM, sM, nts0, css0, nts1, css1, nth, csh, gs])
      try simp (disch := first | omega | (simp; done) | fail) [wrap64c, if_pos, if_neg, ntv, csv, ntw, csw, hbig, ntc0, csc0, ntc1, csc1, nti, csi, gc, ntf0, csf0, ntf1, csf1, gf, nty0, csy0, nty1, csy1, ge, lu1, lu3, b3, b4, b5, hg', bE, bb, bX, ntd0, csd0, ntd1, csd1, ntj, csj, gd, ntg0, csg0, ntg1, csg1, gg, ntj0, csj0, ntj1, csj1, gj, bR, ntk0, csk0, ntk1, csk1, gk, ntq0, csq0, ntq1, csq1, gq, ntr0, csr0, ntr1, csr1, gr, hmo', hg3', lB', hkk, lD, q_x, g_x, l_x, r_x, z_x, q_y, g_y, l_y, r_y, z_y, q_z, g_z, l_z, r_z, z_z, eM, sM, nts0, css0, nts1, css1, nth, csh, gs]
      refine callG_c (by simp) (by simp) ?ha (spReachedBy_ok h2 _ _ O D ns hF hH) ?_
      (case ha => simp (disch := first | omega | (simp; done) | fail) [wrap64c, if_pos, if_neg, ntv, csv, ntw, csw, hbig, ntc0, csc0, ntc1, csc1, nti, csi, gc, ntf0, csf0, ntf1, csf1, gf, nty0, csy0, nty1, csy1, ge, lu1, lu3, b3, b4, b5, hg', bE, bb, bX, ntd0, csd0, ntd1, csd1, ntj, csj, gd, ntg0, csg0, ntg1, csg1, gg, ntj0, csj0, ntj1, csj1, gj, bR, ntk0, csk0, ntk1, csk1, gk, ntq0, csq0, ntq1, csq1, gq, ntr0, csr0, ntr1, csr1, gr, hmo', hg3', lB', hkk, lD, q_x, g_x, l_x, r_x, z_x, q_y, g_y, l_y, r_y, z_y, q_z, g_z, l_z, r_z, z_z, eM, sM, nts0, css0, nts1, css1, nth, csh, gs])
      try simp (disch := first | omega | (simp; done) | fail) [wrap64c, if_pos, if_neg, ntv, csv, ntw, csw, hbig, ntc0, csc0, ntc1, csc1, nti, csi, gc, ntf0, csf0, ntf1, csf1, gf, nty0, csy0, nty1, csy1, ge, lu1, lu3, b3, b4, b5, hg', bE, bb, bX, ntd0, csd0, ntd1, csd1, ntj, csj, gd, ntg0, csg0, ntg1, csg1, gg, ntj0, csj0, ntj1, csj1, gj, bR, ntk0, csk0, ntk1, csk1, gk, ntq0, csq0, ntq1, csq1, gq, ntr0, csr0, ntr1, csr1, gr, hmo', hg3', lB', hkk, lD, q_x, g_x, l_x, r_x, z_x, q_y, g_y, l_y, r_y, z_y, q_z, g_z, l_z, r_z, z_z, eM, sM, nts0, css0, nts1, css1, nth, csh, gs]
      exact done_ret rfl (by simp [K2])
  rename_i q
  have hcs : chW cs 60 = true := by by_cases c : chW cs 60 = true; exact c; simp [byR, c] at hb
  have hcn := (chW_spec hcs).2
  have hq : fullR L A cs = some q := by simpa [byR, hcs] using hb
  have hF := full_some (ds := []) hcn (by simp) hg hq
  obtain ⟨r, hr⟩ := Option.isSome_iff_exists.1 hF
  obtain ⟨s1, s2, s3⟩ := full_same hcn (by simp) hg hq hr
  have fin := fullR_fin hcn (show fullR L A cs = some (q.1, q.2) from hq)
  have gA := good_of hg
  have sh := gA.shape
  have hgq := fin.rn.good hg
  have gq := good_of hgq
  have z1 : fRun (byR L A cs) = q.1 := by rw [hb]; rfl
  have z3 : (firstR L A).getD [] = r.1 := by rw [firstR, hr]; rfl
  have z5 : (countsR L A).getD [] = cntL A.length q.1 := by rw [s1, countsR, hr]; rfl
  have zf : finalR L A = some q.2 := by rw [finalR, hr, s2]; rfl
  have z7 : chL L (finalR L A) = L := by rw [zf]; rfl
  have z8 : chA (finalR L A) = q.2 := by rw [zf]; rfl
  rw [z1] at hu1
  rw [z3] at hu3
  rw [z5] at hu5
  rw [z7, z8] at hu7
  have lq := fullR_len hcn hq
  have bb : (byR L A cs).isSome = true := by rw [hb]; rfl
  have hF' := hF
  have lc1 := hc1.lenD
  have lu1 := hu1.ints.lenD
  have lu3 := hu3.ints.lenD
  have lrr : r.1.length = q.1.length := s3.symm
  have hlA : A.length ≤ 5 := gA.1.2
  try simp (disch := first | omega | (simp; done) | fail) [wrap64c, if_pos, if_neg, ntv, csv, ntw, csw, hbig, ntc0, csc0, ntc1, csc1, nti, csi, gc, ntf0, csf0, ntf1, csf1, gf, nty0, csy0, nty1, csy1, ge, lu1, lu3, b3, b4, b5, hg', bE, bb, hF', lc1, lrr]
  first | refine WY_heap fun hz q_hz => ?_ | refine callG_heap fun hz q_hz => ?_ | refine callP_heap fun hz q_hz => ?_ | refine callS_heap fun hz q_hz => ?_ | refine RY_heap fun hz q_hz => ?_ | refine PY_heap fun hz q_hz => ?_ | refine SY_heap fun hz q_hz => ?_ | refine doneY_heap fun hz q_hz => ?_ | refine loopK_heap fun hz q_hz => ?_ | refine thenY_heap fun hz q_hz => ?_ | refine thenM_heap fun hz q_hz => ?_
  have kz : Adds h12 hz := by rw [q_hz]; exact (by first | exact aK | exact kK)
  refine WD_loopC [0, 1, 5, 7, 11, 15, 19, 25, 189, 190] (fun m tm h' => ∃ j, m = q.1.length - j ∧ tm 191 = .int .i64 (j : Int) ∧ (j ≤ q.1.length) ∧ (Adds h12 h') ∧ (h'.get h12.next = .cells ((cntL A.length (q.1.take j)).map (.int .i64)) true true 1) ∧ (h12.next < h'.next)) _ ⟨0, rfl, (by simp (disch := first | omega | (simp; done) | fail) [wrap64c, if_pos, if_neg, ntv, csv, ntw, csw, hbig, ntc0, csc0, ntc1, csc1, nti, csi, gc, ntf0, csf0, ntf1, csf1, gf, nty0, csy0, nty1, csy1, ge, lu1, lu3, b3, b4, b5, hg', bE, bb, hF', lc1, lrr]), (by first | omega | assumption | (simp (disch := first | omega | (simp; done) | fail) [wrap64c, if_pos, if_neg, ntv, csv, ntw, csw, hbig, ntc0, csc0, ntc1, csc1, nti, csi, gc, ntf0, csf0, ntf1, csf1, gf, nty0, csy0, nty1, csy1, ge, lu1, lu3, b3, b4, b5, hg', bE, bb, hF', lc1, lrr] <;> omega)), kz, (by simp [q_hz, cntL_nil]), (by simp [q_hz])⟩ ?_
  rintro m tm h' hFr ⟨j, rfl, e191, hj, hd, ho, hoo⟩
  simp only [FrameL] at hFr
  obtain ⟨f0_0, f1_0, f5_0, f7_0, f11_0, f15_0, f19_0, f25_0, f189_0, f190_0, -⟩ := hFr
  try simp (disch := first | omega | (simp; done) | fail) [wrap64c, if_pos, if_neg, ntv, csv, ntw, csw, hbig, ntc0, csc0, ntc1, csc1, nti, csi, gc, ntf0, csf0, ntf1, csf1, gf, nty0, csy0, nty1, csy1, ge, lu1, lu3, b3, b4, b5, hg', bE, bb, hF', lc1, lrr] at f0_0 f1_0 f5_0 f7_0 f11_0 f15_0 f19_0 f25_0 f189_0 f190_0
  have e0 := f0_0
  have e1 := f1_0
  have e5 := f5_0
  have e7 := f7_0
  have e11 := f11_0
  have e15 := f15_0
  have e19 := f19_0
  have e25 := f25_0
  have e189 := f189_0
  have e190 := f190_0
  by_cases hlt : j < q.1.length
  · have hu1' := (hu1.keep hd.1).ints
    obtain ⟨i, hi, hiA⟩ : ∃ i : Nat, q.1[j] = (i : Int) ∧ i < A.length := by
      have h1 := runs_in hcn hg hq _ (List.getElem_mem hlt)
      exact ⟨q.1[j].toNat, by omega, by omega⟩
    have hi' := hi
    have lcn : (cntL A.length (q.1.take j)).length = A.length := by simp [cntL]
    have hcb : 0 ≤ (cntL A.length (q.1.take j))[i] ∧ (cntL A.length (q.1.take j))[i] ≤ 60 := cnt_le (by omega) lq.1
    have ho' := ho
    obtain ⟨o_x, i_x, c_x, cs_x, own_x, ex_x, es_x, q_x, b_x, g_x, l_x, r_x⟩ := hu1'.open ((by omega))
    have z_x : ∀ h2 : i_x < cs_x.length, cs_x[i_x] = _ := fun h2 => r_x 0 ((by omega)) h2
    try simp (disch := first | omega | (simp; done) | fail) [wrap64c, if_pos, if_neg, ntv, csv, ntw, csw, hbig, ntc0, csc0, ntc1, csc1, nti, csi, gc, ntf0, csf0, ntf1, csf1, gf, nty0, csy0, nty1, csy1, ge, lu1, lu3, b3, b4, b5, hg', bE, bb, hF', lc1, lrr, e0, e1, e5, e7, e11, e15, e19, e25, e189, e190, e191, hlt, hi', hiA, lcn, ho', q_x, g_x, l_x, r_x, z_x]
    refine loopK_next _ ?hm ?hf ⟨j + 1, rfl, (by simp (disch := first | omega | (simp; done) | fail) [wrap64c, if_pos, if_neg, ntv, csv, ntw, csw, hbig, ntc0, csc0, ntc1, csc1, nti, csi, gc, ntf0, csf0, ntf1, csf1, gf, nty0, csy0, nty1, csy1, ge, lu1, lu3, b3, b4, b5, hg', bE, bb, hF', lc1, lrr, e0, e1, e5, e7, e11, e15, e19, e25, e189, e190, e191, hlt, hi', hiA, lcn, ho', q_x, g_x, l_x, r_x, z_x] <;> omega), (by first | omega | assumption | (simp (disch := first | omega | (simp; done) | fail) [wrap64c, if_pos, if_neg, ntv, csv, ntw, csw, hbig, ntc0, csc0, ntc1, csc1, nti, csi, gc, ntf0, csf0, ntf1, csf1, gf, nty0, csy0, nty1, csy1, ge, lu1, lu3, b3, b4, b5, hg', bE, bb, hF', lc1, lrr, e0, e1, e5, e7, e11, e15, e19, e25, e189, e190, e191, hlt, hi', hiA, lcn, ho', q_x, g_x, l_x, r_x, z_x] <;> omega)), (hd.put (Nat.le_refl _) (fun _ => rfl)), (by simp; rw [List.take_succ_eq_append_getElem hlt, hi, cntL_snoc _ _ _ (by omega), putI (by omega)]), (by simpa using hoo)⟩
    (case hm => first | omega | (simp; omega))
    (case hf => simp [FrameL, ntv, csv, ntw, csw, hbig, ntc0, csc0, ntc1, csc1, nti, csi, gc, ntf0, csf0, ntf1, csf1, gf, nty0, csy0, nty1, csy1, ge, lu1, lu3, b3, b4, b5, hg', bE, bb, hF', lc1, lrr, e0, e1, e5, e7, e11, e15, e19, e25, e189, e190, e191, hlt, hi', hiA, lcn, ho', q_x, g_x, l_x, r_x, z_x, f0_0, f1_0, f5_0, f7_0, f11_0, f15_0, f19_0, f25_0, f189_0, f190_0])
  · have hj' : j = q.1.length := by omega
    rw [hj', List.take_length] at ho
    obtain ⟨h13, hh13⟩ : ∃ x, x = h' := ⟨_, rfl⟩
    rw [← hh13] at hd ho hoo
    try rw [← hh13]
    have n13 := hd.1.1
    have K13 := K12.trans hd.1
    have gc : h13.get h1.next = .cells [c0, c1] true true 1 := by rw [hd.1.2 _ (by omega)]; exact gc
    have gf : h13.get h9.next = .cells [f0, f1] true true 1 := by rw [hd.1.2 _ (by omega)]; exact gf
    have ge : h13.get h11.next = .cells [y0, y1] true true 1 := by rw [hd.1.2 _ (by omega)]; exact ge
    have hv := hv.keep hd.1
    have hw := hw.keep hd.1
    have hI := hI.keep hd.1
    have hC := hC.keep hd.1
    have hu1 := hu1.keep hd.1
    have hu2 := hu2.keep hd.1
    have hu3 := hu3.keep hd.1
    have hu4 := hu4.keep hd.1
    have hu5 := hu5.keep hd.1
    have hu6 := hu6.keep hd.1
    have hu7 := hu7.keep hd.1
    have hu8 := hu8.keep hd.1
    have hown : Ints h13 (.slice (some ⟨h12.next, 0, none⟩) A.length A.length) (cntL A.length q.1) := by
      have := (lit_ints (F := fun _ => True) (xs := cntL A.length q.1) ho hoo trivial (by simp [cntL]; omega)).ints
      simpa [cntL] using this
    try simp (disch := first | omega | (simp; done) | fail) [wrap64c, if_pos, if_neg, ntv, csv, ntw, csw, hbig, ntc0, csc0, ntc1, csc1, nti, csi, gc, ntf0, csf0, ntf1, csf1, gf, nty0, csy0, nty1, csy1, ge, lu1, lu3, b3, b4, b5, hg', bE, bb, hF', lc1, lrr, e0, e1, e5, e7, e11, e15, e19, e25, e189, e190, e191, hlt]
    obtain ⟨_, h14, p14, a14, u13, rfl, hu13⟩ := imRunChips_ok h13 _ u1 L A q.1 hC hu1.ints
    refine callG_c (by simp) (by simp) ?ha (p14) ?_
    (case ha => simp (disch := first | omega | (simp; done) | fail) [wrap64c, if_pos, if_neg, ntv, csv, ntw, csw, hbig, ntc0, csc0, ntc1, csc1, nti, csi, gc, ntf0, csf0, ntf1, csf1, gf, nty0, csy0, nty1, csy1, ge, lu1, lu3, b3, b4, b5, hg', bE, bb, hF', lc1, lrr, e0, e1, e5, e7, e11, e15, e19, e25, e189, e190, e191, hlt])
    have n14 := a14.1.1
    have K14 := K13.trans a14.1
    have gc : h14.get h1.next = .cells [c0, c1] true true 1 := by rw [a14.1.2 _ (by omega)]; exact gc
    have gf : h14.get h9.next = .cells [f0, f1] true true 1 := by rw [a14.1.2 _ (by omega)]; exact gf
    have ge : h14.get h11.next = .cells [y0, y1] true true 1 := by rw [a14.1.2 _ (by omega)]; exact ge
    have hv := hv.keep a14.1
    have hw := hw.keep a14.1
    have hI := hI.keep a14.1
    have hC := hC.keep a14.1
    have hu1 := hu1.keep a14.1
    have hu2 := hu2.keep a14.1
    have hu3 := hu3.keep a14.1
    have hu4 := hu4.keep a14.1
    have hu5 := hu5.keep a14.1
    have hu6 := hu6.keep a14.1
    have hu7 := hu7.keep a14.1
    have hu8 := hu8.keep a14.1
    have hown := hown.keep a14.1
    have zr : runR L A q.1 = some q.2 := full_run hcn hg hq
    have zr1 : chL L (runR L A q.1) = L := by rw [zr]; rfl
    have zr2 : chA (runR L A q.1) = q.2 := by rw [zr]; rfl
    rw [zr1, zr2] at hu13
    have zr3 : (runR L A q.1).isSome = true := by rw [zr]; rfl
    have hu13 := hu13.chips
    obtain ⟨v0, v1, rfl, hv0, hv1⟩ := hu13
    have ntv0 := hv0.nt
    have csv0 := hv0.cs
    have ntv1 := hv1.nt
    have csv1 := hv1.cs
    have hu13 : Chips h14 (.agg #[v0, v1]) (L) (q.2) := ⟨v0, v1, rfl, hv0, hv1⟩
    try simp (disch := first | omega | (simp; done) | fail) [wrap64c, if_pos, if_neg, ntv, csv, ntw, csw, hbig, ntc0, csc0, ntc1, csc1, nti, csi, gc, ntf0, csf0, ntf1, csf1, gf, nty0, csy0, nty1, csy1, ge, lu1, lu3, b3, b4, b5, hg', bE, bb, hF', lc1, lrr, e0, e1, e5, e7, e11, e15, e19, e25, e189, e190, e191, hlt, zr3, ntv0, csv0, ntv1, csv1, putCells]
    first | refine WY_heap fun h15 q_h15 => ?_ | refine callG_heap fun h15 q_h15 => ?_ | refine callP_heap fun h15 q_h15 => ?_ | refine callS_heap fun h15 q_h15 => ?_ | refine RY_heap fun h15 q_h15 => ?_ | refine PY_heap fun h15 q_h15 => ?_ | refine SY_heap fun h15 q_h15 => ?_ | refine doneY_heap fun h15 q_h15 => ?_ | refine loopK_heap fun h15 q_h15 => ?_ | refine thenY_heap fun h15 q_h15 => ?_ | refine thenM_heap fun h15 q_h15 => ?_
    have b15 : Adds h14 h15 := by rw [q_h15]; exact (by first | exact aK | exact kK)
    have n15 := b15.1.1
    have K15 := K14.trans b15.1
    have gc : h15.get h1.next = .cells [c0, c1] true true 1 := by rw [b15.1.2 _ (by omega)]; exact gc
    have gf : h15.get h9.next = .cells [f0, f1] true true 1 := by rw [b15.1.2 _ (by omega)]; exact gf
    have ge : h15.get h11.next = .cells [y0, y1] true true 1 := by rw [b15.1.2 _ (by omega)]; exact ge
    have hv := hv.keep b15.1
    have hw := hw.keep b15.1
    have hI := hI.keep b15.1
    have hC := hC.keep b15.1
    have hu1 := hu1.keep b15.1
    have hu2 := hu2.keep b15.1
    have hu3 := hu3.keep b15.1
    have hu4 := hu4.keep b15.1
    have hu5 := hu5.keep b15.1
    have hu6 := hu6.keep b15.1
    have hu7 := hu7.keep b15.1
    have hu8 := hu8.keep b15.1
    have hown := hown.keep b15.1
    have hu13 := hu13.keep b15.1
    have m15 : h15.next = h14.next + 1 := by simp [q_h15]
    have gv : h15.get h14.next = .cells [v0, v1] true true 1 := by simp [q_h15]
    obtain ⟨u16, h16, p16, a16, hu16⟩ := imCanMove_ok h15 _ L q.2 hu13
    refine callG_c (by simp) (by simp) ?ha (p16) ?_
    (case ha => simp (disch := first | omega | (simp; done) | fail) [wrap64c, if_pos, if_neg, ntv, csv, ntw, csw, hbig, ntc0, csc0, ntc1, csc1, nti, csi, gc, ntf0, csf0, ntf1, csf1, gf, nty0, csy0, nty1, csy1, ge, lu1, lu3, b3, b4, b5, hg', bE, bb, hF', lc1, lrr, e0, e1, e5, e7, e11, e15, e19, e25, e189, e190, e191, hlt, zr3, ntv0, csv0, ntv1, csv1, gv])
    have n16 := a16.1.1
    have K16 := K15.trans a16.1
    have gc : h16.get h1.next = .cells [c0, c1] true true 1 := by rw [a16.1.2 _ (by omega)]; exact gc
    have gf : h16.get h9.next = .cells [f0, f1] true true 1 := by rw [a16.1.2 _ (by omega)]; exact gf
    have ge : h16.get h11.next = .cells [y0, y1] true true 1 := by rw [a16.1.2 _ (by omega)]; exact ge
    have gv : h16.get h14.next = .cells [v0, v1] true true 1 := by rw [a16.1.2 _ (by omega)]; exact gv
    have hv := hv.keep a16.1
    have hw := hw.keep a16.1
    have hI := hI.keep a16.1
    have hC := hC.keep a16.1
    have hu1 := hu1.keep a16.1
    have hu2 := hu2.keep a16.1
    have hu3 := hu3.keep a16.1
    have hu4 := hu4.keep a16.1
    have hu5 := hu5.keep a16.1
    have hu6 := hu6.keep a16.1
    have hu7 := hu7.keep a16.1
    have hu8 := hu8.keep a16.1
    have hown := hown.keep a16.1
    have hu13 := hu13.keep a16.1
    have zc : canR L q.2 = [] := by rw [canR, if_pos hgq]; exact fin.last
    rw [zc] at hu16
    have lc16 := hu16.ints.lenD
    have hgq' := hgq
    have zs : q.2.sum = A.sum := fin.rn.sum sh
    have lu1 := hu1.ints.lenD
    have lu3 := hu3.ints.lenD
    have lqA : q.2.length = A.length := lq.2
    have hv1' : Ints h16 v1 q.2 := by obtain ⟨_, _, z1, z2, z3⟩ := hu13; cases z1; exact z3
    have hc1' : Ints h16 c1 A := by obtain ⟨_, _, z1, z2, z3⟩ := hC; cases z1; exact z3
    try simp (disch := first | omega | (simp; done) | fail) [wrap64c, if_pos, if_neg, ntv, csv, ntw, csw, hbig, ntc0, csc0, ntc1, csc1, nti, csi, gc, ntf0, csf0, ntf1, csf1, gf, nty0, csy0, nty1, csy1, ge, lu1, lu3, b3, b4, b5, hg', bE, bb, hF', lc1, lrr, e0, e1, e5, e7, e11, e15, e19, e25, e189, e190, e191, hlt, zr3, ntv0, csv0, ntv1, csv1, gv, lc16, hgq', zs]
    refine WD_drawC 39 rfl (by kernel_rfl) ?_
    try simp (disch := first | omega | (simp; done) | fail) [wrap64c, if_pos, if_neg, ntv, csv, ntw, csw, hbig, ntc0, csc0, ntc1, csc1, nti, csi, gc, ntf0, csf0, ntf1, csf1, gf, nty0, csy0, nty1, csy1, ge, lu1, lu3, b3, b4, b5, hg', bE, bb, hF', lc1, lrr, e0, e1, e5, e7, e11, e15, e19, e25, e189, e190, e191, hlt, zr3, ntv0, csv0, ntv1, csv1, gv, lc16, hgq', zs]
    refine callP_c (by simp) (by simp) ?ha (iSame_ok h16 _ _ _ _ hown hu5.ints) ?hadd ?_
    (case ha => simp (disch := first | omega | (simp; done) | fail) [wrap64c, if_pos, if_neg, ntv, csv, ntw, csw, hbig, ntc0, csc0, ntc1, csc1, nti, csi, gc, ntf0, csf0, ntf1, csf1, gf, nty0, csy0, nty1, csy1, ge, lu1, lu3, b3, b4, b5, hg', bE, bb, hF', lc1, lrr, e0, e1, e5, e7, e11, e15, e19, e25, e189, e190, e191, hlt, zr3, ntv0, csv0, ntv1, csv1, gv, lc16, hgq', zs])
    (case hadd => first | assumption | exact adds_self _ | (simp; done))
    try simp (disch := first | omega | (simp; done) | fail) [wrap64c, if_pos, if_neg, ntv, csv, ntw, csw, hbig, ntc0, csc0, ntc1, csc1, nti, csi, gc, ntf0, csf0, ntf1, csf1, gf, nty0, csy0, nty1, csy1, ge, lu1, lu3, b3, b4, b5, hg', bE, bb, hF', lc1, lrr, e0, e1, e5, e7, e11, e15, e19, e25, e189, e190, e191, hlt, zr3, ntv0, csv0, ntv1, csv1, gv, lc16, hgq', zs]
    refine callP_c (by simp) (by simp) ?ha (iChips_ok h16 _ _ _ _ _ _ hu13 hu7) ?hadd ?_
    (case ha => simp (disch := first | omega | (simp; done) | fail) [wrap64c, if_pos, if_neg, ntv, csv, ntw, csw, hbig, ntc0, csc0, ntc1, csc1, nti, csi, gc, ntf0, csf0, ntf1, csf1, gf, nty0, csy0, nty1, csy1, ge, lu1, lu3, b3, b4, b5, hg', bE, bb, hF', lc1, lrr, e0, e1, e5, e7, e11, e15, e19, e25, e189, e190, e191, hlt, zr3, ntv0, csv0, ntv1, csv1, gv, lc16, hgq', zs])
    (case hadd => first | assumption | exact adds_self _ | (simp; done))
    try simp (disch := first | omega | (simp; done) | fail) [wrap64c, if_pos, if_neg, ntv, csv, ntw, csw, hbig, ntc0, csc0, ntc1, csc1, nti, csi, gc, ntf0, csf0, ntf1, csf1, gf, nty0, csy0, nty1, csy1, ge, lu1, lu3, b3, b4, b5, hg', bE, bb, hF', lc1, lrr, e0, e1, e5, e7, e11, e15, e19, e25, e189, e190, e191, hlt, zr3, ntv0, csv0, ntv1, csv1, gv, lc16, hgq', zs]
    refine callP_c (by simp) (by simp) ?ha (iSum_ok h16 _ _ hv1' (by omega) (fun x hx => by have := gq.2.2.1 x hx; omega)) ?hadd ?_
    (case ha => simp (disch := first | omega | (simp; done) | fail) [wrap64c, if_pos, if_neg, ntv, csv, ntw, csw, hbig, ntc0, csc0, ntc1, csc1, nti, csi, gc, ntf0, csf0, ntf1, csf1, gf, nty0, csy0, nty1, csy1, ge, lu1, lu3, b3, b4, b5, hg', bE, bb, hF', lc1, lrr, e0, e1, e5, e7, e11, e15, e19, e25, e189, e190, e191, hlt, zr3, ntv0, csv0, ntv1, csv1, gv, lc16, hgq', zs])
    (case hadd => first | assumption | exact adds_self _ | (simp; done))
    try simp (disch := first | omega | (simp; done) | fail) [wrap64c, if_pos, if_neg, ntv, csv, ntw, csw, hbig, ntc0, csc0, ntc1, csc1, nti, csi, gc, ntf0, csf0, ntf1, csf1, gf, nty0, csy0, nty1, csy1, ge, lu1, lu3, b3, b4, b5, hg', bE, bb, hF', lc1, lrr, e0, e1, e5, e7, e11, e15, e19, e25, e189, e190, e191, hlt, zr3, ntv0, csv0, ntv1, csv1, gv, lc16, hgq', zs]
    refine callP_c (by simp) (by simp) ?ha (iSum_ok h16 _ _ hc1' (by omega) (fun x hx => by have := gA.2.2.1 x hx; omega)) ?hadd ?_
    (case ha => simp (disch := first | omega | (simp; done) | fail) [wrap64c, if_pos, if_neg, ntv, csv, ntw, csw, hbig, ntc0, csc0, ntc1, csc1, nti, csi, gc, ntf0, csf0, ntf1, csf1, gf, nty0, csy0, nty1, csy1, ge, lu1, lu3, b3, b4, b5, hg', bE, bb, hF', lc1, lrr, e0, e1, e5, e7, e11, e15, e19, e25, e189, e190, e191, hlt, zr3, ntv0, csv0, ntv1, csv1, gv, lc16, hgq', zs])
    (case hadd => first | assumption | exact adds_self _ | (simp; done))
    try simp (disch := first | omega | (simp; done) | fail) [wrap64c, if_pos, if_neg, ntv, csv, ntw, csw, hbig, ntc0, csc0, ntc1, csc1, nti, csi, gc, ntf0, csf0, ntf1, csf1, gf, nty0, csy0, nty1, csy1, ge, lu1, lu3, b3, b4, b5, hg', bE, bb, hF', lc1, lrr, e0, e1, e5, e7, e11, e15, e19, e25, e189, e190, e191, hlt, zr3, ntv0, csv0, ntv1, csv1, gv, lc16, hgq', zs]
    obtain ⟨h0, hh0⟩ : ∃ x, x = h16 := ⟨_, rfl⟩
    have K0 := K16
    rw [← hh0] at K0
    have hv := hv
    have hw := hw
    rw [← hh0] at hv
    rw [← hh0] at hw
    try rw [← hh0]
    obtain ⟨_, h1, p1, a1, d, l2, M, B, ms, rfl, hD, hJ, sm2, lms⟩ := drawRun_ok h0 w ys (bytes_old hw)
    refine callG_c (by simp) (by simp) ?ha (p1) ?_
    (case ha => simp (disch := first | omega | (simp; done) | fail) [wrap64c, if_pos, if_neg, ntv, csv, ntw, csw, hbig, ntc0, csc0, ntc1, csc1, nti, csi, gc, ntf0, csf0, ntf1, csf1, gf, nty0, csy0, nty1, csy1, ge, lu1, lu3, b3, b4, b5, hg', bE, bb, hF', lc1, lrr, e0, e1, e5, e7, e11, e15, e19, e25, e189, e190, e191, hlt, zr3, ntv0, csv0, ntv1, csv1, gv, lc16, hgq', zs])
    have n1 := a1.1.1
    have K1 := K0.trans a1.1
    have hv := hv.keep a1.1
    have hw := hw.keep a1.1
    obtain ⟨d0, d1, rfl, hd0, hd1⟩ := hD
    have ntd0 := hd0.nt
    have csd0 := hd0.cs
    have ntd1 := hd1.nt
    have csd1 := hd1.cs
    have hD : Chips h1 (.agg #[d0, d1]) (M) (B) := ⟨d0, d1, rfl, hd0, hd1⟩
    have ntj := hJ.nt
    have csj := hJ.cs
    try simp (disch := first | omega | (simp; done) | fail) [wrap64c, if_pos, if_neg, ntv, csv, ntw, csw, hbig, ntc0, csc0, ntc1, csc1, nti, csi, gc, ntf0, csf0, ntf1, csf1, gf, nty0, csy0, nty1, csy1, ge, lu1, lu3, b3, b4, b5, hg', bE, bb, hF', lc1, lrr, e0, e1, e5, e7, e11, e15, e19, e25, e189, e190, e191, hlt, zr3, ntv0, csv0, ntv1, csv1, gv, lc16, hgq', zs, ntd0, csd0, ntd1, csd1, ntj, csj, putCells]
    first | refine WY_heap fun h2 q_h2 => ?_ | refine callG_heap fun h2 q_h2 => ?_ | refine callP_heap fun h2 q_h2 => ?_ | refine callS_heap fun h2 q_h2 => ?_ | refine RY_heap fun h2 q_h2 => ?_ | refine PY_heap fun h2 q_h2 => ?_ | refine SY_heap fun h2 q_h2 => ?_ | refine doneY_heap fun h2 q_h2 => ?_ | refine loopK_heap fun h2 q_h2 => ?_ | refine thenY_heap fun h2 q_h2 => ?_ | refine thenM_heap fun h2 q_h2 => ?_
    have b2 : Adds h1 h2 := by rw [q_h2]; exact (by first | exact aK | exact kK)
    have n2 := b2.1.1
    have K2 := K1.trans b2.1
    have hv := hv.keep b2.1
    have hw := hw.keep b2.1
    have hJ := hJ.keep b2.1
    have hD := hD.keep b2.1
    have m2 : h2.next = h1.next + 1 := by simp [q_h2]
    have gd : h2.get h1.next = .cells [d0, d1] true true 1 := by simp [q_h2]
    obtain ⟨_, h3, p3, a3, u9, rfl, hu9⟩ := imRunChips_ok h2 _ l2 M B ms hD hJ
    refine callG_c (by simp) (by simp) ?ha (p3) ?_
    (case ha => simp (disch := first | omega | (simp; done) | fail) [wrap64c, if_pos, if_neg, ntv, csv, ntw, csw, hbig, ntc0, csc0, ntc1, csc1, nti, csi, gc, ntf0, csf0, ntf1, csf1, gf, nty0, csy0, nty1, csy1, ge, lu1, lu3, b3, b4, b5, hg', bE, bb, hF', lc1, lrr, e0, e1, e5, e7, e11, e15, e19, e25, e189, e190, e191, hlt, zr3, ntv0, csv0, ntv1, csv1, gv, lc16, hgq', zs, ntd0, csd0, ntd1, csd1, ntj, csj, gd])
    have n3 := a3.1.1
    have K3 := K2.trans a3.1
    have gd : h3.get h1.next = .cells [d0, d1] true true 1 := by rw [a3.1.2 _ (by omega)]; exact gd
    have hv := hv.keep a3.1
    have hw := hw.keep a3.1
    have hJ := hJ.keep a3.1
    have hD := hD.keep a3.1
    have hu9 := hu9.chips
    obtain ⟨g0, g1, rfl, hg0, hg1⟩ := hu9
    have ntg0 := hg0.nt
    have csg0 := hg0.cs
    have ntg1 := hg1.nt
    have csg1 := hg1.cs
    have hu9 : Chips h3 (.agg #[g0, g1]) (chL M (runR M B ms)) (chA (runR M B ms)) := ⟨g0, g1, rfl, hg0, hg1⟩
    try simp (disch := first | omega | (simp; done) | fail) [wrap64c, if_pos, if_neg, ntv, csv, ntw, csw, hbig, ntc0, csc0, ntc1, csc1, nti, csi, gc, ntf0, csf0, ntf1, csf1, gf, nty0, csy0, nty1, csy1, ge, lu1, lu3, b3, b4, b5, hg', bE, bb, hF', lc1, lrr, e0, e1, e5, e7, e11, e15, e19, e25, e189, e190, e191, hlt, zr3, ntv0, csv0, ntv1, csv1, gv, lc16, hgq', zs, ntd0, csd0, ntd1, csd1, ntj, csj, gd, ntg0, csg0, ntg1, csg1, putCells]
    first | refine WY_heap fun h4 q_h4 => ?_ | refine callG_heap fun h4 q_h4 => ?_ | refine callP_heap fun h4 q_h4 => ?_ | refine callS_heap fun h4 q_h4 => ?_ | refine RY_heap fun h4 q_h4 => ?_ | refine PY_heap fun h4 q_h4 => ?_ | refine SY_heap fun h4 q_h4 => ?_ | refine doneY_heap fun h4 q_h4 => ?_ | refine loopK_heap fun h4 q_h4 => ?_ | refine thenY_heap fun h4 q_h4 => ?_ | refine thenM_heap fun h4 q_h4 => ?_
    have b4 : Adds h3 h4 := by rw [q_h4]; exact (by first | exact aK | exact kK)
    have n4 := b4.1.1
    have K4 := K3.trans b4.1
    have gd : h4.get h1.next = .cells [d0, d1] true true 1 := by rw [b4.1.2 _ (by omega)]; exact gd
    have hv := hv.keep b4.1
    have hw := hw.keep b4.1
    have hJ := hJ.keep b4.1
    have hD := hD.keep b4.1
    have hu9 := hu9.keep b4.1
    have m4 : h4.next = h3.next + 1 := by simp [q_h4]
    have gg : h4.get h3.next = .cells [g0, g1] true true 1 := by simp [q_h4]
    obtain ⟨_, h5, p5, a5, u10, rfl, hu10⟩ := spRunChips_ok h4 _ l2 M B ms hD hJ
    refine callG_c (by simp) (by simp) ?ha (p5) ?_
    (case ha => simp (disch := first | omega | (simp; done) | fail) [wrap64c, if_pos, if_neg, ntv, csv, ntw, csw, hbig, ntc0, csc0, ntc1, csc1, nti, csi, gc, ntf0, csf0, ntf1, csf1, gf, nty0, csy0, nty1, csy1, ge, lu1, lu3, b3, b4, b5, hg', bE, bb, hF', lc1, lrr, e0, e1, e5, e7, e11, e15, e19, e25, e189, e190, e191, hlt, zr3, ntv0, csv0, ntv1, csv1, gv, lc16, hgq', zs, ntd0, csd0, ntd1, csd1, ntj, csj, gd, ntg0, csg0, ntg1, csg1, gg])
    have n5 := a5.1.1
    have K5 := K4.trans a5.1
    have gd : h5.get h1.next = .cells [d0, d1] true true 1 := by rw [a5.1.2 _ (by omega)]; exact gd
    have gg : h5.get h3.next = .cells [g0, g1] true true 1 := by rw [a5.1.2 _ (by omega)]; exact gg
    have hv := hv.keep a5.1
    have hw := hw.keep a5.1
    have hJ := hJ.keep a5.1
    have hD := hD.keep a5.1
    have hu9 := hu9.keep a5.1
    have hu10 := hu10.chips
    obtain ⟨j0, j1, rfl, hj0, hj1⟩ := hu10
    have ntj0 := hj0.nt
    have csj0 := hj0.cs
    have ntj1 := hj1.nt
    have csj1 := hj1.cs
    have hu10 : Chips h5 (.agg #[j0, j1]) (chL M (runR M B ms)) (chA (runR M B ms)) := ⟨j0, j1, rfl, hj0, hj1⟩
    try simp (disch := first | omega | (simp; done) | fail) [wrap64c, if_pos, if_neg, ntv, csv, ntw, csw, hbig, ntc0, csc0, ntc1, csc1, nti, csi, gc, ntf0, csf0, ntf1, csf1, gf, nty0, csy0, nty1, csy1, ge, lu1, lu3, b3, b4, b5, hg', bE, bb, hF', lc1, lrr, e0, e1, e5, e7, e11, e15, e19, e25, e189, e190, e191, hlt, zr3, ntv0, csv0, ntv1, csv1, gv, lc16, hgq', zs, ntd0, csd0, ntd1, csd1, ntj, csj, gd, ntg0, csg0, ntg1, csg1, gg, ntj0, csj0, ntj1, csj1, putCells]
    first | refine WY_heap fun h6 q_h6 => ?_ | refine callG_heap fun h6 q_h6 => ?_ | refine callP_heap fun h6 q_h6 => ?_ | refine callS_heap fun h6 q_h6 => ?_ | refine RY_heap fun h6 q_h6 => ?_ | refine PY_heap fun h6 q_h6 => ?_ | refine SY_heap fun h6 q_h6 => ?_ | refine doneY_heap fun h6 q_h6 => ?_ | refine loopK_heap fun h6 q_h6 => ?_ | refine thenY_heap fun h6 q_h6 => ?_ | refine thenM_heap fun h6 q_h6 => ?_
    have b6 : Adds h5 h6 := by rw [q_h6]; exact (by first | exact aK | exact kK)
    have n6 := b6.1.1
    have K6 := K5.trans b6.1
    have gd : h6.get h1.next = .cells [d0, d1] true true 1 := by rw [b6.1.2 _ (by omega)]; exact gd
    have gg : h6.get h3.next = .cells [g0, g1] true true 1 := by rw [b6.1.2 _ (by omega)]; exact gg
    have hv := hv.keep b6.1
    have hw := hw.keep b6.1
    have hJ := hJ.keep b6.1
    have hD := hD.keep b6.1
    have hu9 := hu9.keep b6.1
    have hu10 := hu10.keep b6.1
    have m6 : h6.next = h5.next + 1 := by simp [q_h6]
    have gj : h6.get h5.next = .cells [j0, j1] true true 1 := by simp [q_h6]
    refine callG_c (by simp) (by simp) ?ha (imIsRun_ok h6 _ l2 M B ms hD hJ) ?_
    (case ha => simp (disch := first | omega | (simp; done) | fail) [wrap64c, if_pos, if_neg, ntv, csv, ntw, csw, hbig, ntc0, csc0, ntc1, csc1, nti, csi, gc, ntf0, csf0, ntf1, csf1, gf, nty0, csy0, nty1, csy1, ge, lu1, lu3, b3, b4, b5, hg', bE, bb, hF', lc1, lrr, e0, e1, e5, e7, e11, e15, e19, e25, e189, e190, e191, hlt, zr3, ntv0, csv0, ntv1, csv1, gv, lc16, hgq', zs, ntd0, csd0, ntd1, csd1, ntj, csj, gd, ntg0, csg0, ntg1, csg1, gg, ntj0, csj0, ntj1, csj1, gj])
    try simp (disch := first | omega | (simp; done) | fail) [wrap64c, if_pos, if_neg, ntv, csv, ntw, csw, hbig, ntc0, csc0, ntc1, csc1, nti, csi, gc, ntf0, csf0, ntf1, csf1, gf, nty0, csy0, nty1, csy1, ge, lu1, lu3, b3, b4, b5, hg', bE, bb, hF', lc1, lrr, e0, e1, e5, e7, e11, e15, e19, e25, e189, e190, e191, hlt, zr3, ntv0, csv0, ntv1, csv1, gv, lc16, hgq', zs, ntd0, csd0, ntd1, csd1, ntj, csj, gd, ntg0, csg0, ntg1, csg1, gg, ntj0, csj0, ntj1, csj1, gj]
    refine callG_c (by simp) (by simp) ?ha (spIsRun_ok h6 _ l2 M B ms hD hJ) ?_
    (case ha => simp (disch := first | omega | (simp; done) | fail) [wrap64c, if_pos, if_neg, ntv, csv, ntw, csw, hbig, ntc0, csc0, ntc1, csc1, nti, csi, gc, ntf0, csf0, ntf1, csf1, gf, nty0, csy0, nty1, csy1, ge, lu1, lu3, b3, b4, b5, hg', bE, bb, hF', lc1, lrr, e0, e1, e5, e7, e11, e15, e19, e25, e189, e190, e191, hlt, zr3, ntv0, csv0, ntv1, csv1, gv, lc16, hgq', zs, ntd0, csd0, ntd1, csd1, ntj, csj, gd, ntg0, csg0, ntg1, csg1, gg, ntj0, csj0, ntj1, csj1, gj])
    have bR : isR M B ms = (runR M B ms).isSome := rfl
    try simp (disch := first | omega | (simp; done) | fail) [wrap64c, if_pos, if_neg, ntv, csv, ntw, csw, hbig, ntc0, csc0, ntc1, csc1, nti, csi, gc, ntf0, csf0, ntf1, csf1, gf, nty0, csy0, nty1, csy1, ge, lu1, lu3, b3, b4, b5, hg', bE, bb, hF', lc1, lrr, e0, e1, e5, e7, e11, e15, e19, e25, e189, e190, e191, hlt, zr3, ntv0, csv0, ntv1, csv1, gv, lc16, hgq', zs, ntd0, csd0, ntd1, csd1, ntj, csj, gd, ntg0, csg0, ntg1, csg1, gg, ntj0, csj0, ntj1, csj1, gj, bR]
    refine callG_c (by simp) (by simp) ?ha (iChips_ok h6 _ _ _ _ _ _ hu9 hu10) ?_
    (case ha => simp (disch := first | omega | (simp; done) | fail) [wrap64c, if_pos, if_neg, ntv, csv, ntw, csw, hbig, ntc0, csc0, ntc1, csc1, nti, csi, gc, ntf0, csf0, ntf1, csf1, gf, nty0, csy0, nty1, csy1, ge, lu1, lu3, b3, b4, b5, hg', bE, bb, hF', lc1, lrr, e0, e1, e5, e7, e11, e15, e19, e25, e189, e190, e191, hlt, zr3, ntv0, csv0, ntv1, csv1, gv, lc16, hgq', zs, ntd0, csd0, ntd1, csd1, ntj, csj, gd, ntg0, csg0, ntg1, csg1, gg, ntj0, csj0, ntj1, csj1, gj, bR])
    try simp (disch := first | omega | (simp; done) | fail) [wrap64c, if_pos, if_neg, ntv, csv, ntw, csw, hbig, ntc0, csc0, ntc1, csc1, nti, csi, gc, ntf0, csf0, ntf1, csf1, gf, nty0, csy0, nty1, csy1, ge, lu1, lu3, b3, b4, b5, hg', bE, bb, hF', lc1, lrr, e0, e1, e5, e7, e11, e15, e19, e25, e189, e190, e191, hlt, zr3, ntv0, csv0, ntv1, csv1, gv, lc16, hgq', zs, ntd0, csd0, ntd1, csd1, ntj, csj, gd, ntg0, csg0, ntg1, csg1, gg, ntj0, csj0, ntj1, csj1, gj, bR]
    obtain ⟨_, h7, p7, a7, e, N, C, i, rfl, hE, sm3, li1, li2⟩ := drawMove_ok h6 w ys (bytes_old hw)
    refine callG_c (by simp) (by simp) ?ha (p7) ?_
    (case ha => simp (disch := first | omega | (simp; done) | fail) [wrap64c, if_pos, if_neg, ntv, csv, ntw, csw, hbig, ntc0, csc0, ntc1, csc1, nti, csi, gc, ntf0, csf0, ntf1, csf1, gf, nty0, csy0, nty1, csy1, ge, lu1, lu3, b3, b4, b5, hg', bE, bb, hF', lc1, lrr, e0, e1, e5, e7, e11, e15, e19, e25, e189, e190, e191, hlt, zr3, ntv0, csv0, ntv1, csv1, gv, lc16, hgq', zs, ntd0, csd0, ntd1, csd1, ntj, csj, gd, ntg0, csg0, ntg1, csg1, gg, ntj0, csj0, ntj1, csj1, gj, bR])
    have n7 := a7.1.1
    have K7 := K6.trans a7.1
    have gd : h7.get h1.next = .cells [d0, d1] true true 1 := by rw [a7.1.2 _ (by omega)]; exact gd
    have gg : h7.get h3.next = .cells [g0, g1] true true 1 := by rw [a7.1.2 _ (by omega)]; exact gg
    have gj : h7.get h5.next = .cells [j0, j1] true true 1 := by rw [a7.1.2 _ (by omega)]; exact gj
    have hv := hv.keep a7.1
    have hw := hw.keep a7.1
    have hJ := hJ.keep a7.1
    have hD := hD.keep a7.1
    have hu9 := hu9.keep a7.1
    have hu10 := hu10.keep a7.1
    obtain ⟨k0, k1, rfl, hk0, hk1⟩ := hE
    have ntk0 := hk0.nt
    have csk0 := hk0.cs
    have ntk1 := hk1.nt
    have csk1 := hk1.cs
    have hE : Chips h7 (.agg #[k0, k1]) (N) (C) := ⟨k0, k1, rfl, hk0, hk1⟩
    try simp (disch := first | omega | (simp; done) | fail) [wrap64c, if_pos, if_neg, ntv, csv, ntw, csw, hbig, ntc0, csc0, ntc1, csc1, nti, csi, gc, ntf0, csf0, ntf1, csf1, gf, nty0, csy0, nty1, csy1, ge, lu1, lu3, b3, b4, b5, hg', bE, bb, hF', lc1, lrr, e0, e1, e5, e7, e11, e15, e19, e25, e189, e190, e191, hlt, zr3, ntv0, csv0, ntv1, csv1, gv, lc16, hgq', zs, ntd0, csd0, ntd1, csd1, ntj, csj, gd, ntg0, csg0, ntg1, csg1, gg, ntj0, csj0, ntj1, csj1, gj, bR, ntk0, csk0, ntk1, csk1, putCells]
    first | refine WY_heap fun h8 q_h8 => ?_ | refine callG_heap fun h8 q_h8 => ?_ | refine callP_heap fun h8 q_h8 => ?_ | refine callS_heap fun h8 q_h8 => ?_ | refine RY_heap fun h8 q_h8 => ?_ | refine PY_heap fun h8 q_h8 => ?_ | refine SY_heap fun h8 q_h8 => ?_ | refine doneY_heap fun h8 q_h8 => ?_ | refine loopK_heap fun h8 q_h8 => ?_ | refine thenY_heap fun h8 q_h8 => ?_ | refine thenM_heap fun h8 q_h8 => ?_
    have b8 : Adds h7 h8 := by rw [q_h8]; exact (by first | exact aK | exact kK)
    have n8 := b8.1.1
    have K8 := K7.trans b8.1
    have gd : h8.get h1.next = .cells [d0, d1] true true 1 := by rw [b8.1.2 _ (by omega)]; exact gd
    have gg : h8.get h3.next = .cells [g0, g1] true true 1 := by rw [b8.1.2 _ (by omega)]; exact gg
    have gj : h8.get h5.next = .cells [j0, j1] true true 1 := by rw [b8.1.2 _ (by omega)]; exact gj
    have hv := hv.keep b8.1
    have hw := hw.keep b8.1
    have hJ := hJ.keep b8.1
    have hD := hD.keep b8.1
    have hu9 := hu9.keep b8.1
    have hu10 := hu10.keep b8.1
    have hE := hE.keep b8.1
    have m8 : h8.next = h7.next + 1 := by simp [q_h8]
    have gk : h8.get h7.next = .cells [k0, k1] true true 1 := by simp [q_h8]
    obtain ⟨_, h9, p9, a9, u11, rfl, hu11⟩ := imMoveChips_ok h8 _ N C i hE
    refine callG_c (by simp) (by simp) ?ha (p9) ?_
    (case ha => simp (disch := first | omega | (simp; done) | fail) [wrap64c, if_pos, if_neg, ntv, csv, ntw, csw, hbig, ntc0, csc0, ntc1, csc1, nti, csi, gc, ntf0, csf0, ntf1, csf1, gf, nty0, csy0, nty1, csy1, ge, lu1, lu3, b3, b4, b5, hg', bE, bb, hF', lc1, lrr, e0, e1, e5, e7, e11, e15, e19, e25, e189, e190, e191, hlt, zr3, ntv0, csv0, ntv1, csv1, gv, lc16, hgq', zs, ntd0, csd0, ntd1, csd1, ntj, csj, gd, ntg0, csg0, ntg1, csg1, gg, ntj0, csj0, ntj1, csj1, gj, bR, ntk0, csk0, ntk1, csk1, gk])
    have n9 := a9.1.1
    have K9 := K8.trans a9.1
    have gd : h9.get h1.next = .cells [d0, d1] true true 1 := by rw [a9.1.2 _ (by omega)]; exact gd
    have gg : h9.get h3.next = .cells [g0, g1] true true 1 := by rw [a9.1.2 _ (by omega)]; exact gg
    have gj : h9.get h5.next = .cells [j0, j1] true true 1 := by rw [a9.1.2 _ (by omega)]; exact gj
    have gk : h9.get h7.next = .cells [k0, k1] true true 1 := by rw [a9.1.2 _ (by omega)]; exact gk
    have hv := hv.keep a9.1
    have hw := hw.keep a9.1
    have hJ := hJ.keep a9.1
    have hD := hD.keep a9.1
    have hu9 := hu9.keep a9.1
    have hu10 := hu10.keep a9.1
    have hE := hE.keep a9.1
    have hu11 := hu11.chips
    obtain ⟨q0, q1, rfl, hq0, hq1⟩ := hu11
    have ntq0 := hq0.nt
    have csq0 := hq0.cs
    have ntq1 := hq1.nt
    have csq1 := hq1.cs
    have hu11 : Chips h9 (.agg #[q0, q1]) (chL N (moveR N C i)) (chA (moveR N C i)) := ⟨q0, q1, rfl, hq0, hq1⟩
    try simp (disch := first | omega | (simp; done) | fail) [wrap64c, if_pos, if_neg, ntv, csv, ntw, csw, hbig, ntc0, csc0, ntc1, csc1, nti, csi, gc, ntf0, csf0, ntf1, csf1, gf, nty0, csy0, nty1, csy1, ge, lu1, lu3, b3, b4, b5, hg', bE, bb, hF', lc1, lrr, e0, e1, e5, e7, e11, e15, e19, e25, e189, e190, e191, hlt, zr3, ntv0, csv0, ntv1, csv1, gv, lc16, hgq', zs, ntd0, csd0, ntd1, csd1, ntj, csj, gd, ntg0, csg0, ntg1, csg1, gg, ntj0, csj0, ntj1, csj1, gj, bR, ntk0, csk0, ntk1, csk1, gk, ntq0, csq0, ntq1, csq1, putCells]
    first | refine WY_heap fun h10 q_h10 => ?_ | refine callG_heap fun h10 q_h10 => ?_ | refine callP_heap fun h10 q_h10 => ?_ | refine callS_heap fun h10 q_h10 => ?_ | refine RY_heap fun h10 q_h10 => ?_ | refine PY_heap fun h10 q_h10 => ?_ | refine SY_heap fun h10 q_h10 => ?_ | refine doneY_heap fun h10 q_h10 => ?_ | refine loopK_heap fun h10 q_h10 => ?_ | refine thenY_heap fun h10 q_h10 => ?_ | refine thenM_heap fun h10 q_h10 => ?_
    have b10 : Adds h9 h10 := by rw [q_h10]; exact (by first | exact aK | exact kK)
    have n10 := b10.1.1
    have K10 := K9.trans b10.1
    have gd : h10.get h1.next = .cells [d0, d1] true true 1 := by rw [b10.1.2 _ (by omega)]; exact gd
    have gg : h10.get h3.next = .cells [g0, g1] true true 1 := by rw [b10.1.2 _ (by omega)]; exact gg
    have gj : h10.get h5.next = .cells [j0, j1] true true 1 := by rw [b10.1.2 _ (by omega)]; exact gj
    have gk : h10.get h7.next = .cells [k0, k1] true true 1 := by rw [b10.1.2 _ (by omega)]; exact gk
    have hv := hv.keep b10.1
    have hw := hw.keep b10.1
    have hJ := hJ.keep b10.1
    have hD := hD.keep b10.1
    have hu9 := hu9.keep b10.1
    have hu10 := hu10.keep b10.1
    have hE := hE.keep b10.1
    have hu11 := hu11.keep b10.1
    have m10 : h10.next = h9.next + 1 := by simp [q_h10]
    have gq : h10.get h9.next = .cells [q0, q1] true true 1 := by simp [q_h10]
    obtain ⟨_, h11, p11, a11, u12, rfl, hu12⟩ := spMoveChips_ok h10 _ N C i hE
    refine callG_c (by simp) (by simp) ?ha (p11) ?_
    (case ha => simp (disch := first | omega | (simp; done) | fail) [wrap64c, if_pos, if_neg, ntv, csv, ntw, csw, hbig, ntc0, csc0, ntc1, csc1, nti, csi, gc, ntf0, csf0, ntf1, csf1, gf, nty0, csy0, nty1, csy1, ge, lu1, lu3, b3, b4, b5, hg', bE, bb, hF', lc1, lrr, e0, e1, e5, e7, e11, e15, e19, e25, e189, e190, e191, hlt, zr3, ntv0, csv0, ntv1, csv1, gv, lc16, hgq', zs, ntd0, csd0, ntd1, csd1, ntj, csj, gd, ntg0, csg0, ntg1, csg1, gg, ntj0, csj0, ntj1, csj1, gj, bR, ntk0, csk0, ntk1, csk1, gk, ntq0, csq0, ntq1, csq1, gq])
    have n11 := a11.1.1
    have K11 := K10.trans a11.1
    have gd : h11.get h1.next = .cells [d0, d1] true true 1 := by rw [a11.1.2 _ (by omega)]; exact gd
    have gg : h11.get h3.next = .cells [g0, g1] true true 1 := by rw [a11.1.2 _ (by omega)]; exact gg
    have gj : h11.get h5.next = .cells [j0, j1] true true 1 := by rw [a11.1.2 _ (by omega)]; exact gj
    have gk : h11.get h7.next = .cells [k0, k1] true true 1 := by rw [a11.1.2 _ (by omega)]; exact gk
    have gq : h11.get h9.next = .cells [q0, q1] true true 1 := by rw [a11.1.2 _ (by omega)]; exact gq
    have hv := hv.keep a11.1
    have hw := hw.keep a11.1
    have hJ := hJ.keep a11.1
    have hD := hD.keep a11.1
    have hu9 := hu9.keep a11.1
    have hu10 := hu10.keep a11.1
    have hE := hE.keep a11.1
    have hu11 := hu11.keep a11.1
    have hu12 := hu12.chips
    obtain ⟨r0, r1, rfl, hr0, hr1⟩ := hu12
    have ntr0 := hr0.nt
    have csr0 := hr0.cs
    have ntr1 := hr1.nt
    have csr1 := hr1.cs
    have hu12 : Chips h11 (.agg #[r0, r1]) (chL N (moveR N C i)) (chA (moveR N C i)) := ⟨r0, r1, rfl, hr0, hr1⟩
    try simp (disch := first | omega | (simp; done) | fail) [wrap64c, if_pos, if_neg, ntv, csv, ntw, csw, hbig, ntc0, csc0, ntc1, csc1, nti, csi, gc, ntf0, csf0, ntf1, csf1, gf, nty0, csy0, nty1, csy1, ge, lu1, lu3, b3, b4, b5, hg', bE, bb, hF', lc1, lrr, e0, e1, e5, e7, e11, e15, e19, e25, e189, e190, e191, hlt, zr3, ntv0, csv0, ntv1, csv1, gv, lc16, hgq', zs, ntd0, csd0, ntd1, csd1, ntj, csj, gd, ntg0, csg0, ntg1, csg1, gg, ntj0, csj0, ntj1, csj1, gj, bR, ntk0, csk0, ntk1, csk1, gk, ntq0, csq0, ntq1, csq1, gq, ntr0, csr0, ntr1, csr1, putCells]
    first | refine WY_heap fun h12 q_h12 => ?_ | refine callG_heap fun h12 q_h12 => ?_ | refine callP_heap fun h12 q_h12 => ?_ | refine callS_heap fun h12 q_h12 => ?_ | refine RY_heap fun h12 q_h12 => ?_ | refine PY_heap fun h12 q_h12 => ?_ | refine SY_heap fun h12 q_h12 => ?_ | refine doneY_heap fun h12 q_h12 => ?_ | refine loopK_heap fun h12 q_h12 => ?_ | refine thenY_heap fun h12 q_h12 => ?_ | refine thenM_heap fun h12 q_h12 => ?_
    have b12 : Adds h11 h12 := by rw [q_h12]; exact (by first | exact aK | exact kK)
    have n12 := b12.1.1
    have K12 := K11.trans b12.1
    have gd : h12.get h1.next = .cells [d0, d1] true true 1 := by rw [b12.1.2 _ (by omega)]; exact gd
    have gg : h12.get h3.next = .cells [g0, g1] true true 1 := by rw [b12.1.2 _ (by omega)]; exact gg
    have gj : h12.get h5.next = .cells [j0, j1] true true 1 := by rw [b12.1.2 _ (by omega)]; exact gj
    have gk : h12.get h7.next = .cells [k0, k1] true true 1 := by rw [b12.1.2 _ (by omega)]; exact gk
    have gq : h12.get h9.next = .cells [q0, q1] true true 1 := by rw [b12.1.2 _ (by omega)]; exact gq
    have hv := hv.keep b12.1
    have hw := hw.keep b12.1
    have hJ := hJ.keep b12.1
    have hD := hD.keep b12.1
    have hu9 := hu9.keep b12.1
    have hu10 := hu10.keep b12.1
    have hE := hE.keep b12.1
    have hu11 := hu11.keep b12.1
    have hu12 := hu12.keep b12.1
    have m12 : h12.next = h11.next + 1 := by simp [q_h12]
    have gr : h12.get h11.next = .cells [r0, r1] true true 1 := by simp [q_h12]
    refine callG_c (by simp) (by simp) ?ha (iChips_ok h12 _ _ _ _ _ _ hu11 hu12) ?_
    (case ha => simp (disch := first | omega | (simp; done) | fail) [wrap64c, if_pos, if_neg, ntv, csv, ntw, csw, hbig, ntc0, csc0, ntc1, csc1, nti, csi, gc, ntf0, csf0, ntf1, csf1, gf, nty0, csy0, nty1, csy1, ge, lu1, lu3, b3, b4, b5, hg', bE, bb, hF', lc1, lrr, e0, e1, e5, e7, e11, e15, e19, e25, e189, e190, e191, hlt, zr3, ntv0, csv0, ntv1, csv1, gv, lc16, hgq', zs, ntd0, csd0, ntd1, csd1, ntj, csj, gd, ntg0, csg0, ntg1, csg1, gg, ntj0, csj0, ntj1, csj1, gj, bR, ntk0, csk0, ntk1, csk1, gk, ntq0, csq0, ntq1, csq1, gq, ntr0, csr0, ntr1, csr1, gr])
    cases hmo : moveR N C i
    · have hmo' := hmo
      try simp (disch := first | omega | (simp; done) | fail) [wrap64c, if_pos, if_neg, ntv, csv, ntw, csw, hbig, ntc0, csc0, ntc1, csc1, nti, csi, gc, ntf0, csf0, ntf1, csf1, gf, nty0, csy0, nty1, csy1, ge, lu1, lu3, b3, b4, b5, hg', bE, bb, hF', lc1, lrr, e0, e1, e5, e7, e11, e15, e19, e25, e189, e190, e191, hlt, zr3, ntv0, csv0, ntv1, csv1, gv, lc16, hgq', zs, ntd0, csd0, ntd1, csd1, ntj, csj, gd, ntg0, csg0, ntg1, csg1, gg, ntj0, csj0, ntj1, csj1, gj, bR, ntk0, csk0, ntk1, csk1, gk, ntq0, csq0, ntq1, csq1, gq, ntr0, csr0, ntr1, csr1, gr, hmo']
      obtain ⟨h0, hh0⟩ : ∃ x, x = h12 := ⟨_, rfl⟩
      have K0 := K12
      rw [← hh0] at K0
      have hv := hv
      have hw := hw
      rw [← hh0] at hv
      rw [← hh0] at hw
      try rw [← hh0]
      obtain ⟨_, h1, p1, a1, f, l3, O, D, ns, rfl, hF, hH, sm4, lns⟩ := drawReached_ok h0 v xs (bytes_old hv)
      refine callG_c (by simp) (by simp) ?ha (p1) ?_
      (case ha => simp (disch := first | omega | (simp; done) | fail) [wrap64c, if_pos, if_neg, ntv, csv, ntw, csw, hbig, ntc0, csc0, ntc1, csc1, nti, csi, gc, ntf0, csf0, ntf1, csf1, gf, nty0, csy0, nty1, csy1, ge, lu1, lu3, b3, b4, b5, hg', bE, bb, hF', lc1, lrr, e0, e1, e5, e7, e11, e15, e19, e25, e189, e190, e191, hlt, zr3, ntv0, csv0, ntv1, csv1, gv, lc16, hgq', zs, ntd0, csd0, ntd1, csd1, ntj, csj, gd, ntg0, csg0, ntg1, csg1, gg, ntj0, csj0, ntj1, csj1, gj, bR, ntk0, csk0, ntk1, csk1, gk, ntq0, csq0, ntq1, csq1, gq, ntr0, csr0, ntr1, csr1, gr, hmo'])
      have n1 := a1.1.1
      have K1 := K0.trans a1.1
      have hv := hv.keep a1.1
      have hw := hw.keep a1.1
      obtain ⟨s0, s1, rfl, hs0, hs1⟩ := hF
      have nts0 := hs0.nt
      have css0 := hs0.cs
      have nts1 := hs1.nt
      have css1 := hs1.cs
      have hF : Chips h1 (.agg #[s0, s1]) (O) (D) := ⟨s0, s1, rfl, hs0, hs1⟩
      have nth := hH.nt
      have csh := hH.cs
      try simp (disch := first | omega | (simp; done) | fail) [wrap64c, if_pos, if_neg, ntv, csv, ntw, csw, hbig, ntc0, csc0, ntc1, csc1, nti, csi, gc, ntf0, csf0, ntf1, csf1, gf, nty0, csy0, nty1, csy1, ge, lu1, lu3, b3, b4, b5, hg', bE, bb, hF', lc1, lrr, e0, e1, e5, e7, e11, e15, e19, e25, e189, e190, e191, hlt, zr3, ntv0, csv0, ntv1, csv1, gv, lc16, hgq', zs, ntd0, csd0, ntd1, csd1, ntj, csj, gd, ntg0, csg0, ntg1, csg1, gg, ntj0, csj0, ntj1, csj1, gj, bR, ntk0, csk0, ntk1, csk1, gk, ntq0, csq0, ntq1, csq1, gq, ntr0, csr0, ntr1, csr1, gr, hmo', nts0, css0, nts1, css1, nth, csh, putCells]
      first | refine WY_heap fun h2 q_h2 => ?_ | refine callG_heap fun h2 q_h2 => ?_ | refine callP_heap fun h2 q_h2 => ?_ | refine callS_heap fun h2 q_h2 => ?_ | refine RY_heap fun h2 q_h2 => ?_ | refine PY_heap fun h2 q_h2 => ?_ | refine SY_heap fun h2 q_h2 => ?_ | refine doneY_heap fun h2 q_h2 => ?_ | refine loopK_heap fun h2 q_h2 => ?_ | refine thenY_heap fun h2 q_h2 => ?_ | refine thenM_heap fun h2 q_h2 => ?_
      have b2 : Adds h1 h2 := by rw [q_h2]; exact (by first | exact aK | exact kK)
      have n2 := b2.1.1
      have K2 := K1.trans b2.1
      have hv := hv.keep b2.1
      have hw := hw.keep b2.1
      have hH := hH.keep b2.1
      have hF := hF.keep b2.1
      have m2 : h2.next = h1.next + 1 := by simp [q_h2]
      have gs : h2.get h1.next = .cells [s0, s1] true true 1 := by simp [q_h2]
      refine callG_c (by simp) (by simp) ?ha (imReachedBy_ok h2 _ _ O D ns hF hH) ?_
      (case ha => simp (disch := first | omega | (simp; done) | fail) [wrap64c, if_pos, if_neg, ntv, csv, ntw, csw, hbig, ntc0, csc0, ntc1, csc1, nti, csi, gc, ntf0, csf0, ntf1, csf1, gf, nty0, csy0, nty1, csy1, ge, lu1, lu3, b3, b4, b5, hg', bE, bb, hF', lc1, lrr, e0, e1, e5, e7, e11, e15, e19, e25, e189, e190, e191, hlt, zr3, ntv0, csv0, ntv1, csv1, gv, lc16, hgq', zs, ntd0, csd0, ntd1, csd1, ntj, csj, gd, ntg0, csg0, ntg1, csg1, gg, ntj0, csj0, ntj1, csj1, gj, bR, ntk0, csk0, ntk1, csk1, gk, ntq0, csq0, ntq1, csq1, gq, ntr0, csr0, ntr1, csr1, gr, hmo', nts0, css0, nts1, css1, nth, csh, gs])
      try simp (disch := first | omega | (simp; done) | fail) [wrap64c, if_pos, if_neg, ntv, csv, ntw, csw, hbig, ntc0, csc0, ntc1, csc1, nti, csi, gc, ntf0, csf0, ntf1, csf1, gf, nty0, csy0, nty1, csy1, ge, lu1, lu3, b3, b4, b5, hg', bE, bb, hF', lc1, lrr, e0, e1, e5, e7, e11, e15, e19, e25, e189, e190, e191, hlt, zr3, ntv0, csv0, ntv1, csv1, gv, lc16, hgq', zs, ntd0, csd0, ntd1, csd1, ntj, csj, gd, ntg0, csg0, ntg1, csg1, gg, ntj0, csj0, ntj1, csj1, gj, bR, ntk0, csk0, ntk1, csk1, gk, ntq0, csq0, ntq1, csq1, gq, ntr0, csr0, ntr1, csr1, gr, hmo', nts0, css0, nts1, css1, nth, csh, gs]
      refine callG_c (by simp) (by simp) ?ha (spReachedBy_ok h2 _ _ O D ns hF hH) ?_
      (case ha => simp (disch := first | omega | (simp; done) | fail) [wrap64c, if_pos, if_neg, ntv, csv, ntw, csw, hbig, ntc0, csc0, ntc1, csc1, nti, csi, gc, ntf0, csf0, ntf1, csf1, gf, nty0, csy0, nty1, csy1, ge, lu1, lu3, b3, b4, b5, hg', bE, bb, hF', lc1, lrr, e0, e1, e5, e7, e11, e15, e19, e25, e189, e190, e191, hlt, zr3, ntv0, csv0, ntv1, csv1, gv, lc16, hgq', zs, ntd0, csd0, ntd1, csd1, ntj, csj, gd, ntg0, csg0, ntg1, csg1, gg, ntj0, csj0, ntj1, csj1, gj, bR, ntk0, csk0, ntk1, csk1, gk, ntq0, csq0, ntq1, csq1, gq, ntr0, csr0, ntr1, csr1, gr, hmo', nts0, css0, nts1, css1, nth, csh, gs])
      try simp (disch := first | omega | (simp; done) | fail) [wrap64c, if_pos, if_neg, ntv, csv, ntw, csw, hbig, ntc0, csc0, ntc1, csc1, nti, csi, gc, ntf0, csf0, ntf1, csf1, gf, nty0, csy0, nty1, csy1, ge, lu1, lu3, b3, b4, b5, hg', bE, bb, hF', lc1, lrr, e0, e1, e5, e7, e11, e15, e19, e25, e189, e190, e191, hlt, zr3, ntv0, csv0, ntv1, csv1, gv, lc16, hgq', zs, ntd0, csd0, ntd1, csd1, ntj, csj, gd, ntg0, csg0, ntg1, csg1, gg, ntj0, csj0, ntj1, csj1, gj, bR, ntk0, csk0, ntk1, csk1, gk, ntq0, csq0, ntq1, csq1, gq, ntr0, csr0, ntr1, csr1, gr, hmo', nts0, css0, nts1, css1, nth, csh, gs]
      exact done_ret rfl (by simp [K2])
    · have hmo' := hmo
      obtain ⟨hg3, kk, rfl, hkk, hcan, rfl⟩ := moveR_some hmo
      have e6 : chL N (moveR N C (kk : Int)) = N := by rw [hmo]; rfl
      have e7 : chA (moveR N C (kk : Int)) = moveA N C kk := by rw [hmo]; rfl
      rw [e6, e7] at hu11
      try simp (disch := first | omega | (simp; done) | fail) [wrap64c, if_pos, if_neg, ntv, csv, ntw, csw, hbig, ntc0, csc0, ntc1, csc1, nti, csi, gc, ntf0, csf0, ntf1, csf1, gf, nty0, csy0, nty1, csy1, ge, lu1, lu3, b3, b4, b5, hg', bE, bb, hF', lc1, lrr, e0, e1, e5, e7, e11, e15, e19, e25, e189, e190, e191, hlt, zr3, ntv0, csv0, ntv1, csv1, gv, lc16, hgq', zs, ntd0, csd0, ntd1, csd1, ntj, csj, gd, ntg0, csg0, ntg1, csg1, gg, ntj0, csj0, ntj1, csj1, gj, bR, ntk0, csk0, ntk1, csk1, gk, ntq0, csq0, ntq1, csq1, gq, ntr0, csr0, ntr1, csr1, gr, hmo']
      obtain ⟨u13, h13, p13, a13, hu13⟩ := imDegreesOf_ok h12 _ N C hE
      refine callG_c (by simp) (by simp) ?ha (p13) ?_
      (case ha => simp (disch := first | omega | (simp; done) | fail) [wrap64c, if_pos, if_neg, ntv, csv, ntw, csw, hbig, ntc0, csc0, ntc1, csc1, nti, csi, gc, ntf0, csf0, ntf1, csf1, gf, nty0, csy0, nty1, csy1, ge, lu1, lu3, b3, b4, b5, hg', bE, bb, hF', lc1, lrr, e0, e1, e5, e7, e11, e15, e19, e25, e189, e190, e191, hlt, zr3, ntv0, csv0, ntv1, csv1, gv, lc16, hgq', zs, ntd0, csd0, ntd1, csd1, ntj, csj, gd, ntg0, csg0, ntg1, csg1, gg, ntj0, csj0, ntj1, csj1, gj, bR, ntk0, csk0, ntk1, csk1, gk, ntq0, csq0, ntq1, csq1, gq, ntr0, csr0, ntr1, csr1, gr, hmo'])
      have n13 := a13.1.1
      have K13 := K12.trans a13.1
      have gd : h13.get h1.next = .cells [d0, d1] true true 1 := by rw [a13.1.2 _ (by omega)]; exact gd
      have gg : h13.get h3.next = .cells [g0, g1] true true 1 := by rw [a13.1.2 _ (by omega)]; exact gg
      have gj : h13.get h5.next = .cells [j0, j1] true true 1 := by rw [a13.1.2 _ (by omega)]; exact gj
      have gk : h13.get h7.next = .cells [k0, k1] true true 1 := by rw [a13.1.2 _ (by omega)]; exact gk
      have gq : h13.get h9.next = .cells [q0, q1] true true 1 := by rw [a13.1.2 _ (by omega)]; exact gq
      have gr : h13.get h11.next = .cells [r0, r1] true true 1 := by rw [a13.1.2 _ (by omega)]; exact gr
      have hv := hv.keep a13.1
      have hw := hw.keep a13.1
      have hJ := hJ.keep a13.1
      have hD := hD.keep a13.1
      have hu9 := hu9.keep a13.1
      have hu10 := hu10.keep a13.1
      have hE := hE.keep a13.1
      have hu11 := hu11.keep a13.1
      have hu12 := hu12.keep a13.1
      have e8 : degR N C = (List.range C.length).map (deg N) := by rw [degR, if_pos hg3]
      rw [e8] at hu13
      have hg3' := hg3
      have hk1 : Ints h13 k1 C := by have := hE; obtain ⟨_, _, z1, z2, z3⟩ := this; cases z1; exact z3
      have hq1 : Ints h13 q1 (moveA N C kk) := by have := hu11; obtain ⟨_, _, z1, z2, z3⟩ := this; cases z1; exact z3
      have lB : (moveA N C kk).length = C.length := by simp [moveA]
      have lD : ((List.range C.length).map (deg N)).length = C.length := by simp
      have lB' := lB
      obtain ⟨o_x, i_x, c_x, cs_x, own_x, ex_x, es_x, q_x, b_x, g_x, l_x, r_x⟩ := hq1.open ((by omega))
      have z_x : ∀ h2 : i_x < cs_x.length, cs_x[i_x] = _ := fun h2 => r_x 0 ((by omega)) h2
      obtain ⟨o_y, i_y, c_y, cs_y, own_y, ex_y, es_y, q_y, b_y, g_y, l_y, r_y⟩ := hk1.open ((by omega))
      have z_y : ∀ h2 : i_y < cs_y.length, cs_y[i_y] = _ := fun h2 => r_y 0 ((by omega)) h2
      obtain ⟨o_z, i_z, c_z, cs_z, own_z, ex_z, es_z, q_z, b_z, g_z, l_z, r_z⟩ := hu13.ints.open ((by omega))
      have z_z : ∀ h2 : i_z < cs_z.length, cs_z[i_z] = _ := fun h2 => r_z 0 ((by omega)) h2
      have gN := good_of hg3
      have bC := gN.2.2.1 _ (List.getElem_mem hkk)
      have bd := gN.shape.deg hkk
      have eM : ∀ hq : kk < (moveA N C kk).length, (moveA N C kk)[kk] = C[kk] - deg N kk := fun hq => by have := move_at hg3 hkk; simpa [List.getD_eq_getElem?_getD, hq, hkk] using this
      have hrk : goodB N (moveA N C kk) = true := (Rn.step Rn.zero hkk hcan (by simpa using hkk)).good hg3
      have gM := good_of hrk
      have sM := move_sum gN.shape hkk
      try simp (disch := first | omega | (simp; done) | fail) [wrap64c, if_pos, if_neg, ntv, csv, ntw, csw, hbig, ntc0, csc0, ntc1, csc1, nti, csi, gc, ntf0, csf0, ntf1, csf1, gf, nty0, csy0, nty1, csy1, ge, lu1, lu3, b3, b4, b5, hg', bE, bb, hF', lc1, lrr, e0, e1, e5, e7, e11, e15, e19, e25, e189, e190, e191, hlt, zr3, ntv0, csv0, ntv1, csv1, gv, lc16, hgq', zs, ntd0, csd0, ntd1, csd1, ntj, csj, gd, ntg0, csg0, ntg1, csg1, gg, ntj0, csj0, ntj1, csj1, gj, bR, ntk0, csk0, ntk1, csk1, gk, ntq0, csq0, ntq1, csq1, gq, ntr0, csr0, ntr1, csr1, gr, hmo', hg3', lB', hkk, lD, q_x, g_x, l_x, r_x, z_x, q_y, g_y, l_y, r_y, z_y, q_z, g_z, l_z, r_z, z_z, eM, sM]
      refine WD_drawC 26 rfl (by kernel_rfl) ?_
      try simp (disch := first | omega | (simp; done) | fail) [wrap64c, if_pos, if_neg, ntv, csv, ntw, csw, hbig, ntc0, csc0, ntc1, csc1, nti, csi, gc, ntf0, csf0, ntf1, csf1, gf, nty0, csy0, nty1, csy1, ge, lu1, lu3, b3, b4, b5, hg', bE, bb, hF', lc1, lrr, e0, e1, e5, e7, e11, e15, e19, e25, e189, e190, e191, hlt, zr3, ntv0, csv0, ntv1, csv1, gv, lc16, hgq', zs, ntd0, csd0, ntd1, csd1, ntj, csj, gd, ntg0, csg0, ntg1, csg1, gg, ntj0, csj0, ntj1, csj1, gj, bR, ntk0, csk0, ntk1, csk1, gk, ntq0, csq0, ntq1, csq1, gq, ntr0, csr0, ntr1, csr1, gr, hmo', hg3', lB', hkk, lD, q_x, g_x, l_x, r_x, z_x, q_y, g_y, l_y, r_y, z_y, q_z, g_z, l_z, r_z, z_z, eM, sM]
      refine callP_c (by simp) (by simp) ?ha (iSum_ok h13 _ _ hq1 (by omega) (fun x hx => by have := gM.2.2.1 x hx; omega)) ?hadd ?_
      (case ha => simp (disch := first | omega | (simp; done) | fail) [wrap64c, if_pos, if_neg, ntv, csv, ntw, csw, hbig, ntc0, csc0, ntc1, csc1, nti, csi, gc, ntf0, csf0, ntf1, csf1, gf, nty0, csy0, nty1, csy1, ge, lu1, lu3, b3, b4, b5, hg', bE, bb, hF', lc1, lrr, e0, e1, e5, e7, e11, e15, e19, e25, e189, e190, e191, hlt, zr3, ntv0, csv0, ntv1, csv1, gv, lc16, hgq', zs, ntd0, csd0, ntd1, csd1, ntj, csj, gd, ntg0, csg0, ntg1, csg1, gg, ntj0, csj0, ntj1, csj1, gj, bR, ntk0, csk0, ntk1, csk1, gk, ntq0, csq0, ntq1, csq1, gq, ntr0, csr0, ntr1, csr1, gr, hmo', hg3', lB', hkk, lD, q_x, g_x, l_x, r_x, z_x, q_y, g_y, l_y, r_y, z_y, q_z, g_z, l_z, r_z, z_z, eM, sM])
      (case hadd => first | assumption | exact adds_self _ | (simp; done))
      try simp (disch := first | omega | (simp; done) | fail) [wrap64c, if_pos, if_neg, ntv, csv, ntw, csw, hbig, ntc0, csc0, ntc1, csc1, nti, csi, gc, ntf0, csf0, ntf1, csf1, gf, nty0, csy0, nty1, csy1, ge, lu1, lu3, b3, b4, b5, hg', bE, bb, hF', lc1, lrr, e0, e1, e5, e7, e11, e15, e19, e25, e189, e190, e191, hlt, zr3, ntv0, csv0, ntv1, csv1, gv, lc16, hgq', zs, ntd0, csd0, ntd1, csd1, ntj, csj, gd, ntg0, csg0, ntg1, csg1, gg, ntj0, csj0, ntj1, csj1, gj, bR, ntk0, csk0, ntk1, csk1, gk, ntq0, csq0, ntq1, csq1, gq, ntr0, csr0, ntr1, csr1, gr, hmo', hg3', lB', hkk, lD, q_x, g_x, l_x, r_x, z_x, q_y, g_y, l_y, r_y, z_y, q_z, g_z, l_z, r_z, z_z, eM, sM]
      refine callG_c (by simp) (by simp) ?ha (iSum_ok h13 _ _ hk1 (by omega) (fun x hx => by have := gN.2.2.1 x hx; omega)) ?_
      (case ha => simp (disch := first | omega | (simp; done) | fail) [wrap64c, if_pos, if_neg, ntv, csv, ntw, csw, hbig, ntc0, csc0, ntc1, csc1, nti, csi, gc, ntf0, csf0, ntf1, csf1, gf, nty0, csy0, nty1, csy1, ge, lu1, lu3, b3, b4, b5, hg', bE, bb, hF', lc1, lrr, e0, e1, e5, e7, e11, e15, e19, e25, e189, e190, e191, hlt, zr3, ntv0, csv0, ntv1, csv1, gv, lc16, hgq', zs, ntd0, csd0, ntd1, csd1, ntj, csj, gd, ntg0, csg0, ntg1, csg1, gg, ntj0, csj0, ntj1, csj1, gj, bR, ntk0, csk0, ntk1, csk1, gk, ntq0, csq0, ntq1, csq1, gq, ntr0, csr0, ntr1, csr1, gr, hmo', hg3', lB', hkk, lD, q_x, g_x, l_x, r_x, z_x, q_y, g_y, l_y, r_y, z_y, q_z, g_z, l_z, r_z, z_z, eM, sM])
      try simp (disch := first | omega | (simp; done) | fail) [wrap64c, if_pos, if_neg, ntv, csv, ntw, csw, hbig, ntc0, csc0, ntc1, csc1, nti, csi, gc, ntf0, csf0, ntf1, csf1, gf, nty0, csy0, nty1, csy1, ge, lu1, lu3, b3, b4, b5, hg', bE, bb, hF', lc1, lrr, e0, e1, e5, e7, e11, e15, e19, e25, e189, e190, e191, hlt, zr3, ntv0, csv0, ntv1, csv1, gv, lc16, hgq', zs, ntd0, csd0, ntd1, csd1, ntj, csj, gd, ntg0, csg0, ntg1, csg1, gg, ntj0, csj0, ntj1, csj1, gj, bR, ntk0, csk0, ntk1, csk1, gk, ntq0, csq0, ntq1, csq1, gq, ntr0, csr0, ntr1, csr1, gr, hmo', hg3', lB', hkk, lD, q_x, g_x, l_x, r_x, z_x, q_y, g_y, l_y, r_y, z_y, q_z, g_z, l_z, r_z, z_z, eM, sM]
      obtain ⟨h0, hh0⟩ : ∃ x, x = h13 := ⟨_, rfl⟩
      have K0 := K13
      rw [← hh0] at K0
      have hv := hv
      have hw := hw
      rw [← hh0] at hv
      rw [← hh0] at hw
      try rw [← hh0]
      obtain ⟨_, h1, p1, a1, f, l3, O, D, ns, rfl, hF, hH, sm4, lns⟩ := drawReached_ok h0 v xs (bytes_old hv)
      refine callG_c (by simp) (by simp) ?ha (p1) ?_
      (case ha => simp (disch := first | omega | (simp; done) | fail) [wrap64c, if_pos, if_neg, ntv, csv, ntw, csw, hbig, ntc0, csc0, ntc1, csc1, nti, csi, gc, ntf0, csf0, ntf1, csf1, gf, nty0, csy0, nty1, csy1, ge, lu1, lu3, b3, b4, b5, hg', bE, bb, hF', lc1, lrr, e0, e1, e5, e7, e11, e15, e19, e25, e189, e190, e191, hlt, zr3, ntv0, csv0, ntv1, csv1, gv, lc16, hgq', zs, ntd0, csd0, ntd1, csd1, ntj, csj, gd, ntg0, csg0, ntg1, csg1, gg, ntj0, csj0, ntj1, csj1, gj, bR, ntk0, csk0, ntk1, csk1, gk, ntq0, csq0, ntq1, csq1, gq, ntr0, csr0, ntr1, csr1, gr, hmo', hg3', lB', hkk, lD, q_x, g_x, l_x, r_x, z_x, q_y, g_y, l_y, r_y, z_y, q_z, g_z, l_z, r_z, z_z, eM, sM])
      have n1 := a1.1.1
      have K1 := K0.trans a1.1
      have hv := hv.keep a1.1
      have hw := hw.keep a1.1
      obtain ⟨s0, s1, rfl, hs0, hs1⟩ := hF
      have nts0 := hs0.nt
      have css0 := hs0.cs
      have nts1 := hs1.nt
      have css1 := hs1.cs
      have hF : Chips h1 (.agg #[s0, s1]) (O) (D) := ⟨s0, s1, rfl, hs0, hs1⟩
      have nth := hH.nt
      have csh := hH.cs
      try simp (disch := first | omega | (simp; done) | fail) [wrap64c, if_pos, if_neg, ntv, csv, ntw, csw, hbig, ntc0, csc0, ntc1, csc1, nti, csi, gc, ntf0, csf0, ntf1, csf1, gf, nty0, csy0, nty1, csy1, ge, lu1, lu3, b3, b4, b5, hg', bE, bb, hF', lc1, lrr, e0, e1, e5, e7, e11, e15, e19, e25, e189, e190, e191, hlt, zr3, ntv0, csv0, ntv1, csv1, gv, lc16, hgq', zs, ntd0, csd0, ntd1, csd1, ntj, csj, gd, ntg0, csg0, ntg1, csg1, gg, ntj0, csj0, ntj1, csj1, gj, bR, ntk0, csk0, ntk1, csk1, gk, ntq0, csq0, ntq1, csq1, gq, ntr0, csr0, ntr1, csr1, gr, hmo', hg3', lB', hkk, lD, q_x, g_x, l_x, r_x, z_x, q_y, g_y, l_y, r_y, z_y, q_z, g_z, l_z, r_z, z_z, eM, sM, nts0, css0, nts1, css1, nth, csh, putCells]
      first | refine WY_heap fun h2 q_h2 => ?_ | refine callG_heap fun h2 q_h2 => ?_ | refine callP_heap fun h2 q_h2 => ?_ | refine callS_heap fun h2 q_h2 => ?_ | refine RY_heap fun h2 q_h2 => ?_ | refine PY_heap fun h2 q_h2 => ?_ | refine SY_heap fun h2 q_h2 => ?_ | refine doneY_heap fun h2 q_h2 => ?_ | refine loopK_heap fun h2 q_h2 => ?_ | refine thenY_heap fun h2 q_h2 => ?_ | refine thenM_heap fun h2 q_h2 => ?_
      have b2 : Adds h1 h2 := by rw [q_h2]; exact (by first | exact aK | exact kK)
      have n2 := b2.1.1
      have K2 := K1.trans b2.1
      have hv := hv.keep b2.1
      have hw := hw.keep b2.1
      have hH := hH.keep b2.1
      have hF := hF.keep b2.1
      have m2 : h2.next = h1.next + 1 := by simp [q_h2]
      have gs : h2.get h1.next = .cells [s0, s1] true true 1 := by simp [q_h2]
      refine callG_c (by simp) (by simp) ?ha (imReachedBy_ok h2 _ _ O D ns hF hH) ?_
      (case ha => simp (disch := first | omega | (simp; done) | fail) [wrap64c, if_pos, if_neg, ntv, csv, ntw, csw, hbig, ntc0, csc0, ntc1, csc1, nti, csi, gc, ntf0, csf0, ntf1, csf1, gf, nty0, csy0, nty1, csy1, ge, lu1, lu3, b3, b4, b5, hg', bE, bb, hF', lc1, lrr, e0, e1, e5, e7, e11, e15, e19, e25, e189, e190, e191, hlt, zr3, ntv0, csv0, ntv1, csv1, gv, lc16, hgq', zs, ntd0, csd0, ntd1, csd1, ntj, csj, gd, ntg0, csg0, ntg1, csg1, gg, ntj0, csj0, ntj1, csj1, gj, bR, ntk0, csk0, ntk1, csk1, gk, ntq0, csq0, ntq1, csq1, gq, ntr0, csr0, ntr1, csr1, gr, hmo', hg3', lB', hkk, lD, q_x, g_x, l_x, r_x, z_x, q_y, g_y, l_y, r_y, z_y, q_z, g_z, l_z, r_z, z_z, eM, sM, nts0, css0, nts1, css1, nth, csh, gs])
      try simp (disch := first | omega | (simp; done) | fail) [wrap64c, if_pos, if_neg, ntv, csv, ntw, csw, hbig, ntc0, csc0, ntc1, csc1, nti, csi, gc, ntf0, csf0, ntf1, csf1, gf, nty0, csy0, nty1, csy1, ge, lu1, lu3, b3, b4, b5, hg', bE, bb, hF', lc1, lrr, e0, e1, e5, e7, e11, e15, e19, e25, e189, e190, e191, hlt, zr3, ntv0, csv0, ntv1, csv1, gv, lc16, hgq', zs, ntd0, csd0, ntd1, csd1, ntj, csj, gd, ntg0, csg0, ntg1, csg1, gg, ntj0, csj0, ntj1, csj1, gj, bR, ntk0, csk0, ntk1, csk1, gk, ntq0, csq0, ntq1, csq1, gq, ntr0, csr0, ntr1, csr1, gr, hmo', hg3', lB', hkk, lD, q_x, g_x, l_x, r_x, z_x, q_y, g_y, l_y, r_y, z_y, q_z, g_z, l_z, r_z, z_z, eM, sM, nts0, css0, nts1, css1, nth, csh, gs]
      refine callG_c (by simp) (by simp) ?ha (spReachedBy_ok h2 _ _ O D ns hF hH) ?_
      (case ha => simp (disch := first | omega | (simp; done) | fail) [wrap64c, if_pos, if_neg, ntv, csv, ntw, csw, hbig, ntc0, csc0, ntc1, csc1, nti, csi, gc, ntf0, csf0, ntf1, csf1, gf, nty0, csy0, nty1, csy1, ge, lu1, lu3, b3, b4, b5, hg', bE, bb, hF', lc1, lrr, e0, e1, e5, e7, e11, e15, e19, e25, e189, e190, e191, hlt, zr3, ntv0, csv0, ntv1, csv1, gv, lc16, hgq', zs, ntd0, csd0, ntd1, csd1, ntj, csj, gd, ntg0, csg0, ntg1, csg1, gg, ntj0, csj0, ntj1, csj1, gj, bR, ntk0, csk0, ntk1, csk1, gk, ntq0, csq0, ntq1, csq1, gq, ntr0, csr0, ntr1, csr1, gr, hmo', hg3', lB', hkk, lD, q_x, g_x, l_x, r_x, z_x, q_y, g_y, l_y, r_y, z_y, q_z, g_z, l_z, r_z, z_z, eM, sM, nts0, css0, nts1, css1, nth, csh, gs])
      try simp (disch := first | omega | (simp; done) | fail) [wrap64c, if_pos, if_neg, ntv, csv, ntw, csw, hbig, ntc0, csc0, ntc1, csc1, nti, csi, gc, ntf0, csf0, ntf1, csf1, gf, nty0, csy0, nty1, csy1, ge, lu1, lu3, b3, b4, b5, hg', bE, bb, hF', lc1, lrr, e0, e1, e5, e7, e11, e15, e19, e25, e189, e190, e191, hlt, zr3, ntv0, csv0, ntv1, csv1, gv, lc16, hgq', zs, ntd0, csd0, ntd1, csd1, ntj, csj, gd, ntg0, csg0, ntg1, csg1, gg, ntj0, csj0, ntj1, csj1, gj, bR, ntk0, csk0, ntk1, csk1, gk, ntq0, csq0, ntq1, csq1, gq, ntr0, csr0, ntr1, csr1, gr, hmo', hg3', lB', hkk, lD, q_x, g_x, l_x, r_x, z_x, q_y, g_y, l_y, r_y, z_y, q_z, g_z, l_z, r_z, z_z, eM, sM, nts0, css0, nts1, css1, nth, csh, gs]
      exact done_ret rfl (by simp [K2])
end Go.Proofs.Ytnnjehonbolliaa
