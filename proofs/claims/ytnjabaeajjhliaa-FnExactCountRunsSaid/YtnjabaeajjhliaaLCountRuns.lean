/- The law on CountRuns. -/
import Derived.Test.YtnjabaeajjhliaaT42
namespace Go.Proofs.Ytnjabaeajjhliaa
set_option linter.unusedSimpArgs false
set_option linter.unusedVariables false
set_option maxHeartbeats 4000000
open Go Go.Eng
attribute [local irreducible] WD RunD PreD Runs CallOK

theorem lawCountRuns_ok (h : Hp) (v : Value) (L : List (List Int)) (A : List Int) (hv : Chips h v L A) : CallOK Try.prog 13 #[v] h (.bool true) h := by
  refine callY_P 40 _ [.tmp 2] Try.func13 rfl rfl rfl (by first | rfl | simp) ?_
  have hv0 := hv
  obtain ⟨a, b, rfl, hLL, hAA⟩ := hv
  refine WD_first ?_
  try simp (disch := first | omega | (simp; done) | fail) [wrap64c, if_pos, if_neg]
  refine stopK_heap fun h0 q_h0 => ?_
  refine stopK_go ?_
  have k0 : Adds h h0 := by rw [q_h0]; exact (by first | exact aK | exact kK)
  have K0 := k0.1
  have n0 : h0.next = h.next + 1 := by simp [q_h0]
  have gb0 : h0.get h.next = .cells [a, b] true true 1 := by simp [q_h0]
  try simp (disch := first | omega | (simp; done) | fail) [wrap64c, if_pos, if_neg, gb0]
  refine callG_c (by simp) (by simp) ?ha (szChips_ok h0 _ L A (1048576) (hv0.keep K0) (by omega) (by omega)) ?_
  (case ha => simp (disch := first | omega | (simp; done) | fail) [wrap64c, if_pos, if_neg, gb0])
  by_cases cz0 : szC (1048576) L A < 0
  case pos =>
    try simp (disch := first | omega | (simp; done) | fail) [wrap64c, if_pos, if_neg, gb0, cz0]
    exact done_ret rfl (by simp [K0])
  have lz0 := szC_len (by omega) cz0
  have l1L : L.length < 2 ^ 40 := by omega
  have l2L : ∀ x ∈ L, x.length < 2 ^ 40 := fun x hx => by have := mem_le_tot hx; omega
  have l3L : A.length < 2 ^ 40 := by omega
  try simp (disch := first | omega | (simp; done) | fail) [wrap64c, if_pos, if_neg, gb0, cz0]
  obtain ⟨ts0, h1, hcs0, has0, his0⟩ := toChips_ok h0 _ L A (hv0.keep K0) l1L l2L l3L
  refine callG_c (by simp) (by simp) ?ha (hcs0) ?_
  (case ha => simp (disch := first | omega | (simp; done) | fail) [wrap64c, if_pos, if_neg, gb0, cz0])
  have n1 := has0.1.1
  have K1 := K0.trans has0.1
  have gb0 : h1.get h.next = .cells [a, b] true true 1 := by rw [has0.1.2 _ (by omega)]; exact gb0
  try simp (disch := first | omega | (simp; done) | fail) [wrap64c, if_pos, if_neg, gb0, cz0]
  refine callG_c (by simp) (by simp) ?ha (specRuns_ok h1 _ L A his0.chips) ?_
  (case ha => simp (disch := first | omega | (simp; done) | fail) [wrap64c, if_pos, if_neg, gb0, cz0])
  try simp (disch := first | omega | (simp; done) | fail) [wrap64c, if_pos, if_neg, gb0, cz0]
  obtain ⟨tx0, h2, hcx0, hax0, hix0⟩ := toChips_ok h1 _ L A (hv0.keep K1) l1L l2L l3L
  have hix0' := hix0
  obtain ⟨px0, qx0, Sx0, Tx0, rfl, hpx0, hqx0, s1x0, s2x0, s3x0⟩ := hix0'
  have ntpx0 := hpx0.nt
  have cspx0 := hpx0.cs
  have ntqx0 := hqx0.nt
  have csqx0 := hqx0.cs
  refine callG_c (by simp) (by simp) ?ha (hcx0) ?_
  (case ha => simp (disch := first | omega | (simp; done) | fail) [wrap64c, if_pos, if_neg, gb0, cz0, ntpx0, cspx0, ntqx0, csqx0])
  have n2 := hax0.1.1
  have K2 := K1.trans hax0.1
  have gb0 : h2.get h.next = .cells [a, b] true true 1 := by rw [hax0.1.2 _ (by omega)]; exact gb0
  have his0 := his0.keep hax0.1
  try simp (disch := first | omega | (simp; done) | fail) [wrap64c, if_pos, if_neg, gb0, cz0, ntpx0, cspx0, ntqx0, csqx0, putCells]
  first | refine WY_heap fun h3 q_h3 => ?_ | refine callG_heap fun h3 q_h3 => ?_ | refine callP_heap fun h3 q_h3 => ?_ | refine RY_heap fun h3 q_h3 => ?_ | refine PY_heap fun h3 q_h3 => ?_ | refine doneY_heap fun h3 q_h3 => ?_ | refine loopK_heap fun h3 q_h3 => ?_ | refine thenY_heap fun h3 q_h3 => ?_ | refine thenM_heap fun h3 q_h3 => ?_
  have hbx0 : Adds h2 h3 := by rw [q_h3]; exact (by first | exact aK | exact kK)
  have n3 := hbx0.1.1
  have K3 := K2.trans hbx0.1
  have gb0 : h3.get h.next = .cells [a, b] true true 1 := by rw [hbx0.1.2 _ (by omega)]; exact gb0
  have his0 := his0.keep hbx0.1
  have hix0 := hix0.keep hbx0.1
  have m3 : h3.next = h2.next + 1 := by simp [q_h3]
  have gx0 : h3.get h2.next = .cells [px0, qx0] true true 1 := by simp [q_h3]
  try simp (disch := first | omega | (simp; done) | fail) [wrap64c, if_pos, if_neg, gb0, cz0, ntpx0, cspx0, ntqx0, csqx0, gx0]
  refine callG_c (by simp) (by simp) ?ha (implRuns_ok h3 _ L A hix0.chips) ?_
  (case ha => simp (disch := first | omega | (simp; done) | fail) [wrap64c, if_pos, if_neg, gb0, cz0, ntpx0, cspx0, ntqx0, csqx0, gx0])
  try simp (disch := first | omega | (simp; done) | fail) [wrap64c, if_pos, if_neg, gb0, cz0, ntpx0, cspx0, ntqx0, csqx0, gx0]
  refine WD_drawC 3 rfl (by kernel_rfl) ?_
  try simp (disch := first | omega | (simp; done) | fail) [wrap64c, if_pos, if_neg, gb0, cz0, ntpx0, cspx0, ntqx0, csqx0, gx0]
  obtain ⟨ty0, h4, hcy0, hay0, hiy0⟩ := toChips_ok h3 _ L A (hv0.keep K3) l1L l2L l3L
  refine callP_c (by simp) (by simp) ?ha (hcy0) ?hadd ?_
  (case ha => simp (disch := first | omega | (simp; done) | fail) [wrap64c, if_pos, if_neg, gb0, cz0, ntpx0, cspx0, ntqx0, csqx0, gx0])
  (case hadd => first | assumption | exact adds_self _ | (simp; done))
  have n4 := hay0.1.1
  have K4 := K3.trans hay0.1
  have gb0 : h4.get h.next = .cells [a, b] true true 1 := by rw [hay0.1.2 _ (by omega)]; exact gb0
  have gx0 : h4.get h2.next = .cells [px0, qx0] true true 1 := by rw [hay0.1.2 _ (by omega)]; exact gx0
  have his0 := his0.keep hay0.1
  have hix0 := hix0.keep hay0.1
  try simp (disch := first | omega | (simp; done) | fail) [wrap64c, if_pos, if_neg, gb0, cz0, ntpx0, cspx0, ntqx0, csqx0, gx0]
  refine callG_c (by simp) (by simp) ?ha (eqChips_ok h4 _ _ _ _ _ _ hix0.chips hiy0.chips) ?_
  (case ha => simp (disch := first | omega | (simp; done) | fail) [wrap64c, if_pos, if_neg, gb0, cz0, ntpx0, cspx0, ntqx0, csqx0, gx0])
  try simp (disch := first | omega | (simp; done) | fail) [wrap64c, if_pos, if_neg, gb0, cz0, ntpx0, cspx0, ntqx0, csqx0, gx0]
  exact done_ret rfl (by simp [K4])
end Go.Proofs.Ytnjabaeajjhliaa
