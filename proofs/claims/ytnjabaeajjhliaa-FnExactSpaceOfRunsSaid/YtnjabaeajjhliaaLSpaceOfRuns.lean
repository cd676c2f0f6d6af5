/- The law on SpaceOfRuns. -/
import Derived.Test.YtnjabaeajjhliaaT48
namespace Go.Proofs.Ytnjabaeajjhliaa
set_option linter.unusedSimpArgs false
set_option linter.unusedVariables false
set_option maxHeartbeats 4000000
open Go Go.Eng
attribute [local irreducible] WD RunD PreD Runs CallOK

theorem lawSpaceOfRuns_ok (h : Hp) (v : Value) (L : List (List Int)) (A : List Int) (hv : Chips h v L A) : CallOK Try.prog 14 #[v] h (.bool true) h := by
  refine callY_P 133 _ [.tmp 2] Try.func14 rfl rfl rfl (by first | rfl | simp) ?_
  have hv0 := hv
  obtain ⟨a, b, rfl, hLL, hAA⟩ := hv
  refine WD_first ?_
  try simp (disch := first | omega | (simp; done) | fail) [wrap64c, if_pos, if_neg]
  refine stopK_heap fun h0 q_h0 => ?_
  refine stopK_go ?_
  have k0 : Adds h h0 := by rw [q_h0]; exact (by first | exact aK | exact kK)
  have K0 := k0.1
  have n0 : h0.next = h.next + 1 := by simp [q_h0]
  have gb0 : h0.get h.next = .cells [a, b] true true 1 := by simp [q_h0]
  try simp (disch := first | omega | (simp; done) | fail) [wrap64c, if_pos, if_neg, gb0]
  refine callG_c (by simp) (by simp) ?ha (szChips_ok h0 _ L A (1048576) (hv0.keep K0) (by omega) (by omega)) ?_
  (case ha => simp (disch := first | omega | (simp; done) | fail) [wrap64c, if_pos, if_neg, gb0])
  by_cases cz0 : szC (1048576) L A < 0
  case pos =>
    try simp (disch := first | omega | (simp; done) | fail) [wrap64c, if_pos, if_neg, gb0, cz0]
    exact done_ret rfl (by simp [K0])
  have lz0 := szC_len (by omega) cz0
  have l1L : L.length < 2 ^ 40 := by omega
  have l2L : ∀ x ∈ L, x.length < 2 ^ 40 := fun x hx => by have := mem_le_tot hx; omega
  have l3L : A.length < 2 ^ 40 := by omega
  try simp (disch := first | omega | (simp; done) | fail) [wrap64c, if_pos, if_neg, gb0, cz0]
  have lb := rs_len L A
  obtain ⟨ts0, h1, hcs0, has0, his0⟩ := toChips_ok h0 _ L A (hv0.keep K0) l1L l2L l3L
  refine callG_c (by simp) (by simp) ?ha (hcs0) ?_
  (case ha => simp (disch := first | omega | (simp; done) | fail) [wrap64c, if_pos, if_neg, gb0, cz0])
  have n1 := has0.1.1
  have K1 := K0.trans has0.1
  have gb0 : h1.get h.next = .cells [a, b] true true 1 := by rw [has0.1.2 _ (by omega)]; exact gb0
  try simp (disch := first | omega | (simp; done) | fail) [wrap64c, if_pos, if_neg, gb0, cz0]
  obtain ⟨_, h2, hcw, haw, uw0, uw1, rfl, cw, hlow, hhiw, huw0, huw1⟩ := specRS_ok h1 _ L A his0.chips
  have huw0' := huw0
  obtain ⟨qw0, rfl, hqw0⟩ := huw0'
  have ntqw0 := hqw0.nt
  have csqw0 := hqw0.cs
  refine callG_c (by simp) (by simp) ?ha (hcw) ?_
  (case ha => simp (disch := first | omega | (simp; done) | fail) [wrap64c, if_pos, if_neg, gb0, cz0, ntqw0, csqw0])
  have n2 := haw.1.1
  have K2 := K1.trans haw.1
  have gb0 : h2.get h.next = .cells [a, b] true true 1 := by rw [haw.1.2 _ (by omega)]; exact gb0
  have his0 := his0.keep haw.1
  try simp (disch := first | omega | (simp; done) | fail) [wrap64c, if_pos, if_neg, gb0, cz0, ntqw0, csqw0, putCells]
  first | refine WY_heap fun h3 q_h3 => ?_ | refine callG_heap fun h3 q_h3 => ?_ | refine callP_heap fun h3 q_h3 => ?_ | refine RY_heap fun h3 q_h3 => ?_ | refine PY_heap fun h3 q_h3 => ?_ | refine doneY_heap fun h3 q_h3 => ?_ | refine loopK_heap fun h3 q_h3 => ?_ | refine thenY_heap fun h3 q_h3 => ?_ | refine thenM_heap fun h3 q_h3 => ?_
  have hbw0 : Adds h2 h3 := by rw [q_h3]; exact (by first | exact aK | exact kK)
  have n3 := hbw0.1.1
  have K3 := K2.trans hbw0.1
  have gb0 : h3.get h.next = .cells [a, b] true true 1 := by rw [hbw0.1.2 _ (by omega)]; exact gb0
  have his0 := his0.keep hbw0.1
  have huw0 := huw0.keep hbw0.1
  have huw1 := huw1.keep hbw0.1
  have m3 : h3.next = h2.next + 1 := by simp [q_h3]
  have gw0 : h3.get h2.next = .cells [.int .i64 (rsN L A), qw0] true true 1 := by simp [q_h3]
  try simp (disch := first | omega | (simp; done) | fail) [wrap64c, if_pos, if_neg, gb0, cz0, ntqw0, csqw0, gw0]
  obtain ⟨tx0, h4, hcx0, hax0, hix0⟩ := toChips_ok h3 _ L A (hv0.keep K3) l1L l2L l3L
  have hix0' := hix0
  obtain ⟨px0, qx0, Sx0, Tx0, rfl, hpx0, hqx0, s1x0, s2x0, s3x0⟩ := hix0'
  have ntpx0 := hpx0.nt
  have cspx0 := hpx0.cs
  have ntqx0 := hqx0.nt
  have csqx0 := hqx0.cs
  refine callG_c (by simp) (by simp) ?ha (hcx0) ?_
  (case ha => simp (disch := first | omega | (simp; done) | fail) [wrap64c, if_pos, if_neg, gb0, cz0, ntqw0, csqw0, gw0, ntpx0, cspx0, ntqx0, csqx0])
  have n4 := hax0.1.1
  have K4 := K3.trans hax0.1
  have gb0 : h4.get h.next = .cells [a, b] true true 1 := by rw [hax0.1.2 _ (by omega)]; exact gb0
  have gw0 : h4.get h2.next = .cells [.int .i64 (rsN L A), qw0] true true 1 := by rw [hax0.1.2 _ (by omega)]; exact gw0
  have his0 := his0.keep hax0.1
  have huw0 := huw0.keep hax0.1
  have huw1 := huw1.keep hax0.1
  try simp (disch := first | omega | (simp; done) | fail) [wrap64c, if_pos, if_neg, gb0, cz0, ntqw0, csqw0, gw0, ntpx0, cspx0, ntqx0, csqx0, putCells]
  first | refine WY_heap fun h5 q_h5 => ?_ | refine callG_heap fun h5 q_h5 => ?_ | refine callP_heap fun h5 q_h5 => ?_ | refine RY_heap fun h5 q_h5 => ?_ | refine PY_heap fun h5 q_h5 => ?_ | refine doneY_heap fun h5 q_h5 => ?_ | refine loopK_heap fun h5 q_h5 => ?_ | refine thenY_heap fun h5 q_h5 => ?_ | refine thenM_heap fun h5 q_h5 => ?_
  have hbx0 : Adds h4 h5 := by rw [q_h5]; exact (by first | exact aK | exact kK)
  have n5 := hbx0.1.1
  have K5 := K4.trans hbx0.1
  have gb0 : h5.get h.next = .cells [a, b] true true 1 := by rw [hbx0.1.2 _ (by omega)]; exact gb0
  have gw0 : h5.get h2.next = .cells [.int .i64 (rsN L A), qw0] true true 1 := by rw [hbx0.1.2 _ (by omega)]; exact gw0
  have his0 := his0.keep hbx0.1
  have huw0 := huw0.keep hbx0.1
  have huw1 := huw1.keep hbx0.1
  have hix0 := hix0.keep hbx0.1
  have m5 : h5.next = h4.next + 1 := by simp [q_h5]
  have gx0 : h5.get h4.next = .cells [px0, qx0] true true 1 := by simp [q_h5]
  try simp (disch := first | omega | (simp; done) | fail) [wrap64c, if_pos, if_neg, gb0, cz0, ntqw0, csqw0, gw0, ntpx0, cspx0, ntqx0, csqx0, gx0]
  obtain ⟨_, h6, hcg, hag, ug0, ug1, rfl, cg, hlog, hhig, hug0, hug1⟩ := implRS_ok h5 _ L A hix0.chips
  have hug0' := hug0
  obtain ⟨qg0, rfl, hqg0⟩ := hug0'
  have ntqg0 := hqg0.nt
  have csqg0 := hqg0.cs
  refine callG_c (by simp) (by simp) ?ha (hcg) ?_
  (case ha => simp (disch := first | omega | (simp; done) | fail) [wrap64c, if_pos, if_neg, gb0, cz0, ntqw0, csqw0, gw0, ntpx0, cspx0, ntqx0, csqx0, gx0, ntqg0, csqg0])
  have n6 := hag.1.1
  have K6 := K5.trans hag.1
  have gb0 : h6.get h.next = .cells [a, b] true true 1 := by rw [hag.1.2 _ (by omega)]; exact gb0
  have gw0 : h6.get h2.next = .cells [.int .i64 (rsN L A), qw0] true true 1 := by rw [hag.1.2 _ (by omega)]; exact gw0
  have gx0 : h6.get h4.next = .cells [px0, qx0] true true 1 := by rw [hag.1.2 _ (by omega)]; exact gx0
  have his0 := his0.keep hag.1
  have huw0 := huw0.keep hag.1
  have huw1 := huw1.keep hag.1
  have hix0 := hix0.keep hag.1
  try simp (disch := first | omega | (simp; done) | fail) [wrap64c, if_pos, if_neg, gb0, cz0, ntqw0, csqw0, gw0, ntpx0, cspx0, ntqx0, csqx0, gx0, ntqg0, csqg0, putCells]
  first | refine WY_heap fun h7 q_h7 => ?_ | refine callG_heap fun h7 q_h7 => ?_ | refine callP_heap fun h7 q_h7 => ?_ | refine RY_heap fun h7 q_h7 => ?_ | refine PY_heap fun h7 q_h7 => ?_ | refine doneY_heap fun h7 q_h7 => ?_ | refine loopK_heap fun h7 q_h7 => ?_ | refine thenY_heap fun h7 q_h7 => ?_ | refine thenM_heap fun h7 q_h7 => ?_
  have hbg0 : Adds h6 h7 := by rw [q_h7]; exact (by first | exact aK | exact kK)
  have n7 := hbg0.1.1
  have K7 := K6.trans hbg0.1
  have gb0 : h7.get h.next = .cells [a, b] true true 1 := by rw [hbg0.1.2 _ (by omega)]; exact gb0
  have gw0 : h7.get h2.next = .cells [.int .i64 (rsN L A), qw0] true true 1 := by rw [hbg0.1.2 _ (by omega)]; exact gw0
  have gx0 : h7.get h4.next = .cells [px0, qx0] true true 1 := by rw [hbg0.1.2 _ (by omega)]; exact gx0
  have his0 := his0.keep hbg0.1
  have huw0 := huw0.keep hbg0.1
  have huw1 := huw1.keep hbg0.1
  have hix0 := hix0.keep hbg0.1
  have hug0 := hug0.keep hbg0.1
  have hug1 := hug1.keep hbg0.1
  have m7 : h7.next = h6.next + 1 := by simp [q_h7]
  have gg0 : h7.get h6.next = .cells [.int .i64 (rsN L A), qg0] true true 1 := by simp [q_h7]
  try simp (disch := first | omega | (simp; done) | fail) [wrap64c, if_pos, if_neg, gb0, cz0, ntqw0, csqw0, gw0, ntpx0, cspx0, ntqx0, csqx0, gx0, ntqg0, csqg0, gg0]
  refine callG_c (by simp) (by simp) ?ha (eqSpace_ok h7 _ _ _ _ _ _ (hug0.space) (huw0.space)) ?_
  (case ha => simp (disch := first | omega | (simp; done) | fail) [wrap64c, if_pos, if_neg, gb0, cz0, ntqw0, csqw0, gw0, ntpx0, cspx0, ntqx0, csqx0, gx0, ntqg0, csqg0, gg0])
  try simp (disch := first | omega | (simp; done) | fail) [wrap64c, if_pos, if_neg, gb0, cz0, ntqw0, csqw0, gw0, ntpx0, cspx0, ntqx0, csqx0, gx0, ntqg0, csqg0, gg0]
  refine callG_c (by simp) (by simp) ?ha (eqIntS_ok h7 _ _ _ _ (hug1.ints) (huw1.ints)) ?_
  (case ha => simp (disch := first | omega | (simp; done) | fail) [wrap64c, if_pos, if_neg, gb0, cz0, ntqw0, csqw0, gw0, ntpx0, cspx0, ntqx0, csqx0, gx0, ntqg0, csqg0, gg0])
  try simp (disch := first | omega | (simp; done) | fail) [wrap64c, if_pos, if_neg, gb0, cz0, ntqw0, csqw0, gw0, ntpx0, cspx0, ntqx0, csqx0, gx0, ntqg0, csqg0, gg0]
  refine WD_drawC 3 rfl (by kernel_rfl) ?_
  try simp (disch := first | omega | (simp; done) | fail) [wrap64c, if_pos, if_neg, gb0, cz0, ntqw0, csqw0, gw0, ntpx0, cspx0, ntqx0, csqx0, gx0, ntqg0, csqg0, gg0]
  obtain ⟨ty0, h8, hcy0, hay0, hiy0⟩ := toChips_ok h7 _ L A (hv0.keep K7) l1L l2L l3L
  refine callP_c (by simp) (by simp) ?ha (hcy0) ?hadd ?_
  (case ha => simp (disch := first | omega | (simp; done) | fail) [wrap64c, if_pos, if_neg, gb0, cz0, ntqw0, csqw0, gw0, ntpx0, cspx0, ntqx0, csqx0, gx0, ntqg0, csqg0, gg0])
  (case hadd => first | assumption | exact adds_self _ | (simp; done))
  have n8 := hay0.1.1
  have K8 := K7.trans hay0.1
  have gb0 : h8.get h.next = .cells [a, b] true true 1 := by rw [hay0.1.2 _ (by omega)]; exact gb0
  have gw0 : h8.get h2.next = .cells [.int .i64 (rsN L A), qw0] true true 1 := by rw [hay0.1.2 _ (by omega)]; exact gw0
  have gx0 : h8.get h4.next = .cells [px0, qx0] true true 1 := by rw [hay0.1.2 _ (by omega)]; exact gx0
  have gg0 : h8.get h6.next = .cells [.int .i64 (rsN L A), qg0] true true 1 := by rw [hay0.1.2 _ (by omega)]; exact gg0
  have his0 := his0.keep hay0.1
  have huw0 := huw0.keep hay0.1
  have huw1 := huw1.keep hay0.1
  have hix0 := hix0.keep hay0.1
  have hug0 := hug0.keep hay0.1
  have hug1 := hug1.keep hay0.1
  try simp (disch := first | omega | (simp; done) | fail) [wrap64c, if_pos, if_neg, gb0, cz0, ntqw0, csqw0, gw0, ntpx0, cspx0, ntqx0, csqx0, gx0, ntqg0, csqg0, gg0]
  refine callG_c (by simp) (by simp) ?ha (eqChips_ok h8 _ _ _ _ _ _ hix0.chips hiy0.chips) ?_
  (case ha => simp (disch := first | omega | (simp; done) | fail) [wrap64c, if_pos, if_neg, gb0, cz0, ntqw0, csqw0, gw0, ntpx0, cspx0, ntqx0, csqx0, gx0, ntqg0, csqg0, gg0])
  try simp (disch := first | omega | (simp; done) | fail) [wrap64c, if_pos, if_neg, gb0, cz0, ntqw0, csqw0, gw0, ntpx0, cspx0, ntqx0, csqx0, gx0, ntqg0, csqg0, gg0]
  obtain ⟨_, h9, hcm0, rfl, hum0, him0⟩ := markChips_ok (Btw h3.next h4.next) h8 _ L A (1) hix0 (by omega) (by omega) (by omega) (by omega) (by omega)
  refine callG_c (by simp) (by simp) ?ha (hcm0) ?_
  (case ha => simp (disch := first | omega | (simp; done) | fail) [wrap64c, if_pos, if_neg, gb0, cz0, ntqw0, csqw0, gw0, ntpx0, cspx0, ntqx0, csqx0, gx0, ntqg0, csqg0, gg0])
  have n9 := hum0.1
  have K9 := hum0.keeps K8 fun o ho => by have := ho.1; omega
  have gb0 : h9.get h.next = .cells [a, b] true true 1 := by rw [hum0.2 _ (by omega) (by unfold Btw; omega)]; exact gb0
  have gw0 : h9.get h2.next = .cells [.int .i64 (rsN L A), qw0] true true 1 := by rw [hum0.2 _ (by omega) (by unfold Btw; omega)]; exact gw0
  have gx0 : h9.get h4.next = .cells [px0, qx0] true true 1 := by rw [hum0.2 _ (by omega) (by unfold Btw; omega)]; exact gx0
  have gg0 : h9.get h6.next = .cells [.int .i64 (rsN L A), qg0] true true 1 := by rw [hum0.2 _ (by omega) (by unfold Btw; omega)]; exact gg0
  have his0 := his0.same (hum0.same fun x hx hx' => by unfold Btw at hx hx'; omega)
  have huw0 := huw0.same (hum0.same fun x hx hx' => by unfold Btw at hx hx'; omega)
  have huw1 := huw1.same (hum0.same fun x hx hx' => by unfold Btw at hx hx'; omega)
  have hug0 := hug0.same (hum0.same fun x hx hx' => by unfold Btw at hx hx'; omega)
  have hug1 := hug1.same (hum0.same fun x hx hx' => by unfold Btw at hx hx'; omega)
  try simp (disch := first | omega | (simp; done) | fail) [wrap64c, if_pos, if_neg, gb0, cz0, ntqw0, csqw0, gw0, ntpx0, cspx0, ntqx0, csqx0, gx0, ntqg0, csqg0, gg0]
  have pk : ¬ (1 + tot L + (A.length : Int) : Int) < 0 := by omega
  try simp (disch := first | omega | (simp; done) | fail) [wrap64c, if_pos, if_neg, gb0, cz0, ntqw0, csqw0, gw0, ntpx0, cspx0, ntqx0, csqx0, gx0, ntqg0, csqg0, gg0, pk]
  refine callG_c (by simp) (by simp) ?ha (eqSpace_ok h9 _ _ _ _ _ _ (hug0.space) (huw0.space)) ?_
  (case ha => simp (disch := first | omega | (simp; done) | fail) [wrap64c, if_pos, if_neg, gb0, cz0, ntqw0, csqw0, gw0, ntpx0, cspx0, ntqx0, csqx0, gx0, ntqg0, csqg0, gg0, pk])
  try simp (disch := first | omega | (simp; done) | fail) [wrap64c, if_pos, if_neg, gb0, cz0, ntqw0, csqw0, gw0, ntpx0, cspx0, ntqx0, csqx0, gx0, ntqg0, csqg0, gg0, pk]
  refine callG_c (by simp) (by simp) ?ha (eqIntS_ok h9 _ _ _ _ (hug1.ints) (huw1.ints)) ?_
  (case ha => simp (disch := first | omega | (simp; done) | fail) [wrap64c, if_pos, if_neg, gb0, cz0, ntqw0, csqw0, gw0, ntpx0, cspx0, ntqx0, csqx0, gx0, ntqg0, csqg0, gg0, pk])
  try simp (disch := first | omega | (simp; done) | fail) [wrap64c, if_pos, if_neg, gb0, cz0, ntqw0, csqw0, gw0, ntpx0, cspx0, ntqx0, csqx0, gx0, ntqg0, csqg0, gg0, pk]
  obtain ⟨_, h10, hcr0, rfl, hur0, hir0⟩ := markSpace_ok (Btw cg h6.next) h9 _ (rsN L A) (rsX L A) (1) hug0 (by omega) (by omega) (by omega)
  refine callG_c (by simp) (by simp) ?ha (hcr0) ?_
  (case ha => simp (disch := first | omega | (simp; done) | fail) [wrap64c, if_pos, if_neg, gb0, cz0, ntqw0, csqw0, gw0, ntpx0, cspx0, ntqx0, csqx0, gx0, ntqg0, csqg0, gg0, pk])
  have n10 := hur0.1
  have K10 := hur0.keeps K9 fun o ho => by have := ho.1; omega
  have gb0 : h10.get h.next = .cells [a, b] true true 1 := by rw [hur0.2 _ (by omega) (by unfold Btw; omega)]; exact gb0
  have gw0 : h10.get h2.next = .cells [.int .i64 (rsN L A), qw0] true true 1 := by rw [hur0.2 _ (by omega) (by unfold Btw; omega)]; exact gw0
  have gx0 : h10.get h4.next = .cells [px0, qx0] true true 1 := by rw [hur0.2 _ (by omega) (by unfold Btw; omega)]; exact gx0
  have gg0 : h10.get h6.next = .cells [.int .i64 (rsN L A), qg0] true true 1 := by rw [hur0.2 _ (by omega) (by unfold Btw; omega)]; exact gg0
  have his0 := his0.same (hur0.same fun x hx hx' => by unfold Btw at hx hx'; omega)
  have huw0 := huw0.same (hur0.same fun x hx hx' => by unfold Btw at hx hx'; omega)
  have huw1 := huw1.same (hur0.same fun x hx hx' => by unfold Btw at hx hx'; omega)
  have hug1 := hug1.same (hur0.same fun x hx hx' => by unfold Btw at hx hx'; omega)
  try simp (disch := first | omega | (simp; done) | fail) [wrap64c, if_pos, if_neg, gb0, cz0, ntqw0, csqw0, gw0, ntpx0, cspx0, ntqx0, csqx0, gx0, ntqg0, csqg0, gg0, pk]
  obtain ⟨_, h11, hcr1, rfl, hnr1, hur1, hir1⟩ := markIntS_ok (Btw h5.next cg) h10 _ (rsP L A) (1 + ((rsX L A).length : Int)) hug1 (by omega) (by omega) (by omega)
  refine callG_c (by simp) (by simp) ?ha (hcr1) ?_
  (case ha => simp (disch := first | omega | (simp; done) | fail) [wrap64c, if_pos, if_neg, gb0, cz0, ntqw0, csqw0, gw0, ntpx0, cspx0, ntqx0, csqx0, gx0, ntqg0, csqg0, gg0, pk])
  have n11 := hur1.1
  have K11 := hur1.keeps K10 fun o ho => by have := ho.1; omega
  have gb0 : h11.get h.next = .cells [a, b] true true 1 := by rw [hur1.2 _ (by omega) (by unfold Btw; omega)]; exact gb0
  have gw0 : h11.get h2.next = .cells [.int .i64 (rsN L A), qw0] true true 1 := by rw [hur1.2 _ (by omega) (by unfold Btw; omega)]; exact gw0
  have gx0 : h11.get h4.next = .cells [px0, qx0] true true 1 := by rw [hur1.2 _ (by omega) (by unfold Btw; omega)]; exact gx0
  have gg0 : h11.get h6.next = .cells [.int .i64 (rsN L A), qg0] true true 1 := by rw [hur1.2 _ (by omega) (by unfold Btw; omega)]; exact gg0
  have his0 := his0.same (hur1.same fun x hx hx' => by unfold Btw at hx hx'; omega)
  have huw0 := huw0.same (hur1.same fun x hx hx' => by unfold Btw at hx hx'; omega)
  have huw1 := huw1.same (hur1.same fun x hx hx' => by unfold Btw at hx hx'; omega)
  have hir0 := hir0.same (hur1.same fun x hx hx' => by unfold Btw at hx hx'; omega)
  try simp (disch := first | omega | (simp; done) | fail) [wrap64c, if_pos, if_neg, gb0, cz0, ntqw0, csqw0, gw0, ntpx0, cspx0, ntqx0, csqx0, gx0, ntqg0, csqg0, gg0, pk]
  refine callG_c (by simp) (by simp) ?ha (heldSpace_ok h11 _ (rsN L A) (rsX L A).length (1) hir0.space (by omega) (by omega) (by omega)) ?_
  (case ha => simp (disch := first | omega | (simp; done) | fail) [wrap64c, if_pos, if_neg, gb0, cz0, ntqw0, csqw0, gw0, ntpx0, cspx0, ntqx0, csqx0, gx0, ntqg0, csqg0, gg0, pk])
  have zz11 : ¬ (1 + ((rsX L A).length : Int) : Int) < 0 := by omega
  try simp (disch := first | omega | (simp; done) | fail) [wrap64c, if_pos, if_neg, gb0, cz0, ntqw0, csqw0, gw0, ntpx0, cspx0, ntqx0, csqx0, gx0, ntqg0, csqg0, gg0, pk, zz11]
  refine callG_c (by simp) (by simp) ?ha (heldIntS_ok h11 _ _ (1 + ((rsX L A).length : Int)) hir1.ints (by omega) (by omega) (by omega)) ?_
  (case ha => simp (disch := first | omega | (simp; done) | fail) [wrap64c, if_pos, if_neg, gb0, cz0, ntqw0, csqw0, gw0, ntpx0, cspx0, ntqx0, csqx0, gx0, ntqg0, csqg0, gg0, pk])
  have zz11 : ¬ (1 + ((rsX L A).length : Int) + ((rsP L A).length : Int) : Int) < 0 := by omega
  try simp (disch := first | omega | (simp; done) | fail) [wrap64c, if_pos, if_neg, gb0, cz0, ntqw0, csqw0, gw0, ntpx0, cspx0, ntqx0, csqx0, gx0, ntqg0, csqg0, gg0, pk, zz11]
  obtain ⟨tz0, h12, hcz0, haz0, hiz0⟩ := toChips_ok h11 _ L A (hv0.keep K11) l1L l2L l3L
  refine callG_c (by simp) (by simp) ?ha (hcz0) ?_
  (case ha => simp (disch := first | omega | (simp; done) | fail) [wrap64c, if_pos, if_neg, gb0, cz0, ntqw0, csqw0, gw0, ntpx0, cspx0, ntqx0, csqx0, gx0, ntqg0, csqg0, gg0, pk])
  have n12 := haz0.1.1
  have K12 := K11.trans haz0.1
  have gb0 : h12.get h.next = .cells [a, b] true true 1 := by rw [haz0.1.2 _ (by omega)]; exact gb0
  have gw0 : h12.get h2.next = .cells [.int .i64 (rsN L A), qw0] true true 1 := by rw [haz0.1.2 _ (by omega)]; exact gw0
  have gx0 : h12.get h4.next = .cells [px0, qx0] true true 1 := by rw [haz0.1.2 _ (by omega)]; exact gx0
  have gg0 : h12.get h6.next = .cells [.int .i64 (rsN L A), qg0] true true 1 := by rw [haz0.1.2 _ (by omega)]; exact gg0
  have his0 := his0.keep haz0.1
  have huw0 := huw0.keep haz0.1
  have huw1 := huw1.keep haz0.1
  have hir0 := hir0.keep haz0.1
  have hir1 := hir1.keep haz0.1
  try simp (disch := first | omega | (simp; done) | fail) [wrap64c, if_pos, if_neg, gb0, cz0, ntqw0, csqw0, gw0, ntpx0, cspx0, ntqx0, csqx0, gx0, ntqg0, csqg0, gg0, pk]
  obtain ⟨_, h13, hcq, haq, uq0, uq1, rfl, cq, hloq, hhiq, huq0, huq1⟩ := implRS_ok h12 _ L A hiz0.chips
  have huq0' := huq0
  obtain ⟨qq0, rfl, hqq0⟩ := huq0'
  have ntqq0 := hqq0.nt
  have csqq0 := hqq0.cs
  refine callG_c (by simp) (by simp) ?ha (hcq) ?_
  (case ha => simp (disch := first | omega | (simp; done) | fail) [wrap64c, if_pos, if_neg, gb0, cz0, ntqw0, csqw0, gw0, ntpx0, cspx0, ntqx0, csqx0, gx0, ntqg0, csqg0, gg0, pk, ntqq0, csqq0])
  have n13 := haq.1.1
  have K13 := K12.trans haq.1
  have gb0 : h13.get h.next = .cells [a, b] true true 1 := by rw [haq.1.2 _ (by omega)]; exact gb0
  have gw0 : h13.get h2.next = .cells [.int .i64 (rsN L A), qw0] true true 1 := by rw [haq.1.2 _ (by omega)]; exact gw0
  have gx0 : h13.get h4.next = .cells [px0, qx0] true true 1 := by rw [haq.1.2 _ (by omega)]; exact gx0
  have gg0 : h13.get h6.next = .cells [.int .i64 (rsN L A), qg0] true true 1 := by rw [haq.1.2 _ (by omega)]; exact gg0
  have his0 := his0.keep haq.1
  have huw0 := huw0.keep haq.1
  have huw1 := huw1.keep haq.1
  have hir0 := hir0.keep haq.1
  have hir1 := hir1.keep haq.1
  have hiz0 := hiz0.keep haq.1
  try simp (disch := first | omega | (simp; done) | fail) [wrap64c, if_pos, if_neg, gb0, cz0, ntqw0, csqw0, gw0, ntpx0, cspx0, ntqx0, csqx0, gx0, ntqg0, csqg0, gg0, pk, ntqq0, csqq0, putCells]
  first | refine WY_heap fun h14 q_h14 => ?_ | refine callG_heap fun h14 q_h14 => ?_ | refine callP_heap fun h14 q_h14 => ?_ | refine RY_heap fun h14 q_h14 => ?_ | refine PY_heap fun h14 q_h14 => ?_ | refine doneY_heap fun h14 q_h14 => ?_ | refine loopK_heap fun h14 q_h14 => ?_ | refine thenY_heap fun h14 q_h14 => ?_ | refine thenM_heap fun h14 q_h14 => ?_
  have hbq0 : Adds h13 h14 := by rw [q_h14]; exact (by first | exact aK | exact kK)
  have n14 := hbq0.1.1
  have K14 := K13.trans hbq0.1
  have gb0 : h14.get h.next = .cells [a, b] true true 1 := by rw [hbq0.1.2 _ (by omega)]; exact gb0
  have gw0 : h14.get h2.next = .cells [.int .i64 (rsN L A), qw0] true true 1 := by rw [hbq0.1.2 _ (by omega)]; exact gw0
  have gx0 : h14.get h4.next = .cells [px0, qx0] true true 1 := by rw [hbq0.1.2 _ (by omega)]; exact gx0
  have gg0 : h14.get h6.next = .cells [.int .i64 (rsN L A), qg0] true true 1 := by rw [hbq0.1.2 _ (by omega)]; exact gg0
  have his0 := his0.keep hbq0.1
  have huw0 := huw0.keep hbq0.1
  have huw1 := huw1.keep hbq0.1
  have hir0 := hir0.keep hbq0.1
  have hir1 := hir1.keep hbq0.1
  have hiz0 := hiz0.keep hbq0.1
  have huq0 := huq0.keep hbq0.1
  have huq1 := huq1.keep hbq0.1
  have m14 : h14.next = h13.next + 1 := by simp [q_h14]
  have gq0 : h14.get h13.next = .cells [.int .i64 (rsN L A), qq0] true true 1 := by simp [q_h14]
  try simp (disch := first | omega | (simp; done) | fail) [wrap64c, if_pos, if_neg, gb0, cz0, ntqw0, csqw0, gw0, ntpx0, cspx0, ntqx0, csqx0, gx0, ntqg0, csqg0, gg0, pk, ntqq0, csqq0, gq0]
  refine callG_c (by simp) (by simp) ?ha (eqSpace_ok h14 _ _ _ _ _ _ (huq0.space) (huw0.space)) ?_
  (case ha => simp (disch := first | omega | (simp; done) | fail) [wrap64c, if_pos, if_neg, gb0, cz0, ntqw0, csqw0, gw0, ntpx0, cspx0, ntqx0, csqx0, gx0, ntqg0, csqg0, gg0, pk, ntqq0, csqq0, gq0])
  try simp (disch := first | omega | (simp; done) | fail) [wrap64c, if_pos, if_neg, gb0, cz0, ntqw0, csqw0, gw0, ntpx0, cspx0, ntqx0, csqx0, gx0, ntqg0, csqg0, gg0, pk, ntqq0, csqq0, gq0]
  refine callG_c (by simp) (by simp) ?ha (eqIntS_ok h14 _ _ _ _ (huq1.ints) (huw1.ints)) ?_
  (case ha => simp (disch := first | omega | (simp; done) | fail) [wrap64c, if_pos, if_neg, gb0, cz0, ntqw0, csqw0, gw0, ntpx0, cspx0, ntqx0, csqx0, gx0, ntqg0, csqg0, gg0, pk, ntqq0, csqq0, gq0])
  try simp (disch := first | omega | (simp; done) | fail) [wrap64c, if_pos, if_neg, gb0, cz0, ntqw0, csqw0, gw0, ntpx0, cspx0, ntqx0, csqx0, gx0, ntqg0, csqg0, gg0, pk, ntqq0, csqq0, gq0]
  refine callG_c (by simp) (by simp) ?ha (heldSpace_ok h14 _ (rsN L A) (rsX L A).length (1) hir0.space (by omega) (by omega) (by omega)) ?_
  (case ha => simp (disch := first | omega | (simp; done) | fail) [wrap64c, if_pos, if_neg, gb0, cz0, ntqw0, csqw0, gw0, ntpx0, cspx0, ntqx0, csqx0, gx0, ntqg0, csqg0, gg0, pk, ntqq0, csqq0, gq0])
  have zz14 : ¬ (1 + ((rsX L A).length : Int) : Int) < 0 := by omega
  try simp (disch := first | omega | (simp; done) | fail) [wrap64c, if_pos, if_neg, gb0, cz0, ntqw0, csqw0, gw0, ntpx0, cspx0, ntqx0, csqx0, gx0, ntqg0, csqg0, gg0, pk, ntqq0, csqq0, gq0, zz14]
  refine callG_c (by simp) (by simp) ?ha (heldIntS_ok h14 _ _ (1 + ((rsX L A).length : Int)) hir1.ints (by omega) (by omega) (by omega)) ?_
  (case ha => simp (disch := first | omega | (simp; done) | fail) [wrap64c, if_pos, if_neg, gb0, cz0, ntqw0, csqw0, gw0, ntpx0, cspx0, ntqx0, csqx0, gx0, ntqg0, csqg0, gg0, pk, ntqq0, csqq0, gq0])
  have zz14 : ¬ (1 + ((rsX L A).length : Int) + ((rsP L A).length : Int) : Int) < 0 := by omega
  try simp (disch := first | omega | (simp; done) | fail) [wrap64c, if_pos, if_neg, gb0, cz0, ntqw0, csqw0, gw0, ntpx0, cspx0, ntqx0, csqx0, gx0, ntqg0, csqg0, gg0, pk, ntqq0, csqq0, gq0, zz14]
  exact done_ret rfl (by simp [K14])
end Go.Proofs.Ytnjabaeajjhliaa
