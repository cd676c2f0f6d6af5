/- The law on SpaceAt. -/
import Derived.Test.YtnjabaeajjhliaaT21
namespace Go.Proofs.Ytnjabaeajjhliaa
set_option linter.unusedSimpArgs false
set_option linter.unusedVariables false
set_option maxHeartbeats 4000000
open Go Go.Eng
attribute [local irreducible] WD RunD PreD Runs CallOK

theorem lawSpaceAt_ok (h : Hp) (i : Int) (i2 : Int) : CallOK Try.prog 5 #[.int .i64 i, .int .i64 i2] h (.bool true) h := by
  refine callY_P 68 _ [.tmp 4] Try.func5 rfl rfl rfl (by first | rfl | simp) ?_
  refine WD_first ?_
  try simp (disch := first | omega | (simp; done) | fail) [wrap64c, if_pos, if_neg]
  refine stopK_heap fun h0 q_h0 => ?_
  refine stopK_go ?_
  have k0 : Adds h h0 := by rw [q_h0]; exact (by first | exact aK | exact kK)
  have K0 := k0.1
  have n0 : h0.next = h.next + 0 := by simp [q_h0]
  try simp (disch := first | omega | (simp; done) | fail) [wrap64c, if_pos, if_neg]
  have lb := atX_len i i2
  obtain ⟨_, h1, hcw, haw, uw0, rfl, huw0⟩ := specAt_ok h0 i i2
  have huw0' := huw0
  obtain ⟨qw0, rfl, hqw0⟩ := huw0'
  have ntqw0 := hqw0.nt
  have csqw0 := hqw0.cs
  refine callG_c (by simp) (by simp) ?ha (hcw) ?_
  (case ha => simp (disch := first | omega | (simp; done) | fail) [wrap64c, if_pos, if_neg, ntqw0, csqw0])
  have n1 := haw.1.1
  have K1 := K0.trans haw.1
  try simp (disch := first | omega | (simp; done) | fail) [wrap64c, if_pos, if_neg, ntqw0, csqw0, putCells]
  first | refine WY_heap fun h2 q_h2 => ?_ | refine callG_heap fun h2 q_h2 => ?_ | refine callP_heap fun h2 q_h2 => ?_ | refine RY_heap fun h2 q_h2 => ?_ | refine PY_heap fun h2 q_h2 => ?_ | refine doneY_heap fun h2 q_h2 => ?_ | refine loopK_heap fun h2 q_h2 => ?_ | refine thenY_heap fun h2 q_h2 => ?_ | refine thenM_heap fun h2 q_h2 => ?_
  have hbw0 : Adds h1 h2 := by rw [q_h2]; exact (by first | exact aK | exact kK)
  have n2 := hbw0.1.1
  have K2 := K1.trans hbw0.1
  have huw0 := huw0.keep hbw0.1
  have m2 : h2.next = h1.next + 1 := by simp [q_h2]
  have gw0 : h2.get h1.next = .cells [.int .i64 (atN i i2), qw0] true true 1 := by simp [q_h2]
  try simp (disch := first | omega | (simp; done) | fail) [wrap64c, if_pos, if_neg, ntqw0, csqw0, gw0]
  obtain ⟨_, h3, hcg, hag, ug0, rfl, hug0⟩ := implAt_ok h2 i i2
  have hug0' := hug0
  obtain ⟨qg0, rfl, hqg0⟩ := hug0'
  have ntqg0 := hqg0.nt
  have csqg0 := hqg0.cs
  refine callG_c (by simp) (by simp) ?ha (hcg) ?_
  (case ha => simp (disch := first | omega | (simp; done) | fail) [wrap64c, if_pos, if_neg, ntqw0, csqw0, gw0, ntqg0, csqg0])
  have n3 := hag.1.1
  have K3 := K2.trans hag.1
  have gw0 : h3.get h1.next = .cells [.int .i64 (atN i i2), qw0] true true 1 := by rw [hag.1.2 _ (by omega)]; exact gw0
  have huw0 := huw0.keep hag.1
  try simp (disch := first | omega | (simp; done) | fail) [wrap64c, if_pos, if_neg, ntqw0, csqw0, gw0, ntqg0, csqg0, putCells]
  first | refine WY_heap fun h4 q_h4 => ?_ | refine callG_heap fun h4 q_h4 => ?_ | refine callP_heap fun h4 q_h4 => ?_ | refine RY_heap fun h4 q_h4 => ?_ | refine PY_heap fun h4 q_h4 => ?_ | refine doneY_heap fun h4 q_h4 => ?_ | refine loopK_heap fun h4 q_h4 => ?_ | refine thenY_heap fun h4 q_h4 => ?_ | refine thenM_heap fun h4 q_h4 => ?_
  have hbg0 : Adds h3 h4 := by rw [q_h4]; exact (by first | exact aK | exact kK)
  have n4 := hbg0.1.1
  have K4 := K3.trans hbg0.1
  have gw0 : h4.get h1.next = .cells [.int .i64 (atN i i2), qw0] true true 1 := by rw [hbg0.1.2 _ (by omega)]; exact gw0
  have huw0 := huw0.keep hbg0.1
  have hug0 := hug0.keep hbg0.1
  have m4 : h4.next = h3.next + 1 := by simp [q_h4]
  have gg0 : h4.get h3.next = .cells [.int .i64 (atN i i2), qg0] true true 1 := by simp [q_h4]
  try simp (disch := first | omega | (simp; done) | fail) [wrap64c, if_pos, if_neg, ntqw0, csqw0, gw0, ntqg0, csqg0, gg0]
  refine callG_c (by simp) (by simp) ?ha (eqSpace_ok h4 _ _ _ _ _ _ (hug0.space) (huw0.space)) ?_
  (case ha => simp (disch := first | omega | (simp; done) | fail) [wrap64c, if_pos, if_neg, ntqw0, csqw0, gw0, ntqg0, csqg0, gg0])
  try simp (disch := first | omega | (simp; done) | fail) [wrap64c, if_pos, if_neg, ntqw0, csqw0, gw0, ntqg0, csqg0, gg0]
  obtain ⟨_, h5, hcr0, rfl, hur0, hir0⟩ := markSpace_ok (Btw h2.next h3.next) h4 _ (atN i i2) (atX i i2) (1) hug0 (by omega) (by omega) (by omega)
  refine callG_c (by simp) (by simp) ?ha (hcr0) ?_
  (case ha => simp (disch := first | omega | (simp; done) | fail) [wrap64c, if_pos, if_neg, ntqw0, csqw0, gw0, ntqg0, csqg0, gg0])
  have n5 := hur0.1
  have K5 := hur0.keeps K4 fun o ho => by have := ho.1; omega
  have gw0 : h5.get h1.next = .cells [.int .i64 (atN i i2), qw0] true true 1 := by rw [hur0.2 _ (by omega) (by unfold Btw; omega)]; exact gw0
  have gg0 : h5.get h3.next = .cells [.int .i64 (atN i i2), qg0] true true 1 := by rw [hur0.2 _ (by omega) (by unfold Btw; omega)]; exact gg0
  have huw0 := huw0.same (hur0.same fun x hx hx' => by unfold Btw at hx hx'; omega)
  try simp (disch := first | omega | (simp; done) | fail) [wrap64c, if_pos, if_neg, ntqw0, csqw0, gw0, ntqg0, csqg0, gg0]
  refine callG_c (by simp) (by simp) ?ha (heldSpace_ok h5 _ (atN i i2) (atX i i2).length (1) hir0.space (by omega) (by omega) (by omega)) ?_
  (case ha => simp (disch := first | omega | (simp; done) | fail) [wrap64c, if_pos, if_neg, ntqw0, csqw0, gw0, ntqg0, csqg0, gg0])
  have zz5 : ¬ (1 + ((atX i i2).length : Int) : Int) < 0 := by omega
  try simp (disch := first | omega | (simp; done) | fail) [wrap64c, if_pos, if_neg, ntqw0, csqw0, gw0, ntqg0, csqg0, gg0, zz5]
  obtain ⟨_, h6, hcq, haq, uq0, rfl, huq0⟩ := implAt_ok h5 i i2
  have huq0' := huq0
  obtain ⟨qq0, rfl, hqq0⟩ := huq0'
  have ntqq0 := hqq0.nt
  have csqq0 := hqq0.cs
  refine callG_c (by simp) (by simp) ?ha (hcq) ?_
  (case ha => simp (disch := first | omega | (simp; done) | fail) [wrap64c, if_pos, if_neg, ntqw0, csqw0, gw0, ntqg0, csqg0, gg0, ntqq0, csqq0])
  have n6 := haq.1.1
  have K6 := K5.trans haq.1
  have gw0 : h6.get h1.next = .cells [.int .i64 (atN i i2), qw0] true true 1 := by rw [haq.1.2 _ (by omega)]; exact gw0
  have gg0 : h6.get h3.next = .cells [.int .i64 (atN i i2), qg0] true true 1 := by rw [haq.1.2 _ (by omega)]; exact gg0
  have huw0 := huw0.keep haq.1
  have hir0 := hir0.keep haq.1
  try simp (disch := first | omega | (simp; done) | fail) [wrap64c, if_pos, if_neg, ntqw0, csqw0, gw0, ntqg0, csqg0, gg0, ntqq0, csqq0, putCells]
  first | refine WY_heap fun h7 q_h7 => ?_ | refine callG_heap fun h7 q_h7 => ?_ | refine callP_heap fun h7 q_h7 => ?_ | refine RY_heap fun h7 q_h7 => ?_ | refine PY_heap fun h7 q_h7 => ?_ | refine doneY_heap fun h7 q_h7 => ?_ | refine loopK_heap fun h7 q_h7 => ?_ | refine thenY_heap fun h7 q_h7 => ?_ | refine thenM_heap fun h7 q_h7 => ?_
  have hbq0 : Adds h6 h7 := by rw [q_h7]; exact (by first | exact aK | exact kK)
  have n7 := hbq0.1.1
  have K7 := K6.trans hbq0.1
  have gw0 : h7.get h1.next = .cells [.int .i64 (atN i i2), qw0] true true 1 := by rw [hbq0.1.2 _ (by omega)]; exact gw0
  have gg0 : h7.get h3.next = .cells [.int .i64 (atN i i2), qg0] true true 1 := by rw [hbq0.1.2 _ (by omega)]; exact gg0
  have huw0 := huw0.keep hbq0.1
  have hir0 := hir0.keep hbq0.1
  have huq0 := huq0.keep hbq0.1
  have m7 : h7.next = h6.next + 1 := by simp [q_h7]
  have gq0 : h7.get h6.next = .cells [.int .i64 (atN i i2), qq0] true true 1 := by simp [q_h7]
  try simp (disch := first | omega | (simp; done) | fail) [wrap64c, if_pos, if_neg, ntqw0, csqw0, gw0, ntqg0, csqg0, gg0, ntqq0, csqq0, gq0]
  refine callG_c (by simp) (by simp) ?ha (eqSpace_ok h7 _ _ _ _ _ _ (huq0.space) (huw0.space)) ?_
  (case ha => simp (disch := first | omega | (simp; done) | fail) [wrap64c, if_pos, if_neg, ntqw0, csqw0, gw0, ntqg0, csqg0, gg0, ntqq0, csqq0, gq0])
  try simp (disch := first | omega | (simp; done) | fail) [wrap64c, if_pos, if_neg, ntqw0, csqw0, gw0, ntqg0, csqg0, gg0, ntqq0, csqq0, gq0]
  refine callG_c (by simp) (by simp) ?ha (heldSpace_ok h7 _ (atN i i2) (atX i i2).length (1) hir0.space (by omega) (by omega) (by omega)) ?_
  (case ha => simp (disch := first | omega | (simp; done) | fail) [wrap64c, if_pos, if_neg, ntqw0, csqw0, gw0, ntqg0, csqg0, gg0, ntqq0, csqq0, gq0])
  have zz7 : ¬ (1 + ((atX i i2).length : Int) : Int) < 0 := by omega
  try simp (disch := first | omega | (simp; done) | fail) [wrap64c, if_pos, if_neg, ntqw0, csqw0, gw0, ntqg0, csqg0, gg0, ntqq0, csqq0, gq0, zz7]
  exact done_ret rfl (by simp [K7])
end Go.Proofs.Ytnjabaeajjhliaa
