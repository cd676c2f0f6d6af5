/- The law on RankSpace. -/
import Derived.Test.YtnjabaeajjhliaaT20
namespace Go.Proofs.Ytnjabaeajjhliaa
set_option linter.unusedSimpArgs false
set_option linter.unusedVariables false
set_option maxHeartbeats 4000000
open Go Go.Eng
attribute [local irreducible] WD RunD PreD Runs CallOK

theorem lawRankSpace_ok (h : Hp) (v : Value) (N : Int) (X : List Int) (hv : Space h v N X) : CallOK Try.prog 6 #[v] h (.bool true) h := by
  refine callY_P 40 _ [.tmp 2] Try.func6 rfl rfl rfl (by first | rfl | simp) ?_
  have hv0 := hv
  obtain ⟨b, rfl, hXX⟩ := hv
  refine WD_first ?_
  try simp (disch := first | omega | (simp; done) | fail) [wrap64c, if_pos, if_neg]
  refine stopK_heap fun h0 q_h0 => ?_
  refine stopK_go ?_
  have k0 : Adds h h0 := by rw [q_h0]; exact (by first | exact aK | exact kK)
  have K0 := k0.1
  have n0 : h0.next = h.next + 1 := by simp [q_h0]
  have gb0 : h0.get h.next = .cells [.int .i64 N, b] true true 1 := by simp [q_h0]
  try simp (disch := first | omega | (simp; done) | fail) [wrap64c, if_pos, if_neg, gb0]
  refine callG_c (by simp) (by simp) ?ha (szSpace_ok h0 _ N X (1048576) (hv0.keep K0) (by omega) (by omega)) ?_
  (case ha => simp (disch := first | omega | (simp; done) | fail) [wrap64c, if_pos, if_neg, gb0])
  by_cases cz0 : szS (1048576) X < 0
  case pos =>
    try simp (disch := first | omega | (simp; done) | fail) [wrap64c, if_pos, if_neg, gb0, cz0]
    exact done_ret rfl (by simp [K0])
  have lz0 := szS_len cz0
  have l1X : X.length < 2 ^ 40 := by omega
  try simp (disch := first | omega | (simp; done) | fail) [wrap64c, if_pos, if_neg, gb0, cz0]
  obtain ⟨ts0, h1, hcs0, has0, his0⟩ := toSpace_ok h0 _ N X (hv0.keep K0) l1X
  refine callG_c (by simp) (by simp) ?ha (hcs0) ?_
  (case ha => simp (disch := first | omega | (simp; done) | fail) [wrap64c, if_pos, if_neg, gb0, cz0])
  have n1 := has0.1.1
  have K1 := K0.trans has0.1
  have gb0 : h1.get h.next = .cells [.int .i64 N, b] true true 1 := by rw [has0.1.2 _ (by omega)]; exact gb0
  try simp (disch := first | omega | (simp; done) | fail) [wrap64c, if_pos, if_neg, gb0, cz0]
  refine callG_c (by simp) (by simp) ?ha (specRank_ok h1 _ N X his0.space l1X) ?_
  (case ha => simp (disch := first | omega | (simp; done) | fail) [wrap64c, if_pos, if_neg, gb0, cz0])
  try simp (disch := first | omega | (simp; done) | fail) [wrap64c, if_pos, if_neg, gb0, cz0]
  obtain ⟨tx0, h2, hcx0, hax0, hix0⟩ := toSpace_ok h1 _ N X (hv0.keep K1) l1X
  have hix0' := hix0
  obtain ⟨qx0, rfl, hqx0⟩ := hix0'
  have ntqx0 := hqx0.nt
  have csqx0 := hqx0.cs
  refine callG_c (by simp) (by simp) ?ha (hcx0) ?_
  (case ha => simp (disch := first | omega | (simp; done) | fail) [wrap64c, if_pos, if_neg, gb0, cz0, ntqx0, csqx0])
  have n2 := hax0.1.1
  have K2 := K1.trans hax0.1
  have gb0 : h2.get h.next = .cells [.int .i64 N, b] true true 1 := by rw [hax0.1.2 _ (by omega)]; exact gb0
  have his0 := his0.keep hax0.1
  try simp (disch := first | omega | (simp; done) | fail) [wrap64c, if_pos, if_neg, gb0, cz0, ntqx0, csqx0, putCells]
  first | refine WY_heap fun h3 q_h3 => ?_ | refine callG_heap fun h3 q_h3 => ?_ | refine callP_heap fun h3 q_h3 => ?_ | refine RY_heap fun h3 q_h3 => ?_ | refine PY_heap fun h3 q_h3 => ?_ | refine doneY_heap fun h3 q_h3 => ?_ | refine loopK_heap fun h3 q_h3 => ?_ | refine thenY_heap fun h3 q_h3 => ?_ | refine thenM_heap fun h3 q_h3 => ?_
  have hbx0 : Adds h2 h3 := by rw [q_h3]; exact (by first | exact aK | exact kK)
  have n3 := hbx0.1.1
  have K3 := K2.trans hbx0.1
  have gb0 : h3.get h.next = .cells [.int .i64 N, b] true true 1 := by rw [hbx0.1.2 _ (by omega)]; exact gb0
  have his0 := his0.keep hbx0.1
  have hix0 := hix0.keep hbx0.1
  have m3 : h3.next = h2.next + 1 := by simp [q_h3]
  have gx0 : h3.get h2.next = .cells [.int .i64 (N), qx0] true true 1 := by simp [q_h3]
  try simp (disch := first | omega | (simp; done) | fail) [wrap64c, if_pos, if_neg, gb0, cz0, ntqx0, csqx0, gx0]
  refine callG_c (by simp) (by simp) ?ha (implRank_ok h3 _ N X hix0.space l1X) ?_
  (case ha => simp (disch := first | omega | (simp; done) | fail) [wrap64c, if_pos, if_neg, gb0, cz0, ntqx0, csqx0, gx0])
  try simp (disch := first | omega | (simp; done) | fail) [wrap64c, if_pos, if_neg, gb0, cz0, ntqx0, csqx0, gx0]
  refine WD_drawC 3 rfl (by kernel_rfl) ?_
  try simp (disch := first | omega | (simp; done) | fail) [wrap64c, if_pos, if_neg, gb0, cz0, ntqx0, csqx0, gx0]
  obtain ⟨ty0, h4, hcy0, hay0, hiy0⟩ := toSpace_ok h3 _ N X (hv0.keep K3) l1X
  refine callP_c (by simp) (by simp) ?ha (hcy0) ?hadd ?_
  (case ha => simp (disch := first | omega | (simp; done) | fail) [wrap64c, if_pos, if_neg, gb0, cz0, ntqx0, csqx0, gx0])
  (case hadd => first | assumption | exact adds_self _ | (simp; done))
  have n4 := hay0.1.1
  have K4 := K3.trans hay0.1
  have gb0 : h4.get h.next = .cells [.int .i64 N, b] true true 1 := by rw [hay0.1.2 _ (by omega)]; exact gb0
  have gx0 : h4.get h2.next = .cells [.int .i64 (N), qx0] true true 1 := by rw [hay0.1.2 _ (by omega)]; exact gx0
  have his0 := his0.keep hay0.1
  have hix0 := hix0.keep hay0.1
  try simp (disch := first | omega | (simp; done) | fail) [wrap64c, if_pos, if_neg, gb0, cz0, ntqx0, csqx0, gx0]
  refine callG_c (by simp) (by simp) ?ha (eqSpace_ok h4 _ _ _ _ _ _ hix0.space hiy0.space) ?_
  (case ha => simp (disch := first | omega | (simp; done) | fail) [wrap64c, if_pos, if_neg, gb0, cz0, ntqx0, csqx0, gx0])
  try simp (disch := first | omega | (simp; done) | fail) [wrap64c, if_pos, if_neg, gb0, cz0, ntqx0, csqx0, gx0]
  exact done_ret rfl (by simp [K4])
end Go.Proofs.Ytnjabaeajjhliaa
