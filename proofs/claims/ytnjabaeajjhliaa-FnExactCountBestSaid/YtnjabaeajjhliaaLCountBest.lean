/- The law on CountBest. -/
import Derived.Test.YtnjabaeajjhliaaT27
namespace Go.Proofs.Ytnjabaeajjhliaa
set_option linter.unusedSimpArgs false
set_option linter.unusedVariables false
set_option maxHeartbeats 4000000
open Go Go.Eng
attribute [local irreducible] WD RunD PreD Runs CallOK

theorem lawCountBest_ok (h : Hp) (v : Value) (N : Int) (X : List Int) (hv : Space h v N X) (tk : Value) (J : List Job) (htk : Jobs h tk J) : CallOK Try.prog 11 #[v, tk] h (.bool true) h := by
  refine callY_P 58 _ [.tmp 4] Try.func11 rfl rfl rfl (by first | rfl | simp) ?_
  have hv0 := hv
  have htk0 := htk
  obtain ⟨b, rfl, hXX⟩ := hv
  refine WD_first ?_
  try simp (disch := first | omega | (simp; done) | fail) [wrap64c, if_pos, if_neg]
  refine stopK_heap fun h0 q_h0 => ?_
  refine stopK_go ?_
  have k0 : Adds h h0 := by rw [q_h0]; exact (by first | exact aK | exact kK)
  have K0 := k0.1
  have n0 : h0.next = h.next + 1 := by simp [q_h0]
  have gb0 : h0.get h.next = .cells [.int .i64 N, b] true true 1 := by simp [q_h0]
  try simp (disch := first | omega | (simp; done) | fail) [wrap64c, if_pos, if_neg, gb0]
  refine callG_c (by simp) (by simp) ?ha (szSpace_ok h0 _ N X (1048576) (hv0.keep K0) (by omega) (by omega)) ?_
  (case ha => simp (disch := first | omega | (simp; done) | fail) [wrap64c, if_pos, if_neg, gb0])
  by_cases cz0 : szS (1048576) X < 0
  case pos =>
    try simp (disch := first | omega | (simp; done) | fail) [wrap64c, if_pos, if_neg, gb0, cz0]
    exact done_ret rfl (by simp [K0])
  have lz0 := szS_len cz0
  have l1X : X.length < 2 ^ 40 := by omega
  try simp (disch := first | omega | (simp; done) | fail) [wrap64c, if_pos, if_neg, gb0, cz0]
  refine callG_c (by simp) (by simp) ?ha (szTaskS_ok h0 _ J (szS (1048576) X) (htk0.keep K0) (by omega) (by omega)) ?_
  (case ha => simp (disch := first | omega | (simp; done) | fail) [wrap64c, if_pos, if_neg, gb0, cz0])
  by_cases ct1 : szJ (szS (1048576) X) J < 0
  case pos =>
    try simp (disch := first | omega | (simp; done) | fail) [wrap64c, if_pos, if_neg, gb0, cz0, ct1]
    exact done_ret rfl (by simp [K0])
  have lt1 := szJ_len ct1
  have l1J : J.length < 2 ^ 40 := by omega
  try simp (disch := first | omega | (simp; done) | fail) [wrap64c, if_pos, if_neg, gb0, cz0, ct1]
  obtain ⟨ts0, h1, hcs0, has0, his0⟩ := toSpace_ok h0 _ N X (hv0.keep K0) l1X
  refine callG_c (by simp) (by simp) ?ha (hcs0) ?_
  (case ha => simp (disch := first | omega | (simp; done) | fail) [wrap64c, if_pos, if_neg, gb0, cz0, ct1])
  have n1 := has0.1.1
  have K1 := K0.trans has0.1
  have gb0 : h1.get h.next = .cells [.int .i64 N, b] true true 1 := by rw [has0.1.2 _ (by omega)]; exact gb0
  try simp (disch := first | omega | (simp; done) | fail) [wrap64c, if_pos, if_neg, gb0, cz0, ct1]
  obtain ⟨ts1, h2, hcs1, has1, his1⟩ := toTaskS_ok h1 _ J (htk0.keep K1) l1J
  refine callG_c (by simp) (by simp) ?ha (hcs1) ?_
  (case ha => simp (disch := first | omega | (simp; done) | fail) [wrap64c, if_pos, if_neg, gb0, cz0, ct1])
  have n2 := has1.1.1
  have K2 := K1.trans has1.1
  have gb0 : h2.get h.next = .cells [.int .i64 N, b] true true 1 := by rw [has1.1.2 _ (by omega)]; exact gb0
  have his0 := his0.keep has1.1
  try simp (disch := first | omega | (simp; done) | fail) [wrap64c, if_pos, if_neg, gb0, cz0, ct1]
  refine callG_c (by simp) (by simp) ?ha (specCount_ok h2 _ _ N X J his0.space his1 l1X) ?_
  (case ha => simp (disch := first | omega | (simp; done) | fail) [wrap64c, if_pos, if_neg, gb0, cz0, ct1])
  try simp (disch := first | omega | (simp; done) | fail) [wrap64c, if_pos, if_neg, gb0, cz0, ct1]
  obtain ⟨tx0, h3, hcx0, hax0, hix0⟩ := toSpace_ok h2 _ N X (hv0.keep K2) l1X
  have hix0' := hix0
  obtain ⟨qx0, rfl, hqx0⟩ := hix0'
  have ntqx0 := hqx0.nt
  have csqx0 := hqx0.cs
  refine callG_c (by simp) (by simp) ?ha (hcx0) ?_
  (case ha => simp (disch := first | omega | (simp; done) | fail) [wrap64c, if_pos, if_neg, gb0, cz0, ct1, ntqx0, csqx0])
  have n3 := hax0.1.1
  have K3 := K2.trans hax0.1
  have gb0 : h3.get h.next = .cells [.int .i64 N, b] true true 1 := by rw [hax0.1.2 _ (by omega)]; exact gb0
  have his0 := his0.keep hax0.1
  have his1 := his1.keep hax0.1
  try simp (disch := first | omega | (simp; done) | fail) [wrap64c, if_pos, if_neg, gb0, cz0, ct1, ntqx0, csqx0, putCells]
  first | refine WY_heap fun h4 q_h4 => ?_ | refine callG_heap fun h4 q_h4 => ?_ | refine callP_heap fun h4 q_h4 => ?_ | refine RY_heap fun h4 q_h4 => ?_ | refine PY_heap fun h4 q_h4 => ?_ | refine doneY_heap fun h4 q_h4 => ?_ | refine loopK_heap fun h4 q_h4 => ?_ | refine thenY_heap fun h4 q_h4 => ?_ | refine thenM_heap fun h4 q_h4 => ?_
  have hbx0 : Adds h3 h4 := by rw [q_h4]; exact (by first | exact aK | exact kK)
  have n4 := hbx0.1.1
  have K4 := K3.trans hbx0.1
  have gb0 : h4.get h.next = .cells [.int .i64 N, b] true true 1 := by rw [hbx0.1.2 _ (by omega)]; exact gb0
  have his0 := his0.keep hbx0.1
  have his1 := his1.keep hbx0.1
  have hix0 := hix0.keep hbx0.1
  have m4 : h4.next = h3.next + 1 := by simp [q_h4]
  have gx0 : h4.get h3.next = .cells [.int .i64 (N), qx0] true true 1 := by simp [q_h4]
  try simp (disch := first | omega | (simp; done) | fail) [wrap64c, if_pos, if_neg, gb0, cz0, ct1, ntqx0, csqx0, gx0]
  obtain ⟨tx1, h5, hcx1, hax1, hix1⟩ := toTaskS_ok h4 _ J (htk0.keep K4) l1J
  refine callG_c (by simp) (by simp) ?ha (hcx1) ?_
  (case ha => simp (disch := first | omega | (simp; done) | fail) [wrap64c, if_pos, if_neg, gb0, cz0, ct1, ntqx0, csqx0, gx0])
  have n5 := hax1.1.1
  have K5 := K4.trans hax1.1
  have gb0 : h5.get h.next = .cells [.int .i64 N, b] true true 1 := by rw [hax1.1.2 _ (by omega)]; exact gb0
  have gx0 : h5.get h3.next = .cells [.int .i64 (N), qx0] true true 1 := by rw [hax1.1.2 _ (by omega)]; exact gx0
  have his0 := his0.keep hax1.1
  have his1 := his1.keep hax1.1
  have hix0 := hix0.keep hax1.1
  try simp (disch := first | omega | (simp; done) | fail) [wrap64c, if_pos, if_neg, gb0, cz0, ct1, ntqx0, csqx0, gx0]
  refine callG_c (by simp) (by simp) ?ha (implCount_ok h5 _ _ N X J hix0.space hix1 l1X) ?_
  (case ha => simp (disch := first | omega | (simp; done) | fail) [wrap64c, if_pos, if_neg, gb0, cz0, ct1, ntqx0, csqx0, gx0])
  try simp (disch := first | omega | (simp; done) | fail) [wrap64c, if_pos, if_neg, gb0, cz0, ct1, ntqx0, csqx0, gx0]
  refine WD_drawC 3 rfl (by kernel_rfl) ?_
  try simp (disch := first | omega | (simp; done) | fail) [wrap64c, if_pos, if_neg, gb0, cz0, ct1, ntqx0, csqx0, gx0]
  obtain ⟨ty0, h6, hcy0, hay0, hiy0⟩ := toSpace_ok h5 _ N X (hv0.keep K5) l1X
  refine callP_c (by simp) (by simp) ?ha (hcy0) ?hadd ?_
  (case ha => simp (disch := first | omega | (simp; done) | fail) [wrap64c, if_pos, if_neg, gb0, cz0, ct1, ntqx0, csqx0, gx0])
  (case hadd => first | assumption | exact adds_self _ | (simp; done))
  have n6 := hay0.1.1
  have K6 := K5.trans hay0.1
  have gb0 : h6.get h.next = .cells [.int .i64 N, b] true true 1 := by rw [hay0.1.2 _ (by omega)]; exact gb0
  have gx0 : h6.get h3.next = .cells [.int .i64 (N), qx0] true true 1 := by rw [hay0.1.2 _ (by omega)]; exact gx0
  have his0 := his0.keep hay0.1
  have his1 := his1.keep hay0.1
  have hix0 := hix0.keep hay0.1
  have hix1 := hix1.keep hay0.1
  try simp (disch := first | omega | (simp; done) | fail) [wrap64c, if_pos, if_neg, gb0, cz0, ct1, ntqx0, csqx0, gx0]
  refine callG_c (by simp) (by simp) ?ha (eqSpace_ok h6 _ _ _ _ _ _ hix0.space hiy0.space) ?_
  (case ha => simp (disch := first | omega | (simp; done) | fail) [wrap64c, if_pos, if_neg, gb0, cz0, ct1, ntqx0, csqx0, gx0])
  try simp (disch := first | omega | (simp; done) | fail) [wrap64c, if_pos, if_neg, gb0, cz0, ct1, ntqx0, csqx0, gx0]
  obtain ⟨ty1, h7, hcy1, hay1, hiy1⟩ := toTaskS_ok h6 _ J (htk0.keep K6) l1J
  refine callG_c (by simp) (by simp) ?ha (hcy1) ?_
  (case ha => simp (disch := first | omega | (simp; done) | fail) [wrap64c, if_pos, if_neg, gb0, cz0, ct1, ntqx0, csqx0, gx0])
  have n7 := hay1.1.1
  have K7 := K6.trans hay1.1
  have gb0 : h7.get h.next = .cells [.int .i64 N, b] true true 1 := by rw [hay1.1.2 _ (by omega)]; exact gb0
  have gx0 : h7.get h3.next = .cells [.int .i64 (N), qx0] true true 1 := by rw [hay1.1.2 _ (by omega)]; exact gx0
  have his0 := his0.keep hay1.1
  have his1 := his1.keep hay1.1
  have hix0 := hix0.keep hay1.1
  have hix1 := hix1.keep hay1.1
  try simp (disch := first | omega | (simp; done) | fail) [wrap64c, if_pos, if_neg, gb0, cz0, ct1, ntqx0, csqx0, gx0]
  refine callG_c (by simp) (by simp) ?ha (eqTaskS_ok h7 _ _ _ _ hix1 hiy1) ?_
  (case ha => simp (disch := first | omega | (simp; done) | fail) [wrap64c, if_pos, if_neg, gb0, cz0, ct1, ntqx0, csqx0, gx0])
  try simp (disch := first | omega | (simp; done) | fail) [wrap64c, if_pos, if_neg, gb0, cz0, ct1, ntqx0, csqx0, gx0, eqJ_self]
  try simp (disch := first | omega | (simp; done) | fail) [wrap64c, if_pos, if_neg, gb0, cz0, ct1, ntqx0, csqx0, gx0]
  exact done_ret rfl (by simp [K7])
end Go.Proofs.Ytnjabaeajjhliaa
