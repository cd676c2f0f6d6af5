/- The law on LateWord. -/
import Derived.Test.YtnjabaeajjhliaaT34
namespace Go.Proofs.Ytnjabaeajjhliaa
set_option linter.unusedSimpArgs false
set_option linter.unusedVariables false
set_option maxHeartbeats 4000000
open Go Go.Eng
attribute [local irreducible] WD RunD PreD Runs CallOK

theorem lawLateWord_ok (h : Hp) (i : Int) (rw : Value) (W : List (List Int)) (hrw : IRows h rw W) (w : Value) (ms : List Int) (hw : Ints h w ms) (w2 : Value) (ms2 : List Int) (hw2 : Ints h w2 ms2) : CallOK Try.prog 12 #[.int .i64 i, rw, w, w2] h (.bool true) h := by
  refine callY_P 143 _ [.tmp 8] Try.func12 rfl rfl rfl (by first | rfl | simp) ?_
  have hrw0 := hrw
  have hw0 := hw
  have hw20 := hw2
  have lwms := hw.lenD
  have lxms := hw.len
  have lwms2 := hw2.lenD
  have lxms2 := hw2.len
  refine WD_first ?_
  try simp (disch := first | omega | (simp; done) | fail) [wrap64c, if_pos, if_neg, lwms, lwms2]
  refine stopK_heap fun h0 q_h0 => ?_
  refine stopK_go ?_
  have k0 : Adds h h0 := by rw [q_h0]; exact (by first | exact aK | exact kK)
  have K0 := k0.1
  have n0 : h0.next = h.next + 0 := by simp [q_h0]
  by_cases clms : ms.length ≤ 1048576
  case neg =>
    try simp (disch := first | omega | (simp; done) | fail) [wrap64c, if_pos, if_neg, lwms, lwms2, clms]
    exact done_ret rfl (by simp [K0])
  have l1ms : ms.length < 2 ^ 40 := by omega
  by_cases clms2 : ms2.length ≤ 1048576
  case neg =>
    try simp (disch := first | omega | (simp; done) | fail) [wrap64c, if_pos, if_neg, lwms, lwms2, clms, clms2]
    exact done_ret rfl (by simp [K0])
  have l1ms2 : ms2.length < 2 ^ 40 := by omega
  try simp (disch := first | omega | (simp; done) | fail) [wrap64c, if_pos, if_neg, lwms, lwms2, clms, clms2]
  refine callG_c (by simp) (by simp) ?ha (szIntSS_ok h0 _ W (1048576) (hrw0.keep K0) (by omega) (by omega)) ?_
  (case ha => simp (disch := first | omega | (simp; done) | fail) [wrap64c, if_pos, if_neg, lwms, lwms2, clms, clms2])
  by_cases cr1 : szSS (1048576) W < 0
  case pos =>
    try simp (disch := first | omega | (simp; done) | fail) [wrap64c, if_pos, if_neg, lwms, lwms2, clms, clms2, cr1]
    exact done_ret rfl (by simp [K0])
  have lr1 := szSS_tot cr1
  have l1W : W.length < 2 ^ 40 := by omega
  have l2W : ∀ x ∈ W, x.length < 2 ^ 40 := fun x hx => by have := mem_le_tot hx; omega
  try simp (disch := first | omega | (simp; done) | fail) [wrap64c, if_pos, if_neg, lwms, lwms2, clms, clms2, cr1]
  have lb := lateR_len i W ms ms2
  obtain ⟨ts1, h1, hcs1, has1, his1⟩ := toIntSS_ok h0 _ W (hrw0.keep K0) l1W l2W
  refine callG_c (by simp) (by simp) ?ha (hcs1) ?_
  (case ha => simp (disch := first | omega | (simp; done) | fail) [wrap64c, if_pos, if_neg, lwms, lwms2, clms, clms2, cr1])
  have n1 := has1.1.1
  have K1 := K0.trans has1.1
  try simp (disch := first | omega | (simp; done) | fail) [wrap64c, if_pos, if_neg, lwms, lwms2, clms, clms2, cr1]
  obtain ⟨ts2, h2, hcs2, has2, his2⟩ := toIntS_ok h1 w ms (hw0.keep K1) l1ms
  refine callG_c (by simp) (by simp) ?ha (hcs2) ?_
  (case ha => simp (disch := first | omega | (simp; done) | fail) [wrap64c, if_pos, if_neg, lwms, lwms2, clms, clms2, cr1])
  have n2 := has2.1.1
  have K2 := K1.trans has2.1
  have his1 := his1.keep has2.1
  try simp (disch := first | omega | (simp; done) | fail) [wrap64c, if_pos, if_neg, lwms, lwms2, clms, clms2, cr1]
  obtain ⟨ts3, h3, hcs3, has3, his3⟩ := toIntS_ok h2 w2 ms2 (hw20.keep K2) l1ms2
  refine callG_c (by simp) (by simp) ?ha (hcs3) ?_
  (case ha => simp (disch := first | omega | (simp; done) | fail) [wrap64c, if_pos, if_neg, lwms, lwms2, clms, clms2, cr1])
  have n3 := has3.1.1
  have K3 := K2.trans has3.1
  have his1 := his1.keep has3.1
  have his2 := his2.keep has3.1
  try simp (disch := first | omega | (simp; done) | fail) [wrap64c, if_pos, if_neg, lwms, lwms2, clms, clms2, cr1]
  obtain ⟨_, h4, hcw, haw, uw0, rfl, huw0⟩ := specLate_ok h3 _ _ _ W i ms ms2 his1.rows his2.ints his3.ints
  refine callG_c (by simp) (by simp) ?ha (hcw) ?_
  (case ha => simp (disch := first | omega | (simp; done) | fail) [wrap64c, if_pos, if_neg, lwms, lwms2, clms, clms2, cr1])
  have n4 := haw.1.1
  have K4 := K3.trans haw.1
  have his1 := his1.keep haw.1
  have his2 := his2.keep haw.1
  have his3 := his3.keep haw.1
  try simp (disch := first | omega | (simp; done) | fail) [wrap64c, if_pos, if_neg, lwms, lwms2, clms, clms2, cr1]
  obtain ⟨tx1, h5, hcx1, hax1, hix1⟩ := toIntSS_ok h4 _ W (hrw0.keep K4) l1W l2W
  refine callG_c (by simp) (by simp) ?ha (hcx1) ?_
  (case ha => simp (disch := first | omega | (simp; done) | fail) [wrap64c, if_pos, if_neg, lwms, lwms2, clms, clms2, cr1])
  have n5 := hax1.1.1
  have K5 := K4.trans hax1.1
  have his1 := his1.keep hax1.1
  have his2 := his2.keep hax1.1
  have his3 := his3.keep hax1.1
  have huw0 := huw0.keep hax1.1
  try simp (disch := first | omega | (simp; done) | fail) [wrap64c, if_pos, if_neg, lwms, lwms2, clms, clms2, cr1]
  obtain ⟨tx2, h6, hcx2, hax2, hix2⟩ := toIntS_ok h5 w ms (hw0.keep K5) l1ms
  refine callG_c (by simp) (by simp) ?ha (hcx2) ?_
  (case ha => simp (disch := first | omega | (simp; done) | fail) [wrap64c, if_pos, if_neg, lwms, lwms2, clms, clms2, cr1])
  have n6 := hax2.1.1
  have K6 := K5.trans hax2.1
  have his1 := his1.keep hax2.1
  have his2 := his2.keep hax2.1
  have his3 := his3.keep hax2.1
  have huw0 := huw0.keep hax2.1
  have hix1 := hix1.keep hax2.1
  try simp (disch := first | omega | (simp; done) | fail) [wrap64c, if_pos, if_neg, lwms, lwms2, clms, clms2, cr1]
  obtain ⟨tx3, h7, hcx3, hax3, hix3⟩ := toIntS_ok h6 w2 ms2 (hw20.keep K6) l1ms2
  refine callG_c (by simp) (by simp) ?ha (hcx3) ?_
  (case ha => simp (disch := first | omega | (simp; done) | fail) [wrap64c, if_pos, if_neg, lwms, lwms2, clms, clms2, cr1])
  have n7 := hax3.1.1
  have K7 := K6.trans hax3.1
  have his1 := his1.keep hax3.1
  have his2 := his2.keep hax3.1
  have his3 := his3.keep hax3.1
  have huw0 := huw0.keep hax3.1
  have hix1 := hix1.keep hax3.1
  have hix2 := hix2.keep hax3.1
  try simp (disch := first | omega | (simp; done) | fail) [wrap64c, if_pos, if_neg, lwms, lwms2, clms, clms2, cr1]
  obtain ⟨_, h8, hcg, hag, ug0, rfl, hug0⟩ := implLate_ok h7 _ _ _ W i ms ms2 hix1.rows hix2.ints hix3.ints
  refine callG_c (by simp) (by simp) ?ha (hcg) ?_
  (case ha => simp (disch := first | omega | (simp; done) | fail) [wrap64c, if_pos, if_neg, lwms, lwms2, clms, clms2, cr1])
  have n8 := hag.1.1
  have K8 := K7.trans hag.1
  have his1 := his1.keep hag.1
  have his2 := his2.keep hag.1
  have his3 := his3.keep hag.1
  have huw0 := huw0.keep hag.1
  have hix1 := hix1.keep hag.1
  have hix2 := hix2.keep hag.1
  have hix3 := hix3.keep hag.1
  try simp (disch := first | omega | (simp; done) | fail) [wrap64c, if_pos, if_neg, lwms, lwms2, clms, clms2, cr1]
  refine callG_c (by simp) (by simp) ?ha (eqIntS_ok h8 _ _ _ _ (hug0.ints) (huw0.ints)) ?_
  (case ha => simp (disch := first | omega | (simp; done) | fail) [wrap64c, if_pos, if_neg, lwms, lwms2, clms, clms2, cr1])
  try simp (disch := first | omega | (simp; done) | fail) [wrap64c, if_pos, if_neg, lwms, lwms2, clms, clms2, cr1]
  obtain ⟨ty1, h9, hcy1, hay1, hiy1⟩ := toIntSS_ok h8 _ W (hrw0.keep K8) l1W l2W
  refine callG_c (by simp) (by simp) ?ha (hcy1) ?_
  (case ha => simp (disch := first | omega | (simp; done) | fail) [wrap64c, if_pos, if_neg, lwms, lwms2, clms, clms2, cr1])
  have n9 := hay1.1.1
  have K9 := K8.trans hay1.1
  have his1 := his1.keep hay1.1
  have his2 := his2.keep hay1.1
  have his3 := his3.keep hay1.1
  have huw0 := huw0.keep hay1.1
  have hix1 := hix1.keep hay1.1
  have hix2 := hix2.keep hay1.1
  have hix3 := hix3.keep hay1.1
  have hug0 := hug0.keep hay1.1
  try simp (disch := first | omega | (simp; done) | fail) [wrap64c, if_pos, if_neg, lwms, lwms2, clms, clms2, cr1]
  refine callG_c (by simp) (by simp) ?ha (eqIntSS_ok h9 _ _ _ _ hix1.rows hiy1.rows) ?_
  (case ha => simp (disch := first | omega | (simp; done) | fail) [wrap64c, if_pos, if_neg, lwms, lwms2, clms, clms2, cr1])
  try simp (disch := first | omega | (simp; done) | fail) [wrap64c, if_pos, if_neg, lwms, lwms2, clms, clms2, cr1]
  obtain ⟨ty2, h10, hcy2, hay2, hiy2⟩ := toIntS_ok h9 w ms (hw0.keep K9) l1ms
  refine callG_c (by simp) (by simp) ?ha (hcy2) ?_
  (case ha => simp (disch := first | omega | (simp; done) | fail) [wrap64c, if_pos, if_neg, lwms, lwms2, clms, clms2, cr1])
  have n10 := hay2.1.1
  have K10 := K9.trans hay2.1
  have his1 := his1.keep hay2.1
  have his2 := his2.keep hay2.1
  have his3 := his3.keep hay2.1
  have huw0 := huw0.keep hay2.1
  have hix1 := hix1.keep hay2.1
  have hix2 := hix2.keep hay2.1
  have hix3 := hix3.keep hay2.1
  have hug0 := hug0.keep hay2.1
  try simp (disch := first | omega | (simp; done) | fail) [wrap64c, if_pos, if_neg, lwms, lwms2, clms, clms2, cr1]
  refine callG_c (by simp) (by simp) ?ha (eqIntS_ok h10 _ _ _ _ hix2.ints hiy2.ints) ?_
  (case ha => simp (disch := first | omega | (simp; done) | fail) [wrap64c, if_pos, if_neg, lwms, lwms2, clms, clms2, cr1])
  try simp (disch := first | omega | (simp; done) | fail) [wrap64c, if_pos, if_neg, lwms, lwms2, clms, clms2, cr1]
  obtain ⟨ty3, h11, hcy3, hay3, hiy3⟩ := toIntS_ok h10 w2 ms2 (hw20.keep K10) l1ms2
  refine callG_c (by simp) (by simp) ?ha (hcy3) ?_
  (case ha => simp (disch := first | omega | (simp; done) | fail) [wrap64c, if_pos, if_neg, lwms, lwms2, clms, clms2, cr1])
  have n11 := hay3.1.1
  have K11 := K10.trans hay3.1
  have his1 := his1.keep hay3.1
  have his2 := his2.keep hay3.1
  have his3 := his3.keep hay3.1
  have huw0 := huw0.keep hay3.1
  have hix1 := hix1.keep hay3.1
  have hix2 := hix2.keep hay3.1
  have hix3 := hix3.keep hay3.1
  have hug0 := hug0.keep hay3.1
  try simp (disch := first | omega | (simp; done) | fail) [wrap64c, if_pos, if_neg, lwms, lwms2, clms, clms2, cr1]
  refine callG_c (by simp) (by simp) ?ha (eqIntS_ok h11 _ _ _ _ hix3.ints hiy3.ints) ?_
  (case ha => simp (disch := first | omega | (simp; done) | fail) [wrap64c, if_pos, if_neg, lwms, lwms2, clms, clms2, cr1])
  try simp (disch := first | omega | (simp; done) | fail) [wrap64c, if_pos, if_neg, lwms, lwms2, clms, clms2, cr1]
  obtain ⟨_, h12, hcm1, rfl, hnm1, hum1, him1⟩ := markIntSS_ok (Btw h4.next h5.next) h11 _ W (1) hix1 (by omega) (by omega) (by omega) (by omega)
  refine callG_c (by simp) (by simp) ?ha (hcm1) ?_
  (case ha => simp (disch := first | omega | (simp; done) | fail) [wrap64c, if_pos, if_neg, lwms, lwms2, clms, clms2, cr1])
  have n12 := hum1.1
  have K12 := hum1.keeps K11 fun o ho => by have := ho.1; omega
  have his1 := his1.same (hum1.same fun x hx hx' => by unfold Btw at hx hx'; omega)
  have his2 := his2.same (hum1.same fun x hx hx' => by unfold Btw at hx hx'; omega)
  have his3 := his3.same (hum1.same fun x hx hx' => by unfold Btw at hx hx'; omega)
  have huw0 := huw0.same (hum1.same fun x hx hx' => by unfold Btw at hx hx'; omega)
  have hix2 := hix2.same (hum1.same fun x hx hx' => by unfold Btw at hx hx'; omega)
  have hix3 := hix3.same (hum1.same fun x hx hx' => by unfold Btw at hx hx'; omega)
  have hug0 := hug0.same (hum1.same fun x hx hx' => by unfold Btw at hx hx'; omega)
  try simp (disch := first | omega | (simp; done) | fail) [wrap64c, if_pos, if_neg, lwms, lwms2, clms, clms2, cr1]
  obtain ⟨_, h13, hcm2, rfl, hnm2, hum2, him2⟩ := markIntS_ok (Btw h5.next h6.next) h12 _ ms (1 + (tot W : Int)) hix2 (by omega) (by omega) (by omega)
  refine callG_c (by simp) (by simp) ?ha (hcm2) ?_
  (case ha => simp (disch := first | omega | (simp; done) | fail) [wrap64c, if_pos, if_neg, lwms, lwms2, clms, clms2, cr1])
  have n13 := hum2.1
  have K13 := hum2.keeps K12 fun o ho => by have := ho.1; omega
  have his1 := his1.same (hum2.same fun x hx hx' => by unfold Btw at hx hx'; omega)
  have his2 := his2.same (hum2.same fun x hx hx' => by unfold Btw at hx hx'; omega)
  have his3 := his3.same (hum2.same fun x hx hx' => by unfold Btw at hx hx'; omega)
  have huw0 := huw0.same (hum2.same fun x hx hx' => by unfold Btw at hx hx'; omega)
  have hix3 := hix3.same (hum2.same fun x hx hx' => by unfold Btw at hx hx'; omega)
  have hug0 := hug0.same (hum2.same fun x hx hx' => by unfold Btw at hx hx'; omega)
  try simp (disch := first | omega | (simp; done) | fail) [wrap64c, if_pos, if_neg, lwms, lwms2, clms, clms2, cr1]
  obtain ⟨_, h14, hcm3, rfl, hnm3, hum3, him3⟩ := markIntS_ok (Btw h6.next h7.next) h13 _ ms2 (1 + (tot W : Int) + (ms.length : Int)) hix3 (by omega) (by omega) (by omega)
  refine callG_c (by simp) (by simp) ?ha (hcm3) ?_
  (case ha => simp (disch := first | omega | (simp; done) | fail) [wrap64c, if_pos, if_neg, lwms, lwms2, clms, clms2, cr1])
  have n14 := hum3.1
  have K14 := hum3.keeps K13 fun o ho => by have := ho.1; omega
  have his1 := his1.same (hum3.same fun x hx hx' => by unfold Btw at hx hx'; omega)
  have his2 := his2.same (hum3.same fun x hx hx' => by unfold Btw at hx hx'; omega)
  have his3 := his3.same (hum3.same fun x hx hx' => by unfold Btw at hx hx'; omega)
  have huw0 := huw0.same (hum3.same fun x hx hx' => by unfold Btw at hx hx'; omega)
  have hug0 := hug0.same (hum3.same fun x hx hx' => by unfold Btw at hx hx'; omega)
  try simp (disch := first | omega | (simp; done) | fail) [wrap64c, if_pos, if_neg, lwms, lwms2, clms, clms2, cr1]
  have pk : ¬ (1 + (tot W : Int) + (ms.length : Int) + (ms2.length : Int) : Int) < 0 := by omega
  try simp (disch := first | omega | (simp; done) | fail) [wrap64c, if_pos, if_neg, lwms, lwms2, clms, clms2, cr1, pk]
  refine callG_c (by simp) (by simp) ?ha (eqIntS_ok h14 _ _ _ _ (hug0.ints) (huw0.ints)) ?_
  (case ha => simp (disch := first | omega | (simp; done) | fail) [wrap64c, if_pos, if_neg, lwms, lwms2, clms, clms2, cr1, pk])
  try simp (disch := first | omega | (simp; done) | fail) [wrap64c, if_pos, if_neg, lwms, lwms2, clms, clms2, cr1, pk]
  obtain ⟨_, h15, hcr0, rfl, hnr0, hur0, hir0⟩ := markIntS_ok (Btw h7.next h8.next) h14 _ (lateR i W ms ms2) (1) hug0 (by omega) (by omega) (by omega)
  refine callG_c (by simp) (by simp) ?ha (hcr0) ?_
  (case ha => simp (disch := first | omega | (simp; done) | fail) [wrap64c, if_pos, if_neg, lwms, lwms2, clms, clms2, cr1, pk])
  have n15 := hur0.1
  have K15 := hur0.keeps K14 fun o ho => by have := ho.1; omega
  have his1 := his1.same (hur0.same fun x hx hx' => by unfold Btw at hx hx'; omega)
  have his2 := his2.same (hur0.same fun x hx hx' => by unfold Btw at hx hx'; omega)
  have his3 := his3.same (hur0.same fun x hx hx' => by unfold Btw at hx hx'; omega)
  have huw0 := huw0.same (hur0.same fun x hx hx' => by unfold Btw at hx hx'; omega)
  try simp (disch := first | omega | (simp; done) | fail) [wrap64c, if_pos, if_neg, lwms, lwms2, clms, clms2, cr1, pk]
  refine callG_c (by simp) (by simp) ?ha (heldIntS_ok h15 _ _ (1) hir0.ints (by omega) (by omega) (by omega)) ?_
  (case ha => simp (disch := first | omega | (simp; done) | fail) [wrap64c, if_pos, if_neg, lwms, lwms2, clms, clms2, cr1, pk])
  have zz15 : ¬ (1 + ((lateR i W ms ms2).length : Int) : Int) < 0 := by omega
  try simp (disch := first | omega | (simp; done) | fail) [wrap64c, if_pos, if_neg, lwms, lwms2, clms, clms2, cr1, pk, zz15]
  obtain ⟨tz1, h16, hcz1, haz1, hiz1⟩ := toIntSS_ok h15 _ W (hrw0.keep K15) l1W l2W
  refine callG_c (by simp) (by simp) ?ha (hcz1) ?_
  (case ha => simp (disch := first | omega | (simp; done) | fail) [wrap64c, if_pos, if_neg, lwms, lwms2, clms, clms2, cr1, pk])
  have n16 := haz1.1.1
  have K16 := K15.trans haz1.1
  have his1 := his1.keep haz1.1
  have his2 := his2.keep haz1.1
  have his3 := his3.keep haz1.1
  have huw0 := huw0.keep haz1.1
  have hir0 := hir0.keep haz1.1
  try simp (disch := first | omega | (simp; done) | fail) [wrap64c, if_pos, if_neg, lwms, lwms2, clms, clms2, cr1, pk]
  obtain ⟨tz2, h17, hcz2, haz2, hiz2⟩ := toIntS_ok h16 w ms (hw0.keep K16) l1ms
  refine callG_c (by simp) (by simp) ?ha (hcz2) ?_
  (case ha => simp (disch := first | omega | (simp; done) | fail) [wrap64c, if_pos, if_neg, lwms, lwms2, clms, clms2, cr1, pk])
  have n17 := haz2.1.1
  have K17 := K16.trans haz2.1
  have his1 := his1.keep haz2.1
  have his2 := his2.keep haz2.1
  have his3 := his3.keep haz2.1
  have huw0 := huw0.keep haz2.1
  have hir0 := hir0.keep haz2.1
  have hiz1 := hiz1.keep haz2.1
  try simp (disch := first | omega | (simp; done) | fail) [wrap64c, if_pos, if_neg, lwms, lwms2, clms, clms2, cr1, pk]
  obtain ⟨tz3, h18, hcz3, haz3, hiz3⟩ := toIntS_ok h17 w2 ms2 (hw20.keep K17) l1ms2
  refine callG_c (by simp) (by simp) ?ha (hcz3) ?_
  (case ha => simp (disch := first | omega | (simp; done) | fail) [wrap64c, if_pos, if_neg, lwms, lwms2, clms, clms2, cr1, pk])
  have n18 := haz3.1.1
  have K18 := K17.trans haz3.1
  have his1 := his1.keep haz3.1
  have his2 := his2.keep haz3.1
  have his3 := his3.keep haz3.1
  have huw0 := huw0.keep haz3.1
  have hir0 := hir0.keep haz3.1
  have hiz1 := hiz1.keep haz3.1
  have hiz2 := hiz2.keep haz3.1
  try simp (disch := first | omega | (simp; done) | fail) [wrap64c, if_pos, if_neg, lwms, lwms2, clms, clms2, cr1, pk]
  obtain ⟨_, h19, hcq, haq, uq0, rfl, huq0⟩ := implLate_ok h18 _ _ _ W i ms ms2 hiz1.rows hiz2.ints hiz3.ints
  refine callG_c (by simp) (by simp) ?ha (hcq) ?_
  (case ha => simp (disch := first | omega | (simp; done) | fail) [wrap64c, if_pos, if_neg, lwms, lwms2, clms, clms2, cr1, pk])
  have n19 := haq.1.1
  have K19 := K18.trans haq.1
  have his1 := his1.keep haq.1
  have his2 := his2.keep haq.1
  have his3 := his3.keep haq.1
  have huw0 := huw0.keep haq.1
  have hir0 := hir0.keep haq.1
  have hiz1 := hiz1.keep haq.1
  have hiz2 := hiz2.keep haq.1
  have hiz3 := hiz3.keep haq.1
  try simp (disch := first | omega | (simp; done) | fail) [wrap64c, if_pos, if_neg, lwms, lwms2, clms, clms2, cr1, pk]
  refine callG_c (by simp) (by simp) ?ha (eqIntS_ok h19 _ _ _ _ (huq0.ints) (huw0.ints)) ?_
  (case ha => simp (disch := first | omega | (simp; done) | fail) [wrap64c, if_pos, if_neg, lwms, lwms2, clms, clms2, cr1, pk])
  try simp (disch := first | omega | (simp; done) | fail) [wrap64c, if_pos, if_neg, lwms, lwms2, clms, clms2, cr1, pk]
  refine callG_c (by simp) (by simp) ?ha (heldIntS_ok h19 _ _ (1) hir0.ints (by omega) (by omega) (by omega)) ?_
  (case ha => simp (disch := first | omega | (simp; done) | fail) [wrap64c, if_pos, if_neg, lwms, lwms2, clms, clms2, cr1, pk])
  have zz19 : ¬ (1 + ((lateR i W ms ms2).length : Int) : Int) < 0 := by omega
  try simp (disch := first | omega | (simp; done) | fail) [wrap64c, if_pos, if_neg, lwms, lwms2, clms, clms2, cr1, pk, zz19]
  exact done_ret rfl (by simp [K19])
end Go.Proofs.Ytnjabaeajjhliaa
