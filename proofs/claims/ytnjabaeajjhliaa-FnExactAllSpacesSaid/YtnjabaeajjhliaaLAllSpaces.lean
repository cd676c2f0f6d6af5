/- The law on AllSpaces. -/
import Derived.Test.YtnjabaeajjhliaaT23
namespace Go.Proofs.Ytnjabaeajjhliaa
set_option linter.unusedSimpArgs false
set_option linter.unusedVariables false
set_option maxHeartbeats 4000000
open Go Go.Eng
attribute [local irreducible] WD RunD PreD Runs CallOK

theorem lawAllSpaces_ok (h : Hp) (i : Int) : CallOK Try.prog 4 #[.int .i64 i] h (.bool true) h := by
  have lb := allR_len i
  obtain ⟨_, h1, hcw, haw, w, rfl, hw⟩ := specAll_ok h i
  obtain ⟨_, h2, hcg, hag, g, rfl, Lg, hg, hgm, hgn⟩ := implAll_ok h1 i
  have n1 := haw.1.1
  have n2 := hag.1.1
  have hg' : GL 2 (spO i.toNat) h1.next h2 g (allR i) := hgm ▸ GL.mapR (fun p => p.2) hg fun F u x hs => hs.spO
  have hq0 := GL.mapR (fun p => ((i.toNat : Int), p.1, toN p.2)) hg fun F u x hs => hs.spQ
  have ht := allR_tot hgm
  obtain ⟨_, h3, hcm, rfl, hn3, hu3, hi3⟩ := markSpaceS_ok h1.next h2 g _ 1 hq0 (by rw [List.map_map]; exact hgn) (by omega) (by omega) ht
  obtain ⟨_, h4, hcq, haq, q, rfl, Lq, hq, hqm, hqn⟩ := implAll_ok h3 i
  have hq' : GL 2 (spO i.toNat) h3.next h4 q (allR i) := hqm ▸ GL.mapR (fun p => p.2) hq fun F u x hs => hs.spO
  have hw2 := hw.keep (spO_steady _) hag.1
  have hw3 : GL 2 (spO i.toNat) h.next h3 w (allR i) := hw.same (spO_steady _) ⟨by omega, fun o ho hl => by rw [hu3.2 o (by omega) (by omega), hag.1.2 o hl]⟩
  have hw4 := hw3.keep (spO_steady _) haq.1
  have hi4 := hi3.keep spQ_steady haq.1
  have K4 : Keeps h h4 := ⟨by have := haq.1.1; omega, fun o ho => by rw [haq.1.2 o (by omega), hu3.2 o (by omega) (by omega), hag.1.2 o (by omega), haw.1.2 o ho]⟩
  have zz : ¬ (1 + (totS (Lg.map fun p => ((i.toNat : Int), p.1, toN p.2)) : Int)) < 0 := by omega
  refine callY_P 63 _ [.tmp 2] Try.func4 rfl rfl rfl (by first | rfl | simp) ?_
  try simp (disch := first | omega | (simp; done) | fail) [wrap64c, if_pos, if_neg, zz]
  refine callG_c (by simp) (by simp) ?ha (hcw) ?_
  (case ha => simp (disch := first | omega | (simp; done) | fail) [wrap64c, if_pos, if_neg, zz])
  try simp (disch := first | omega | (simp; done) | fail) [wrap64c, if_pos, if_neg, zz]
  refine callG_c (by simp) (by simp) ?ha (hcg) ?_
  (case ha => simp (disch := first | omega | (simp; done) | fail) [wrap64c, if_pos, if_neg, zz])
  try simp (disch := first | omega | (simp; done) | fail) [wrap64c, if_pos, if_neg, zz]
  refine callG_c (by simp) (by simp) ?ha (eqSpaceS_ok h2 g w _ _ _ (allR i) hg' hw2 (by omega)) ?_
  (case ha => simp (disch := first | omega | (simp; done) | fail) [wrap64c, if_pos, if_neg, zz])
  try simp (disch := first | omega | (simp; done) | fail) [wrap64c, if_pos, if_neg, zz]
  refine callG_c (by simp) (by simp) ?ha (hcm) ?_
  (case ha => simp (disch := first | omega | (simp; done) | fail) [wrap64c, if_pos, if_neg, zz])
  try simp (disch := first | omega | (simp; done) | fail) [wrap64c, if_pos, if_neg, zz]
  refine callG_c (by simp) (by simp) ?ha (heldSpaceS_ok h1.next h3 g _ 1 hi3 (by omega) (by omega) ht) ?_
  (case ha => simp (disch := first | omega | (simp; done) | fail) [wrap64c, if_pos, if_neg, zz])
  try simp (disch := first | omega | (simp; done) | fail) [wrap64c, if_pos, if_neg, zz]
  refine callG_c (by simp) (by simp) ?ha (hcq) ?_
  (case ha => simp (disch := first | omega | (simp; done) | fail) [wrap64c, if_pos, if_neg, zz])
  try simp (disch := first | omega | (simp; done) | fail) [wrap64c, if_pos, if_neg, zz]
  refine callG_c (by simp) (by simp) ?ha (eqSpaceS_ok h4 q w _ _ _ (allR i) hq' hw4 (by omega)) ?_
  (case ha => simp (disch := first | omega | (simp; done) | fail) [wrap64c, if_pos, if_neg, zz])
  try simp (disch := first | omega | (simp; done) | fail) [wrap64c, if_pos, if_neg, zz]
  refine callG_c (by simp) (by simp) ?ha (heldSpaceS_ok h1.next h4 g _ 1 hi4 (by omega) (by omega) ht) ?_
  (case ha => simp (disch := first | omega | (simp; done) | fail) [wrap64c, if_pos, if_neg, zz])
  try simp (disch := first | omega | (simp; done) | fail) [wrap64c, if_pos, if_neg, zz]
  exact done_ret rfl (by simp [K4])
end Go.Proofs.Ytnjabaeajjhliaa
