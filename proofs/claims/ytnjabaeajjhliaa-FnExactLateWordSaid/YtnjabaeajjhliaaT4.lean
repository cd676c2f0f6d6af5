/- Spaces with other names. -/
import Derived.Test.YtnjabaeajjhliaaT3
namespace Go.Proofs.Ytnjabaeajjhliaa
set_option linter.unusedSimpArgs false
set_option linter.unusedVariables false
set_option maxHeartbeats 4000000
open Go Go.Eng
attribute [local irreducible] WD RunD PreD Runs CallOK

theorem IntsA.putB {n : Nat} {h : Hp} {v : Value} {xs : List Int} (hs : IntsA n h v xs) {o : Nat} (ho : o < n) (x : AObj) : IntsA n (h.put o x) v xs := by
  rcases hs with ⟨a, b⟩ | ⟨p, ex, a, b, c, d⟩
  · exact .inl ⟨a, b⟩
  · exact .inr ⟨p, ex, a, b, c, by simp [Hp.put, show p ≠ o by omega]; exact d⟩
theorem famSpace_ok (h : Hp) (o n : Nat) (M : Nat → Bool) (own ex : Bool) (es : Nat) (ho : o < h.next) (hg : h.get o = .cells (famC M) own ex es) :
    ∃ v' h', CallOK Try.prog 114 #[.pointer (some ⟨o, 0, none⟩), .int .i64 (n : Int)] h v' h' ∧ Adds h h' ∧ SpaceO (Btw h.next h'.next) h' v' n (toN (famK M 128)) := by
  refine callY_L (args := [.pointer (some ⟨o, 0, none⟩), .int .i64 (n : Int)]) 26 _ [.cell 4 32] Try.func114 rfl rfl rfl ?_
  try simp (disch := first | omega | (simp; done) | fail) [wrap64c, if_pos, if_neg, opAnd, opOr, opXor, opDiff, opShr, opBit, putCells]
  first | refine WY_heap fun h0 q_h0 => ?_ | refine callG_heap fun h0 q_h0 => ?_ | refine callP_heap fun h0 q_h0 => ?_ | refine RY_heap fun h0 q_h0 => ?_ | refine PY_heap fun h0 q_h0 => ?_ | refine doneY_heap fun h0 q_h0 => ?_ | refine loopK_heap fun h0 q_h0 => ?_ | refine thenY_heap fun h0 q_h0 => ?_ | refine thenM_heap fun h0 q_h0 => ?_
  have k0 : Adds h h0 := by rw [q_h0]; exact (by first | exact aK | exact kK)
  have n0 : h0.next = h.next + 2 := by simp [q_h0]
  have g1 : h0.get h.next = .cells [.int .i64 0, .slice none 0 0] true true 1 := by simp [q_h0]
  have g2 : h0.get (h.next + 1) = .cells [.int .i64 (n : Int), .slice none 0 0] true true 1 := by simp [q_h0]
  have hf := famC_getD M
  try simp (disch := first | omega | (simp; done) | fail) [wrap64c, if_pos, if_neg, opAnd, opOr, opXor, opDiff, opShr, opBit, hf]
  refine WD_loopC [4, 5, 10] (fun m tm h' => ∃ k u, m = 128 - k ∧ tm 11 = .int .i64 (k : Int) ∧ (k ≤ 128) ∧ (Adds h h') ∧ (h0.next ≤ h'.next) ∧ (h'.get h.next = .cells [.int .i64 0, .slice none 0 0] true true 1) ∧ (h'.get (h.next + 1) = .cells [.int .i64 (n : Int), u] true true 1) ∧ (IntsA h0.next h' u (toN (famK M k)))) _ ⟨0, .slice none 0 0, rfl, (by simp (disch := first | omega | (simp; done) | fail) [wrap64c, if_pos, if_neg, opAnd, opOr, opXor, opDiff, opShr, opBit, hf]), (by first | omega | assumption | (simp (disch := first | omega | (simp; done) | fail) [wrap64c, if_pos, if_neg, opAnd, opOr, opXor, opDiff, opShr, opBit, hf] <;> omega)), k0, (Nat.le_refl _), g1, g2, (by simp [famK, toN]; exact IntsA.nil _ _)⟩ ?_
  rintro m tm h' hFr ⟨k, u, rfl, e11, hk, ha, ha0, hg1, hg2, hu⟩
  simp only [FrameL] at hFr
  obtain ⟨f4_0, f5_0, f10_0, -⟩ := hFr
  try simp (disch := first | omega | (simp; done) | fail) [wrap64c, if_pos, if_neg, opAnd, opOr, opXor, opDiff, opShr, opBit, hf] at f4_0 f5_0 f10_0
  have e4 := f4_0
  have e5 := f5_0
  have e10 := f10_0
  have hgo : h'.get o = .cells (famC M) own ex es := by rw [ha.1.2 o ho]; exact hg
  by_cases hlt : k < 128
  · have hs := famK_succ M k
    have hle := famK_len M k
    try simp (disch := first | omega | (simp; done) | fail) [wrap64c, if_pos, if_neg, opAnd, opOr, opXor, opDiff, opShr, opBit, hf, e4, e5, e10, e11, hg1, hg2, hgo, hlt]
    refine WD_drawC 5 rfl (by kernel_rfl) ?_
    try simp (disch := first | omega | (simp; done) | fail) [wrap64c, if_pos, if_neg, opAnd, opOr, opXor, opDiff, opShr, opBit, hf, e4, e5, e10, e11, hg1, hg2, hgo, hlt]
    cases hc : M k
    · rw [if_neg (by simp [hc])] at hs
      try simp (disch := first | omega | (simp; done) | fail) [wrap64c, if_pos, if_neg, opAnd, opOr, opXor, opDiff, opShr, opBit, hf, e4, e5, e10, e11, hg1, hg2, hgo, hlt, hc]
      refine loopK_next _ ?hm ?hf ⟨k + 1, u, rfl, (by simp (disch := first | omega | (simp; done) | fail) [wrap64c, if_pos, if_neg, opAnd, opOr, opXor, opDiff, opShr, opBit, hf, e4, e5, e10, e11, hg1, hg2, hgo, hlt, hc] <;> omega), (by first | omega | assumption | (simp (disch := first | omega | (simp; done) | fail) [wrap64c, if_pos, if_neg, opAnd, opOr, opXor, opDiff, opShr, opBit, hf, e4, e5, e10, e11, hg1, hg2, hgo, hlt, hc] <;> omega)), (by first | omega | assumption | (simp (disch := first | omega | (simp; done) | fail) [wrap64c, if_pos, if_neg, opAnd, opOr, opXor, opDiff, opShr, opBit, hf, e4, e5, e10, e11, hg1, hg2, hgo, hlt, hc] <;> omega)), (by first | omega | assumption | (simp (disch := first | omega | (simp; done) | fail) [wrap64c, if_pos, if_neg, opAnd, opOr, opXor, opDiff, opShr, opBit, hf, e4, e5, e10, e11, hg1, hg2, hgo, hlt, hc] <;> omega)), (by first | omega | assumption | (simp (disch := first | omega | (simp; done) | fail) [wrap64c, if_pos, if_neg, opAnd, opOr, opXor, opDiff, opShr, opBit, hf, e4, e5, e10, e11, hg1, hg2, hgo, hlt, hc] <;> omega)), (by first | omega | assumption | (simp (disch := first | omega | (simp; done) | fail) [wrap64c, if_pos, if_neg, opAnd, opOr, opXor, opDiff, opShr, opBit, hf, e4, e5, e10, e11, hg1, hg2, hgo, hlt, hc] <;> omega)), (by rw [hs]; exact hu)⟩
      (case hm => first | omega | (simp; omega))
      (case hf => simp [FrameL, hf, e4, e5, e10, e11, hg1, hg2, hgo, hlt, hc, f4_0, f5_0, f10_0])
    · rw [if_pos hc] at hs
      have ntu := (hu.own (by simp; omega)).nt
      have csu := (hu.own (by simp; omega)).cs
      try simp (disch := first | omega | (simp; done) | fail) [wrap64c, if_pos, if_neg, opAnd, opOr, opXor, opDiff, opShr, opBit, hf, e4, e5, e10, e11, hg1, hg2, hgo, hlt, hc, ntu, csu]
      obtain ⟨u2, h2, hap, hu2, ha2, hn2, hs2⟩ := appI hu (k : Int) (by simp; omega) ha0 ha (by omega)
      have gq : h2.get (h.next + 1) = .cells [.int .i64 (n : Int), u] true true 1 := by rw [hs2 _ (by omega) (by omega)]; exact hg2
      have gq1 : h2.get h.next = .cells [.int .i64 0, .slice none 0 0] true true 1 := by rw [hs2 _ (by omega) (by omega)]; exact hg1
      have nt2 := (hu2.own (by simp; omega)).nt
      have cs2 := (hu2.own (by simp; omega)).cs
      try simp (disch := first | omega | (simp; done) | fail) [wrap64c, if_pos, if_neg, opAnd, opOr, opXor, opDiff, opShr, opBit, hf, e4, e5, e10, e11, hg1, hg2, hgo, hlt, hc, ntu, csu, gq, gq1, nt2, cs2, hap, putCells]
      refine loopK_next _ ?hm ?hf ⟨k + 1, u2, rfl, (by simp (disch := first | omega | (simp; done) | fail) [wrap64c, if_pos, if_neg, opAnd, opOr, opXor, opDiff, opShr, opBit, hf, e4, e5, e10, e11, hg1, hg2, hgo, hlt, hc, ntu, csu, gq, gq1, nt2, cs2] <;> omega), (by first | omega | assumption | (simp (disch := first | omega | (simp; done) | fail) [wrap64c, if_pos, if_neg, opAnd, opOr, opXor, opDiff, opShr, opBit, hf, e4, e5, e10, e11, hg1, hg2, hgo, hlt, hc, ntu, csu, gq, gq1, nt2, cs2] <;> omega)), (by first | exact aK | exact kK), (by simp; omega), (by simp [gq1]), (by simp), (by rw [hs, toN_snoc]; exact IntsA.putB hu2 (by omega) _)⟩
      (case hm => first | omega | (simp; omega))
      (case hf => simp [FrameL, hf, e4, e5, e10, e11, hg1, hg2, hgo, hlt, hc, ntu, csu, gq, gq1, nt2, cs2, f4_0, f5_0, f10_0])
  · have e : k = 128 := by omega
    subst e
    have hle := famK_len M 128
    have ntu := (hu.own (by simp; omega)).nt
    have csu := (hu.own (by simp; omega)).cs
    try simp (disch := first | omega | (simp; done) | fail) [wrap64c, if_pos, if_neg, opAnd, opOr, opXor, opDiff, opShr, opBit, hf, e4, e5, e10, e11, hg1, hg2, hgo, hlt, ntu, csu, putCells]
    have hn1 := ha.1.1
    refine done_ret (by simp [putCells, e4]; rfl) ⟨(by first | exact aK | exact kK), u, by simp, ?_⟩
    exact ((IntsA.putB hu (show h.next < h0.next by omega) _).own (by simp; omega)).sub fun o ho => ⟨by have := ho.1; omega, by have := ho.2; simpa using this⟩
end Go.Proofs.Ytnjabaeajjhliaa
