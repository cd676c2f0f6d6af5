/- The space of an order, by the reference. -/
import Derived.Test.YtnjabaeajjhliaaT29
import Derived.Test.YtnjabaeajjhliaaA5
namespace Go.Proofs.Ytnjabaeajjhliaa
set_option linter.unusedSimpArgs false
set_option linter.unusedVariables false
set_option maxHeartbeats 4000000
open Go Go.Eng
attribute [local irreducible] WD RunD PreD Runs CallOK

/-- A space if it is one. -/
theorem spIf_ok (h : Hp) (b : Value) (N : Int) (X : List Int) (S : Nat → Prop) (hX : IntsO S h b X) (hS : ∀ o, S o → o < h.next) (hl : X.length < 2 ^ 40) :
    ∃ h', CallOK Try.prog 146 #[.agg #[.int .i64 N, b]] h (.tuple #[if spB N X = true then .agg #[.int .i64 N, b] else .agg #[.int .i64 0, .slice none 0 0], .bool (spB N X)]) h' ∧ Adds h h' := by
  have nt := hX.nt
  have cs := hX.cs
  have key : ∃ v' h', CallOK Try.prog 146 #[.agg #[.int .i64 N, b]] h v' h' ∧ v' = .tuple #[if spB N X = true then .agg #[.int .i64 N, b] else .agg #[.int .i64 0, .slice none 0 0], .bool (spB N X)] ∧ Adds h h' := by
    refine callY_L (args := [.agg #[.int .i64 N, b]]) 9 _ [.cell 2 32, .tmp 3] Try.func146 rfl rfl rfl ?_
    refine WD_first ?_
    try simp (disch := first | omega | (simp; done) | fail) [wrap64c, if_pos, if_neg, opAnd, opOr, opXor, opDiff, opShr, opBit, nt, cs]
    refine stopK_heap fun h0 q_h0 => ?_
    refine stopK_go ?_
    have k0 : Adds h h0 := by rw [q_h0]; exact (by first | exact aK | exact kK)
    have n0 : h0.next = h.next + 2 := by simp [q_h0]
    have g0 : h0.get h.next = .cells [.int .i64 N, b] true true 1 := by simp [q_h0]
    have g1 : h0.get (h.next + 1) = .cells [.int .i64 0, .slice none 0 0] true true 1 := by simp [q_h0]
    try simp (disch := first | omega | (simp; done) | fail) [wrap64c, if_pos, if_neg, opAnd, opOr, opXor, opDiff, opShr, opBit, nt, cs, g0, g1]
    refine callG_c (by simp) (by simp) ?ha (spGood_ok h0 (.agg #[.int .i64 N, b]) N X (.mk (hX.ints.keep k0.1)) hl) ?_
    (case ha => simp (disch := first | omega | (simp; done) | fail) [wrap64c, if_pos, if_neg, opAnd, opOr, opXor, opDiff, opShr, opBit, nt, cs, g0, g1])
    cases c : spB N X
    · try simp (disch := first | omega | (simp; done) | fail) [wrap64c, if_pos, if_neg, opAnd, opOr, opXor, opDiff, opShr, opBit, nt, cs, g0, g1, c, putCells]
      exact done_ret (by simp [putCells]; rfl) ⟨by simp [c], (by first | exact aK | exact kK)⟩
    · try simp (disch := first | omega | (simp; done) | fail) [wrap64c, if_pos, if_neg, opAnd, opOr, opXor, opDiff, opShr, opBit, nt, cs, g0, g1, c, putCells]
      exact done_ret (by simp [putCells]; rfl) ⟨by simp [c], (by first | exact aK | exact kK)⟩
  obtain ⟨_, h', hc, rfl, ha⟩ := key
  exact ⟨h', hc, ha⟩
end Go.Proofs.Ytnjabaeajjhliaa
