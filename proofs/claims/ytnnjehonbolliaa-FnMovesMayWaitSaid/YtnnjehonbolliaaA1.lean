/- Contracts of small functions: sizes, copies, comparisons. -/
import Derived.Test.YtnnjehonbolliaaTy
namespace Go.Proofs.Ytnnjehonbolliaa
set_option linter.unusedSimpArgs false
set_option linter.unusedVariables false
open Go Go.Eng
attribute [local irreducible] WD RunD PreD Runs CallOK

theorem l1In_ok (h : Hp) (a b c : Int) : CallOK Try.prog 60 #[.int .i64 a, .int .i64 b, .int .i64 c] h (.bool (decide (b ≤ a ∧ a ≤ c))) h := by
  refine callY_P 15 _ [.tmp 6] Try.func60 rfl rfl rfl (by first | rfl | simp) ?_
  by_cases hc : b ≤ a
  · try simp (disch := first | omega | (simp; done) | fail) [wrap64c, if_pos, if_neg, hc]
    exact done_ret rfl (by simp [hc])
  · try simp (disch := first | omega | (simp; done) | fail) [wrap64c, if_pos, if_neg, hc]
    exact done_ret rfl (by simp [hc])

/-- What is left of a budget. -/
def szS (k : Int) (xs : List Int) : Int := if k - xs.length < 0 then -1 else k - xs.length

theorem szS_le (k : Int) (xs : List Int) (h : 0 ≤ k) : szS k xs ≤ k ∧ -1 ≤ szS k xs := by unfold szS; split <;> omega

/-- What the rows leave. -/
def szL : Int → List (List Int) → Int
  | k, [] => k
  | k, x :: l => if szS k x < 0 then -1 else szL (szS k x) l
def szSS (k : Int) (xs : List (List Int)) : Int := if k - xs.length < 0 then -1 else szL (k - xs.length) xs

end Go.Proofs.Ytnnjehonbolliaa
