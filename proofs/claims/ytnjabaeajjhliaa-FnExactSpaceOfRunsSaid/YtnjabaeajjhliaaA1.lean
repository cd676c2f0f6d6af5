/- Contracts of small functions: sizes, copies, comparisons. -/
import Derived.Test.YtnjabaeajjhliaaTy
namespace Go.Proofs.Ytnjabaeajjhliaa
set_option linter.unusedSimpArgs false
set_option linter.unusedVariables false
open Go Go.Eng
attribute [local irreducible] WD RunD PreD Runs CallOK

theorem l1In_ok (h : Hp) (a b c : Int) : CallOK Try.prog 62 #[.int .i64 a, .int .i64 b, .int .i64 c] h (.bool (decide (b ≤ a ∧ a ≤ c))) h := by
  refine callY_P 15 _ [.tmp 6] Try.func62 rfl rfl rfl (by first | rfl | simp) ?_
  by_cases hc : b ≤ a
  · try simp (disch := first | omega | (simp; done) | fail) [wrap64c, if_pos, if_neg, hc]
    exact done_ret rfl (by simp [hc])
  · try simp (disch := first | omega | (simp; done) | fail) [wrap64c, if_pos, if_neg, hc]
    exact done_ret rfl (by simp [hc])

/-- What is left of a budget. -/
def szS (k : Int) (xs : List Int) : Int := if k - xs.length < 0 then -1 else k - xs.length

theorem szIntS_ok (h : Hp) (v : Value) (xs : List Int) (k : Int) (hv : Ints h v xs) (h0 : 0 ≤ k) (h1 : k < 2 ^ 40) : CallOK Try.prog 68 #[v, .int .i64 k] h (.int .i64 (szS k xs)) h := by
  refine callY_P 12 _ [.tmp 4] Try.func68 rfl rfl rfl (by first | rfl | simp) ?_
  have hs := hv.len
  have hl := hv.lenD
  by_cases hc : k - (xs.length : Int) < 0
  · try simp (disch := first | omega | (simp; done) | fail) [wrap64c, if_pos, if_neg, hl, hc]
    exact done_ret rfl (by simp [hc, szS])
  · try simp (disch := first | omega | (simp; done) | fail) [wrap64c, if_pos, if_neg, hl, hc]
    exact done_ret rfl (by simp [hc, szS])

theorem szS_le (k : Int) (xs : List Int) (h : 0 ≤ k) : szS k xs ≤ k ∧ -1 ≤ szS k xs := by unfold szS; split <;> omega

/-- What the rows leave. -/
def szL : Int → List (List Int) → Int
  | k, [] => k
  | k, x :: l => if szS k x < 0 then -1 else szL (szS k x) l
def szSS (k : Int) (xs : List (List Int)) : Int := if k - xs.length < 0 then -1 else szL (k - xs.length) xs

theorem szIntSS_ok (h : Hp) (v : Value) (xs : List (List Int)) (k : Int) (hv : IRows h v xs) (h0 : 0 ≤ k) (h1 : k < 2 ^ 40) : CallOK Try.prog 44 #[v, .int .i64 k] h (.int .i64 (szSS k xs)) h := by
  refine callY_P 27 _ [.tmp 4] Try.func44 rfl rfl rfl (by first | rfl | simp) ?_
  have hs := hv.len
  have hl := hv.lenD
  by_cases hc : k - (xs.length : Int) < 0
  · try simp (disch := first | omega | (simp; done) | fail) [wrap64c, if_pos, if_neg, hl, hc]
    exact done_ret rfl (by simp [hc, szSS])
  · try simp (disch := first | omega | (simp; done) | fail) [wrap64c, if_pos, if_neg, hl, hc]
    refine WD_loopC [0] (fun m tm h' => ∃ j y, m = xs.length - j ∧ h = h' ∧ tm 5 = .int .i64 (j : Int) ∧ tm 1 = .int .i64 y ∧ (j ≤ xs.length) ∧ (0 ≤ y ∧ y < 2 ^ 40) ∧ (szSS k xs = szL y (xs.drop j))) _ ⟨0, k - xs.length, rfl, rfl, (by simp (disch := first | omega | (simp; done) | fail) [wrap64c, if_pos, if_neg, hl, hc]), (by simp (disch := first | omega | (simp; done) | fail) [wrap64c, if_pos, if_neg, hl, hc]), (by first | omega | assumption | (simp (disch := first | omega | (simp; done) | fail) [wrap64c, if_pos, if_neg, hl, hc] <;> omega)), (by first | omega | assumption | (simp (disch := first | omega | (simp; done) | fail) [wrap64c, if_pos, if_neg, hl, hc] <;> omega)), (by simp [szSS, hc])⟩ ?_
    rintro m tm h' hFr ⟨j, y, rfl, rfl, e5, e1, hj, hy, hz⟩
    simp only [FrameL] at hFr
    obtain ⟨f0_0, -⟩ := hFr
    try simp (disch := first | omega | (simp; done) | fail) [wrap64c, if_pos, if_neg, hl, hc] at f0_0
    have e0 := f0_0
    by_cases hlt : j < xs.length
    · obtain ⟨o_x, i_x, c_x, cs_x, own_x, ex_x, es_x, us_x, q_x, b_x, g_x, l_x, r_x, R_x⟩ := hv.open ((by omega))
      have z_x : ∀ h2 : i_x < cs_x.length, cs_x[i_x] = _ := fun h2 => r_x 0 ((by omega)) h2
      try simp (disch := first | omega | (simp; done) | fail) [wrap64c, if_pos, if_neg, hl, hc, e0, e1, e5, hlt, q_x, g_x, l_x, r_x, z_x]
      refine callG_c (by simp) (by simp) ?ha (szIntS_ok h _ _ y (R_x j hlt) (by omega) (by omega)) ?_
      (case ha => simp (disch := first | omega | (simp; done) | fail) [wrap64c, if_pos, if_neg, hl, hc, e0, e1, e5, hlt, q_x, g_x, l_x, r_x, z_x])
      have hz2 := szS_le y xs[j] (by omega)
      rw [List.drop_eq_getElem_cons hlt, szL] at hz
      by_cases hn : szS y xs[j] < 0
      · try simp (disch := first | omega | (simp; done) | fail) [wrap64c, if_pos, if_neg, hl, hc, e0, e1, e5, hlt, q_x, g_x, l_x, r_x, z_x, hn]
        exact done_ret rfl (by simp [hz, hn])
      · try simp (disch := first | omega | (simp; done) | fail) [wrap64c, if_pos, if_neg, hl, hc, e0, e1, e5, hlt, q_x, g_x, l_x, r_x, z_x, hn]
        refine loopK_next _ ?hm ?hf ⟨j + 1, szS y xs[j], rfl, rfl, (by simp (disch := first | omega | (simp; done) | fail) [wrap64c, if_pos, if_neg, hl, hc, e0, e1, e5, hlt, q_x, g_x, l_x, r_x, z_x, hn] <;> omega), (by simp (disch := first | omega | (simp; done) | fail) [wrap64c, if_pos, if_neg, hl, hc, e0, e1, e5, hlt, q_x, g_x, l_x, r_x, z_x, hn] <;> omega), (by first | omega | assumption | (simp (disch := first | omega | (simp; done) | fail) [wrap64c, if_pos, if_neg, hl, hc, e0, e1, e5, hlt, q_x, g_x, l_x, r_x, z_x, hn] <;> omega)), (by first | omega | assumption | (simp (disch := first | omega | (simp; done) | fail) [wrap64c, if_pos, if_neg, hl, hc, e0, e1, e5, hlt, q_x, g_x, l_x, r_x, z_x, hn] <;> omega)), (by rw [hz, if_neg hn])⟩
        (case hm => first | omega | (simp; omega))
        (case hf => simp [FrameL, hl, hc, e0, e1, e5, hlt, q_x, g_x, l_x, r_x, z_x, hn, f0_0])
    · try simp (disch := first | omega | (simp; done) | fail) [wrap64c, if_pos, if_neg, hl, hc, e0, e1, e5, hlt]
      exact done_ret rfl (by simp [hz, szL, show j = xs.length by omega])
end Go.Proofs.Ytnjabaeajjhliaa
