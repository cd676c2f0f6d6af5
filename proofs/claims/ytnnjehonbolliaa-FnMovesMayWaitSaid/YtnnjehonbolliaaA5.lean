/- Whether they are chips: by the reference and by the program. -/
import Derived.Test.YtnnjehonbolliaaA4
namespace Go.Proofs.Ytnnjehonbolliaa
set_option linter.unusedSimpArgs false
set_option linter.unusedVariables false
open Go Go.Eng
attribute [local irreducible] WD RunD PreD Runs CallOK

def el (L : List (List Int)) (i j : Nat) : Int := (L.getD i []).getD j 0
theorem el_eq {L : List (List Int)} {i j : Nat} (hi : i < L.length) (hj : j < L[i].length) : el L i j = L[i][j] := by
  simp [el, hi, hj]

def Good (L : List (List Int)) (A : List Int) : Prop :=
  (1 ≤ A.length ∧ A.length ≤ 5) ∧ L.length = A.length ∧ (∀ x ∈ A, 0 ≤ x ∧ x ≤ 30) ∧ (∀ r ∈ L, r.length = A.length ∧ ∀ x ∈ r, 0 ≤ x ∧ x ≤ 3) ∧
  (∀ i, i < A.length → ∀ j, j < A.length → el L i j = el L j i) ∧ (∀ i, i < A.length → el L i i = 0) ∧ A.sum ≤ 30
noncomputable def goodB (L : List (List Int)) (A : List Int) : Bool := @decide (Good L A) (Classical.propDecidable _)
theorem goodB_true {L : List (List Int)} {A : List Int} (h : Good L A) : goodB L A = true := by simp [goodB, h]
theorem goodB_false {L : List (List Int)} {A : List Int} (h : ¬ Good L A) : goodB L A = false := by simp [goodB, h]

theorem sum_take {A : List Int} {b : Int} (hb : 0 ≤ b) (hA : ∀ x ∈ A, 0 ≤ x ∧ x ≤ b) : ∀ k, k ≤ A.length → 0 ≤ (A.take k).sum ∧ (A.take k).sum ≤ b * (k : Int)
  | 0, _ => by simp
  | k + 1, hk => by
    have := sum_take hb hA k (by omega)
    have h2 := hA _ (List.getElem_mem (show k < A.length by omega))
    rw [List.take_succ_eq_append_getElem (by omega), List.sum_append]
    have e : b * ((k + 1 : Nat) : Int) = b * (k : Int) + b := by rw [Int.natCast_succ, Int.mul_add, Int.mul_one]
    rw [e, show [A[k]].sum = A[k] by simp]
    omega
theorem sum_step {A : List Int} {k : Nat} (hk : k < A.length) : (A.take (k + 1)).sum = (A.take k).sum + A[k] := by
  rw [List.take_succ_eq_append_getElem hk, List.sum_append]; simp

theorem l1All_ok (h : Hp) (v : Value) (xs : List Int) (a b : Int) (hv : Ints h v xs) : CallOK Try.prog 73 #[v, .int .i64 a, .int .i64 b] h (.bool (decide (∀ x ∈ xs, a ≤ x ∧ x ≤ b))) h := by
  refine callY_P 21 _ [.tmp 6] Try.func73 rfl rfl rfl (by first | rfl | simp) ?_
  have hs := hv.len
  have hL := hv.lenD
  try simp (disch := first | omega | (simp; done) | fail) [wrap64c, if_pos, if_neg, hL]
  refine WD_loopC [1, 2, 9, 10] (fun m tm h' => ∃ j, m = xs.length - j ∧ h = h' ∧ tm 11 = .int .i64 (j : Int) ∧ (j ≤ xs.length) ∧ (∀ i (hi : i < xs.length), i < j → a ≤ xs[i] ∧ xs[i] ≤ b)) _ ⟨0, rfl, rfl, (by simp (disch := first | omega | (simp; done) | fail) [wrap64c, if_pos, if_neg, hL]), (by first | omega | assumption | (simp (disch := first | omega | (simp; done) | fail) [wrap64c, if_pos, if_neg, hL] <;> omega)), (by intro i hi h0; omega)⟩ ?_
  rintro m tm h' hFr ⟨j, rfl, rfl, e11, hj, hx⟩
  simp only [FrameL] at hFr
  obtain ⟨f1_0, f2_0, f9_0, f10_0, -⟩ := hFr
  try simp (disch := first | omega | (simp; done) | fail) [wrap64c, if_pos, if_neg, hL] at f1_0 f2_0 f9_0 f10_0
  have e1 := f1_0
  have e2 := f2_0
  have e9 := f9_0
  have e10 := f10_0
  by_cases hlt : j < xs.length
  · obtain ⟨o_x, i_x, c_x, cs_x, own_x, ex_x, es_x, q_x, b_x, g_x, l_x, r_x⟩ := hv.open ((by omega))
    have z_x : ∀ h2 : i_x < cs_x.length, cs_x[i_x] = _ := fun h2 => r_x 0 ((by omega)) h2
    try simp (disch := first | omega | (simp; done) | fail) [wrap64c, if_pos, if_neg, hL, e1, e2, e9, e10, e11, hlt, q_x, g_x, l_x, r_x, z_x]
    have hc := l1In_ok h xs[j] a b
    by_cases hq : a ≤ xs[j] ∧ xs[j] ≤ b
    · rw [decide_eq_true hq] at hc
      refine callG_c (by simp) (by simp) ?ha (hc) ?_
      (case ha => simp (disch := first | omega | (simp; done) | fail) [wrap64c, if_pos, if_neg, hL, e1, e2, e9, e10, e11, hlt, q_x, g_x, l_x, r_x, z_x])
      try simp (disch := first | omega | (simp; done) | fail) [wrap64c, if_pos, if_neg, hL, e1, e2, e9, e10, e11, hlt, q_x, g_x, l_x, r_x, z_x]
      refine loopK_next _ ?hm ?hf ⟨j + 1, rfl, rfl, (by simp (disch := first | omega | (simp; done) | fail) [wrap64c, if_pos, if_neg, hL, e1, e2, e9, e10, e11, hlt, q_x, g_x, l_x, r_x, z_x] <;> omega), (by first | omega | assumption | (simp (disch := first | omega | (simp; done) | fail) [wrap64c, if_pos, if_neg, hL, e1, e2, e9, e10, e11, hlt, q_x, g_x, l_x, r_x, z_x] <;> omega)), ?c_hx⟩
      (case hm => first | omega | (simp; omega))
      (case hf => simp [FrameL, hL, e1, e2, e9, e10, e11, hlt, q_x, g_x, l_x, r_x, z_x, f1_0, f2_0, f9_0, f10_0])
      case c_hx =>
        exact (fun i hi hij => by
          rcases Nat.lt_succ_iff_lt_or_eq.1 hij with h1 | h1
          · exact hx i hi h1
          · subst h1; exact hq)
    · rw [decide_eq_false hq] at hc
      refine callG_c (by simp) (by simp) ?ha (hc) ?_
      (case ha => simp (disch := first | omega | (simp; done) | fail) [wrap64c, if_pos, if_neg, hL, e1, e2, e9, e10, e11, hlt, q_x, g_x, l_x, r_x, z_x])
      try simp (disch := first | omega | (simp; done) | fail) [wrap64c, if_pos, if_neg, hL, e1, e2, e9, e10, e11, hlt, q_x, g_x, l_x, r_x, z_x]
      have : ¬ ∀ x ∈ xs, a ≤ x ∧ x ≤ b := fun q => hq (q _ (List.getElem_mem hlt))
      exact done_ret rfl (by rw [decide_eq_false this]; simp)
  · try simp (disch := first | omega | (simp; done) | fail) [wrap64c, if_pos, if_neg, hL, e1, e2, e9, e10, e11, hlt]
    have : ∀ x ∈ xs, a ≤ x ∧ x ≤ b := fun x hx' => by
      obtain ⟨i, hi, rfl⟩ := List.getElem_of_mem hx'
      exact hx i hi (by omega)
    exact done_ret rfl (by rw [decide_eq_true this]; simp)

set_option maxHeartbeats 4000000 in
theorem waGood_ok (h : Hp) (v : Value) (L : List (List Int)) (A : List Int) (hv : Chips h v L A) : CallOK Try.prog 46 #[v] h (.bool (goodB L A)) h := by
  refine callY_P 91 _ [.tmp 2] Try.func46 rfl rfl rfl (by first | rfl | simp) ?_
  obtain ⟨a, b, rfl, hL, hA⟩ := hv
  refine WD_first ?_
  try simp (disch := first | omega | (simp; done) | fail) [wrap64c, if_pos, if_neg]
  refine stopK_heap fun h0 q_h0 => ?_
  refine stopK_go ?_
  have g_h0 : h0.get h.next = .cells [a, b] true true 1 := by simp [q_h0]
  have k_h0 : Adds h h0 := by rw [q_h0]; exact (by first | exact aK | exact kK)
  have n_h0 : h.next < h0.next := by simp [q_h0]; try omega
  have k0 := k_h0.1
  replace hL := hL.keep k0
  replace hA := hA.keep k0
  have lL := hL.lenD
  have lA := hA.lenD
  try simp (disch := first | omega | (simp; done) | fail) [wrap64c, if_pos, if_neg, g_h0, lL, lA]
  by_cases c1 : 1 ≤ (A.length : Int) ∧ (A.length : Int) ≤ 5
  · have hc := l1In_ok h0 A.length 1 5
    rw [decide_eq_true c1] at hc
    refine callG_c (by simp) (by simp) ?ha (hc) ?_
    (case ha => simp (disch := first | omega | (simp; done) | fail) [wrap64c, if_pos, if_neg, g_h0, lL, lA])
    by_cases c2 : L.length = A.length
    · have c2b : ((L.length : Int) != (A.length : Int)) = false := by simp [c2]
      try simp (disch := first | omega | (simp; done) | fail) [wrap64c, if_pos, if_neg, g_h0, lL, lA, c2b]
      by_cases c3 : ∀ x ∈ A, 0 ≤ x ∧ x ≤ 30
      · have hc := l1All_ok h0 _ A 0 30 hA
        rw [decide_eq_true c3] at hc
        refine callG_c (by simp) (by simp) ?ha (hc) ?_
        (case ha => simp (disch := first | omega | (simp; done) | fail) [wrap64c, if_pos, if_neg, g_h0, lL, lA, c2b])
        obtain ⟨o_x, i_x, c_x, cs_x, own_x, ex_x, es_x, us_x, q_x, b_x, g_x, l_x, r_x, R_x⟩ := hL.open ((by omega))
        have z_x : ∀ h2 : i_x < cs_x.length, cs_x[i_x] = _ := fun h2 => r_x 0 ((by omega)) h2
        obtain ⟨o_y, i_y, c_y, cs_y, own_y, ex_y, es_y, q_y, b_y, g_y, l_y, r_y⟩ := hA.open ((by omega))
        have z_y : ∀ h2 : i_y < cs_y.length, cs_y[i_y] = _ := fun h2 => r_y 0 ((by omega)) h2
        try simp (disch := first | omega | (simp; done) | fail) [wrap64c, if_pos, if_neg, g_h0, lL, lA, c2b, q_x, g_x, l_x, r_x, z_x, q_y, g_y, l_y, r_y, z_y]
        refine WD_loopC [1, 3, 31, 32] (fun m tm h' => ∃ j, m = A.length - j ∧ h0 = h' ∧ tm 4 = .int .i64 (A.take j).sum ∧ tm 33 = .int .i64 (j : Int) ∧ (j ≤ A.length) ∧ (∀ i (hi : i < L.length), i < j → L[i].length = A.length ∧ (∀ x ∈ L[i], 0 ≤ x ∧ x ≤ 3) ∧ el L i i = 0)) _ ⟨0, rfl, rfl, (by simp (disch := first | omega | (simp; done) | fail) [wrap64c, if_pos, if_neg, g_h0, lL, lA, c2b, q_x, g_x, l_x, r_x, z_x, q_y, g_y, l_y, r_y, z_y]), (by simp (disch := first | omega | (simp; done) | fail) [wrap64c, if_pos, if_neg, g_h0, lL, lA, c2b, q_x, g_x, l_x, r_x, z_x, q_y, g_y, l_y, r_y, z_y]), (by first | omega | assumption | (simp (disch := first | omega | (simp; done) | fail) [wrap64c, if_pos, if_neg, g_h0, lL, lA, c2b, q_x, g_x, l_x, r_x, z_x, q_y, g_y, l_y, r_y, z_y] <;> omega)), (by intro i hi h0; omega)⟩ ?_
        rintro m tm h' hFr ⟨j, rfl, rfl, e4, e33, hj, hx⟩
        simp only [FrameL] at hFr
        obtain ⟨f1_0, f3_0, f31_0, f32_0, -⟩ := hFr
        try simp (disch := first | omega | (simp; done) | fail) [wrap64c, if_pos, if_neg, g_h0, lL, lA, c2b, q_x, g_x, l_x, r_x, z_x, q_y, g_y, l_y, r_y, z_y] at f1_0 f3_0 f31_0 f32_0
        have e1 := f1_0
        have e3 := f3_0
        have e31 := f31_0
        have e32 := f32_0
        by_cases hlt : j < A.length
        · have hlt2 : j < L.length := by omega
          have b1 := sum_take (by omega) c3 j (by omega)
          have b2 := c3 _ (List.getElem_mem hlt)
          have hu := R_x j hlt2
          have lu := hu.lenD
          by_cases d1 : L[j].length = A.length
          · have d1b : ((L[j].length : Int) != (A.length : Int)) = false := by simp [d1]
            try simp (disch := first | omega | (simp; done) | fail) [wrap64c, if_pos, if_neg, g_h0, lL, lA, c2b, q_x, g_x, l_x, r_x, z_x, q_y, g_y, l_y, r_y, z_y, e1, e3, e4, e31, e32, e33, hlt, hlt2, lu, d1b]
            have hc := l1All_ok h0 _ L[j] 0 3 hu
            have ed := el_eq hlt2 (show j < L[j].length by omega)
            by_cases d2 : ∀ x ∈ L[j], 0 ≤ x ∧ x ≤ 3
            · rw [decide_eq_true d2] at hc
              refine callG_c (by simp) (by simp) ?ha (hc) ?_
              (case ha => simp (disch := first | omega | (simp; done) | fail) [wrap64c, if_pos, if_neg, g_h0, lL, lA, c2b, q_x, g_x, l_x, r_x, z_x, q_y, g_y, l_y, r_y, z_y, e1, e3, e4, e31, e32, e33, hlt, hlt2, lu, d1b])
              obtain ⟨o_u, i_u, c_u, cs_u, own_u, ex_u, es_u, q_u, b_u, g_u, l_u, r_u⟩ := hu.open ((by omega))
              have z_u : ∀ h2 : i_u < cs_u.length, cs_u[i_u] = _ := fun h2 => r_u 0 ((by omega)) h2
              by_cases d3 : L[j][j] = 0
              · try simp (disch := first | omega | (simp; done) | fail) [wrap64c, if_pos, if_neg, g_h0, lL, lA, c2b, q_x, g_x, l_x, r_x, z_x, q_y, g_y, l_y, r_y, z_y, e1, e3, e4, e31, e32, e33, hlt, hlt2, lu, d1b, q_u, g_u, l_u, r_u, z_u, d3]
                refine loopK_next _ ?hm ?hf ⟨j + 1, rfl, rfl, (by simp [sum_step hlt]), (by simp (disch := first | omega | (simp; done) | fail) [wrap64c, if_pos, if_neg, g_h0, lL, lA, c2b, q_x, g_x, l_x, r_x, z_x, q_y, g_y, l_y, r_y, z_y, e1, e3, e4, e31, e32, e33, hlt, hlt2, lu, d1b, q_u, g_u, l_u, r_u, z_u, d3] <;> omega), (by first | omega | assumption | (simp (disch := first | omega | (simp; done) | fail) [wrap64c, if_pos, if_neg, g_h0, lL, lA, c2b, q_x, g_x, l_x, r_x, z_x, q_y, g_y, l_y, r_y, z_y, e1, e3, e4, e31, e32, e33, hlt, hlt2, lu, d1b, q_u, g_u, l_u, r_u, z_u, d3] <;> omega)), ?c_hx⟩
                (case hm => first | omega | (simp; omega))
                (case hf => simp [FrameL, g_h0, lL, lA, c2b, q_x, g_x, l_x, r_x, z_x, q_y, g_y, l_y, r_y, z_y, e1, e3, e4, e31, e32, e33, hlt, hlt2, lu, d1b, q_u, g_u, l_u, r_u, z_u, d3, f1_0, f3_0, f31_0, f32_0])
                case c_hx =>
                  exact (fun i hi hij => by
                    rcases Nat.lt_succ_iff_lt_or_eq.1 hij with q | q
                    · exact hx i hi q
                    · subst q; exact ⟨d1, d2, by rw [ed, d3]⟩)
              · try simp (disch := first | omega | (simp; done) | fail) [wrap64c, if_pos, if_neg, g_h0, lL, lA, c2b, q_x, g_x, l_x, r_x, z_x, q_y, g_y, l_y, r_y, z_y, e1, e3, e4, e31, e32, e33, hlt, hlt2, lu, d1b, q_u, g_u, l_u, r_u, z_u, d3]
                exact done_ret rfl (by rw [goodB_false fun q => d3 (by rw [← ed]; exact q.2.2.2.2.2.1 j hlt)]; simp [k0])
            · rw [decide_eq_false d2] at hc
              refine callG_c (by simp) (by simp) ?ha (hc) ?_
              (case ha => simp (disch := first | omega | (simp; done) | fail) [wrap64c, if_pos, if_neg, g_h0, lL, lA, c2b, q_x, g_x, l_x, r_x, z_x, q_y, g_y, l_y, r_y, z_y, e1, e3, e4, e31, e32, e33, hlt, hlt2, lu, d1b])
              try simp (disch := first | omega | (simp; done) | fail) [wrap64c, if_pos, if_neg, g_h0, lL, lA, c2b, q_x, g_x, l_x, r_x, z_x, q_y, g_y, l_y, r_y, z_y, e1, e3, e4, e31, e32, e33, hlt, hlt2, lu, d1b]
              exact done_ret rfl (by rw [goodB_false fun q => d2 (q.2.2.2.1 _ (List.getElem_mem hlt2)).2]; simp [k0])
          · have d1b : ((L[j].length : Int) != (A.length : Int)) = true := by simp [d1]
            try simp (disch := first | omega | (simp; done) | fail) [wrap64c, if_pos, if_neg, g_h0, lL, lA, c2b, q_x, g_x, l_x, r_x, z_x, q_y, g_y, l_y, r_y, z_y, e1, e3, e4, e31, e32, e33, hlt, hlt2, lu, d1b]
            exact done_ret rfl (by rw [goodB_false fun q => d1 (q.2.2.2.1 _ (List.getElem_mem hlt2)).1]; simp [k0])
        · have hlt2 : ¬ j < L.length := by omega
          try simp (disch := first | omega | (simp; done) | fail) [wrap64c, if_pos, if_neg, g_h0, lL, lA, c2b, q_x, g_x, l_x, r_x, z_x, q_y, g_y, l_y, r_y, z_y, e1, e3, e4, e31, e32, e33, hlt, hlt2]
          have hj' : j = A.length := by omega
          subst hj'
          rw [List.take_length] at e4
          have hrow : ∀ i (hi : i < L.length), L[i].length = A.length := fun i hi => (hx i hi (by omega)).1
          refine WD_loopC [1, 4, 63, 64] (fun m tm h' => ∃ j, m = L.length - j ∧ h0 = h' ∧ tm 65 = .int .i64 (j : Int) ∧ (j ≤ L.length) ∧ (∀ i, i < j → ∀ k, k < A.length → el L i k = el L k i)) _ ⟨0, rfl, rfl, (by simp (disch := first | omega | (simp; done) | fail) [wrap64c, if_pos, if_neg, g_h0, lL, lA, c2b, q_x, g_x, l_x, r_x, z_x, q_y, g_y, l_y, r_y, z_y, e1, e3, e4, e31, e32, e33, hlt, hlt2]), (by first | omega | assumption | (simp (disch := first | omega | (simp; done) | fail) [wrap64c, if_pos, if_neg, g_h0, lL, lA, c2b, q_x, g_x, l_x, r_x, z_x, q_y, g_y, l_y, r_y, z_y, e1, e3, e4, e31, e32, e33, hlt, hlt2] <;> omega)), (by intro i h0; omega)⟩ ?_
          rintro m tm h' hFr ⟨j, rfl, rfl, e65, hj, hy⟩
          simp only [FrameL] at hFr
          obtain ⟨f1_1, f4_1, f63_1, f64_1, -⟩ := hFr
          try simp (disch := first | omega | (simp; done) | fail) [wrap64c, if_pos, if_neg, g_h0, lL, lA, c2b, q_x, g_x, l_x, r_x, z_x, q_y, g_y, l_y, r_y, z_y, e1, e3, e4, e31, e32, e33, hlt, hlt2] at f1_1 f4_1 f63_1 f64_1
          have e1 := f1_1
          have e4 := f4_1
          have e63 := f63_1
          have e64 := f64_1
          by_cases hlt : j < L.length
          · have hrj := hrow j hlt
            have hu := R_x j hlt
            have lu := hu.lenD
            obtain ⟨o_u, i_u, c_u, cs_u, own_u, ex_u, es_u, q_u, b_u, g_u, l_u, r_u⟩ := hu.open ((by omega))
            have z_u : ∀ h2 : i_u < cs_u.length, cs_u[i_u] = _ := fun h2 => r_u 0 ((by omega)) h2
            try simp (disch := first | omega | (simp; done) | fail) [wrap64c, if_pos, if_neg, g_h0, lL, lA, c2b, q_x, g_x, l_x, r_x, z_x, q_y, g_y, l_y, r_y, z_y, e1, e3, e4, e31, e32, e33, hlt, hlt2, e63, e64, e65, lu, q_u, g_u, l_u, r_u, z_u]
            refine WD_loopC [1, 4, 7, 63, 64, 65, 70, 71] (fun m tm h' => ∃ k, m = L[j].length - k ∧ h0 = h' ∧ tm 72 = .int .i64 (k : Int) ∧ (k ≤ L[j].length) ∧ (∀ i, i < k → el L j i = el L i j)) _ ⟨0, rfl, rfl, (by simp (disch := first | omega | (simp; done) | fail) [wrap64c, if_pos, if_neg, g_h0, lL, lA, c2b, q_x, g_x, l_x, r_x, z_x, q_y, g_y, l_y, r_y, z_y, e1, e3, e4, e31, e32, e33, hlt, hlt2, e63, e64, e65, lu, q_u, g_u, l_u, r_u, z_u]), (by first | omega | assumption | (simp (disch := first | omega | (simp; done) | fail) [wrap64c, if_pos, if_neg, g_h0, lL, lA, c2b, q_x, g_x, l_x, r_x, z_x, q_y, g_y, l_y, r_y, z_y, e1, e3, e4, e31, e32, e33, hlt, hlt2, e63, e64, e65, lu, q_u, g_u, l_u, r_u, z_u] <;> omega)), (by intro i h0; omega)⟩ ?_
            rintro m tm h' hFr ⟨k, rfl, rfl, e72, hk, hz⟩
            simp only [FrameL] at hFr
            obtain ⟨f1_2, f4_2, f7_2, f63_2, f64_2, f65_2, f70_2, f71_2, -⟩ := hFr
            try simp (disch := first | omega | (simp; done) | fail) [wrap64c, if_pos, if_neg, g_h0, lL, lA, c2b, q_x, g_x, l_x, r_x, z_x, q_y, g_y, l_y, r_y, z_y, e1, e3, e4, e31, e32, e33, hlt, hlt2, e63, e64, e65, lu, q_u, g_u, l_u, r_u, z_u] at f1_2 f4_2 f7_2 f63_2 f64_2 f65_2 f70_2 f71_2
            have e1 := f1_2
            have e4 := f4_2
            have e7 := f7_2
            have e63 := f63_2
            have e64 := f64_2
            have e65 := f65_2
            have e70 := f70_2
            have e71 := f71_2
            by_cases hlt3 : k < L[j].length
            · have hkL : k < L.length := by omega
              have hrk := hrow k hkL
              have hjk : j < L[k].length := by omega
              obtain ⟨o_w, i_w, c_w, cs_w, own_w, ex_w, es_w, q_w, b_w, g_w, l_w, r_w⟩ := (R_x k hkL).open ((by omega))
              have z_w : ∀ h2 : i_w < cs_w.length, cs_w[i_w] = _ := fun h2 => r_w 0 ((by omega)) h2
              have ed1 := el_eq hlt hlt3
              have ed2 := el_eq hkL hjk
              by_cases hq : L[k][j] = L[j][k]
              · have hqb : (L[k][j] != L[j][k]) = false := by simp [hq]
                try simp (disch := first | omega | (simp; done) | fail) [wrap64c, if_pos, if_neg, g_h0, lL, lA, c2b, q_x, g_x, l_x, r_x, z_x, q_y, g_y, l_y, r_y, z_y, e1, e3, e4, e31, e32, e33, hlt, hlt2, e63, e64, e65, lu, q_u, g_u, l_u, r_u, z_u, e7, e70, e71, e72, hlt3, hkL, hjk, q_w, g_w, l_w, r_w, z_w, hqb]
                refine loopK_next _ ?hm ?hf ⟨k + 1, rfl, rfl, (by simp (disch := first | omega | (simp; done) | fail) [wrap64c, if_pos, if_neg, g_h0, lL, lA, c2b, q_x, g_x, l_x, r_x, z_x, q_y, g_y, l_y, r_y, z_y, e1, e3, e4, e31, e32, e33, hlt, hlt2, e63, e64, e65, lu, q_u, g_u, l_u, r_u, z_u, e7, e70, e71, e72, hlt3, hkL, hjk, q_w, g_w, l_w, r_w, z_w, hqb] <;> omega), (by first | omega | assumption | (simp (disch := first | omega | (simp; done) | fail) [wrap64c, if_pos, if_neg, g_h0, lL, lA, c2b, q_x, g_x, l_x, r_x, z_x, q_y, g_y, l_y, r_y, z_y, e1, e3, e4, e31, e32, e33, hlt, hlt2, e63, e64, e65, lu, q_u, g_u, l_u, r_u, z_u, e7, e70, e71, e72, hlt3, hkL, hjk, q_w, g_w, l_w, r_w, z_w, hqb] <;> omega)), ?c_hz⟩
                (case hm => first | omega | (simp; omega))
                (case hf => simp [FrameL, g_h0, lL, lA, c2b, q_x, g_x, l_x, r_x, z_x, q_y, g_y, l_y, r_y, z_y, e1, e3, e4, e31, e32, e33, hlt, hlt2, e63, e64, e65, lu, q_u, g_u, l_u, r_u, z_u, e7, e70, e71, e72, hlt3, hkL, hjk, q_w, g_w, l_w, r_w, z_w, hqb, f1_2, f4_2, f7_2, f63_2, f64_2, f65_2, f70_2, f71_2])
                case c_hz =>
                  exact (fun i hi => by
                    rcases Nat.lt_succ_iff_lt_or_eq.1 hi with q | q
                    · exact hz i q
                    · subst q; rw [ed1, ed2, hq])
              · have hqb : (L[k][j] != L[j][k]) = true := by simp [hq]
                try simp (disch := first | omega | (simp; done) | fail) [wrap64c, if_pos, if_neg, g_h0, lL, lA, c2b, q_x, g_x, l_x, r_x, z_x, q_y, g_y, l_y, r_y, z_y, e1, e3, e4, e31, e32, e33, hlt, hlt2, e63, e64, e65, lu, q_u, g_u, l_u, r_u, z_u, e7, e70, e71, e72, hlt3, hkL, hjk, q_w, g_w, l_w, r_w, z_w, hqb]
                exact done_ret rfl (by rw [goodB_false fun q => hq (by rw [← ed1, ← ed2]; exact q.2.2.2.2.1 k (by omega) j (by omega))]; simp [k0])
            · try simp (disch := first | omega | (simp; done) | fail) [wrap64c, if_pos, if_neg, g_h0, lL, lA, c2b, q_x, g_x, l_x, r_x, z_x, q_y, g_y, l_y, r_y, z_y, e1, e3, e4, e31, e32, e33, hlt, hlt2, e63, e64, e65, lu, q_u, g_u, l_u, r_u, z_u, e7, e70, e71, e72, hlt3]
              refine loopK_next _ ?hm ?hf ⟨j + 1, rfl, rfl, (by simp (disch := first | omega | (simp; done) | fail) [wrap64c, if_pos, if_neg, g_h0, lL, lA, c2b, q_x, g_x, l_x, r_x, z_x, q_y, g_y, l_y, r_y, z_y, e1, e3, e4, e31, e32, e33, hlt, hlt2, e63, e64, e65, lu, q_u, g_u, l_u, r_u, z_u, e7, e70, e71, e72, hlt3] <;> omega), (by first | omega | assumption | (simp (disch := first | omega | (simp; done) | fail) [wrap64c, if_pos, if_neg, g_h0, lL, lA, c2b, q_x, g_x, l_x, r_x, z_x, q_y, g_y, l_y, r_y, z_y, e1, e3, e4, e31, e32, e33, hlt, hlt2, e63, e64, e65, lu, q_u, g_u, l_u, r_u, z_u, e7, e70, e71, e72, hlt3] <;> omega)), ?c_hy⟩
              (case hm => first | omega | (simp; omega))
              (case hf => simp [FrameL, g_h0, lL, lA, c2b, q_x, g_x, l_x, r_x, z_x, q_y, g_y, l_y, r_y, z_y, e1, e3, e4, e31, e32, e33, hlt, hlt2, e63, e64, e65, lu, q_u, g_u, l_u, r_u, z_u, e7, e70, e71, e72, hlt3, f1_1, f4_1, f63_1, f64_1])
              case c_hy =>
                exact (fun i hi k' hk' => by
                  rcases Nat.lt_succ_iff_lt_or_eq.1 hi with q | q
                  · exact hy i q k' hk'
                  · subst q; exact hz k' (by omega))
          · try simp (disch := first | omega | (simp; done) | fail) [wrap64c, if_pos, if_neg, g_h0, lL, lA, c2b, q_x, g_x, l_x, r_x, z_x, q_y, g_y, l_y, r_y, z_y, e1, e3, e4, e31, e32, e33, hlt, hlt2, e63, e64, e65]
            have hgood : goodB L A = decide (A.sum ≤ 30) := by
              by_cases hs : A.sum ≤ 30
              · rw [goodB_true ⟨by omega, c2, c3, fun r hr => ?_, fun i hi k hk => hy i (by omega) k hk, fun i hi => (hx i (by omega) hi).2.2, hs⟩, decide_eq_true hs]
                obtain ⟨i, hi, rfl⟩ := List.getElem_of_mem hr
                exact ⟨(hx i hi (by omega)).1, (hx i hi (by omega)).2.1⟩
              · rw [goodB_false fun q => hs q.2.2.2.2.2.2, decide_eq_false hs]
            exact done_ret rfl (by rw [hgood]; simp [k0])
      · have hc := l1All_ok h0 _ A 0 30 hA
        rw [decide_eq_false c3] at hc
        refine callG_c (by simp) (by simp) ?ha (hc) ?_
        (case ha => simp (disch := first | omega | (simp; done) | fail) [wrap64c, if_pos, if_neg, g_h0, lL, lA, c2b])
        try simp (disch := first | omega | (simp; done) | fail) [wrap64c, if_pos, if_neg, g_h0, lL, lA, c2b]
        exact done_ret rfl (by rw [goodB_false fun q => c3 q.2.2.1]; simp [k0])
    · have c2b : ((L.length : Int) != (A.length : Int)) = true := by simp [c2]
      try simp (disch := first | omega | (simp; done) | fail) [wrap64c, if_pos, if_neg, g_h0, lL, lA, c2b]
      exact done_ret rfl (by rw [goodB_false fun q => c2 q.2.1]; simp [k0])
  · have hc := l1In_ok h0 A.length 1 5
    rw [decide_eq_false c1] at hc
    refine callG_c (by simp) (by simp) ?ha (hc) ?_
    (case ha => simp (disch := first | omega | (simp; done) | fail) [wrap64c, if_pos, if_neg, g_h0, lL, lA])
    try simp (disch := first | omega | (simp; done) | fail) [wrap64c, if_pos, if_neg, g_h0, lL, lA]
    exact done_ret rfl (by rw [goodB_false fun q => c1 (by have := q.1; omega)]; simp [k0])

theorem within_ok (h : Hp) (a b c : Int) : CallOK Try.prog 51 #[.int .i64 a, .int .i64 b, .int .i64 c] h (.bool (decide (b ≤ a ∧ a ≤ c))) h := by
  refine callY_P 15 _ [.tmp 6] Try.func51 rfl rfl rfl (by first | rfl | simp) ?_
  by_cases hc : b ≤ a
  · try simp (disch := first | omega | (simp; done) | fail) [wrap64c, if_pos, if_neg, hc]
    exact done_ret rfl (by simp [hc])
  · try simp (disch := first | omega | (simp; done) | fail) [wrap64c, if_pos, if_neg, hc]
    exact done_ret rfl (by simp [hc])

set_option maxHeartbeats 4000000 in
theorem imAreChips_ok (h : Hp) (v : Value) (L : List (List Int)) (A : List Int) (hv : Chips h v L A) : CallOK Try.prog 18 #[v] h (.bool (goodB L A)) h := by
  refine callY_P 96 _ [.tmp 2] Try.func18 rfl rfl rfl (by first | rfl | simp) ?_
  obtain ⟨a, b, rfl, hL, hA⟩ := hv
  refine WD_first ?_
  try simp (disch := first | omega | (simp; done) | fail) [wrap64c, if_pos, if_neg]
  refine stopK_heap fun h0 q_h0 => ?_
  refine stopK_go ?_
  have g_h0 : h0.get h.next = .cells [a, b] true true 1 := by simp [q_h0]
  have k_h0 : Adds h h0 := by rw [q_h0]; exact (by first | exact aK | exact kK)
  have n_h0 : h.next < h0.next := by simp [q_h0]; try omega
  have k0 := k_h0.1
  replace hL := hL.keep k0
  replace hA := hA.keep k0
  have lL := hL.lenD
  have lA := hA.lenD
  try simp (disch := first | omega | (simp; done) | fail) [wrap64c, if_pos, if_neg, g_h0, lL, lA]
  by_cases c1 : 1 ≤ (A.length : Int) ∧ (A.length : Int) ≤ 5
  · have hc := within_ok h0 A.length 1 5
    rw [decide_eq_true c1] at hc
    refine callG_c (by simp) (by simp) ?ha (hc) ?_
    (case ha => simp (disch := first | omega | (simp; done) | fail) [wrap64c, if_pos, if_neg, g_h0, lL, lA])
    by_cases c2 : L.length = A.length
    · have c2b : ((L.length : Int) != (A.length : Int)) = false := by simp [c2]
      obtain ⟨o_x, i_x, c_x, cs_x, own_x, ex_x, es_x, us_x, q_x, b_x, g_x, l_x, r_x, R_x⟩ := hL.open ((by omega))
      have z_x : ∀ h2 : i_x < cs_x.length, cs_x[i_x] = _ := fun h2 => r_x 0 ((by omega)) h2
      obtain ⟨o_y, i_y, c_y, cs_y, own_y, ex_y, es_y, q_y, b_y, g_y, l_y, r_y⟩ := hA.open ((by omega))
      have z_y : ∀ h2 : i_y < cs_y.length, cs_y[i_y] = _ := fun h2 => r_y 0 ((by omega)) h2
      try simp (disch := first | omega | (simp; done) | fail) [wrap64c, if_pos, if_neg, g_h0, lL, lA, c2b, q_x, g_x, l_x, r_x, z_x, q_y, g_y, l_y, r_y, z_y]
      refine WD_loopC [1, 3, 25, 26] (fun m tm h' => ∃ j, m = A.length - j ∧ h0 = h' ∧ tm 4 = .int .i64 (A.take j).sum ∧ tm 27 = .int .i64 (j : Int) ∧ (j ≤ A.length) ∧ (∀ i (hi : i < L.length), i < j → L[i].length = A.length) ∧ (∀ i (hi : i < A.length), i < j → 0 ≤ A[i] ∧ A[i] ≤ 30) ∧ (0 ≤ (A.take j).sum ∧ (A.take j).sum ≤ 30 * (j : Int))) _ ⟨0, rfl, rfl, (by simp (disch := first | omega | (simp; done) | fail) [wrap64c, if_pos, if_neg, g_h0, lL, lA, c2b, q_x, g_x, l_x, r_x, z_x, q_y, g_y, l_y, r_y, z_y]), (by simp (disch := first | omega | (simp; done) | fail) [wrap64c, if_pos, if_neg, g_h0, lL, lA, c2b, q_x, g_x, l_x, r_x, z_x, q_y, g_y, l_y, r_y, z_y]), (by first | omega | assumption | (simp (disch := first | omega | (simp; done) | fail) [wrap64c, if_pos, if_neg, g_h0, lL, lA, c2b, q_x, g_x, l_x, r_x, z_x, q_y, g_y, l_y, r_y, z_y] <;> omega)), (by intro i hi h0; omega), (by intro i hi h0; omega), (by simp)⟩ ?_
      rintro m tm h' hFr ⟨j, rfl, rfl, e4, e27, hj, hx, hx2, hs⟩
      simp only [FrameL] at hFr
      obtain ⟨f1_0, f3_0, f25_0, f26_0, -⟩ := hFr
      try simp (disch := first | omega | (simp; done) | fail) [wrap64c, if_pos, if_neg, g_h0, lL, lA, c2b, q_x, g_x, l_x, r_x, z_x, q_y, g_y, l_y, r_y, z_y] at f1_0 f3_0 f25_0 f26_0
      have e1 := f1_0
      have e3 := f3_0
      have e25 := f25_0
      have e26 := f26_0
      by_cases hlt : j < A.length
      · have hlt2 : j < L.length := by omega
        have hu := R_x j hlt2
        have lu := hu.lenD
        by_cases d1 : L[j].length = A.length
        · have d1b : ((L[j].length : Int) != (A.length : Int)) = false := by simp [d1]
          try simp (disch := first | omega | (simp; done) | fail) [wrap64c, if_pos, if_neg, g_h0, lL, lA, c2b, q_x, g_x, l_x, r_x, z_x, q_y, g_y, l_y, r_y, z_y, e1, e3, e4, e25, e26, e27, hlt, hlt2, lu, d1b]
          have hc := within_ok h0 A[j] 0 30
          by_cases b2 : 0 ≤ A[j] ∧ A[j] ≤ 30
          · rw [decide_eq_true b2] at hc
            refine callG_c (by simp) (by simp) ?ha (hc) ?_
            (case ha => simp (disch := first | omega | (simp; done) | fail) [wrap64c, if_pos, if_neg, g_h0, lL, lA, c2b, q_x, g_x, l_x, r_x, z_x, q_y, g_y, l_y, r_y, z_y, e1, e3, e4, e25, e26, e27, hlt, hlt2, lu, d1b])
            try simp (disch := first | omega | (simp; done) | fail) [wrap64c, if_pos, if_neg, g_h0, lL, lA, c2b, q_x, g_x, l_x, r_x, z_x, q_y, g_y, l_y, r_y, z_y, e1, e3, e4, e25, e26, e27, hlt, hlt2, lu, d1b]
            refine loopK_next _ ?hm ?hf ⟨j + 1, rfl, rfl, (by simp [sum_step hlt]), (by simp (disch := first | omega | (simp; done) | fail) [wrap64c, if_pos, if_neg, g_h0, lL, lA, c2b, q_x, g_x, l_x, r_x, z_x, q_y, g_y, l_y, r_y, z_y, e1, e3, e4, e25, e26, e27, hlt, hlt2, lu, d1b] <;> omega), (by first | omega | assumption | (simp (disch := first | omega | (simp; done) | fail) [wrap64c, if_pos, if_neg, g_h0, lL, lA, c2b, q_x, g_x, l_x, r_x, z_x, q_y, g_y, l_y, r_y, z_y, e1, e3, e4, e25, e26, e27, hlt, hlt2, lu, d1b] <;> omega)), ?c_hx, ?c_hx2, (by rw [sum_step hlt]; omega)⟩
            (case hm => first | omega | (simp; omega))
            (case hf => simp [FrameL, g_h0, lL, lA, c2b, q_x, g_x, l_x, r_x, z_x, q_y, g_y, l_y, r_y, z_y, e1, e3, e4, e25, e26, e27, hlt, hlt2, lu, d1b, f1_0, f3_0, f25_0, f26_0])
            case c_hx =>
              exact (fun i hi hij => by
                rcases Nat.lt_succ_iff_lt_or_eq.1 hij with q | q
                · exact hx i hi q
                · subst q; exact d1)
            case c_hx2 =>
              exact (fun i hi hij => by
                rcases Nat.lt_succ_iff_lt_or_eq.1 hij with q | q
                · exact hx2 i hi q
                · subst q; exact b2)
          · rw [decide_eq_false b2] at hc
            refine callG_c (by simp) (by simp) ?ha (hc) ?_
            (case ha => simp (disch := first | omega | (simp; done) | fail) [wrap64c, if_pos, if_neg, g_h0, lL, lA, c2b, q_x, g_x, l_x, r_x, z_x, q_y, g_y, l_y, r_y, z_y, e1, e3, e4, e25, e26, e27, hlt, hlt2, lu, d1b])
            try simp (disch := first | omega | (simp; done) | fail) [wrap64c, if_pos, if_neg, g_h0, lL, lA, c2b, q_x, g_x, l_x, r_x, z_x, q_y, g_y, l_y, r_y, z_y, e1, e3, e4, e25, e26, e27, hlt, hlt2, lu, d1b]
            exact done_ret rfl (by rw [goodB_false fun q => b2 (q.2.2.1 _ (List.getElem_mem hlt))]; simp [k0])
        · have d1b : ((L[j].length : Int) != (A.length : Int)) = true := by simp [d1]
          try simp (disch := first | omega | (simp; done) | fail) [wrap64c, if_pos, if_neg, g_h0, lL, lA, c2b, q_x, g_x, l_x, r_x, z_x, q_y, g_y, l_y, r_y, z_y, e1, e3, e4, e25, e26, e27, hlt, hlt2, lu, d1b]
          exact done_ret rfl (by rw [goodB_false fun q => d1 (q.2.2.2.1 _ (List.getElem_mem hlt2)).1]; simp [k0])
      · have hlt2 : ¬ j < L.length := by omega
        try simp (disch := first | omega | (simp; done) | fail) [wrap64c, if_pos, if_neg, g_h0, lL, lA, c2b, q_x, g_x, l_x, r_x, z_x, q_y, g_y, l_y, r_y, z_y, e1, e3, e4, e25, e26, e27, hlt, hlt2]
        have hj' : j = A.length := by omega
        subst hj'
        rw [List.take_length] at e4 hs
        have c3 : ∀ x ∈ A, 0 ≤ x ∧ x ≤ 30 := fun x hx' => by
          obtain ⟨i, hi, rfl⟩ := List.getElem_of_mem hx'
          exact hx2 i hi hi
        have hrow : ∀ i (hi : i < L.length), L[i].length = A.length := fun i hi => hx i hi (by omega)
        refine WD_loopC [1, 4, 54, 55] (fun m tm h' => ∃ j, m = L.length - j ∧ h0 = h' ∧ tm 56 = .int .i64 (j : Int) ∧ (j ≤ L.length) ∧ (∀ i (hi : i < L.length), i < j → ∀ k, (hk : k < L[i].length) → (0 ≤ L[i][k] ∧ L[i][k] ≤ 3) ∧ el L i k = el L k i ∧ (i = k → el L i k = 0))) _ ⟨0, rfl, rfl, (by simp (disch := first | omega | (simp; done) | fail) [wrap64c, if_pos, if_neg, g_h0, lL, lA, c2b, q_x, g_x, l_x, r_x, z_x, q_y, g_y, l_y, r_y, z_y, e1, e3, e4, e25, e26, e27, hlt, hlt2]), (by first | omega | assumption | (simp (disch := first | omega | (simp; done) | fail) [wrap64c, if_pos, if_neg, g_h0, lL, lA, c2b, q_x, g_x, l_x, r_x, z_x, q_y, g_y, l_y, r_y, z_y, e1, e3, e4, e25, e26, e27, hlt, hlt2] <;> omega)), (by intro i hi h0; omega)⟩ ?_
        rintro m tm h' hFr ⟨j, rfl, rfl, e56, hj, hy⟩
        simp only [FrameL] at hFr
        obtain ⟨f1_1, f4_1, f54_1, f55_1, -⟩ := hFr
        try simp (disch := first | omega | (simp; done) | fail) [wrap64c, if_pos, if_neg, g_h0, lL, lA, c2b, q_x, g_x, l_x, r_x, z_x, q_y, g_y, l_y, r_y, z_y, e1, e3, e4, e25, e26, e27, hlt, hlt2] at f1_1 f4_1 f54_1 f55_1
        have e1 := f1_1
        have e4 := f4_1
        have e54 := f54_1
        have e55 := f55_1
        by_cases hlt : j < L.length
        · have hrj := hrow j hlt
          have hu := R_x j hlt
          have lu := hu.lenD
          obtain ⟨o_u, i_u, c_u, cs_u, own_u, ex_u, es_u, q_u, b_u, g_u, l_u, r_u⟩ := hu.open ((by omega))
          have z_u : ∀ h2 : i_u < cs_u.length, cs_u[i_u] = _ := fun h2 => r_u 0 ((by omega)) h2
          try simp (disch := first | omega | (simp; done) | fail) [wrap64c, if_pos, if_neg, g_h0, lL, lA, c2b, q_x, g_x, l_x, r_x, z_x, q_y, g_y, l_y, r_y, z_y, e1, e3, e4, e25, e26, e27, hlt, hlt2, e54, e55, e56, lu, q_u, g_u, l_u, r_u, z_u]
          refine WD_loopC [1, 4, 7, 54, 55, 56, 61, 62] (fun m tm h' => ∃ k, m = L[j].length - k ∧ h0 = h' ∧ tm 63 = .int .i64 (k : Int) ∧ (k ≤ L[j].length) ∧ (∀ i (hi : i < L[j].length), i < k → (0 ≤ L[j][i] ∧ L[j][i] ≤ 3) ∧ el L j i = el L i j ∧ (j = i → el L j i = 0))) _ ⟨0, rfl, rfl, (by simp (disch := first | omega | (simp; done) | fail) [wrap64c, if_pos, if_neg, g_h0, lL, lA, c2b, q_x, g_x, l_x, r_x, z_x, q_y, g_y, l_y, r_y, z_y, e1, e3, e4, e25, e26, e27, hlt, hlt2, e54, e55, e56, lu, q_u, g_u, l_u, r_u, z_u]), (by first | omega | assumption | (simp (disch := first | omega | (simp; done) | fail) [wrap64c, if_pos, if_neg, g_h0, lL, lA, c2b, q_x, g_x, l_x, r_x, z_x, q_y, g_y, l_y, r_y, z_y, e1, e3, e4, e25, e26, e27, hlt, hlt2, e54, e55, e56, lu, q_u, g_u, l_u, r_u, z_u] <;> omega)), (by intro i hi h0; omega)⟩ ?_
          rintro m tm h' hFr ⟨k, rfl, rfl, e63, hk, hz⟩
          simp only [FrameL] at hFr
          obtain ⟨f1_2, f4_2, f7_2, f54_2, f55_2, f56_2, f61_2, f62_2, -⟩ := hFr
          try simp (disch := first | omega | (simp; done) | fail) [wrap64c, if_pos, if_neg, g_h0, lL, lA, c2b, q_x, g_x, l_x, r_x, z_x, q_y, g_y, l_y, r_y, z_y, e1, e3, e4, e25, e26, e27, hlt, hlt2, e54, e55, e56, lu, q_u, g_u, l_u, r_u, z_u] at f1_2 f4_2 f7_2 f54_2 f55_2 f56_2 f61_2 f62_2
          have e1 := f1_2
          have e4 := f4_2
          have e7 := f7_2
          have e54 := f54_2
          have e55 := f55_2
          have e56 := f56_2
          have e61 := f61_2
          have e62 := f62_2
          by_cases hlt3 : k < L[j].length
          · have hkL : k < L.length := by omega
            have hrk := hrow k hkL
            have hjk : j < L[k].length := by omega
            obtain ⟨o_w, i_w, c_w, cs_w, own_w, ex_w, es_w, q_w, b_w, g_w, l_w, r_w⟩ := (R_x k hkL).open ((by omega))
            have z_w : ∀ h2 : i_w < cs_w.length, cs_w[i_w] = _ := fun h2 => r_w 0 ((by omega)) h2
            have ed1 := el_eq hlt hlt3
            have ed2 := el_eq hkL hjk
            try simp (disch := first | omega | (simp; done) | fail) [wrap64c, if_pos, if_neg, g_h0, lL, lA, c2b, q_x, g_x, l_x, r_x, z_x, q_y, g_y, l_y, r_y, z_y, e1, e3, e4, e25, e26, e27, hlt, hlt2, e54, e55, e56, lu, q_u, g_u, l_u, r_u, z_u, e7, e61, e62, e63, hlt3, hkL, hjk, q_w, g_w, l_w, r_w, z_w]
            have hc := within_ok h0 L[j][k] 0 3
            by_cases b2 : 0 ≤ L[j][k] ∧ L[j][k] ≤ 3
            · rw [decide_eq_true b2] at hc
              refine callG_c (by simp) (by simp) ?ha (hc) ?_
              (case ha => simp (disch := first | omega | (simp; done) | fail) [wrap64c, if_pos, if_neg, g_h0, lL, lA, c2b, q_x, g_x, l_x, r_x, z_x, q_y, g_y, l_y, r_y, z_y, e1, e3, e4, e25, e26, e27, hlt, hlt2, e54, e55, e56, lu, q_u, g_u, l_u, r_u, z_u, e7, e61, e62, e63, hlt3, hkL, hjk, q_w, g_w, l_w, r_w, z_w])
              by_cases hq : L[j][k] = L[k][j]
              · have hqb : (L[j][k] != L[k][j]) = false := by simp [hq]
                by_cases hjk2 : j = k
                · have hjb : ((j : Int) == (k : Int)) = true := by simp [hjk2]
                  by_cases hz0 : L[j][k] = 0
                  · have hzb : (L[j][k] != 0) = false := by simp [hz0]
                    try simp (disch := first | omega | (simp; done) | fail) [wrap64c, if_pos, if_neg, g_h0, lL, lA, c2b, q_x, g_x, l_x, r_x, z_x, q_y, g_y, l_y, r_y, z_y, e1, e3, e4, e25, e26, e27, hlt, hlt2, e54, e55, e56, lu, q_u, g_u, l_u, r_u, z_u, e7, e61, e62, e63, hlt3, hkL, hjk, q_w, g_w, l_w, r_w, z_w, hqb, hjb, hzb]
                    refine loopK_next _ ?hm ?hf ⟨k + 1, rfl, rfl, (by simp (disch := first | omega | (simp; done) | fail) [wrap64c, if_pos, if_neg, g_h0, lL, lA, c2b, q_x, g_x, l_x, r_x, z_x, q_y, g_y, l_y, r_y, z_y, e1, e3, e4, e25, e26, e27, hlt, hlt2, e54, e55, e56, lu, q_u, g_u, l_u, r_u, z_u, e7, e61, e62, e63, hlt3, hkL, hjk, q_w, g_w, l_w, r_w, z_w, hqb, hjb, hzb] <;> omega), (by first | omega | assumption | (simp (disch := first | omega | (simp; done) | fail) [wrap64c, if_pos, if_neg, g_h0, lL, lA, c2b, q_x, g_x, l_x, r_x, z_x, q_y, g_y, l_y, r_y, z_y, e1, e3, e4, e25, e26, e27, hlt, hlt2, e54, e55, e56, lu, q_u, g_u, l_u, r_u, z_u, e7, e61, e62, e63, hlt3, hkL, hjk, q_w, g_w, l_w, r_w, z_w, hqb, hjb, hzb] <;> omega)), ?c_hz⟩
                    (case hm => first | omega | (simp; omega))
                    (case hf => simp [FrameL, g_h0, lL, lA, c2b, q_x, g_x, l_x, r_x, z_x, q_y, g_y, l_y, r_y, z_y, e1, e3, e4, e25, e26, e27, hlt, hlt2, e54, e55, e56, lu, q_u, g_u, l_u, r_u, z_u, e7, e61, e62, e63, hlt3, hkL, hjk, q_w, g_w, l_w, r_w, z_w, hqb, hjb, hzb, f1_2, f4_2, f7_2, f54_2, f55_2, f56_2, f61_2, f62_2])
                    case c_hz =>
                      exact (fun i hi hik => by
                        rcases Nat.lt_succ_iff_lt_or_eq.1 hik with q | q
                        · exact hz i hi q
                        · subst q; exact ⟨b2, by rw [ed1, ed2, hq], fun _ => by rw [ed1, hz0]⟩)
                  · have hzb : (L[j][k] != 0) = true := by simp [hz0]
                    try simp (disch := first | omega | (simp; done) | fail) [wrap64c, if_pos, if_neg, g_h0, lL, lA, c2b, q_x, g_x, l_x, r_x, z_x, q_y, g_y, l_y, r_y, z_y, e1, e3, e4, e25, e26, e27, hlt, hlt2, e54, e55, e56, lu, q_u, g_u, l_u, r_u, z_u, e7, e61, e62, e63, hlt3, hkL, hjk, q_w, g_w, l_w, r_w, z_w, hqb, hjb, hzb]
                    exact done_ret rfl (by rw [goodB_false fun q => hz0 (by rw [← ed1, ← hjk2]; exact q.2.2.2.2.2.1 j (by omega))]; simp [k0])
                · have hjb : ((j : Int) == (k : Int)) = false := by simp [hjk2]
                  try simp (disch := first | omega | (simp; done) | fail) [wrap64c, if_pos, if_neg, g_h0, lL, lA, c2b, q_x, g_x, l_x, r_x, z_x, q_y, g_y, l_y, r_y, z_y, e1, e3, e4, e25, e26, e27, hlt, hlt2, e54, e55, e56, lu, q_u, g_u, l_u, r_u, z_u, e7, e61, e62, e63, hlt3, hkL, hjk, q_w, g_w, l_w, r_w, z_w, hqb, hjb]
                  refine loopK_next _ ?hm ?hf ⟨k + 1, rfl, rfl, (by simp (disch := first | omega | (simp; done) | fail) [wrap64c, if_pos, if_neg, g_h0, lL, lA, c2b, q_x, g_x, l_x, r_x, z_x, q_y, g_y, l_y, r_y, z_y, e1, e3, e4, e25, e26, e27, hlt, hlt2, e54, e55, e56, lu, q_u, g_u, l_u, r_u, z_u, e7, e61, e62, e63, hlt3, hkL, hjk, q_w, g_w, l_w, r_w, z_w, hqb, hjb] <;> omega), (by first | omega | assumption | (simp (disch := first | omega | (simp; done) | fail) [wrap64c, if_pos, if_neg, g_h0, lL, lA, c2b, q_x, g_x, l_x, r_x, z_x, q_y, g_y, l_y, r_y, z_y, e1, e3, e4, e25, e26, e27, hlt, hlt2, e54, e55, e56, lu, q_u, g_u, l_u, r_u, z_u, e7, e61, e62, e63, hlt3, hkL, hjk, q_w, g_w, l_w, r_w, z_w, hqb, hjb] <;> omega)), ?c_hz⟩
                  (case hm => first | omega | (simp; omega))
                  (case hf => simp [FrameL, g_h0, lL, lA, c2b, q_x, g_x, l_x, r_x, z_x, q_y, g_y, l_y, r_y, z_y, e1, e3, e4, e25, e26, e27, hlt, hlt2, e54, e55, e56, lu, q_u, g_u, l_u, r_u, z_u, e7, e61, e62, e63, hlt3, hkL, hjk, q_w, g_w, l_w, r_w, z_w, hqb, hjb, f1_2, f4_2, f7_2, f54_2, f55_2, f56_2, f61_2, f62_2])
                  case c_hz =>
                    exact (fun i hi hik => by
                      rcases Nat.lt_succ_iff_lt_or_eq.1 hik with q | q
                      · exact hz i hi q
                      · subst q; exact ⟨b2, by rw [ed1, ed2, hq], fun q => absurd q hjk2⟩)
              · have hqb : (L[j][k] != L[k][j]) = true := by simp [hq]
                try simp (disch := first | omega | (simp; done) | fail) [wrap64c, if_pos, if_neg, g_h0, lL, lA, c2b, q_x, g_x, l_x, r_x, z_x, q_y, g_y, l_y, r_y, z_y, e1, e3, e4, e25, e26, e27, hlt, hlt2, e54, e55, e56, lu, q_u, g_u, l_u, r_u, z_u, e7, e61, e62, e63, hlt3, hkL, hjk, q_w, g_w, l_w, r_w, z_w, hqb]
                exact done_ret rfl (by rw [goodB_false fun q => hq (by rw [← ed1, ← ed2]; exact q.2.2.2.2.1 j (by omega) k (by omega))]; simp [k0])
            · rw [decide_eq_false b2] at hc
              refine callG_c (by simp) (by simp) ?ha (hc) ?_
              (case ha => simp (disch := first | omega | (simp; done) | fail) [wrap64c, if_pos, if_neg, g_h0, lL, lA, c2b, q_x, g_x, l_x, r_x, z_x, q_y, g_y, l_y, r_y, z_y, e1, e3, e4, e25, e26, e27, hlt, hlt2, e54, e55, e56, lu, q_u, g_u, l_u, r_u, z_u, e7, e61, e62, e63, hlt3, hkL, hjk, q_w, g_w, l_w, r_w, z_w])
              try simp (disch := first | omega | (simp; done) | fail) [wrap64c, if_pos, if_neg, g_h0, lL, lA, c2b, q_x, g_x, l_x, r_x, z_x, q_y, g_y, l_y, r_y, z_y, e1, e3, e4, e25, e26, e27, hlt, hlt2, e54, e55, e56, lu, q_u, g_u, l_u, r_u, z_u, e7, e61, e62, e63, hlt3, hkL, hjk, q_w, g_w, l_w, r_w, z_w]
              exact done_ret rfl (by rw [goodB_false fun q => b2 ((q.2.2.2.1 _ (List.getElem_mem hlt)).2 _ (List.getElem_mem hlt3))]; simp [k0])
          · try simp (disch := first | omega | (simp; done) | fail) [wrap64c, if_pos, if_neg, g_h0, lL, lA, c2b, q_x, g_x, l_x, r_x, z_x, q_y, g_y, l_y, r_y, z_y, e1, e3, e4, e25, e26, e27, hlt, hlt2, e54, e55, e56, lu, q_u, g_u, l_u, r_u, z_u, e7, e61, e62, e63, hlt3]
            refine loopK_next _ ?hm ?hf ⟨j + 1, rfl, rfl, (by simp (disch := first | omega | (simp; done) | fail) [wrap64c, if_pos, if_neg, g_h0, lL, lA, c2b, q_x, g_x, l_x, r_x, z_x, q_y, g_y, l_y, r_y, z_y, e1, e3, e4, e25, e26, e27, hlt, hlt2, e54, e55, e56, lu, q_u, g_u, l_u, r_u, z_u, e7, e61, e62, e63, hlt3] <;> omega), (by first | omega | assumption | (simp (disch := first | omega | (simp; done) | fail) [wrap64c, if_pos, if_neg, g_h0, lL, lA, c2b, q_x, g_x, l_x, r_x, z_x, q_y, g_y, l_y, r_y, z_y, e1, e3, e4, e25, e26, e27, hlt, hlt2, e54, e55, e56, lu, q_u, g_u, l_u, r_u, z_u, e7, e61, e62, e63, hlt3] <;> omega)), ?c_hy⟩
            (case hm => first | omega | (simp; omega))
            (case hf => simp [FrameL, g_h0, lL, lA, c2b, q_x, g_x, l_x, r_x, z_x, q_y, g_y, l_y, r_y, z_y, e1, e3, e4, e25, e26, e27, hlt, hlt2, e54, e55, e56, lu, q_u, g_u, l_u, r_u, z_u, e7, e61, e62, e63, hlt3, f1_1, f4_1, f54_1, f55_1])
            case c_hy =>
              exact (fun i hi hij k' hk' => by
                rcases Nat.lt_succ_iff_lt_or_eq.1 hij with q | q
                · exact hy i hi q k' hk'
                · subst q; exact hz k' hk' (by omega))
        · try simp (disch := first | omega | (simp; done) | fail) [wrap64c, if_pos, if_neg, g_h0, lL, lA, c2b, q_x, g_x, l_x, r_x, z_x, q_y, g_y, l_y, r_y, z_y, e1, e3, e4, e25, e26, e27, hlt, hlt2, e54, e55, e56]
          have hgood : goodB L A = decide (A.sum ≤ 30) := by
            by_cases hs : A.sum ≤ 30
            · rw [goodB_true ⟨by omega, c2, c3, fun r hr => ?_, fun i hi k hk => ?_, fun i hi => ?_, hs⟩, decide_eq_true hs]
              · obtain ⟨i, hi, rfl⟩ := List.getElem_of_mem hr
                refine ⟨hrow i hi, fun x hx' => ?_⟩
                obtain ⟨k, hk, rfl⟩ := List.getElem_of_mem hx'
                exact (hy i hi (by omega) k hk).1
              · have hiL : i < L.length := by omega
                exact (hy i hiL (by omega) k (by rw [hrow i hiL]; exact hk)).2.1
              · have hiL : i < L.length := by omega
                exact (hy i hiL (by omega) i (by rw [hrow i hiL]; exact hi)).2.2 rfl
            · rw [goodB_false fun q => hs q.2.2.2.2.2.2, decide_eq_false hs]
          exact done_ret rfl (by rw [hgood]; simp [k0])
    · have c2b : ((L.length : Int) != (A.length : Int)) = true := by simp [c2]
      try simp (disch := first | omega | (simp; done) | fail) [wrap64c, if_pos, if_neg, g_h0, lL, lA, c2b]
      exact done_ret rfl (by rw [goodB_false fun q => c2 q.2.1]; simp [k0])
  · have hc := within_ok h0 A.length 1 5
    rw [decide_eq_false c1] at hc
    refine callG_c (by simp) (by simp) ?ha (hc) ?_
    (case ha => simp (disch := first | omega | (simp; done) | fail) [wrap64c, if_pos, if_neg, g_h0, lL, lA])
    try simp (disch := first | omega | (simp; done) | fail) [wrap64c, if_pos, if_neg, g_h0, lL, lA]
    exact done_ret rfl (by rw [goodB_false fun q => c1 (by have := q.1; omega)]; simp [k0])
end Go.Proofs.Ytnnjehonbolliaa
