/- Lists compared: slices.Compare, alBefore, l1Same, l1Has. -/
import Derived.Test.YtnjabaeajjhliaaT1
namespace Go.Proofs.Ytnjabaeajjhliaa
set_option linter.unusedSimpArgs false
set_option linter.unusedVariables false
set_option maxHeartbeats 4000000
open Go Go.Eng
attribute [local irreducible] WD RunD PreD Runs CallOK

def cmpI (a b : Int) : Int := if a < b then -1 else if b < a then 1 else 0
def cmpL : List Int → List Int → Int
  | [], [] => 0
  | [], _ :: _ => -1
  | _ :: _, [] => 1
  | a :: x, b :: y => if a = b then cmpL x y else cmpI a b
theorem cmpI_ne {a b : Int} (h : a ≠ b) : cmpI a b ≠ 0 := by
  unfold cmpI
  split
  · omega
  · split <;> omega
theorem cmpL_zero : ∀ (x y : List Int), cmpL x y = 0 ↔ x = y
  | [], [] => by simp [cmpL]
  | [], _ :: _ => by simp [cmpL]
  | _ :: _, [] => by simp [cmpL]
  | a :: x, b :: y => by
    rw [cmpL]
    by_cases h : a = b
    · rw [if_pos h, cmpL_zero x y, h]; simp
    · rw [if_neg h]; simp [cmpI_ne h, h]
theorem cmpL_step {x y : List Int} {j : Nat} (h1 : j < x.length) (h2 : j < y.length) : cmpL (x.drop j) (y.drop j) = if x[j] = y[j] then cmpL (x.drop (j + 1)) (y.drop (j + 1)) else cmpI x[j] y[j] := by
  rw [List.drop_eq_getElem_cons h1, List.drop_eq_getElem_cons h2, cmpL]
theorem cmpL_out1 {x y : List Int} {j : Nat} (h1 : x.length ≤ j) : cmpL (x.drop j) (y.drop j) = if j < y.length then -1 else 0 := by
  rw [List.drop_eq_nil_of_le h1]
  by_cases h : j < y.length
  · rw [List.drop_eq_getElem_cons h, if_pos h]; rfl
  · rw [List.drop_eq_nil_of_le (by omega), if_neg h]; rfl
theorem cmpL_out2 {x y : List Int} {j : Nat} (h1 : j < x.length) (h2 : y.length ≤ j) : cmpL (x.drop j) (y.drop j) = 1 := by
  rw [List.drop_eq_nil_of_le h2, List.drop_eq_getElem_cons h1]; rfl

theorem isNaN_ok (h : Hp) (a : Int) : CallOK Try.prog 185 #[.int .i64 a] h (.bool false) h := by
  refine callY_P 6 _ [.tmp 2] Try.func185 rfl rfl rfl (by first | rfl | simp) ?_
  try simp (disch := first | omega | (simp; done) | fail) [wrap64c, if_pos, if_neg]
  exact done_ret rfl (by simp)
theorem cmpCompare_ok (h : Hp) (a b : Int) : CallOK Try.prog 166 #[.int .i64 a, .int .i64 b] h (.int .i64 (cmpI a b)) h := by
  refine callY_P 20 _ [.tmp 4] Try.func166 rfl rfl rfl (by first | rfl | simp) ?_
  try simp (disch := first | omega | (simp; done) | fail) [wrap64c, if_pos, if_neg]
  refine callG_c (by simp) (by simp) ?ha (isNaN_ok h a) ?_
  (case ha => simp (disch := first | omega | (simp; done) | fail) [wrap64c, if_pos, if_neg])
  try simp (disch := first | omega | (simp; done) | fail) [wrap64c, if_pos, if_neg]
  refine callG_c (by simp) (by simp) ?ha (isNaN_ok h b) ?_
  (case ha => simp (disch := first | omega | (simp; done) | fail) [wrap64c, if_pos, if_neg])
  by_cases h1 : a < b
  · try simp (disch := first | omega | (simp; done) | fail) [wrap64c, if_pos, if_neg, h1]
    exact done_ret rfl (by simp [cmpI, h1])
  · by_cases h2 : b < a
    · try simp (disch := first | omega | (simp; done) | fail) [wrap64c, if_pos, if_neg, h1, h2]
      exact done_ret rfl (by simp [cmpI, h1, h2])
    · try simp (disch := first | omega | (simp; done) | fail) [wrap64c, if_pos, if_neg, h1, h2]
      exact done_ret rfl (by simp [cmpI, h1, h2])
theorem slicesCompare_ok (h : Hp) (v w : Value) (X Y : List Int) (hv : Ints h v X) (hw : Ints h w Y) : CallOK Try.prog 126 #[v, w] h (.int .i64 (cmpL X Y)) h := by
  refine callY_P 36 _ [.tmp 4] Try.func126 rfl rfl rfl (by first | rfl | simp) ?_
  have hL := hv.lenD
  have hM := hw.lenD
  have hlx := hv.len
  have hly := hw.len
  try simp (disch := first | omega | (simp; done) | fail) [wrap64c, if_pos, if_neg, hL, hM]
  refine WD_loopC [0, 1, 9, 10] (fun m tm h' => ∃ j, m = X.length - j ∧ h = h' ∧ tm 11 = .int .i64 (j : Int) ∧ (j ≤ X.length) ∧ (cmpL X Y = cmpL (X.drop j) (Y.drop j))) _ ⟨0, rfl, rfl, (by simp (disch := first | omega | (simp; done) | fail) [wrap64c, if_pos, if_neg, hL, hM]), (by first | omega | assumption | (simp (disch := first | omega | (simp; done) | fail) [wrap64c, if_pos, if_neg, hL, hM] <;> omega)), (by simp)⟩ ?_
  rintro m tm h' hFr ⟨j, rfl, rfl, e11, hj, hx⟩
  simp only [FrameL] at hFr
  obtain ⟨f0_0, f1_0, f9_0, f10_0, -⟩ := hFr
  try simp (disch := first | omega | (simp; done) | fail) [wrap64c, if_pos, if_neg, hL, hM] at f0_0 f1_0 f9_0 f10_0
  have e0 := f0_0
  have e1 := f1_0
  have e9 := f9_0
  have e10 := f10_0
  by_cases hlt : j < X.length
  · obtain ⟨o_x, i_x, c_x, cs_x, own_x, ex_x, es_x, q_x, b_x, g_x, l_x, r_x⟩ := hv.open ((by omega))
    have z_x : ∀ h2 : i_x < cs_x.length, cs_x[i_x] = _ := fun h2 => r_x 0 ((by omega)) h2
    by_cases hlt2 : j < Y.length
    · have hge : ¬ ((Y.length : Int) ≤ (j : Int)) := by omega
      obtain ⟨o_y, i_y, c_y, cs_y, own_y, ex_y, es_y, q_y, b_y, g_y, l_y, r_y⟩ := hw.open ((by omega))
      have z_y : ∀ h2 : i_y < cs_y.length, cs_y[i_y] = _ := fun h2 => r_y 0 ((by omega)) h2
      try simp (disch := first | omega | (simp; done) | fail) [wrap64c, if_pos, if_neg, hL, hM, e0, e1, e9, e10, e11, hlt, q_x, g_x, l_x, r_x, z_x, hge, hlt2, q_y, g_y, l_y, r_y, z_y]
      refine callG_c (by simp) (by simp) ?ha (cmpCompare_ok h X[j] Y[j]) ?_
      (case ha => simp (disch := first | omega | (simp; done) | fail) [wrap64c, if_pos, if_neg, hL, hM, e0, e1, e9, e10, e11, hlt, q_x, g_x, l_x, r_x, z_x, hge, hlt2, q_y, g_y, l_y, r_y, z_y])
      have hst := cmpL_step hlt hlt2
      by_cases he : X[j] = Y[j]
      · have hz : cmpI X[j] Y[j] = 0 := by simp [cmpI, he]
        rw [if_pos he] at hst
        try simp (disch := first | omega | (simp; done) | fail) [wrap64c, if_pos, if_neg, hL, hM, e0, e1, e9, e10, e11, hlt, q_x, g_x, l_x, r_x, z_x, hge, hlt2, q_y, g_y, l_y, r_y, z_y, hz]
        refine loopK_next _ ?hm ?hf ⟨j + 1, rfl, rfl, (by simp (disch := first | omega | (simp; done) | fail) [wrap64c, if_pos, if_neg, hL, hM, e0, e1, e9, e10, e11, hlt, q_x, g_x, l_x, r_x, z_x, hge, hlt2, q_y, g_y, l_y, r_y, z_y] <;> omega), (by first | omega | assumption | (simp (disch := first | omega | (simp; done) | fail) [wrap64c, if_pos, if_neg, hL, hM, e0, e1, e9, e10, e11, hlt, q_x, g_x, l_x, r_x, z_x, hge, hlt2, q_y, g_y, l_y, r_y, z_y] <;> omega)), (by rw [hx, hst])⟩
        (case hm => first | omega | (simp; omega))
        (case hf => simp [FrameL, hL, hM, e0, e1, e9, e10, e11, hlt, q_x, g_x, l_x, r_x, z_x, hge, hlt2, q_y, g_y, l_y, r_y, z_y, f0_0, f1_0, f9_0, f10_0])
      · have hz := cmpI_ne he
        rw [if_neg he] at hst
        try simp (disch := first | omega | (simp; done) | fail) [wrap64c, if_pos, if_neg, hL, hM, e0, e1, e9, e10, e11, hlt, q_x, g_x, l_x, r_x, z_x, hge, hlt2, q_y, g_y, l_y, r_y, z_y, hz]
        exact done_ret rfl (by simp [hx, hst])
    · have hge : (Y.length : Int) ≤ (j : Int) := by omega
      try simp (disch := first | omega | (simp; done) | fail) [wrap64c, if_pos, if_neg, hL, hM, e0, e1, e9, e10, e11, hlt, q_x, g_x, l_x, r_x, z_x, hge]
      exact done_ret rfl (by simp [hx, cmpL_out2 hlt (show Y.length ≤ j by omega)])
  · have e : j = X.length := by omega
    have ho := cmpL_out1 (x := X) (y := Y) (j := j) (by omega)
    by_cases hlt2 : X.length < Y.length
    · rw [if_pos (by omega)] at ho
      try simp (disch := first | omega | (simp; done) | fail) [wrap64c, if_pos, if_neg, hL, hM, e0, e1, e9, e10, e11, hlt, hlt2]
      exact done_ret rfl (by simp [hx, ho])
    · rw [if_neg (by omega)] at ho
      try simp (disch := first | omega | (simp; done) | fail) [wrap64c, if_pos, if_neg, hL, hM, e0, e1, e9, e10, e11, hlt, hlt2]
      exact done_ret rfl (by simp [hx, ho])

theorem l1Same_ok (h : Hp) (v w : Value) (X Y : List Int) (hv : Ints h v X) (hw : Ints h w Y) : CallOK Try.prog 70 #[v, w] h (.bool (decide (cmpL X Y = 0))) h := by
  refine callY_P 26 _ [.tmp 4] Try.func70 rfl rfl rfl (by first | rfl | simp) ?_
  have hL := hv.lenD
  have hM := hw.lenD
  have hlx := hv.len
  have hly := hw.len
  by_cases hl : X.length = Y.length
  · have hlb : ((X.length : Int) != (Y.length : Int)) = false := by simp [hl]
    try simp (disch := first | omega | (simp; done) | fail) [wrap64c, if_pos, if_neg, hL, hM, hlb]
    refine WD_loopC [0, 1, 12] (fun m tm h' => ∃ j, m = X.length - j ∧ h = h' ∧ tm 13 = .int .i64 (j : Int) ∧ (j ≤ X.length) ∧ (∀ i (h1 : i < X.length) (h2 : i < Y.length), i < j → X[i] = Y[i])) _ ⟨0, rfl, rfl, (by simp (disch := first | omega | (simp; done) | fail) [wrap64c, if_pos, if_neg, hL, hM, hlb]), (by first | omega | assumption | (simp (disch := first | omega | (simp; done) | fail) [wrap64c, if_pos, if_neg, hL, hM, hlb] <;> omega)), (by intro i h1 h2 h3; omega)⟩ ?_
    rintro m tm h' hFr ⟨j, rfl, rfl, e13, hj, hx⟩
    simp only [FrameL] at hFr
    obtain ⟨f0_0, f1_0, f12_0, -⟩ := hFr
    try simp (disch := first | omega | (simp; done) | fail) [wrap64c, if_pos, if_neg, hL, hM, hlb] at f0_0 f1_0 f12_0
    have e0 := f0_0
    have e1 := f1_0
    have e12 := f12_0
    by_cases hlt : j < X.length
    · have hlt2 : j < Y.length := by omega
      obtain ⟨o_x, i_x, c_x, cs_x, own_x, ex_x, es_x, q_x, b_x, g_x, l_x, r_x⟩ := hv.open ((by omega))
      have z_x : ∀ h2 : i_x < cs_x.length, cs_x[i_x] = _ := fun h2 => r_x 0 ((by omega)) h2
      obtain ⟨o_y, i_y, c_y, cs_y, own_y, ex_y, es_y, q_y, b_y, g_y, l_y, r_y⟩ := hw.open ((by omega))
      have z_y : ∀ h2 : i_y < cs_y.length, cs_y[i_y] = _ := fun h2 => r_y 0 ((by omega)) h2
      try simp (disch := first | omega | (simp; done) | fail) [wrap64c, if_pos, if_neg, hL, hM, hlb, e0, e1, e12, e13, hlt, hlt2, q_x, g_x, l_x, r_x, z_x, q_y, g_y, l_y, r_y, z_y]
      refine WD_drawC 8 rfl (by kernel_rfl) ?_
      by_cases he : X[j] = Y[j]
      · have hb : (X[j] != Y[j]) = false := by simp [he]
        try simp (disch := first | omega | (simp; done) | fail) [wrap64c, if_pos, if_neg, hL, hM, hlb, e0, e1, e12, e13, hlt, hlt2, q_x, g_x, l_x, r_x, z_x, q_y, g_y, l_y, r_y, z_y, hb]
        refine loopK_next _ ?hm ?hf ⟨j + 1, rfl, rfl, (by simp (disch := first | omega | (simp; done) | fail) [wrap64c, if_pos, if_neg, hL, hM, hlb, e0, e1, e12, e13, hlt, hlt2, q_x, g_x, l_x, r_x, z_x, q_y, g_y, l_y, r_y, z_y] <;> omega), (by first | omega | assumption | (simp (disch := first | omega | (simp; done) | fail) [wrap64c, if_pos, if_neg, hL, hM, hlb, e0, e1, e12, e13, hlt, hlt2, q_x, g_x, l_x, r_x, z_x, q_y, g_y, l_y, r_y, z_y] <;> omega)), ?c_hx⟩
        (case hm => first | omega | (simp; omega))
        (case hf => simp [FrameL, hL, hM, hlb, e0, e1, e12, e13, hlt, hlt2, q_x, g_x, l_x, r_x, z_x, q_y, g_y, l_y, r_y, z_y, f0_0, f1_0, f12_0])
        case c_hx =>
          exact (fun i h1 h2 hi => by
            by_cases e : i = j
            · subst e; exact he
            · exact hx i h1 h2 (by omega))
      · have hb : (X[j] != Y[j]) = true := by simp [he]
        have hne : cmpL X Y ≠ 0 := fun e => he (by have := (cmpL_zero X Y).1 e; subst this; rfl)
        try simp (disch := first | omega | (simp; done) | fail) [wrap64c, if_pos, if_neg, hL, hM, hlb, e0, e1, e12, e13, hlt, hlt2, q_x, g_x, l_x, r_x, z_x, q_y, g_y, l_y, r_y, z_y, hb]
        exact done_ret rfl (by simp [hne])
    · try simp (disch := first | omega | (simp; done) | fail) [wrap64c, if_pos, if_neg, hL, hM, hlb, e0, e1, e12, e13, hlt]
      have e : X = Y := List.ext_getElem hl fun i h1 h2 => hx i h1 h2 (by omega)
      have e0 := (cmpL_zero X Y).2 e
      exact done_ret rfl (by simp [e0])
  · have hlb : ((X.length : Int) != (Y.length : Int)) = true := by simp; omega
    have hne : cmpL X Y ≠ 0 := fun e => hl (by rw [(cmpL_zero X Y).1 e])
    try simp (disch := first | omega | (simp; done) | fail) [wrap64c, if_pos, if_neg, hL, hM, hlb]
    exact done_ret rfl (by simp [hne])
end Go.Proofs.Ytnjabaeajjhliaa
