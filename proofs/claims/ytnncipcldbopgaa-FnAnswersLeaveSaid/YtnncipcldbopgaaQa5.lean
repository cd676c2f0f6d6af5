/- Part 5 of the proof of answersLeave_holds: what it uses of the texts that lie in the notes, merged. -/
import Derived.Test.YtnncipcldbopgaaQa4
namespace Go.Proofs.Ytnncipcldbopgaa
set_option linter.unusedSimpArgs false
set_option linter.unusedVariables false
set_option maxHeartbeats 4000000
open Go Go.Eng
attribute [local irreducible] WD RunD PreD Runs CallOK
theorem leftN_snoc (xs : List Nat) (x y z : Nat) : leftN (xs ++ [x]) y z = if leftB y z x = true then leftN xs y z ++ [x] else leftN xs y z := by
  unfold leftN
  rw [List.filter_append]
  by_cases h : leftB y z x = true <;> simp [h]
theorem left_take {xs : List Nat} {j : Nat} (hj : j < xs.length) (y z : Nat) : leftN (xs.take (j + 1)) y z = if leftB y z xs[j] = true then leftN (xs.take j) y z ++ [xs[j]] else leftN (xs.take j) y z := by
  rw [List.take_succ_eq_append_getElem hj, leftN_snoc]
theorem part_ok (h : Hp) (a b : Nat) (ha : a < 128) (hb : b < 128) : CallOK Try.prog 129 #[.int .i64 (a : Int), .int .i64 (b : Int)] h (.bool (ndiff a b == 0)) h := by
  refine callY_P 9 _ [.tmp 4] Try.func129 rfl rfl rfl (by first | rfl | simp) ?_
  by_cases hd : ndiff a b = 0
  · try simp (disch := first | omega | (simp; done) | fail) [wrap64c, if_pos, if_neg, opAnd, opOr, opXor, opDiff, opShr, opBit, hd]
    exact done_ret rfl (by simp [hd])
  · have hb1 : (((ndiff a b : Nat) : Int) == 0) = false := by simp [hd]
    have hb2 : (ndiff a b == 0) = false := by simp [hd]
    try simp (disch := first | omega | (simp; done) | fail) [wrap64c, if_pos, if_neg, opAnd, opOr, opXor, opDiff, opShr, opBit, hd]
    exact done_ret rfl (by simp [hb1, hb2])
theorem imLeft_ok (h : Hp) (v : Value) (N : Int) (xs : List Nat) (y z : Nat) (hv : Space h v N (toN xs)) (hx : ∀ x ∈ xs, x < 128) (hl : xs.length < 2 ^ 39) (hy : y < 128) (hz : z < 128) :
    ∃ v' h', CallOK Try.prog 161 #[v, .int .i64 (y : Int), .int .i64 (z : Int)] h v' h' ∧ Adds h h' ∧ IntsO (Btw h.next h'.next) h' v' (toN (leftN xs y z)) := by
  refine callY_L (args := [v, .int .i64 (y : Int), .int .i64 (z : Int)]) 33 _ [.tmp 6] Try.func161 rfl rfl rfl ?_
  obtain ⟨b, rfl, hX⟩ := hv
  have hL := hX.lenD
  have hgt := toN_get xs
  have hln := toN_length xs
  try simp (disch := first | omega | (simp; done) | fail) [wrap64c, if_pos, if_neg, opAnd, opOr, opXor, opDiff, opShr, opBit, hL, hgt]
  refine WD_loopC [1, 2, 12, 13] (fun m tm h' => ∃ j u, m = xs.length - j ∧ tm 7 = u ∧ tm 14 = .int .i64 (j : Int) ∧ (j ≤ xs.length) ∧ (Adds h h') ∧ (h.next < h'.next) ∧ (IntsA (h.next + 1) h' u (toN (leftN (xs.take j) y z)))) _ ⟨0, _, rfl, (by simp (disch := first | omega | (simp; done) | fail) [wrap64c, if_pos, if_neg, opAnd, opOr, opXor, opDiff, opShr, opBit, hL, hgt]), (by simp (disch := first | omega | (simp; done) | fail) [wrap64c, if_pos, if_neg, opAnd, opOr, opXor, opDiff, opShr, opBit, hL, hgt]), (by first | omega | assumption | (simp (disch := first | omega | (simp; done) | fail) [wrap64c, if_pos, if_neg, opAnd, opOr, opXor, opDiff, opShr, opBit, hL, hgt] <;> omega)), (by first | exact aK | exact kK), (by simp), (.lit (ex := true) (Nat.le_refl _) (by simp) (by simp))⟩ ?_
  rintro m tm h' hFr ⟨j, u, rfl, e7, e14, hj, ha, hn, hu⟩
  simp only [FrameL] at hFr
  obtain ⟨f1_0, f2_0, f12_0, f13_0, -⟩ := hFr
  try simp (disch := first | omega | (simp; done) | fail) [wrap64c, if_pos, if_neg, opAnd, opOr, opXor, opDiff, opShr, opBit, hL, hgt] at f1_0 f2_0 f12_0 f13_0
  have e1 := f1_0
  have e2 := f2_0
  have e12 := f12_0
  have e13 := f13_0
  by_cases hlt : j < xs.length
  · obtain ⟨o_x, i_x, c_x, cs_x, own_x, ex_x, es_x, q_x, b_x, g_x, l_x, r_x⟩ := (hX.keep ha.1).open ((by omega))
    have z_x : ∀ h2 : i_x < cs_x.length, cs_x[i_x] = _ := fun h2 => r_x 0 ((by omega)) h2
    have hx1 := hx _ (List.getElem_mem hlt)
    have hs := left_take hlt y z
    have hle := left_len (xs.take j) y z
    have htl : (xs.take j).length ≤ xs.length := by simp; omega
    have hab : nAnd xs[j] z ≤ xs[j] := nAnd_le _ _
    try simp (disch := first | omega | (simp; done) | fail) [wrap64c, if_pos, if_neg, opAnd, opOr, opXor, opDiff, opShr, opBit, hL, hgt, e1, e2, e7, e12, e13, e14, hlt, q_x, g_x, l_x, r_x, z_x]
    refine callG_c (by simp) (by simp) ?ha (part_ok h' y xs[j] hy hx1) ?_
    (case ha => simp (disch := first | omega | (simp; done) | fail) [wrap64c, if_pos, if_neg, opAnd, opOr, opXor, opDiff, opShr, opBit, hL, hgt, e1, e2, e7, e12, e13, e14, hlt, q_x, g_x, l_x, r_x, z_x])
    cases h1 : (ndiff y xs[j] == 0)
    · have hlb : leftB y z xs[j] = false := by unfold leftB; rw [h1]; rfl
      rw [hlb] at hs
      try simp (disch := first | omega | (simp; done) | fail) [wrap64c, if_pos, if_neg, opAnd, opOr, opXor, opDiff, opShr, opBit, hL, hgt, e1, e2, e7, e12, e13, e14, hlt, q_x, g_x, l_x, r_x, z_x, h1]
      refine loopK_next _ ?hm ?hf ⟨j + 1, u, rfl, (by simp (disch := first | omega | (simp; done) | fail) [wrap64c, if_pos, if_neg, opAnd, opOr, opXor, opDiff, opShr, opBit, hL, hgt, e1, e2, e7, e12, e13, e14, hlt, q_x, g_x, l_x, r_x, z_x, h1] <;> omega), (by simp (disch := first | omega | (simp; done) | fail) [wrap64c, if_pos, if_neg, opAnd, opOr, opXor, opDiff, opShr, opBit, hL, hgt, e1, e2, e7, e12, e13, e14, hlt, q_x, g_x, l_x, r_x, z_x, h1] <;> omega), (by first | omega | assumption | (simp (disch := first | omega | (simp; done) | fail) [wrap64c, if_pos, if_neg, opAnd, opOr, opXor, opDiff, opShr, opBit, hL, hgt, e1, e2, e7, e12, e13, e14, hlt, q_x, g_x, l_x, r_x, z_x, h1] <;> omega)), (by first | omega | assumption | (simp (disch := first | omega | (simp; done) | fail) [wrap64c, if_pos, if_neg, opAnd, opOr, opXor, opDiff, opShr, opBit, hL, hgt, e1, e2, e7, e12, e13, e14, hlt, q_x, g_x, l_x, r_x, z_x, h1] <;> omega)), (by first | omega | assumption | (simp (disch := first | omega | (simp; done) | fail) [wrap64c, if_pos, if_neg, opAnd, opOr, opXor, opDiff, opShr, opBit, hL, hgt, e1, e2, e7, e12, e13, e14, hlt, q_x, g_x, l_x, r_x, z_x, h1] <;> omega)), (by rw [hs]; exact hu)⟩
      (case hm => first | omega | (simp; omega))
      (case hf => simp [FrameL, hL, hgt, e1, e2, e7, e12, e13, e14, hlt, q_x, g_x, l_x, r_x, z_x, h1, f1_0, f2_0, f12_0, f13_0])
    · by_cases h2 : nAnd xs[j] z = 0
      · have hlb : leftB y z xs[j] = true := by unfold leftB; rw [h1, h2]; rfl
        rw [hlb] at hs
        try simp (disch := first | omega | (simp; done) | fail) [wrap64c, if_pos, if_neg, opAnd, opOr, opXor, opDiff, opShr, opBit, hL, hgt, e1, e2, e7, e12, e13, e14, hlt, q_x, g_x, l_x, r_x, z_x, h1, h2]
        obtain ⟨u2, h2', hap, hu2, ha2, hn2, hs2⟩ := appI hu (xs[j] : Int) (by simp; omega) hn ha (by omega)
        try simp (disch := first | omega | (simp; done) | fail) [wrap64c, if_pos, if_neg, opAnd, opOr, opXor, opDiff, opShr, opBit, hL, hgt, e1, e2, e7, e12, e13, e14, hlt, q_x, g_x, l_x, r_x, z_x, h1, h2, hap]
        refine loopK_next _ ?hm ?hf ⟨j + 1, u2, rfl, (by simp (disch := first | omega | (simp; done) | fail) [wrap64c, if_pos, if_neg, opAnd, opOr, opXor, opDiff, opShr, opBit, hL, hgt, e1, e2, e7, e12, e13, e14, hlt, q_x, g_x, l_x, r_x, z_x, h1, h2] <;> omega), (by simp (disch := first | omega | (simp; done) | fail) [wrap64c, if_pos, if_neg, opAnd, opOr, opXor, opDiff, opShr, opBit, hL, hgt, e1, e2, e7, e12, e13, e14, hlt, q_x, g_x, l_x, r_x, z_x, h1, h2] <;> omega), (by first | omega | assumption | (simp (disch := first | omega | (simp; done) | fail) [wrap64c, if_pos, if_neg, opAnd, opOr, opXor, opDiff, opShr, opBit, hL, hgt, e1, e2, e7, e12, e13, e14, hlt, q_x, g_x, l_x, r_x, z_x, h1, h2] <;> omega)), (by first | omega | assumption | (simp (disch := first | omega | (simp; done) | fail) [wrap64c, if_pos, if_neg, opAnd, opOr, opXor, opDiff, opShr, opBit, hL, hgt, e1, e2, e7, e12, e13, e14, hlt, q_x, g_x, l_x, r_x, z_x, h1, h2] <;> omega)), (by first | omega | assumption | (simp (disch := first | omega | (simp; done) | fail) [wrap64c, if_pos, if_neg, opAnd, opOr, opXor, opDiff, opShr, opBit, hL, hgt, e1, e2, e7, e12, e13, e14, hlt, q_x, g_x, l_x, r_x, z_x, h1, h2] <;> omega)), (by rw [hs, if_pos rfl, toN_snoc]; exact hu2)⟩
        (case hm => first | omega | (simp; omega))
        (case hf => simp [FrameL, hL, hgt, e1, e2, e7, e12, e13, e14, hlt, q_x, g_x, l_x, r_x, z_x, h1, h2, f1_0, f2_0, f12_0, f13_0])
      · have hlb : leftB y z xs[j] = false := by unfold leftB; rw [h1]; simp [h2]
        rw [hlb] at hs
        try simp (disch := first | omega | (simp; done) | fail) [wrap64c, if_pos, if_neg, opAnd, opOr, opXor, opDiff, opShr, opBit, hL, hgt, e1, e2, e7, e12, e13, e14, hlt, q_x, g_x, l_x, r_x, z_x, h1, h2]
        refine loopK_next _ ?hm ?hf ⟨j + 1, u, rfl, (by simp (disch := first | omega | (simp; done) | fail) [wrap64c, if_pos, if_neg, opAnd, opOr, opXor, opDiff, opShr, opBit, hL, hgt, e1, e2, e7, e12, e13, e14, hlt, q_x, g_x, l_x, r_x, z_x, h1, h2] <;> omega), (by simp (disch := first | omega | (simp; done) | fail) [wrap64c, if_pos, if_neg, opAnd, opOr, opXor, opDiff, opShr, opBit, hL, hgt, e1, e2, e7, e12, e13, e14, hlt, q_x, g_x, l_x, r_x, z_x, h1, h2] <;> omega), (by first | omega | assumption | (simp (disch := first | omega | (simp; done) | fail) [wrap64c, if_pos, if_neg, opAnd, opOr, opXor, opDiff, opShr, opBit, hL, hgt, e1, e2, e7, e12, e13, e14, hlt, q_x, g_x, l_x, r_x, z_x, h1, h2] <;> omega)), (by first | omega | assumption | (simp (disch := first | omega | (simp; done) | fail) [wrap64c, if_pos, if_neg, opAnd, opOr, opXor, opDiff, opShr, opBit, hL, hgt, e1, e2, e7, e12, e13, e14, hlt, q_x, g_x, l_x, r_x, z_x, h1, h2] <;> omega)), (by first | omega | assumption | (simp (disch := first | omega | (simp; done) | fail) [wrap64c, if_pos, if_neg, opAnd, opOr, opXor, opDiff, opShr, opBit, hL, hgt, e1, e2, e7, e12, e13, e14, hlt, q_x, g_x, l_x, r_x, z_x, h1, h2] <;> omega)), (by rw [hs]; exact hu)⟩
        (case hm => first | omega | (simp; omega))
        (case hf => simp [FrameL, hL, hgt, e1, e2, e7, e12, e13, e14, hlt, q_x, g_x, l_x, r_x, z_x, h1, h2, f1_0, f2_0, f12_0, f13_0])
  · try simp (disch := first | omega | (simp; done) | fail) [wrap64c, if_pos, if_neg, opAnd, opOr, opXor, opDiff, opShr, opBit, hL, hgt, e1, e2, e7, e12, e13, e14, hlt]
    rw [List.take_of_length_le (by omega)] at hu
    have hle := left_len xs y z
    exact done_ret rfl ⟨ha, (hu.own (by simp; omega)).sub fun o ho => ⟨by have := ho.1; omega, ho.2⟩⟩
theorem spLeft_ok (h : Hp) (v : Value) (N : Int) (xs : List Nat) (y z : Nat) (hv : Space h v N (toN xs)) (hx : ∀ x ∈ xs, x < 128) (hl : xs.length < 2 ^ 39) (hy : y < 128) (hz : z < 128) :
    ∃ v' h', CallOK Try.prog 163 #[v, .int .i64 (y : Int), .int .i64 (z : Int)] h v' h' ∧ Adds h h' ∧ IntsO (Btw h.next h'.next) h' v' (toN (leftN xs y z)) := by
  refine callY_L (args := [v, .int .i64 (y : Int), .int .i64 (z : Int)]) 33 _ [.tmp 6] Try.func163 rfl rfl rfl ?_
  obtain ⟨b, rfl, hX⟩ := hv
  have hL := hX.lenD
  have hgt := toN_get xs
  have hln := toN_length xs
  try simp (disch := first | omega | (simp; done) | fail) [wrap64c, if_pos, if_neg, opAnd, opOr, opXor, opDiff, opShr, opBit, hL, hgt]
  refine WD_loopC [1, 2, 11, 12] (fun m tm h' => ∃ j u, m = xs.length - j ∧ tm 7 = u ∧ tm 13 = .int .i64 (j : Int) ∧ (j ≤ xs.length) ∧ (Adds h h') ∧ (h.next < h'.next) ∧ (IntsA (h.next + 1) h' u (toN (leftN (xs.take j) y z)))) _ ⟨0, _, rfl, (by simp (disch := first | omega | (simp; done) | fail) [wrap64c, if_pos, if_neg, opAnd, opOr, opXor, opDiff, opShr, opBit, hL, hgt]), (by simp (disch := first | omega | (simp; done) | fail) [wrap64c, if_pos, if_neg, opAnd, opOr, opXor, opDiff, opShr, opBit, hL, hgt]), (by first | omega | assumption | (simp (disch := first | omega | (simp; done) | fail) [wrap64c, if_pos, if_neg, opAnd, opOr, opXor, opDiff, opShr, opBit, hL, hgt] <;> omega)), (by first | exact aK | exact kK), (by simp), (.nil _ _)⟩ ?_
  rintro m tm h' hFr ⟨j, u, rfl, e7, e13, hj, ha, hn, hu⟩
  simp only [FrameL] at hFr
  obtain ⟨f1_0, f2_0, f11_0, f12_0, -⟩ := hFr
  try simp (disch := first | omega | (simp; done) | fail) [wrap64c, if_pos, if_neg, opAnd, opOr, opXor, opDiff, opShr, opBit, hL, hgt] at f1_0 f2_0 f11_0 f12_0
  have e1 := f1_0
  have e2 := f2_0
  have e11 := f11_0
  have e12 := f12_0
  by_cases hlt : j < xs.length
  · obtain ⟨o_x, i_x, c_x, cs_x, own_x, ex_x, es_x, q_x, b_x, g_x, l_x, r_x⟩ := (hX.keep ha.1).open ((by omega))
    have z_x : ∀ h2 : i_x < cs_x.length, cs_x[i_x] = _ := fun h2 => r_x 0 ((by omega)) h2
    have hx1 := hx _ (List.getElem_mem hlt)
    have hs := left_take hlt y z
    have hle := left_len (xs.take j) y z
    have htl : (xs.take j).length ≤ xs.length := by simp; omega
    have hab : nAnd z xs[j] ≤ z := nAnd_le _ _
    have hcm := nAnd_comm z xs[j]
    cases h1 : (ndiff y xs[j] == 0)
    · have hlb : leftB y z xs[j] = false := by unfold leftB; rw [h1]; rfl
      have h1' : ¬ ndiff y xs[j] = 0 := by simpa using h1
      rw [hlb] at hs
      try simp (disch := first | omega | (simp; done) | fail) [wrap64c, if_pos, if_neg, opAnd, opOr, opXor, opDiff, opShr, opBit, hL, hgt, e1, e2, e7, e11, e12, e13, hlt, q_x, g_x, l_x, r_x, z_x, hcm, h1']
      refine loopK_next _ ?hm ?hf ⟨j + 1, u, rfl, (by simp (disch := first | omega | (simp; done) | fail) [wrap64c, if_pos, if_neg, opAnd, opOr, opXor, opDiff, opShr, opBit, hL, hgt, e1, e2, e7, e11, e12, e13, hlt, q_x, g_x, l_x, r_x, z_x, hcm, h1'] <;> omega), (by simp (disch := first | omega | (simp; done) | fail) [wrap64c, if_pos, if_neg, opAnd, opOr, opXor, opDiff, opShr, opBit, hL, hgt, e1, e2, e7, e11, e12, e13, hlt, q_x, g_x, l_x, r_x, z_x, hcm, h1'] <;> omega), (by first | omega | assumption | (simp (disch := first | omega | (simp; done) | fail) [wrap64c, if_pos, if_neg, opAnd, opOr, opXor, opDiff, opShr, opBit, hL, hgt, e1, e2, e7, e11, e12, e13, hlt, q_x, g_x, l_x, r_x, z_x, hcm, h1'] <;> omega)), (by first | omega | assumption | (simp (disch := first | omega | (simp; done) | fail) [wrap64c, if_pos, if_neg, opAnd, opOr, opXor, opDiff, opShr, opBit, hL, hgt, e1, e2, e7, e11, e12, e13, hlt, q_x, g_x, l_x, r_x, z_x, hcm, h1'] <;> omega)), (by first | omega | assumption | (simp (disch := first | omega | (simp; done) | fail) [wrap64c, if_pos, if_neg, opAnd, opOr, opXor, opDiff, opShr, opBit, hL, hgt, e1, e2, e7, e11, e12, e13, hlt, q_x, g_x, l_x, r_x, z_x, hcm, h1'] <;> omega)), (by rw [hs]; exact hu)⟩
      (case hm => first | omega | (simp; omega))
      (case hf => simp [FrameL, hL, hgt, e1, e2, e7, e11, e12, e13, hlt, q_x, g_x, l_x, r_x, z_x, hcm, h1', f1_0, f2_0, f11_0, f12_0])
    · have h1' : ndiff y xs[j] = 0 := by simpa using h1
      by_cases h2 : nAnd xs[j] z = 0
      · have hlb : leftB y z xs[j] = true := by unfold leftB; rw [h1, h2]; rfl
        rw [hlb] at hs
        try simp (disch := first | omega | (simp; done) | fail) [wrap64c, if_pos, if_neg, opAnd, opOr, opXor, opDiff, opShr, opBit, hL, hgt, e1, e2, e7, e11, e12, e13, hlt, q_x, g_x, l_x, r_x, z_x, hcm, h1', h2]
        obtain ⟨u2, h2', hap, hu2, ha2, hn2, hs2⟩ := appI hu (xs[j] : Int) (by simp; omega) hn ha (by omega)
        try simp (disch := first | omega | (simp; done) | fail) [wrap64c, if_pos, if_neg, opAnd, opOr, opXor, opDiff, opShr, opBit, hL, hgt, e1, e2, e7, e11, e12, e13, hlt, q_x, g_x, l_x, r_x, z_x, hcm, h1', h2, hap]
        refine loopK_next _ ?hm ?hf ⟨j + 1, u2, rfl, (by simp (disch := first | omega | (simp; done) | fail) [wrap64c, if_pos, if_neg, opAnd, opOr, opXor, opDiff, opShr, opBit, hL, hgt, e1, e2, e7, e11, e12, e13, hlt, q_x, g_x, l_x, r_x, z_x, hcm, h1', h2] <;> omega), (by simp (disch := first | omega | (simp; done) | fail) [wrap64c, if_pos, if_neg, opAnd, opOr, opXor, opDiff, opShr, opBit, hL, hgt, e1, e2, e7, e11, e12, e13, hlt, q_x, g_x, l_x, r_x, z_x, hcm, h1', h2] <;> omega), (by first | omega | assumption | (simp (disch := first | omega | (simp; done) | fail) [wrap64c, if_pos, if_neg, opAnd, opOr, opXor, opDiff, opShr, opBit, hL, hgt, e1, e2, e7, e11, e12, e13, hlt, q_x, g_x, l_x, r_x, z_x, hcm, h1', h2] <;> omega)), (by first | omega | assumption | (simp (disch := first | omega | (simp; done) | fail) [wrap64c, if_pos, if_neg, opAnd, opOr, opXor, opDiff, opShr, opBit, hL, hgt, e1, e2, e7, e11, e12, e13, hlt, q_x, g_x, l_x, r_x, z_x, hcm, h1', h2] <;> omega)), (by first | omega | assumption | (simp (disch := first | omega | (simp; done) | fail) [wrap64c, if_pos, if_neg, opAnd, opOr, opXor, opDiff, opShr, opBit, hL, hgt, e1, e2, e7, e11, e12, e13, hlt, q_x, g_x, l_x, r_x, z_x, hcm, h1', h2] <;> omega)), (by rw [hs, if_pos rfl, toN_snoc]; exact hu2)⟩
        (case hm => first | omega | (simp; omega))
        (case hf => simp [FrameL, hL, hgt, e1, e2, e7, e11, e12, e13, hlt, q_x, g_x, l_x, r_x, z_x, hcm, h1', h2, f1_0, f2_0, f11_0, f12_0])
      · have hlb : leftB y z xs[j] = false := by unfold leftB; rw [h1]; simp [h2]
        rw [hlb] at hs
        try simp (disch := first | omega | (simp; done) | fail) [wrap64c, if_pos, if_neg, opAnd, opOr, opXor, opDiff, opShr, opBit, hL, hgt, e1, e2, e7, e11, e12, e13, hlt, q_x, g_x, l_x, r_x, z_x, hcm, h1', h2]
        refine loopK_next _ ?hm ?hf ⟨j + 1, u, rfl, (by simp (disch := first | omega | (simp; done) | fail) [wrap64c, if_pos, if_neg, opAnd, opOr, opXor, opDiff, opShr, opBit, hL, hgt, e1, e2, e7, e11, e12, e13, hlt, q_x, g_x, l_x, r_x, z_x, hcm, h1', h2] <;> omega), (by simp (disch := first | omega | (simp; done) | fail) [wrap64c, if_pos, if_neg, opAnd, opOr, opXor, opDiff, opShr, opBit, hL, hgt, e1, e2, e7, e11, e12, e13, hlt, q_x, g_x, l_x, r_x, z_x, hcm, h1', h2] <;> omega), (by first | omega | assumption | (simp (disch := first | omega | (simp; done) | fail) [wrap64c, if_pos, if_neg, opAnd, opOr, opXor, opDiff, opShr, opBit, hL, hgt, e1, e2, e7, e11, e12, e13, hlt, q_x, g_x, l_x, r_x, z_x, hcm, h1', h2] <;> omega)), (by first | omega | assumption | (simp (disch := first | omega | (simp; done) | fail) [wrap64c, if_pos, if_neg, opAnd, opOr, opXor, opDiff, opShr, opBit, hL, hgt, e1, e2, e7, e11, e12, e13, hlt, q_x, g_x, l_x, r_x, z_x, hcm, h1', h2] <;> omega)), (by first | omega | assumption | (simp (disch := first | omega | (simp; done) | fail) [wrap64c, if_pos, if_neg, opAnd, opOr, opXor, opDiff, opShr, opBit, hL, hgt, e1, e2, e7, e11, e12, e13, hlt, q_x, g_x, l_x, r_x, z_x, hcm, h1', h2] <;> omega)), (by rw [hs]; exact hu)⟩
        (case hm => first | omega | (simp; omega))
        (case hf => simp [FrameL, hL, hgt, e1, e2, e7, e11, e12, e13, hlt, q_x, g_x, l_x, r_x, z_x, hcm, h1', h2, f1_0, f2_0, f11_0, f12_0])
  · try simp (disch := first | omega | (simp; done) | fail) [wrap64c, if_pos, if_neg, opAnd, opOr, opXor, opDiff, opShr, opBit, hL, hgt, e1, e2, e7, e11, e12, e13, hlt]
    rw [List.take_of_length_le (by omega)] at hu
    have hle := left_len xs y z
    exact done_ret rfl ⟨ha, (hu.own (by simp; omega)).sub fun o ho => ⟨by have := ho.1; omega, ho.2⟩⟩
theorem foldOr_bit : ∀ (L : List Nat) (a i : Nat), (L.foldl nOr a).testBit i = (a.testBit i || L.any fun x => x.testBit i)
  | [], a, i => by simp
  | x :: L, a, i => by rw [List.foldl_cons, foldOr_bit L, nOr_bit, List.any_cons, Bool.or_assoc]
theorem foldAnd_bit : ∀ (L : List Nat) (a i : Nat), (L.foldl nAnd a).testBit i = (a.testBit i && L.all fun x => x.testBit i)
  | [], a, i => by simp
  | x :: L, a, i => by rw [List.foldl_cons, foldAnd_bit L, nAnd_bit, List.all_cons, Bool.and_assoc]
theorem foldDiff_bit : ∀ (L : List Nat) (a i : Nat), (L.foldl ndiff a).testBit i = (a.testBit i && L.all fun x => !x.testBit i)
  | [], a, i => by simp
  | x :: L, a, i => by rw [List.foldl_cons, foldDiff_bit L, ndiff_bit, List.all_cons, Bool.and_assoc]
theorem all_not (L : List Nat) (i : Nat) : (L.all fun x => x.testBit i) = !L.any fun x => !x.testBit i := by
  induction L with
  | nil => rfl
  | cons x L ih => simp only [List.all_cons, List.any_cons, ih]; cases x.testBit i <;> simp
theorem items_open (L : List Nat) : itemsN (ndiff (L.foldl nOr 0) (L.foldl nAnd 127)) = openN L := by
  unfold itemsN openN openK
  apply List.filter_congr
  intro i hi
  have hi7 : i < 7 := List.mem_range.1 hi
  have h127 : (127 : Nat).testBit i = true := by
    have := full_bit 7 i
    rw [show bit 7 - 1 = 127 from rfl] at this
    simpa [hi7] using this
  rw [ndiff_bit, foldOr_bit, foldAnd_bit, Nat.zero_testBit, Bool.false_or, h127, Bool.true_and, all_not, Bool.not_not]
  rfl
theorem fold_take {L : List Nat} {j : Nat} (hj : j < L.length) (f : Nat → Nat → Nat) (a : Nat) : (L.take (j + 1)).foldl f a = f ((L.take j).foldl f a) L[j] := by
  rw [List.take_succ_eq_append_getElem hj, List.foldl_append]; rfl
theorem foldOr_lt {L : List Nat} (hL : ∀ x ∈ L, x < 128) {a : Nat} (ha : a < 128) : L.foldl nOr a < 128 := by
  induction L generalizing a with
  | nil => exact ha
  | cons x L ih => exact ih (fun y hy => hL y (by simp [hy])) (nOr128 ha (hL x (by simp)))
theorem foldAnd_le (L : List Nat) (a : Nat) : L.foldl nAnd a ≤ a := by
  induction L generalizing a with
  | nil => exact Nat.le_refl _
  | cons x L ih => exact Nat.le_trans (ih _) (nAnd_le _ _)
theorem open_ok (h : Hp) (v : Value) (L : List Nat) (hv : Ints h v (toN L)) (hx : ∀ x ∈ L, x < 128) (hl : L.length < 2 ^ 39) :
    ∃ v' h', CallOK Try.prog 235 #[v] h v' h' ∧ Adds h h' ∧ IntsO (Btw h.next h'.next) h' v' (toN (openN L)) := by
  refine callY_L (args := [v]) 24 _ [.tmp 2] Try.func235 rfl rfl rfl ?_
  have hL := hv.lenD
  have hgt := toN_get L
  have hln := toN_length L
  try simp (disch := first | omega | (simp; done) | fail) [wrap64c, if_pos, if_neg, opAnd, opOr, opXor, opDiff, opShr, opBit, hL, hgt]
  refine WD_loopC [7, 8] (fun m tm h' => ∃ j, m = L.length - j ∧ h = h' ∧ tm 3 = .int .i64 (((L.take j).foldl nAnd 127 : Nat) : Int) ∧ tm 4 = .int .i64 (((L.take j).foldl nOr 0 : Nat) : Int) ∧ tm 9 = .int .i64 (j : Int) ∧ (j ≤ L.length)) _ ⟨0, rfl, rfl, (by simp (disch := first | omega | (simp; done) | fail) [wrap64c, if_pos, if_neg, opAnd, opOr, opXor, opDiff, opShr, opBit, hL, hgt]), (by simp (disch := first | omega | (simp; done) | fail) [wrap64c, if_pos, if_neg, opAnd, opOr, opXor, opDiff, opShr, opBit, hL, hgt]), (by simp (disch := first | omega | (simp; done) | fail) [wrap64c, if_pos, if_neg, opAnd, opOr, opXor, opDiff, opShr, opBit, hL, hgt]), (by first | omega | assumption | (simp (disch := first | omega | (simp; done) | fail) [wrap64c, if_pos, if_neg, opAnd, opOr, opXor, opDiff, opShr, opBit, hL, hgt] <;> omega))⟩ ?_
  rintro m tm h' hFr ⟨j, rfl, rfl, e3, e4, e9, hj⟩
  simp only [FrameL] at hFr
  obtain ⟨f7_0, f8_0, -⟩ := hFr
  try simp (disch := first | omega | (simp; done) | fail) [wrap64c, if_pos, if_neg, opAnd, opOr, opXor, opDiff, opShr, opBit, hL, hgt] at f7_0 f8_0
  have e7 := f7_0
  have e8 := f8_0
  have hbo := foldOr_lt (L := L.take j) (fun x hm => hx x (List.mem_of_mem_take hm)) (a := 0) (by omega)
  have hba := foldAnd_le (L.take j) 127
  by_cases hlt : j < L.length
  · obtain ⟨o_x, i_x, c_x, cs_x, own_x, ex_x, es_x, q_x, b_x, g_x, l_x, r_x⟩ := hv.open ((by omega))
    have z_x : ∀ h2 : i_x < cs_x.length, cs_x[i_x] = _ := fun h2 => r_x 0 ((by omega)) h2
    have hx1 := hx _ (List.getElem_mem hlt)
    have h1 := fold_take hlt nAnd 127
    have h2 := fold_take hlt nOr 0
    try simp (disch := first | omega | (simp; done) | fail) [wrap64c, if_pos, if_neg, opAnd, opOr, opXor, opDiff, opShr, opBit, hL, hgt, e3, e4, e7, e8, e9, hlt, q_x, g_x, l_x, r_x, z_x]
    refine loopK_next _ ?hm ?hf ⟨j + 1, rfl, rfl, (by simp [h1]), (by simp [h2]), (by simp (disch := first | omega | (simp; done) | fail) [wrap64c, if_pos, if_neg, opAnd, opOr, opXor, opDiff, opShr, opBit, hL, hgt, e3, e4, e7, e8, e9, hlt, q_x, g_x, l_x, r_x, z_x] <;> omega), (by first | omega | assumption | (simp (disch := first | omega | (simp; done) | fail) [wrap64c, if_pos, if_neg, opAnd, opOr, opXor, opDiff, opShr, opBit, hL, hgt, e3, e4, e7, e8, e9, hlt, q_x, g_x, l_x, r_x, z_x] <;> omega))⟩
    (case hm => first | omega | (simp; omega))
    (case hf => simp [FrameL, hL, hgt, e3, e4, e7, e8, e9, hlt, q_x, g_x, l_x, r_x, z_x, f7_0, f8_0])
  · rw [List.take_of_length_le (by omega)] at hbo hba e3 e4
    have hd := ndiff128 (b := L.foldl nAnd 127) hbo
    try simp (disch := first | omega | (simp; done) | fail) [wrap64c, if_pos, if_neg, opAnd, opOr, opXor, opDiff, opShr, opBit, hL, hgt, e3, e4, e7, e8, e9, hlt]
    obtain ⟨u, h1, hc1, ha1, hi1, _⟩ := items_ok h (ndiff (L.foldl nOr 0) (L.foldl nAnd 127)) (by omega)
    refine callG_c (by simp) (by simp) ?ha (hc1) ?_
    (case ha => simp (disch := first | omega | (simp; done) | fail) [wrap64c, if_pos, if_neg, opAnd, opOr, opXor, opDiff, opShr, opBit, hL, hgt, e3, e4, e7, e8, e9, hlt])
    try simp (disch := first | omega | (simp; done) | fail) [wrap64c, if_pos, if_neg, opAnd, opOr, opXor, opDiff, opShr, opBit, hL, hgt, e3, e4, e7, e8, e9, hlt]
    rw [items_open] at hi1
    exact done_ret rfl ⟨ha1, hi1⟩
theorem has_take {L : List Nat} {j : Nat} (hj : j < L.length) (i : Nat) : ((hasL (L.take (j + 1)) i).length : Int) = (hasL (L.take j) i).length + if L[j].testBit i = true then 1 else 0 := by
  unfold hasL
  rw [List.take_succ_eq_append_getElem hj, List.filter_append]
  by_cases h : L[j].testBit i = true <;> simp [h]
theorem has_take_le (L : List Nat) (j i : Nat) : (hasL (L.take j) i).length ≤ L.length := by
  have h1 : (hasL (L.take j) i).length ≤ (L.take j).length := List.length_filter_le _ _
  have h2 : (L.take j).length ≤ L.length := by simp; omega
  omega
def AskC (N : Int) (b m1 m2 : Value) : List Value := [.int .i64 N, b, m1, m2]
theorem half_ok (h : Hp) (o : Nat) (N : Int) (b m1 m2 : Value) (own ex : Bool) (es : Nat) (xs : List Nat) (y z : Nat) (ho : o < h.next) (hg : h.get o = .cells [.int .i64 N, b, m1, m2] own ex es) (hX : Ints h b (toN xs))
    (hx : ∀ x ∈ xs, x < 128) (hl : xs.length < 2 ^ 39) (hy : y < 128) (hz : z < 128) :
    CallOK Try.prog 167 #[.pointer (some ⟨o, 0, none⟩), .int .i64 (y : Int), .int .i64 (z : Int)] h (.int .i64 (halfN (leftN xs y z))) h := by
  refine callY_P 59 _ [.tmp 6] Try.func167 rfl rfl rfl (by first | rfl | simp) ?_
  have hg0 := hg
  try simp (disch := first | omega | (simp; done) | fail) [wrap64c, if_pos, if_neg, opAnd, opOr, opXor, opDiff, opShr, opBit, hg0]
  obtain ⟨v1, h1, hc1, ha1, hi1⟩ := imLeft_ok h (.agg #[.int .i64 N, b]) N xs y z (.mk hX) hx hl hy hz
  refine callG_c (by simp) (by simp) ?ha (hc1) ?_
  (case ha => simp (disch := first | omega | (simp; done) | fail) [wrap64c, if_pos, if_neg, opAnd, opOr, opXor, opDiff, opShr, opBit, hg0])
  obtain ⟨L, hLe⟩ : ∃ L, L = leftN xs y z := ⟨_, rfl⟩
  have hLx : ∀ x ∈ L, x < 128 := fun x hm => hx x (left_sub (hLe ▸ hm))
  have hLl : L.length < 2 ^ 39 := by have := left_len xs y z; rw [hLe]; omega
  rw [← hLe] at hi1
  try simp (disch := first | omega | (simp; done) | fail) [wrap64c, if_pos, if_neg, opAnd, opOr, opXor, opDiff, opShr, opBit, hg0]
  obtain ⟨v2, h2, hc2, ha2, hi2⟩ := open_ok h1 v1 L hi1.ints hLx hLl
  refine callG_c (by simp) (by simp) ?ha (hc2) ?_
  (case ha => simp (disch := first | omega | (simp; done) | fail) [wrap64c, if_pos, if_neg, opAnd, opOr, opXor, opDiff, opShr, opBit, hg0])
  have hv1 := hi1.ints.keep ha2.1
  have hM1 := hv1.lenD
  have hM2 := hi2.ints.lenD
  have hgt1 := toN_get L
  have hgt2 := toN_get (openN L)
  have hln1 := toN_length L
  have hln2 := toN_length (openN L)
  have hol : (openN L).length ≤ 7 := openK_len L 7
  have K2 := ha1.1.trans ha2.1
  try simp (disch := first | omega | (simp; done) | fail) [wrap64c, if_pos, if_neg, opAnd, opOr, opXor, opDiff, opShr, opBit, hg0, hM1, hM2, hgt1, hgt2]
  refine WD_loopC [9, 23, 24] (fun m tm h' => ∃ j, m = (openN L).length - j ∧ h2 = h' ∧ tm 7 = .int .i64 (halfS L ((openN L).take j)).1 ∧ tm 8 = .int .i64 ((halfS L ((openN L).take j)).2 : Int) ∧ tm 25 = .int .i64 (j : Int) ∧ (j ≤ (openN L).length)) _ ⟨0, rfl, rfl, (by simp [halfS]), (by simp [halfS]), (by simp (disch := first | omega | (simp; done) | fail) [wrap64c, if_pos, if_neg, opAnd, opOr, opXor, opDiff, opShr, opBit, hg0, hM1, hM2, hgt1, hgt2]), (by first | omega | assumption | (simp (disch := first | omega | (simp; done) | fail) [wrap64c, if_pos, if_neg, opAnd, opOr, opXor, opDiff, opShr, opBit, hg0, hM1, hM2, hgt1, hgt2] <;> omega))⟩ ?_
  rintro m tm h' hFr ⟨j, rfl, rfl, e7, e8, e25, hj⟩
  simp only [FrameL] at hFr
  obtain ⟨f9_0, f23_0, f24_0, -⟩ := hFr
  try simp (disch := first | omega | (simp; done) | fail) [wrap64c, if_pos, if_neg, opAnd, opOr, opXor, opDiff, opShr, opBit, hg0, hM1, hM2, hgt1, hgt2] at f9_0 f23_0 f24_0
  have e9 := f9_0
  have e23 := f23_0
  have e24 := f24_0
  by_cases hlt : j < (openN L).length
  · obtain ⟨o_x, i_x, c_x, cs_x, own_x, ex_x, es_x, q_x, b_x, g_x, l_x, r_x⟩ := hi2.ints.open ((by omega))
    have z_x : ∀ h2 : i_x < cs_x.length, cs_x[i_x] = _ := fun h2 => r_x 0 ((by omega)) h2
    obtain ⟨i, hi⟩ : ∃ i, i = (openN L)[j] := ⟨_, rfl⟩
    have hi7 : i < 7 := by rw [hi]; exact (mem_openK.1 (List.getElem_mem hlt)).1
    have hi' := hi.symm
    try simp (disch := first | omega | (simp; done) | fail) [wrap64c, if_pos, if_neg, opAnd, opOr, opXor, opDiff, opShr, opBit, hg0, hM1, hM2, hgt1, hgt2, e7, e8, e9, e23, e24, e25, hlt, q_x, g_x, l_x, r_x, z_x, hi']
    refine WD_loopC [7, 8, 9, 11, 23, 24, 25, 29, 30] (fun m tm h' => ∃ k, m = L.length - k ∧ h2 = h' ∧ tm 12 = .int .i64 (2 * ((hasL (L.take k) i).length : Int) - (k : Int)) ∧ tm 31 = .int .i64 (k : Int) ∧ (k ≤ L.length)) _ ⟨0, rfl, rfl, (by simp [hasL]), (by simp (disch := first | omega | (simp; done) | fail) [wrap64c, if_pos, if_neg, opAnd, opOr, opXor, opDiff, opShr, opBit, hg0, hM1, hM2, hgt1, hgt2, e7, e8, e9, e23, e24, e25, hlt, q_x, g_x, l_x, r_x, z_x, hi']), (by first | omega | assumption | (simp (disch := first | omega | (simp; done) | fail) [wrap64c, if_pos, if_neg, opAnd, opOr, opXor, opDiff, opShr, opBit, hg0, hM1, hM2, hgt1, hgt2, e7, e8, e9, e23, e24, e25, hlt, q_x, g_x, l_x, r_x, z_x, hi'] <;> omega))⟩ ?_
    rintro m tm h' hFr ⟨k, rfl, rfl, e12, e31, hk⟩
    simp only [FrameL] at hFr
    obtain ⟨f7_1, f8_1, f9_1, f11_1, f23_1, f24_1, f25_1, f29_1, f30_1, -⟩ := hFr
    try simp (disch := first | omega | (simp; done) | fail) [wrap64c, if_pos, if_neg, opAnd, opOr, opXor, opDiff, opShr, opBit, hg0, hM1, hM2, hgt1, hgt2, e7, e8, e9, e23, e24, e25, hlt, q_x, g_x, l_x, r_x, z_x, hi'] at f7_1 f8_1 f9_1 f11_1 f23_1 f24_1 f25_1 f29_1 f30_1
    have e7 := f7_1
    have e8 := f8_1
    have e9 := f9_1
    have e11 := f11_1
    have e23 := f23_1
    have e24 := f24_1
    have e25 := f25_1
    have e29 := f29_1
    have e30 := f30_1
    have hhl := has_take_le L k i
    by_cases hlk : k < L.length
    · obtain ⟨o_w, i_w, c_w, cs_w, own_w, ex_w, es_w, q_w, b_w, g_w, l_w, r_w⟩ := hv1.open ((by omega))
      have z_w : ∀ h2 : i_w < cs_w.length, cs_w[i_w] = _ := fun h2 => r_w 0 ((by omega)) h2
      have h01 := nShr_and01 L[k] i
      have hsl := nShr_le L[k] i
      have hx1 := hLx _ (List.getElem_mem hlk)
      have hht := has_take hlk i
      have hx01 : nAnd (nShr L[k] i) 1 ≤ 1 := nAnd_le' _ _
      try simp (disch := first | omega | (simp; done) | fail) [wrap64c, if_pos, if_neg, opAnd, opOr, opXor, opDiff, opShr, opBit, hg0, hM1, hM2, hgt1, hgt2, e7, e8, e9, e23, e24, e25, hlt, q_x, g_x, l_x, r_x, z_x, hi', e11, e12, e29, e30, e31, hlk, q_w, g_w, l_w, r_w, z_w]
      refine loopK_next _ ?hm ?hf ⟨k + 1, rfl, rfl, ?c_12, (by simp (disch := first | omega | (simp; done) | fail) [wrap64c, if_pos, if_neg, opAnd, opOr, opXor, opDiff, opShr, opBit, hg0, hM1, hM2, hgt1, hgt2, e7, e8, e9, e23, e24, e25, hlt, q_x, g_x, l_x, r_x, z_x, hi', e11, e12, e29, e30, e31, hlk, q_w, g_w, l_w, r_w, z_w] <;> omega), (by first | omega | assumption | (simp (disch := first | omega | (simp; done) | fail) [wrap64c, if_pos, if_neg, opAnd, opOr, opXor, opDiff, opShr, opBit, hg0, hM1, hM2, hgt1, hgt2, e7, e8, e9, e23, e24, e25, hlt, q_x, g_x, l_x, r_x, z_x, hi', e11, e12, e29, e30, e31, hlk, q_w, g_w, l_w, r_w, z_w] <;> omega))⟩
      (case hm => first | omega | (simp; omega))
      (case hf => simp [FrameL, hg0, hM1, hM2, hgt1, hgt2, e7, e8, e9, e23, e24, e25, hlt, q_x, g_x, l_x, r_x, z_x, hi', e11, e12, e29, e30, e31, hlk, q_w, g_w, l_w, r_w, z_w, f7_1, f8_1, f9_1, f11_1, f23_1, f24_1, f25_1, f29_1, f30_1])
      case c_12 =>
        exact (by
          simp [h01, hht]
          split <;> omega)
    · have hke : k = L.length := by omega
      have hft : L.take k = L := List.take_of_length_le (by omega)
      rw [hft] at e12 hhl
      obtain ⟨d, hd⟩ : ∃ d : Int, d = 2 * ((hasL L i).length : Int) - (k : Int) := ⟨_, rfl⟩
      rw [← hd] at e12
      have hmx : (if d < -d then -d else d) = (distN L i : Int) := by
        unfold distN
        rw [hke] at hd
        rw [← hd]
        split <;> omega
      have hmx := hmx
      obtain ⟨s1, hs1⟩ : ∃ s1, s1 = (halfS L ((openN L).take j)).1 := ⟨_, rfl⟩
      obtain ⟨s2, hs2⟩ : ∃ s2, s2 = (halfS L ((openN L).take j)).2 := ⟨_, rfl⟩
      have hsn : halfS L ((openN L).take (j + 1)) = if s1 < 0 ∨ distN L i < s2 then ((i : Int), distN L i) else halfS L ((openN L).take j) := by
        rw [List.take_succ_eq_append_getElem hlt, halfS_snoc, ← hi, hs1, hs2]
      rw [← hs1] at e7
      rw [← hs2] at e8
      by_cases c1 : s1 < 0
      · rw [if_pos (.inl c1)] at hsn
        try simp (disch := first | omega | (simp; done) | fail) [wrap64c, if_pos, if_neg, opAnd, opOr, opXor, opDiff, opShr, opBit, hg0, hM1, hM2, hgt1, hgt2, e7, e8, e9, e23, e24, e25, hlt, q_x, g_x, l_x, r_x, z_x, hi', e11, e12, e29, e30, e31, hlk, hmx, c1]
        refine loopK_next _ ?hm ?hf ⟨j + 1, rfl, rfl, (by simp [hsn]), (by simp [hsn]), (by simp (disch := first | omega | (simp; done) | fail) [wrap64c, if_pos, if_neg, opAnd, opOr, opXor, opDiff, opShr, opBit, hg0, hM1, hM2, hgt1, hgt2, e7, e8, e9, e23, e24, e25, hlt, q_x, g_x, l_x, r_x, z_x, hi', e11, e12, e29, e30, e31, hlk, hmx, c1] <;> omega), (by first | omega | assumption | (simp (disch := first | omega | (simp; done) | fail) [wrap64c, if_pos, if_neg, opAnd, opOr, opXor, opDiff, opShr, opBit, hg0, hM1, hM2, hgt1, hgt2, e7, e8, e9, e23, e24, e25, hlt, q_x, g_x, l_x, r_x, z_x, hi', e11, e12, e29, e30, e31, hlk, hmx, c1] <;> omega))⟩
        (case hm => first | omega | (simp; omega))
        (case hf => simp [FrameL, hg0, hM1, hM2, hgt1, hgt2, e7, e8, e9, e23, e24, e25, hlt, q_x, g_x, l_x, r_x, z_x, hi', e11, e12, e29, e30, e31, hlk, hmx, c1, f9_0, f23_0, f24_0])
      · by_cases c2 : distN L i < s2
        · rw [if_pos (.inr c2)] at hsn
          try simp (disch := first | omega | (simp; done) | fail) [wrap64c, if_pos, if_neg, opAnd, opOr, opXor, opDiff, opShr, opBit, hg0, hM1, hM2, hgt1, hgt2, e7, e8, e9, e23, e24, e25, hlt, q_x, g_x, l_x, r_x, z_x, hi', e11, e12, e29, e30, e31, hlk, hmx, c1, c2]
          refine loopK_next _ ?hm ?hf ⟨j + 1, rfl, rfl, (by simp [hsn]), (by simp [hsn]), (by simp (disch := first | omega | (simp; done) | fail) [wrap64c, if_pos, if_neg, opAnd, opOr, opXor, opDiff, opShr, opBit, hg0, hM1, hM2, hgt1, hgt2, e7, e8, e9, e23, e24, e25, hlt, q_x, g_x, l_x, r_x, z_x, hi', e11, e12, e29, e30, e31, hlk, hmx, c1, c2] <;> omega), (by first | omega | assumption | (simp (disch := first | omega | (simp; done) | fail) [wrap64c, if_pos, if_neg, opAnd, opOr, opXor, opDiff, opShr, opBit, hg0, hM1, hM2, hgt1, hgt2, e7, e8, e9, e23, e24, e25, hlt, q_x, g_x, l_x, r_x, z_x, hi', e11, e12, e29, e30, e31, hlk, hmx, c1, c2] <;> omega))⟩
          (case hm => first | omega | (simp; omega))
          (case hf => simp [FrameL, hg0, hM1, hM2, hgt1, hgt2, e7, e8, e9, e23, e24, e25, hlt, q_x, g_x, l_x, r_x, z_x, hi', e11, e12, e29, e30, e31, hlk, hmx, c1, c2, f9_0, f23_0, f24_0])
        · rw [if_neg (by omega)] at hsn
          try simp (disch := first | omega | (simp; done) | fail) [wrap64c, if_pos, if_neg, opAnd, opOr, opXor, opDiff, opShr, opBit, hg0, hM1, hM2, hgt1, hgt2, e7, e8, e9, e23, e24, e25, hlt, q_x, g_x, l_x, r_x, z_x, hi', e11, e12, e29, e30, e31, hlk, hmx, c1, c2]
          refine loopK_next _ ?hm ?hf ⟨j + 1, rfl, rfl, (by simp [hsn, e7, hs1]), (by simp [hsn, e8, hs2]), (by simp (disch := first | omega | (simp; done) | fail) [wrap64c, if_pos, if_neg, opAnd, opOr, opXor, opDiff, opShr, opBit, hg0, hM1, hM2, hgt1, hgt2, e7, e8, e9, e23, e24, e25, hlt, q_x, g_x, l_x, r_x, z_x, hi', e11, e12, e29, e30, e31, hlk, hmx, c1, c2] <;> omega), (by first | omega | assumption | (simp (disch := first | omega | (simp; done) | fail) [wrap64c, if_pos, if_neg, opAnd, opOr, opXor, opDiff, opShr, opBit, hg0, hM1, hM2, hgt1, hgt2, e7, e8, e9, e23, e24, e25, hlt, q_x, g_x, l_x, r_x, z_x, hi', e11, e12, e29, e30, e31, hlk, hmx, c1, c2] <;> omega))⟩
          (case hm => first | omega | (simp; omega))
          (case hf => simp [FrameL, hg0, hM1, hM2, hgt1, hgt2, e7, e8, e9, e23, e24, e25, hlt, q_x, g_x, l_x, r_x, z_x, hi', e11, e12, e29, e30, e31, hlk, hmx, c1, c2, f9_0, f23_0, f24_0])
  · try simp (disch := first | omega | (simp; done) | fail) [wrap64c, if_pos, if_neg, opAnd, opOr, opXor, opDiff, opShr, opBit, hg0, hM1, hM2, hgt1, hgt2, e7, e8, e9, e23, e24, e25, hlt]
    have hft : (openN L).take j = openN L := List.take_of_length_le (by omega)
    exact done_ret rfl (by simp [← hLe, halfN, hft, K2])
theorem asKnown_ok (h : Hp) (v w : Value) (n : Nat) (X : List Int) (L : List Nat) (hv : Space h v n X) (hw : Ints h w (toN L)) (hn : n ≤ 7) (hx : ∀ x ∈ L, x < 128) (hl : L.length < 2 ^ 39) :
    CallOK Try.prog 170 #[v, w] h (.tuple #[.int .i64 ((L.foldl nAnd (bit n - 1) : Nat) : Int), .int .i64 ((L.foldl ndiff (bit n - 1) : Nat) : Int)]) h := by
  refine callY_P 32 _ [.tmp 4, .tmp 5] Try.func170 rfl rfl rfl (by first | rfl | simp) ?_
  obtain ⟨b, rfl, hX⟩ := hv
  refine WD_first ?_
  try simp (disch := first | omega | (simp; done) | fail) [wrap64c, if_pos, if_neg, opAnd, opOr, opXor, opDiff, opShr, opBit]
  refine stopK_heap fun h0 q_h0 => ?_
  refine stopK_go ?_
  have g_h0 : h0.get h.next = .cells [.int .i64 (n : Int), b] true true 1 := by simp [q_h0]
  have k_h0 : Adds h h0 := by rw [q_h0]; exact (by first | exact aK | exact kK)
  have n_h0 : h.next < h0.next := by simp [q_h0]; try omega
  have hw0 := hw.keep k_h0.1
  have hL := hw0.lenD
  have hgt := toN_get L
  have hln := toN_length L
  have hb := bit7 hn
  have hf1 : ((bit n : Nat) : Int) - 1 = ((bit n - 1 : Nat) : Int) := by omega
  try simp (disch := first | omega | (simp; done) | fail) [wrap64c, if_pos, if_neg, opAnd, opOr, opXor, opDiff, opShr, opBit, g_h0, hL, hgt, hf1]
  refine WD_loopC [17, 18] (fun m tm h' => ∃ j, m = L.length - j ∧ h0 = h' ∧ tm 7 = .int .i64 (((L.take j).foldl nAnd (bit n - 1) : Nat) : Int) ∧ tm 8 = .int .i64 (((L.take j).foldl ndiff (bit n - 1) : Nat) : Int) ∧ tm 19 = .int .i64 (j : Int) ∧ (j ≤ L.length) ∧ ((L.take j).foldl ndiff (bit n - 1) < 128)) _ ⟨0, rfl, rfl, (by simp (disch := first | omega | (simp; done) | fail) [wrap64c, if_pos, if_neg, opAnd, opOr, opXor, opDiff, opShr, opBit, g_h0, hL, hgt, hf1]), (by simp (disch := first | omega | (simp; done) | fail) [wrap64c, if_pos, if_neg, opAnd, opOr, opXor, opDiff, opShr, opBit, g_h0, hL, hgt, hf1]), (by simp (disch := first | omega | (simp; done) | fail) [wrap64c, if_pos, if_neg, opAnd, opOr, opXor, opDiff, opShr, opBit, g_h0, hL, hgt, hf1]), (by first | omega | assumption | (simp (disch := first | omega | (simp; done) | fail) [wrap64c, if_pos, if_neg, opAnd, opOr, opXor, opDiff, opShr, opBit, g_h0, hL, hgt, hf1] <;> omega)), (by simp; omega)⟩ ?_
  rintro m tm h' hFr ⟨j, rfl, rfl, e7, e8, e19, hj, hb2⟩
  simp only [FrameL] at hFr
  obtain ⟨f17_0, f18_0, -⟩ := hFr
  try simp (disch := first | omega | (simp; done) | fail) [wrap64c, if_pos, if_neg, opAnd, opOr, opXor, opDiff, opShr, opBit, g_h0, hL, hgt, hf1] at f17_0 f18_0
  have e17 := f17_0
  have e18 := f18_0
  have hba := foldAnd_le (L.take j) (bit n - 1)
  by_cases hlt : j < L.length
  · obtain ⟨o_x, i_x, c_x, cs_x, own_x, ex_x, es_x, q_x, b_x, g_x, l_x, r_x⟩ := hw0.open ((by omega))
    have z_x : ∀ h2 : i_x < cs_x.length, cs_x[i_x] = _ := fun h2 => r_x 0 ((by omega)) h2
    have hx1 := hx _ (List.getElem_mem hlt)
    have h1 := fold_take hlt nAnd (bit n - 1)
    have h2 := fold_take hlt ndiff (bit n - 1)
    have h3 := ndiff128 (b := L[j]) hb2
    try simp (disch := first | omega | (simp; done) | fail) [wrap64c, if_pos, if_neg, opAnd, opOr, opXor, opDiff, opShr, opBit, g_h0, hL, hgt, hf1, e7, e8, e17, e18, e19, hlt, q_x, g_x, l_x, r_x, z_x]
    refine loopK_next _ ?hm ?hf ⟨j + 1, rfl, rfl, (by simp [h1]), (by simp [h2]), (by simp (disch := first | omega | (simp; done) | fail) [wrap64c, if_pos, if_neg, opAnd, opOr, opXor, opDiff, opShr, opBit, g_h0, hL, hgt, hf1, e7, e8, e17, e18, e19, hlt, q_x, g_x, l_x, r_x, z_x] <;> omega), (by first | omega | assumption | (simp (disch := first | omega | (simp; done) | fail) [wrap64c, if_pos, if_neg, opAnd, opOr, opXor, opDiff, opShr, opBit, g_h0, hL, hgt, hf1, e7, e8, e17, e18, e19, hlt, q_x, g_x, l_x, r_x, z_x] <;> omega)), (by rw [h2]; exact h3)⟩
    (case hm => first | omega | (simp; omega))
    (case hf => simp [FrameL, g_h0, hL, hgt, hf1, e7, e8, e17, e18, e19, hlt, q_x, g_x, l_x, r_x, z_x, f17_0, f18_0])
  · have hft : L.take j = L := List.take_of_length_le (by omega)
    try simp (disch := first | omega | (simp; done) | fail) [wrap64c, if_pos, if_neg, opAnd, opOr, opXor, opDiff, opShr, opBit, g_h0, hL, hgt, hf1, e7, e8, e17, e18, e19, hlt]
    exact done_ret rfl (by simp [hft, k_h0.1])
theorem known_bit {n : Nat} {L : List Nat} {i : Nat} (hne : L ≠ []) (hi : i < n) : (nOr (L.foldl nAnd (bit n - 1)) (L.foldl ndiff (bit n - 1))).testBit i = !opB L i := by
  rw [nOr_bit, foldAnd_bit, foldDiff_bit, full_bit, all_not, opB]
  have e : (L.all fun x => !x.testBit i) = !L.any fun x => x.testBit i := by
    induction L with
    | nil => rfl
    | cons x L ih =>
      cases L with
      | nil => simp
      | cons y L => simp only [List.all_cons, List.any_cons] at ih ⊢; rw [ih (by simp)]; simp
  rw [e]
  simp only [hi, decide_true, Bool.true_and]
  cases (L.any fun x => x.testBit i) <;> cases (L.any fun x => !x.testBit i) <;> rfl
theorem foldDiff_lt {L : List Nat} {a : Nat} (ha : a < 128) : L.foldl ndiff a < 128 := by
  induction L generalizing a with
  | nil => exact ha
  | cons x L ih => exact ih (ndiff128 ha)
theorem l1Most_ok (h : Hp) (a b : Int) : CallOK Try.prog 173 #[.int .i64 a, .int .i64 b] h (.int .i64 (if b < a then a else b)) h := by
  refine callY_P 10 _ [.tmp 4] Try.func173 rfl rfl rfl (by first | rfl | simp) ?_
  by_cases hc : b < a
  · try simp (disch := first | omega | (simp; done) | fail) [wrap64c, if_pos, if_neg, opAnd, opOr, opXor, opDiff, opShr, opBit, hc]
    exact done_ret rfl (by simp [hc])
  · try simp (disch := first | omega | (simp; done) | fail) [wrap64c, if_pos, if_neg, opAnd, opOr, opXor, opDiff, opShr, opBit, hc]
    exact done_ret rfl (by simp [hc])
theorem l1Abs_ok (h : Hp) (a : Int) (h1 : -1000000 < a) (h2 : a < 1000000) : CallOK Try.prog 237 #[.int .i64 a] h (.int .i64 ((a.natAbs : Nat) : Int)) h := by
  refine callY_P 7 _ [.tmp 2] Try.func237 rfl rfl rfl (by first | rfl | simp) ?_
  try simp (disch := first | omega | (simp; done) | fail) [wrap64c, if_pos, if_neg, opAnd, opOr, opXor, opDiff, opShr, opBit]
  refine callG_c (by simp) (by simp) ?ha (l1Most_ok h a (-a)) ?_
  (case ha => simp (disch := first | omega | (simp; done) | fail) [wrap64c, if_pos, if_neg, opAnd, opOr, opXor, opDiff, opShr, opBit])
  try simp (disch := first | omega | (simp; done) | fail) [wrap64c, if_pos, if_neg, opAnd, opOr, opXor, opDiff, opShr, opBit]
  exact done_ret rfl ⟨by simp; split <;> omega, by simp⟩
end Go.Proofs.Ytnncipcldbopgaa
namespace Go.Proofs.Ytnncipcldbopgaa
set_option linter.unusedSimpArgs false
set_option linter.unusedVariables false
set_option maxHeartbeats 4000000
open Go Go.Eng
attribute [local irreducible] WD RunD PreD Runs CallOK
theorem asHalf_ok (h : Hp) (v : Value) (n : Nat) (xs : List Nat) (y z : Nat) (hv : Space h v n (toN xs)) (g : SpGood n xs) (hy : y < 128) (hz : z < 128) (hne : leftN xs y z ≠ []) :
    CallOK Try.prog 171 #[v, .int .i64 (y : Int), .int .i64 (z : Int)] h (.int .i64 (halfN (leftN xs y z))) h := by
  refine callY_P 66 _ [.tmp 6] Try.func171 rfl rfl rfl (by first | rfl | simp) ?_
  obtain ⟨b, rfl, hX⟩ := hv
  refine WD_first ?_
  try simp (disch := first | omega | (simp; done) | fail) [wrap64c, if_pos, if_neg, opAnd, opOr, opXor, opDiff, opShr, opBit]
  refine stopK_heap fun h0 q_h0 => ?_
  refine stopK_go ?_
  have g_h0 : h0.get h.next = .cells [.int .i64 (n : Int), b] true true 1 := by simp [q_h0]
  have k_h0 : Adds h h0 := by rw [q_h0]; exact (by first | exact aK | exact kK)
  have n_h0 : h.next < h0.next := by simp [q_h0]; try omega
  have hX0 := hX.keep k_h0.1
  have n7 := g.n7
  have hl7 := g.len7
  try simp (disch := first | omega | (simp; done) | fail) [wrap64c, if_pos, if_neg, opAnd, opOr, opXor, opDiff, opShr, opBit, g_h0]
  obtain ⟨v1, h1, hc1, ha1, hi1⟩ := spLeft_ok h0 (.agg #[.int .i64 (n : Int), b]) n xs y z (.mk hX0) g.lt7 (by omega) hy hz
  refine callG_c (by simp) (by simp) ?ha (hc1) ?_
  (case ha => simp (disch := first | omega | (simp; done) | fail) [wrap64c, if_pos, if_neg, opAnd, opOr, opXor, opDiff, opShr, opBit, g_h0])
  obtain ⟨L, hLe⟩ : ∃ L, L = leftN xs y z := ⟨_, rfl⟩
  have hLx : ∀ x ∈ L, x < 128 := fun x hm => g.lt7 x (left_sub (hLe ▸ hm))
  have hLn : ∀ x ∈ L, x < bit n := fun x hm => g.lt x (left_sub (hLe ▸ hm))
  have hLl : L.length ≤ 128 := by have := left_len xs y z; rw [hLe]; omega
  rw [← hLe] at hi1 hne
  have g1 : h1.get h.next = .cells [.int .i64 (n : Int), b] true true 1 := by rw [ha1.1.2 _ (by omega)]; exact g_h0
  have hv1 := hi1.ints
  have hM1 := hv1.lenD
  have hgt1 := toN_get L
  have hln1 := toN_length L
  have K1 := k_h0.1.trans ha1.1
  try simp (disch := first | omega | (simp; done) | fail) [wrap64c, if_pos, if_neg, opAnd, opOr, opXor, opDiff, opShr, opBit, g_h0, g1, hM1, hgt1]
  refine callG_c (by simp) (by simp) ?ha (asKnown_ok h1 (.agg #[.int .i64 (n : Int), b]) v1 n _ L (.mk (hX0.keep ha1.1)) hv1 n7 hLx (by omega)) ?_
  (case ha => simp (disch := first | omega | (simp; done) | fail) [wrap64c, if_pos, if_neg, opAnd, opOr, opXor, opDiff, opShr, opBit, g_h0, g1, hM1, hgt1])
  have hb := bit7 n7
  have hba := foldAnd_le L (bit n - 1)
  have hbd := foldDiff_lt (L := L) (a := bit n - 1) (by omega)
  try simp (disch := first | omega | (simp; done) | fail) [wrap64c, if_pos, if_neg, opAnd, opOr, opXor, opDiff, opShr, opBit, g_h0, g1, hM1, hgt1]
  refine WD_loopC [3, 7, 8, 9] (fun m tm h' => ∃ i, m = n - i ∧ h1 = h' ∧ tm 10 = .int .i64 (halfS L (openK L i)).1 ∧ tm 11 = .int .i64 ((halfS L (openK L i)).2 : Int) ∧ tm 12 = .int .i64 (i : Int) ∧ (i ≤ n)) _ ⟨0, rfl, rfl, (by simp [halfS, openK]), (by simp [halfS, openK]), (by simp (disch := first | omega | (simp; done) | fail) [wrap64c, if_pos, if_neg, opAnd, opOr, opXor, opDiff, opShr, opBit, g_h0, g1, hM1, hgt1]), (by first | omega | assumption | (simp (disch := first | omega | (simp; done) | fail) [wrap64c, if_pos, if_neg, opAnd, opOr, opXor, opDiff, opShr, opBit, g_h0, g1, hM1, hgt1] <;> omega))⟩ ?_
  rintro m tm h' hFr ⟨i, rfl, rfl, e10, e11, e12, hi⟩
  simp only [FrameL] at hFr
  obtain ⟨f3_0, f7_0, f8_0, f9_0, -⟩ := hFr
  try simp (disch := first | omega | (simp; done) | fail) [wrap64c, if_pos, if_neg, opAnd, opOr, opXor, opDiff, opShr, opBit, g_h0, g1, hM1, hgt1] at f3_0 f7_0 f8_0 f9_0
  have e3 := f3_0
  have e7 := f7_0
  have e8 := f8_0
  have e9 := f9_0
  by_cases hlt : i < n
  · have hkb := known_bit hne hlt
    have hor := nOr128 (a := L.foldl nAnd (bit n - 1)) (by omega) hbd
    have hos := openK_succ L i
    try simp (disch := first | omega | (simp; done) | fail) [wrap64c, if_pos, if_neg, opAnd, opOr, opXor, opDiff, opShr, opBit, g_h0, g1, hM1, hgt1, e3, e7, e8, e9, e10, e11, e12, hlt]
    refine callG_c (by simp) (by simp) ?ha (spIn_ok h1 (nOr (L.foldl nAnd (bit n - 1)) (L.foldl ndiff (bit n - 1))) i (by omega) (by omega)) ?_
    (case ha => simp (disch := first | omega | (simp; done) | fail) [wrap64c, if_pos, if_neg, opAnd, opOr, opXor, opDiff, opShr, opBit, g_h0, g1, hM1, hgt1, e3, e7, e8, e9, e10, e11, e12, hlt])
    cases hop : opB L i
    · rw [hop] at hkb hos
      have hkb := hkb
      try simp (disch := first | omega | (simp; done) | fail) [wrap64c, if_pos, if_neg, opAnd, opOr, opXor, opDiff, opShr, opBit, g_h0, g1, hM1, hgt1, e3, e7, e8, e9, e10, e11, e12, hlt, hkb]
      refine loopK_next _ ?hm ?hf ⟨i + 1, rfl, rfl, (by simp [hos, e10]), (by simp [hos, e11]), (by simp (disch := first | omega | (simp; done) | fail) [wrap64c, if_pos, if_neg, opAnd, opOr, opXor, opDiff, opShr, opBit, g_h0, g1, hM1, hgt1, e3, e7, e8, e9, e10, e11, e12, hlt, hkb] <;> omega), (by first | omega | assumption | (simp (disch := first | omega | (simp; done) | fail) [wrap64c, if_pos, if_neg, opAnd, opOr, opXor, opDiff, opShr, opBit, g_h0, g1, hM1, hgt1, e3, e7, e8, e9, e10, e11, e12, hlt, hkb] <;> omega))⟩
      (case hm => first | omega | (simp; omega))
      (case hf => simp [FrameL, g_h0, g1, hM1, hgt1, e3, e7, e8, e9, e10, e11, e12, hlt, hkb, f3_0, f7_0, f8_0, f9_0])
    · rw [hop] at hkb hos
      have hkb := hkb
      try simp (disch := first | omega | (simp; done) | fail) [wrap64c, if_pos, if_neg, opAnd, opOr, opXor, opDiff, opShr, opBit, g_h0, g1, hM1, hgt1, e3, e7, e8, e9, e10, e11, e12, hlt, hkb]
      refine WD_loopC [3, 7, 8, 9, 10, 11, 12, 38, 39] (fun m tm h' => ∃ k, m = L.length - k ∧ h1 = h' ∧ tm 13 = .int .i64 ((hasL (L.take k) i).length : Int) ∧ tm 40 = .int .i64 (k : Int) ∧ (k ≤ L.length)) _ ⟨0, rfl, rfl, (by simp [hasL]), (by simp (disch := first | omega | (simp; done) | fail) [wrap64c, if_pos, if_neg, opAnd, opOr, opXor, opDiff, opShr, opBit, g_h0, g1, hM1, hgt1, e3, e7, e8, e9, e10, e11, e12, hlt, hkb]), (by first | omega | assumption | (simp (disch := first | omega | (simp; done) | fail) [wrap64c, if_pos, if_neg, opAnd, opOr, opXor, opDiff, opShr, opBit, g_h0, g1, hM1, hgt1, e3, e7, e8, e9, e10, e11, e12, hlt, hkb] <;> omega))⟩ ?_
      rintro m tm h' hFr ⟨k, rfl, rfl, e13, e40, hk⟩
      simp only [FrameL] at hFr
      obtain ⟨f3_1, f7_1, f8_1, f9_1, f10_1, f11_1, f12_1, f38_1, f39_1, -⟩ := hFr
      try simp (disch := first | omega | (simp; done) | fail) [wrap64c, if_pos, if_neg, opAnd, opOr, opXor, opDiff, opShr, opBit, g_h0, g1, hM1, hgt1, e3, e7, e8, e9, e10, e11, e12, hlt, hkb] at f3_1 f7_1 f8_1 f9_1 f10_1 f11_1 f12_1 f38_1 f39_1
      have e3 := f3_1
      have e7 := f7_1
      have e8 := f8_1
      have e9 := f9_1
      have e10 := f10_1
      have e11 := f11_1
      have e12 := f12_1
      have e38 := f38_1
      have e39 := f39_1
      have hhl := has_take_le L k i
      by_cases hlk : k < L.length
      · obtain ⟨o_w, i_w, c_w, cs_w, own_w, ex_w, es_w, q_w, b_w, g_w, l_w, r_w⟩ := hv1.open ((by omega))
        have z_w : ∀ h2 : i_w < cs_w.length, cs_w[i_w] = _ := fun h2 => r_w 0 ((by omega)) h2
        have hx1 := hLx _ (List.getElem_mem hlk)
        have hht := has_take hlk i
        try simp (disch := first | omega | (simp; done) | fail) [wrap64c, if_pos, if_neg, opAnd, opOr, opXor, opDiff, opShr, opBit, g_h0, g1, hM1, hgt1, e3, e7, e8, e9, e10, e11, e12, hlt, hkb, e13, e38, e39, e40, hlk, q_w, g_w, l_w, r_w, z_w]
        refine callG_c (by simp) (by simp) ?ha (spIn_ok h1 L[k] i (by omega) (by omega)) ?_
        (case ha => simp (disch := first | omega | (simp; done) | fail) [wrap64c, if_pos, if_neg, opAnd, opOr, opXor, opDiff, opShr, opBit, g_h0, g1, hM1, hgt1, e3, e7, e8, e9, e10, e11, e12, hlt, hkb, e13, e38, e39, e40, hlk, q_w, g_w, l_w, r_w, z_w])
        cases hbk : L[k].testBit i
        · try simp (disch := first | omega | (simp; done) | fail) [wrap64c, if_pos, if_neg, opAnd, opOr, opXor, opDiff, opShr, opBit, g_h0, g1, hM1, hgt1, e3, e7, e8, e9, e10, e11, e12, hlt, hkb, e13, e38, e39, e40, hlk, q_w, g_w, l_w, r_w, z_w, hbk]
          refine loopK_next _ ?hm ?hf ⟨k + 1, rfl, rfl, (by simp [hht, hbk, e13]), (by simp (disch := first | omega | (simp; done) | fail) [wrap64c, if_pos, if_neg, opAnd, opOr, opXor, opDiff, opShr, opBit, g_h0, g1, hM1, hgt1, e3, e7, e8, e9, e10, e11, e12, hlt, hkb, e13, e38, e39, e40, hlk, q_w, g_w, l_w, r_w, z_w, hbk] <;> omega), (by first | omega | assumption | (simp (disch := first | omega | (simp; done) | fail) [wrap64c, if_pos, if_neg, opAnd, opOr, opXor, opDiff, opShr, opBit, g_h0, g1, hM1, hgt1, e3, e7, e8, e9, e10, e11, e12, hlt, hkb, e13, e38, e39, e40, hlk, q_w, g_w, l_w, r_w, z_w, hbk] <;> omega))⟩
          (case hm => first | omega | (simp; omega))
          (case hf => simp [FrameL, g_h0, g1, hM1, hgt1, e3, e7, e8, e9, e10, e11, e12, hlt, hkb, e13, e38, e39, e40, hlk, q_w, g_w, l_w, r_w, z_w, hbk, f3_1, f7_1, f8_1, f9_1, f10_1, f11_1, f12_1, f38_1, f39_1])
        · try simp (disch := first | omega | (simp; done) | fail) [wrap64c, if_pos, if_neg, opAnd, opOr, opXor, opDiff, opShr, opBit, g_h0, g1, hM1, hgt1, e3, e7, e8, e9, e10, e11, e12, hlt, hkb, e13, e38, e39, e40, hlk, q_w, g_w, l_w, r_w, z_w, hbk]
          refine loopK_next _ ?hm ?hf ⟨k + 1, rfl, rfl, (by simp [hht, hbk]), (by simp (disch := first | omega | (simp; done) | fail) [wrap64c, if_pos, if_neg, opAnd, opOr, opXor, opDiff, opShr, opBit, g_h0, g1, hM1, hgt1, e3, e7, e8, e9, e10, e11, e12, hlt, hkb, e13, e38, e39, e40, hlk, q_w, g_w, l_w, r_w, z_w, hbk] <;> omega), (by first | omega | assumption | (simp (disch := first | omega | (simp; done) | fail) [wrap64c, if_pos, if_neg, opAnd, opOr, opXor, opDiff, opShr, opBit, g_h0, g1, hM1, hgt1, e3, e7, e8, e9, e10, e11, e12, hlt, hkb, e13, e38, e39, e40, hlk, q_w, g_w, l_w, r_w, z_w, hbk] <;> omega))⟩
          (case hm => first | omega | (simp; omega))
          (case hf => simp [FrameL, g_h0, g1, hM1, hgt1, e3, e7, e8, e9, e10, e11, e12, hlt, hkb, e13, e38, e39, e40, hlk, q_w, g_w, l_w, r_w, z_w, hbk, f3_1, f7_1, f8_1, f9_1, f10_1, f11_1, f12_1, f38_1, f39_1])
      · have hft : L.take k = L := List.take_of_length_le (by omega)
        rw [hft] at e13 hhl
        have hdn : (2 * ((hasL L i).length : Int) - (L.length : Int)).natAbs = distN L i := rfl
        obtain ⟨s1, hs1⟩ : ∃ s1, s1 = (halfS L (openK L i)).1 := ⟨_, rfl⟩
        obtain ⟨s2, hs2⟩ : ∃ s2, s2 = (halfS L (openK L i)).2 := ⟨_, rfl⟩
        have hsn : halfS L (openK L (i + 1)) = if s1 < 0 ∨ distN L i < s2 then ((i : Int), distN L i) else halfS L (openK L i) := by
          rw [hos, if_pos rfl, halfS_snoc, hs1, hs2]
        rw [← hs1] at e10
        rw [← hs2] at e11
        try simp (disch := first | omega | (simp; done) | fail) [wrap64c, if_pos, if_neg, opAnd, opOr, opXor, opDiff, opShr, opBit, g_h0, g1, hM1, hgt1, e3, e7, e8, e9, e10, e11, e12, hlt, hkb, e13, e38, e39, e40, hlk, hdn]
        refine callG_c (by simp) (by simp) ?ha (l1Abs_ok h1 (2 * ((hasL L i).length : Int) - (L.length : Int)) (by omega) (by omega)) ?_
        (case ha => simp (disch := first | omega | (simp; done) | fail) [wrap64c, if_pos, if_neg, opAnd, opOr, opXor, opDiff, opShr, opBit, g_h0, g1, hM1, hgt1, e3, e7, e8, e9, e10, e11, e12, hlt, hkb, e13, e38, e39, e40, hlk, hdn])
        by_cases c1 : s1 < 0
        · rw [if_pos (.inl c1)] at hsn
          try simp (disch := first | omega | (simp; done) | fail) [wrap64c, if_pos, if_neg, opAnd, opOr, opXor, opDiff, opShr, opBit, g_h0, g1, hM1, hgt1, e3, e7, e8, e9, e10, e11, e12, hlt, hkb, e13, e38, e39, e40, hlk, hdn, c1]
          refine loopK_next _ ?hm ?hf ⟨i + 1, rfl, rfl, (by simp [hsn]), (by simp [hsn]), (by simp (disch := first | omega | (simp; done) | fail) [wrap64c, if_pos, if_neg, opAnd, opOr, opXor, opDiff, opShr, opBit, g_h0, g1, hM1, hgt1, e3, e7, e8, e9, e10, e11, e12, hlt, hkb, e13, e38, e39, e40, hlk, hdn, c1] <;> omega), (by first | omega | assumption | (simp (disch := first | omega | (simp; done) | fail) [wrap64c, if_pos, if_neg, opAnd, opOr, opXor, opDiff, opShr, opBit, g_h0, g1, hM1, hgt1, e3, e7, e8, e9, e10, e11, e12, hlt, hkb, e13, e38, e39, e40, hlk, hdn, c1] <;> omega))⟩
          (case hm => first | omega | (simp; omega))
          (case hf => simp [FrameL, g_h0, g1, hM1, hgt1, e3, e7, e8, e9, e10, e11, e12, hlt, hkb, e13, e38, e39, e40, hlk, hdn, c1, f3_0, f7_0, f8_0, f9_0])
        · by_cases c2 : distN L i < s2
          · rw [if_pos (.inr c2)] at hsn
            try simp (disch := first | omega | (simp; done) | fail) [wrap64c, if_pos, if_neg, opAnd, opOr, opXor, opDiff, opShr, opBit, g_h0, g1, hM1, hgt1, e3, e7, e8, e9, e10, e11, e12, hlt, hkb, e13, e38, e39, e40, hlk, hdn, c1, c2]
            refine loopK_next _ ?hm ?hf ⟨i + 1, rfl, rfl, (by simp [hsn]), (by simp [hsn]), (by simp (disch := first | omega | (simp; done) | fail) [wrap64c, if_pos, if_neg, opAnd, opOr, opXor, opDiff, opShr, opBit, g_h0, g1, hM1, hgt1, e3, e7, e8, e9, e10, e11, e12, hlt, hkb, e13, e38, e39, e40, hlk, hdn, c1, c2] <;> omega), (by first | omega | assumption | (simp (disch := first | omega | (simp; done) | fail) [wrap64c, if_pos, if_neg, opAnd, opOr, opXor, opDiff, opShr, opBit, g_h0, g1, hM1, hgt1, e3, e7, e8, e9, e10, e11, e12, hlt, hkb, e13, e38, e39, e40, hlk, hdn, c1, c2] <;> omega))⟩
            (case hm => first | omega | (simp; omega))
            (case hf => simp [FrameL, g_h0, g1, hM1, hgt1, e3, e7, e8, e9, e10, e11, e12, hlt, hkb, e13, e38, e39, e40, hlk, hdn, c1, c2, f3_0, f7_0, f8_0, f9_0])
          · rw [if_neg (by omega)] at hsn
            try simp (disch := first | omega | (simp; done) | fail) [wrap64c, if_pos, if_neg, opAnd, opOr, opXor, opDiff, opShr, opBit, g_h0, g1, hM1, hgt1, e3, e7, e8, e9, e10, e11, e12, hlt, hkb, e13, e38, e39, e40, hlk, hdn, c1, c2]
            refine loopK_next _ ?hm ?hf ⟨i + 1, rfl, rfl, (by simp [hsn, e10, hs1]), (by simp [hsn, e11, hs2]), (by simp (disch := first | omega | (simp; done) | fail) [wrap64c, if_pos, if_neg, opAnd, opOr, opXor, opDiff, opShr, opBit, g_h0, g1, hM1, hgt1, e3, e7, e8, e9, e10, e11, e12, hlt, hkb, e13, e38, e39, e40, hlk, hdn, c1, c2] <;> omega), (by first | omega | assumption | (simp (disch := first | omega | (simp; done) | fail) [wrap64c, if_pos, if_neg, opAnd, opOr, opXor, opDiff, opShr, opBit, g_h0, g1, hM1, hgt1, e3, e7, e8, e9, e10, e11, e12, hlt, hkb, e13, e38, e39, e40, hlk, hdn, c1, c2] <;> omega))⟩
            (case hm => first | omega | (simp; omega))
            (case hf => simp [FrameL, g_h0, g1, hM1, hgt1, e3, e7, e8, e9, e10, e11, e12, hlt, hkb, e13, e38, e39, e40, hlk, hdn, c1, c2, f3_0, f7_0, f8_0, f9_0])
  · have hie : i = n := by omega
    try simp (disch := first | omega | (simp; done) | fail) [wrap64c, if_pos, if_neg, opAnd, opOr, opXor, opDiff, opShr, opBit, g_h0, g1, hM1, hgt1, e3, e7, e8, e9, e10, e11, e12, hlt]
    exact done_ret rfl (by simp [← hLe, halfN, hie, openK_eq n7 hLn, K1])
@[simp] theorem adds_allocM {h h' : Hp} (k : Adds h h') (es : List (Value × Value)) : Adds h (h'.alloc (.map es)) := k.trans (Adds.alloc _ fun _ => rfl)
theorem newAsker_ok (h : Hp) (v : Value) (N : Int) (X : List Int) (hv : Space h v N X) : ∃ v' h', CallOK Try.prog 156 #[v] h v' h' ∧ ∃ o p q b, v' = .pointer (some ⟨o, 0, none⟩) ∧ Adds h h' ∧
    (h.next ≤ p ∧ p < q ∧ q < o ∧ o < h'.next) ∧ h'.get o = .cells [.int .i64 N, b, .map (some p), .map (some q)] true true 1 ∧ h'.get p = .map [] ∧ h'.get q = .map [] ∧ IntsF (fun x => x < h.next) h' b X := by
  refine callY_L (args := [v]) 8 _ [.tmp 2] Try.func156 rfl rfl rfl ?_
  obtain ⟨b, rfl, hX⟩ := hv
  have nt := hX.nt
  have cs := hX.cs
  try simp (disch := first | omega | (simp; done) | fail) [wrap64c, if_pos, if_neg, opAnd, opOr, opXor, opDiff, opShr, opBit, nt, cs]
  first | refine WY_heap fun h1 q_h1 => ?_ | refine callG_heap fun h1 q_h1 => ?_ | refine callP_heap fun h1 q_h1 => ?_ | refine callS_heap fun h1 q_h1 => ?_ | refine RY_heap fun h1 q_h1 => ?_ | refine PY_heap fun h1 q_h1 => ?_ | refine SY_heap fun h1 q_h1 => ?_ | refine doneY_heap fun h1 q_h1 => ?_ | refine loopK_heap fun h1 q_h1 => ?_ | refine thenY_heap fun h1 q_h1 => ?_ | refine thenM_heap fun h1 q_h1 => ?_
  have k1 : Adds h h1 := by rw [q_h1]; exact (by first | exact aK | exact kK)
  refine done_ret rfl ⟨h.next + 3, h.next + 1, h.next + 2, b, by simp, k1, ⟨by omega, by omega, by omega, by simp [q_h1]⟩, by simp [q_h1], by simp [q_h1], by simp [q_h1], hX.old.keep k1.1⟩
noncomputable def halfR (N : Int) (X : List Int) (a : Int) : List Int := if oneB N X a = true then toN (runF halfN a.toNat X.length (natsOf X)) else []
end Go.Proofs.Ytnncipcldbopgaa
namespace Go.Proofs.Ytnncipcldbopgaa
set_option linter.unusedSimpArgs false
set_option linter.unusedVariables false
set_option maxHeartbeats 4000000
open Go Go.Eng
attribute [local irreducible] WD RunD PreD Runs CallOK
structure SLn (n : Nat) (L : List Nat) : Prop where
  n7 : n ≤ 7
  srt : L.Pairwise (· < ·)
  lt : ∀ x ∈ L, x < bit n
theorem SpGood.sl {n : Nat} {xs : List Nat} (g : SpGood n xs) : SLn n xs := ⟨g.n7, g.srt, g.lt⟩
theorem SLn.left {n : Nat} {L : List Nat} (s : SLn n L) (y z : Nat) : SLn n (leftN L y z) := ⟨s.n7, left_srt s.srt y z, fun x hx => s.lt x (left_sub hx)⟩
theorem SLn.open1 {n : Nat} {L : List Nat} (s : SLn n L) : openN L ≠ [] ↔ 1 < L.length := open_ne s.n7 s.srt s.lt
def totF : Nat → List Nat → Nat
  | 0, _ => 0
  | k + 1, L => minL ((openN L).map fun i => L.length + totF k (hasL L i) + totF k (lacksL L i))
def totN (L : List Nat) : Nat := totF L.length L
def tasN (L : List Nat) (i : Nat) : Nat := L.length + totN (hasL L i) + totN (lacksL L i)
def nbF (L : List Nat) (x : Nat) : Nat := ((List.range 7).filter fun i => decide (nXor x (bit i) ∈ L)).length
end Go.Proofs.Ytnncipcldbopgaa
namespace Go.Proofs.Ytnncipcldbopgaa
set_option linter.unusedSimpArgs false
set_option linter.unusedVariables false
set_option maxHeartbeats 4000000
open Go Go.Eng
attribute [local irreducible] WD RunD PreD Runs CallOK
def keyV (y z : Nat) : Value := .agg #[.int .i64 (y : Int), .int .i64 (z : Int)]
def MemOK (xs : List Nat) (es : List (Value × Value)) : Prop := ∀ e ∈ es, ∃ y z : Nat, e.1 = keyV y z ∧ e.2 = .int .i64 ((worstN (leftN xs y z) : Nat) : Int)
structure AskOK (base o p : Nat) (N : Int) (b m2 : Value) (xs : List Nat) (h : Hp) : Prop where
  ob : o < base
  pb : p < base
  ne : o ≠ p
  asker : h.get o = .cells [.int .i64 N, b, .map (some p), m2] true true 1
  ints : IntsF (fun x => x < base ∧ x ≠ p) h b (toN xs)
  mem : ∃ es, h.get p = .map es ∧ MemOK xs es
end Go.Proofs.Ytnncipcldbopgaa
namespace Go.Proofs.Ytnncipcldbopgaa
set_option linter.unusedSimpArgs false
set_option linter.unusedVariables false
set_option maxHeartbeats 4000000
open Go Go.Eng
attribute [local irreducible] WD RunD PreD Runs CallOK
def nShl (a i : Nat) : Nat := a <<< i
def inS (n : Nat) (L : List Nat) : Nat := L.foldl nAnd (bit n - 1)
def outS (n : Nat) (L : List Nat) : Nat := L.foldl ndiff (bit n - 1)
theorem inS_lt (n : Nat) (L : List Nat) : inS n L < bit n := by
  have := foldAnd_le L (bit n - 1)
  have := bit_pos n
  unfold inS; omega
theorem outS_lt (n : Nat) (L : List Nat) : outS n L < bit n := by
  have : ∀ (L : List Nat) (a : Nat), a < bit n → L.foldl ndiff a < bit n := by
    intro L
    induction L with
    | nil => intro a ha; exact ha
    | cons x L ih => intro a ha; exact ih _ (ndiff_lt ha)
  exact this L _ (by have := bit_pos n; omega)
theorem closed_left {n : Nat} {xs : List Nat} (hx : ∀ x ∈ xs, x < bit n) {y z : Nat} (hne : leftN xs y z ≠ []) : leftN xs (inS n (leftN xs y z)) (outS n (leftN xs y z)) = leftN xs y z := by
  obtain ⟨w, hw⟩ := List.exists_mem_of_ne_nil _ hne
  conv => lhs; unfold leftN
  conv => rhs; unfold leftN
  apply List.filter_congr
  intro x hxm
  rw [Bool.eq_iff_iff, leftB_iff, leftB_iff]
  have hwb := leftB_iff.1 (List.mem_filter.1 hw).2
  have hwn := hx w (left_sub hw)
  constructor
  · rintro ⟨h1, h2⟩
    refine ⟨fun i hi => ?_, fun i hi => ?_⟩
    · have hin : i < n := by
        apply Classical.byContradiction
        intro hn
        have := hwb.1 i hi
        rw [hi_bit hwn (by omega)] at this; cases this
      apply h1 i
      unfold inS
      rw [foldAnd_bit, full_bit]
      simp only [hin, decide_true, Bool.true_and, List.all_eq_true]
      intro q hq
      exact (leftB_iff.1 (List.mem_filter.1 hq).2).1 i hi
    · by_cases hin : i < n
      · apply h2 i
        unfold outS
        rw [foldDiff_bit, full_bit]
        simp only [hin, decide_true, Bool.true_and, List.all_eq_true, Bool.not_eq_true']
        intro q hq
        exact (leftB_iff.1 (List.mem_filter.1 hq).2).2 i hi
      · exact hi_bit (hx x hxm) (by omega)
  · intro hxb
    have hxl : x ∈ leftN xs y z := List.mem_filter.2 ⟨hxm, leftB_iff.2 hxb⟩
    refine ⟨fun i hi => ?_, fun i hi => ?_⟩
    · unfold inS at hi
      rw [foldAnd_bit, Bool.and_eq_true, List.all_eq_true] at hi
      exact hi.2 x hxl
    · unfold outS at hi
      rw [foldDiff_bit, Bool.and_eq_true, List.all_eq_true] at hi
      have := hi.2 x hxl
      simpa using this
def minW (l : List Nat) : Nat := l.foldl min 1073741824
def cellsN (W : List Nat) : List Value := (toN W).map (.int .i64)
structure TabOK (base ot o1 o2 n m : Nat) (b : Value) (xs : List Nat) (h : Hp) : Prop where
  tb : ot < base
  b1 : o1 < base
  b2 : o2 < base
  n1 : ot ≠ o1
  n2 : ot ≠ o2
  n12 : o1 ≠ o2
  tab : h.get ot = .cells [.int .i64 (n : Int), b, .slice (some ⟨o1, 0, none⟩) (bit m) (bit m), .slice (some ⟨o2, 0, none⟩) (bit m) (bit m)] true true 1
  ints : IntsF (fun x => x < base ∧ x ≠ o1 ∧ x ≠ o2) h b (toN xs)
  ent : ∃ W T : List Nat, W.length = bit m ∧ T.length = bit m ∧ h.get o1 = .cells (cellsN W) true true 1 ∧ h.get o2 = .cells (cellsN T) true true 1 ∧
    ∀ i (h1 : i < W.length) (h2 : i < T.length), 0 < W[i] → W[i] = 1 + worstN (leftN xs (i / bit n) (i % bit n)) ∧ 1 ≤ T[i] ∧ T[i] ≤ 1 + (leftN xs (i / bit n) (i % bit n)).length * (leftN xs (i / bit n) (i % bit n)).length ∧ T[i] = 1 + totN (leftN xs (i / bit n) (i % bit n))
theorem l1MostN_ok (h : Hp) (a b : Nat) : CallOK Try.prog 173 #[.int .i64 (a : Int), .int .i64 (b : Int)] h (.int .i64 ((max a b : Nat) : Int)) h := by
  have := l1Most_ok h a b
  have e : (if (b : Int) < a then (a : Int) else b) = ((max a b : Nat) : Int) := by split <;> omega
  rw [e] at this; exact this
end Go.Proofs.Ytnncipcldbopgaa
namespace Go.Proofs.Ytnncipcldbopgaa
set_option linter.unusedSimpArgs false
set_option linter.unusedVariables false
set_option maxHeartbeats 4000000
open Go Go.Eng
attribute [local irreducible] WD RunD PreD Runs CallOK
theorem inS_bit {n : Nat} {L : List Nat} {i : Nat} : (inS n L).testBit i = (decide (i < n) && L.all fun x => x.testBit i) := by
  rw [inS, foldAnd_bit, full_bit]
theorem outS_bit {n : Nat} {L : List Nat} {i : Nat} : (outS n L).testBit i = (decide (i < n) && L.all fun x => !x.testBit i) := by
  rw [outS, foldDiff_bit, full_bit]
theorem in_out {n : Nat} {L : List Nat} (hne : L ≠ []) : nAnd (inS n L) (outS n L) = 0 := by
  rw [nAnd_zero]
  intro i hi
  rw [inS_bit, Bool.and_eq_true] at hi
  rw [outS_bit]
  obtain ⟨x, hx⟩ := List.exists_mem_of_ne_nil _ hne
  have h1 := List.all_eq_true.1 hi.2 x hx
  have h2 : (L.all fun x => !x.testBit i) = false := by
    rw [Bool.eq_false_iff]
    intro h
    have := List.all_eq_true.1 h x hx
    rw [h1] at this; cases this
  rw [h2, Bool.and_false]
theorem yes_in {n : Nat} {xs : List Nat} {a b : Nat} (ha : a < bit n) : ndiff a (inS n (leftN xs a b)) = 0 := by
  rw [ndiff_zero]
  intro i hi
  rw [inS_bit, Bool.and_eq_true]
  refine ⟨?_, List.all_eq_true.2 fun x hx => (leftB_iff.1 (List.mem_filter.1 hx).2).1 i hi⟩
  apply decide_eq_true
  apply Classical.byContradiction
  intro hn
  rw [hi_bit ha (by omega)] at hi
  cases hi
theorem no_out {n : Nat} {xs : List Nat} {a b : Nat} (hb : b < bit n) : ndiff b (outS n (leftN xs a b)) = 0 := by
  rw [ndiff_zero]
  intro i hi
  rw [outS_bit, Bool.and_eq_true]
  refine ⟨?_, List.all_eq_true.2 fun x hx => by rw [(leftB_iff.1 (List.mem_filter.1 hx).2).2 i hi]; rfl⟩
  apply decide_eq_true
  apply Classical.byContradiction
  intro hn
  rw [hi_bit hb (by omega)] at hi
  cases hi
theorem known_open {n : Nat} {L : List Nat} {i : Nat} (hne : L ≠ []) (hi : i < n) : (nOr (inS n L) (outS n L)).testBit i = !opB L i := known_bit hne hi
theorem known_all {n : Nat} {L : List Nat} (s : SLn n L) (hne : L ≠ []) : nOr (inS n L) (outS n L) = bit n - 1 ↔ L.length = 1 := by
  have h0 := List.length_pos_iff.2 hne
  constructor
  · intro h
    apply Classical.byContradiction
    intro hn
    obtain ⟨i, hi⟩ := List.exists_mem_of_ne_nil _ (s.open1.2 (by omega))
    have hi' := hi
    rw [← openK_eq s.n7 s.lt] at hi'
    have h1 := (mem_openK.1 hi').1
    have h2 := known_open hne h1
    rw [h, (mem_openK.1 hi').2, full_bit] at h2
    simp [h1] at h2
  · intro h
    apply eq_bits
    intro i
    by_cases hi : i < n
    · rw [known_open hne hi, full_bit]
      have : opB L i = false := by
        rw [Bool.eq_false_iff]
        intro ho
        have hm : i ∈ openN L := mem_openK.2 ⟨by have := s.n7; omega, ho⟩
        have := s.open1.1 (List.ne_nil_of_mem hm)
        omega
      simp [this, hi]
    · rw [full_bit, hi_bit (nOr_lt (inS_lt n L) (outS_lt n L)) (by omega)]
      simp [hi]
theorem ask_yes {n : Nat} {L : List Nat} {i : Nat} (hne : L ≠ []) (hi : i < n) (ho : opB L i = true) : nAnd (nOr (inS n L) (bit i)) (outS n L) = 0 ∧ nAnd (inS n L) (nOr (outS n L) (bit i)) = 0 := by
  have h0 := in_out (n := n) hne
  have hk := known_open hne hi
  rw [ho, nOr_bit] at hk
  simp only [Bool.not_true, Bool.or_eq_false_iff] at hk
  rw [nAnd_zero] at h0
  constructor
  · rw [nAnd_zero]
    intro j hj
    rw [nOr_bit, bit_bit, Bool.or_eq_true] at hj
    rcases hj with hj | hj
    · exact h0 j hj
    · have := of_decide_eq_true hj; subst this; exact hk.2
  · rw [nAnd_zero]
    intro j hj
    rw [nOr_bit, bit_bit, h0 j hj, Bool.false_or]
    by_cases e : i = j
    · subst e; rw [hk.1] at hj; cases hj
    · simp [e]
theorem SpGood.prev {n : Nat} {xs : List Nat} (g : SpGood n xs) {x : Nat} (hx : x ∈ xs) : ∀ (d y : Nat), y ∈ xs → ndiff y x = 0 → x - y ≤ d → y ≠ x → ∃ i, x.testBit i = true ∧ y.testBit i = false ∧ ndiff x (bit i) ∈ xs := by
  intro d
  induction d with
  | zero =>
    intro y hy hyx hd hne
    have : y ≤ x := sub_le hyx
    omega
  | succ d ih =>
    intro y hy hyx hd hne
    have hex : ∃ j, x.testBit j = true ∧ y.testBit j = false := by
      apply Classical.byContradiction
      intro hno
      apply hne
      apply eq_bits
      intro j
      cases hb : x.testBit j
      · cases hc : y.testBit j
        · rfl
        · have := (ndiff_zero _ _).1 hyx j hc
          rw [hb] at this; cases this
      · cases hc : y.testBit j
        · exact absurd ⟨j, hb, hc⟩ hno
        · rfl
    obtain ⟨i, hin, h1, h2, h3⟩ := g.next hy x hx hex
    by_cases he : nOr y (bit i) = x
    · refine ⟨i, h3, h1, ?_⟩
      have : ndiff x (bit i) = y := by
        rw [← he]
        apply eq_bits
        intro j
        rw [ndiff_bit, nOr_bit, bit_bit]
        by_cases hj : i = j
        · subst hj; simp [h1]
        · simp [hj]
      rw [this]; exact hy
    · have hlt : y < nOr y (bit i) := or_more h1
      have hsub : ndiff (nOr y (bit i)) x = 0 := by
        rw [ndiff_zero]
        intro j hj
        rw [nOr_bit, bit_bit, Bool.or_eq_true] at hj
        rcases hj with hj | hj
        · exact (ndiff_zero _ _).1 hyx j hj
        · have := of_decide_eq_true hj; subst this; exact h3
      have hle : nOr y (bit i) ≤ x := sub_le hsub
      obtain ⟨k, k1, k2, k3⟩ := ih _ h2 hsub (by omega) he
      refine ⟨k, k1, ?_, k3⟩
      rw [nOr_bit] at k2
      simp only [Bool.or_eq_false_iff] at k2
      exact k2.1
where
  sub_le {a b : Nat} (h : ndiff a b = 0) : a ≤ b := by
    have : a = nAnd a b := by
      apply eq_bits
      intro i
      rw [nAnd_bit]
      cases ha : a.testBit i
      · rfl
      · rw [(ndiff_zero _ _).1 h i ha]; rfl
    rw [this]; exact nAnd_le' a b
  or_more {a i : Nat} (h : a.testBit i = false) : a < nOr a (bit i) := by
    have h1 : a ≤ nOr a (bit i) := Nat.left_le_or
    have h2 : a ≠ nOr a (bit i) := by
      intro e
      have : (nOr a (bit i)).testBit i = false := by rw [← e]; exact h
      rw [nOr_bit, bit_bit] at this
      simp at this
    omega
theorem fringe_tells {n : Nat} {xs : List Nat} (g : SpGood n xs) {x y : Nat} (hx : x ∈ xs) (hy : y ∈ xs) (h1 : ndiff (innerN (fam xs) x) y = 0) (h2 : nAnd y (outerN (fam xs) n x) = 0) : y = x := by
  have hyx : ndiff y x = 0 := by
    rw [ndiff_zero]
    intro j hj
    apply Classical.byContradiction
    intro hn
    obtain ⟨i, a1, a2, a3, a4⟩ := g.next hx y hy ⟨j, hj, by simpa using hn⟩
    have := (nAnd_zero _ _).1 h2 i a4
    unfold outerN at this
    rw [maskN_bit] at this
    simp [a1, a2, fam, a3] at this
  apply Classical.byContradiction
  intro hne
  obtain ⟨i, a1, a2, a3⟩ := g.prev hx _ y hy hyx (Nat.le_refl _) hne
  have hin : i < n := by
    apply Classical.byContradiction
    intro hn
    rw [hi_bit (g.lt x hx) (by omega)] at a1
    cases a1
  have := (ndiff_zero _ _).1 h1 i (by
    unfold innerN
    rw [maskN_bit, a1, ← ndiff_one a1]
    have := g.n7
    simp [fam, a3]
    omega)
  rw [a2] at this; cases this
theorem proof_iff {n : Nat} {xs : List Nat} (g : SpGood n xs) {x : Nat} (hx : x ∈ xs) (p q : Nat) : leftN xs p q = [x] ↔ ndiff p x = 0 ∧ nAnd q x = 0 ∧ ndiff (innerN (fam xs) x) p = 0 ∧ ndiff (outerN (fam xs) n x) q = 0 := by
  constructor
  · intro h
    have hm : x ∈ leftN xs p q := by rw [h]; simp
    obtain ⟨hp, hq⟩ := leftB_iff.1 (List.mem_filter.1 hm).2
    refine ⟨(ndiff_zero _ _).2 hp, (nAnd_zero _ _).2 hq, (ndiff_zero _ _).2 fun i hi => ?_, (ndiff_zero _ _).2 fun i hi => ?_⟩
    · unfold innerN at hi
      rw [maskN_bit] at hi
      simp only [Bool.and_eq_true] at hi
      apply Classical.byContradiction
      intro hn
      have hn' : p.testBit i = false := by simpa using hn
      have hy : nXor x (bit i) ∈ leftN xs p q := by
        refine List.mem_filter.2 ⟨of_decide_eq_true hi.2.2, leftB_iff.2 ⟨fun j hj => ?_, fun j hj => ?_⟩⟩
        · rw [nXor_bit, bit_bit]
          by_cases e : i = j
          · subst e; rw [hn'] at hj; cases hj
          · simp [e, hp j hj]
        · rw [nXor_bit, bit_bit]
          by_cases e : i = j
          · subst e; simp [hi.2.1]
          · simp [e, hq j hj]
      rw [h] at hy
      have e := List.mem_singleton.1 hy
      have : (nXor x (bit i)).testBit i = x.testBit i := by rw [e]
      rw [nXor_bit, bit_bit, hi.2.1] at this
      simp at this
    · unfold outerN at hi
      rw [maskN_bit] at hi
      simp only [Bool.and_eq_true] at hi
      apply Classical.byContradiction
      intro hn
      have hn' : q.testBit i = false := by simpa using hn
      have hy : nOr x (bit i) ∈ leftN xs p q := by
        refine List.mem_filter.2 ⟨of_decide_eq_true hi.2.2, leftB_iff.2 ⟨fun j hj => ?_, fun j hj => ?_⟩⟩
        · rw [nOr_bit, hp j hj]; rfl
        · rw [nOr_bit, bit_bit]
          by_cases e : i = j
          · subst e; rw [hn'] at hj; cases hj
          · simp [e, hq j hj]
      rw [h] at hy
      have e := List.mem_singleton.1 hy
      have : (nOr x (bit i)).testBit i = x.testBit i := by rw [e]
      rw [nOr_bit, bit_bit] at this
      have h3 : x.testBit i = false := by simpa using hi.2.1
      rw [h3] at this
      simp at this
  · rintro ⟨h1, h2, h3, h4⟩
    have hm : x ∈ leftN xs p q := List.mem_filter.2 ⟨hx, leftB_iff.2 ⟨(ndiff_zero _ _).1 h1, (nAnd_zero _ _).1 h2⟩⟩
    have hall : ∀ y ∈ leftN xs p q, y = x := by
      intro y hy
      obtain ⟨hp, hq⟩ := leftB_iff.1 (List.mem_filter.1 hy).2
      refine fringe_tells g hx (left_sub hy) ((ndiff_zero _ _).2 fun i hi => hp i ((ndiff_zero _ _).1 h3 i hi)) ((nAnd_zero _ _).2 fun i hi => ?_)
      cases ho : (outerN (fam xs) n x).testBit i
      · rfl
      · have := hq i ((ndiff_zero _ _).1 h4 i ho)
        rw [hi] at this; cases this
    have hs := left_srt g.srt p q
    match hL : leftN xs p q, hm, hall, hs with
    | [y], hm, hall, hs => rw [hall y (by simp)]
    | y :: z :: l, hm, hall, hs =>
      have e1 := hall y (by simp)
      have e2 := hall z (by simp)
      have := (List.pairwise_cons.1 hs).1 z (by simp)
      omega
theorem fringes_proof {n : Nat} {xs : List Nat} (g : SpGood n xs) {x : Nat} (hx : x ∈ xs) : leftN xs (innerN (fam xs) x) (outerN (fam xs) n x) = [x] := by
  rw [proof_iff g hx]
  refine ⟨(ndiff_zero _ _).2 fun i hi => ?_, (nAnd_zero _ _).2 fun i hi => ?_, (ndiff_zero _ _).2 fun _ h => h, (ndiff_zero _ _).2 fun _ h => h⟩
  · unfold innerN at hi
    rw [maskN_bit] at hi
    simp only [Bool.and_eq_true] at hi
    exact hi.2.1
  · unfold outerN at hi
    rw [maskN_bit] at hi
    simp only [Bool.and_eq_true] at hi
    simpa using hi.2.1
theorem fringes_apart {n : Nat} (xs : List Nat) (x : Nat) : nAnd (innerN (fam xs) x) (outerN (fam xs) n x) = 0 := by
  rw [nAnd_zero]
  intro i hi
  unfold innerN at hi
  rw [maskN_bit] at hi
  simp only [Bool.and_eq_true] at hi
  unfold outerN
  rw [maskN_bit, hi.2.1]
  simp
def tellP (x : Nat) : List Nat → Nat → Nat
  | [], p => p
  | i :: l, p => tellP x l (if x.testBit i = true then nOr p (bit i) else p)
def tellQ (x : Nat) : List Nat → Nat → Nat
  | [], q => q
  | i :: l, q => tellQ x l (if x.testBit i = true then q else nOr q (bit i))
end Go.Proofs.Ytnncipcldbopgaa
namespace Go.Proofs.Ytnncipcldbopgaa
set_option linter.unusedSimpArgs false
set_option linter.unusedVariables false
set_option maxHeartbeats 4000000
open Go Go.Eng
attribute [local irreducible] WD RunD PreD Runs CallOK
def frP (n : Nat) (xs : List Nat) (i o : Int) (x : Nat) : Bool := ((innerN (fam xs) x : Nat) : Int) == i && ((outerN (fam xs) n x : Nat) : Int) == o
noncomputable def frR (N : Int) (X : List Int) (i o : Int) : Option Nat := if (inB N X i && setB N.toNat o) = true then (natsOf X).find? (frP N.toNat (natsOf X) i o) else none
noncomputable def frV (N : Int) (X : List Int) (i o : Int) : Int := match frR N X i o with | some x => (x : Int) | none => 0
end Go.Proofs.Ytnncipcldbopgaa
namespace Go.Proofs.Ytnncipcldbopgaa
set_option linter.unusedSimpArgs false
set_option linter.unusedVariables false
set_option maxHeartbeats 4000000
open Go Go.Eng
attribute [local irreducible] WD RunD PreD Runs CallOK
def kle (a b : Nat) : Prop := pcN a < pcN b ∨ pcN a = pcN b ∧ a ≤ b
def lasI (a o x : Nat) : Nat := if ndiff a x = 0 ∧ (pcN x < pcN o ∨ pcN x = pcN o ∧ x < o) then x else o
def lasS (a o x : Nat) : Nat := if ndiff a x = 0 ∧ pcN x ≤ pcN o then x else o
structure LeastOf (a f : Nat) (l : List Nat) (o : Nat) : Prop where
  mem : o ∈ l ∨ o = f
  abv : ndiff a o = 0
  top : kle o f
  low : ∀ x ∈ l, ndiff a x = 0 → kle o x
def aboveF (a f : Nat) (l : List Nat) : Nat := l.foldl (lasI a) f
def aboveB (a f : Nat) (l : List Nat) : Nat := l.foldr (fun x o => lasS a o x) f
noncomputable def aboveR (N : Int) (X : List Int) (a : Int) : Int := if inB N X a = true then ((aboveF a.toNat (bit N.toNat - 1) (natsOf X) : Nat) : Int) else 0
end Go.Proofs.Ytnncipcldbopgaa
namespace Go.Proofs.Ytnncipcldbopgaa
set_option linter.unusedSimpArgs false
set_option linter.unusedVariables false
set_option maxHeartbeats 4000000
open Go Go.Eng
attribute [local irreducible] WD RunD PreD Runs CallOK
theorem inner_diff (M : Nat → Bool) (x : Nat) : ndiff (innerN M x) x = 0 := by
  rw [ndiff_zero]
  intro i hi
  rw [innerN_bit] at hi
  simp at hi
  exact hi.2.1
theorem innerN_le {n : Nat} {xs : List Nat} (g : SpGood n xs) {x : Nat} (hx : x ∈ xs) : innerN (fam xs) x < bit n := by
  have h := inner_diff (fam xs) x
  have hl := g.lt x hx
  apply Nat.lt_pow_two_of_testBit
  intro i hi
  cases hb : (innerN (fam xs) x).testBit i with
  | false => rfl
  | true =>
    have := (ndiff_zero _ _).1 h i hb
    rw [Nat.testBit_lt_two_pow (Nat.lt_of_lt_of_le hl (bit_mono hi))] at this
    cases this
end Go.Proofs.Ytnncipcldbopgaa
namespace Go.Proofs.Ytnncipcldbopgaa
set_option linter.unusedSimpArgs false
set_option linter.unusedVariables false
set_option maxHeartbeats 4000000
open Go Go.Eng
attribute [local irreducible] WD RunD PreD Runs CallOK
noncomputable def ansB (N : Int) (X : List Int) (y z : Int) : Bool := spB N X && (setB N.toNat y && (setB N.toNat z && decide (nAnd y.toNat z.toNat = 0)))
noncomputable def goB (N : Int) (X : List Int) (y z : Int) : Bool := ansB N X y z && decide (leftN (natsOf X) y.toNat z.toNat ≠ [])
theorem ansB_true {N : Int} {X : List Int} {y z : Int} (h : ansB N X y z = true) : ∃ n xs a b, N = (n : Nat) ∧ X = toN xs ∧ y = (a : Nat) ∧ z = (b : Nat) ∧ SpGood n xs ∧ a < bit n ∧ b < bit n ∧ nAnd a b = 0 := by
  unfold ansB at h
  simp only [Bool.and_eq_true, decide_eq_true_iff] at h
  obtain ⟨h1, h2, h3, h4⟩ := h
  obtain ⟨n, xs, rfl, rfl, g⟩ := spB_true h1
  obtain ⟨a, rfl, ha⟩ := setB_true h2
  obtain ⟨b, rfl, hb⟩ := setB_true h3
  exact ⟨n, xs, a, b, rfl, rfl, rfl, rfl, g, ha, hb, h4⟩
theorem ansB_of {n : Nat} {xs : List Nat} (g : SpGood n xs) {a b : Nat} (ha : a < bit n) (hb : b < bit n) (hab : nAnd a b = 0) : ansB (n : Int) (toN xs) (a : Int) (b : Int) = true := by
  simp [ansB, spB_of g, setB_of ha, setB_of hb, hab]
theorem goB_true {N : Int} {X : List Int} {y z : Int} (h : goB N X y z = true) : ∃ n xs a b, N = (n : Nat) ∧ X = toN xs ∧ y = (a : Nat) ∧ z = (b : Nat) ∧ SpGood n xs ∧ a < bit n ∧ b < bit n ∧ nAnd a b = 0 ∧ leftN xs a b ≠ [] := by
  unfold goB at h
  simp only [Bool.and_eq_true, decide_eq_true_iff] at h
  obtain ⟨h1, h2⟩ := h
  obtain ⟨n, xs, a, b, rfl, rfl, rfl, rfl, g, ha, hb, hab⟩ := ansB_true h1
  exact ⟨n, xs, a, b, rfl, rfl, rfl, rfl, g, ha, hb, hab, by simpa using h2⟩
theorem goB_of {n : Nat} {xs : List Nat} (g : SpGood n xs) {a b : Nat} (ha : a < bit n) (hb : b < bit n) (hab : nAnd a b = 0) (hne : leftN xs a b ≠ []) : goB (n : Int) (toN xs) (a : Int) (b : Int) = true := by
  simp [goB, ansB_of g ha hb hab, hne]
theorem areAns_ok (h : Hp) (v : Value) (N : Int) (X : List Int) (y z : Int) (hv : Space h v N X) (hl : X.length < 2 ^ 40) : CallOK Try.prog 168 #[v, .int .i64 y, .int .i64 z] h (.bool (ansB N X y z)) h := by
  refine callY_P 22 _ [.tmp 6] Try.func168 rfl rfl rfl (by first | rfl | simp) ?_
  obtain ⟨b, rfl, hX⟩ := hv
  refine WD_first ?_
  try simp (disch := first | omega | (simp; done) | fail) [wrap64c, if_pos, if_neg, opAnd, opOr, opXor, opDiff, opShr, opBit]
  refine stopK_heap fun h0 q_h0 => ?_
  refine stopK_go ?_
  have g_h0 : h0.get h.next = .cells [.int .i64 N, b] true true 1 := by simp [q_h0]
  have k_h0 : Adds h h0 := by rw [q_h0]; exact (by first | exact aK | exact kK)
  have n_h0 : h.next < h0.next := by simp [q_h0]; try omega
  have hX0 := hX.keep k_h0.1
  have K0 := k_h0.1
  have p0 : CallOK Try.prog 122 #[.agg #[.int .i64 N, b], .int .i64 y] h0 (.bool (inB N X y)) h0 := hasSet_ok h0 (.agg #[.int .i64 N, b]) N X y (.mk hX0) hl
  try simp (disch := first | omega | (simp; done) | fail) [wrap64c, if_pos, if_neg, opAnd, opOr, opXor, opDiff, opShr, opBit, g_h0]
  refine callG_c (by simp) (by simp) ?ha (p0) ?_
  (case ha => simp (disch := first | omega | (simp; done) | fail) [wrap64c, if_pos, if_neg, opAnd, opOr, opXor, opDiff, opShr, opBit, g_h0])
  cases c1 : inB N X y
  · try simp (disch := first | omega | (simp; done) | fail) [wrap64c, if_pos, if_neg, opAnd, opOr, opXor, opDiff, opShr, opBit, g_h0, c1]
    have : ansB N X y z = false := by
      unfold inB at c1
      unfold ansB
      revert c1
      cases spB N X <;> cases setB N.toNat y <;> simp
    exact done_ret rfl (by simp [this, K0])
  · obtain ⟨n, xs, x, hN, hXe, ha, g, hx⟩ := inB_true c1
    subst hN hXe ha
    have n7 := g.n7
    have hb7 := bit7 n7
    try simp (disch := first | omega | (simp; done) | fail) [wrap64c, if_pos, if_neg, opAnd, opOr, opXor, opDiff, opShr, opBit, g_h0, c1]
    refine callG_c (by simp) (by simp) ?ha (isSet_ok h0 n z (by omega)) ?_
    (case ha => simp (disch := first | omega | (simp; done) | fail) [wrap64c, if_pos, if_neg, opAnd, opOr, opXor, opDiff, opShr, opBit, g_h0, c1])
    cases c2 : setB n z
    · try simp (disch := first | omega | (simp; done) | fail) [wrap64c, if_pos, if_neg, opAnd, opOr, opXor, opDiff, opShr, opBit, g_h0, c1, c2]
      exact done_ret rfl (by simp [ansB, c2, K0])
    · obtain ⟨w, rfl, hw⟩ := setB_true c2
      try simp (disch := first | omega | (simp; done) | fail) [wrap64c, if_pos, if_neg, opAnd, opOr, opXor, opDiff, opShr, opBit, g_h0, c1, c2]
      refine done_ret rfl ⟨?_, K0⟩
      by_cases hz : nAnd x w = 0 <;> simp [ansB, spB_of g, setB_of hx, setB_of hw, hz]
theorem goOn_ok (h : Hp) (v : Value) (N : Int) (X : List Int) (y z : Int) (hv : Space h v N X) (hl : X.length < 2 ^ 39) : CallOK Try.prog 155 #[v, .int .i64 y, .int .i64 z] h (.bool (goB N X y z)) h := by
  refine callY_P 19 _ [.tmp 6] Try.func155 rfl rfl rfl (by first | rfl | simp) ?_
  obtain ⟨b, rfl, hX⟩ := hv
  refine WD_first ?_
  try simp (disch := first | omega | (simp; done) | fail) [wrap64c, if_pos, if_neg, opAnd, opOr, opXor, opDiff, opShr, opBit]
  refine stopK_heap fun h0 q_h0 => ?_
  refine stopK_go ?_
  have g_h0 : h0.get h.next = .cells [.int .i64 N, b] true true 1 := by simp [q_h0]
  have k_h0 : Adds h h0 := by rw [q_h0]; exact (by first | exact aK | exact kK)
  have n_h0 : h.next < h0.next := by simp [q_h0]; try omega
  have hX0 := hX.keep k_h0.1
  have K0 := k_h0.1
  try simp (disch := first | omega | (simp; done) | fail) [wrap64c, if_pos, if_neg, opAnd, opOr, opXor, opDiff, opShr, opBit, g_h0]
  refine callG_c (by simp) (by simp) ?ha (areAns_ok h0 (.agg #[.int .i64 N, b]) N X y z (.mk hX0) (by omega)) ?_
  (case ha => simp (disch := first | omega | (simp; done) | fail) [wrap64c, if_pos, if_neg, opAnd, opOr, opXor, opDiff, opShr, opBit, g_h0])
  cases c1 : ansB N X y z
  · try simp (disch := first | omega | (simp; done) | fail) [wrap64c, if_pos, if_neg, opAnd, opOr, opXor, opDiff, opShr, opBit, g_h0, c1]
    exact done_ret rfl (by simp [goB, c1, K0])
  · obtain ⟨n, xs, a, c, hN, hXe, ha, hc, g, hx, hy, hac⟩ := ansB_true c1
    subst hN hXe ha hc
    have hb7 := bit7 g.n7
    have hl7 := g.len7
    obtain ⟨u, h1, p1, a1, i1⟩ := imLeft_ok h0 (.agg #[.int .i64 n, b]) n xs a c (.mk hX0) g.lt7 (by omega) (by omega) (by omega)
    have K1 := K0.trans a1.1
    have hlu := i1.ints.lenD
    have hln := toN_length (leftN xs a c)
    have hll := left_len xs a c
    try simp (disch := first | omega | (simp; done) | fail) [wrap64c, if_pos, if_neg, opAnd, opOr, opXor, opDiff, opShr, opBit, g_h0, c1, hlu]
    refine callG_c (by simp) (by simp) ?ha (p1) ?_
    (case ha => simp (disch := first | omega | (simp; done) | fail) [wrap64c, if_pos, if_neg, opAnd, opOr, opXor, opDiff, opShr, opBit, g_h0, c1, hlu])
    try simp (disch := first | omega | (simp; done) | fail) [wrap64c, if_pos, if_neg, opAnd, opOr, opXor, opDiff, opShr, opBit, g_h0, c1, hlu]
    refine done_ret rfl ⟨?_, K1⟩
    have : goB (n : Int) (toN xs) (a : Int) (c : Int) = decide (0 < (leftN xs a c).length) := by
      rw [goB, c1, Bool.true_and, natsOf_toN, decide_eq_decide, Int.toNat_natCast, Int.toNat_natCast, List.length_pos_iff]
    simp [this]
theorem asGood_ok (h : Hp) (v : Value) (N : Int) (X : List Int) (y z : Int) (hv : Space h v N X) (hl : X.length < 2 ^ 39) : CallOK Try.prog 158 #[v, .int .i64 y, .int .i64 z] h (.bool (goB N X y z)) h := by
  refine callY_P 37 _ [.tmp 6] Try.func158 rfl rfl rfl (by first | rfl | simp) ?_
  obtain ⟨b, rfl, hX⟩ := hv
  refine WD_first ?_
  try simp (disch := first | omega | (simp; done) | fail) [wrap64c, if_pos, if_neg, opAnd, opOr, opXor, opDiff, opShr, opBit]
  refine stopK_heap fun h0 q_h0 => ?_
  refine stopK_go ?_
  have g_h0 : h0.get h.next = .cells [.int .i64 N, b] true true 1 := by simp [q_h0]
  have k_h0 : Adds h h0 := by rw [q_h0]; exact (by first | exact aK | exact kK)
  have n_h0 : h.next < h0.next := by simp [q_h0]; try omega
  have hX0 := hX.keep k_h0.1
  have K0 := k_h0.1
  try simp (disch := first | omega | (simp; done) | fail) [wrap64c, if_pos, if_neg, opAnd, opOr, opXor, opDiff, opShr, opBit, g_h0]
  refine callG_c (by simp) (by simp) ?ha (spGood_ok h0 (.agg #[.int .i64 N, b]) N X (.mk hX0) (by omega)) ?_
  (case ha => simp (disch := first | omega | (simp; done) | fail) [wrap64c, if_pos, if_neg, opAnd, opOr, opXor, opDiff, opShr, opBit, g_h0])
  cases c0 : spB N X
  · try simp (disch := first | omega | (simp; done) | fail) [wrap64c, if_pos, if_neg, opAnd, opOr, opXor, opDiff, opShr, opBit, g_h0, c0]
    exact done_ret rfl (by simp [goB, ansB, c0, K0])
  · obtain ⟨n, xs, hN, hXe, g⟩ := spB_true c0
    subst hN hXe
    have n7 := g.n7
    have hb7 := bit7 n7
    have hl7 := g.len7
    have e1 : setB n y = decide (0 ≤ y ∧ y ≤ ((bit n : Nat) : Int) - 1) := by unfold setB; rw [decide_eq_decide]; omega
    have e2 : setB n z = decide (0 ≤ z ∧ z ≤ ((bit n : Nat) : Int) - 1) := by unfold setB; rw [decide_eq_decide]; omega
    have p1 := l1In_ok h0 y 0 (((bit n : Nat) : Int) - 1)
    have p2 := l1In_ok h0 z 0 (((bit n : Nat) : Int) - 1)
    rw [← e1] at p1
    rw [← e2] at p2
    try simp (disch := first | omega | (simp; done) | fail) [wrap64c, if_pos, if_neg, opAnd, opOr, opXor, opDiff, opShr, opBit, g_h0, c0]
    refine callG_c (by simp) (by simp) ?ha (p1) ?_
    (case ha => simp (disch := first | omega | (simp; done) | fail) [wrap64c, if_pos, if_neg, opAnd, opOr, opXor, opDiff, opShr, opBit, g_h0, c0])
    cases d1 : setB n y
    · try simp (disch := first | omega | (simp; done) | fail) [wrap64c, if_pos, if_neg, opAnd, opOr, opXor, opDiff, opShr, opBit, g_h0, c0, d1]
      exact done_ret rfl (by simp [goB, ansB, d1, K0])
    · try simp (disch := first | omega | (simp; done) | fail) [wrap64c, if_pos, if_neg, opAnd, opOr, opXor, opDiff, opShr, opBit, g_h0, c0, d1]
      refine callG_c (by simp) (by simp) ?ha (p2) ?_
      (case ha => simp (disch := first | omega | (simp; done) | fail) [wrap64c, if_pos, if_neg, opAnd, opOr, opXor, opDiff, opShr, opBit, g_h0, c0, d1])
      cases d2 : setB n z
      · try simp (disch := first | omega | (simp; done) | fail) [wrap64c, if_pos, if_neg, opAnd, opOr, opXor, opDiff, opShr, opBit, g_h0, c0, d1, d2]
        exact done_ret rfl (by simp [goB, ansB, d2, K0])
      · obtain ⟨a, rfl, ha⟩ := setB_true d1
        obtain ⟨c, rfl, hc⟩ := setB_true d2
        by_cases d3 : nAnd a c = 0
        · obtain ⟨u, h1, q1, a1, i1⟩ := spLeft_ok h0 (.agg #[.int .i64 n, b]) n xs a c (.mk hX0) g.lt7 (by omega) (by omega) (by omega)
          have K1 := K0.trans a1.1
          have hlu := i1.ints.lenD
          have hln := toN_length (leftN xs a c)
          have hll := left_len xs a c
          try simp (disch := first | omega | (simp; done) | fail) [wrap64c, if_pos, if_neg, opAnd, opOr, opXor, opDiff, opShr, opBit, g_h0, c0, d1, d2, d3, hlu]
          refine callG_c (by simp) (by simp) ?ha (q1) ?_
          (case ha => simp (disch := first | omega | (simp; done) | fail) [wrap64c, if_pos, if_neg, opAnd, opOr, opXor, opDiff, opShr, opBit, g_h0, c0, d1, d2, d3, hlu])
          try simp (disch := first | omega | (simp; done) | fail) [wrap64c, if_pos, if_neg, opAnd, opOr, opXor, opDiff, opShr, opBit, g_h0, c0, d1, d2, d3, hlu]
          refine done_ret rfl ⟨?_, K1⟩
          have : goB (n : Int) (toN xs) (a : Int) (c : Int) = decide (0 < (leftN xs a c).length) := by
            rw [goB, ansB_of g ha hc d3, Bool.true_and, natsOf_toN, decide_eq_decide, Int.toNat_natCast, Int.toNat_natCast, List.length_pos_iff]
          simp [this]
        · try simp (disch := first | omega | (simp; done) | fail) [wrap64c, if_pos, if_neg, opAnd, opOr, opXor, opDiff, opShr, opBit, g_h0, c0, d1, d2, d3]
          exact done_ret rfl (by simp [goB, ansB, d3, K0])
noncomputable def leftR (N : Int) (X : List Int) (y z : Int) : List Int := if goB N X y z = true then toN (leftN (natsOf X) y.toNat z.toNat) else []
noncomputable def inR (N : Int) (X : List Int) (y z : Int) : Int := if goB N X y z = true then ((inS N.toNat (leftN (natsOf X) y.toNat z.toNat) : Nat) : Int) else 0
noncomputable def outR (N : Int) (X : List Int) (y z : Int) : Int := if goB N X y z = true then ((outS N.toNat (leftN (natsOf X) y.toNat z.toNat) : Nat) : Int) else 0
theorem specLeft_ok (h : Hp) (v : Value) (N : Int) (X : List Int) (y z : Int) (hv : Space h v N X) (hl : X.length < 2 ^ 39) :
    ∃ v' h', CallOK Try.prog 59 #[v, .int .i64 y, .int .i64 z] h v' h' ∧ Adds h h' ∧ ∃ u, v' = .tuple #[u, .bool (goB N X y z)] ∧ IntsO (Btw h.next h'.next) h' u (leftR N X y z) := by
  refine callY_L (args := [v, .int .i64 y, .int .i64 z]) 17 _ [.tmp 6, .tmp 7] Try.func59 rfl rfl rfl ?_
  obtain ⟨b, rfl, hX⟩ := hv
  refine WD_first ?_
  try simp (disch := first | omega | (simp; done) | fail) [wrap64c, if_pos, if_neg, opAnd, opOr, opXor, opDiff, opShr, opBit]
  refine stopK_heap fun h0 q_h0 => ?_
  refine stopK_go ?_
  have g_h0 : h0.get h.next = .cells [.int .i64 N, b] true true 1 := by simp [q_h0]
  have k_h0 : Adds h h0 := by rw [q_h0]; exact (by first | exact aK | exact kK)
  have n_h0 : h.next < h0.next := by simp [q_h0]; try omega
  have hX0 := hX.keep k_h0.1
  try simp (disch := first | omega | (simp; done) | fail) [wrap64c, if_pos, if_neg, opAnd, opOr, opXor, opDiff, opShr, opBit, g_h0]
  refine callG_c (by simp) (by simp) ?ha (asGood_ok h0 (.agg #[.int .i64 N, b]) N X y z (.mk hX0) hl) ?_
  (case ha => simp (disch := first | omega | (simp; done) | fail) [wrap64c, if_pos, if_neg, opAnd, opOr, opXor, opDiff, opShr, opBit, g_h0])
  cases c1 : goB N X y z
  · try simp (disch := first | omega | (simp; done) | fail) [wrap64c, if_pos, if_neg, opAnd, opOr, opXor, opDiff, opShr, opBit, g_h0, c1]
    refine done_ret rfl ⟨k_h0, _, by simp [c1]; rfl, ?_⟩
    rw [leftR, if_neg (by simp [c1])]
    exact .nil _ _
  · obtain ⟨n, xs, a, c, hN, hXe, ha, hc, g, hx, hy, hac, hne⟩ := goB_true c1
    subst hN hXe ha hc
    have hb7 := bit7 g.n7
    have hl7 := g.len7
    obtain ⟨u, h1, p1, a1, i1⟩ := spLeft_ok h0 (.agg #[.int .i64 n, b]) n xs a c (.mk hX0) g.lt7 (by omega) (by omega) (by omega)
    try simp (disch := first | omega | (simp; done) | fail) [wrap64c, if_pos, if_neg, opAnd, opOr, opXor, opDiff, opShr, opBit, g_h0, c1]
    refine callG_c (by simp) (by simp) ?ha (p1) ?_
    (case ha => simp (disch := first | omega | (simp; done) | fail) [wrap64c, if_pos, if_neg, opAnd, opOr, opXor, opDiff, opShr, opBit, g_h0, c1])
    try simp (disch := first | omega | (simp; done) | fail) [wrap64c, if_pos, if_neg, opAnd, opOr, opXor, opDiff, opShr, opBit, g_h0, c1]
    refine done_ret rfl ⟨k_h0.trans a1, _, by simp [c1]; rfl, ?_⟩
    rw [leftR, if_pos c1, natsOf_toN]
    exact i1.sub fun o ho => ⟨by have := ho.1; omega, ho.2⟩
theorem implLeft_ok (h : Hp) (v : Value) (N : Int) (X : List Int) (y z : Int) (hv : Space h v N X) (hl : X.length < 2 ^ 39) :
    ∃ v' h', CallOK Try.prog 58 #[v, .int .i64 y, .int .i64 z] h v' h' ∧ Adds h h' ∧ ∃ u, v' = .tuple #[u, .bool (goB N X y z)] ∧ IntsO (Btw h.next h'.next) h' u (leftR N X y z) := by
  refine callY_L (args := [v, .int .i64 y, .int .i64 z]) 17 _ [.tmp 6, .tmp 7] Try.func58 rfl rfl rfl ?_
  obtain ⟨b, rfl, hX⟩ := hv
  refine WD_first ?_
  try simp (disch := first | omega | (simp; done) | fail) [wrap64c, if_pos, if_neg, opAnd, opOr, opXor, opDiff, opShr, opBit]
  refine stopK_heap fun h0 q_h0 => ?_
  refine stopK_go ?_
  have g_h0 : h0.get h.next = .cells [.int .i64 N, b] true true 1 := by simp [q_h0]
  have k_h0 : Adds h h0 := by rw [q_h0]; exact (by first | exact aK | exact kK)
  have n_h0 : h.next < h0.next := by simp [q_h0]; try omega
  have hX0 := hX.keep k_h0.1
  try simp (disch := first | omega | (simp; done) | fail) [wrap64c, if_pos, if_neg, opAnd, opOr, opXor, opDiff, opShr, opBit, g_h0]
  refine callG_c (by simp) (by simp) ?ha (goOn_ok h0 (.agg #[.int .i64 N, b]) N X y z (.mk hX0) hl) ?_
  (case ha => simp (disch := first | omega | (simp; done) | fail) [wrap64c, if_pos, if_neg, opAnd, opOr, opXor, opDiff, opShr, opBit, g_h0])
  cases c1 : goB N X y z
  · try simp (disch := first | omega | (simp; done) | fail) [wrap64c, if_pos, if_neg, opAnd, opOr, opXor, opDiff, opShr, opBit, g_h0, c1]
    refine done_ret rfl ⟨k_h0, _, by simp [c1]; rfl, ?_⟩
    rw [leftR, if_neg (by simp [c1])]
    exact .nil _ _
  · obtain ⟨n, xs, a, c, hN, hXe, ha, hc, g, hx, hy, hac, hne⟩ := goB_true c1
    subst hN hXe ha hc
    have hb7 := bit7 g.n7
    have hl7 := g.len7
    obtain ⟨u, h1, p1, a1, i1⟩ := imLeft_ok h0 (.agg #[.int .i64 n, b]) n xs a c (.mk hX0) g.lt7 (by omega) (by omega) (by omega)
    try simp (disch := first | omega | (simp; done) | fail) [wrap64c, if_pos, if_neg, opAnd, opOr, opXor, opDiff, opShr, opBit, g_h0, c1]
    refine callG_c (by simp) (by simp) ?ha (p1) ?_
    (case ha => simp (disch := first | omega | (simp; done) | fail) [wrap64c, if_pos, if_neg, opAnd, opOr, opXor, opDiff, opShr, opBit, g_h0, c1])
    try simp (disch := first | omega | (simp; done) | fail) [wrap64c, if_pos, if_neg, opAnd, opOr, opXor, opDiff, opShr, opBit, g_h0, c1]
    refine done_ret rfl ⟨k_h0.trans a1, _, by simp [c1]; rfl, ?_⟩
    rw [leftR, if_pos c1, natsOf_toN]
    exact i1.sub fun o ho => ⟨by have := ho.1; omega, ho.2⟩
theorem implCountL_ok (h : Hp) (v : Value) (N : Int) (X : List Int) (y z : Int) (hv : Space h v N X) (hl : X.length < 2 ^ 39) :
    CallOK Try.prog 60 #[v, .int .i64 y, .int .i64 z] h (.tuple #[.int .i64 ((leftR N X y z).length : Nat), .bool (goB N X y z)]) h := by
  refine callY_P 20 _ [.tmp 6, .tmp 7] Try.func60 rfl rfl rfl (by first | rfl | simp) ?_
  obtain ⟨b, rfl, hX⟩ := hv
  refine WD_first ?_
  try simp (disch := first | omega | (simp; done) | fail) [wrap64c, if_pos, if_neg, opAnd, opOr, opXor, opDiff, opShr, opBit]
  refine stopK_heap fun h0 q_h0 => ?_
  refine stopK_go ?_
  have g_h0 : h0.get h.next = .cells [.int .i64 N, b] true true 1 := by simp [q_h0]
  have k_h0 : Adds h h0 := by rw [q_h0]; exact (by first | exact aK | exact kK)
  have n_h0 : h.next < h0.next := by simp [q_h0]; try omega
  have hX0 := hX.keep k_h0.1
  obtain ⟨_, h1, p1, a1, u, rfl, i1⟩ := implLeft_ok h0 (.agg #[.int .i64 N, b]) N X y z (.mk hX0) hl
  have K1 := k_h0.1.trans a1.1
  have hlu := i1.ints.lenD
  try simp (disch := first | omega | (simp; done) | fail) [wrap64c, if_pos, if_neg, opAnd, opOr, opXor, opDiff, opShr, opBit, g_h0, hlu]
  refine callG_c (by simp) (by simp) ?ha (p1) ?_
  (case ha => simp (disch := first | omega | (simp; done) | fail) [wrap64c, if_pos, if_neg, opAnd, opOr, opXor, opDiff, opShr, opBit, g_h0, hlu])
  try simp (disch := first | omega | (simp; done) | fail) [wrap64c, if_pos, if_neg, opAnd, opOr, opXor, opDiff, opShr, opBit, g_h0, hlu]
  exact done_ret rfl (by simp [K1])
theorem specKnown_ok (h : Hp) (v : Value) (N : Int) (X : List Int) (y z : Int) (hv : Space h v N X) (hl : X.length < 2 ^ 39) :
    CallOK Try.prog 61 #[v, .int .i64 y, .int .i64 z] h (.tuple #[.int .i64 (inR N X y z), .int .i64 (outR N X y z), .bool (goB N X y z)]) h := by
  refine callY_P 27 _ [.tmp 6, .tmp 7, .tmp 8] Try.func61 rfl rfl rfl (by first | rfl | simp) ?_
  obtain ⟨b, rfl, hX⟩ := hv
  refine WD_first ?_
  try simp (disch := first | omega | (simp; done) | fail) [wrap64c, if_pos, if_neg, opAnd, opOr, opXor, opDiff, opShr, opBit]
  refine stopK_heap fun h0 q_h0 => ?_
  refine stopK_go ?_
  have g_h0 : h0.get h.next = .cells [.int .i64 N, b] true true 1 := by simp [q_h0]
  have k_h0 : Adds h h0 := by rw [q_h0]; exact (by first | exact aK | exact kK)
  have n_h0 : h.next < h0.next := by simp [q_h0]; try omega
  have hX0 := hX.keep k_h0.1
  have K0 := k_h0.1
  try simp (disch := first | omega | (simp; done) | fail) [wrap64c, if_pos, if_neg, opAnd, opOr, opXor, opDiff, opShr, opBit, g_h0]
  refine callG_c (by simp) (by simp) ?ha (asGood_ok h0 (.agg #[.int .i64 N, b]) N X y z (.mk hX0) hl) ?_
  (case ha => simp (disch := first | omega | (simp; done) | fail) [wrap64c, if_pos, if_neg, opAnd, opOr, opXor, opDiff, opShr, opBit, g_h0])
  cases c1 : goB N X y z
  · try simp (disch := first | omega | (simp; done) | fail) [wrap64c, if_pos, if_neg, opAnd, opOr, opXor, opDiff, opShr, opBit, g_h0, c1]
    exact done_ret rfl (by simp [inR, outR, c1, K0])
  · obtain ⟨n, xs, a, c, hN, hXe, ha, hc, g, hx, hy, hac, hne⟩ := goB_true c1
    subst hN hXe ha hc
    have hb7 := bit7 g.n7
    have hl7 := g.len7
    have hll := left_len xs a c
    obtain ⟨u, h1, p1, a1, i1⟩ := spLeft_ok h0 (.agg #[.int .i64 n, b]) n xs a c (.mk hX0) g.lt7 (by omega) (by omega) (by omega)
    have K1 := K0.trans a1.1
    have hX1 := hX0.keep a1.1
    have gb : h1.get h.next = .cells [.int .i64 n, b] true true 1 := by rw [a1.1.2 _ (by omega)]; exact g_h0
    try simp (disch := first | omega | (simp; done) | fail) [wrap64c, if_pos, if_neg, opAnd, opOr, opXor, opDiff, opShr, opBit, g_h0, c1, gb]
    refine WD_drawC 10 rfl (by kernel_rfl) ?_
    try simp (disch := first | omega | (simp; done) | fail) [wrap64c, if_pos, if_neg, opAnd, opOr, opXor, opDiff, opShr, opBit, g_h0, c1, gb]
    refine callP_c (by simp) (by simp) ?ha (p1) ?hadd ?_
    (case ha => simp (disch := first | omega | (simp; done) | fail) [wrap64c, if_pos, if_neg, opAnd, opOr, opXor, opDiff, opShr, opBit, g_h0, c1, gb])
    (case hadd => first | assumption | exact adds_self _ | (simp; done))
    try simp (disch := first | omega | (simp; done) | fail) [wrap64c, if_pos, if_neg, opAnd, opOr, opXor, opDiff, opShr, opBit, g_h0, c1, gb]
    refine callP_c (by simp) (by simp) ?ha (asKnown_ok h1 (.agg #[.int .i64 n, b]) u n _ (leftN xs a c) (.mk hX1) i1.ints g.n7 (fun x hm => g.lt7 x (left_sub hm)) (by omega)) ?hadd ?_
    (case ha => simp (disch := first | omega | (simp; done) | fail) [wrap64c, if_pos, if_neg, opAnd, opOr, opXor, opDiff, opShr, opBit, g_h0, c1, gb])
    (case hadd => first | assumption | exact adds_self _ | (simp; done))
    try simp (disch := first | omega | (simp; done) | fail) [wrap64c, if_pos, if_neg, opAnd, opOr, opXor, opDiff, opShr, opBit, g_h0, c1, gb]
    exact done_ret rfl (by simp [inR, outR, inS, outS, c1, K1])
theorem implKnown_ok (h : Hp) (v : Value) (N : Int) (X : List Int) (y z : Int) (hv : Space h v N X) (hl : X.length < 2 ^ 39) :
    CallOK Try.prog 49 #[v, .int .i64 y, .int .i64 z] h (.tuple #[.int .i64 (inR N X y z), .int .i64 (outR N X y z), .bool (goB N X y z)]) h := by
  refine callY_P 40 _ [.tmp 6, .tmp 7, .tmp 8] Try.func49 rfl rfl rfl (by first | rfl | simp) ?_
  obtain ⟨b, rfl, hX⟩ := hv
  refine WD_first ?_
  try simp (disch := first | omega | (simp; done) | fail) [wrap64c, if_pos, if_neg, opAnd, opOr, opXor, opDiff, opShr, opBit]
  refine stopK_heap fun h0 q_h0 => ?_
  refine stopK_go ?_
  have g_h0 : h0.get h.next = .cells [.int .i64 N, b] true true 1 := by simp [q_h0]
  have k_h0 : Adds h h0 := by rw [q_h0]; exact (by first | exact aK | exact kK)
  have n_h0 : h.next < h0.next := by simp [q_h0]; try omega
  have hX0 := hX.keep k_h0.1
  have K0 := k_h0.1
  try simp (disch := first | omega | (simp; done) | fail) [wrap64c, if_pos, if_neg, opAnd, opOr, opXor, opDiff, opShr, opBit, g_h0]
  refine callG_c (by simp) (by simp) ?ha (goOn_ok h0 (.agg #[.int .i64 N, b]) N X y z (.mk hX0) hl) ?_
  (case ha => simp (disch := first | omega | (simp; done) | fail) [wrap64c, if_pos, if_neg, opAnd, opOr, opXor, opDiff, opShr, opBit, g_h0])
  cases c1 : goB N X y z
  · try simp (disch := first | omega | (simp; done) | fail) [wrap64c, if_pos, if_neg, opAnd, opOr, opXor, opDiff, opShr, opBit, g_h0, c1]
    exact done_ret rfl (by simp [inR, outR, c1, K0])
  · obtain ⟨n, xs, a, c, hN, hXe, ha, hc, g, hx, hy, hac, hne⟩ := goB_true c1
    subst hN hXe ha hc
    have hb7 := bit7 g.n7
    have hl7 := g.len7
    have n7 := g.n7
    obtain ⟨L, hLe⟩ : ∃ L, L = leftN xs a c := ⟨_, rfl⟩
    have hLx : ∀ x ∈ L, x < 128 := fun x hm => g.lt7 x (left_sub (hLe ▸ hm))
    have hLl : L.length ≤ 128 := by have := left_len xs a c; rw [hLe]; omega
    obtain ⟨u, h1, p1, a1, i1⟩ := imLeft_ok h0 (.agg #[.int .i64 n, b]) n xs a c (.mk hX0) g.lt7 (by omega) (by omega) (by omega)
    rw [← hLe] at i1
    have K1 := K0.trans a1.1
    have gb : h1.get h.next = .cells [.int .i64 n, b] true true 1 := by rw [a1.1.2 _ (by omega)]; exact g_h0
    have hL := i1.ints.lenD
    have hgt := toN_get L
    have hln := toN_length L
    try simp (disch := first | omega | (simp; done) | fail) [wrap64c, if_pos, if_neg, opAnd, opOr, opXor, opDiff, opShr, opBit, g_h0, c1, gb, hL, hgt]
    refine WD_drawC 3 rfl (by kernel_rfl) ?_
    try simp (disch := first | omega | (simp; done) | fail) [wrap64c, if_pos, if_neg, opAnd, opOr, opXor, opDiff, opShr, opBit, g_h0, c1, gb, hL, hgt]
    refine callP_c (by simp) (by simp) ?ha (all_ok h0 (.agg #[.int .i64 n, b]) n (toN xs) (.mk hX0) (by omega)) ?hadd ?_
    (case ha => simp (disch := first | omega | (simp; done) | fail) [wrap64c, if_pos, if_neg, opAnd, opOr, opXor, opDiff, opShr, opBit, g_h0, c1, gb, hL, hgt])
    (case hadd => first | assumption | exact adds_self _ | (simp; done))
    try simp (disch := first | omega | (simp; done) | fail) [wrap64c, if_pos, if_neg, opAnd, opOr, opXor, opDiff, opShr, opBit, g_h0, c1, gb, hL, hgt]
    refine callG_c (by simp) (by simp) ?ha (all_ok h0 (.agg #[.int .i64 n, b]) n (toN xs) (.mk hX0) (by omega)) ?_
    (case ha => simp (disch := first | omega | (simp; done) | fail) [wrap64c, if_pos, if_neg, opAnd, opOr, opXor, opDiff, opShr, opBit, g_h0, c1, gb, hL, hgt])
    try simp (disch := first | omega | (simp; done) | fail) [wrap64c, if_pos, if_neg, opAnd, opOr, opXor, opDiff, opShr, opBit, g_h0, c1, gb, hL, hgt]
    refine callG_c (by simp) (by simp) ?ha (p1) ?_
    (case ha => simp (disch := first | omega | (simp; done) | fail) [wrap64c, if_pos, if_neg, opAnd, opOr, opXor, opDiff, opShr, opBit, g_h0, c1, gb, hL, hgt])
    try simp (disch := first | omega | (simp; done) | fail) [wrap64c, if_pos, if_neg, opAnd, opOr, opXor, opDiff, opShr, opBit, g_h0, c1, gb, hL, hgt]
    refine WD_loopC [25, 26] (fun m tm h' => ∃ j, m = L.length - j ∧ h1 = h' ∧ tm 9 = .int .i64 (((L.take j).foldl nAnd (bit n - 1) : Nat) : Int) ∧ tm 10 = .int .i64 (((L.take j).foldl ndiff (bit n - 1) : Nat) : Int) ∧ tm 27 = .int .i64 (j : Int) ∧ (j ≤ L.length) ∧ ((L.take j).foldl ndiff (bit n - 1) < 128)) _ ⟨0, rfl, rfl, (by simp (disch := first | omega | (simp; done) | fail) [wrap64c, if_pos, if_neg, opAnd, opOr, opXor, opDiff, opShr, opBit, g_h0, c1, gb, hL, hgt]), (by simp (disch := first | omega | (simp; done) | fail) [wrap64c, if_pos, if_neg, opAnd, opOr, opXor, opDiff, opShr, opBit, g_h0, c1, gb, hL, hgt]), (by simp (disch := first | omega | (simp; done) | fail) [wrap64c, if_pos, if_neg, opAnd, opOr, opXor, opDiff, opShr, opBit, g_h0, c1, gb, hL, hgt]), (by first | omega | assumption | (simp (disch := first | omega | (simp; done) | fail) [wrap64c, if_pos, if_neg, opAnd, opOr, opXor, opDiff, opShr, opBit, g_h0, c1, gb, hL, hgt] <;> omega)), (by simp; omega)⟩ ?_
    rintro m tm h' hFr ⟨j, rfl, rfl, e9, e10, e27, hj, hb2⟩
    simp only [FrameL] at hFr
    obtain ⟨f25_0, f26_0, -⟩ := hFr
    try simp (disch := first | omega | (simp; done) | fail) [wrap64c, if_pos, if_neg, opAnd, opOr, opXor, opDiff, opShr, opBit, g_h0, c1, gb, hL, hgt] at f25_0 f26_0
    have e25 := f25_0
    have e26 := f26_0
    have hba := foldAnd_le (L.take j) (bit n - 1)
    by_cases hlt : j < L.length
    · obtain ⟨o_x, i_x, c_x, cs_x, own_x, ex_x, es_x, q_x, b_x, g_x, l_x, r_x⟩ := i1.ints.open ((by simp; omega))
      have z_x : ∀ h2 : i_x < cs_x.length, cs_x[i_x] = _ := fun h2 => r_x 0 ((by simp; omega)) h2
      have hx1 := hLx _ (List.getElem_mem hlt)
      have h1 := fold_take hlt nAnd (bit n - 1)
      have h2 := fold_take hlt ndiff (bit n - 1)
      have h3 := ndiff128 (b := L[j]) hb2
      try simp (disch := first | omega | (simp; done) | fail) [wrap64c, if_pos, if_neg, opAnd, opOr, opXor, opDiff, opShr, opBit, g_h0, c1, gb, hL, hgt, e9, e10, e25, e26, e27, hlt, q_x, g_x, l_x, r_x, z_x]
      refine loopK_next _ ?hm ?hf ⟨j + 1, rfl, rfl, (by simp [h1]), (by simp [h2]), (by simp (disch := first | omega | (simp; done) | fail) [wrap64c, if_pos, if_neg, opAnd, opOr, opXor, opDiff, opShr, opBit, g_h0, c1, gb, hL, hgt, e9, e10, e25, e26, e27, hlt, q_x, g_x, l_x, r_x, z_x] <;> omega), (by first | omega | assumption | (simp (disch := first | omega | (simp; done) | fail) [wrap64c, if_pos, if_neg, opAnd, opOr, opXor, opDiff, opShr, opBit, g_h0, c1, gb, hL, hgt, e9, e10, e25, e26, e27, hlt, q_x, g_x, l_x, r_x, z_x] <;> omega)), (by rw [h2]; exact h3)⟩
      (case hm => first | omega | (simp; omega))
      (case hf => simp [FrameL, g_h0, c1, gb, hL, hgt, e9, e10, e25, e26, e27, hlt, q_x, g_x, l_x, r_x, z_x, f25_0, f26_0])
    · have hft : L.take j = L := List.take_of_length_le (by omega)
      try simp (disch := first | omega | (simp; done) | fail) [wrap64c, if_pos, if_neg, opAnd, opOr, opXor, opDiff, opShr, opBit, g_h0, c1, gb, hL, hgt, e9, e10, e25, e26, e27, hlt]
      exact done_ret rfl (by simp [inR, outR, inS, outS, c1, ← hLe, hft, K1])
end Go.Proofs.Ytnncipcldbopgaa
namespace Go.Proofs.Ytnncipcldbopgaa
set_option linter.unusedSimpArgs false
set_option linter.unusedVariables false
set_option maxHeartbeats 4000000
open Go Go.Eng
attribute [local irreducible] WD RunD PreD Runs CallOK
theorem specProofOf_ok (h : Hp) (v : Value) (N : Int) (X : List Int) (a : Int) (hv : Space h v N X) (hl : X.length < 2 ^ 40) : CallOK Try.prog 67 #[v, .int .i64 a] h (.tuple #[.int .i64 (innerR N X a), .int .i64 (outerR N X a), .bool (oneB N X a)]) h := by
  refine callY_P 18 _ [.tmp 4, .tmp 5, .tmp 6] Try.func67 rfl rfl rfl (by first | rfl | simp) ?_
  obtain ⟨b, rfl, hX⟩ := hv
  refine WD_first ?_
  try simp (disch := first | omega | (simp; done) | fail) [wrap64c, if_pos, if_neg, opAnd, opOr, opXor, opDiff, opShr, opBit]
  refine stopK_heap fun h0 q_h0 => ?_
  refine stopK_go ?_
  have g_h0 : h0.get h.next = .cells [.int .i64 N, b] true true 1 := by simp [q_h0]
  have k_h0 : Adds h h0 := by rw [q_h0]; exact (by first | exact aK | exact kK)
  have n_h0 : h.next < h0.next := by simp [q_h0]; try omega
  have hX0 := hX.keep k_h0.1
  have K0 := k_h0.1
  try simp (disch := first | omega | (simp; done) | fail) [wrap64c, if_pos, if_neg, opAnd, opOr, opXor, opDiff, opShr, opBit, g_h0]
  refine callG_c (by simp) (by simp) ?ha (spOne_ok h0 (.agg #[.int .i64 N, b]) N X a (.mk hX0) hl) ?_
  (case ha => simp (disch := first | omega | (simp; done) | fail) [wrap64c, if_pos, if_neg, opAnd, opOr, opXor, opDiff, opShr, opBit, g_h0])
  cases c1 : oneB N X a
  · try simp (disch := first | omega | (simp; done) | fail) [wrap64c, if_pos, if_neg, opAnd, opOr, opXor, opDiff, opShr, opBit, g_h0, c1]
    exact done_ret rfl (by simp [innerR, outerR, c1, K0])
  · obtain ⟨n, xs, x, hN, hXe, ha, g, hx⟩ := oneB_true c1
    subst hN hXe ha
    have x128 := g.l128 x hx
    try simp (disch := first | omega | (simp; done) | fail) [wrap64c, if_pos, if_neg, opAnd, opOr, opXor, opDiff, opShr, opBit, g_h0, c1]
    refine WD_drawC 6 rfl (by kernel_rfl) ?_
    try simp (disch := first | omega | (simp; done) | fail) [wrap64c, if_pos, if_neg, opAnd, opOr, opXor, opDiff, opShr, opBit, g_h0, c1]
    refine callP_c (by simp) (by simp) ?ha (spInner_ok h0 b xs x hX0 (by simpa using hl) g.srt x128) ?hadd ?_
    (case ha => simp (disch := first | omega | (simp; done) | fail) [wrap64c, if_pos, if_neg, opAnd, opOr, opXor, opDiff, opShr, opBit, g_h0, c1])
    (case hadd => first | assumption | exact adds_self _ | (simp; done))
    try simp (disch := first | omega | (simp; done) | fail) [wrap64c, if_pos, if_neg, opAnd, opOr, opXor, opDiff, opShr, opBit, g_h0, c1]
    refine callG_c (by simp) (by simp) ?ha (spOuter_ok h0 (.agg #[.int .i64 n, b]) n xs x (.mk hX0) g.n7 (by simpa using hl) g.srt x128) ?_
    (case ha => simp (disch := first | omega | (simp; done) | fail) [wrap64c, if_pos, if_neg, opAnd, opOr, opXor, opDiff, opShr, opBit, g_h0, c1])
    try simp (disch := first | omega | (simp; done) | fail) [wrap64c, if_pos, if_neg, opAnd, opOr, opXor, opDiff, opShr, opBit, g_h0, c1]
    exact done_ret rfl (by simp [innerR, outerR, c1, K0])
theorem implProofOf_ok (h : Hp) (v : Value) (N : Int) (X : List Int) (a : Int) (hv : Space h v N X) (hl : X.length < 2 ^ 40) : CallOK Try.prog 66 #[v, .int .i64 a] h (.tuple #[.int .i64 (innerR N X a), .int .i64 (outerR N X a), .bool (oneB N X a)]) h := by
  refine callY_P 20 _ [.tmp 4, .tmp 5, .tmp 6] Try.func66 rfl rfl rfl (by first | rfl | simp) ?_
  obtain ⟨b, rfl, hX⟩ := hv
  refine WD_first ?_
  try simp (disch := first | omega | (simp; done) | fail) [wrap64c, if_pos, if_neg, opAnd, opOr, opXor, opDiff, opShr, opBit]
  refine stopK_heap fun h0 q_h0 => ?_
  refine stopK_go ?_
  have g_h0 : h0.get h.next = .cells [.int .i64 N, b] true true 1 := by simp [q_h0]
  have k_h0 : Adds h h0 := by rw [q_h0]; exact (by first | exact aK | exact kK)
  have n_h0 : h.next < h0.next := by simp [q_h0]; try omega
  have hX0 := hX.keep k_h0.1
  have K0 := k_h0.1
  try simp (disch := first | omega | (simp; done) | fail) [wrap64c, if_pos, if_neg, opAnd, opOr, opXor, opDiff, opShr, opBit, g_h0]
  refine callG_c (by simp) (by simp) ?ha (isKnown_ok h0 (.agg #[.int .i64 N, b]) N X a (.mk hX0) hl) ?_
  (case ha => simp (disch := first | omega | (simp; done) | fail) [wrap64c, if_pos, if_neg, opAnd, opOr, opXor, opDiff, opShr, opBit, g_h0])
  cases c1 : oneB N X a
  · try simp (disch := first | omega | (simp; done) | fail) [wrap64c, if_pos, if_neg, opAnd, opOr, opXor, opDiff, opShr, opBit, g_h0, c1]
    exact done_ret rfl (by simp [innerR, outerR, c1, K0])
  · obtain ⟨n, xs, x, hN, hXe, ha, g, hx⟩ := oneB_true c1
    subst hN hXe ha
    have x128 := g.l128 x hx
    obtain ⟨_, h1, p1, o1, rfl, a1, b1, b2, q1⟩ := family_ok h0 (.agg #[.int .i64 n, b]) n xs (.mk hX0) g.l128 (by simpa using hl)
    have K1 := K0.trans a1.1
    try simp (disch := first | omega | (simp; done) | fail) [wrap64c, if_pos, if_neg, opAnd, opOr, opXor, opDiff, opShr, opBit, g_h0, c1]
    refine callG_c (by simp) (by simp) ?ha (p1) ?_
    (case ha => simp (disch := first | omega | (simp; done) | fail) [wrap64c, if_pos, if_neg, opAnd, opOr, opXor, opDiff, opShr, opBit, g_h0, c1])
    try simp (disch := first | omega | (simp; done) | fail) [wrap64c, if_pos, if_neg, opAnd, opOr, opXor, opDiff, opShr, opBit, g_h0, c1]
    refine callG_c (by simp) (by simp) ?ha (imInner_ok h1 o1 (fam xs) _ _ _ x b2 q1 x128) ?_
    (case ha => simp (disch := first | omega | (simp; done) | fail) [wrap64c, if_pos, if_neg, opAnd, opOr, opXor, opDiff, opShr, opBit, g_h0, c1])
    try simp (disch := first | omega | (simp; done) | fail) [wrap64c, if_pos, if_neg, opAnd, opOr, opXor, opDiff, opShr, opBit, g_h0, c1]
    refine callG_c (by simp) (by simp) ?ha (imOuter_ok h1 o1 (fam xs) _ _ _ x b2 q1 x128) ?_
    (case ha => simp (disch := first | omega | (simp; done) | fail) [wrap64c, if_pos, if_neg, opAnd, opOr, opXor, opDiff, opShr, opBit, g_h0, c1])
    try simp (disch := first | omega | (simp; done) | fail) [wrap64c, if_pos, if_neg, opAnd, opOr, opXor, opDiff, opShr, opBit, g_h0, c1]
    exact done_ret rfl (by simp [innerR, outerR, c1, K1, g.outer7])
theorem slEq_ok (h : Hp) (v w : Value) (X Y : List Int) (hv : Ints h v X) (hw : Ints h w Y) : CallOK Try.prog 169 #[v, w] h (.bool (decide (X = Y))) h := by
  refine callY_P 26 _ [.tmp 4] Try.func169 rfl rfl rfl (by first | rfl | simp) ?_
  have hL := hv.lenD
  have hM := hw.lenD
  have hlx := hv.len
  have hly := hw.len
  by_cases hl : X.length = Y.length
  · have hlb : ((X.length : Int) != (Y.length : Int)) = false := by simp [hl]
    try simp (disch := first | omega | (simp; done) | fail) [wrap64c, if_pos, if_neg, opAnd, opOr, opXor, opDiff, opShr, opBit, hL, hM, hlb]
    refine WD_loopC [0, 1, 12] (fun m tm h' => ∃ j, m = X.length - j ∧ h = h' ∧ tm 13 = .int .i64 (j : Int) ∧ (j ≤ X.length) ∧ (∀ i (h1 : i < X.length) (h2 : i < Y.length), i < j → X[i] = Y[i])) _ ⟨0, rfl, rfl, (by simp (disch := first | omega | (simp; done) | fail) [wrap64c, if_pos, if_neg, opAnd, opOr, opXor, opDiff, opShr, opBit, hL, hM, hlb]), (by first | omega | assumption | (simp (disch := first | omega | (simp; done) | fail) [wrap64c, if_pos, if_neg, opAnd, opOr, opXor, opDiff, opShr, opBit, hL, hM, hlb] <;> omega)), (by intro i h1 h2 h3; omega)⟩ ?_
    rintro m tm h' hFr ⟨j, rfl, rfl, e13, hj, hx⟩
    simp only [FrameL] at hFr
    obtain ⟨f0_0, f1_0, f12_0, -⟩ := hFr
    try simp (disch := first | omega | (simp; done) | fail) [wrap64c, if_pos, if_neg, opAnd, opOr, opXor, opDiff, opShr, opBit, hL, hM, hlb] at f0_0 f1_0 f12_0
    have e0 := f0_0
    have e1 := f1_0
    have e12 := f12_0
    by_cases hlt : j < X.length
    · have hlt2 : j < Y.length := by omega
      obtain ⟨o_x, i_x, c_x, cs_x, own_x, ex_x, es_x, q_x, b_x, g_x, l_x, r_x⟩ := hv.open ((by omega))
      have z_x : ∀ h2 : i_x < cs_x.length, cs_x[i_x] = _ := fun h2 => r_x 0 ((by omega)) h2
      obtain ⟨o_y, i_y, c_y, cs_y, own_y, ex_y, es_y, q_y, b_y, g_y, l_y, r_y⟩ := hw.open ((by omega))
      have z_y : ∀ h2 : i_y < cs_y.length, cs_y[i_y] = _ := fun h2 => r_y 0 ((by omega)) h2
      try simp (disch := first | omega | (simp; done) | fail) [wrap64c, if_pos, if_neg, opAnd, opOr, opXor, opDiff, opShr, opBit, hL, hM, hlb, e0, e1, e12, e13, hlt, hlt2, q_x, g_x, l_x, r_x, z_x, q_y, g_y, l_y, r_y, z_y]
      refine WD_drawC 8 rfl (by kernel_rfl) ?_
      by_cases he : X[j] = Y[j]
      · have hb : (X[j] != Y[j]) = false := by simp [he]
        try simp (disch := first | omega | (simp; done) | fail) [wrap64c, if_pos, if_neg, opAnd, opOr, opXor, opDiff, opShr, opBit, hL, hM, hlb, e0, e1, e12, e13, hlt, hlt2, q_x, g_x, l_x, r_x, z_x, q_y, g_y, l_y, r_y, z_y, hb]
        refine loopK_next _ ?hm ?hf ⟨j + 1, rfl, rfl, (by simp (disch := first | omega | (simp; done) | fail) [wrap64c, if_pos, if_neg, opAnd, opOr, opXor, opDiff, opShr, opBit, hL, hM, hlb, e0, e1, e12, e13, hlt, hlt2, q_x, g_x, l_x, r_x, z_x, q_y, g_y, l_y, r_y, z_y] <;> omega), (by first | omega | assumption | (simp (disch := first | omega | (simp; done) | fail) [wrap64c, if_pos, if_neg, opAnd, opOr, opXor, opDiff, opShr, opBit, hL, hM, hlb, e0, e1, e12, e13, hlt, hlt2, q_x, g_x, l_x, r_x, z_x, q_y, g_y, l_y, r_y, z_y] <;> omega)), ?c_hx⟩
        (case hm => first | omega | (simp; omega))
        (case hf => simp [FrameL, hL, hM, hlb, e0, e1, e12, e13, hlt, hlt2, q_x, g_x, l_x, r_x, z_x, q_y, g_y, l_y, r_y, z_y, f0_0, f1_0, f12_0])
        case c_hx =>
          exact (fun i h1 h2 hi => by
            by_cases e : i = j
            · subst e; exact he
            · exact hx i h1 h2 (by omega))
      · have hb : (X[j] != Y[j]) = true := by simp [he]
        have hne : ¬ X = Y := fun e => he (by subst e; rfl)
        try simp (disch := first | omega | (simp; done) | fail) [wrap64c, if_pos, if_neg, opAnd, opOr, opXor, opDiff, opShr, opBit, hL, hM, hlb, e0, e1, e12, e13, hlt, hlt2, q_x, g_x, l_x, r_x, z_x, q_y, g_y, l_y, r_y, z_y, hb]
        exact done_ret rfl (by simp [hne])
    · try simp (disch := first | omega | (simp; done) | fail) [wrap64c, if_pos, if_neg, opAnd, opOr, opXor, opDiff, opShr, opBit, hL, hM, hlb, e0, e1, e12, e13, hlt]
      have e : X = Y := List.ext_getElem hl fun i h1 h2 => hx i h1 h2 (by omega)
      exact done_ret rfl (by simp [e])
  · have hlb : ((X.length : Int) != (Y.length : Int)) = true := by simp; omega
    have hne : ¬ X = Y := fun e => hl (by rw [e])
    try simp (disch := first | omega | (simp; done) | fail) [wrap64c, if_pos, if_neg, opAnd, opOr, opXor, opDiff, opShr, opBit, hL, hM, hlb]
    exact done_ret rfl (by simp [hne])
noncomputable def prfOK (N : Int) (X : List Int) (a y z : Int) : Bool := oneB N X a && ansB N X y z
noncomputable def prfB (N : Int) (X : List Int) (a y z : Int) : Bool := prfOK N X a y z && decide (leftN (natsOf X) y.toNat z.toNat = [a.toNat])
theorem toN_one {L : List Nat} {x : Nat} : toN L = [(x : Int)] ↔ L = [x] := by
  rw [show [(x : Int)] = toN [x] from rfl, toN_inj]
theorem implIsProof_ok (h : Hp) (v : Value) (N : Int) (X : List Int) (a y z : Int) (hv : Space h v N X) (hl : X.length < 2 ^ 39) : CallOK Try.prog 56 #[v, .int .i64 a, .int .i64 y, .int .i64 z] h (.tuple #[.bool (prfB N X a y z), .bool (prfOK N X a y z)]) h := by
  refine callY_P 28 _ [.tmp 8, .tmp 9] Try.func56 rfl rfl rfl (by first | rfl | simp) ?_
  obtain ⟨b, rfl, hX⟩ := hv
  refine WD_first ?_
  try simp (disch := first | omega | (simp; done) | fail) [wrap64c, if_pos, if_neg, opAnd, opOr, opXor, opDiff, opShr, opBit]
  refine stopK_heap fun h0 q_h0 => ?_
  refine stopK_go ?_
  have g_h0 : h0.get h.next = .cells [.int .i64 N, b] true true 1 := by simp [q_h0]
  have k_h0 : Adds h h0 := by rw [q_h0]; exact (by first | exact aK | exact kK)
  have n_h0 : h.next < h0.next := by simp [q_h0]; try omega
  have hX0 := hX.keep k_h0.1
  have K0 := k_h0.1
  try simp (disch := first | omega | (simp; done) | fail) [wrap64c, if_pos, if_neg, opAnd, opOr, opXor, opDiff, opShr, opBit, g_h0]
  refine callG_c (by simp) (by simp) ?ha (isKnown_ok h0 (.agg #[.int .i64 N, b]) N X a (.mk hX0) (by omega)) ?_
  (case ha => simp (disch := first | omega | (simp; done) | fail) [wrap64c, if_pos, if_neg, opAnd, opOr, opXor, opDiff, opShr, opBit, g_h0])
  cases c1 : oneB N X a
  · try simp (disch := first | omega | (simp; done) | fail) [wrap64c, if_pos, if_neg, opAnd, opOr, opXor, opDiff, opShr, opBit, g_h0, c1]
    exact done_ret rfl (by simp [prfB, prfOK, c1, K0])
  · try simp (disch := first | omega | (simp; done) | fail) [wrap64c, if_pos, if_neg, opAnd, opOr, opXor, opDiff, opShr, opBit, g_h0, c1]
    refine callG_c (by simp) (by simp) ?ha (areAns_ok h0 (.agg #[.int .i64 N, b]) N X y z (.mk hX0) (by omega)) ?_
    (case ha => simp (disch := first | omega | (simp; done) | fail) [wrap64c, if_pos, if_neg, opAnd, opOr, opXor, opDiff, opShr, opBit, g_h0, c1])
    cases c2 : ansB N X y z
    · try simp (disch := first | omega | (simp; done) | fail) [wrap64c, if_pos, if_neg, opAnd, opOr, opXor, opDiff, opShr, opBit, g_h0, c1, c2]
      exact done_ret rfl (by simp [prfB, prfOK, c1, c2, K0])
    · obtain ⟨n, xs, x, hN, hXe, ha, g, hx⟩ := oneB_true c1
      subst hN hXe ha
      obtain ⟨n', xs', p, q, e1, e2, rfl, rfl, _, hp, hq, hpq⟩ := ansB_true c2
      have e1' : n' = n := by omega
      have e2' := toN_inj.1 e2
      subst e1' e2'
      have hb7 := bit7 g.n7
      have hl7 := g.len7
      obtain ⟨u, h1, p1, a1, i1⟩ := imLeft_ok h0 (.agg #[.int .i64 n', b]) n' xs p q (.mk hX0) g.lt7 (by omega) (by omega) (by omega)
      have K1 := K0.trans a1.1
      obtain ⟨L, hLe⟩ : ∃ L, L = leftN xs p q := ⟨_, rfl⟩
      rw [← hLe] at i1
      have hnt := i1.ints.nt
      try simp (disch := first | omega | (simp; done) | fail) [wrap64c, if_pos, if_neg, opAnd, opOr, opXor, opDiff, opShr, opBit, g_h0, c1, c2, hnt]
      refine callG_c (by simp) (by simp) ?ha (p1) ?_
      (case ha => simp (disch := first | omega | (simp; done) | fail) [wrap64c, if_pos, if_neg, opAnd, opOr, opXor, opDiff, opShr, opBit, g_h0, c1, c2, hnt])
      try simp (disch := first | omega | (simp; done) | fail) [wrap64c, if_pos, if_neg, opAnd, opOr, opXor, opDiff, opShr, opBit, g_h0, c1, c2, hnt]
      first | refine WY_heap fun h2 q_h2 => ?_ | refine callG_heap fun h2 q_h2 => ?_ | refine callP_heap fun h2 q_h2 => ?_ | refine callS_heap fun h2 q_h2 => ?_ | refine RY_heap fun h2 q_h2 => ?_ | refine PY_heap fun h2 q_h2 => ?_ | refine SY_heap fun h2 q_h2 => ?_ | refine doneY_heap fun h2 q_h2 => ?_ | refine loopK_heap fun h2 q_h2 => ?_ | refine thenY_heap fun h2 q_h2 => ?_ | refine thenM_heap fun h2 q_h2 => ?_
      have k2 : Adds h1 h2 := by rw [q_h2]; exact (by first | exact aK | exact kK)
      have hi2 := i1.ints.keep k2.1
      have hi3 : Ints h2 (.slice (some ⟨h1.next, 0, none⟩) 1 1) [(x : Int)] := (lit_ints (F := fun _ => True) (xs := [(x : Int)]) (own := true) (ex := true) (es := 1) (by simp [q_h2]) (by simp [q_h2]) trivial (by simp)).ints
      refine callG_c (by simp) (by simp) ?ha (slEq_ok h2 _ _ _ _ hi2 hi3) ?_
      (case ha => simp (disch := first | omega | (simp; done) | fail) [wrap64c, if_pos, if_neg, opAnd, opOr, opXor, opDiff, opShr, opBit, g_h0, c1, c2, hnt])
      try simp (disch := first | omega | (simp; done) | fail) [wrap64c, if_pos, if_neg, opAnd, opOr, opXor, opDiff, opShr, opBit, g_h0, c1, c2, hnt]
      refine done_ret rfl ⟨?_, K1.trans k2.1⟩
      simp [prfB, prfOK, c1, c2, ← hLe, toN_one]
theorem specIsProof_ok (h : Hp) (v : Value) (N : Int) (X : List Int) (a y z : Int) (hv : Space h v N X) (hl : X.length < 2 ^ 39) : CallOK Try.prog 65 #[v, .int .i64 a, .int .i64 y, .int .i64 z] h (.tuple #[.bool (prfB N X a y z), .bool (prfOK N X a y z)]) h := by
  refine callY_P 50 _ [.tmp 8, .tmp 9] Try.func65 rfl rfl rfl (by first | rfl | simp) ?_
  obtain ⟨b, rfl, hX⟩ := hv
  refine WD_first ?_
  try simp (disch := first | omega | (simp; done) | fail) [wrap64c, if_pos, if_neg, opAnd, opOr, opXor, opDiff, opShr, opBit]
  refine stopK_heap fun h0 q_h0 => ?_
  refine stopK_go ?_
  have g_h0 : h0.get h.next = .cells [.int .i64 N, b] true true 1 := by simp [q_h0]
  have k_h0 : Adds h h0 := by rw [q_h0]; exact (by first | exact aK | exact kK)
  have n_h0 : h.next < h0.next := by simp [q_h0]; try omega
  have hX0 := hX.keep k_h0.1
  have K0 := k_h0.1
  try simp (disch := first | omega | (simp; done) | fail) [wrap64c, if_pos, if_neg, opAnd, opOr, opXor, opDiff, opShr, opBit, g_h0]
  refine callG_c (by simp) (by simp) ?ha (spOne_ok h0 (.agg #[.int .i64 N, b]) N X a (.mk hX0) (by omega)) ?_
  (case ha => simp (disch := first | omega | (simp; done) | fail) [wrap64c, if_pos, if_neg, opAnd, opOr, opXor, opDiff, opShr, opBit, g_h0])
  cases c1 : oneB N X a
  · try simp (disch := first | omega | (simp; done) | fail) [wrap64c, if_pos, if_neg, opAnd, opOr, opXor, opDiff, opShr, opBit, g_h0, c1]
    exact done_ret rfl (by simp [prfB, prfOK, c1, K0])
  · obtain ⟨n, xs, x, hN, hXe, ha, g, hx⟩ := oneB_true c1
    subst hN hXe ha
    have n7 := g.n7
    have hb7 := bit7 g.n7
    have hl7 := g.len7
    have spg := spB_of g
    have e1 : setB n y = decide (0 ≤ y ∧ y ≤ ((bit n : Nat) : Int) - 1) := by unfold setB; rw [decide_eq_decide]; omega
    have e2 : setB n z = decide (0 ≤ z ∧ z ≤ ((bit n : Nat) : Int) - 1) := by unfold setB; rw [decide_eq_decide]; omega
    have p1 := l1In_ok h0 y 0 (((bit n : Nat) : Int) - 1)
    have p2 := l1In_ok h0 z 0 (((bit n : Nat) : Int) - 1)
    rw [← e1] at p1
    rw [← e2] at p2
    try simp (disch := first | omega | (simp; done) | fail) [wrap64c, if_pos, if_neg, opAnd, opOr, opXor, opDiff, opShr, opBit, g_h0, c1, spg]
    refine callG_c (by simp) (by simp) ?ha (p1) ?_
    (case ha => simp (disch := first | omega | (simp; done) | fail) [wrap64c, if_pos, if_neg, opAnd, opOr, opXor, opDiff, opShr, opBit, g_h0, c1, spg])
    cases d1 : setB n y
    · try simp (disch := first | omega | (simp; done) | fail) [wrap64c, if_pos, if_neg, opAnd, opOr, opXor, opDiff, opShr, opBit, g_h0, c1, spg, d1]
      exact done_ret rfl (by simp [prfB, prfOK, ansB, c1, d1, K0])
    · try simp (disch := first | omega | (simp; done) | fail) [wrap64c, if_pos, if_neg, opAnd, opOr, opXor, opDiff, opShr, opBit, g_h0, c1, spg, d1]
      refine callG_c (by simp) (by simp) ?ha (p2) ?_
      (case ha => simp (disch := first | omega | (simp; done) | fail) [wrap64c, if_pos, if_neg, opAnd, opOr, opXor, opDiff, opShr, opBit, g_h0, c1, spg, d1])
      cases d2 : setB n z
      · try simp (disch := first | omega | (simp; done) | fail) [wrap64c, if_pos, if_neg, opAnd, opOr, opXor, opDiff, opShr, opBit, g_h0, c1, spg, d1, d2]
        exact done_ret rfl (by simp [prfB, prfOK, ansB, c1, d1, d2, K0])
      · obtain ⟨p, rfl, hp⟩ := setB_true d1
        obtain ⟨q, rfl, hq⟩ := setB_true d2
        by_cases d3 : nAnd p q = 0
        · obtain ⟨u, h1, q1, a1, i1⟩ := spLeft_ok h0 (.agg #[.int .i64 n, b]) n xs p q (.mk hX0) g.lt7 (by omega) (by omega) (by omega)
          have K1 := K0.trans a1.1
          obtain ⟨L, hLe⟩ : ∃ L, L = leftN xs p q := ⟨_, rfl⟩
          rw [← hLe] at i1
          have hlu := i1.ints.lenD
          have hgt := toN_get L
          have hln := toN_length L
          have ans : ansB (n : Int) (toN xs) (p : Int) (q : Int) = true := ansB_of g hp hq d3
          have rv : prfB (n : Int) (toN xs) (x : Int) (p : Int) (q : Int) = decide (L = [x]) := by simp [prfB, prfOK, c1, ans, hLe]
          have ro : prfOK (n : Int) (toN xs) (x : Int) (p : Int) (q : Int) = true := by simp [prfOK, c1, ans]
          try simp (disch := first | omega | (simp; done) | fail) [wrap64c, if_pos, if_neg, opAnd, opOr, opXor, opDiff, opShr, opBit, g_h0, c1, spg, d1, d2, d3, hlu, hgt]
          refine callG_c (by simp) (by simp) ?ha (q1) ?_
          (case ha => simp (disch := first | omega | (simp; done) | fail) [wrap64c, if_pos, if_neg, opAnd, opOr, opXor, opDiff, opShr, opBit, g_h0, c1, spg, d1, d2, d3, hlu, hgt])
          by_cases d4 : L.length = 1
          · have d4' : ((L.length : Int) == 1) = true := by simp [d4]
            have hle : L = [L[0]] := by
              match L, d4 with
              | [y], _ => rfl
            try simp (disch := first | omega | (simp; done) | fail) [wrap64c, if_pos, if_neg, opAnd, opOr, opXor, opDiff, opShr, opBit, g_h0, c1, spg, d1, d2, d3, hlu, hgt, d4']
            obtain ⟨o_w, i_w, c_w, cs_w, own_w, ex_w, es_w, q_w, b_w, g_w, l_w, r_w⟩ := i1.ints.open ((by simp; omega))
            have z_w : ∀ h2 : i_w < cs_w.length, cs_w[i_w] = _ := fun h2 => r_w 0 ((by simp; omega)) h2
            try simp (disch := first | omega | (simp; done) | fail) [wrap64c, if_pos, if_neg, opAnd, opOr, opXor, opDiff, opShr, opBit, g_h0, c1, spg, d1, d2, d3, hlu, hgt, d4', q_w, g_w, l_w, r_w, z_w]
            refine done_ret rfl ⟨?_, K1⟩
            rw [rv, ro]
            have : (L = [x]) ↔ L[0] = x := by
              constructor
              · intro h; simp [h]
              · intro h; rw [hle, h]
            by_cases hz : L[0] = x <;> simp [this, hz]
          · have d4' : ((L.length : Int) == 1) = false := beq_false_of_ne (by omega)
            try simp (disch := first | omega | (simp; done) | fail) [wrap64c, if_pos, if_neg, opAnd, opOr, opXor, opDiff, opShr, opBit, g_h0, c1, spg, d1, d2, d3, hlu, hgt, d4']
            have : ¬ L = [x] := by rintro rfl; simp at d4
            exact done_ret rfl (by simp [rv, ro, this, K1])
        · try simp (disch := first | omega | (simp; done) | fail) [wrap64c, if_pos, if_neg, opAnd, opOr, opXor, opDiff, opShr, opBit, g_h0, c1, spg, d1, d2, d3]
          exact done_ret rfl (by simp [prfB, prfOK, ansB, c1, d3, K0])
def lpN (n : Nat) (xs l : List Nat) : Nat := l.foldl (fun m x => max m (pcN (innerN (fam xs) x) + pcN (outerN (fam xs) n x))) 0
noncomputable def lpR (N : Int) (X : List Int) : Int := if spB N X = true then ((lpN N.toNat (natsOf X) (natsOf X) : Nat) : Int) else 0
theorem lpN_take {n : Nat} {xs : List Nat} {j : Nat} (hj : j < xs.length) : lpN n xs (xs.take (j + 1)) = max (lpN n xs (xs.take j)) (pcN (innerN (fam xs) xs[j]) + pcN (outerN (fam xs) n xs[j])) := by
  rw [List.take_succ_eq_append_getElem hj, lpN, List.foldl_append]; rfl
theorem lpN_le {n : Nat} {xs : List Nat} {b : Nat} : ∀ (l : List Nat) (m : Nat), m ≤ b → (∀ x ∈ l, pcN (innerN (fam xs) x) + pcN (outerN (fam xs) n x) ≤ b) → l.foldl (fun m x => max m (pcN (innerN (fam xs) x) + pcN (outerN (fam xs) n x))) m ≤ b
  | [], m, h, _ => h
  | x :: l, m, h, hl => lpN_le l _ (Nat.max_le.2 ⟨h, hl x (by simp)⟩) fun y hy => hl y (by simp [hy])
theorem specLongest_ok (h : Hp) (v : Value) (N : Int) (X : List Int) (hv : Space h v N X) (hl : X.length < 2 ^ 39) : CallOK Try.prog 70 #[v] h (.tuple #[.int .i64 (lpR N X), .bool (spB N X)]) h := by
  refine callY_P 31 _ [.tmp 2, .tmp 3] Try.func70 rfl rfl rfl (by first | rfl | simp) ?_
  obtain ⟨b, rfl, hX⟩ := hv
  refine WD_first ?_
  try simp (disch := first | omega | (simp; done) | fail) [wrap64c, if_pos, if_neg, opAnd, opOr, opXor, opDiff, opShr, opBit]
  refine stopK_heap fun h0 q_h0 => ?_
  refine stopK_go ?_
  have g_h0 : h0.get h.next = .cells [.int .i64 N, b] true true 1 := by simp [q_h0]
  have k_h0 : Adds h h0 := by rw [q_h0]; exact (by first | exact aK | exact kK)
  have n_h0 : h.next < h0.next := by simp [q_h0]; try omega
  have hX0 := hX.keep k_h0.1
  have hL := hX0.lenD
  have K0 := k_h0.1
  try simp (disch := first | omega | (simp; done) | fail) [wrap64c, if_pos, if_neg, opAnd, opOr, opXor, opDiff, opShr, opBit, g_h0, hL]
  refine callG_c (by simp) (by simp) ?ha (spGood_ok h0 (.agg #[.int .i64 N, b]) N X (.mk hX0) (by omega)) ?_
  (case ha => simp (disch := first | omega | (simp; done) | fail) [wrap64c, if_pos, if_neg, opAnd, opOr, opXor, opDiff, opShr, opBit, g_h0, hL])
  cases c1 : spB N X
  · try simp (disch := first | omega | (simp; done) | fail) [wrap64c, if_pos, if_neg, opAnd, opOr, opXor, opDiff, opShr, opBit, g_h0, hL, c1]
    exact done_ret rfl (by simp [lpR, c1, K0])
  · obtain ⟨n, xs, hN, hXe, g⟩ := spB_true c1
    subst hN hXe
    have n7 := g.n7
    have hgt := toN_get xs
    have hln := toN_length xs
    try simp (disch := first | omega | (simp; done) | fail) [wrap64c, if_pos, if_neg, opAnd, opOr, opXor, opDiff, opShr, opBit, g_h0, hL, c1, hgt]
    refine WD_loopC [1, 11, 12] (fun m tm h' => ∃ j, m = xs.length - j ∧ h0 = h' ∧ tm 4 = .int .i64 ((lpN n xs (xs.take j) : Nat) : Int) ∧ tm 13 = .int .i64 (j : Int) ∧ (j ≤ xs.length)) _ ⟨0, rfl, rfl, (by simp [lpN]), (by simp (disch := first | omega | (simp; done) | fail) [wrap64c, if_pos, if_neg, opAnd, opOr, opXor, opDiff, opShr, opBit, g_h0, hL, c1, hgt]), (by first | omega | assumption | (simp (disch := first | omega | (simp; done) | fail) [wrap64c, if_pos, if_neg, opAnd, opOr, opXor, opDiff, opShr, opBit, g_h0, hL, c1, hgt] <;> omega))⟩ ?_
    rintro m tm h' hFr ⟨j, rfl, rfl, e4, e13, hj⟩
    simp only [FrameL] at hFr
    obtain ⟨f1_0, f11_0, f12_0, -⟩ := hFr
    try simp (disch := first | omega | (simp; done) | fail) [wrap64c, if_pos, if_neg, opAnd, opOr, opXor, opDiff, opShr, opBit, g_h0, hL, c1, hgt] at f1_0 f11_0 f12_0
    have e1 := f1_0
    have e11 := f11_0
    have e12 := f12_0
    have hb14 : lpN n xs (xs.take j) ≤ 14 := lpN_le _ 0 (by omega) fun x hx => by have := pcN_le (innerN (fam xs) x); have := pcN_le (outerN (fam xs) n x); omega
    by_cases hlt : j < xs.length
    · have hxj := g.l128 _ (List.getElem_mem hlt)
      have hlt128 : innerN (fam xs) xs[j] < 128 := maskN_lt _ 7
      have hlo128 : outerN (fam xs) n xs[j] < 128 := Nat.lt_of_lt_of_le (maskN_lt _ n) (bit7 g.n7).2
      have hp1 := pcN_le (innerN (fam xs) xs[j])
      have hp2 := pcN_le (outerN (fam xs) n xs[j])
      have ht := lpN_take (n := n) hlt
      obtain ⟨o_z, i_z, c_z, cs_z, own_z, ex_z, es_z, q_z, b_z, g_z, l_z, r_z⟩ := hX0.open ((by simp; omega))
      have z_z : ∀ h2 : i_z < cs_z.length, cs_z[i_z] = _ := fun h2 => r_z 0 ((by simp; omega)) h2
      have hmx := l1MostN_ok h0 (lpN n xs (xs.take j)) (pcN (innerN (fam xs) xs[j]) + pcN (outerN (fam xs) n xs[j]))
      try simp (disch := first | omega | (simp; done) | fail) [wrap64c, if_pos, if_neg, opAnd, opOr, opXor, opDiff, opShr, opBit, g_h0, hL, c1, hgt, e1, e4, e11, e12, e13, hlt, q_z, g_z, l_z, r_z, z_z]
      refine WD_drawC 11 rfl (by kernel_rfl) ?_
      try simp (disch := first | omega | (simp; done) | fail) [wrap64c, if_pos, if_neg, opAnd, opOr, opXor, opDiff, opShr, opBit, g_h0, hL, c1, hgt, e1, e4, e11, e12, e13, hlt, q_z, g_z, l_z, r_z, z_z]
      refine callP_c (by simp) (by simp) ?ha (spInner_ok h0 b xs xs[j] hX0 (by simp; omega) g.srt hxj) ?hadd ?_
      (case ha => simp (disch := first | omega | (simp; done) | fail) [wrap64c, if_pos, if_neg, opAnd, opOr, opXor, opDiff, opShr, opBit, g_h0, hL, c1, hgt, e1, e4, e11, e12, e13, hlt, q_z, g_z, l_z, r_z, z_z])
      (case hadd => first | assumption | exact adds_self _ | (simp; done))
      try simp (disch := first | omega | (simp; done) | fail) [wrap64c, if_pos, if_neg, opAnd, opOr, opXor, opDiff, opShr, opBit, g_h0, hL, c1, hgt, e1, e4, e11, e12, e13, hlt, q_z, g_z, l_z, r_z, z_z]
      refine callP_c (by simp) (by simp) ?ha (spCount_ok h0 (innerN (fam xs) xs[j]) hlt128) ?hadd ?_
      (case ha => simp (disch := first | omega | (simp; done) | fail) [wrap64c, if_pos, if_neg, opAnd, opOr, opXor, opDiff, opShr, opBit, g_h0, hL, c1, hgt, e1, e4, e11, e12, e13, hlt, q_z, g_z, l_z, r_z, z_z])
      (case hadd => first | assumption | exact adds_self _ | (simp; done))
      try simp (disch := first | omega | (simp; done) | fail) [wrap64c, if_pos, if_neg, opAnd, opOr, opXor, opDiff, opShr, opBit, g_h0, hL, c1, hgt, e1, e4, e11, e12, e13, hlt, q_z, g_z, l_z, r_z, z_z]
      refine callP_c (by simp) (by simp) ?ha (spOuter_ok h0 (.agg #[.int .i64 n, b]) n xs xs[j] (.mk hX0) g.n7 (by simp; omega) g.srt hxj) ?hadd ?_
      (case ha => simp (disch := first | omega | (simp; done) | fail) [wrap64c, if_pos, if_neg, opAnd, opOr, opXor, opDiff, opShr, opBit, g_h0, hL, c1, hgt, e1, e4, e11, e12, e13, hlt, q_z, g_z, l_z, r_z, z_z])
      (case hadd => first | assumption | exact adds_self _ | (simp; done))
      try simp (disch := first | omega | (simp; done) | fail) [wrap64c, if_pos, if_neg, opAnd, opOr, opXor, opDiff, opShr, opBit, g_h0, hL, c1, hgt, e1, e4, e11, e12, e13, hlt, q_z, g_z, l_z, r_z, z_z]
      refine callP_c (by simp) (by simp) ?ha (spCount_ok h0 (outerN (fam xs) n xs[j]) (by omega)) ?hadd ?_
      (case ha => simp (disch := first | omega | (simp; done) | fail) [wrap64c, if_pos, if_neg, opAnd, opOr, opXor, opDiff, opShr, opBit, g_h0, hL, c1, hgt, e1, e4, e11, e12, e13, hlt, q_z, g_z, l_z, r_z, z_z])
      (case hadd => first | assumption | exact adds_self _ | (simp; done))
      try simp (disch := first | omega | (simp; done) | fail) [wrap64c, if_pos, if_neg, opAnd, opOr, opXor, opDiff, opShr, opBit, g_h0, hL, c1, hgt, e1, e4, e11, e12, e13, hlt, q_z, g_z, l_z, r_z, z_z]
      refine callG_c (by simp) (by simp) ?ha (hmx) ?_
      (case ha => simp (disch := first | omega | (simp; done) | fail) [wrap64c, if_pos, if_neg, opAnd, opOr, opXor, opDiff, opShr, opBit, g_h0, hL, c1, hgt, e1, e4, e11, e12, e13, hlt, q_z, g_z, l_z, r_z, z_z])
      try simp (disch := first | omega | (simp; done) | fail) [wrap64c, if_pos, if_neg, opAnd, opOr, opXor, opDiff, opShr, opBit, g_h0, hL, c1, hgt, e1, e4, e11, e12, e13, hlt, q_z, g_z, l_z, r_z, z_z]
      refine loopK_next _ ?hm ?hf ⟨j + 1, rfl, rfl, (by rw [ht]; simp), (by simp (disch := first | omega | (simp; done) | fail) [wrap64c, if_pos, if_neg, opAnd, opOr, opXor, opDiff, opShr, opBit, g_h0, hL, c1, hgt, e1, e4, e11, e12, e13, hlt, q_z, g_z, l_z, r_z, z_z] <;> omega), (by first | omega | assumption | (simp (disch := first | omega | (simp; done) | fail) [wrap64c, if_pos, if_neg, opAnd, opOr, opXor, opDiff, opShr, opBit, g_h0, hL, c1, hgt, e1, e4, e11, e12, e13, hlt, q_z, g_z, l_z, r_z, z_z] <;> omega))⟩
      (case hm => first | omega | (simp; omega))
      (case hf => simp [FrameL, g_h0, hL, c1, hgt, e1, e4, e11, e12, e13, hlt, q_z, g_z, l_z, r_z, z_z, f1_0, f11_0, f12_0])
    · have hft : xs.take j = xs := List.take_of_length_le (by omega)
      try simp (disch := first | omega | (simp; done) | fail) [wrap64c, if_pos, if_neg, opAnd, opOr, opXor, opDiff, opShr, opBit, g_h0, hL, c1, hgt, e1, e4, e11, e12, e13, hlt]
      exact done_ret rfl (by simp [lpR, c1, K0, hft])
theorem implLongest_ok (h : Hp) (v : Value) (N : Int) (X : List Int) (hv : Space h v N X) (hl : X.length < 2 ^ 39) : CallOK Try.prog 69 #[v] h (.tuple #[.int .i64 (lpR N X), .bool (spB N X)]) h := by
  refine callY_P 33 _ [.tmp 2, .tmp 3] Try.func69 rfl rfl rfl (by first | rfl | simp) ?_
  obtain ⟨b, rfl, hX⟩ := hv
  refine WD_first ?_
  try simp (disch := first | omega | (simp; done) | fail) [wrap64c, if_pos, if_neg, opAnd, opOr, opXor, opDiff, opShr, opBit]
  refine stopK_heap fun h0 q_h0 => ?_
  refine stopK_go ?_
  have g_h0 : h0.get h.next = .cells [.int .i64 N, b] true true 1 := by simp [q_h0]
  have k_h0 : Adds h h0 := by rw [q_h0]; exact (by first | exact aK | exact kK)
  have n_h0 : h.next < h0.next := by simp [q_h0]; try omega
  have hX0 := hX.keep k_h0.1
  have K0 := k_h0.1
  try simp (disch := first | omega | (simp; done) | fail) [wrap64c, if_pos, if_neg, opAnd, opOr, opXor, opDiff, opShr, opBit, g_h0]
  refine callG_c (by simp) (by simp) ?ha (isSpace_ok h0 (.agg #[.int .i64 N, b]) N X (.mk hX0) (by omega)) ?_
  (case ha => simp (disch := first | omega | (simp; done) | fail) [wrap64c, if_pos, if_neg, opAnd, opOr, opXor, opDiff, opShr, opBit, g_h0])
  cases c1 : spB N X
  · try simp (disch := first | omega | (simp; done) | fail) [wrap64c, if_pos, if_neg, opAnd, opOr, opXor, opDiff, opShr, opBit, g_h0, c1]
    exact done_ret rfl (by simp [lpR, c1, K0])
  · obtain ⟨n, xs, hN, hXe, g⟩ := spB_true c1
    subst hN hXe
    have n7 := g.n7
    have hgt := toN_get xs
    have hln := toN_length xs
    obtain ⟨_, h1, p1, o1, rfl, a1, b1, b2, q1⟩ := family_ok h0 (.agg #[.int .i64 n, b]) n xs (.mk hX0) g.l128 (by simp; omega)
    have K1 := K0.trans a1.1
    have hX1 := hX0.keep a1.1
    have hL := hX1.lenD
    have gb : h1.get h.next = .cells [.int .i64 n, b] true true 1 := by rw [a1.1.2 _ (by omega)]; exact g_h0
    try simp (disch := first | omega | (simp; done) | fail) [wrap64c, if_pos, if_neg, opAnd, opOr, opXor, opDiff, opShr, opBit, g_h0, c1, hgt, hL, gb]
    refine callG_c (by simp) (by simp) ?ha (p1) ?_
    (case ha => simp (disch := first | omega | (simp; done) | fail) [wrap64c, if_pos, if_neg, opAnd, opOr, opXor, opDiff, opShr, opBit, g_h0, c1, hgt, hL, gb])
    try simp (disch := first | omega | (simp; done) | fail) [wrap64c, if_pos, if_neg, opAnd, opOr, opXor, opDiff, opShr, opBit, g_h0, c1, hgt, hL, gb]
    refine WD_loopC [4, 14, 15] (fun m tm h' => ∃ j, m = xs.length - j ∧ h1 = h' ∧ tm 5 = .int .i64 ((lpN n xs (xs.take j) : Nat) : Int) ∧ tm 16 = .int .i64 (j : Int) ∧ (j ≤ xs.length)) _ ⟨0, rfl, rfl, (by simp [lpN]), (by simp (disch := first | omega | (simp; done) | fail) [wrap64c, if_pos, if_neg, opAnd, opOr, opXor, opDiff, opShr, opBit, g_h0, c1, hgt, hL, gb]), (by first | omega | assumption | (simp (disch := first | omega | (simp; done) | fail) [wrap64c, if_pos, if_neg, opAnd, opOr, opXor, opDiff, opShr, opBit, g_h0, c1, hgt, hL, gb] <;> omega))⟩ ?_
    rintro m tm h' hFr ⟨j, rfl, rfl, e5, e16, hj⟩
    simp only [FrameL] at hFr
    obtain ⟨f4_0, f14_0, f15_0, -⟩ := hFr
    try simp (disch := first | omega | (simp; done) | fail) [wrap64c, if_pos, if_neg, opAnd, opOr, opXor, opDiff, opShr, opBit, g_h0, c1, hgt, hL, gb] at f4_0 f14_0 f15_0
    have e4 := f4_0
    have e14 := f14_0
    have e15 := f15_0
    have hb14 : lpN n xs (xs.take j) ≤ 14 := lpN_le _ 0 (by omega) fun x hx => by have := pcN_le (innerN (fam xs) x); have := pcN_le (outerN (fam xs) n x); omega
    by_cases hlt : j < xs.length
    · have hxj := g.l128 _ (List.getElem_mem hlt)
      have hlt128 : innerN (fam xs) xs[j] < 128 := maskN_lt _ 7
      have hlo128 : outerN (fam xs) n xs[j] < 128 := Nat.lt_of_lt_of_le (maskN_lt _ n) (bit7 g.n7).2
      have ho7 := g.outer7 xs[j]
      have hp1 := pcN_le (innerN (fam xs) xs[j])
      have hp2 := pcN_le (outerN (fam xs) n xs[j])
      have ht := lpN_take (n := n) hlt
      obtain ⟨w0, hw0⟩ : ∃ w, w = lpN n xs (xs.take j) := ⟨_, rfl⟩
      obtain ⟨w1, hw1⟩ : ∃ w, w = pcN (innerN (fam xs) xs[j]) := ⟨_, rfl⟩
      obtain ⟨w2, hw2⟩ : ∃ w, w = pcN (outerN (fam xs) n xs[j]) := ⟨_, rfl⟩
      have pc1 := count_ok h1 (innerN (fam xs) xs[j]) hlt128
      have pc2 := count_ok h1 (outerN (fam xs) n xs[j]) hlo128
      rw [← hw0] at ht hb14 e5
      rw [← hw1] at pc1 hp1 ht
      rw [← hw2] at pc2 hp2 ht
      obtain ⟨o_z, i_z, c_z, cs_z, own_z, ex_z, es_z, q_z, b_z, g_z, l_z, r_z⟩ := hX1.open ((by simp; omega))
      have z_z : ∀ h2 : i_z < cs_z.length, cs_z[i_z] = _ := fun h2 => r_z 0 ((by simp; omega)) h2
      try simp (disch := first | omega | (simp; done) | fail) [wrap64c, if_pos, if_neg, opAnd, opOr, opXor, opDiff, opShr, opBit, g_h0, c1, hgt, hL, gb, e4, e5, e14, e15, e16, hlt, ho7, q_z, g_z, l_z, r_z, z_z]
      refine callG_c (by simp) (by simp) ?ha (imInner_ok h1 o1 (fam xs) _ _ _ xs[j] b2 q1 hxj) ?_
      (case ha => simp (disch := first | omega | (simp; done) | fail) [wrap64c, if_pos, if_neg, opAnd, opOr, opXor, opDiff, opShr, opBit, g_h0, c1, hgt, hL, gb, e4, e5, e14, e15, e16, hlt, ho7, q_z, g_z, l_z, r_z, z_z])
      try simp (disch := first | omega | (simp; done) | fail) [wrap64c, if_pos, if_neg, opAnd, opOr, opXor, opDiff, opShr, opBit, g_h0, c1, hgt, hL, gb, e4, e5, e14, e15, e16, hlt, ho7, q_z, g_z, l_z, r_z, z_z]
      refine callG_c (by simp) (by simp) ?ha (pc1) ?_
      (case ha => simp (disch := first | omega | (simp; done) | fail) [wrap64c, if_pos, if_neg, opAnd, opOr, opXor, opDiff, opShr, opBit, g_h0, c1, hgt, hL, gb, e4, e5, e14, e15, e16, hlt, ho7, q_z, g_z, l_z, r_z, z_z])
      try simp (disch := first | omega | (simp; done) | fail) [wrap64c, if_pos, if_neg, opAnd, opOr, opXor, opDiff, opShr, opBit, g_h0, c1, hgt, hL, gb, e4, e5, e14, e15, e16, hlt, ho7, q_z, g_z, l_z, r_z, z_z]
      refine callG_c (by simp) (by simp) ?ha (imOuter_ok h1 o1 (fam xs) _ _ _ xs[j] b2 q1 hxj) ?_
      (case ha => simp (disch := first | omega | (simp; done) | fail) [wrap64c, if_pos, if_neg, opAnd, opOr, opXor, opDiff, opShr, opBit, g_h0, c1, hgt, hL, gb, e4, e5, e14, e15, e16, hlt, ho7, q_z, g_z, l_z, r_z, z_z])
      try simp (disch := first | omega | (simp; done) | fail) [wrap64c, if_pos, if_neg, opAnd, opOr, opXor, opDiff, opShr, opBit, g_h0, c1, hgt, hL, gb, e4, e5, e14, e15, e16, hlt, ho7, q_z, g_z, l_z, r_z, z_z]
      refine callG_c (by simp) (by simp) ?ha (pc2) ?_
      (case ha => simp (disch := first | omega | (simp; done) | fail) [wrap64c, if_pos, if_neg, opAnd, opOr, opXor, opDiff, opShr, opBit, g_h0, c1, hgt, hL, gb, e4, e5, e14, e15, e16, hlt, ho7, q_z, g_z, l_z, r_z, z_z])
      by_cases hc : w0 < w1 + w2
      · have hc' : (w0 : Int) < (w1 : Int) + (w2 : Int) := by omega
        try simp (disch := first | omega | (simp; done) | fail) [wrap64c, if_pos, if_neg, opAnd, opOr, opXor, opDiff, opShr, opBit, g_h0, c1, hgt, hL, gb, e4, e5, e14, e15, e16, hlt, ho7, q_z, g_z, l_z, r_z, z_z, hc']
        refine loopK_next _ ?hm ?hf ⟨j + 1, rfl, rfl, (by rw [ht]; simp; omega), (by simp (disch := first | omega | (simp; done) | fail) [wrap64c, if_pos, if_neg, opAnd, opOr, opXor, opDiff, opShr, opBit, g_h0, c1, hgt, hL, gb, e4, e5, e14, e15, e16, hlt, ho7, q_z, g_z, l_z, r_z, z_z, hc'] <;> omega), (by first | omega | assumption | (simp (disch := first | omega | (simp; done) | fail) [wrap64c, if_pos, if_neg, opAnd, opOr, opXor, opDiff, opShr, opBit, g_h0, c1, hgt, hL, gb, e4, e5, e14, e15, e16, hlt, ho7, q_z, g_z, l_z, r_z, z_z, hc'] <;> omega))⟩
        (case hm => first | omega | (simp; omega))
        (case hf => simp [FrameL, g_h0, c1, hgt, hL, gb, e4, e5, e14, e15, e16, hlt, ho7, q_z, g_z, l_z, r_z, z_z, hc', f4_0, f14_0, f15_0])
      · have hc' : ¬ (w0 : Int) < (w1 : Int) + (w2 : Int) := by omega
        try simp (disch := first | omega | (simp; done) | fail) [wrap64c, if_pos, if_neg, opAnd, opOr, opXor, opDiff, opShr, opBit, g_h0, c1, hgt, hL, gb, e4, e5, e14, e15, e16, hlt, ho7, q_z, g_z, l_z, r_z, z_z, hc']
        refine loopK_next _ ?hm ?hf ⟨j + 1, rfl, rfl, (by rw [ht]; simp [e5]; omega), (by simp (disch := first | omega | (simp; done) | fail) [wrap64c, if_pos, if_neg, opAnd, opOr, opXor, opDiff, opShr, opBit, g_h0, c1, hgt, hL, gb, e4, e5, e14, e15, e16, hlt, ho7, q_z, g_z, l_z, r_z, z_z, hc'] <;> omega), (by first | omega | assumption | (simp (disch := first | omega | (simp; done) | fail) [wrap64c, if_pos, if_neg, opAnd, opOr, opXor, opDiff, opShr, opBit, g_h0, c1, hgt, hL, gb, e4, e5, e14, e15, e16, hlt, ho7, q_z, g_z, l_z, r_z, z_z, hc'] <;> omega))⟩
        (case hm => first | omega | (simp; omega))
        (case hf => simp [FrameL, g_h0, c1, hgt, hL, gb, e4, e5, e14, e15, e16, hlt, ho7, q_z, g_z, l_z, r_z, z_z, hc', f4_0, f14_0, f15_0])
    · have hft : xs.take j = xs := List.take_of_length_le (by omega)
      try simp (disch := first | omega | (simp; done) | fail) [wrap64c, if_pos, if_neg, opAnd, opOr, opXor, opDiff, opShr, opBit, g_h0, c1, hgt, hL, gb, e4, e5, e14, e15, e16, hlt]
      exact done_ret rfl (by simp [lpR, c1, K1, hft])
end Go.Proofs.Ytnncipcldbopgaa
namespace Go.Proofs.Ytnncipcldbopgaa
set_option linter.unusedSimpArgs false
set_option linter.unusedVariables false
set_option maxHeartbeats 4000000
open Go Go.Eng
attribute [local irreducible] WD RunD PreD Runs CallOK
end Go.Proofs.Ytnncipcldbopgaa
namespace Go.Proofs.Ytnncipcldbopgaa
set_option linter.unusedSimpArgs false
set_option linter.unusedVariables false
set_option maxHeartbeats 4000000
open Go Go.Eng
attribute [local irreducible] WD RunD PreD Runs CallOK
noncomputable def askR (N : Int) (X : List Int) (a : Int) : List Int := if oneB N X a = true then toN (runF bestN a.toNat X.length (natsOf X)) else []
def runLen (xs : List Nat) (x : Nat) : Nat := (runF bestN x xs.length xs).length
def wsS (xs l : List Nat) : Nat × Int := l.foldl (fun s x => if (runLen xs x : Int) > s.2 then (x, (runLen xs x : Int)) else s) (0, -1)
noncomputable def worstR (N : Int) (X : List Int) : Int := if spB N X = true then (((wsS (natsOf X) (natsOf X)).1 : Nat) : Int) else 0
end Go.Proofs.Ytnncipcldbopgaa
namespace Go.Proofs.Ytnncipcldbopgaa
set_option linter.unusedSimpArgs false
set_option linter.unusedVariables false
set_option maxHeartbeats 4000000
open Go Go.Eng
attribute [local irreducible] WD RunD PreD Runs CallOK
noncomputable def askB (N : Int) (X : List Int) (y z : Int) : Bool := goB N X y z && !decide ((leftN (natsOf X) y.toNat z.toNat).length = 1)
noncomputable def halfQR (N : Int) (X : List Int) (y z : Int) : Int := if askB N X y z = true then halfN (leftN (natsOf X) y.toNat z.toNat) else 0
noncomputable def worstQR (N : Int) (X : List Int) (y z : Int) : Int := if goB N X y z = true then ((worstN (leftN (natsOf X) y.toNat z.toNat) : Nat) : Int) else 0
noncomputable def bestQR (N : Int) (X : List Int) (y z : Int) : Int := if askB N X y z = true then bestN (leftN (natsOf X) y.toNat z.toNat) else 0
theorem specHalfQ_ok (h : Hp) (v : Value) (N : Int) (X : List Int) (y z : Int) (hv : Space h v N X) (hl : X.length < 2 ^ 39) :
    CallOK Try.prog 63 #[v, .int .i64 y, .int .i64 z] h (.tuple #[.int .i64 (halfQR N X y z), .bool (askB N X y z)]) h := by
  refine callY_P 25 _ [.tmp 6, .tmp 7] Try.func63 rfl rfl rfl (by first | rfl | simp) ?_
  obtain ⟨b, rfl, hX⟩ := hv
  refine WD_first ?_
  try simp (disch := first | omega | (simp; done) | fail) [wrap64c, if_pos, if_neg, opAnd, opOr, opXor, opDiff, opShr, opBit]
  refine stopK_heap fun h0 q_h0 => ?_
  refine stopK_go ?_
  have g_h0 : h0.get h.next = .cells [.int .i64 N, b] true true 1 := by simp [q_h0]
  have k_h0 : Adds h h0 := by rw [q_h0]; exact (by first | exact aK | exact kK)
  have n_h0 : h.next < h0.next := by simp [q_h0]; try omega
  have hX0 := hX.keep k_h0.1
  have K0 := k_h0.1
  try simp (disch := first | omega | (simp; done) | fail) [wrap64c, if_pos, if_neg, opAnd, opOr, opXor, opDiff, opShr, opBit, g_h0]
  refine callG_c (by simp) (by simp) ?ha (asGood_ok h0 (.agg #[.int .i64 N, b]) N X y z (.mk hX0) hl) ?_
  (case ha => simp (disch := first | omega | (simp; done) | fail) [wrap64c, if_pos, if_neg, opAnd, opOr, opXor, opDiff, opShr, opBit, g_h0])
  cases c1 : goB N X y z
  · try simp (disch := first | omega | (simp; done) | fail) [wrap64c, if_pos, if_neg, opAnd, opOr, opXor, opDiff, opShr, opBit, g_h0, c1]
    exact done_ret rfl (by simp [halfQR, askB, c1, K0])
  · obtain ⟨n, xs, a, c, hN, hXe, ha, hc, g, hx, hy, hac, hne⟩ := goB_true c1
    subst hN hXe ha hc
    have hb7 := bit7 g.n7
    have hl7 := g.len7
    have hll := left_len xs a c
    obtain ⟨u, h1, p1, a1, i1⟩ := spLeft_ok h0 (.agg #[.int .i64 n, b]) n xs a c (.mk hX0) g.lt7 (by omega) (by omega) (by omega)
    have K1 := K0.trans a1.1
    have hX1 := hX0.keep a1.1
    have gb : h1.get h.next = .cells [.int .i64 n, b] true true 1 := by rw [a1.1.2 _ (by omega)]; exact g_h0
    have hlu := i1.ints.lenD
    have hln := toN_length (leftN xs a c)
    obtain ⟨L, hLe⟩ : ∃ L, L = leftN xs a c := ⟨_, rfl⟩
    have ph := asHalf_ok h1 (.agg #[.int .i64 n, b]) n xs a c (.mk hX1) g (by omega) (by omega) hne
    have hk : askB (n : Int) (toN xs) (a : Int) (c : Int) = !decide (L.length = 1) := by simp [askB, c1, hLe]
    have hv : halfQR (n : Int) (toN xs) (a : Int) (c : Int) = if (L.length = 1) then 0 else halfN L := by
      rw [halfQR, hk, natsOf_toN, Int.toNat_natCast, Int.toNat_natCast, ← hLe]
      by_cases h : L.length = 1 <;> simp [h]
    rw [← hLe] at ph hln hll
    by_cases hone : L.length = 1
    · have hone' : (((leftN xs a c).length : Int) == 1) = true := by rw [← hLe]; simp [hone]
      try simp (disch := first | omega | (simp; done) | fail) [wrap64c, if_pos, if_neg, opAnd, opOr, opXor, opDiff, opShr, opBit, g_h0, c1, gb, hlu, hone']
      refine callG_c (by simp) (by simp) ?ha (p1) ?_
      (case ha => simp (disch := first | omega | (simp; done) | fail) [wrap64c, if_pos, if_neg, opAnd, opOr, opXor, opDiff, opShr, opBit, g_h0, c1, gb, hlu, hone'])
      try simp (disch := first | omega | (simp; done) | fail) [wrap64c, if_pos, if_neg, opAnd, opOr, opXor, opDiff, opShr, opBit, g_h0, c1, gb, hlu, hone']
      exact done_ret rfl (by simp [hv, hk, hone, K1])
    · have hone' : (((leftN xs a c).length : Int) == 1) = false := beq_false_of_ne (by rw [← hLe]; omega)
      try simp (disch := first | omega | (simp; done) | fail) [wrap64c, if_pos, if_neg, opAnd, opOr, opXor, opDiff, opShr, opBit, g_h0, c1, gb, hlu, hone']
      refine callG_c (by simp) (by simp) ?ha (p1) ?_
      (case ha => simp (disch := first | omega | (simp; done) | fail) [wrap64c, if_pos, if_neg, opAnd, opOr, opXor, opDiff, opShr, opBit, g_h0, c1, gb, hlu, hone'])
      try simp (disch := first | omega | (simp; done) | fail) [wrap64c, if_pos, if_neg, opAnd, opOr, opXor, opDiff, opShr, opBit, g_h0, c1, gb, hlu, hone']
      refine callG_c (by simp) (by simp) ?ha (ph) ?_
      (case ha => simp (disch := first | omega | (simp; done) | fail) [wrap64c, if_pos, if_neg, opAnd, opOr, opXor, opDiff, opShr, opBit, g_h0, c1, gb, hlu, hone'])
      try simp (disch := first | omega | (simp; done) | fail) [wrap64c, if_pos, if_neg, opAnd, opOr, opXor, opDiff, opShr, opBit, g_h0, c1, gb, hlu, hone']
      exact done_ret rfl (by simp [hv, hk, hone, K1])
theorem implHalfQ_ok (h : Hp) (v : Value) (N : Int) (X : List Int) (y z : Int) (hv : Space h v N X) (hl : X.length < 2 ^ 39) :
    CallOK Try.prog 62 #[v, .int .i64 y, .int .i64 z] h (.tuple #[.int .i64 (halfQR N X y z), .bool (askB N X y z)]) h := by
  refine callY_P 26 _ [.tmp 6, .tmp 7] Try.func62 rfl rfl rfl (by first | rfl | simp) ?_
  obtain ⟨b, rfl, hX⟩ := hv
  refine WD_first ?_
  try simp (disch := first | omega | (simp; done) | fail) [wrap64c, if_pos, if_neg, opAnd, opOr, opXor, opDiff, opShr, opBit]
  refine stopK_heap fun h0 q_h0 => ?_
  refine stopK_go ?_
  have g_h0 : h0.get h.next = .cells [.int .i64 N, b] true true 1 := by simp [q_h0]
  have k_h0 : Adds h h0 := by rw [q_h0]; exact (by first | exact aK | exact kK)
  have n_h0 : h.next < h0.next := by simp [q_h0]; try omega
  have hX0 := hX.keep k_h0.1
  have K0 := k_h0.1
  try simp (disch := first | omega | (simp; done) | fail) [wrap64c, if_pos, if_neg, opAnd, opOr, opXor, opDiff, opShr, opBit, g_h0]
  refine callG_c (by simp) (by simp) ?ha (goOn_ok h0 (.agg #[.int .i64 N, b]) N X y z (.mk hX0) hl) ?_
  (case ha => simp (disch := first | omega | (simp; done) | fail) [wrap64c, if_pos, if_neg, opAnd, opOr, opXor, opDiff, opShr, opBit, g_h0])
  cases c1 : goB N X y z
  · try simp (disch := first | omega | (simp; done) | fail) [wrap64c, if_pos, if_neg, opAnd, opOr, opXor, opDiff, opShr, opBit, g_h0, c1]
    exact done_ret rfl (by simp [halfQR, askB, c1, K0])
  · obtain ⟨n, xs, a, c, hN, hXe, ha, hc, g, hx, hy, hac, hne⟩ := goB_true c1
    subst hN hXe ha hc
    have hb7 := bit7 g.n7
    have hl7 := g.len7
    have hll := left_len xs a c
    obtain ⟨u, h1, p1, a1, i1⟩ := imLeft_ok h0 (.agg #[.int .i64 n, b]) n xs a c (.mk hX0) g.lt7 (by omega) (by omega) (by omega)
    have K1 := K0.trans a1.1
    have hX1 := hX0.keep a1.1
    have gb : h1.get h.next = .cells [.int .i64 n, b] true true 1 := by rw [a1.1.2 _ (by omega)]; exact g_h0
    have hlu := i1.ints.lenD
    have hln := toN_length (leftN xs a c)
    obtain ⟨L, hLe⟩ : ∃ L, L = leftN xs a c := ⟨_, rfl⟩
    have hk : askB (n : Int) (toN xs) (a : Int) (c : Int) = !decide (L.length = 1) := by simp [askB, c1, hLe]
    have hv : halfQR (n : Int) (toN xs) (a : Int) (c : Int) = if (L.length = 1) then 0 else halfN L := by
      rw [halfQR, hk, natsOf_toN, Int.toNat_natCast, Int.toNat_natCast, ← hLe]
      by_cases h : L.length = 1 <;> simp [h]
    rw [← hLe] at hln hll
    by_cases hone : L.length = 1
    · have hone' : (((leftN xs a c).length : Int) == 1) = true := by rw [← hLe]; simp [hone]
      try simp (disch := first | omega | (simp; done) | fail) [wrap64c, if_pos, if_neg, opAnd, opOr, opXor, opDiff, opShr, opBit, g_h0, c1, gb, hlu, hone']
      refine callG_c (by simp) (by simp) ?ha (p1) ?_
      (case ha => simp (disch := first | omega | (simp; done) | fail) [wrap64c, if_pos, if_neg, opAnd, opOr, opXor, opDiff, opShr, opBit, g_h0, c1, gb, hlu, hone'])
      try simp (disch := first | omega | (simp; done) | fail) [wrap64c, if_pos, if_neg, opAnd, opOr, opXor, opDiff, opShr, opBit, g_h0, c1, gb, hlu, hone']
      exact done_ret rfl (by simp [hv, hk, hone, K1])
    · have hone' : (((leftN xs a c).length : Int) == 1) = false := beq_false_of_ne (by rw [← hLe]; omega)
      obtain ⟨_, h2, p2, o, p, q, b1, rfl, a2, hopq, hgo, hgp, hgq, hb1⟩ := newAsker_ok h1 (.agg #[.int .i64 (n : Int), b]) n (toN xs) (.mk hX1)
      have K2 := K1.trans a2.1
      have ph := half_ok h2 o n b1 (.map (some p)) (.map (some q)) true true 1 xs a c (by omega) hgo hb1.ints g.lt7 (by omega) (by omega) (by omega)
      rw [← hLe] at ph
      try simp (disch := first | omega | (simp; done) | fail) [wrap64c, if_pos, if_neg, opAnd, opOr, opXor, opDiff, opShr, opBit, g_h0, c1, gb, hlu, hone']
      refine callG_c (by simp) (by simp) ?ha (p1) ?_
      (case ha => simp (disch := first | omega | (simp; done) | fail) [wrap64c, if_pos, if_neg, opAnd, opOr, opXor, opDiff, opShr, opBit, g_h0, c1, gb, hlu, hone'])
      try simp (disch := first | omega | (simp; done) | fail) [wrap64c, if_pos, if_neg, opAnd, opOr, opXor, opDiff, opShr, opBit, g_h0, c1, gb, hlu, hone']
      refine callG_c (by simp) (by simp) ?ha (p2) ?_
      (case ha => simp (disch := first | omega | (simp; done) | fail) [wrap64c, if_pos, if_neg, opAnd, opOr, opXor, opDiff, opShr, opBit, g_h0, c1, gb, hlu, hone'])
      try simp (disch := first | omega | (simp; done) | fail) [wrap64c, if_pos, if_neg, opAnd, opOr, opXor, opDiff, opShr, opBit, g_h0, c1, gb, hlu, hone']
      refine callG_c (by simp) (by simp) ?ha (ph) ?_
      (case ha => simp (disch := first | omega | (simp; done) | fail) [wrap64c, if_pos, if_neg, opAnd, opOr, opXor, opDiff, opShr, opBit, g_h0, c1, gb, hlu, hone'])
      try simp (disch := first | omega | (simp; done) | fail) [wrap64c, if_pos, if_neg, opAnd, opOr, opXor, opDiff, opShr, opBit, g_h0, c1, gb, hlu, hone']
      exact done_ret rfl (by simp [hv, hk, hone, K2])
end Go.Proofs.Ytnncipcldbopgaa
