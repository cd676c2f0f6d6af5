/- Part 5 of the proof of bestQuestions_holds: what it uses of the texts that lie in the notes, merged. -/
import Derived.Test.YtnncipcldbopgaaQb4
namespace Go.Proofs.Ytnncipcldbopgaa
set_option linter.unusedSimpArgs false
set_option linter.unusedVariables false
set_option maxHeartbeats 4000000
open Go Go.Eng
attribute [local irreducible] WD RunD PreD Runs CallOK
theorem asHalf_ok (h : Hp) (v : Value) (n : Nat) (xs : List Nat) (y z : Nat) (hv : Space h v n (toN xs)) (g : SpGood n xs) (hy : y < 128) (hz : z < 128) (hne : leftN xs y z ≠ []) :
    CallOK Try.prog 171 #[v, .int .i64 (y : Int), .int .i64 (z : Int)] h (.int .i64 (halfN (leftN xs y z))) h := by
  refine callY_P 66 _ [.tmp 6] Try.func171 rfl rfl rfl (by first | rfl | simp) ?_
  obtain ⟨b, rfl, hX⟩ := hv
  refine WD_first ?_
  try simp (disch := first | omega | (simp; done) | fail) [wrap64c, if_pos, if_neg, opAnd, opOr, opXor, opDiff, opShr, opBit]
  refine stopK_heap fun h0 q_h0 => ?_
  refine stopK_go ?_
  have g_h0 : h0.get h.next = .cells [.int .i64 (n : Int), b] true true 1 := by simp [q_h0]
  have k_h0 : Adds h h0 := by rw [q_h0]; exact (by first | exact aK | exact kK)
  have n_h0 : h.next < h0.next := by simp [q_h0]; try omega
  have hX0 := hX.keep k_h0.1
  have n7 := g.n7
  have hl7 := g.len7
  try simp (disch := first | omega | (simp; done) | fail) [wrap64c, if_pos, if_neg, opAnd, opOr, opXor, opDiff, opShr, opBit, g_h0]
  obtain ⟨v1, h1, hc1, ha1, hi1⟩ := spLeft_ok h0 (.agg #[.int .i64 (n : Int), b]) n xs y z (.mk hX0) g.lt7 (by omega) hy hz
  refine callG_c (by simp) (by simp) ?ha (hc1) ?_
  (case ha => simp (disch := first | omega | (simp; done) | fail) [wrap64c, if_pos, if_neg, opAnd, opOr, opXor, opDiff, opShr, opBit, g_h0])
  obtain ⟨L, hLe⟩ : ∃ L, L = leftN xs y z := ⟨_, rfl⟩
  have hLx : ∀ x ∈ L, x < 128 := fun x hm => g.lt7 x (left_sub (hLe ▸ hm))
  have hLn : ∀ x ∈ L, x < bit n := fun x hm => g.lt x (left_sub (hLe ▸ hm))
  have hLl : L.length ≤ 128 := by have := left_len xs y z; rw [hLe]; omega
  rw [← hLe] at hi1 hne
  have g1 : h1.get h.next = .cells [.int .i64 (n : Int), b] true true 1 := by rw [ha1.1.2 _ (by omega)]; exact g_h0
  have hv1 := hi1.ints
  have hM1 := hv1.lenD
  have hgt1 := toN_get L
  have hln1 := toN_length L
  have K1 := k_h0.1.trans ha1.1
  try simp (disch := first | omega | (simp; done) | fail) [wrap64c, if_pos, if_neg, opAnd, opOr, opXor, opDiff, opShr, opBit, g_h0, g1, hM1, hgt1]
  refine callG_c (by simp) (by simp) ?ha (asKnown_ok h1 (.agg #[.int .i64 (n : Int), b]) v1 n _ L (.mk (hX0.keep ha1.1)) hv1 n7 hLx (by omega)) ?_
  (case ha => simp (disch := first | omega | (simp; done) | fail) [wrap64c, if_pos, if_neg, opAnd, opOr, opXor, opDiff, opShr, opBit, g_h0, g1, hM1, hgt1])
  have hb := bit7 n7
  have hba := foldAnd_le L (bit n - 1)
  have hbd := foldDiff_lt (L := L) (a := bit n - 1) (by omega)
  try simp (disch := first | omega | (simp; done) | fail) [wrap64c, if_pos, if_neg, opAnd, opOr, opXor, opDiff, opShr, opBit, g_h0, g1, hM1, hgt1]
  refine WD_loopC [3, 7, 8, 9] (fun m tm h' => ∃ i, m = n - i ∧ h1 = h' ∧ tm 10 = .int .i64 (halfS L (openK L i)).1 ∧ tm 11 = .int .i64 ((halfS L (openK L i)).2 : Int) ∧ tm 12 = .int .i64 (i : Int) ∧ (i ≤ n)) _ ⟨0, rfl, rfl, (by simp [halfS, openK]), (by simp [halfS, openK]), (by simp (disch := first | omega | (simp; done) | fail) [wrap64c, if_pos, if_neg, opAnd, opOr, opXor, opDiff, opShr, opBit, g_h0, g1, hM1, hgt1]), (by first | omega | assumption | (simp (disch := first | omega | (simp; done) | fail) [wrap64c, if_pos, if_neg, opAnd, opOr, opXor, opDiff, opShr, opBit, g_h0, g1, hM1, hgt1] <;> omega))⟩ ?_
  rintro m tm h' hFr ⟨i, rfl, rfl, e10, e11, e12, hi⟩
  simp only [FrameL] at hFr
  obtain ⟨f3_0, f7_0, f8_0, f9_0, -⟩ := hFr
  try simp (disch := first | omega | (simp; done) | fail) [wrap64c, if_pos, if_neg, opAnd, opOr, opXor, opDiff, opShr, opBit, g_h0, g1, hM1, hgt1] at f3_0 f7_0 f8_0 f9_0
  have e3 := f3_0
  have e7 := f7_0
  have e8 := f8_0
  have e9 := f9_0
  by_cases hlt : i < n
  · have hkb := known_bit hne hlt
    have hor := nOr128 (a := L.foldl nAnd (bit n - 1)) (by omega) hbd
    have hos := openK_succ L i
    try simp (disch := first | omega | (simp; done) | fail) [wrap64c, if_pos, if_neg, opAnd, opOr, opXor, opDiff, opShr, opBit, g_h0, g1, hM1, hgt1, e3, e7, e8, e9, e10, e11, e12, hlt]
    refine callG_c (by simp) (by simp) ?ha (spIn_ok h1 (nOr (L.foldl nAnd (bit n - 1)) (L.foldl ndiff (bit n - 1))) i (by omega) (by omega)) ?_
    (case ha => simp (disch := first | omega | (simp; done) | fail) [wrap64c, if_pos, if_neg, opAnd, opOr, opXor, opDiff, opShr, opBit, g_h0, g1, hM1, hgt1, e3, e7, e8, e9, e10, e11, e12, hlt])
    cases hop : opB L i
    · rw [hop] at hkb hos
      have hkb := hkb
      try simp (disch := first | omega | (simp; done) | fail) [wrap64c, if_pos, if_neg, opAnd, opOr, opXor, opDiff, opShr, opBit, g_h0, g1, hM1, hgt1, e3, e7, e8, e9, e10, e11, e12, hlt, hkb]
      refine loopK_next _ ?hm ?hf ⟨i + 1, rfl, rfl, (by simp [hos, e10]), (by simp [hos, e11]), (by simp (disch := first | omega | (simp; done) | fail) [wrap64c, if_pos, if_neg, opAnd, opOr, opXor, opDiff, opShr, opBit, g_h0, g1, hM1, hgt1, e3, e7, e8, e9, e10, e11, e12, hlt, hkb] <;> omega), (by first | omega | assumption | (simp (disch := first | omega | (simp; done) | fail) [wrap64c, if_pos, if_neg, opAnd, opOr, opXor, opDiff, opShr, opBit, g_h0, g1, hM1, hgt1, e3, e7, e8, e9, e10, e11, e12, hlt, hkb] <;> omega))⟩
      (case hm => first | omega | (simp; omega))
      (case hf => simp [FrameL, g_h0, g1, hM1, hgt1, e3, e7, e8, e9, e10, e11, e12, hlt, hkb, f3_0, f7_0, f8_0, f9_0])
    · rw [hop] at hkb hos
      have hkb := hkb
      try simp (disch := first | omega | (simp; done) | fail) [wrap64c, if_pos, if_neg, opAnd, opOr, opXor, opDiff, opShr, opBit, g_h0, g1, hM1, hgt1, e3, e7, e8, e9, e10, e11, e12, hlt, hkb]
      refine WD_loopC [3, 7, 8, 9, 10, 11, 12, 38, 39] (fun m tm h' => ∃ k, m = L.length - k ∧ h1 = h' ∧ tm 13 = .int .i64 ((hasL (L.take k) i).length : Int) ∧ tm 40 = .int .i64 (k : Int) ∧ (k ≤ L.length)) _ ⟨0, rfl, rfl, (by simp [hasL]), (by simp (disch := first | omega | (simp; done) | fail) [wrap64c, if_pos, if_neg, opAnd, opOr, opXor, opDiff, opShr, opBit, g_h0, g1, hM1, hgt1, e3, e7, e8, e9, e10, e11, e12, hlt, hkb]), (by first | omega | assumption | (simp (disch := first | omega | (simp; done) | fail) [wrap64c, if_pos, if_neg, opAnd, opOr, opXor, opDiff, opShr, opBit, g_h0, g1, hM1, hgt1, e3, e7, e8, e9, e10, e11, e12, hlt, hkb] <;> omega))⟩ ?_
      rintro m tm h' hFr ⟨k, rfl, rfl, e13, e40, hk⟩
      simp only [FrameL] at hFr
      obtain ⟨f3_1, f7_1, f8_1, f9_1, f10_1, f11_1, f12_1, f38_1, f39_1, -⟩ := hFr
      try simp (disch := first | omega | (simp; done) | fail) [wrap64c, if_pos, if_neg, opAnd, opOr, opXor, opDiff, opShr, opBit, g_h0, g1, hM1, hgt1, e3, e7, e8, e9, e10, e11, e12, hlt, hkb] at f3_1 f7_1 f8_1 f9_1 f10_1 f11_1 f12_1 f38_1 f39_1
      have e3 := f3_1
      have e7 := f7_1
      have e8 := f8_1
      have e9 := f9_1
      have e10 := f10_1
      have e11 := f11_1
      have e12 := f12_1
      have e38 := f38_1
      have e39 := f39_1
      have hhl := has_take_le L k i
      by_cases hlk : k < L.length
      · obtain ⟨o_w, i_w, c_w, cs_w, own_w, ex_w, es_w, q_w, b_w, g_w, l_w, r_w⟩ := hv1.open ((by omega))
        have z_w : ∀ h2 : i_w < cs_w.length, cs_w[i_w] = _ := fun h2 => r_w 0 ((by omega)) h2
        have hx1 := hLx _ (List.getElem_mem hlk)
        have hht := has_take hlk i
        try simp (disch := first | omega | (simp; done) | fail) [wrap64c, if_pos, if_neg, opAnd, opOr, opXor, opDiff, opShr, opBit, g_h0, g1, hM1, hgt1, e3, e7, e8, e9, e10, e11, e12, hlt, hkb, e13, e38, e39, e40, hlk, q_w, g_w, l_w, r_w, z_w]
        refine callG_c (by simp) (by simp) ?ha (spIn_ok h1 L[k] i (by omega) (by omega)) ?_
        (case ha => simp (disch := first | omega | (simp; done) | fail) [wrap64c, if_pos, if_neg, opAnd, opOr, opXor, opDiff, opShr, opBit, g_h0, g1, hM1, hgt1, e3, e7, e8, e9, e10, e11, e12, hlt, hkb, e13, e38, e39, e40, hlk, q_w, g_w, l_w, r_w, z_w])
        cases hbk : L[k].testBit i
        · try simp (disch := first | omega | (simp; done) | fail) [wrap64c, if_pos, if_neg, opAnd, opOr, opXor, opDiff, opShr, opBit, g_h0, g1, hM1, hgt1, e3, e7, e8, e9, e10, e11, e12, hlt, hkb, e13, e38, e39, e40, hlk, q_w, g_w, l_w, r_w, z_w, hbk]
          refine loopK_next _ ?hm ?hf ⟨k + 1, rfl, rfl, (by simp [hht, hbk, e13]), (by simp (disch := first | omega | (simp; done) | fail) [wrap64c, if_pos, if_neg, opAnd, opOr, opXor, opDiff, opShr, opBit, g_h0, g1, hM1, hgt1, e3, e7, e8, e9, e10, e11, e12, hlt, hkb, e13, e38, e39, e40, hlk, q_w, g_w, l_w, r_w, z_w, hbk] <;> omega), (by first | omega | assumption | (simp (disch := first | omega | (simp; done) | fail) [wrap64c, if_pos, if_neg, opAnd, opOr, opXor, opDiff, opShr, opBit, g_h0, g1, hM1, hgt1, e3, e7, e8, e9, e10, e11, e12, hlt, hkb, e13, e38, e39, e40, hlk, q_w, g_w, l_w, r_w, z_w, hbk] <;> omega))⟩
          (case hm => first | omega | (simp; omega))
          (case hf => simp [FrameL, g_h0, g1, hM1, hgt1, e3, e7, e8, e9, e10, e11, e12, hlt, hkb, e13, e38, e39, e40, hlk, q_w, g_w, l_w, r_w, z_w, hbk, f3_1, f7_1, f8_1, f9_1, f10_1, f11_1, f12_1, f38_1, f39_1])
        · try simp (disch := first | omega | (simp; done) | fail) [wrap64c, if_pos, if_neg, opAnd, opOr, opXor, opDiff, opShr, opBit, g_h0, g1, hM1, hgt1, e3, e7, e8, e9, e10, e11, e12, hlt, hkb, e13, e38, e39, e40, hlk, q_w, g_w, l_w, r_w, z_w, hbk]
          refine loopK_next _ ?hm ?hf ⟨k + 1, rfl, rfl, (by simp [hht, hbk]), (by simp (disch := first | omega | (simp; done) | fail) [wrap64c, if_pos, if_neg, opAnd, opOr, opXor, opDiff, opShr, opBit, g_h0, g1, hM1, hgt1, e3, e7, e8, e9, e10, e11, e12, hlt, hkb, e13, e38, e39, e40, hlk, q_w, g_w, l_w, r_w, z_w, hbk] <;> omega), (by first | omega | assumption | (simp (disch := first | omega | (simp; done) | fail) [wrap64c, if_pos, if_neg, opAnd, opOr, opXor, opDiff, opShr, opBit, g_h0, g1, hM1, hgt1, e3, e7, e8, e9, e10, e11, e12, hlt, hkb, e13, e38, e39, e40, hlk, q_w, g_w, l_w, r_w, z_w, hbk] <;> omega))⟩
          (case hm => first | omega | (simp; omega))
          (case hf => simp [FrameL, g_h0, g1, hM1, hgt1, e3, e7, e8, e9, e10, e11, e12, hlt, hkb, e13, e38, e39, e40, hlk, q_w, g_w, l_w, r_w, z_w, hbk, f3_1, f7_1, f8_1, f9_1, f10_1, f11_1, f12_1, f38_1, f39_1])
      · have hft : L.take k = L := List.take_of_length_le (by omega)
        rw [hft] at e13 hhl
        have hdn : (2 * ((hasL L i).length : Int) - (L.length : Int)).natAbs = distN L i := rfl
        obtain ⟨s1, hs1⟩ : ∃ s1, s1 = (halfS L (openK L i)).1 := ⟨_, rfl⟩
        obtain ⟨s2, hs2⟩ : ∃ s2, s2 = (halfS L (openK L i)).2 := ⟨_, rfl⟩
        have hsn : halfS L (openK L (i + 1)) = if s1 < 0 ∨ distN L i < s2 then ((i : Int), distN L i) else halfS L (openK L i) := by
          rw [hos, if_pos rfl, halfS_snoc, hs1, hs2]
        rw [← hs1] at e10
        rw [← hs2] at e11
        try simp (disch := first | omega | (simp; done) | fail) [wrap64c, if_pos, if_neg, opAnd, opOr, opXor, opDiff, opShr, opBit, g_h0, g1, hM1, hgt1, e3, e7, e8, e9, e10, e11, e12, hlt, hkb, e13, e38, e39, e40, hlk, hdn]
        refine callG_c (by simp) (by simp) ?ha (l1Abs_ok h1 (2 * ((hasL L i).length : Int) - (L.length : Int)) (by omega) (by omega)) ?_
        (case ha => simp (disch := first | omega | (simp; done) | fail) [wrap64c, if_pos, if_neg, opAnd, opOr, opXor, opDiff, opShr, opBit, g_h0, g1, hM1, hgt1, e3, e7, e8, e9, e10, e11, e12, hlt, hkb, e13, e38, e39, e40, hlk, hdn])
        by_cases c1 : s1 < 0
        · rw [if_pos (.inl c1)] at hsn
          try simp (disch := first | omega | (simp; done) | fail) [wrap64c, if_pos, if_neg, opAnd, opOr, opXor, opDiff, opShr, opBit, g_h0, g1, hM1, hgt1, e3, e7, e8, e9, e10, e11, e12, hlt, hkb, e13, e38, e39, e40, hlk, hdn, c1]
          refine loopK_next _ ?hm ?hf ⟨i + 1, rfl, rfl, (by simp [hsn]), (by simp [hsn]), (by simp (disch := first | omega | (simp; done) | fail) [wrap64c, if_pos, if_neg, opAnd, opOr, opXor, opDiff, opShr, opBit, g_h0, g1, hM1, hgt1, e3, e7, e8, e9, e10, e11, e12, hlt, hkb, e13, e38, e39, e40, hlk, hdn, c1] <;> omega), (by first | omega | assumption | (simp (disch := first | omega | (simp; done) | fail) [wrap64c, if_pos, if_neg, opAnd, opOr, opXor, opDiff, opShr, opBit, g_h0, g1, hM1, hgt1, e3, e7, e8, e9, e10, e11, e12, hlt, hkb, e13, e38, e39, e40, hlk, hdn, c1] <;> omega))⟩
          (case hm => first | omega | (simp; omega))
          (case hf => simp [FrameL, g_h0, g1, hM1, hgt1, e3, e7, e8, e9, e10, e11, e12, hlt, hkb, e13, e38, e39, e40, hlk, hdn, c1, f3_0, f7_0, f8_0, f9_0])
        · by_cases c2 : distN L i < s2
          · rw [if_pos (.inr c2)] at hsn
            try simp (disch := first | omega | (simp; done) | fail) [wrap64c, if_pos, if_neg, opAnd, opOr, opXor, opDiff, opShr, opBit, g_h0, g1, hM1, hgt1, e3, e7, e8, e9, e10, e11, e12, hlt, hkb, e13, e38, e39, e40, hlk, hdn, c1, c2]
            refine loopK_next _ ?hm ?hf ⟨i + 1, rfl, rfl, (by simp [hsn]), (by simp [hsn]), (by simp (disch := first | omega | (simp; done) | fail) [wrap64c, if_pos, if_neg, opAnd, opOr, opXor, opDiff, opShr, opBit, g_h0, g1, hM1, hgt1, e3, e7, e8, e9, e10, e11, e12, hlt, hkb, e13, e38, e39, e40, hlk, hdn, c1, c2] <;> omega), (by first | omega | assumption | (simp (disch := first | omega | (simp; done) | fail) [wrap64c, if_pos, if_neg, opAnd, opOr, opXor, opDiff, opShr, opBit, g_h0, g1, hM1, hgt1, e3, e7, e8, e9, e10, e11, e12, hlt, hkb, e13, e38, e39, e40, hlk, hdn, c1, c2] <;> omega))⟩
            (case hm => first | omega | (simp; omega))
            (case hf => simp [FrameL, g_h0, g1, hM1, hgt1, e3, e7, e8, e9, e10, e11, e12, hlt, hkb, e13, e38, e39, e40, hlk, hdn, c1, c2, f3_0, f7_0, f8_0, f9_0])
          · rw [if_neg (by omega)] at hsn
            try simp (disch := first | omega | (simp; done) | fail) [wrap64c, if_pos, if_neg, opAnd, opOr, opXor, opDiff, opShr, opBit, g_h0, g1, hM1, hgt1, e3, e7, e8, e9, e10, e11, e12, hlt, hkb, e13, e38, e39, e40, hlk, hdn, c1, c2]
            refine loopK_next _ ?hm ?hf ⟨i + 1, rfl, rfl, (by simp [hsn, e10, hs1]), (by simp [hsn, e11, hs2]), (by simp (disch := first | omega | (simp; done) | fail) [wrap64c, if_pos, if_neg, opAnd, opOr, opXor, opDiff, opShr, opBit, g_h0, g1, hM1, hgt1, e3, e7, e8, e9, e10, e11, e12, hlt, hkb, e13, e38, e39, e40, hlk, hdn, c1, c2] <;> omega), (by first | omega | assumption | (simp (disch := first | omega | (simp; done) | fail) [wrap64c, if_pos, if_neg, opAnd, opOr, opXor, opDiff, opShr, opBit, g_h0, g1, hM1, hgt1, e3, e7, e8, e9, e10, e11, e12, hlt, hkb, e13, e38, e39, e40, hlk, hdn, c1, c2] <;> omega))⟩
            (case hm => first | omega | (simp; omega))
            (case hf => simp [FrameL, g_h0, g1, hM1, hgt1, e3, e7, e8, e9, e10, e11, e12, hlt, hkb, e13, e38, e39, e40, hlk, hdn, c1, c2, f3_0, f7_0, f8_0, f9_0])
  · have hie : i = n := by omega
    try simp (disch := first | omega | (simp; done) | fail) [wrap64c, if_pos, if_neg, opAnd, opOr, opXor, opDiff, opShr, opBit, g_h0, g1, hM1, hgt1, e3, e7, e8, e9, e10, e11, e12, hlt]
    exact done_ret rfl (by simp [← hLe, halfN, hie, openK_eq n7 hLn, K1])
theorem runF_nil {ask : List Nat → Int} {set : Nat} {L : List Nat} (h : ask L < 0) : ∀ k, runF ask set k L = []
  | 0 => rfl
  | k + 1 => by rw [runF, if_pos h]
theorem runF_cons {ask : List Nat → Int} {set : Nat} {L : List Nat} {i k : Nat} (h : ask L = (i : Nat)) : runF ask set (k + 1) L = i :: runF ask set k (if set.testBit i = true then hasL L i else lacksL L i) := by
  rw [runF, if_neg (by omega), h, Int.toNat_natCast]
theorem asRunH_ok (h : Hp) (v : Value) (n : Nat) (xs : List Nat) (set : Nat) (hv : Space h v n (toN xs)) (g : SpGood n xs) (hset : set ∈ xs) :
    ∃ v' h', CallOK Try.prog 166 #[v, .pointer none, .int .i64 (set : Int), .bool true] h v' h' ∧ Adds h h' ∧ IntsO (Btw h.next h'.next) h' v' (toN (runF halfN set xs.length xs)) := by
  refine callY_L (args := [v, .pointer none, .int .i64 (set : Int), .bool true]) 44 _ [.tmp 8] Try.func166 rfl rfl rfl ?_
  obtain ⟨b, rfl, hX⟩ := hv
  refine WD_first ?_
  try simp (disch := first | omega | (simp; done) | fail) [wrap64c, if_pos, if_neg, opAnd, opOr, opXor, opDiff, opShr, opBit]
  refine stopK_heap fun h0 q_h0 => ?_
  refine stopK_go ?_
  have g_h0 : h0.get h.next = .cells [.int .i64 (n : Int), b] true true 1 := by simp [q_h0]
  have k_h0 : Adds h h0 := by rw [q_h0]; exact (by first | exact aK | exact kK)
  have n_h0 : h.next < h0.next := by simp [q_h0]; try omega
  have hX0 := hX.keep k_h0.1
  have n7 := g.n7
  have hl7 := g.len7
  have hset7 := g.lt7 _ hset
  try simp (disch := first | omega | (simp; done) | fail) [wrap64c, if_pos, if_neg, opAnd, opOr, opXor, opDiff, opShr, opBit, g_h0]
  refine WD_loopC [1, 2, 3, 4] (fun m tm h' => ∃ k y z acc u, m = k + 0 * (leftN xs y z).length ∧ tm 9 = u ∧ tm 10 = .int .i64 (y : Int) ∧ tm 11 = .int .i64 (z : Int) ∧ (y < 128 ∧ z < 128) ∧ (Adds h0 h') ∧ (IntsA h0.next h' u (toN acc)) ∧ ((leftN xs y z).length ≤ k) ∧ (acc.length + k = xs.length) ∧ (set ∈ leftN xs y z) ∧ (runF halfN set xs.length xs = acc ++ runF halfN set k (leftN xs y z))) _ ⟨xs.length, 0, 0, [], _, rfl, (by simp (disch := first | omega | (simp; done) | fail) [wrap64c, if_pos, if_neg, opAnd, opOr, opXor, opDiff, opShr, opBit, g_h0]), (by simp (disch := first | omega | (simp; done) | fail) [wrap64c, if_pos, if_neg, opAnd, opOr, opXor, opDiff, opShr, opBit, g_h0]), (by simp (disch := first | omega | (simp; done) | fail) [wrap64c, if_pos, if_neg, opAnd, opOr, opXor, opDiff, opShr, opBit, g_h0]), (by first | omega | assumption | (simp (disch := first | omega | (simp; done) | fail) [wrap64c, if_pos, if_neg, opAnd, opOr, opXor, opDiff, opShr, opBit, g_h0] <;> omega)), (adds_self _), (.nil _ _), (by rw [left_zero]; exact Nat.le_refl _), (by simp), (by rw [left_zero]; exact hset), (by rw [left_zero]; rfl)⟩ ?_
  rintro m tm h' hFr ⟨k, y, z, acc, u, rfl, e9, e10, e11, hyz, ha, hu, hk, hak, hin, hr⟩
  simp only [FrameL] at hFr
  obtain ⟨f1_0, f2_0, f3_0, f4_0, -⟩ := hFr
  try simp (disch := first | omega | (simp; done) | fail) [wrap64c, if_pos, if_neg, opAnd, opOr, opXor, opDiff, opShr, opBit, g_h0] at f1_0 f2_0 f3_0 f4_0
  have e1 := f1_0
  have e2 := f2_0
  have e3 := f3_0
  have e4 := f4_0
  have g1 : h'.get h.next = .cells [.int .i64 (n : Int), b] true true 1 := by rw [ha.1.2 _ (by omega)]; exact g_h0
  have hXh := hX0.keep ha.1
  try simp (disch := first | omega | (simp; done) | fail) [wrap64c, if_pos, if_neg, opAnd, opOr, opXor, opDiff, opShr, opBit, g_h0, e1, e2, e3, e4, e9, e10, e11, g1]
  obtain ⟨v1, h1, hc1, ha1, hi1⟩ := spLeft_ok h' (.agg #[.int .i64 (n : Int), b]) n xs y z (.mk hXh) g.lt7 (by omega) hyz.1 hyz.2
  refine callG_c (by simp) (by simp) ?ha (hc1) ?_
  (case ha => simp (disch := first | omega | (simp; done) | fail) [wrap64c, if_pos, if_neg, opAnd, opOr, opXor, opDiff, opShr, opBit, g_h0, e1, e2, e3, e4, e9, e10, e11, g1])
  obtain ⟨L, hLe⟩ : ∃ L, L = leftN xs y z := ⟨_, rfl⟩
  have hLn : ∀ x ∈ L, x < bit n := fun x hm => g.lt x (left_sub (hLe ▸ hm))
  have hLs : L.Pairwise (· < ·) := hLe ▸ left_srt g.srt y z
  have hLl : L.length ≤ 128 := by have := left_len xs y z; rw [hLe]; omega
  have hop := open_ne n7 hLs hLn
  rw [← hLe] at hi1 hk hin hr
  have hM1 := hi1.ints.lenD
  have hln1 := toN_length L
  have g2 : h1.get h.next = .cells [.int .i64 (n : Int), b] true true 1 := by rw [ha1.1.2 _ (by have := ha.1.1; omega)]; exact g1
  have hu1 := hu.keep ha1.1
  have A1 := ha.trans ha1
  have hXh1 := hXh.keep ha1.1
  have hn1 := A1.1.1
  by_cases h1L : 1 < L.length
  · obtain ⟨i, hi1', hi2⟩ := halfN_mem (hop.2 h1L)
    have hi7 : i < 7 := (mem_openK.1 hi2).1
    have hlen := has_len (mem_openK.1 hi2).2
    obtain ⟨k1, hk1⟩ : ∃ q, k = q + 1 := ⟨k - 1, by omega⟩
    rw [hk1, runF_cons hi1'] at hr
    have hb7 := bit_lt7 hi7
    have hy2 := nOr128 (b := bit i) hyz.1 (by omega)
    have hz2 := nOr128 (b := bit i) hyz.2 (by omega)
    try simp (disch := first | omega | (simp; done) | fail) [wrap64c, if_pos, if_neg, opAnd, opOr, opXor, opDiff, opShr, opBit, g_h0, e1, e2, e3, e4, e9, e10, e11, g1, hM1, hln1, g2, h1L]
    have hah := asHalf_ok h1 (.agg #[.int .i64 (n : Int), b]) n xs y z (.mk hXh1) g hyz.1 hyz.2 (by rw [← hLe]; intro e; rw [e] at h1L; simp at h1L)
    rw [← hLe, hi1'] at hah
    refine callG_c (by simp) (by simp) ?ha (hah) ?_
    (case ha => simp (disch := first | omega | (simp; done) | fail) [wrap64c, if_pos, if_neg, opAnd, opOr, opXor, opDiff, opShr, opBit, g_h0, e1, e2, e3, e4, e9, e10, e11, g1, hM1, hln1, g2, h1L])
    try simp (disch := first | omega | (simp; done) | fail) [wrap64c, if_pos, if_neg, opAnd, opOr, opXor, opDiff, opShr, opBit, g_h0, e1, e2, e3, e4, e9, e10, e11, g1, hM1, hln1, g2, h1L]
    obtain ⟨u2, h2, hap, hu2, ha2, hn2, hs2⟩ := appI hu1 (i : Int) (by simp; omega) hn1 A1 (Nat.le_refl _)
    try simp (disch := first | omega | (simp; done) | fail) [wrap64c, if_pos, if_neg, opAnd, opOr, opXor, opDiff, opShr, opBit, g_h0, e1, e2, e3, e4, e9, e10, e11, g1, hM1, hln1, g2, h1L, hap]
    refine callG_c (by simp) (by simp) ?ha (spIn_ok h2 set i (by omega) (by omega)) ?_
    (case ha => simp (disch := first | omega | (simp; done) | fail) [wrap64c, if_pos, if_neg, opAnd, opOr, opXor, opDiff, opShr, opBit, g_h0, e1, e2, e3, e4, e9, e10, e11, g1, hM1, hln1, g2, h1L])
    cases hsb : set.testBit i
    · rw [hsb] at hr
      have hin' : set ∈ lacksL L i := List.mem_filter.2 ⟨hin, by simp [hsb]⟩
      try simp (disch := first | omega | (simp; done) | fail) [wrap64c, if_pos, if_neg, opAnd, opOr, opXor, opDiff, opShr, opBit, g_h0, e1, e2, e3, e4, e9, e10, e11, g1, hM1, hln1, g2, h1L, hsb]
      refine loopK_next _ ?hm ?hf ⟨k1, y, nOr z (bit i), acc ++ [i], u2, rfl, (by simp (disch := first | omega | (simp; done) | fail) [wrap64c, if_pos, if_neg, opAnd, opOr, opXor, opDiff, opShr, opBit, g_h0, e1, e2, e3, e4, e9, e10, e11, g1, hM1, hln1, g2, h1L, hsb] <;> omega), (by simp (disch := first | omega | (simp; done) | fail) [wrap64c, if_pos, if_neg, opAnd, opOr, opXor, opDiff, opShr, opBit, g_h0, e1, e2, e3, e4, e9, e10, e11, g1, hM1, hln1, g2, h1L, hsb] <;> omega), (by simp (disch := first | omega | (simp; done) | fail) [wrap64c, if_pos, if_neg, opAnd, opOr, opXor, opDiff, opShr, opBit, g_h0, e1, e2, e3, e4, e9, e10, e11, g1, hM1, hln1, g2, h1L, hsb] <;> omega), (by first | omega | assumption | (simp (disch := first | omega | (simp; done) | fail) [wrap64c, if_pos, if_neg, opAnd, opOr, opXor, opDiff, opShr, opBit, g_h0, e1, e2, e3, e4, e9, e10, e11, g1, hM1, hln1, g2, h1L, hsb] <;> omega)), ha2, (by rw [toN_snoc]; exact hu2), (by rw [left_no, ← hLe]; omega), (by simp; omega), (by rw [left_no, ← hLe]; exact hin'), (by rw [left_no, ← hLe, hr]; simp)⟩
      (case hm => first | omega | (simp; omega))
      (case hf => simp [FrameL, g_h0, e1, e2, e3, e4, e9, e10, e11, g1, hM1, hln1, g2, h1L, hsb, f1_0, f2_0, f3_0, f4_0])
    · rw [hsb] at hr
      have hin' : set ∈ hasL L i := List.mem_filter.2 ⟨hin, hsb⟩
      try simp (disch := first | omega | (simp; done) | fail) [wrap64c, if_pos, if_neg, opAnd, opOr, opXor, opDiff, opShr, opBit, g_h0, e1, e2, e3, e4, e9, e10, e11, g1, hM1, hln1, g2, h1L, hsb]
      refine loopK_next _ ?hm ?hf ⟨k1, nOr y (bit i), z, acc ++ [i], u2, rfl, (by simp (disch := first | omega | (simp; done) | fail) [wrap64c, if_pos, if_neg, opAnd, opOr, opXor, opDiff, opShr, opBit, g_h0, e1, e2, e3, e4, e9, e10, e11, g1, hM1, hln1, g2, h1L, hsb] <;> omega), (by simp (disch := first | omega | (simp; done) | fail) [wrap64c, if_pos, if_neg, opAnd, opOr, opXor, opDiff, opShr, opBit, g_h0, e1, e2, e3, e4, e9, e10, e11, g1, hM1, hln1, g2, h1L, hsb] <;> omega), (by simp (disch := first | omega | (simp; done) | fail) [wrap64c, if_pos, if_neg, opAnd, opOr, opXor, opDiff, opShr, opBit, g_h0, e1, e2, e3, e4, e9, e10, e11, g1, hM1, hln1, g2, h1L, hsb] <;> omega), (by first | omega | assumption | (simp (disch := first | omega | (simp; done) | fail) [wrap64c, if_pos, if_neg, opAnd, opOr, opXor, opDiff, opShr, opBit, g_h0, e1, e2, e3, e4, e9, e10, e11, g1, hM1, hln1, g2, h1L, hsb] <;> omega)), ha2, (by rw [toN_snoc]; exact hu2), (by rw [left_yes, ← hLe]; omega), (by simp; omega), (by rw [left_yes, ← hLe]; exact hin'), (by rw [left_yes, ← hLe, hr]; simp)⟩
      (case hm => first | omega | (simp; omega))
      (case hf => simp [FrameL, g_h0, e1, e2, e3, e4, e9, e10, e11, g1, hM1, hln1, g2, h1L, hsb, f1_0, f2_0, f3_0, f4_0])
  · have hon : openN L = [] := by
      apply Classical.byContradiction
      intro hn
      exact h1L (hop.1 hn)
    rw [runF_nil (L := L) (by rw [halfN_nil hon]; omega), List.append_nil] at hr
    try simp (disch := first | omega | (simp; done) | fail) [wrap64c, if_pos, if_neg, opAnd, opOr, opXor, opDiff, opShr, opBit, g_h0, e1, e2, e3, e4, e9, e10, e11, g1, hM1, hln1, g2, h1L]
    refine done_ret rfl ⟨k_h0.trans A1, ?_⟩
    rw [hr]
    exact (hu1.own (by simp; omega)).sub fun o ho => ⟨by have := ho.1; omega, ho.2⟩
theorem ia_upd {n : Nat} {S : Nat → Prop} {h h' : Hp} {v : Value} {xs : List Int} (hs : IntsA n h v xs) (hu : Upd S h h') (ho : ∀ o, S o → o < n) : IntsA n h' v xs := by
  rcases hs with ⟨e1, e2⟩ | ⟨o, ex, rfl, q1, q2, q3⟩
  · exact .inl ⟨e1, e2⟩
  · exact .inr ⟨o, ex, rfl, q1, Nat.lt_of_lt_of_le q2 hu.1, by rw [hu.2 o q2 (fun hf => by have := ho o hf; omega)]; exact q3⟩
theorem wr_mid {S : Nat → Prop} {h h' : Hp} (k : Wr S h h') : Adds ⟨h'.get, h.next⟩ h' := ⟨⟨k.upd.1, fun _ _ => rfl⟩, fun o h1 h2 hl => k.new o h1 h2 hl⟩
theorem wr_app {S : Nat → Prop} {h h' h2 : Hp} (k : Wr S h h') (a : Adds ⟨h'.get, h.next⟩ h2) : Wr S h h2 where
  upd := ⟨a.1.1, fun o ho hs => (a.1.2 o ho).trans (k.upd.2 o ho hs)⟩
  own o ho hs hl := by
    have e : h2.get o = h'.get o := a.1.2 o ho
    rw [e] at hl ⊢
    exact k.own o ho hs hl
  new o h1 h2 hl := a.2 o h1 h2 hl
theorem run_ok (ask : List Nat → Int) (hask : ∀ L, ask L < 0 ∨ ∃ i, ask L = (i : Nat) ∧ i ∈ openN L) (fid : Nat) (recv : Value) (S : Nat → Prop) (P : Hp → Prop) (base : Nat) (xs : List Nat)
    (hstab : ∀ h h', P h → base ≤ h.next → h.next ≤ h'.next → (∀ o, o < base → h'.get o = h.get o) → P h')
    (hf : ∀ h (y z : Nat), P h → base ≤ h.next → y < 128 → z < 128 → ∃ v h', CallOK Try.prog fid #[recv, .int .i64 (y : Int), .int .i64 (z : Int)] h v h' ∧ v = .int .i64 (ask (leftN xs y z)) ∧ Wr S h h' ∧ P h')
    (hS : ∀ o, S o → o < base) (hfn : fnOK Try.prog fid = true) (h : Hp) (hP : P h) (hb : base ≤ h.next) (set : Nat) (hset : set < 128) (hl : xs.length < 2 ^ 39) :
    ∃ v' h', CallOK Try.prog 165 #[.int .i64 (set : Int), .func (.func fid) #[recv] #[]] h v' h' ∧ Wr S h h' ∧ P h' ∧ IntsO (Btw h.next h'.next) h' v' (toN (runF ask set xs.length xs)) := by
  refine callY_L (args := [.int .i64 (set : Int), .func (.func fid) #[recv] #[]]) 38 _ [.tmp 4] Try.func165 rfl rfl rfl ?_
  have hfn1 := hfn
  try simp (disch := first | omega | (simp; done) | fail) [wrap64c, if_pos, if_neg, opAnd, opOr, opXor, opDiff, opShr, opBit, hfn1]
  first | refine WY_heap fun h0 q_h0 => ?_ | refine callG_heap fun h0 q_h0 => ?_ | refine callP_heap fun h0 q_h0 => ?_ | refine callS_heap fun h0 q_h0 => ?_ | refine RY_heap fun h0 q_h0 => ?_ | refine PY_heap fun h0 q_h0 => ?_ | refine SY_heap fun h0 q_h0 => ?_ | refine doneY_heap fun h0 q_h0 => ?_ | refine loopK_heap fun h0 q_h0 => ?_ | refine thenY_heap fun h0 q_h0 => ?_ | refine thenM_heap fun h0 q_h0 => ?_
  have k0 : Adds h h0 := by rw [q_h0]; exact (by first | exact aK | exact kK)
  have W0 : Wr S h h0 := .of_adds k0
  have P0 : P h0 := hstab h h0 hP hb k0.1.1 fun o ho => k0.1.2 o (by omega)
  have hn0 : h0.next = h.next + 1 := by rw [q_h0]; simp
  have hgz : h0.get h.next = .cells [] true true 1 := by rw [q_h0]; simp
  obtain ⟨_, h1, hc1, rfl, W1, P1⟩ := hf h0 0 0 P0 (by omega) (by omega) (by omega)
  refine callG_f (fst := #[recv]) (cap := #[]) (by simp) (by simp) ?hf ?hk ?ha (hc1) ?_
  (case hf => simp (disch := first | omega | (simp; done) | fail) [wrap64c, if_pos, if_neg, opAnd, opOr, opXor, opDiff, opShr, opBit, hfn1]; try rfl)
  (case hk => simp (disch := first | omega | (simp; done) | fail) [wrap64c, if_pos, if_neg, opAnd, opOr, opXor, opDiff, opShr, opBit, hfn1])
  (case ha => simp (disch := first | omega | (simp; done) | fail) [wrap64c, if_pos, if_neg, opAnd, opOr, opXor, opDiff, opShr, opBit, hfn1])
  have hgz1 : h1.get h.next = .cells [] true true 1 := by rw [W1.upd.2 _ (by rw [q_h0]; simp) (fun hs => by have := hS _ hs; omega)]; exact hgz
  have hn1 := W1.upd.1
  try simp (disch := first | omega | (simp; done) | fail) [wrap64c, if_pos, if_neg, opAnd, opOr, opXor, opDiff, opShr, opBit, hfn1]
  refine WD_loopC [0, 1] (fun m tm h' => ∃ k y z acc u, m = k + 0 * (leftN xs y z).length ∧ tm 5 = u ∧ tm 6 = .int .i64 (y : Int) ∧ tm 7 = .int .i64 (z : Int) ∧ tm 8 = .int .i64 (ask (leftN xs y z)) ∧ (y < 128 ∧ z < 128) ∧ (Wr S h h') ∧ (P h') ∧ (IntsA h.next h' u (toN acc)) ∧ ((leftN xs y z).length ≤ k) ∧ (acc.length + k = xs.length) ∧ (runF ask set xs.length xs = acc ++ runF ask set k (leftN xs y z))) _ ⟨xs.length, 0, 0, [], _, rfl, (by simp (disch := first | omega | (simp; done) | fail) [wrap64c, if_pos, if_neg, opAnd, opOr, opXor, opDiff, opShr, opBit, hfn1]), (by simp (disch := first | omega | (simp; done) | fail) [wrap64c, if_pos, if_neg, opAnd, opOr, opXor, opDiff, opShr, opBit, hfn1]), (by simp (disch := first | omega | (simp; done) | fail) [wrap64c, if_pos, if_neg, opAnd, opOr, opXor, opDiff, opShr, opBit, hfn1]), (by simp (disch := first | omega | (simp; done) | fail) [wrap64c, if_pos, if_neg, opAnd, opOr, opXor, opDiff, opShr, opBit, hfn1]), (by first | omega | assumption | (simp (disch := first | omega | (simp; done) | fail) [wrap64c, if_pos, if_neg, opAnd, opOr, opXor, opDiff, opShr, opBit, hfn1] <;> omega)), (W0.trans W1), P1, (.lit (ex := true) (Nat.le_refl _) (by omega) hgz1), (by rw [left_zero]; exact Nat.le_refl _), (by simp), (by rw [left_zero]; rfl)⟩ ?_
  rintro m tm h' hFr ⟨k, y, z, acc, u, rfl, e5, e6, e7, e8, hyz, hW, hPP, hu, hk, hak, hr⟩
  simp only [FrameL] at hFr
  obtain ⟨f0_0, f1_0, -⟩ := hFr
  try simp (disch := first | omega | (simp; done) | fail) [wrap64c, if_pos, if_neg, opAnd, opOr, opXor, opDiff, opShr, opBit, hfn1] at f0_0 f1_0
  have e0 := f0_0
  have e1 := f1_0
  obtain ⟨L, hLe⟩ : ∃ L, L = leftN xs y z := ⟨_, rfl⟩
  rw [← hLe] at hk hr e8
  have hn2 := hW.upd.1
  rcases hask L with hneg | ⟨i, hi1, hi2⟩
  · have hneg' : ¬ (0 ≤ ask L) := by omega
    rw [runF_nil (L := L) hneg, List.append_nil] at hr
    try simp (disch := first | omega | (simp; done) | fail) [wrap64c, if_pos, if_neg, opAnd, opOr, opXor, opDiff, opShr, opBit, hfn1, e0, e1, e5, e6, e7, e8, hneg']
    refine done_ret rfl ⟨hW, hPP, ?_⟩
    rw [hr]
    exact hu.own (by simp; omega)
  · have hi7 : i < 7 := (mem_openK.1 hi2).1
    have hlen := has_len (mem_openK.1 hi2).2
    obtain ⟨k1, hk1⟩ : ∃ q, k = q + 1 := ⟨k - 1, by omega⟩
    rw [hk1, runF_cons hi1] at hr
    rw [hi1] at e8
    have hb7 := bit_lt7 hi7
    have hy2 := nOr128 (b := bit i) hyz.1 (by omega)
    have hz2 := nOr128 (b := bit i) hyz.2 (by omega)
    have hsl := nShr_le set i
    have h01 := nShr_and01 set i
    try simp (disch := first | omega | (simp; done) | fail) [wrap64c, if_pos, if_neg, opAnd, opOr, opXor, opDiff, opShr, opBit, hfn1, e0, e1, e5, e6, e7, e8]
    obtain ⟨u2, h2, hap, hu2, ha2, hn3, hs2⟩ := appI hu (i : Int) (by simp; omega) hn2 (wr_mid hW) (Nat.le_refl _)
    have W2 := wr_app hW ha2
    have P2 : P h2 := hstab h' h2 hPP (by omega) (by omega) fun o ho => ha2.1.2 o (by show o < h.next; omega)
    cases hsb : set.testBit i
    · have h3 : nAnd (nShr set i) 1 = 0 := by rw [h01, hsb]; rfl
      rw [hsb] at hr
      try simp (disch := first | omega | (simp; done) | fail) [wrap64c, if_pos, if_neg, opAnd, opOr, opXor, opDiff, opShr, opBit, hfn1, e0, e1, e5, e6, e7, e8, h3, hap]
      obtain ⟨_, h3', hc3, rfl, W3, P3⟩ := hf h2 y (nOr z (bit i)) P2 (by omega) hyz.1 hz2
      refine callG_f (fst := #[recv]) (cap := #[]) (by simp) (by simp) ?hf ?hk ?ha (hc3) ?_
      (case hf => simp (disch := first | omega | (simp; done) | fail) [wrap64c, if_pos, if_neg, opAnd, opOr, opXor, opDiff, opShr, opBit, hfn1, e0, e1, e5, e6, e7, e8, h3]; try rfl)
      (case hk => simp (disch := first | omega | (simp; done) | fail) [wrap64c, if_pos, if_neg, opAnd, opOr, opXor, opDiff, opShr, opBit, hfn1, e0, e1, e5, e6, e7, e8, h3])
      (case ha => simp (disch := first | omega | (simp; done) | fail) [wrap64c, if_pos, if_neg, opAnd, opOr, opXor, opDiff, opShr, opBit, hfn1, e0, e1, e5, e6, e7, e8, h3])
      try simp (disch := first | omega | (simp; done) | fail) [wrap64c, if_pos, if_neg, opAnd, opOr, opXor, opDiff, opShr, opBit, hfn1, e0, e1, e5, e6, e7, e8, h3]
      refine loopK_next _ ?hm ?hf ⟨k1, y, nOr z (bit i), acc ++ [i], u2, rfl, (by simp (disch := first | omega | (simp; done) | fail) [wrap64c, if_pos, if_neg, opAnd, opOr, opXor, opDiff, opShr, opBit, hfn1, e0, e1, e5, e6, e7, e8, h3] <;> omega), (by simp (disch := first | omega | (simp; done) | fail) [wrap64c, if_pos, if_neg, opAnd, opOr, opXor, opDiff, opShr, opBit, hfn1, e0, e1, e5, e6, e7, e8, h3] <;> omega), (by simp (disch := first | omega | (simp; done) | fail) [wrap64c, if_pos, if_neg, opAnd, opOr, opXor, opDiff, opShr, opBit, hfn1, e0, e1, e5, e6, e7, e8, h3] <;> omega), (by simp (disch := first | omega | (simp; done) | fail) [wrap64c, if_pos, if_neg, opAnd, opOr, opXor, opDiff, opShr, opBit, hfn1, e0, e1, e5, e6, e7, e8, h3] <;> omega), (by first | omega | assumption | (simp (disch := first | omega | (simp; done) | fail) [wrap64c, if_pos, if_neg, opAnd, opOr, opXor, opDiff, opShr, opBit, hfn1, e0, e1, e5, e6, e7, e8, h3] <;> omega)), (W2.trans W3), P3, (by rw [toN_snoc]; exact ia_upd hu2 W3.upd (fun o ho => by have := hS o ho; omega)), (by rw [left_no, ← hLe]; omega), (by simp; omega), (by rw [left_no, ← hLe, hr]; simp)⟩
      (case hm => first | omega | (simp; omega))
      (case hf => simp [FrameL, hfn1, e0, e1, e5, e6, e7, e8, h3, f0_0, f1_0])
    · have h3 : nAnd (nShr set i) 1 = 1 := by rw [h01, hsb]; rfl
      rw [hsb] at hr
      try simp (disch := first | omega | (simp; done) | fail) [wrap64c, if_pos, if_neg, opAnd, opOr, opXor, opDiff, opShr, opBit, hfn1, e0, e1, e5, e6, e7, e8, h3, hap]
      obtain ⟨_, h3', hc3, rfl, W3, P3⟩ := hf h2 (nOr y (bit i)) z P2 (by omega) hy2 hyz.2
      refine callG_f (fst := #[recv]) (cap := #[]) (by simp) (by simp) ?hf ?hk ?ha (hc3) ?_
      (case hf => simp (disch := first | omega | (simp; done) | fail) [wrap64c, if_pos, if_neg, opAnd, opOr, opXor, opDiff, opShr, opBit, hfn1, e0, e1, e5, e6, e7, e8, h3]; try rfl)
      (case hk => simp (disch := first | omega | (simp; done) | fail) [wrap64c, if_pos, if_neg, opAnd, opOr, opXor, opDiff, opShr, opBit, hfn1, e0, e1, e5, e6, e7, e8, h3])
      (case ha => simp (disch := first | omega | (simp; done) | fail) [wrap64c, if_pos, if_neg, opAnd, opOr, opXor, opDiff, opShr, opBit, hfn1, e0, e1, e5, e6, e7, e8, h3])
      try simp (disch := first | omega | (simp; done) | fail) [wrap64c, if_pos, if_neg, opAnd, opOr, opXor, opDiff, opShr, opBit, hfn1, e0, e1, e5, e6, e7, e8, h3]
      refine loopK_next _ ?hm ?hf ⟨k1, nOr y (bit i), z, acc ++ [i], u2, rfl, (by simp (disch := first | omega | (simp; done) | fail) [wrap64c, if_pos, if_neg, opAnd, opOr, opXor, opDiff, opShr, opBit, hfn1, e0, e1, e5, e6, e7, e8, h3] <;> omega), (by simp (disch := first | omega | (simp; done) | fail) [wrap64c, if_pos, if_neg, opAnd, opOr, opXor, opDiff, opShr, opBit, hfn1, e0, e1, e5, e6, e7, e8, h3] <;> omega), (by simp (disch := first | omega | (simp; done) | fail) [wrap64c, if_pos, if_neg, opAnd, opOr, opXor, opDiff, opShr, opBit, hfn1, e0, e1, e5, e6, e7, e8, h3] <;> omega), (by simp (disch := first | omega | (simp; done) | fail) [wrap64c, if_pos, if_neg, opAnd, opOr, opXor, opDiff, opShr, opBit, hfn1, e0, e1, e5, e6, e7, e8, h3] <;> omega), (by first | omega | assumption | (simp (disch := first | omega | (simp; done) | fail) [wrap64c, if_pos, if_neg, opAnd, opOr, opXor, opDiff, opShr, opBit, hfn1, e0, e1, e5, e6, e7, e8, h3] <;> omega)), (W2.trans W3), P3, (by rw [toN_snoc]; exact ia_upd hu2 W3.upd (fun o ho => by have := hS o ho; omega)), (by rw [left_yes, ← hLe]; omega), (by simp; omega), (by rw [left_yes, ← hLe, hr]; simp)⟩
      (case hm => first | omega | (simp; omega))
      (case hf => simp [FrameL, hfn1, e0, e1, e5, e6, e7, e8, h3, f0_0, f1_0])
@[simp] theorem adds_allocM {h h' : Hp} (k : Adds h h') (es : List (Value × Value)) : Adds h (h'.alloc (.map es)) := k.trans (Adds.alloc _ fun _ => rfl)
theorem newAsker_ok (h : Hp) (v : Value) (N : Int) (X : List Int) (hv : Space h v N X) : ∃ v' h', CallOK Try.prog 156 #[v] h v' h' ∧ ∃ o p q b, v' = .pointer (some ⟨o, 0, none⟩) ∧ Adds h h' ∧
    (h.next ≤ p ∧ p < q ∧ q < o ∧ o < h'.next) ∧ h'.get o = .cells [.int .i64 N, b, .map (some p), .map (some q)] true true 1 ∧ h'.get p = .map [] ∧ h'.get q = .map [] ∧ IntsF (fun x => x < h.next) h' b X := by
  refine callY_L (args := [v]) 8 _ [.tmp 2] Try.func156 rfl rfl rfl ?_
  obtain ⟨b, rfl, hX⟩ := hv
  have nt := hX.nt
  have cs := hX.cs
  try simp (disch := first | omega | (simp; done) | fail) [wrap64c, if_pos, if_neg, opAnd, opOr, opXor, opDiff, opShr, opBit, nt, cs]
  first | refine WY_heap fun h1 q_h1 => ?_ | refine callG_heap fun h1 q_h1 => ?_ | refine callP_heap fun h1 q_h1 => ?_ | refine callS_heap fun h1 q_h1 => ?_ | refine RY_heap fun h1 q_h1 => ?_ | refine PY_heap fun h1 q_h1 => ?_ | refine SY_heap fun h1 q_h1 => ?_ | refine doneY_heap fun h1 q_h1 => ?_ | refine loopK_heap fun h1 q_h1 => ?_ | refine thenY_heap fun h1 q_h1 => ?_ | refine thenM_heap fun h1 q_h1 => ?_
  have k1 : Adds h h1 := by rw [q_h1]; exact (by first | exact aK | exact kK)
  refine done_ret rfl ⟨h.next + 3, h.next + 1, h.next + 2, b, by simp, k1, ⟨by omega, by omega, by omega, by simp [q_h1]⟩, by simp [q_h1], by simp [q_h1], by simp [q_h1], hX.old.keep k1.1⟩
noncomputable def halfR (N : Int) (X : List Int) (a : Int) : List Int := if oneB N X a = true then toN (runF halfN a.toNat X.length (natsOf X)) else []
theorem specHalf_ok (h : Hp) (v : Value) (N : Int) (X : List Int) (a : Int) (hv : Space h v N X) (hl : X.length < 2 ^ 40) :
    ∃ v' h', CallOK Try.prog 54 #[v, .int .i64 a] h v' h' ∧ Adds h h' ∧ ∃ u, v' = .tuple #[u, .bool (oneB N X a)] ∧ IntsO (Btw h.next h'.next) h' u (halfR N X a) := by
  refine callY_L (args := [v, .int .i64 a]) 13 _ [.tmp 4, .tmp 5] Try.func54 rfl rfl rfl ?_
  obtain ⟨b, rfl, hX⟩ := hv
  refine WD_first ?_
  try simp (disch := first | omega | (simp; done) | fail) [wrap64c, if_pos, if_neg, opAnd, opOr, opXor, opDiff, opShr, opBit]
  refine stopK_heap fun h0 q_h0 => ?_
  refine stopK_go ?_
  have g_h0 : h0.get h.next = .cells [.int .i64 N, b] true true 1 := by simp [q_h0]
  have k_h0 : Adds h h0 := by rw [q_h0]; exact (by first | exact aK | exact kK)
  have n_h0 : h.next < h0.next := by simp [q_h0]; try omega
  have hX0 := hX.keep k_h0.1
  try simp (disch := first | omega | (simp; done) | fail) [wrap64c, if_pos, if_neg, opAnd, opOr, opXor, opDiff, opShr, opBit, g_h0]
  refine callG_c (by simp) (by simp) ?ha (spOne_ok h0 (.agg #[.int .i64 N, b]) N X a (.mk hX0) hl) ?_
  (case ha => simp (disch := first | omega | (simp; done) | fail) [wrap64c, if_pos, if_neg, opAnd, opOr, opXor, opDiff, opShr, opBit, g_h0])
  cases c1 : oneB N X a
  · try simp (disch := first | omega | (simp; done) | fail) [wrap64c, if_pos, if_neg, opAnd, opOr, opXor, opDiff, opShr, opBit, g_h0, c1]
    refine done_ret rfl ⟨k_h0, _, by simp [c1]; rfl, ?_⟩
    rw [halfR, if_neg (by simp [c1])]
    exact .nil _ _
  · obtain ⟨n, xs, x, hN, hXe, hae, g, hx⟩ := oneB_true c1
    have hNt : N = (n : Int) := hN
    have hat : a = (x : Int) := hae
    have hX1 : Ints h0 b (toN xs) := hXe ▸ hX0
    try simp (disch := first | omega | (simp; done) | fail) [wrap64c, if_pos, if_neg, opAnd, opOr, opXor, opDiff, opShr, opBit, g_h0, c1, hNt, hat]
    obtain ⟨u, h1, hc1, ha1, hi1⟩ := asRunH_ok h0 (.agg #[.int .i64 (n : Int), b]) n xs x (.mk hX1) g hx
    refine callG_c (by simp) (by simp) ?ha (hc1) ?_
    (case ha => simp (disch := first | omega | (simp; done) | fail) [wrap64c, if_pos, if_neg, opAnd, opOr, opXor, opDiff, opShr, opBit, g_h0, c1, hNt, hat])
    try simp (disch := first | omega | (simp; done) | fail) [wrap64c, if_pos, if_neg, opAnd, opOr, opXor, opDiff, opShr, opBit, g_h0, c1, hNt, hat]
    refine done_ret rfl ⟨k_h0.trans ha1, _, by simp [c1]; rfl, ?_⟩
    rw [halfR, if_pos c1, hXe, hae, natsOf_toN, toN_length, Int.toNat_natCast]
    exact hi1.sub fun o ho => ⟨by have := ho.1; omega, ho.2⟩
theorem implHalf_ok (h : Hp) (v : Value) (N : Int) (X : List Int) (a : Int) (hv : Space h v N X) (hl : X.length < 2 ^ 40) :
    ∃ v' h', CallOK Try.prog 53 #[v, .int .i64 a] h v' h' ∧ Adds h h' ∧ ∃ u, v' = .tuple #[u, .bool (oneB N X a)] ∧ IntsO (Btw h.next h'.next) h' u (halfR N X a) := by
  refine callY_L (args := [v, .int .i64 a]) 15 _ [.tmp 4, .tmp 5] Try.func53 rfl rfl rfl ?_
  obtain ⟨b, rfl, hX⟩ := hv
  refine WD_first ?_
  try simp (disch := first | omega | (simp; done) | fail) [wrap64c, if_pos, if_neg, opAnd, opOr, opXor, opDiff, opShr, opBit]
  refine stopK_heap fun h0 q_h0 => ?_
  refine stopK_go ?_
  have g_h0 : h0.get h.next = .cells [.int .i64 N, b] true true 1 := by simp [q_h0]
  have k_h0 : Adds h h0 := by rw [q_h0]; exact (by first | exact aK | exact kK)
  have n_h0 : h.next < h0.next := by simp [q_h0]; try omega
  have hX0 := hX.keep k_h0.1
  try simp (disch := first | omega | (simp; done) | fail) [wrap64c, if_pos, if_neg, opAnd, opOr, opXor, opDiff, opShr, opBit, g_h0]
  refine callG_c (by simp) (by simp) ?ha (isKnown_ok h0 (.agg #[.int .i64 N, b]) N X a (.mk hX0) hl) ?_
  (case ha => simp (disch := first | omega | (simp; done) | fail) [wrap64c, if_pos, if_neg, opAnd, opOr, opXor, opDiff, opShr, opBit, g_h0])
  cases c1 : oneB N X a
  · try simp (disch := first | omega | (simp; done) | fail) [wrap64c, if_pos, if_neg, opAnd, opOr, opXor, opDiff, opShr, opBit, g_h0, c1]
    refine done_ret rfl ⟨k_h0, _, by simp [c1]; rfl, ?_⟩
    rw [halfR, if_neg (by simp [c1])]
    exact .nil _ _
  · obtain ⟨n, xs, x, hN, hXe, hae, g, hx⟩ := oneB_true c1
    have hNt : N = (n : Int) := hN
    have hat : a = (x : Int) := hae
    have hX1 : Ints h0 b (toN xs) := hXe ▸ hX0
    have hl7 := g.len7
    try simp (disch := first | omega | (simp; done) | fail) [wrap64c, if_pos, if_neg, opAnd, opOr, opXor, opDiff, opShr, opBit, g_h0, c1, hNt, hat]
    obtain ⟨_, h1, hc1, o, p, q, b1, rfl, ha1, hopq, hgo, hgp, hgq, hb1⟩ := newAsker_ok h0 (.agg #[.int .i64 (n : Int), b]) n (toN xs) (.mk hX1)
    refine callG_c (by simp) (by simp) ?ha (hc1) ?_
    (case ha => simp (disch := first | omega | (simp; done) | fail) [wrap64c, if_pos, if_neg, opAnd, opOr, opXor, opDiff, opShr, opBit, g_h0, c1, hNt, hat])
    try simp (disch := first | omega | (simp; done) | fail) [wrap64c, if_pos, if_neg, opAnd, opOr, opXor, opDiff, opShr, opBit, g_h0, c1, hNt, hat]
    have hask : ∀ L : List Nat, halfN L < 0 ∨ ∃ i, halfN L = (i : Nat) ∧ i ∈ openN L := fun L => by
      by_cases he : openN L = []
      · left; rw [halfN_nil he]; omega
      · right; exact halfN_mem he
    obtain ⟨u, h2, hc2, W2, P2, hi2⟩ := run_ok halfN hask 167 (.pointer (some ⟨o, 0, none⟩)) (fun _ => False) (fun h' => h'.get o = .cells [.int .i64 (n : Int), b1, .map (some p), .map (some q)] true true 1 ∧ IntsF (fun x => x < h1.next) h' b1 (toN xs)) h1.next xs
      (fun h' h'' hp hb1' hb2 hs => ⟨by rw [hs o hopq.2.2.2]; exact hp.1, hp.2.same ⟨hb2, fun q hq _ => hs q hq⟩⟩)
      (fun h' y z hp hb hy hz => ⟨_, h', half_ok h' o n b1 (.map (some p)) (.map (some q)) true true 1 xs y z (by omega) hp.1 hp.2.ints g.lt7 (by omega) hy hz, rfl, Wr.refl _ _, hp⟩)
      (fun _ hf => hf.elim) (by simp) h1 ⟨hgo, hb1.sub fun x hx => by omega⟩ (Nat.le_refl _) x (g.lt7 _ hx) (by omega)
    refine callG_c (by simp) (by simp) ?ha (hc2) ?_
    (case ha => simp (disch := first | omega | (simp; done) | fail) [wrap64c, if_pos, if_neg, opAnd, opOr, opXor, opDiff, opShr, opBit, g_h0, c1, hNt, hat])
    try simp (disch := first | omega | (simp; done) | fail) [wrap64c, if_pos, if_neg, opAnd, opOr, opXor, opDiff, opShr, opBit, g_h0, c1, hNt, hat]
    have A2 : Adds h1 h2 := ⟨⟨W2.upd.1, fun o ho => W2.upd.2 o ho (fun hf => hf)⟩, W2.new⟩
    refine done_ret rfl ⟨(k_h0.trans ha1).trans A2, _, by simp [c1]; rfl, ?_⟩
    rw [halfR, if_pos c1, hXe, hae, natsOf_toN, toN_length, Int.toNat_natCast]
    exact hi2.sub fun o ho => ⟨by have := ho.1; have := ha1.1.1; omega, ho.2⟩
end Go.Proofs.Ytnncipcldbopgaa
namespace Go.Proofs.Ytnncipcldbopgaa
set_option linter.unusedSimpArgs false
set_option linter.unusedVariables false
set_option maxHeartbeats 4000000
open Go Go.Eng
attribute [local irreducible] WD RunD PreD Runs CallOK
structure SLn (n : Nat) (L : List Nat) : Prop where
  n7 : n ≤ 7
  srt : L.Pairwise (· < ·)
  lt : ∀ x ∈ L, x < bit n
theorem SpGood.sl {n : Nat} {xs : List Nat} (g : SpGood n xs) : SLn n xs := ⟨g.n7, g.srt, g.lt⟩
theorem SLn.left {n : Nat} {L : List Nat} (s : SLn n L) (y z : Nat) : SLn n (leftN L y z) := ⟨s.n7, left_srt s.srt y z, fun x hx => s.lt x (left_sub hx)⟩
theorem SLn.open1 {n : Nat} {L : List Nat} (s : SLn n L) : openN L ≠ [] ↔ 1 < L.length := open_ne s.n7 s.srt s.lt
theorem minL_mem_le : ∀ {l : List Nat} {x : Nat}, x ∈ l → minL l ≤ x := by
  intro l x hx
  cases l with
  | nil => cases hx
  | cons a l =>
    have : ∀ (l : List Nat) (a : Nat), l.foldl min a ≤ a ∧ ∀ x ∈ l, l.foldl min a ≤ x := by
      intro l
      induction l with
      | nil => intro a; exact ⟨Nat.le_refl _, fun x hx => by cases hx⟩
      | cons c l ih =>
        intro a
        have h := ih (min a c)
        rw [List.foldl_cons]
        refine ⟨by omega, fun x hx => ?_⟩
        rcases List.mem_cons.1 hx with rfl | hx
        · omega
        · exact h.2 x hx
    have h := this l a
    rw [minL]
    rcases List.mem_cons.1 hx with rfl | hx
    · exact h.1
    · exact h.2 x hx
theorem worst_le_ask {L : List Nat} {i : Nat} (hi : i ∈ openN L) : worstN L ≤ askN L i := by
  rw [worstN_eq]
  exact minL_mem_le (List.mem_map_of_mem hi)
theorem worst_none {L : List Nat} (h : openN L = []) : worstN L = 0 := by rw [worstN_eq, h]; rfl
theorem SLn.worst0 {n : Nat} {L : List Nat} (s : SLn n L) : worstN L = 0 ↔ L.length ≤ 1 := by
  constructor
  · intro h
    apply Classical.byContradiction
    intro hn
    obtain ⟨i, _, hi, ha⟩ := bestN_mem (s.open1.2 (by omega))
    rw [h] at ha
    unfold askN at ha
    omega
  · intro h
    apply worst_none
    apply Classical.byContradiction
    intro hn
    have := s.open1.1 hn
    omega
theorem open_filter (L : List Nat) (q : Nat → Bool) : openN (L.filter q) = (openN L).filter (opB (L.filter q)) := by
  unfold openN openK
  rw [List.filter_filter]
  apply List.filter_congr
  intro i _
  cases h : opB (L.filter q) i
  · rfl
  · obtain ⟨⟨x, hx, hb⟩, ⟨y, hy, hc⟩⟩ := opB_iff.1 h
    have : opB L i = true := opB_iff.2 ⟨⟨x, (List.mem_filter.1 hx).1, hb⟩, ⟨y, (List.mem_filter.1 hy).1, hc⟩⟩
    rw [this]; rfl
theorem run_worst (x : Nat) : ∀ (k : Nat) (L : List Nat), (runF bestN x k L).length ≤ worstN L
  | 0, L => Nat.zero_le _
  | k + 1, L => by
    by_cases he : openN L = []
    · rw [runF_nil (by rw [bestN_nil he]; decide)]; exact Nat.zero_le _
    · obtain ⟨i, hb, hi, ha⟩ := bestN_mem he
      rw [runF_cons hb, List.length_cons, ← ha]
      unfold askN
      have h1 := run_worst x k (hasL L i)
      have h2 := run_worst x k (lacksL L i)
      split <;> omega
def totF : Nat → List Nat → Nat
  | 0, _ => 0
  | k + 1, L => minL ((openN L).map fun i => L.length + totF k (hasL L i) + totF k (lacksL L i))
def totN (L : List Nat) : Nat := totF L.length L
theorem totF_nil : ∀ k, totF k [] = 0
  | 0 => rfl
  | k + 1 => by rw [totF, open_nil [] rfl]; rfl
theorem totF_same : ∀ (m k : Nat) (L : List Nat), L.length ≤ m → L.length ≤ k → totF m L = totF k L
  | 0, k, L, h1, h2 => by
    have : L = [] := List.length_eq_zero_iff.1 (by omega)
    subst this; rw [totF_nil, totF_nil]
  | m + 1, 0, L, h1, h2 => by
    have : L = [] := List.length_eq_zero_iff.1 (by omega)
    subst this; rw [totF_nil, totF_nil]
  | m + 1, k + 1, L, h1, h2 => by
    rw [totF, totF]
    congr 1
    apply List.map_congr_left
    intro i hi
    obtain ⟨g1, g2, _⟩ := has_len (mem_openK.1 hi).2
    rw [totF_same m k _ (by omega) (by omega), totF_same m k _ (by omega) (by omega)]
def tasN (L : List Nat) (i : Nat) : Nat := L.length + totN (hasL L i) + totN (lacksL L i)
theorem totN_eq (L : List Nat) : totN L = minL ((openN L).map (tasN L)) := by
  unfold totN
  cases hk : L.length with
  | zero =>
    have : L = [] := List.length_eq_zero_iff.1 hk
    subst this; rfl
  | succ k =>
    rw [totF]
    congr 1
    apply List.map_congr_left
    intro i hi
    obtain ⟨g1, g2, _⟩ := has_len (mem_openK.1 hi).2
    unfold tasN totN
    rw [totF_same k _ _ (by omega) (Nat.le_refl _), totF_same k _ (lacksL L i) (by omega) (Nat.le_refl _)]
theorem tot_none {L : List Nat} (h : openN L = []) : totN L = 0 := by rw [totN_eq, h]; rfl
theorem tot_at {L : List Nat} (h : openN L ≠ []) : ∃ i ∈ openN L, totN L = tasN L i := by
  have h1 := minL_mem (l := (openN L).map (tasN L)) (by simpa using h)
  rw [← totN_eq] at h1
  obtain ⟨i, hi, he⟩ := List.mem_map.1 h1
  exact ⟨i, hi, he.symm⟩
def nbF (L : List Nat) (x : Nat) : Nat := ((List.range 7).filter fun i => decide (nXor x (bit i) ∈ L)).length
end Go.Proofs.Ytnncipcldbopgaa
namespace Go.Proofs.Ytnncipcldbopgaa
set_option linter.unusedSimpArgs false
set_option linter.unusedVariables false
set_option maxHeartbeats 4000000
open Go Go.Eng
attribute [local irreducible] WD RunD PreD Runs CallOK
def keyV (y z : Nat) : Value := .agg #[.int .i64 (y : Int), .int .i64 (z : Int)]
theorem keyV_ok (y z : Nat) : isKey 2 (.agg #[.int .i64 (y : Int), .int .i64 (z : Int)]) = true := rfl
def MemOK (xs : List Nat) (es : List (Value × Value)) : Prop := ∀ e ∈ es, ∃ y z : Nat, e.1 = keyV y z ∧ e.2 = .int .i64 ((worstN (leftN xs y z) : Nat) : Int)
theorem MemOK.keys {xs : List Nat} {es : List (Value × Value)} (h : MemOK xs es) : keysOK 2 es = true := by
  unfold keysOK
  rw [List.all_eq_true]
  intro e he
  obtain ⟨y, z, e1, _⟩ := h e he
  rw [e1]; rfl
theorem keyB_key {y z y' z' : Nat} : keyB (keyV y z) (keyV y' z') = true ↔ y = y' ∧ z = z' := by
  unfold keyV
  simp [keyB]
theorem MemOK.get {xs : List Nat} : ∀ {es : List (Value × Value)}, MemOK xs es → ∀ (y z : Nat), mapGet es (keyV y z) = none ∨ mapGet es (keyV y z) = some (.int .i64 ((worstN (leftN xs y z) : Nat) : Int))
  | [], _, y, z => .inl rfl
  | e :: es, h, y, z => by
    obtain ⟨y', z', e1, e2⟩ := h e (by simp)
    rw [mapGet]
    by_cases hk : keyB e.1 (keyV y z) = true
    · rw [if_pos hk]
      right
      rw [e1] at hk
      obtain ⟨rfl, rfl⟩ := keyB_key.1 hk
      rw [e2]
    · rw [if_neg hk]
      exact MemOK.get (fun e he => h e (by simp [he])) y z
theorem MemOK.put {xs : List Nat} : ∀ {es : List (Value × Value)}, MemOK xs es → ∀ (y z : Nat), MemOK xs (mapPut es (keyV y z) (.int .i64 ((worstN (leftN xs y z) : Nat) : Int)))
  | [], _, y, z => by
    intro e he
    simp only [mapPut, List.mem_singleton] at he
    subst he
    exact ⟨y, z, rfl, rfl⟩
  | e :: es, h, y, z => by
    rw [mapPut]
    split
    · intro q hq
      rcases List.mem_cons.1 hq with rfl | hq
      · exact ⟨y, z, rfl, rfl⟩
      · exact h q (by simp [hq])
    · intro q hq
      rcases List.mem_cons.1 hq with rfl | hq
      · exact h q (by simp)
      · exact MemOK.put (fun e he => h e (by simp [he])) y z q hq
structure AskOK (base o p : Nat) (N : Int) (b m2 : Value) (xs : List Nat) (h : Hp) : Prop where
  ob : o < base
  pb : p < base
  ne : o ≠ p
  asker : h.get o = .cells [.int .i64 N, b, .map (some p), m2] true true 1
  ints : IntsF (fun x => x < base ∧ x ≠ p) h b (toN xs)
  mem : ∃ es, h.get p = .map es ∧ MemOK xs es
theorem AskOK.stab {base o p : Nat} {N : Int} {b m2 : Value} {xs : List Nat} {h h' : Hp} (k : AskOK base o p N b m2 xs h) (hn : h.next ≤ h'.next) (hs : ∀ q, q < base → h'.get q = h.get q) : AskOK base o p N b m2 xs h' where
  ob := k.ob
  pb := k.pb
  ne := k.ne
  asker := by rw [hs o k.ob]; exact k.asker
  ints := k.ints.same ⟨hn, fun q hq _ => hs q hq.1⟩
  mem := by obtain ⟨es, h1, h2⟩ := k.mem; exact ⟨es, by rw [hs p k.pb]; exact h1, h2⟩
theorem AskOK.adds {base o p : Nat} {N : Int} {b m2 : Value} {xs : List Nat} {h h' : Hp} (k : AskOK base o p N b m2 xs h) (hb : base ≤ h.next) (a : Adds h h') : AskOK base o p N b m2 xs h' :=
  k.stab a.1.1 fun q hq => a.1.2 q (by omega)
theorem minL_take {L : List Nat} {j : Nat} (hj : j < (openN L).length) : minL (((openN L).take (j + 1)).map (askN L)) = if j = 0 then askN L (openN L)[j] else min (minL (((openN L).take j).map (askN L))) (askN L (openN L)[j]) := by
  rw [List.take_succ_eq_append_getElem hj, List.map_append]
  simp only [List.map_cons, List.map_nil]
  rw [minL_snoc]
  by_cases h0 : j = 0
  · subst h0; simp
  · rw [if_neg h0, if_neg]
    intro he
    have h1 : (((openN L).take j).map (askN L)).length = 0 := by rw [he]; rfl
    rw [List.length_map, List.length_take] at h1
    omega
theorem minL_le_of {L : List Nat} (j : Nat) : minL (((openN L).take j).map (askN L)) ≤ L.length := by
  by_cases h : ((openN L).take j).map (askN L) = []
  · rw [h]; exact Nat.zero_le _
  · refine minL_le h fun x hx => ?_
    obtain ⟨i, hi, rfl⟩ := List.mem_map.1 hx
    exact askN_le (mem_openK.1 (List.mem_of_mem_take hi)).2
theorem least_ok (base o p : Nat) (N : Int) (b m2 : Value) (xs : List Nat) (hx : ∀ x ∈ xs, x < 128) (hl : xs.length < 2 ^ 39) : ∀ (m : Nat) (h : Hp) (y z : Nat), AskOK base o p N b m2 xs h → base ≤ h.next → y < 128 → z < 128 → (leftN xs y z).length < m →
    ∃ v h', CallOK Try.prog 157 #[.pointer (some ⟨o, 0, none⟩), .int .i64 (y : Int), .int .i64 (z : Int)] h v h' ∧ v = .int .i64 ((worstN (leftN xs y z) : Nat) : Int) ∧ Wr (fun q => q = p) h h' ∧ AskOK base o p N b m2 xs h' := by
  intro m
  induction m with
  | zero => intro h y z _ _ _ _ hm; omega
  | succ m ih =>
    intro h y z hA hb hy hz hm
    refine callY_L (args := [.pointer (some ⟨o, 0, none⟩), .int .i64 (y : Int), .int .i64 (z : Int)]) 74 _ [.tmp 6] Try.func157 rfl rfl rfl ?_
    obtain ⟨es, hgp, hM⟩ := hA.mem
    have hkk := keyV_ok y z
    have hob := hA.ob
    have hpb := hA.pb
    have hwL := worstN_le (leftN xs y z)
    have hll := left_len xs y z
    try simp (disch := first | omega | (simp; done) | fail) [wrap64c, if_pos, if_neg, opAnd, opOr, opXor, opDiff, opShr, opBit, hkk, putCells]
    first | refine WY_heap fun h0 q_h0 => ?_ | refine callG_heap fun h0 q_h0 => ?_ | refine callP_heap fun h0 q_h0 => ?_ | refine callS_heap fun h0 q_h0 => ?_ | refine RY_heap fun h0 q_h0 => ?_ | refine PY_heap fun h0 q_h0 => ?_ | refine SY_heap fun h0 q_h0 => ?_ | refine doneY_heap fun h0 q_h0 => ?_ | refine loopK_heap fun h0 q_h0 => ?_ | refine thenY_heap fun h0 q_h0 => ?_ | refine thenM_heap fun h0 q_h0 => ?_
    have k0 : Adds h h0 := by rw [q_h0]; exact (by first | exact aK | exact kK)
    have n0 : h0.next = h.next + 1 := by simp [q_h0]
    have gk : h0.get h.next = .cells [.int .i64 (y : Int), .int .i64 (z : Int)] true true 1 := by simp [q_h0]
    have hA0 := hA.adds hb k0
    have ask0 := hA0.asker
    have gp0 : h0.get p = .map es := by rw [k0.1.2 p (by omega)]; exact hgp
    have hky : keysOK 2 es = true := hM.keys
    refine WD_drawC 10 rfl (by kernel_rfl) ?_
    try simp (disch := first | omega | (simp; done) | fail) [wrap64c, if_pos, if_neg, opAnd, opOr, opXor, opDiff, opShr, opBit, hkk, gk, ask0, gp0, hky]
    rcases hM.get y z with hg | hg
    · unfold keyV at hg
      have hg := hg
      try simp (disch := first | omega | (simp; done) | fail) [wrap64c, if_pos, if_neg, opAnd, opOr, opXor, opDiff, opShr, opBit, hkk, gk, ask0, gp0, hky, hg]
      obtain ⟨v1, h1, hc1, ha1, hi1⟩ := imLeft_ok h0 (.agg #[.int .i64 N, b]) N xs y z (.mk hA0.ints.ints) hx hl hy hz
      refine callG_c (by simp) (by simp) ?ha (hc1) ?_
      (case ha => simp (disch := first | omega | (simp; done) | fail) [wrap64c, if_pos, if_neg, opAnd, opOr, opXor, opDiff, opShr, opBit, hkk, gk, ask0, gp0, hky, hg])
      obtain ⟨L, hLe⟩ : ∃ L, L = leftN xs y z := ⟨_, rfl⟩
      have hLx : ∀ x ∈ L, x < 128 := fun x hm => hx x (left_sub (hLe ▸ hm))
      have hLl : L.length < 2 ^ 39 := by rw [hLe]; omega
      rw [← hLe] at hi1 hm hwL
      try simp (disch := first | omega | (simp; done) | fail) [wrap64c, if_pos, if_neg, opAnd, opOr, opXor, opDiff, opShr, opBit, hkk, gk, ask0, gp0, hky, hg]
      obtain ⟨v2, h2, hc2, ha2, hi2⟩ := open_ok h1 v1 L hi1.ints hLx hLl
      refine callG_c (by simp) (by simp) ?ha (hc2) ?_
      (case ha => simp (disch := first | omega | (simp; done) | fail) [wrap64c, if_pos, if_neg, opAnd, opOr, opXor, opDiff, opShr, opBit, hkk, gk, ask0, gp0, hky, hg])
      have n1 := ha1.1.1
      have n2 := ha2.1.1
      have hA2 := (hA0.adds (by omega) ha1).adds (by omega) ha2
      have hgt := toN_get (openN L)
      have hln := toN_length (openN L)
      have hM2 := hi2.ints.lenD
      have hol : (openN L).length ≤ 7 := openK_len L 7
      have gk2 : h2.get h.next = .cells [.int .i64 (y : Int), .int .i64 (z : Int)] true true 1 := by rw [ha2.1.2 _ (by omega), ha1.1.2 _ (by omega)]; exact gk
      try simp (disch := first | omega | (simp; done) | fail) [wrap64c, if_pos, if_neg, opAnd, opOr, opXor, opDiff, opShr, opBit, hkk, gk, ask0, gp0, hky, hg, hgt, hM2]
      refine WD_loopC [0, 1, 2, 7, 35, 36] (fun m tm h' => ∃ j, m = (openN L).length - j ∧ tm 10 = .int .i64 ((minL (((openN L).take j).map (askN L)) : Nat) : Int) ∧ tm 37 = .int .i64 (j : Int) ∧ (j ≤ (openN L).length) ∧ (Wr (fun q => q = p) h2 h') ∧ (AskOK base o p N b m2 xs h')) _ ⟨0, rfl, (by simp [minL]), (by simp (disch := first | omega | (simp; done) | fail) [wrap64c, if_pos, if_neg, opAnd, opOr, opXor, opDiff, opShr, opBit, hkk, gk, ask0, gp0, hky, hg, hgt, hM2]), (by first | omega | assumption | (simp (disch := first | omega | (simp; done) | fail) [wrap64c, if_pos, if_neg, opAnd, opOr, opXor, opDiff, opShr, opBit, hkk, gk, ask0, gp0, hky, hg, hgt, hM2] <;> omega)), (Wr.refl _ _), hA2⟩ ?_
      rintro m tm h' hFr ⟨j, rfl, e10, e37, hj, hW, hAA⟩
      simp only [FrameL] at hFr
      obtain ⟨f0_0, f1_0, f2_0, f7_0, f35_0, f36_0, -⟩ := hFr
      try simp (disch := first | omega | (simp; done) | fail) [wrap64c, if_pos, if_neg, opAnd, opOr, opXor, opDiff, opShr, opBit, hkk, gk, ask0, gp0, hky, hg, hgt, hM2] at f0_0 f1_0 f2_0 f7_0 f35_0 f36_0
      have e0 := f0_0
      have e1 := f1_0
      have e2 := f2_0
      have e7 := f7_0
      have e35 := f35_0
      have e36 := f36_0
      have hu := hW.upd
      have hv2 := (hi2.same (hu.same fun x hx hx' => by unfold Btw at hx; omega)).ints
      have gk' : h'.get h.next = .cells [.int .i64 (y : Int), .int .i64 (z : Int)] true true 1 := by rw [hu.2 _ (by omega) (by omega)]; exact gk2
      have ask' := hAA.asker
      have n3 := hu.1
      have hml := minL_le_of (L := L) j
      by_cases hlt : j < (openN L).length
      · obtain ⟨o_x, i_x, c_x, cs_x, own_x, ex_x, es_x, q_x, b_x, g_x, l_x, r_x⟩ := hv2.open ((by omega))
        have z_x : ∀ h2 : i_x < cs_x.length, cs_x[i_x] = _ := fun h2 => r_x 0 ((by omega)) h2
        obtain ⟨i, hi⟩ : ∃ i, i = (openN L)[j] := ⟨_, rfl⟩
        have hopi := (mem_openK.1 (List.getElem_mem hlt)).2
        have hi7 : i < 7 := by rw [hi]; exact (mem_openK.1 (List.getElem_mem hlt)).1
        rw [← hi] at hopi
        have hi' := hi.symm
        have hlen := has_len hopi
        have hmt := minL_take (L := L) hlt
        rw [← hi] at hmt
        have hb7 := bit_lt7 hi7
        have hy2 := nOr128 (b := bit i) hy (by omega)
        have hz2 := nOr128 (b := bit i) hz (by omega)
        have hw1 := worstN_le (hasL L i)
        have hw2 := worstN_le (lacksL L i)
        have haq : askN L i = 1 + max (worstN (hasL L i)) (worstN (lacksL L i)) := rfl
        try simp (disch := first | omega | (simp; done) | fail) [wrap64c, if_pos, if_neg, opAnd, opOr, opXor, opDiff, opShr, opBit, hkk, gk, ask0, gp0, hky, hg, hgt, hM2, e0, e1, e2, e7, e10, e35, e36, e37, gk', ask', hlt, q_x, g_x, l_x, r_x, z_x, hi']
        refine WD_chainC rfl (by kernel_rfl) (by kernel_rfl) ?_
        try simp (disch := first | omega | (simp; done) | fail) [wrap64c, if_pos, if_neg, opAnd, opOr, opXor, opDiff, opShr, opBit, hkk, gk, ask0, gp0, hky, hg, hgt, hM2, e0, e1, e2, e7, e10, e35, e36, e37, gk', ask', hlt, q_x, g_x, l_x, r_x, z_x, hi']
        obtain ⟨_, h3, hc3, rfl, W3, A3⟩ := ih h' (nOr y (bit i)) z hAA (by omega) hy2 hz (by rw [left_yes, ← hLe]; omega)
        refine callG_c (by simp) (by simp) ?ha (hc3) ?_
        (case ha => simp (disch := first | omega | (simp; done) | fail) [wrap64c, if_pos, if_neg, opAnd, opOr, opXor, opDiff, opShr, opBit, hkk, gk, ask0, gp0, hky, hg, hgt, hM2, e0, e1, e2, e7, e10, e35, e36, e37, gk', ask', hlt, q_x, g_x, l_x, r_x, z_x, hi'])
        have n4 := W3.upd.1
        rw [left_yes, ← hLe]
        try simp (disch := first | omega | (simp; done) | fail) [wrap64c, if_pos, if_neg, opAnd, opOr, opXor, opDiff, opShr, opBit, hkk, gk, ask0, gp0, hky, hg, hgt, hM2, e0, e1, e2, e7, e10, e35, e36, e37, gk', ask', hlt, q_x, g_x, l_x, r_x, z_x, hi']
        obtain ⟨_, h4, hc4, rfl, W4, A4⟩ := ih h3 y (nOr z (bit i)) A3 (by omega) hy hz2 (by rw [left_no, ← hLe]; omega)
        refine callG_c (by simp) (by simp) ?ha (hc4) ?_
        (case ha => simp (disch := first | omega | (simp; done) | fail) [wrap64c, if_pos, if_neg, opAnd, opOr, opXor, opDiff, opShr, opBit, hkk, gk, ask0, gp0, hky, hg, hgt, hM2, e0, e1, e2, e7, e10, e35, e36, e37, gk', ask', hlt, q_x, g_x, l_x, r_x, z_x, hi'])
        rw [left_no, ← hLe]
        obtain ⟨w1, hw1'⟩ : ∃ w, w = worstN (hasL L i) := ⟨_, rfl⟩
        obtain ⟨w2, hw2'⟩ : ∃ w, w = worstN (lacksL L i) := ⟨_, rfl⟩
        obtain ⟨w0, hw0⟩ : ∃ w, w = minL (((openN L).take j).map (askN L)) := ⟨_, rfl⟩
        rw [← hw1', ← hw2'] at haq
        rw [← hw1'] at hw1
        rw [← hw2'] at hw2
        rw [← hw0] at hmt hml e10
        rw [haq] at hmt
        rw [← hw1', ← hw2']
        by_cases hc12 : w1 < w2
        · try simp (disch := first | omega | (simp; done) | fail) [wrap64c, if_pos, if_neg, opAnd, opOr, opXor, opDiff, opShr, opBit, hkk, gk, ask0, gp0, hky, hg, hgt, hM2, e0, e1, e2, e7, e10, e35, e36, e37, gk', ask', hlt, q_x, g_x, l_x, r_x, z_x, hi', hc12]
          by_cases hj0 : j = 0
          · have hj0' : ((j : Int) == 0) = true := by simp [hj0]
            rw [if_pos hj0] at hmt
            try simp (disch := first | omega | (simp; done) | fail) [wrap64c, if_pos, if_neg, opAnd, opOr, opXor, opDiff, opShr, opBit, hkk, gk, ask0, gp0, hky, hg, hgt, hM2, e0, e1, e2, e7, e10, e35, e36, e37, gk', ask', hlt, q_x, g_x, l_x, r_x, z_x, hi', hc12, hj0']
            refine loopK_next _ ?hm ?hf ⟨j + 1, rfl, (by rw [hmt]; simp; omega), (by simp (disch := first | omega | (simp; done) | fail) [wrap64c, if_pos, if_neg, opAnd, opOr, opXor, opDiff, opShr, opBit, hkk, gk, ask0, gp0, hky, hg, hgt, hM2, e0, e1, e2, e7, e10, e35, e36, e37, gk', ask', hlt, q_x, g_x, l_x, r_x, z_x, hi', hc12, hj0'] <;> omega), (by first | omega | assumption | (simp (disch := first | omega | (simp; done) | fail) [wrap64c, if_pos, if_neg, opAnd, opOr, opXor, opDiff, opShr, opBit, hkk, gk, ask0, gp0, hky, hg, hgt, hM2, e0, e1, e2, e7, e10, e35, e36, e37, gk', ask', hlt, q_x, g_x, l_x, r_x, z_x, hi', hc12, hj0'] <;> omega)), (hW.trans (W3.trans W4)), A4⟩
            (case hm => first | omega | (simp; omega))
            (case hf => simp [FrameL, hkk, gk, ask0, gp0, hky, hg, hgt, hM2, e0, e1, e2, e7, e10, e35, e36, e37, gk', ask', hlt, q_x, g_x, l_x, r_x, z_x, hi', hc12, hj0', f0_0, f1_0, f2_0, f7_0, f35_0, f36_0])
          · have hj0' : ((j : Int) == 0) = false := by simp [hj0]
            rw [if_neg hj0] at hmt
            by_cases hq : 1 + w2 < w0
            · have hq' : (1 + (w2 : Int)) < (w0 : Int) := by omega
              try simp (disch := first | omega | (simp; done) | fail) [wrap64c, if_pos, if_neg, opAnd, opOr, opXor, opDiff, opShr, opBit, hkk, gk, ask0, gp0, hky, hg, hgt, hM2, e0, e1, e2, e7, e10, e35, e36, e37, gk', ask', hlt, q_x, g_x, l_x, r_x, z_x, hi', hc12, hj0', hq, hq']
              refine loopK_next _ ?hm ?hf ⟨j + 1, rfl, (by rw [hmt]; simp; omega), (by simp (disch := first | omega | (simp; done) | fail) [wrap64c, if_pos, if_neg, opAnd, opOr, opXor, opDiff, opShr, opBit, hkk, gk, ask0, gp0, hky, hg, hgt, hM2, e0, e1, e2, e7, e10, e35, e36, e37, gk', ask', hlt, q_x, g_x, l_x, r_x, z_x, hi', hc12, hj0', hq, hq'] <;> omega), (by first | omega | assumption | (simp (disch := first | omega | (simp; done) | fail) [wrap64c, if_pos, if_neg, opAnd, opOr, opXor, opDiff, opShr, opBit, hkk, gk, ask0, gp0, hky, hg, hgt, hM2, e0, e1, e2, e7, e10, e35, e36, e37, gk', ask', hlt, q_x, g_x, l_x, r_x, z_x, hi', hc12, hj0', hq, hq'] <;> omega)), (hW.trans (W3.trans W4)), A4⟩
              (case hm => first | omega | (simp; omega))
              (case hf => simp [FrameL, hkk, gk, ask0, gp0, hky, hg, hgt, hM2, e0, e1, e2, e7, e10, e35, e36, e37, gk', ask', hlt, q_x, g_x, l_x, r_x, z_x, hi', hc12, hj0', hq, hq', f0_0, f1_0, f2_0, f7_0, f35_0, f36_0])
            · have hq' : ¬ (1 + (w2 : Int)) < (w0 : Int) := by omega
              try simp (disch := first | omega | (simp; done) | fail) [wrap64c, if_pos, if_neg, opAnd, opOr, opXor, opDiff, opShr, opBit, hkk, gk, ask0, gp0, hky, hg, hgt, hM2, e0, e1, e2, e7, e10, e35, e36, e37, gk', ask', hlt, q_x, g_x, l_x, r_x, z_x, hi', hc12, hj0', hq, hq']
              refine loopK_next _ ?hm ?hf ⟨j + 1, rfl, (by rw [hmt]; simp [e10]; omega), (by simp (disch := first | omega | (simp; done) | fail) [wrap64c, if_pos, if_neg, opAnd, opOr, opXor, opDiff, opShr, opBit, hkk, gk, ask0, gp0, hky, hg, hgt, hM2, e0, e1, e2, e7, e10, e35, e36, e37, gk', ask', hlt, q_x, g_x, l_x, r_x, z_x, hi', hc12, hj0', hq, hq'] <;> omega), (by first | omega | assumption | (simp (disch := first | omega | (simp; done) | fail) [wrap64c, if_pos, if_neg, opAnd, opOr, opXor, opDiff, opShr, opBit, hkk, gk, ask0, gp0, hky, hg, hgt, hM2, e0, e1, e2, e7, e10, e35, e36, e37, gk', ask', hlt, q_x, g_x, l_x, r_x, z_x, hi', hc12, hj0', hq, hq'] <;> omega)), (hW.trans (W3.trans W4)), A4⟩
              (case hm => first | omega | (simp; omega))
              (case hf => simp [FrameL, hkk, gk, ask0, gp0, hky, hg, hgt, hM2, e0, e1, e2, e7, e10, e35, e36, e37, gk', ask', hlt, q_x, g_x, l_x, r_x, z_x, hi', hc12, hj0', hq, hq', f0_0, f1_0, f2_0, f7_0, f35_0, f36_0])
        · try simp (disch := first | omega | (simp; done) | fail) [wrap64c, if_pos, if_neg, opAnd, opOr, opXor, opDiff, opShr, opBit, hkk, gk, ask0, gp0, hky, hg, hgt, hM2, e0, e1, e2, e7, e10, e35, e36, e37, gk', ask', hlt, q_x, g_x, l_x, r_x, z_x, hi', hc12]
          by_cases hj0 : j = 0
          · have hj0' : ((j : Int) == 0) = true := by simp [hj0]
            rw [if_pos hj0] at hmt
            try simp (disch := first | omega | (simp; done) | fail) [wrap64c, if_pos, if_neg, opAnd, opOr, opXor, opDiff, opShr, opBit, hkk, gk, ask0, gp0, hky, hg, hgt, hM2, e0, e1, e2, e7, e10, e35, e36, e37, gk', ask', hlt, q_x, g_x, l_x, r_x, z_x, hi', hc12, hj0']
            refine loopK_next _ ?hm ?hf ⟨j + 1, rfl, (by rw [hmt]; simp; omega), (by simp (disch := first | omega | (simp; done) | fail) [wrap64c, if_pos, if_neg, opAnd, opOr, opXor, opDiff, opShr, opBit, hkk, gk, ask0, gp0, hky, hg, hgt, hM2, e0, e1, e2, e7, e10, e35, e36, e37, gk', ask', hlt, q_x, g_x, l_x, r_x, z_x, hi', hc12, hj0'] <;> omega), (by first | omega | assumption | (simp (disch := first | omega | (simp; done) | fail) [wrap64c, if_pos, if_neg, opAnd, opOr, opXor, opDiff, opShr, opBit, hkk, gk, ask0, gp0, hky, hg, hgt, hM2, e0, e1, e2, e7, e10, e35, e36, e37, gk', ask', hlt, q_x, g_x, l_x, r_x, z_x, hi', hc12, hj0'] <;> omega)), (hW.trans (W3.trans W4)), A4⟩
            (case hm => first | omega | (simp; omega))
            (case hf => simp [FrameL, hkk, gk, ask0, gp0, hky, hg, hgt, hM2, e0, e1, e2, e7, e10, e35, e36, e37, gk', ask', hlt, q_x, g_x, l_x, r_x, z_x, hi', hc12, hj0', f0_0, f1_0, f2_0, f7_0, f35_0, f36_0])
          · have hj0' : ((j : Int) == 0) = false := by simp [hj0]
            rw [if_neg hj0] at hmt
            by_cases hq : 1 + w1 < w0
            · have hq' : (1 + (w1 : Int)) < (w0 : Int) := by omega
              try simp (disch := first | omega | (simp; done) | fail) [wrap64c, if_pos, if_neg, opAnd, opOr, opXor, opDiff, opShr, opBit, hkk, gk, ask0, gp0, hky, hg, hgt, hM2, e0, e1, e2, e7, e10, e35, e36, e37, gk', ask', hlt, q_x, g_x, l_x, r_x, z_x, hi', hc12, hj0', hq, hq']
              refine loopK_next _ ?hm ?hf ⟨j + 1, rfl, (by rw [hmt]; simp; omega), (by simp (disch := first | omega | (simp; done) | fail) [wrap64c, if_pos, if_neg, opAnd, opOr, opXor, opDiff, opShr, opBit, hkk, gk, ask0, gp0, hky, hg, hgt, hM2, e0, e1, e2, e7, e10, e35, e36, e37, gk', ask', hlt, q_x, g_x, l_x, r_x, z_x, hi', hc12, hj0', hq, hq'] <;> omega), (by first | omega | assumption | (simp (disch := first | omega | (simp; done) | fail) [wrap64c, if_pos, if_neg, opAnd, opOr, opXor, opDiff, opShr, opBit, hkk, gk, ask0, gp0, hky, hg, hgt, hM2, e0, e1, e2, e7, e10, e35, e36, e37, gk', ask', hlt, q_x, g_x, l_x, r_x, z_x, hi', hc12, hj0', hq, hq'] <;> omega)), (hW.trans (W3.trans W4)), A4⟩
              (case hm => first | omega | (simp; omega))
              (case hf => simp [FrameL, hkk, gk, ask0, gp0, hky, hg, hgt, hM2, e0, e1, e2, e7, e10, e35, e36, e37, gk', ask', hlt, q_x, g_x, l_x, r_x, z_x, hi', hc12, hj0', hq, hq', f0_0, f1_0, f2_0, f7_0, f35_0, f36_0])
            · have hq' : ¬ (1 + (w1 : Int)) < (w0 : Int) := by omega
              try simp (disch := first | omega | (simp; done) | fail) [wrap64c, if_pos, if_neg, opAnd, opOr, opXor, opDiff, opShr, opBit, hkk, gk, ask0, gp0, hky, hg, hgt, hM2, e0, e1, e2, e7, e10, e35, e36, e37, gk', ask', hlt, q_x, g_x, l_x, r_x, z_x, hi', hc12, hj0', hq, hq']
              refine loopK_next _ ?hm ?hf ⟨j + 1, rfl, (by rw [hmt]; simp [e10]; omega), (by simp (disch := first | omega | (simp; done) | fail) [wrap64c, if_pos, if_neg, opAnd, opOr, opXor, opDiff, opShr, opBit, hkk, gk, ask0, gp0, hky, hg, hgt, hM2, e0, e1, e2, e7, e10, e35, e36, e37, gk', ask', hlt, q_x, g_x, l_x, r_x, z_x, hi', hc12, hj0', hq, hq'] <;> omega), (by first | omega | assumption | (simp (disch := first | omega | (simp; done) | fail) [wrap64c, if_pos, if_neg, opAnd, opOr, opXor, opDiff, opShr, opBit, hkk, gk, ask0, gp0, hky, hg, hgt, hM2, e0, e1, e2, e7, e10, e35, e36, e37, gk', ask', hlt, q_x, g_x, l_x, r_x, z_x, hi', hc12, hj0', hq, hq'] <;> omega)), (hW.trans (W3.trans W4)), A4⟩
              (case hm => first | omega | (simp; omega))
              (case hf => simp [FrameL, hkk, gk, ask0, gp0, hky, hg, hgt, hM2, e0, e1, e2, e7, e10, e35, e36, e37, gk', ask', hlt, q_x, g_x, l_x, r_x, z_x, hi', hc12, hj0', hq, hq', f0_0, f1_0, f2_0, f7_0, f35_0, f36_0])
      · have hft : (openN L).take j = openN L := List.take_of_length_le (by omega)
        rw [hft, ← worstN_eq] at e10
        obtain ⟨es', gp', hM'⟩ := hAA.mem
        have gp' := gp'
        have hky' : keysOK 2 es' = true := hM'.keys
        try simp (disch := first | omega | (simp; done) | fail) [wrap64c, if_pos, if_neg, opAnd, opOr, opXor, opDiff, opShr, opBit, hkk, gk, ask0, gp0, hky, hg, hgt, hM2, e0, e1, e2, e7, e10, e35, e36, e37, gk', ask', hlt, gp', hky']
        refine WD_drawC 6 rfl (by kernel_rfl) ?_
        try simp (disch := first | omega | (simp; done) | fail) [wrap64c, if_pos, if_neg, opAnd, opOr, opXor, opDiff, opShr, opBit, hkk, gk, ask0, gp0, hky, hg, hgt, hM2, e0, e1, e2, e7, e10, e35, e36, e37, gk', ask', hlt, gp', hky']
        have WW := ((((Wr.of_adds k0).trans (.of_adds ha1)).trans (.of_adds ha2)).trans hW).put (o := p) (S := fun q => q = p) rfl (x := .map (mapPut es' (keyV y z) (.int .i64 ((worstN L : Nat) : Int)))) (fun _ => rfl)
        refine done_ret rfl ⟨by simp [← hLe], WW, ?_⟩
        refine ⟨hob, hpb, hA.ne, ?_, hAA.ints.same ⟨by simp, fun q hq _ => by simp [hq.2]⟩, ⟨_, by simp; rfl, ?_⟩⟩
        · simp [hA.ne, ask']
        · have := hM'.put y z
          rw [← hLe] at this
          exact this
    · unfold keyV at hg
      have hg := hg
      try simp (disch := first | omega | (simp; done) | fail) [wrap64c, if_pos, if_neg, opAnd, opOr, opXor, opDiff, opShr, opBit, hkk, gk, ask0, gp0, hky, hg]
      exact done_ret rfl ⟨rfl, .of_adds k0, hA0⟩
theorem best_ok (base o p : Nat) (N : Int) (b m2 : Value) (xs : List Nat) (hx : ∀ x ∈ xs, x < 128) (hl : xs.length < 2 ^ 39) (h : Hp) (y z : Nat) (hA : AskOK base o p N b m2 xs h) (hb : base ≤ h.next) (hy : y < 128) (hz : z < 128) :
    ∃ v h', CallOK Try.prog 162 #[.pointer (some ⟨o, 0, none⟩), .int .i64 (y : Int), .int .i64 (z : Int)] h v h' ∧ v = .int .i64 (bestN (leftN xs y z)) ∧ Wr (fun q => q = p) h h' ∧ AskOK base o p N b m2 xs h' := by
  refine callY_L (args := [.pointer (some ⟨o, 0, none⟩), .int .i64 (y : Int), .int .i64 (z : Int)]) 45 _ [.tmp 6] Try.func162 rfl rfl rfl ?_
  have hob := hA.ob
  have hpb := hA.pb
  have hll := left_len xs y z
  have ask0 := hA.asker
  try simp (disch := first | omega | (simp; done) | fail) [wrap64c, if_pos, if_neg, opAnd, opOr, opXor, opDiff, opShr, opBit, ask0]
  obtain ⟨v1, h1, hc1, ha1, hi1⟩ := imLeft_ok h (.agg #[.int .i64 N, b]) N xs y z (.mk hA.ints.ints) hx hl hy hz
  refine callG_c (by simp) (by simp) ?ha (hc1) ?_
  (case ha => simp (disch := first | omega | (simp; done) | fail) [wrap64c, if_pos, if_neg, opAnd, opOr, opXor, opDiff, opShr, opBit, ask0])
  obtain ⟨L, hLe⟩ : ∃ L, L = leftN xs y z := ⟨_, rfl⟩
  have hLx : ∀ x ∈ L, x < 128 := fun x hm => hx x (left_sub (hLe ▸ hm))
  have hLl : L.length < 2 ^ 39 := by rw [hLe]; omega
  rw [← hLe] at hi1
  try simp (disch := first | omega | (simp; done) | fail) [wrap64c, if_pos, if_neg, opAnd, opOr, opXor, opDiff, opShr, opBit, ask0]
  obtain ⟨v2, h2, hc2, ha2, hi2⟩ := open_ok h1 v1 L hi1.ints hLx hLl
  refine callG_c (by simp) (by simp) ?ha (hc2) ?_
  (case ha => simp (disch := first | omega | (simp; done) | fail) [wrap64c, if_pos, if_neg, opAnd, opOr, opXor, opDiff, opShr, opBit, ask0])
  have n1 := ha1.1.1
  have n2 := ha2.1.1
  have hA2 := (hA.adds (by omega) ha1).adds (by omega) ha2
  have hgt := toN_get (openN L)
  have hln := toN_length (openN L)
  have hM2 := hi2.ints.lenD
  have hol : (openN L).length ≤ 7 := openK_len L 7
  have W2 : Wr (fun q => q = p) h h2 := (Wr.of_adds ha1).trans (.of_adds ha2)
  try simp (disch := first | omega | (simp; done) | fail) [wrap64c, if_pos, if_neg, opAnd, opOr, opXor, opDiff, opShr, opBit, ask0, hgt, hM2]
  refine WD_loopC [0, 1, 2, 16, 17] (fun m tm h' => ∃ j, m = (openN L).length - j ∧ tm 18 = .int .i64 (j : Int) ∧ (j ≤ (openN L).length) ∧ (Wr (fun q => q = p) h2 h') ∧ (AskOK base o p N b m2 xs h') ∧ (∀ k (hk : k < (openN L).length), k < j → askN L (openN L)[k] ≠ worstN L)) _ ⟨0, rfl, (by simp (disch := first | omega | (simp; done) | fail) [wrap64c, if_pos, if_neg, opAnd, opOr, opXor, opDiff, opShr, opBit, ask0, hgt, hM2]), (by first | omega | assumption | (simp (disch := first | omega | (simp; done) | fail) [wrap64c, if_pos, if_neg, opAnd, opOr, opXor, opDiff, opShr, opBit, ask0, hgt, hM2] <;> omega)), (Wr.refl _ _), hA2, (by intro k h1 h0; omega)⟩ ?_
  rintro m tm h' hFr ⟨j, rfl, e18, hj, hW, hAA, hn1⟩
  simp only [FrameL] at hFr
  obtain ⟨f0_0, f1_0, f2_0, f16_0, f17_0, -⟩ := hFr
  try simp (disch := first | omega | (simp; done) | fail) [wrap64c, if_pos, if_neg, opAnd, opOr, opXor, opDiff, opShr, opBit, ask0, hgt, hM2] at f0_0 f1_0 f2_0 f16_0 f17_0
  have e0 := f0_0
  have e1 := f1_0
  have e2 := f2_0
  have e16 := f16_0
  have e17 := f17_0
  have hu := hW.upd
  have hv2 := (hi2.same (hu.same fun x hx hx' => by unfold Btw at hx; omega)).ints
  have n3 := hu.1
  by_cases hlt : j < (openN L).length
  · obtain ⟨o_x, i_x, c_x, cs_x, own_x, ex_x, es_x, q_x, b_x, g_x, l_x, r_x⟩ := hv2.open ((by omega))
    have z_x : ∀ h2 : i_x < cs_x.length, cs_x[i_x] = _ := fun h2 => r_x 0 ((by omega)) h2
    obtain ⟨i, hi⟩ : ∃ i, i = (openN L)[j] := ⟨_, rfl⟩
    have hopi := (mem_openK.1 (List.getElem_mem hlt)).2
    have hi7 : i < 7 := by rw [hi]; exact (mem_openK.1 (List.getElem_mem hlt)).1
    rw [← hi] at hopi
    have hi' := hi.symm
    have hlen := has_len hopi
    have hb7 := bit_lt7 hi7
    have hy2 := nOr128 (b := bit i) hy (by omega)
    have hz2 := nOr128 (b := bit i) hz (by omega)
    have hw1 := worstN_le (hasL L i)
    have hw2 := worstN_le (lacksL L i)
    have hw3 := worstN_le L
    have haq : askN L i = 1 + max (worstN (hasL L i)) (worstN (lacksL L i)) := rfl
    try simp (disch := first | omega | (simp; done) | fail) [wrap64c, if_pos, if_neg, opAnd, opOr, opXor, opDiff, opShr, opBit, ask0, hgt, hM2, e0, e1, e2, e16, e17, e18, hlt, q_x, g_x, l_x, r_x, z_x, hi']
    refine WD_chainC rfl (by kernel_rfl) (by kernel_rfl) ?_
    try simp (disch := first | omega | (simp; done) | fail) [wrap64c, if_pos, if_neg, opAnd, opOr, opXor, opDiff, opShr, opBit, ask0, hgt, hM2, e0, e1, e2, e16, e17, e18, hlt, q_x, g_x, l_x, r_x, z_x, hi']
    obtain ⟨_, h3, hc3, rfl, W3, A3⟩ := least_ok base o p N b m2 xs hx hl (L.length + 1) h' (nOr y (bit i)) z hAA (by omega) hy2 hz (by rw [left_yes, ← hLe]; omega)
    refine callG_c (by simp) (by simp) ?ha (hc3) ?_
    (case ha => simp (disch := first | omega | (simp; done) | fail) [wrap64c, if_pos, if_neg, opAnd, opOr, opXor, opDiff, opShr, opBit, ask0, hgt, hM2, e0, e1, e2, e16, e17, e18, hlt, q_x, g_x, l_x, r_x, z_x, hi'])
    have n4 := W3.upd.1
    rw [left_yes, ← hLe]
    try simp (disch := first | omega | (simp; done) | fail) [wrap64c, if_pos, if_neg, opAnd, opOr, opXor, opDiff, opShr, opBit, ask0, hgt, hM2, e0, e1, e2, e16, e17, e18, hlt, q_x, g_x, l_x, r_x, z_x, hi']
    obtain ⟨_, h4, hc4, rfl, W4, A4⟩ := least_ok base o p N b m2 xs hx hl (L.length + 1) h3 y (nOr z (bit i)) A3 (by omega) hy hz2 (by rw [left_no, ← hLe]; omega)
    refine callG_c (by simp) (by simp) ?ha (hc4) ?_
    (case ha => simp (disch := first | omega | (simp; done) | fail) [wrap64c, if_pos, if_neg, opAnd, opOr, opXor, opDiff, opShr, opBit, ask0, hgt, hM2, e0, e1, e2, e16, e17, e18, hlt, q_x, g_x, l_x, r_x, z_x, hi'])
    have n5 := W4.upd.1
    rw [left_no, ← hLe]
    obtain ⟨_, h5, hc5, rfl, W5, A5⟩ := least_ok base o p N b m2 xs hx hl (L.length + 1) h4 y z A4 (by omega) hy hz (by rw [← hLe]; omega)
    obtain ⟨w1, hw1'⟩ : ∃ w, w = worstN (hasL L i) := ⟨_, rfl⟩
    obtain ⟨w2, hw2'⟩ : ∃ w, w = worstN (lacksL L i) := ⟨_, rfl⟩
    obtain ⟨w3, hw3'⟩ : ∃ w, w = worstN L := ⟨_, rfl⟩
    rw [← hw1', ← hw2'] at haq
    rw [← hw1'] at hw1
    rw [← hw2'] at hw2
    rw [← hw3'] at hw3
    rw [← hw1', ← hw2']
    rw [← hLe, ← hw3'] at hc5
    by_cases hc12 : w1 < w2
    · try simp (disch := first | omega | (simp; done) | fail) [wrap64c, if_pos, if_neg, opAnd, opOr, opXor, opDiff, opShr, opBit, ask0, hgt, hM2, e0, e1, e2, e16, e17, e18, hlt, q_x, g_x, l_x, r_x, z_x, hi', hc12]
      refine callG_c (by simp) (by simp) ?ha (hc5) ?_
      (case ha => simp (disch := first | omega | (simp; done) | fail) [wrap64c, if_pos, if_neg, opAnd, opOr, opXor, opDiff, opShr, opBit, ask0, hgt, hM2, e0, e1, e2, e16, e17, e18, hlt, q_x, g_x, l_x, r_x, z_x, hi', hc12])
      by_cases hq : 1 + w2 = w3
      · have hq' : (1 + (w2 : Int)) = (w3 : Int) := by omega
        try simp (disch := first | omega | (simp; done) | fail) [wrap64c, if_pos, if_neg, opAnd, opOr, opXor, opDiff, opShr, opBit, ask0, hgt, hM2, e0, e1, e2, e16, e17, e18, hlt, q_x, g_x, l_x, r_x, z_x, hi', hc12, hq']
        refine done_ret rfl ⟨?_, W2.trans (hW.trans (W3.trans (W4.trans W5))), A5⟩
        (try rw [← hLe]); rw [bestN_at hlt hn1 (by rw [← hi]; omega), ← hi]; simp
      · have hq' : ¬ (1 + (w2 : Int)) = (w3 : Int) := by omega
        try simp (disch := first | omega | (simp; done) | fail) [wrap64c, if_pos, if_neg, opAnd, opOr, opXor, opDiff, opShr, opBit, ask0, hgt, hM2, e0, e1, e2, e16, e17, e18, hlt, q_x, g_x, l_x, r_x, z_x, hi', hc12, hq']
        refine loopK_next _ ?hm ?hf ⟨j + 1, rfl, (by simp (disch := first | omega | (simp; done) | fail) [wrap64c, if_pos, if_neg, opAnd, opOr, opXor, opDiff, opShr, opBit, ask0, hgt, hM2, e0, e1, e2, e16, e17, e18, hlt, q_x, g_x, l_x, r_x, z_x, hi', hc12, hq'] <;> omega), (by first | omega | assumption | (simp (disch := first | omega | (simp; done) | fail) [wrap64c, if_pos, if_neg, opAnd, opOr, opXor, opDiff, opShr, opBit, ask0, hgt, hM2, e0, e1, e2, e16, e17, e18, hlt, q_x, g_x, l_x, r_x, z_x, hi', hc12, hq'] <;> omega)), (hW.trans (W3.trans (W4.trans W5))), A5, ?c_hn1⟩
        (case hm => first | omega | (simp; omega))
        (case hf => simp [FrameL, ask0, hgt, hM2, e0, e1, e2, e16, e17, e18, hlt, q_x, g_x, l_x, r_x, z_x, hi', hc12, hq', f0_0, f1_0, f2_0, f16_0, f17_0])
        case c_hn1 =>
          exact (fun k hk hkj => by
            by_cases e : k = j
            · subst e; rw [← hi]; omega
            · exact hn1 k hk (by omega))
    · try simp (disch := first | omega | (simp; done) | fail) [wrap64c, if_pos, if_neg, opAnd, opOr, opXor, opDiff, opShr, opBit, ask0, hgt, hM2, e0, e1, e2, e16, e17, e18, hlt, q_x, g_x, l_x, r_x, z_x, hi', hc12]
      refine callG_c (by simp) (by simp) ?ha (hc5) ?_
      (case ha => simp (disch := first | omega | (simp; done) | fail) [wrap64c, if_pos, if_neg, opAnd, opOr, opXor, opDiff, opShr, opBit, ask0, hgt, hM2, e0, e1, e2, e16, e17, e18, hlt, q_x, g_x, l_x, r_x, z_x, hi', hc12])
      by_cases hq : 1 + w1 = w3
      · have hq' : (1 + (w1 : Int)) = (w3 : Int) := by omega
        try simp (disch := first | omega | (simp; done) | fail) [wrap64c, if_pos, if_neg, opAnd, opOr, opXor, opDiff, opShr, opBit, ask0, hgt, hM2, e0, e1, e2, e16, e17, e18, hlt, q_x, g_x, l_x, r_x, z_x, hi', hc12, hq']
        refine done_ret rfl ⟨?_, W2.trans (hW.trans (W3.trans (W4.trans W5))), A5⟩
        (try rw [← hLe]); rw [bestN_at hlt hn1 (by rw [← hi]; omega), ← hi]; simp
      · have hq' : ¬ (1 + (w1 : Int)) = (w3 : Int) := by omega
        try simp (disch := first | omega | (simp; done) | fail) [wrap64c, if_pos, if_neg, opAnd, opOr, opXor, opDiff, opShr, opBit, ask0, hgt, hM2, e0, e1, e2, e16, e17, e18, hlt, q_x, g_x, l_x, r_x, z_x, hi', hc12, hq']
        refine loopK_next _ ?hm ?hf ⟨j + 1, rfl, (by simp (disch := first | omega | (simp; done) | fail) [wrap64c, if_pos, if_neg, opAnd, opOr, opXor, opDiff, opShr, opBit, ask0, hgt, hM2, e0, e1, e2, e16, e17, e18, hlt, q_x, g_x, l_x, r_x, z_x, hi', hc12, hq'] <;> omega), (by first | omega | assumption | (simp (disch := first | omega | (simp; done) | fail) [wrap64c, if_pos, if_neg, opAnd, opOr, opXor, opDiff, opShr, opBit, ask0, hgt, hM2, e0, e1, e2, e16, e17, e18, hlt, q_x, g_x, l_x, r_x, z_x, hi', hc12, hq'] <;> omega)), (hW.trans (W3.trans (W4.trans W5))), A5, ?c_hn1⟩
        (case hm => first | omega | (simp; omega))
        (case hf => simp [FrameL, ask0, hgt, hM2, e0, e1, e2, e16, e17, e18, hlt, q_x, g_x, l_x, r_x, z_x, hi', hc12, hq', f0_0, f1_0, f2_0, f16_0, f17_0])
        case c_hn1 =>
          exact (fun k hk hkj => by
            by_cases e : k = j
            · subst e; rw [← hi]; omega
            · exact hn1 k hk (by omega))
  · try simp (disch := first | omega | (simp; done) | fail) [wrap64c, if_pos, if_neg, opAnd, opOr, opXor, opDiff, opShr, opBit, ask0, hgt, hM2, e0, e1, e2, e16, e17, e18, hlt]
    refine done_ret rfl ⟨?_, W2.trans hW, hAA⟩
    rw [← hLe, bestN_none fun k hk => hn1 k hk (by omega)]; simp
end Go.Proofs.Ytnncipcldbopgaa
namespace Go.Proofs.Ytnncipcldbopgaa
set_option linter.unusedSimpArgs false
set_option linter.unusedVariables false
set_option maxHeartbeats 4000000
open Go Go.Eng
attribute [local irreducible] WD RunD PreD Runs CallOK
def nShl (a i : Nat) : Nat := a <<< i
theorem opShl (x y : Int) (hx : 0 ≤ x) (hx2 : x < 1048576) (hy : 0 ≤ y) (hy2 : y < 40) : bShl .i64 x y = ((nShl x.toNat y.toNat : Nat) : Int) := bShl_nat x y hx hx2 hy hy2
theorem place_eq {a b n : Nat} (hb : b < bit n) : nOr (nShl a n) b = a * bit n + b := by
  unfold nOr nShl bit
  rw [← Nat.shiftLeft_add_eq_or_of_lt hb, Nat.shiftLeft_eq]
theorem bit_add (a b : Nat) : bit (a + b) = bit a * bit b := Nat.pow_add 2 a b
theorem place_lt {a b n m : Nat} (hm : m = 2 * n) (ha : a < bit n) (hb : b < bit n) : a * bit n + b < bit m := by
  rw [hm, show 2 * n = n + n by omega, bit_add]
  calc a * bit n + b < a * bit n + bit n := by omega
    _ = (a + 1) * bit n := by rw [Nat.add_mul, Nat.one_mul]
    _ ≤ bit n * bit n := Nat.mul_le_mul (by omega) (Nat.le_refl _)
theorem place_div {a b n : Nat} (hb : b < bit n) : (a * bit n + b) / bit n = a ∧ (a * bit n + b) % bit n = b := by
  have hp := bit_pos n
  constructor
  · rw [Nat.mul_comm, Nat.mul_add_div (by omega), Nat.div_eq_of_lt hb]; omega
  · rw [Nat.mul_comm, Nat.mul_add_mod, Nat.mod_eq_of_lt hb]
def inS (n : Nat) (L : List Nat) : Nat := L.foldl nAnd (bit n - 1)
def outS (n : Nat) (L : List Nat) : Nat := L.foldl ndiff (bit n - 1)
theorem inS_lt (n : Nat) (L : List Nat) : inS n L < bit n := by
  have := foldAnd_le L (bit n - 1)
  have := bit_pos n
  unfold inS; omega
theorem outS_lt (n : Nat) (L : List Nat) : outS n L < bit n := by
  have : ∀ (L : List Nat) (a : Nat), a < bit n → L.foldl ndiff a < bit n := by
    intro L
    induction L with
    | nil => intro a ha; exact ha
    | cons x L ih => intro a ha; exact ih _ (ndiff_lt ha)
  exact this L _ (by have := bit_pos n; omega)
theorem closed_left {n : Nat} {xs : List Nat} (hx : ∀ x ∈ xs, x < bit n) {y z : Nat} (hne : leftN xs y z ≠ []) : leftN xs (inS n (leftN xs y z)) (outS n (leftN xs y z)) = leftN xs y z := by
  obtain ⟨w, hw⟩ := List.exists_mem_of_ne_nil _ hne
  conv => lhs; unfold leftN
  conv => rhs; unfold leftN
  apply List.filter_congr
  intro x hxm
  rw [Bool.eq_iff_iff, leftB_iff, leftB_iff]
  have hwb := leftB_iff.1 (List.mem_filter.1 hw).2
  have hwn := hx w (left_sub hw)
  constructor
  · rintro ⟨h1, h2⟩
    refine ⟨fun i hi => ?_, fun i hi => ?_⟩
    · have hin : i < n := by
        apply Classical.byContradiction
        intro hn
        have := hwb.1 i hi
        rw [hi_bit hwn (by omega)] at this; cases this
      apply h1 i
      unfold inS
      rw [foldAnd_bit, full_bit]
      simp only [hin, decide_true, Bool.true_and, List.all_eq_true]
      intro q hq
      exact (leftB_iff.1 (List.mem_filter.1 hq).2).1 i hi
    · by_cases hin : i < n
      · apply h2 i
        unfold outS
        rw [foldDiff_bit, full_bit]
        simp only [hin, decide_true, Bool.true_and, List.all_eq_true, Bool.not_eq_true']
        intro q hq
        exact (leftB_iff.1 (List.mem_filter.1 hq).2).2 i hi
      · exact hi_bit (hx x hxm) (by omega)
  · intro hxb
    have hxl : x ∈ leftN xs y z := List.mem_filter.2 ⟨hxm, leftB_iff.2 hxb⟩
    refine ⟨fun i hi => ?_, fun i hi => ?_⟩
    · unfold inS at hi
      rw [foldAnd_bit, Bool.and_eq_true, List.all_eq_true] at hi
      exact hi.2 x hxl
    · unfold outS at hi
      rw [foldDiff_bit, Bool.and_eq_true, List.all_eq_true] at hi
      have := hi.2 x hxl
      simpa using this
theorem worst_one {L : List Nat} (h : L.length = 1) : worstN L = 0 := by
  rw [worstN_eq]
  have : openN L = [] := by
    apply Classical.byContradiction
    intro hn
    obtain ⟨i, hi⟩ := List.exists_mem_of_ne_nil _ hn
    have := has_len (mem_openK.1 hi).2
    omega
  rw [this]; rfl
def minW (l : List Nat) : Nat := l.foldl min 1073741824
theorem minW_snoc (l : List Nat) (a : Nat) : minW (l ++ [a]) = min (minW l) a := by simp [minW, List.foldl_append]
theorem minW_le (l : List Nat) : minW l ≤ 1073741824 := by
  have : ∀ (l : List Nat) (b : Nat), l.foldl min b ≤ b := by
    intro l
    induction l with
    | nil => intro b; exact Nat.le_refl _
    | cons a l ih => intro b; have := ih (min b a); simp only [List.foldl_cons]; omega
  exact this l _
theorem minW_eq {l : List Nat} (hne : l ≠ []) (h : ∀ x ∈ l, x ≤ 1073741824) : minW l = minL l := by
  cases l with
  | nil => exact absurd rfl hne
  | cons a l =>
    have ha := h a (by simp)
    rw [minW, minL, List.foldl_cons, Nat.min_eq_right ha]
def cellsN (W : List Nat) : List Value := (toN W).map (.int .i64)
@[simp] theorem cellsN_length (W : List Nat) : (cellsN W).length = W.length := by simp [cellsN]
theorem cellsN_at (W : List Nat) (i : Nat) (h : i < (cellsN W).length) : (cellsN W)[i] = .int .i64 (((W[i]'(by simpa using h) : Nat)) : Int) := by
  simp only [cellsN, List.getElem_map, toN_get]
theorem cellsN_getD (W : List Nat) (i : Nat) (h : i < W.length) : (cellsN W)[i]?.getD undef = .int .i64 ((W[i] : Nat) : Int) := by
  rw [List.getElem?_eq_getElem (by simpa using h), cellsN_at]; rfl
theorem cellsN_set (W : List Nat) (i x : Nat) : (cellsN W).set i (.int .i64 (x : Int)) = cellsN (W.set i x) := by
  simp [cellsN, toN, List.map_set]
theorem cellsN_zero (n : Nat) : List.replicate n (Value.int .i64 0) = cellsN (List.replicate n 0) := by simp [cellsN, toN]
structure TabOK (base ot o1 o2 n m : Nat) (b : Value) (xs : List Nat) (h : Hp) : Prop where
  tb : ot < base
  b1 : o1 < base
  b2 : o2 < base
  n1 : ot ≠ o1
  n2 : ot ≠ o2
  n12 : o1 ≠ o2
  tab : h.get ot = .cells [.int .i64 (n : Int), b, .slice (some ⟨o1, 0, none⟩) (bit m) (bit m), .slice (some ⟨o2, 0, none⟩) (bit m) (bit m)] true true 1
  ints : IntsF (fun x => x < base ∧ x ≠ o1 ∧ x ≠ o2) h b (toN xs)
  ent : ∃ W T : List Nat, W.length = bit m ∧ T.length = bit m ∧ h.get o1 = .cells (cellsN W) true true 1 ∧ h.get o2 = .cells (cellsN T) true true 1 ∧
    ∀ i (h1 : i < W.length) (h2 : i < T.length), 0 < W[i] → W[i] = 1 + worstN (leftN xs (i / bit n) (i % bit n)) ∧ 1 ≤ T[i] ∧ T[i] ≤ 1 + (leftN xs (i / bit n) (i % bit n)).length * (leftN xs (i / bit n) (i % bit n)).length ∧ T[i] = 1 + totN (leftN xs (i / bit n) (i % bit n))
theorem TabOK.adds {base ot o1 o2 n m : Nat} {b : Value} {xs : List Nat} {h h' : Hp} (k : TabOK base ot o1 o2 n m b xs h) (hb : base ≤ h.next) (a : Adds h h') : TabOK base ot o1 o2 n m b xs h' where
  tb := k.tb
  b1 := k.b1
  b2 := k.b2
  n1 := k.n1
  n2 := k.n2
  n12 := k.n12
  tab := by rw [a.1.2 _ (by have := k.tb; omega)]; exact k.tab
  ints := k.ints.keep a.1
  ent := by
    obtain ⟨W, T, e1, e2, e3, e4, e5⟩ := k.ent
    exact ⟨W, T, e1, e2, by rw [a.1.2 _ (by have := k.b1; omega)]; exact e3, by rw [a.1.2 _ (by have := k.b2; omega)]; exact e4, e5⟩
theorem l1Least_ok (h : Hp) (a b : Int) : CallOK Try.prog 194 #[.int .i64 a, .int .i64 b] h (.int .i64 (if a < b then a else b)) h := by
  refine callY_P 10 _ [.tmp 4] Try.func194 rfl rfl rfl (by first | rfl | simp) ?_
  by_cases hc : a < b
  · try simp (disch := first | omega | (simp; done) | fail) [wrap64c, if_pos, if_neg, opAnd, opOr, opXor, opDiff, opShr, opBit, hc]
    exact done_ret rfl (by simp [hc])
  · try simp (disch := first | omega | (simp; done) | fail) [wrap64c, if_pos, if_neg, opAnd, opOr, opXor, opDiff, opShr, opBit, hc]
    exact done_ret rfl (by simp [hc])
theorem l1MostN_ok (h : Hp) (a b : Nat) : CallOK Try.prog 173 #[.int .i64 (a : Int), .int .i64 (b : Int)] h (.int .i64 ((max a b : Nat) : Int)) h := by
  have := l1Most_ok h a b
  have e : (if (b : Int) < a then (a : Int) else b) = ((max a b : Nat) : Int) := by split <;> omega
  rw [e] at this; exact this
theorem l1LeastN_ok (h : Hp) (a b : Nat) : CallOK Try.prog 194 #[.int .i64 (a : Int), .int .i64 (b : Int)] h (.int .i64 ((min a b : Nat) : Int)) h := by
  have := l1Least_ok h a b
  have e : (if (a : Int) < b then (a : Int) else b) = ((min a b : Nat) : Int) := by split <;> omega
  rw [e] at this; exact this
theorem asNew_ok (h : Hp) (v : Value) (n : Nat) (xs : List Nat) (hv : Space h v n (toN xs)) (hn : n ≤ 7) : ∃ v' h', CallOK Try.prog 159 #[v] h v' h' ∧ ∃ ot o1 o2 b, v' = .pointer (some ⟨ot, 0, none⟩) ∧ Adds h h' ∧
    (h.next ≤ ot ∧ h.next ≤ o1 ∧ h.next ≤ o2) ∧ TabOK h'.next ot o1 o2 n (2 * n) b xs h' := by
  refine callY_L (args := [v]) 16 _ [.tmp 2] Try.func159 rfl rfl rfl ?_
  obtain ⟨b, rfl, hX⟩ := hv
  have nt := hX.nt
  have cs := hX.cs
  obtain ⟨m, hm⟩ : ∃ m, m = 2 * n := ⟨_, rfl⟩
  have hm2 : 2 * (n : Int) = (m : Int) := by omega
  have hb := bit20 (i := m) (by omega)
  try simp (disch := first | omega | (simp; done) | fail) [wrap64c, if_pos, if_neg, opAnd, opOr, opXor, opDiff, opShr, opBit, nt, cs, hm2]
  refine WD_drawC 13 rfl (by kernel_rfl) ?_
  try simp (disch := first | omega | (simp; done) | fail) [wrap64c, if_pos, if_neg, opAnd, opOr, opXor, opDiff, opShr, opBit, nt, cs, hm2, (by omega : ((bit m : Nat) : Int) < 140737488355328), (by omega : (8 : Int) * (bit m : Nat) ≤ 281474976710656)]
  first | refine WY_heap fun h1 q_h1 => ?_ | refine callG_heap fun h1 q_h1 => ?_ | refine callP_heap fun h1 q_h1 => ?_ | refine callS_heap fun h1 q_h1 => ?_ | refine RY_heap fun h1 q_h1 => ?_ | refine PY_heap fun h1 q_h1 => ?_ | refine SY_heap fun h1 q_h1 => ?_ | refine doneY_heap fun h1 q_h1 => ?_ | refine loopK_heap fun h1 q_h1 => ?_ | refine thenY_heap fun h1 q_h1 => ?_ | refine thenM_heap fun h1 q_h1 => ?_
  have k1 : Adds h h1 := by rw [q_h1]; exact (by first | exact aK | exact kK)
  have hn1 : h1.next = h.next + 4 := by simp [q_h1]
  refine done_ret rfl ⟨h.next + 3, h.next + 1, h.next + 2, b, by simp, k1, ⟨by omega, by omega, by omega⟩, ⟨by omega, by omega, by omega, by omega, by omega, by omega, ?_, ?_, ?_⟩⟩
  · rw [← hm]; simp [q_h1]
  · exact (hX.old.keep k1.1).sub fun q hq => by omega
  · rw [← hm]
    refine ⟨List.replicate (bit m) 0, List.replicate (bit m) 0, by simp, by simp, ?_, ?_, fun i h1 h2 h3 => ?_⟩
    · rw [← cellsN_zero]; simp [q_h1]
    · rw [← cellsN_zero]; simp [q_h1]
    · simp at h3
theorem closed_ok (h : Hp) (base ot o1 o2 n m : Nat) (b : Value) (xs : List Nat) (y z : Nat) (hT : TabOK base ot o1 o2 n m b xs h) (hb : base ≤ h.next) (hn : n ≤ 7) (hx : ∀ x ∈ xs, x < 128) (hl : xs.length ≤ 128) (hy : y < 128) (hz : z < 128) :
    ∃ v' h', CallOK Try.prog 236 #[.pointer (some ⟨ot, 0, none⟩), .int .i64 (y : Int), .int .i64 (z : Int)] h v' h' ∧ Adds h h' ∧
      ∃ u, v' = .tuple #[u, .int .i64 ((inS n (leftN xs y z) : Nat) : Int), .int .i64 ((outS n (leftN xs y z) : Nat) : Int)] ∧ IntsO (Btw h.next h'.next) h' u (toN (leftN xs y z)) := by
  refine callY_L (args := [.pointer (some ⟨ot, 0, none⟩), .int .i64 (y : Int), .int .i64 (z : Int)]) 31 _ [.tmp 6, .tmp 7, .tmp 8] Try.func236 rfl rfl rfl ?_
  have htb := hT.tb
  have ht0 := hT.tab
  try simp (disch := first | omega | (simp; done) | fail) [wrap64c, if_pos, if_neg, opAnd, opOr, opXor, opDiff, opShr, opBit, ht0]
  obtain ⟨v1, h1, hc1, ha1, hi1⟩ := spLeft_ok h (.agg #[.int .i64 (n : Int), b]) n xs y z (.mk hT.ints.ints) hx (by omega) hy hz
  refine callG_c (by simp) (by simp) ?ha (hc1) ?_
  (case ha => simp (disch := first | omega | (simp; done) | fail) [wrap64c, if_pos, if_neg, opAnd, opOr, opXor, opDiff, opShr, opBit, ht0])
  have hT1 := hT.adds hb ha1
  have ht1 := hT1.tab
  try simp (disch := first | omega | (simp; done) | fail) [wrap64c, if_pos, if_neg, opAnd, opOr, opXor, opDiff, opShr, opBit, ht0, ht1]
  refine callG_c (by simp) (by simp) ?ha (asKnown_ok h1 (.agg #[.int .i64 (n : Int), b]) v1 n _ (leftN xs y z) (.mk hT1.ints.ints) hi1.ints hn (fun x hm => hx x (left_sub hm)) (by have := left_len xs y z; omega)) ?_
  (case ha => simp (disch := first | omega | (simp; done) | fail) [wrap64c, if_pos, if_neg, opAnd, opOr, opXor, opDiff, opShr, opBit, ht0, ht1])
  try simp (disch := first | omega | (simp; done) | fail) [wrap64c, if_pos, if_neg, opAnd, opOr, opXor, opDiff, opShr, opBit, ht0, ht1]
  exact done_ret rfl ⟨ha1, v1, rfl, hi1⟩
end Go.Proofs.Ytnncipcldbopgaa
namespace Go.Proofs.Ytnncipcldbopgaa
set_option linter.unusedSimpArgs false
set_option linter.unusedVariables false
set_option maxHeartbeats 4000000
open Go Go.Eng
attribute [local irreducible] WD RunD PreD Runs CallOK
theorem known_open {n : Nat} {L : List Nat} {i : Nat} (hne : L ≠ []) (hi : i < n) : (nOr (inS n L) (outS n L)).testBit i = !opB L i := known_bit hne hi
def tellP (x : Nat) : List Nat → Nat → Nat
  | [], p => p
  | i :: l, p => tellP x l (if x.testBit i = true then nOr p (bit i) else p)
def tellQ (x : Nat) : List Nat → Nat → Nat
  | [], q => q
  | i :: l, q => tellQ x l (if x.testBit i = true then q else nOr q (bit i))
theorem tell_left (ask : List Nat → Int) (hask : ∀ L, ask L < 0 ∨ ∃ i, ask L = (i : Nat) ∧ i ∈ openN L) (xs : List Nat) (x : Nat) : ∀ (k : Nat) (L : List Nat) (p q : Nat), leftN xs p q = L → L.length ≤ k → ask (leftN xs (tellP x (runF ask x k L) p) (tellQ x (runF ask x k L) q)) < 0 ∨ L = []
  | 0, L, p, q, hL, hk => .inr (List.length_eq_zero_iff.1 (by omega))
  | k + 1, L, p, q, hL, hk => by
    rcases hask L with hn | ⟨i, hi, ho⟩
    · rw [runF_nil hn]
      left
      rw [tellP, tellQ, hL]
      exact hn
    · rw [runF_cons hi]
      obtain ⟨g1, g2, g3, g4, g5⟩ := has_len (mem_openK.1 ho).2
      cases hb : x.testBit i
      · simp only [tellP, tellQ, hb, Bool.false_eq_true, if_false]
        rcases tell_left ask hask xs x k (lacksL L i) p (nOr q (bit i)) (by rw [left_no, hL]) (by omega) with h | h
        · exact .inl h
        · rw [h] at g4; simp at g4
      · simp only [tellP, tellQ, hb, if_true]
        rcases tell_left ask hask xs x k (hasL L i) (nOr p (bit i)) q (by rw [left_yes, hL]) (by omega) with h | h
        · exact .inl h
        · rw [h] at g3; simp at g3
theorem tellP_bit (x j : Nat) : ∀ (l : List Nat) (p : Nat), (tellP x l p).testBit j = (p.testBit j || (decide (j ∈ l) && x.testBit j))
  | [], p => by simp [tellP]
  | i :: l, p => by
    rw [tellP, tellP_bit x j l]
    by_cases e : i = j
    · subst e
      cases hb : x.testBit i <;> simp [hb, nOr_bit, bit_bit]
    · cases hb : x.testBit i <;> simp [hb, nOr_bit, bit_bit, e, Ne.symm e]
theorem tellQ_bit (x j : Nat) : ∀ (l : List Nat) (q : Nat), (tellQ x l q).testBit j = (q.testBit j || (decide (j ∈ l) && !x.testBit j))
  | [], q => by simp [tellQ]
  | i :: l, q => by
    rw [tellQ, tellQ_bit x j l]
    by_cases e : i = j
    · subst e
      cases hb : x.testBit i <;> simp [hb, nOr_bit, bit_bit]
    · cases hb : x.testBit i <;> simp [hb, nOr_bit, bit_bit, e, Ne.symm e]
theorem tell_apart (x : Nat) (l : List Nat) : nAnd (tellP x l 0) (tellQ x l 0) = 0 := by
  rw [nAnd_zero]
  intro i hi
  rw [tellP_bit] at hi
  rw [tellQ_bit]
  simp at hi ⊢
  intro _
  exact hi.2
end Go.Proofs.Ytnncipcldbopgaa
namespace Go.Proofs.Ytnncipcldbopgaa
set_option linter.unusedSimpArgs false
set_option linter.unusedVariables false
set_option maxHeartbeats 4000000
open Go Go.Eng
attribute [local irreducible] WD RunD PreD Runs CallOK
noncomputable def ansB (N : Int) (X : List Int) (y z : Int) : Bool := spB N X && (setB N.toNat y && (setB N.toNat z && decide (nAnd y.toNat z.toNat = 0)))
noncomputable def goB (N : Int) (X : List Int) (y z : Int) : Bool := ansB N X y z && decide (leftN (natsOf X) y.toNat z.toNat ≠ [])
theorem ansB_true {N : Int} {X : List Int} {y z : Int} (h : ansB N X y z = true) : ∃ n xs a b, N = (n : Nat) ∧ X = toN xs ∧ y = (a : Nat) ∧ z = (b : Nat) ∧ SpGood n xs ∧ a < bit n ∧ b < bit n ∧ nAnd a b = 0 := by
  unfold ansB at h
  simp only [Bool.and_eq_true, decide_eq_true_iff] at h
  obtain ⟨h1, h2, h3, h4⟩ := h
  obtain ⟨n, xs, rfl, rfl, g⟩ := spB_true h1
  obtain ⟨a, rfl, ha⟩ := setB_true h2
  obtain ⟨b, rfl, hb⟩ := setB_true h3
  exact ⟨n, xs, a, b, rfl, rfl, rfl, rfl, g, ha, hb, h4⟩
theorem ansB_of {n : Nat} {xs : List Nat} (g : SpGood n xs) {a b : Nat} (ha : a < bit n) (hb : b < bit n) (hab : nAnd a b = 0) : ansB (n : Int) (toN xs) (a : Int) (b : Int) = true := by
  simp [ansB, spB_of g, setB_of ha, setB_of hb, hab]
theorem goB_true {N : Int} {X : List Int} {y z : Int} (h : goB N X y z = true) : ∃ n xs a b, N = (n : Nat) ∧ X = toN xs ∧ y = (a : Nat) ∧ z = (b : Nat) ∧ SpGood n xs ∧ a < bit n ∧ b < bit n ∧ nAnd a b = 0 ∧ leftN xs a b ≠ [] := by
  unfold goB at h
  simp only [Bool.and_eq_true, decide_eq_true_iff] at h
  obtain ⟨h1, h2⟩ := h
  obtain ⟨n, xs, a, b, rfl, rfl, rfl, rfl, g, ha, hb, hab⟩ := ansB_true h1
  exact ⟨n, xs, a, b, rfl, rfl, rfl, rfl, g, ha, hb, hab, by simpa using h2⟩
theorem goB_of {n : Nat} {xs : List Nat} (g : SpGood n xs) {a b : Nat} (ha : a < bit n) (hb : b < bit n) (hab : nAnd a b = 0) (hne : leftN xs a b ≠ []) : goB (n : Int) (toN xs) (a : Int) (b : Int) = true := by
  simp [goB, ansB_of g ha hb hab, hne]
theorem areAns_ok (h : Hp) (v : Value) (N : Int) (X : List Int) (y z : Int) (hv : Space h v N X) (hl : X.length < 2 ^ 40) : CallOK Try.prog 168 #[v, .int .i64 y, .int .i64 z] h (.bool (ansB N X y z)) h := by
  refine callY_P 22 _ [.tmp 6] Try.func168 rfl rfl rfl (by first | rfl | simp) ?_
  obtain ⟨b, rfl, hX⟩ := hv
  refine WD_first ?_
  try simp (disch := first | omega | (simp; done) | fail) [wrap64c, if_pos, if_neg, opAnd, opOr, opXor, opDiff, opShr, opBit]
  refine stopK_heap fun h0 q_h0 => ?_
  refine stopK_go ?_
  have g_h0 : h0.get h.next = .cells [.int .i64 N, b] true true 1 := by simp [q_h0]
  have k_h0 : Adds h h0 := by rw [q_h0]; exact (by first | exact aK | exact kK)
  have n_h0 : h.next < h0.next := by simp [q_h0]; try omega
  have hX0 := hX.keep k_h0.1
  have K0 := k_h0.1
  have p0 : CallOK Try.prog 122 #[.agg #[.int .i64 N, b], .int .i64 y] h0 (.bool (inB N X y)) h0 := hasSet_ok h0 (.agg #[.int .i64 N, b]) N X y (.mk hX0) hl
  try simp (disch := first | omega | (simp; done) | fail) [wrap64c, if_pos, if_neg, opAnd, opOr, opXor, opDiff, opShr, opBit, g_h0]
  refine callG_c (by simp) (by simp) ?ha (p0) ?_
  (case ha => simp (disch := first | omega | (simp; done) | fail) [wrap64c, if_pos, if_neg, opAnd, opOr, opXor, opDiff, opShr, opBit, g_h0])
  cases c1 : inB N X y
  · try simp (disch := first | omega | (simp; done) | fail) [wrap64c, if_pos, if_neg, opAnd, opOr, opXor, opDiff, opShr, opBit, g_h0, c1]
    have : ansB N X y z = false := by
      unfold inB at c1
      unfold ansB
      revert c1
      cases spB N X <;> cases setB N.toNat y <;> simp
    exact done_ret rfl (by simp [this, K0])
  · obtain ⟨n, xs, x, hN, hXe, ha, g, hx⟩ := inB_true c1
    subst hN hXe ha
    have n7 := g.n7
    have hb7 := bit7 n7
    try simp (disch := first | omega | (simp; done) | fail) [wrap64c, if_pos, if_neg, opAnd, opOr, opXor, opDiff, opShr, opBit, g_h0, c1]
    refine callG_c (by simp) (by simp) ?ha (isSet_ok h0 n z (by omega)) ?_
    (case ha => simp (disch := first | omega | (simp; done) | fail) [wrap64c, if_pos, if_neg, opAnd, opOr, opXor, opDiff, opShr, opBit, g_h0, c1])
    cases c2 : setB n z
    · try simp (disch := first | omega | (simp; done) | fail) [wrap64c, if_pos, if_neg, opAnd, opOr, opXor, opDiff, opShr, opBit, g_h0, c1, c2]
      exact done_ret rfl (by simp [ansB, c2, K0])
    · obtain ⟨w, rfl, hw⟩ := setB_true c2
      try simp (disch := first | omega | (simp; done) | fail) [wrap64c, if_pos, if_neg, opAnd, opOr, opXor, opDiff, opShr, opBit, g_h0, c1, c2]
      refine done_ret rfl ⟨?_, K0⟩
      by_cases hz : nAnd x w = 0 <;> simp [ansB, spB_of g, setB_of hx, setB_of hw, hz]
theorem goOn_ok (h : Hp) (v : Value) (N : Int) (X : List Int) (y z : Int) (hv : Space h v N X) (hl : X.length < 2 ^ 39) : CallOK Try.prog 155 #[v, .int .i64 y, .int .i64 z] h (.bool (goB N X y z)) h := by
  refine callY_P 19 _ [.tmp 6] Try.func155 rfl rfl rfl (by first | rfl | simp) ?_
  obtain ⟨b, rfl, hX⟩ := hv
  refine WD_first ?_
  try simp (disch := first | omega | (simp; done) | fail) [wrap64c, if_pos, if_neg, opAnd, opOr, opXor, opDiff, opShr, opBit]
  refine stopK_heap fun h0 q_h0 => ?_
  refine stopK_go ?_
  have g_h0 : h0.get h.next = .cells [.int .i64 N, b] true true 1 := by simp [q_h0]
  have k_h0 : Adds h h0 := by rw [q_h0]; exact (by first | exact aK | exact kK)
  have n_h0 : h.next < h0.next := by simp [q_h0]; try omega
  have hX0 := hX.keep k_h0.1
  have K0 := k_h0.1
  try simp (disch := first | omega | (simp; done) | fail) [wrap64c, if_pos, if_neg, opAnd, opOr, opXor, opDiff, opShr, opBit, g_h0]
  refine callG_c (by simp) (by simp) ?ha (areAns_ok h0 (.agg #[.int .i64 N, b]) N X y z (.mk hX0) (by omega)) ?_
  (case ha => simp (disch := first | omega | (simp; done) | fail) [wrap64c, if_pos, if_neg, opAnd, opOr, opXor, opDiff, opShr, opBit, g_h0])
  cases c1 : ansB N X y z
  · try simp (disch := first | omega | (simp; done) | fail) [wrap64c, if_pos, if_neg, opAnd, opOr, opXor, opDiff, opShr, opBit, g_h0, c1]
    exact done_ret rfl (by simp [goB, c1, K0])
  · obtain ⟨n, xs, a, c, hN, hXe, ha, hc, g, hx, hy, hac⟩ := ansB_true c1
    subst hN hXe ha hc
    have hb7 := bit7 g.n7
    have hl7 := g.len7
    obtain ⟨u, h1, p1, a1, i1⟩ := imLeft_ok h0 (.agg #[.int .i64 n, b]) n xs a c (.mk hX0) g.lt7 (by omega) (by omega) (by omega)
    have K1 := K0.trans a1.1
    have hlu := i1.ints.lenD
    have hln := toN_length (leftN xs a c)
    have hll := left_len xs a c
    try simp (disch := first | omega | (simp; done) | fail) [wrap64c, if_pos, if_neg, opAnd, opOr, opXor, opDiff, opShr, opBit, g_h0, c1, hlu]
    refine callG_c (by simp) (by simp) ?ha (p1) ?_
    (case ha => simp (disch := first | omega | (simp; done) | fail) [wrap64c, if_pos, if_neg, opAnd, opOr, opXor, opDiff, opShr, opBit, g_h0, c1, hlu])
    try simp (disch := first | omega | (simp; done) | fail) [wrap64c, if_pos, if_neg, opAnd, opOr, opXor, opDiff, opShr, opBit, g_h0, c1, hlu]
    refine done_ret rfl ⟨?_, K1⟩
    have : goB (n : Int) (toN xs) (a : Int) (c : Int) = decide (0 < (leftN xs a c).length) := by
      rw [goB, c1, Bool.true_and, natsOf_toN, decide_eq_decide, Int.toNat_natCast, Int.toNat_natCast, List.length_pos_iff]
    simp [this]
theorem asGood_ok (h : Hp) (v : Value) (N : Int) (X : List Int) (y z : Int) (hv : Space h v N X) (hl : X.length < 2 ^ 39) : CallOK Try.prog 158 #[v, .int .i64 y, .int .i64 z] h (.bool (goB N X y z)) h := by
  refine callY_P 37 _ [.tmp 6] Try.func158 rfl rfl rfl (by first | rfl | simp) ?_
  obtain ⟨b, rfl, hX⟩ := hv
  refine WD_first ?_
  try simp (disch := first | omega | (simp; done) | fail) [wrap64c, if_pos, if_neg, opAnd, opOr, opXor, opDiff, opShr, opBit]
  refine stopK_heap fun h0 q_h0 => ?_
  refine stopK_go ?_
  have g_h0 : h0.get h.next = .cells [.int .i64 N, b] true true 1 := by simp [q_h0]
  have k_h0 : Adds h h0 := by rw [q_h0]; exact (by first | exact aK | exact kK)
  have n_h0 : h.next < h0.next := by simp [q_h0]; try omega
  have hX0 := hX.keep k_h0.1
  have K0 := k_h0.1
  try simp (disch := first | omega | (simp; done) | fail) [wrap64c, if_pos, if_neg, opAnd, opOr, opXor, opDiff, opShr, opBit, g_h0]
  refine callG_c (by simp) (by simp) ?ha (spGood_ok h0 (.agg #[.int .i64 N, b]) N X (.mk hX0) (by omega)) ?_
  (case ha => simp (disch := first | omega | (simp; done) | fail) [wrap64c, if_pos, if_neg, opAnd, opOr, opXor, opDiff, opShr, opBit, g_h0])
  cases c0 : spB N X
  · try simp (disch := first | omega | (simp; done) | fail) [wrap64c, if_pos, if_neg, opAnd, opOr, opXor, opDiff, opShr, opBit, g_h0, c0]
    exact done_ret rfl (by simp [goB, ansB, c0, K0])
  · obtain ⟨n, xs, hN, hXe, g⟩ := spB_true c0
    subst hN hXe
    have n7 := g.n7
    have hb7 := bit7 n7
    have hl7 := g.len7
    have e1 : setB n y = decide (0 ≤ y ∧ y ≤ ((bit n : Nat) : Int) - 1) := by unfold setB; rw [decide_eq_decide]; omega
    have e2 : setB n z = decide (0 ≤ z ∧ z ≤ ((bit n : Nat) : Int) - 1) := by unfold setB; rw [decide_eq_decide]; omega
    have p1 := l1In_ok h0 y 0 (((bit n : Nat) : Int) - 1)
    have p2 := l1In_ok h0 z 0 (((bit n : Nat) : Int) - 1)
    rw [← e1] at p1
    rw [← e2] at p2
    try simp (disch := first | omega | (simp; done) | fail) [wrap64c, if_pos, if_neg, opAnd, opOr, opXor, opDiff, opShr, opBit, g_h0, c0]
    refine callG_c (by simp) (by simp) ?ha (p1) ?_
    (case ha => simp (disch := first | omega | (simp; done) | fail) [wrap64c, if_pos, if_neg, opAnd, opOr, opXor, opDiff, opShr, opBit, g_h0, c0])
    cases d1 : setB n y
    · try simp (disch := first | omega | (simp; done) | fail) [wrap64c, if_pos, if_neg, opAnd, opOr, opXor, opDiff, opShr, opBit, g_h0, c0, d1]
      exact done_ret rfl (by simp [goB, ansB, d1, K0])
    · try simp (disch := first | omega | (simp; done) | fail) [wrap64c, if_pos, if_neg, opAnd, opOr, opXor, opDiff, opShr, opBit, g_h0, c0, d1]
      refine callG_c (by simp) (by simp) ?ha (p2) ?_
      (case ha => simp (disch := first | omega | (simp; done) | fail) [wrap64c, if_pos, if_neg, opAnd, opOr, opXor, opDiff, opShr, opBit, g_h0, c0, d1])
      cases d2 : setB n z
      · try simp (disch := first | omega | (simp; done) | fail) [wrap64c, if_pos, if_neg, opAnd, opOr, opXor, opDiff, opShr, opBit, g_h0, c0, d1, d2]
        exact done_ret rfl (by simp [goB, ansB, d2, K0])
      · obtain ⟨a, rfl, ha⟩ := setB_true d1
        obtain ⟨c, rfl, hc⟩ := setB_true d2
        by_cases d3 : nAnd a c = 0
        · obtain ⟨u, h1, q1, a1, i1⟩ := spLeft_ok h0 (.agg #[.int .i64 n, b]) n xs a c (.mk hX0) g.lt7 (by omega) (by omega) (by omega)
          have K1 := K0.trans a1.1
          have hlu := i1.ints.lenD
          have hln := toN_length (leftN xs a c)
          have hll := left_len xs a c
          try simp (disch := first | omega | (simp; done) | fail) [wrap64c, if_pos, if_neg, opAnd, opOr, opXor, opDiff, opShr, opBit, g_h0, c0, d1, d2, d3, hlu]
          refine callG_c (by simp) (by simp) ?ha (q1) ?_
          (case ha => simp (disch := first | omega | (simp; done) | fail) [wrap64c, if_pos, if_neg, opAnd, opOr, opXor, opDiff, opShr, opBit, g_h0, c0, d1, d2, d3, hlu])
          try simp (disch := first | omega | (simp; done) | fail) [wrap64c, if_pos, if_neg, opAnd, opOr, opXor, opDiff, opShr, opBit, g_h0, c0, d1, d2, d3, hlu]
          refine done_ret rfl ⟨?_, K1⟩
          have : goB (n : Int) (toN xs) (a : Int) (c : Int) = decide (0 < (leftN xs a c).length) := by
            rw [goB, ansB_of g ha hc d3, Bool.true_and, natsOf_toN, decide_eq_decide, Int.toNat_natCast, Int.toNat_natCast, List.length_pos_iff]
          simp [this]
        · try simp (disch := first | omega | (simp; done) | fail) [wrap64c, if_pos, if_neg, opAnd, opOr, opXor, opDiff, opShr, opBit, g_h0, c0, d1, d2, d3]
          exact done_ret rfl (by simp [goB, ansB, d3, K0])
noncomputable def leftR (N : Int) (X : List Int) (y z : Int) : List Int := if goB N X y z = true then toN (leftN (natsOf X) y.toNat z.toNat) else []
noncomputable def inR (N : Int) (X : List Int) (y z : Int) : Int := if goB N X y z = true then ((inS N.toNat (leftN (natsOf X) y.toNat z.toNat) : Nat) : Int) else 0
noncomputable def outR (N : Int) (X : List Int) (y z : Int) : Int := if goB N X y z = true then ((outS N.toNat (leftN (natsOf X) y.toNat z.toNat) : Nat) : Int) else 0
theorem implKnown_ok (h : Hp) (v : Value) (N : Int) (X : List Int) (y z : Int) (hv : Space h v N X) (hl : X.length < 2 ^ 39) :
    CallOK Try.prog 49 #[v, .int .i64 y, .int .i64 z] h (.tuple #[.int .i64 (inR N X y z), .int .i64 (outR N X y z), .bool (goB N X y z)]) h := by
  refine callY_P 40 _ [.tmp 6, .tmp 7, .tmp 8] Try.func49 rfl rfl rfl (by first | rfl | simp) ?_
  obtain ⟨b, rfl, hX⟩ := hv
  refine WD_first ?_
  try simp (disch := first | omega | (simp; done) | fail) [wrap64c, if_pos, if_neg, opAnd, opOr, opXor, opDiff, opShr, opBit]
  refine stopK_heap fun h0 q_h0 => ?_
  refine stopK_go ?_
  have g_h0 : h0.get h.next = .cells [.int .i64 N, b] true true 1 := by simp [q_h0]
  have k_h0 : Adds h h0 := by rw [q_h0]; exact (by first | exact aK | exact kK)
  have n_h0 : h.next < h0.next := by simp [q_h0]; try omega
  have hX0 := hX.keep k_h0.1
  have K0 := k_h0.1
  try simp (disch := first | omega | (simp; done) | fail) [wrap64c, if_pos, if_neg, opAnd, opOr, opXor, opDiff, opShr, opBit, g_h0]
  refine callG_c (by simp) (by simp) ?ha (goOn_ok h0 (.agg #[.int .i64 N, b]) N X y z (.mk hX0) hl) ?_
  (case ha => simp (disch := first | omega | (simp; done) | fail) [wrap64c, if_pos, if_neg, opAnd, opOr, opXor, opDiff, opShr, opBit, g_h0])
  cases c1 : goB N X y z
  · try simp (disch := first | omega | (simp; done) | fail) [wrap64c, if_pos, if_neg, opAnd, opOr, opXor, opDiff, opShr, opBit, g_h0, c1]
    exact done_ret rfl (by simp [inR, outR, c1, K0])
  · obtain ⟨n, xs, a, c, hN, hXe, ha, hc, g, hx, hy, hac, hne⟩ := goB_true c1
    subst hN hXe ha hc
    have hb7 := bit7 g.n7
    have hl7 := g.len7
    have n7 := g.n7
    obtain ⟨L, hLe⟩ : ∃ L, L = leftN xs a c := ⟨_, rfl⟩
    have hLx : ∀ x ∈ L, x < 128 := fun x hm => g.lt7 x (left_sub (hLe ▸ hm))
    have hLl : L.length ≤ 128 := by have := left_len xs a c; rw [hLe]; omega
    obtain ⟨u, h1, p1, a1, i1⟩ := imLeft_ok h0 (.agg #[.int .i64 n, b]) n xs a c (.mk hX0) g.lt7 (by omega) (by omega) (by omega)
    rw [← hLe] at i1
    have K1 := K0.trans a1.1
    have gb : h1.get h.next = .cells [.int .i64 n, b] true true 1 := by rw [a1.1.2 _ (by omega)]; exact g_h0
    have hL := i1.ints.lenD
    have hgt := toN_get L
    have hln := toN_length L
    try simp (disch := first | omega | (simp; done) | fail) [wrap64c, if_pos, if_neg, opAnd, opOr, opXor, opDiff, opShr, opBit, g_h0, c1, gb, hL, hgt]
    refine WD_drawC 3 rfl (by kernel_rfl) ?_
    try simp (disch := first | omega | (simp; done) | fail) [wrap64c, if_pos, if_neg, opAnd, opOr, opXor, opDiff, opShr, opBit, g_h0, c1, gb, hL, hgt]
    refine callP_c (by simp) (by simp) ?ha (all_ok h0 (.agg #[.int .i64 n, b]) n (toN xs) (.mk hX0) (by omega)) ?hadd ?_
    (case ha => simp (disch := first | omega | (simp; done) | fail) [wrap64c, if_pos, if_neg, opAnd, opOr, opXor, opDiff, opShr, opBit, g_h0, c1, gb, hL, hgt])
    (case hadd => first | assumption | exact adds_self _ | (simp; done))
    try simp (disch := first | omega | (simp; done) | fail) [wrap64c, if_pos, if_neg, opAnd, opOr, opXor, opDiff, opShr, opBit, g_h0, c1, gb, hL, hgt]
    refine callG_c (by simp) (by simp) ?ha (all_ok h0 (.agg #[.int .i64 n, b]) n (toN xs) (.mk hX0) (by omega)) ?_
    (case ha => simp (disch := first | omega | (simp; done) | fail) [wrap64c, if_pos, if_neg, opAnd, opOr, opXor, opDiff, opShr, opBit, g_h0, c1, gb, hL, hgt])
    try simp (disch := first | omega | (simp; done) | fail) [wrap64c, if_pos, if_neg, opAnd, opOr, opXor, opDiff, opShr, opBit, g_h0, c1, gb, hL, hgt]
    refine callG_c (by simp) (by simp) ?ha (p1) ?_
    (case ha => simp (disch := first | omega | (simp; done) | fail) [wrap64c, if_pos, if_neg, opAnd, opOr, opXor, opDiff, opShr, opBit, g_h0, c1, gb, hL, hgt])
    try simp (disch := first | omega | (simp; done) | fail) [wrap64c, if_pos, if_neg, opAnd, opOr, opXor, opDiff, opShr, opBit, g_h0, c1, gb, hL, hgt]
    refine WD_loopC [25, 26] (fun m tm h' => ∃ j, m = L.length - j ∧ h1 = h' ∧ tm 9 = .int .i64 (((L.take j).foldl nAnd (bit n - 1) : Nat) : Int) ∧ tm 10 = .int .i64 (((L.take j).foldl ndiff (bit n - 1) : Nat) : Int) ∧ tm 27 = .int .i64 (j : Int) ∧ (j ≤ L.length) ∧ ((L.take j).foldl ndiff (bit n - 1) < 128)) _ ⟨0, rfl, rfl, (by simp (disch := first | omega | (simp; done) | fail) [wrap64c, if_pos, if_neg, opAnd, opOr, opXor, opDiff, opShr, opBit, g_h0, c1, gb, hL, hgt]), (by simp (disch := first | omega | (simp; done) | fail) [wrap64c, if_pos, if_neg, opAnd, opOr, opXor, opDiff, opShr, opBit, g_h0, c1, gb, hL, hgt]), (by simp (disch := first | omega | (simp; done) | fail) [wrap64c, if_pos, if_neg, opAnd, opOr, opXor, opDiff, opShr, opBit, g_h0, c1, gb, hL, hgt]), (by first | omega | assumption | (simp (disch := first | omega | (simp; done) | fail) [wrap64c, if_pos, if_neg, opAnd, opOr, opXor, opDiff, opShr, opBit, g_h0, c1, gb, hL, hgt] <;> omega)), (by simp; omega)⟩ ?_
    rintro m tm h' hFr ⟨j, rfl, rfl, e9, e10, e27, hj, hb2⟩
    simp only [FrameL] at hFr
    obtain ⟨f25_0, f26_0, -⟩ := hFr
    try simp (disch := first | omega | (simp; done) | fail) [wrap64c, if_pos, if_neg, opAnd, opOr, opXor, opDiff, opShr, opBit, g_h0, c1, gb, hL, hgt] at f25_0 f26_0
    have e25 := f25_0
    have e26 := f26_0
    have hba := foldAnd_le (L.take j) (bit n - 1)
    by_cases hlt : j < L.length
    · obtain ⟨o_x, i_x, c_x, cs_x, own_x, ex_x, es_x, q_x, b_x, g_x, l_x, r_x⟩ := i1.ints.open ((by simp; omega))
      have z_x : ∀ h2 : i_x < cs_x.length, cs_x[i_x] = _ := fun h2 => r_x 0 ((by simp; omega)) h2
      have hx1 := hLx _ (List.getElem_mem hlt)
      have h1 := fold_take hlt nAnd (bit n - 1)
      have h2 := fold_take hlt ndiff (bit n - 1)
      have h3 := ndiff128 (b := L[j]) hb2
      try simp (disch := first | omega | (simp; done) | fail) [wrap64c, if_pos, if_neg, opAnd, opOr, opXor, opDiff, opShr, opBit, g_h0, c1, gb, hL, hgt, e9, e10, e25, e26, e27, hlt, q_x, g_x, l_x, r_x, z_x]
      refine loopK_next _ ?hm ?hf ⟨j + 1, rfl, rfl, (by simp [h1]), (by simp [h2]), (by simp (disch := first | omega | (simp; done) | fail) [wrap64c, if_pos, if_neg, opAnd, opOr, opXor, opDiff, opShr, opBit, g_h0, c1, gb, hL, hgt, e9, e10, e25, e26, e27, hlt, q_x, g_x, l_x, r_x, z_x] <;> omega), (by first | omega | assumption | (simp (disch := first | omega | (simp; done) | fail) [wrap64c, if_pos, if_neg, opAnd, opOr, opXor, opDiff, opShr, opBit, g_h0, c1, gb, hL, hgt, e9, e10, e25, e26, e27, hlt, q_x, g_x, l_x, r_x, z_x] <;> omega)), (by rw [h2]; exact h3)⟩
      (case hm => first | omega | (simp; omega))
      (case hf => simp [FrameL, g_h0, c1, gb, hL, hgt, e9, e10, e25, e26, e27, hlt, q_x, g_x, l_x, r_x, z_x, f25_0, f26_0])
    · have hft : L.take j = L := List.take_of_length_le (by omega)
      try simp (disch := first | omega | (simp; done) | fail) [wrap64c, if_pos, if_neg, opAnd, opOr, opXor, opDiff, opShr, opBit, g_h0, c1, gb, hL, hgt, e9, e10, e25, e26, e27, hlt]
      exact done_ret rfl (by simp [inR, outR, inS, outS, c1, ← hLe, hft, K1])
end Go.Proofs.Ytnncipcldbopgaa
namespace Go.Proofs.Ytnncipcldbopgaa
set_option linter.unusedSimpArgs false
set_option linter.unusedVariables false
set_option maxHeartbeats 4000000
open Go Go.Eng
attribute [local irreducible] WD RunD PreD Runs CallOK
theorem ask_le {L : List Nat} (hl : L.length ≤ 128) : ∀ x ∈ (openN L).map (askN L), x ≤ 1073741824 := by
  intro x hx
  obtain ⟨i, hi, rfl⟩ := List.mem_map.1 hx
  have := askN_le (mem_openK.1 hi).2
  omega
theorem tot_bound {a b c : Nat} (h : a + b = c) (ha : 0 < a) (hb : 0 < b) : c + a * a + b * b ≤ c * c := by
  subst h
  have h1 : a * 1 ≤ a * b := Nat.mul_le_mul (Nat.le_refl _) hb
  have h2 : 1 * b ≤ a * b := Nat.mul_le_mul ha (Nat.le_refl _)
  have h3 : (a + b) * (a + b) = a * a + a * b + (a * b + b * b) := by rw [Nat.add_mul, Nat.mul_add, Nat.mul_add, Nat.mul_comm b a]
  omega
theorem sq_le {a : Nat} (h : a ≤ 128) : a * a ≤ 16384 := Nat.mul_le_mul h h
theorem tot_sq : ∀ (k : Nat) (L : List Nat), L.length ≤ k → totN L ≤ L.length * L.length
  | 0, L, hk => by
    have : L = [] := List.length_eq_zero_iff.1 (by omega)
    subst this; rw [tot_none (open_nil [] rfl)]; exact Nat.zero_le _
  | k + 1, L, hk => by
    by_cases he : openN L = []
    · rw [tot_none he]; exact Nat.zero_le _
    · obtain ⟨i, hi, ha⟩ := tot_at he
      have hlen := has_len (mem_openK.1 hi).2
      have h1 := tot_sq k (hasL L i) (by omega)
      have h2 := tot_sq k (lacksL L i) (by omega)
      have := tot_bound hlen.2.2.2.2 hlen.2.2.1 hlen.2.2.2.1
      rw [ha]
      unfold tasN
      omega
theorem tas_le {L : List Nat} (hl : L.length ≤ 128) : ∀ x ∈ (openN L).map (tasN L), x ≤ 1073741824 := by
  intro x hx
  obtain ⟨i, hi, rfl⟩ := List.mem_map.1 hx
  have hlen := has_len (mem_openK.1 hi).2
  have h1 := tot_sq _ (hasL L i) (Nat.le_refl _)
  have h2 := tot_sq _ (lacksL L i) (Nat.le_refl _)
  have := tot_bound hlen.2.2.2.2 hlen.2.2.1 hlen.2.2.2.1
  have := sq_le hl
  unfold tasN
  omega
theorem spLeast_ok (base ot o1 o2 n wd : Nat) (b : Value) (xs : List Nat) (g : SpGood n xs) (hm2 : wd = 2 * n) : ∀ (d : Nat) (h : Hp) (y z : Nat), TabOK base ot o1 o2 n wd b xs h → base ≤ h.next → y < 128 → z < 128 → (leftN xs y z) ≠ [] → (leftN xs y z).length < d →
    ∃ v h', CallOK Try.prog 160 #[.pointer (some ⟨ot, 0, none⟩), .int .i64 (y : Int), .int .i64 (z : Int)] h v h' ∧
      (∃ t : Nat, v = .tuple #[.int .i64 ((worstN (leftN xs y z) : Nat) : Int), .int .i64 (t : Int)] ∧ t ≤ (leftN xs y z).length * (leftN xs y z).length ∧ t = totN (leftN xs y z)) ∧ Wr (fun q => q = o1 ∨ q = o2) h h' ∧ TabOK base ot o1 o2 n wd b xs h' := by
  intro d
  induction d with
  | zero => intro h y z _ _ _ _ _ hd; omega
  | succ d ih =>
    intro h y z hT hb hy hz hne hd
    refine callY_L (args := [.pointer (some ⟨ot, 0, none⟩), .int .i64 (y : Int), .int .i64 (z : Int)]) 129 _ [.tmp 6, .tmp 7] Try.func160 rfl rfl rfl ?_
    have n7 := g.n7
    have hl7 := g.len7
    have htb := hT.tb
    have hb1 := hT.b1
    have hb2 := hT.b2
    try simp (disch := first | omega | (simp; done) | fail) [wrap64c, if_pos, if_neg, opAnd, opOr, opXor, opDiff, opShr, opBit]
    obtain ⟨_, h1, hc1, ha1, u, rfl, hi1⟩ := closed_ok h base ot o1 o2 n wd b xs y z hT hb n7 g.lt7 hl7 hy hz
    refine callG_c (by simp) (by simp) ?ha (hc1) ?_
    (case ha => simp (disch := first | omega | (simp; done) | fail) [wrap64c, if_pos, if_neg, opAnd, opOr, opXor, opDiff, opShr, opBit])
    have hcl := closed_left g.lt hne
    have hT1 := hT.adds hb ha1
    have hn1 := ha1.1.1
    obtain ⟨L, hLe⟩ : ∃ L, L = leftN xs y z := ⟨_, rfl⟩
    have hLn : ∀ x ∈ L, x < bit n := fun x hm => g.lt x (left_sub (hLe ▸ hm))
    have hLl : L.length ≤ 128 := by have := left_len xs y z; rw [hLe]; omega
    rw [← hLe] at hi1 hcl hne hd
    have hLe' := hLe.symm
    have hM1 := hi1.ints.lenD
    have hln1 := toN_length L
    have hi2 := inS_lt n L
    have ho2 := outS_lt n L
    have hbn := bit7 n7
    by_cases hone : L.length = 1
    · try simp (disch := first | omega | (simp; done) | fail) [wrap64c, if_pos, if_neg, opAnd, opOr, opXor, opDiff, opShr, opBit, hLe', hM1, hln1, hone]
      have hoe : openN L = [] := Classical.byContradiction fun hn => by
        obtain ⟨i, hi⟩ := List.exists_mem_of_ne_nil _ hn
        have := has_len (mem_openK.1 hi).2
        omega
      exact done_ret rfl ⟨⟨0, by rw [← hLe, worst_one hone]; rfl, by omega, by rw [← hLe, tot_none hoe]⟩, .of_adds ha1, hT1⟩
    · have hL0 : 0 < L.length := List.length_pos_iff.2 hne
      obtain ⟨iN, hiN⟩ : ∃ x, x = inS n L := ⟨_, rfl⟩
      obtain ⟨oN, hoN⟩ : ∃ x, x = outS n L := ⟨_, rfl⟩
      rw [← hiN, ← hoN] at hcl
      rw [← hiN] at hi2
      rw [← hoN] at ho2
      have hiN' := hiN.symm
      have hoN' := hoN.symm
      have hpe := place_eq (a := iN) ho2
      have hpl := place_lt hm2 hi2 ho2
      have hpd := place_div (a := iN) ho2
      obtain ⟨at', hat⟩ : ∃ x, x = iN * bit n + oN := ⟨_, rfl⟩
      rw [← hat] at hpe hpl hpd
      have hpe' := hpe
      have hshl := opShl (iN : Int) (n : Int) (by omega) (by omega) (by omega) (by omega)
      simp only [Int.toNat_natCast] at hshl
      have hshl := hshl
      have hwl := worstN_le L
      have hsh : nShl iN n ≤ 16384 := by
        have : nShl iN n = iN * bit n := by unfold nShl bit; rw [Nat.shiftLeft_eq]
        have h2 : iN * bit n ≤ 128 * 128 := Nat.mul_le_mul (by omega) (by omega)
        omega
      have hbm := bit_mono (i := wd) (j := 14) (by omega)
      have hb14 : bit 14 = 16384 := rfl
      obtain ⟨W, T, eW, eT, gW, gT, hWT⟩ := hT1.ent
      have ht1 := hT1.tab
      have gW := gW
      have gT := gT
      have hcW := cellsN_getD W
      have hcT := cellsN_getD T
      have eW := eW
      have eT := eT
      have haW : at' < W.length := by rw [eW]; omega
      have haT : at' < T.length := by rw [eT]; omega
      by_cases hpos : 0 < W[at']
      · obtain ⟨q1, q2, q3, q4⟩ := hWT at' haW haT hpos
        rw [hpd.1, hpd.2, hcl] at q1 q3 q4
        have hsq := sq_le hLl
        try simp (disch := first | omega | (simp; done) | fail) [wrap64c, if_pos, if_neg, opAnd, opOr, opXor, opDiff, opShr, opBit, hLe', hM1, hln1, hone, hiN', hoN', hpe', hshl, ht1, gW, gT, hcW, hcT, eW, eT, hpos]
        refine WD_drawC 17 rfl (by kernel_rfl) ?_
        try simp (disch := first | omega | (simp; done) | fail) [wrap64c, if_pos, if_neg, opAnd, opOr, opXor, opDiff, opShr, opBit, hLe', hM1, hln1, hone, hiN', hoN', hpe', hshl, ht1, gW, gT, hcW, hcT, eW, eT, hpos]
        refine done_ret rfl ⟨⟨T[at'] - 1, ?_, by rw [← hLe]; omega, by rw [← hLe]; omega⟩, .of_adds ha1, hT1⟩
        simp [← hLe]; omega
      · try simp (disch := first | omega | (simp; done) | fail) [wrap64c, if_pos, if_neg, opAnd, opOr, opXor, opDiff, opShr, opBit, hLe', hM1, hln1, hone, hiN', hoN', hpe', hshl, ht1, gW, gT, hcW, hcT, eW, eT, hpos]
        refine WD_loopC [0, 8, 9, 10, 11] (fun m tm h' => ∃ i t, m = n - i + 0 * t ∧ tm 12 = .int .i64 ((minW ((openK L i).map (askN L)) : Nat) : Int) ∧ tm 13 = .int .i64 (t : Int) ∧ tm 14 = .int .i64 (i : Int) ∧ (i ≤ n) ∧ ((openK L i = [] ∧ t = 1073741824) ∨ t ≤ L.length * L.length) ∧ (t = minW ((openK L i).map (tasN L))) ∧ (Wr (fun q => q = o1 ∨ q = o2) h1 h') ∧ (TabOK base ot o1 o2 n wd b xs h')) _ ⟨0, 1073741824, rfl, (by simp [minW, openK]), (by simp (disch := first | omega | (simp; done) | fail) [wrap64c, if_pos, if_neg, opAnd, opOr, opXor, opDiff, opShr, opBit, hLe', hM1, hln1, hone, hiN', hoN', hpe', hshl, ht1, gW, gT, hcW, hcT, eW, eT, hpos]), (by simp (disch := first | omega | (simp; done) | fail) [wrap64c, if_pos, if_neg, opAnd, opOr, opXor, opDiff, opShr, opBit, hLe', hM1, hln1, hone, hiN', hoN', hpe', hshl, ht1, gW, gT, hcW, hcT, eW, eT, hpos]), (by first | omega | assumption | (simp (disch := first | omega | (simp; done) | fail) [wrap64c, if_pos, if_neg, opAnd, opOr, opXor, opDiff, opShr, opBit, hLe', hM1, hln1, hone, hiN', hoN', hpe', hshl, ht1, gW, gT, hcW, hcT, eW, eT, hpos] <;> omega)), (.inl ⟨rfl, rfl⟩), (by simp [minW, openK]), (Wr.refl _ _), hT1⟩ ?_
        rintro m tm h' hFr ⟨i, t, rfl, e12, e13, e14, hi, ht, hte, hW, hTT⟩
        simp only [FrameL] at hFr
        obtain ⟨f0_0, f8_0, f9_0, f10_0, f11_0, -⟩ := hFr
        try simp (disch := first | omega | (simp; done) | fail) [wrap64c, if_pos, if_neg, opAnd, opOr, opXor, opDiff, opShr, opBit, hLe', hM1, hln1, hone, hiN', hoN', hpe', hshl, ht1, gW, gT, hcW, hcT, eW, eT, hpos] at f0_0 f8_0 f9_0 f10_0 f11_0
        have e0 := f0_0
        have e8 := f8_0
        have e9 := f9_0
        have e10 := f10_0
        have e11 := f11_0
        have ht' := hTT.tab
        have hn2 := hW.upd.1
        have hsq := sq_le hLl
        have hmw := minW_le ((openK L i).map (askN L))
        by_cases hlt : i < n
        · have hkb := known_bit (n := n) hne hlt
          have hkb1 : (nOr iN oN).testBit i = !opB L i := by rw [hiN, hoN]; exact hkb
          have hor := nOr128 (a := iN) (b := oN) (by omega) (by omega)
          have hos := openK_succ L i
          try simp (disch := first | omega | (simp; done) | fail) [wrap64c, if_pos, if_neg, opAnd, opOr, opXor, opDiff, opShr, opBit, hLe', hM1, hln1, hone, hiN', hoN', hpe', hshl, ht1, gW, gT, hcW, hcT, eW, eT, hpos, e0, e8, e9, e10, e11, e12, e13, e14, ht', hlt]
          refine callG_c (by simp) (by simp) ?ha (spIn_ok h' (nOr iN oN) i (by omega) (by omega)) ?_
          (case ha => simp (disch := first | omega | (simp; done) | fail) [wrap64c, if_pos, if_neg, opAnd, opOr, opXor, opDiff, opShr, opBit, hLe', hM1, hln1, hone, hiN', hoN', hpe', hshl, ht1, gW, gT, hcW, hcT, eW, eT, hpos, e0, e8, e9, e10, e11, e12, e13, e14, ht', hlt])
          cases hop : opB L i
          · rw [hop] at hkb1 hos
            have hkb1 := hkb1
            have hos' : openK L (i + 1) = openK L i := hos
            try simp (disch := first | omega | (simp; done) | fail) [wrap64c, if_pos, if_neg, opAnd, opOr, opXor, opDiff, opShr, opBit, hLe', hM1, hln1, hone, hiN', hoN', hpe', hshl, ht1, gW, gT, hcW, hcT, eW, eT, hpos, e0, e8, e9, e10, e11, e12, e13, e14, ht', hlt, hkb1]
            refine loopK_next _ ?hm ?hf ⟨i + 1, t, rfl, (by simp [hos', e12]), (by simp (disch := first | omega | (simp; done) | fail) [wrap64c, if_pos, if_neg, opAnd, opOr, opXor, opDiff, opShr, opBit, hLe', hM1, hln1, hone, hiN', hoN', hpe', hshl, ht1, gW, gT, hcW, hcT, eW, eT, hpos, e0, e8, e9, e10, e11, e12, e13, e14, ht', hlt, hkb1] <;> omega), (by simp (disch := first | omega | (simp; done) | fail) [wrap64c, if_pos, if_neg, opAnd, opOr, opXor, opDiff, opShr, opBit, hLe', hM1, hln1, hone, hiN', hoN', hpe', hshl, ht1, gW, gT, hcW, hcT, eW, eT, hpos, e0, e8, e9, e10, e11, e12, e13, e14, ht', hlt, hkb1] <;> omega), (by first | omega | assumption | (simp (disch := first | omega | (simp; done) | fail) [wrap64c, if_pos, if_neg, opAnd, opOr, opXor, opDiff, opShr, opBit, hLe', hM1, hln1, hone, hiN', hoN', hpe', hshl, ht1, gW, gT, hcW, hcT, eW, eT, hpos, e0, e8, e9, e10, e11, e12, e13, e14, ht', hlt, hkb1] <;> omega)), (by rw [hos']; exact ht), (by rw [hos']; exact hte), (by first | omega | assumption | (simp (disch := first | omega | (simp; done) | fail) [wrap64c, if_pos, if_neg, opAnd, opOr, opXor, opDiff, opShr, opBit, hLe', hM1, hln1, hone, hiN', hoN', hpe', hshl, ht1, gW, gT, hcW, hcT, eW, eT, hpos, e0, e8, e9, e10, e11, e12, e13, e14, ht', hlt, hkb1] <;> omega)), (by first | omega | assumption | (simp (disch := first | omega | (simp; done) | fail) [wrap64c, if_pos, if_neg, opAnd, opOr, opXor, opDiff, opShr, opBit, hLe', hM1, hln1, hone, hiN', hoN', hpe', hshl, ht1, gW, gT, hcW, hcT, eW, eT, hpos, e0, e8, e9, e10, e11, e12, e13, e14, ht', hlt, hkb1] <;> omega))⟩
            (case hm => first | omega | (simp; omega))
            (case hf => simp [FrameL, hLe', hM1, hln1, hone, hiN', hoN', hpe', hshl, ht1, gW, gT, hcW, hcT, eW, eT, hpos, e0, e8, e9, e10, e11, e12, e13, e14, ht', hlt, hkb1, f0_0, f8_0, f9_0, f10_0, f11_0])
          · rw [hop] at hkb1 hos
            have hkb1 := hkb1
            have hos' : openK L (i + 1) = openK L i ++ [i] := by rw [hos, if_pos rfl]
            have hlen := has_len hop
            have hb7 := bit_lt7 (i := i) (by omega)
            have hy2 := nOr128 (a := iN) (b := bit i) (by omega) (by omega)
            have hz2 := nOr128 (a := oN) (b := bit i) (by omega) (by omega)
            have hly := left_yes xs iN oN i
            have hlz := left_no xs iN oN i
            rw [hcl] at hly hlz
            try simp (disch := first | omega | (simp; done) | fail) [wrap64c, if_pos, if_neg, opAnd, opOr, opXor, opDiff, opShr, opBit, hLe', hM1, hln1, hone, hiN', hoN', hpe', hshl, ht1, gW, gT, hcW, hcT, eW, eT, hpos, e0, e8, e9, e10, e11, e12, e13, e14, ht', hlt, hkb1]
            obtain ⟨_, h3, hc3, ⟨t1, rfl, ht1', hu1⟩, W3, A3⟩ := ih h' (nOr iN (bit i)) oN hTT (by omega) hy2 (by omega) (by rw [hly]; exact List.length_pos_iff.1 hlen.2.2.1) (by rw [hly]; omega)
            rw [hly] at hc3 ht1' hu1
            refine callG_c (by simp) (by simp) ?ha (hc3) ?_
            (case ha => simp (disch := first | omega | (simp; done) | fail) [wrap64c, if_pos, if_neg, opAnd, opOr, opXor, opDiff, opShr, opBit, hLe', hM1, hln1, hone, hiN', hoN', hpe', hshl, ht1, gW, gT, hcW, hcT, eW, eT, hpos, e0, e8, e9, e10, e11, e12, e13, e14, ht', hlt, hkb1])
            have n4 := W3.upd.1
            try simp (disch := first | omega | (simp; done) | fail) [wrap64c, if_pos, if_neg, opAnd, opOr, opXor, opDiff, opShr, opBit, hLe', hM1, hln1, hone, hiN', hoN', hpe', hshl, ht1, gW, gT, hcW, hcT, eW, eT, hpos, e0, e8, e9, e10, e11, e12, e13, e14, ht', hlt, hkb1]
            obtain ⟨_, h4, hc4, ⟨t2, rfl, ht2', hu2⟩, W4, A4⟩ := ih h3 iN (nOr oN (bit i)) A3 (by omega) (by omega) hz2 (by rw [hlz]; exact List.length_pos_iff.1 hlen.2.2.2.1) (by rw [hlz]; omega)
            rw [hlz] at hc4 ht2' hu2
            refine callG_c (by simp) (by simp) ?ha (hc4) ?_
            (case ha => simp (disch := first | omega | (simp; done) | fail) [wrap64c, if_pos, if_neg, opAnd, opOr, opXor, opDiff, opShr, opBit, hLe', hM1, hln1, hone, hiN', hoN', hpe', hshl, ht1, gW, gT, hcW, hcT, eW, eT, hpos, e0, e8, e9, e10, e11, e12, e13, e14, ht', hlt, hkb1])
            obtain ⟨w1, hw1'⟩ : ∃ w, w = worstN (hasL L i) := ⟨_, rfl⟩
            obtain ⟨w2, hw2'⟩ : ∃ w, w = worstN (lacksL L i) := ⟨_, rfl⟩
            have haq : askN L i = 1 + max (worstN (hasL L i)) (worstN (lacksL L i)) := rfl
            have hwb1 := worstN_le (hasL L i)
            have hwb2 := worstN_le (lacksL L i)
            rw [← hw1', ← hw2'] at haq
            rw [← hw1'] at hwb1
            rw [← hw2'] at hwb2
            have hsn : minW ((openK L (i + 1)).map (askN L)) = min (minW ((openK L i).map (askN L))) (1 + max w1 w2) := by
              rw [hos', List.map_append, List.map_cons, List.map_nil, minW_snoc, haq]
            obtain ⟨w0, hw0⟩ : ∃ w, w = minW ((openK L i).map (askN L)) := ⟨_, rfl⟩
            rw [← hw0] at hsn hmw e12
            rw [← hw1', ← hw2']
            have htb := tot_bound hlen.2.2.2.2 hlen.2.2.1 hlen.2.2.2.1
            have hs1 := sq_le (a := (hasL L i).length) (by omega)
            have hs2 := sq_le (a := (lacksL L i).length) (by omega)
            obtain ⟨q, hq⟩ : ∃ q, q = max w1 w2 := ⟨_, rfl⟩
            have hmc := l1MostN_ok h4 w1 w2
            rw [← hq] at hmc hsn
            obtain ⟨r, hr⟩ : ∃ r, r = min w0 (1 + q) := ⟨_, rfl⟩
            have hlc := l1LeastN_ok h4 w0 (1 + q)
            rw [← hr] at hlc hsn
            obtain ⟨t3, ht3⟩ : ∃ r, r = min t (L.length + t1 + t2) := ⟨_, rfl⟩
            have hlt3 := l1LeastN_ok h4 t (L.length + t1 + t2)
            rw [← ht3] at hlt3
            try simp (disch := first | omega | (simp; done) | fail) [wrap64c, if_pos, if_neg, opAnd, opOr, opXor, opDiff, opShr, opBit, hLe', hM1, hln1, hone, hiN', hoN', hpe', hshl, ht1, gW, gT, hcW, hcT, eW, eT, hpos, e0, e8, e9, e10, e11, e12, e13, e14, ht', hlt, hkb1]
            refine callG_c (by simp) (by simp) ?ha (hmc) ?_
            (case ha => simp (disch := first | omega | (simp; done) | fail) [wrap64c, if_pos, if_neg, opAnd, opOr, opXor, opDiff, opShr, opBit, hLe', hM1, hln1, hone, hiN', hoN', hpe', hshl, ht1, gW, gT, hcW, hcT, eW, eT, hpos, e0, e8, e9, e10, e11, e12, e13, e14, ht', hlt, hkb1])
            try simp (disch := first | omega | (simp; done) | fail) [wrap64c, if_pos, if_neg, opAnd, opOr, opXor, opDiff, opShr, opBit, hLe', hM1, hln1, hone, hiN', hoN', hpe', hshl, ht1, gW, gT, hcW, hcT, eW, eT, hpos, e0, e8, e9, e10, e11, e12, e13, e14, ht', hlt, hkb1]
            refine callG_c (by simp) (by simp) ?ha (hlc) ?_
            (case ha => simp (disch := first | omega | (simp; done) | fail) [wrap64c, if_pos, if_neg, opAnd, opOr, opXor, opDiff, opShr, opBit, hLe', hM1, hln1, hone, hiN', hoN', hpe', hshl, ht1, gW, gT, hcW, hcT, eW, eT, hpos, e0, e8, e9, e10, e11, e12, e13, e14, ht', hlt, hkb1])
            try simp (disch := first | omega | (simp; done) | fail) [wrap64c, if_pos, if_neg, opAnd, opOr, opXor, opDiff, opShr, opBit, hLe', hM1, hln1, hone, hiN', hoN', hpe', hshl, ht1, gW, gT, hcW, hcT, eW, eT, hpos, e0, e8, e9, e10, e11, e12, e13, e14, ht', hlt, hkb1]
            refine callG_c (by simp) (by simp) ?ha (hlt3) ?_
            (case ha => simp (disch := first | omega | (simp; done) | fail) [wrap64c, if_pos, if_neg, opAnd, opOr, opXor, opDiff, opShr, opBit, hLe', hM1, hln1, hone, hiN', hoN', hpe', hshl, ht1, gW, gT, hcW, hcT, eW, eT, hpos, e0, e8, e9, e10, e11, e12, e13, e14, ht', hlt, hkb1])
            try simp (disch := first | omega | (simp; done) | fail) [wrap64c, if_pos, if_neg, opAnd, opOr, opXor, opDiff, opShr, opBit, hLe', hM1, hln1, hone, hiN', hoN', hpe', hshl, ht1, gW, gT, hcW, hcT, eW, eT, hpos, e0, e8, e9, e10, e11, e12, e13, e14, ht', hlt, hkb1]
            refine loopK_next _ ?hm ?hf ⟨i + 1, t3, rfl, (by simp [hsn]), (by simp (disch := first | omega | (simp; done) | fail) [wrap64c, if_pos, if_neg, opAnd, opOr, opXor, opDiff, opShr, opBit, hLe', hM1, hln1, hone, hiN', hoN', hpe', hshl, ht1, gW, gT, hcW, hcT, eW, eT, hpos, e0, e8, e9, e10, e11, e12, e13, e14, ht', hlt, hkb1] <;> omega), (by simp (disch := first | omega | (simp; done) | fail) [wrap64c, if_pos, if_neg, opAnd, opOr, opXor, opDiff, opShr, opBit, hLe', hM1, hln1, hone, hiN', hoN', hpe', hshl, ht1, gW, gT, hcW, hcT, eW, eT, hpos, e0, e8, e9, e10, e11, e12, e13, e14, ht', hlt, hkb1] <;> omega), (by first | omega | assumption | (simp (disch := first | omega | (simp; done) | fail) [wrap64c, if_pos, if_neg, opAnd, opOr, opXor, opDiff, opShr, opBit, hLe', hM1, hln1, hone, hiN', hoN', hpe', hshl, ht1, gW, gT, hcW, hcT, eW, eT, hpos, e0, e8, e9, e10, e11, e12, e13, e14, ht', hlt, hkb1] <;> omega)), (.inr (by omega)), (by rw [hos', List.map_append, List.map_cons, List.map_nil, minW_snoc, ← hte, ht3, hu1, hu2]; rfl), (hW.trans (W3.trans W4)), A4⟩
            (case hm => first | omega | (simp; omega))
            (case hf => simp [FrameL, hLe', hM1, hln1, hone, hiN', hoN', hpe', hshl, ht1, gW, gT, hcW, hcT, eW, eT, hpos, e0, e8, e9, e10, e11, e12, e13, e14, ht', hlt, hkb1, f0_0, f8_0, f9_0, f10_0, f11_0])
        · have hie : i = n := by omega
          have hLs : L.Pairwise (· < ·) := hLe ▸ left_srt g.srt y z
          have hon := (open_ne n7 hLs hLn).2 (by omega)
          rw [hie, openK_eq n7 hLn] at ht e12 hte
          rw [minW_eq (by simpa using hon) (tas_le hLl), ← totN_eq] at hte
          rw [minW_eq (by simpa using hon) (ask_le hLl), ← worstN_eq] at e12
          have htb : t ≤ L.length * L.length := by
            rcases ht with ⟨h1, _⟩ | h1
            · exact absurd h1 hon
            · exact h1
          obtain ⟨W2, T2, eW2, eT2, gW2, gT2, hWT2⟩ := hTT.ent
          have gW2 := gW2
          have gT2 := gT2
          have eW2 := eW2
          have eT2 := eT2
          have hq1 := hT.n1
          have hq2 := hT.n2
          have hq3 := hT.n12.symm
          have haW2 : at' < W2.length := by rw [eW2]; omega
          have haT2 : at' < T2.length := by rw [eT2]; omega
          try simp (disch := first | omega | (simp; done) | fail) [wrap64c, if_pos, if_neg, opAnd, opOr, opXor, opDiff, opShr, opBit, hLe', hM1, hln1, hone, hiN', hoN', hpe', hshl, ht1, gW, gT, hcW, hcT, eW, eT, hpos, e0, e8, e9, e10, e11, e12, e13, e14, ht', hlt, gW2, gT2, eW2, eT2, hq1, hq2, hq3]
          have WW := (((Wr.of_adds (S := fun q => q = o1 ∨ q = o2) ha1).trans hW).put (o := o1) (.inl rfl) (x := .cells (putCells (cellsN W2) at' [.int .i64 ((worstN L : Int) + 1)]) true true 1) (fun _ => rfl)).put (o := o2) (.inr rfl) (x := .cells (putCells (cellsN T2) at' [.int .i64 ((t : Int) + 1)]) true true 1) (fun _ => rfl)
          refine done_ret rfl ⟨⟨t, by simp [← hLe], by rw [← hLe]; exact htb, by rw [← hLe]; exact hte⟩, WW, ?_⟩
          have hpW : putCells (cellsN W2) at' [.int .i64 ((worstN L : Int) + 1)] = cellsN (W2.set at' (worstN L + 1)) := by
            rw [putCells_one (by simpa using haW2), ← cellsN_set]; simp
          have hpT : putCells (cellsN T2) at' [.int .i64 ((t : Int) + 1)] = cellsN (T2.set at' (t + 1)) := by
            rw [putCells_one (by simpa using haT2), ← cellsN_set]; simp
          rw [hpW, hpT]
          refine ⟨hT.tb, hT.b1, hT.b2, hT.n1, hT.n2, hT.n12, ?_, hTT.ints.same ⟨by simp, fun q hq _ => by simp [hq.2.1, hq.2.2]⟩, W2.set at' (worstN L + 1), T2.set at' (t + 1), by simpa using eW2, by simpa using eT2, ?_, ?_, ?_⟩
          · simp [hT.n1, hT.n2, ht']
          · simp [hT.n12]
          · simp
          · intro k h1 h2 h3
            rw [List.length_set] at h1 h2
            rw [List.getElem_set] at h3 ⊢
            rw [List.getElem_set]
            by_cases e : at' = k
            · rw [if_pos e] at h3 ⊢
              rw [if_pos e, ← e, hpd.1, hpd.2, hcl]
              exact ⟨by omega, by omega, by omega, by omega⟩
            · rw [if_neg e] at h3 ⊢
              rw [if_neg e]
              exact hWT2 k h1 h2 h3
end Go.Proofs.Ytnncipcldbopgaa
namespace Go.Proofs.Ytnncipcldbopgaa
set_option linter.unusedSimpArgs false
set_option linter.unusedVariables false
set_option maxHeartbeats 4000000
open Go Go.Eng
attribute [local irreducible] WD RunD PreD Runs CallOK
theorem openK_srt (L : List Nat) (k : Nat) : (openK L k).Pairwise (· < ·) := List.pairwise_lt_range.filter _
theorem bestN_before {L : List Nat} {i0 : Nat} (h : bestN L = (i0 : Nat)) : ∀ k, k ∈ openN L → k < i0 → askN L k ≠ worstN L := by
  unfold bestN at h
  cases hf : (openN L).find? (fun i => askN L i == worstN L) with
  | none => rw [hf] at h; exact absurd h (by simp only; omega)
  | some q =>
    rw [hf] at h
    have hq : q = i0 := by simpa using h
    subst hq
    rw [List.find?_eq_some_iff_getElem] at hf
    obtain ⟨_, idx, hidx, e, hbef⟩ := hf
    intro k hk hlt
    obtain ⟨j, hj, rfl⟩ := List.getElem_of_mem hk
    have hji : j < idx := by
      apply Classical.byContradiction
      intro hn
      by_cases ej : idx = j
      · subst ej; omega
      · have := (List.pairwise_iff_getElem.1 (openK_srt L 7)) idx j hidx hj (by omega)
        have e' : (openK L 7)[idx] = q := e
        have e'' : (openN L)[j] = (openK L 7)[j] := rfl
        omega
    have := hbef j hji
    simpa using this
theorem spBest_ok (base ot o1 o2 n wd : Nat) (b : Value) (xs : List Nat) (g : SpGood n xs) (hm2 : wd = 2 * n) (h : Hp) (y z : Nat) (hT : TabOK base ot o1 o2 n wd b xs h) (hb : base ≤ h.next) (hy : y < 128) (hz : z < 128) (hop1 : 1 < (leftN xs y z).length) :
    ∃ v h', CallOK Try.prog 164 #[.pointer (some ⟨ot, 0, none⟩), .int .i64 (y : Int), .int .i64 (z : Int)] h v h' ∧
      v = .int .i64 (bestN (leftN xs y z)) ∧ Wr (fun q => q = o1 ∨ q = o2) h h' ∧ TabOK base ot o1 o2 n wd b xs h' := by
  refine callY_L (args := [.pointer (some ⟨ot, 0, none⟩), .int .i64 (y : Int), .int .i64 (z : Int)]) 66 _ [.tmp 6] Try.func164 rfl rfl rfl ?_
  have n7 := g.n7
  have hl7 := g.len7
  have htb := hT.tb
  try simp (disch := first | omega | (simp; done) | fail) [wrap64c, if_pos, if_neg, opAnd, opOr, opXor, opDiff, opShr, opBit]
  obtain ⟨_, h1, hc1, ha1, u, rfl, hi1⟩ := closed_ok h base ot o1 o2 n wd b xs y z hT hb n7 g.lt7 hl7 hy hz
  refine callG_c (by simp) (by simp) ?ha (hc1) ?_
  (case ha => simp (disch := first | omega | (simp; done) | fail) [wrap64c, if_pos, if_neg, opAnd, opOr, opXor, opDiff, opShr, opBit])
  have hne : leftN xs y z ≠ [] := by intro e; rw [e] at hop1; simp at hop1
  have hcl := closed_left g.lt hne
  have hT1 := hT.adds hb ha1
  have hn1 := ha1.1.1
  obtain ⟨_, h2, hc2, ⟨t0, rfl, ht0⟩, W2, T2⟩ := spLeast_ok base ot o1 o2 n wd b xs g hm2 ((leftN xs y z).length + 1) h1 y z hT1 (by omega) hy hz hne (by omega)
  obtain ⟨L, hLe⟩ : ∃ L, L = leftN xs y z := ⟨_, rfl⟩
  have hLn : ∀ x ∈ L, x < bit n := fun x hm => g.lt x (left_sub (hLe ▸ hm))
  have hLs : L.Pairwise (· < ·) := hLe ▸ left_srt g.srt y z
  have hLl : L.length ≤ 128 := by have := left_len xs y z; rw [hLe]; omega
  rw [← hLe] at hi1 hcl hne hop1 hc2 ht0
  have hLe' := hLe.symm
  have hn2 := W2.upd.1
  try simp (disch := first | omega | (simp; done) | fail) [wrap64c, if_pos, if_neg, opAnd, opOr, opXor, opDiff, opShr, opBit, hLe']
  refine callG_c (by simp) (by simp) ?ha (hc2) ?_
  (case ha => simp (disch := first | omega | (simp; done) | fail) [wrap64c, if_pos, if_neg, opAnd, opOr, opXor, opDiff, opShr, opBit, hLe'])
  have hi2 := inS_lt n L
  have ho2 := outS_lt n L
  have hbn := bit7 n7
  obtain ⟨iN, hiN⟩ : ∃ x, x = inS n L := ⟨_, rfl⟩
  obtain ⟨oN, hoN⟩ : ∃ x, x = outS n L := ⟨_, rfl⟩
  rw [← hiN, ← hoN] at hcl
  rw [← hiN] at hi2
  rw [← hoN] at ho2
  have hiN' := hiN.symm
  have hoN' := hoN.symm
  have hon := (open_ne n7 hLs hLn).2 hop1
  obtain ⟨i0, hb0, hi0, ha0⟩ := bestN_mem hon
  have hi07 := (mem_openK.1 hi0).1
  have hi0n : i0 < n := by
    have := hi0
    rw [← openK_eq n7 hLn] at this
    exact (mem_openK.1 this).1
  have hbef := bestN_before hb0
  have WA : Wr (fun q => q = o1 ∨ q = o2) h h2 := (Wr.of_adds ha1).trans W2
  have hwL := worstN_le L
  try simp (disch := first | omega | (simp; done) | fail) [wrap64c, if_pos, if_neg, opAnd, opOr, opXor, opDiff, opShr, opBit, hLe', hiN', hoN']
  refine WD_loopC [0, 8, 9, 10] (fun m tm h' => ∃ i, m = 7 - i ∧ tm 12 = .int .i64 (i : Int) ∧ (i ≤ i0) ∧ (Wr (fun q => q = o1 ∨ q = o2) h2 h') ∧ (TabOK base ot o1 o2 n wd b xs h')) _ ⟨0, rfl, (by simp (disch := first | omega | (simp; done) | fail) [wrap64c, if_pos, if_neg, opAnd, opOr, opXor, opDiff, opShr, opBit, hLe', hiN', hoN']), (by first | omega | assumption | (simp (disch := first | omega | (simp; done) | fail) [wrap64c, if_pos, if_neg, opAnd, opOr, opXor, opDiff, opShr, opBit, hLe', hiN', hoN'] <;> omega)), (Wr.refl _ _), T2⟩ ?_
  rintro m tm h' hFr ⟨i, rfl, e12, hi, hW, hTT⟩
  simp only [FrameL] at hFr
  obtain ⟨f0_0, f8_0, f9_0, f10_0, -⟩ := hFr
  try simp (disch := first | omega | (simp; done) | fail) [wrap64c, if_pos, if_neg, opAnd, opOr, opXor, opDiff, opShr, opBit, hLe', hiN', hoN'] at f0_0 f8_0 f9_0 f10_0
  have e0 := f0_0
  have e8 := f8_0
  have e9 := f9_0
  have e10 := f10_0
  have hn3 := hW.upd.1
  have hkb := known_bit (n := n) (i := i) hne (by omega)
  have hkb1 : (nOr iN oN).testBit i = !opB L i := by rw [hiN, hoN]; exact hkb
  have hor := nOr128 (a := iN) (b := oN) (by omega) (by omega)
  try simp (disch := first | omega | (simp; done) | fail) [wrap64c, if_pos, if_neg, opAnd, opOr, opXor, opDiff, opShr, opBit, hLe', hiN', hoN', e0, e8, e9, e10, e12]
  refine callG_c (by simp) (by simp) ?ha (spIn_ok h' (nOr iN oN) i (by omega) (by omega)) ?_
  (case ha => simp (disch := first | omega | (simp; done) | fail) [wrap64c, if_pos, if_neg, opAnd, opOr, opXor, opDiff, opShr, opBit, hLe', hiN', hoN', e0, e8, e9, e10, e12])
  cases hop : opB L i
  · rw [hop] at hkb1
    have hkb1 := hkb1
    have hne0 : i ≠ i0 := by rintro rfl; rw [(mem_openK.1 hi0).2] at hop; cases hop
    try simp (disch := first | omega | (simp; done) | fail) [wrap64c, if_pos, if_neg, opAnd, opOr, opXor, opDiff, opShr, opBit, hLe', hiN', hoN', e0, e8, e9, e10, e12, hkb1]
    refine loopK_next _ ?hm ?hf ⟨i + 1, rfl, (by simp (disch := first | omega | (simp; done) | fail) [wrap64c, if_pos, if_neg, opAnd, opOr, opXor, opDiff, opShr, opBit, hLe', hiN', hoN', e0, e8, e9, e10, e12, hkb1] <;> omega), (by first | omega | assumption | (simp (disch := first | omega | (simp; done) | fail) [wrap64c, if_pos, if_neg, opAnd, opOr, opXor, opDiff, opShr, opBit, hLe', hiN', hoN', e0, e8, e9, e10, e12, hkb1] <;> omega)), (by first | omega | assumption | (simp (disch := first | omega | (simp; done) | fail) [wrap64c, if_pos, if_neg, opAnd, opOr, opXor, opDiff, opShr, opBit, hLe', hiN', hoN', e0, e8, e9, e10, e12, hkb1] <;> omega)), (by first | omega | assumption | (simp (disch := first | omega | (simp; done) | fail) [wrap64c, if_pos, if_neg, opAnd, opOr, opXor, opDiff, opShr, opBit, hLe', hiN', hoN', e0, e8, e9, e10, e12, hkb1] <;> omega))⟩
    (case hm => first | omega | (simp; omega))
    (case hf => simp [FrameL, hLe', hiN', hoN', e0, e8, e9, e10, e12, hkb1, f0_0, f8_0, f9_0, f10_0])
  · rw [hop] at hkb1
    have hkb1 := hkb1
    have him : i ∈ openN L := mem_openK.2 ⟨by omega, hop⟩
    have hlen := has_len hop
    have hb7 := bit_lt7 (i := i) (by omega)
    have hy2 := nOr128 (a := iN) (b := bit i) (by omega) (by omega)
    have hz2 := nOr128 (a := oN) (b := bit i) (by omega) (by omega)
    have hly := left_yes xs iN oN i
    have hlz := left_no xs iN oN i
    rw [hcl] at hly hlz
    try simp (disch := first | omega | (simp; done) | fail) [wrap64c, if_pos, if_neg, opAnd, opOr, opXor, opDiff, opShr, opBit, hLe', hiN', hoN', e0, e8, e9, e10, e12, hkb1]
    obtain ⟨_, h3, hc3, ⟨t1, rfl, ht1'⟩, W3, A3⟩ := spLeast_ok base ot o1 o2 n wd b xs g hm2 (L.length + 1) h' (nOr iN (bit i)) oN hTT (by omega) hy2 (by omega) (by rw [hly]; exact List.length_pos_iff.1 hlen.2.2.1) (by rw [hly]; omega)
    rw [hly] at hc3
    refine callG_c (by simp) (by simp) ?ha (hc3) ?_
    (case ha => simp (disch := first | omega | (simp; done) | fail) [wrap64c, if_pos, if_neg, opAnd, opOr, opXor, opDiff, opShr, opBit, hLe', hiN', hoN', e0, e8, e9, e10, e12, hkb1])
    have n4 := W3.upd.1
    try simp (disch := first | omega | (simp; done) | fail) [wrap64c, if_pos, if_neg, opAnd, opOr, opXor, opDiff, opShr, opBit, hLe', hiN', hoN', e0, e8, e9, e10, e12, hkb1]
    obtain ⟨_, h4, hc4, ⟨t2, rfl, ht2'⟩, W4, A4⟩ := spLeast_ok base ot o1 o2 n wd b xs g hm2 (L.length + 1) h3 iN (nOr oN (bit i)) A3 (by omega) (by omega) hz2 (by rw [hlz]; exact List.length_pos_iff.1 hlen.2.2.2.1) (by rw [hlz]; omega)
    rw [hlz] at hc4
    refine callG_c (by simp) (by simp) ?ha (hc4) ?_
    (case ha => simp (disch := first | omega | (simp; done) | fail) [wrap64c, if_pos, if_neg, opAnd, opOr, opXor, opDiff, opShr, opBit, hLe', hiN', hoN', e0, e8, e9, e10, e12, hkb1])
    have haq : askN L i = 1 + max (worstN (hasL L i)) (worstN (lacksL L i)) := rfl
    have hwb1 := worstN_le (hasL L i)
    have hwb2 := worstN_le (lacksL L i)
    obtain ⟨q, hq⟩ : ∃ q, q = max (worstN (hasL L i)) (worstN (lacksL L i)) := ⟨_, rfl⟩
    have hmc := l1MostN_ok h4 (worstN (hasL L i)) (worstN (lacksL L i))
    rw [← hq] at hmc haq
    try simp (disch := first | omega | (simp; done) | fail) [wrap64c, if_pos, if_neg, opAnd, opOr, opXor, opDiff, opShr, opBit, hLe', hiN', hoN', e0, e8, e9, e10, e12, hkb1]
    refine callG_c (by simp) (by simp) ?ha (hmc) ?_
    (case ha => simp (disch := first | omega | (simp; done) | fail) [wrap64c, if_pos, if_neg, opAnd, opOr, opXor, opDiff, opShr, opBit, hLe', hiN', hoN', e0, e8, e9, e10, e12, hkb1])
    by_cases heq : 1 + q = worstN L
    · have heq' : (1 + (q : Int)) = ((worstN L : Nat) : Int) := by omega
      have hii : i = i0 := by
        apply Classical.byContradiction
        intro hn
        exact hbef i him (by omega) (by omega)
      try simp (disch := first | omega | (simp; done) | fail) [wrap64c, if_pos, if_neg, opAnd, opOr, opXor, opDiff, opShr, opBit, hLe', hiN', hoN', e0, e8, e9, e10, e12, hkb1, heq']
      refine done_ret rfl ⟨?_, WA.trans (hW.trans (W3.trans W4)), A4⟩
      rw [← hLe, hb0, ← hii]; simp
    · have heq' : ¬ (1 + (q : Int)) = ((worstN L : Nat) : Int) := by omega
      have hne0 : i ≠ i0 := by rintro rfl; omega
      try simp (disch := first | omega | (simp; done) | fail) [wrap64c, if_pos, if_neg, opAnd, opOr, opXor, opDiff, opShr, opBit, hLe', hiN', hoN', e0, e8, e9, e10, e12, hkb1, heq']
      refine loopK_next _ ?hm ?hf ⟨i + 1, rfl, (by simp (disch := first | omega | (simp; done) | fail) [wrap64c, if_pos, if_neg, opAnd, opOr, opXor, opDiff, opShr, opBit, hLe', hiN', hoN', e0, e8, e9, e10, e12, hkb1, heq'] <;> omega), (by first | omega | assumption | (simp (disch := first | omega | (simp; done) | fail) [wrap64c, if_pos, if_neg, opAnd, opOr, opXor, opDiff, opShr, opBit, hLe', hiN', hoN', e0, e8, e9, e10, e12, hkb1, heq'] <;> omega)), (hW.trans (W3.trans W4)), A4⟩
      (case hm => first | omega | (simp; omega))
      (case hf => simp [FrameL, hLe', hiN', hoN', e0, e8, e9, e10, e12, hkb1, heq', f0_0, f8_0, f9_0, f10_0])
theorem wr_mid1 {S : Nat → Prop} {h h' : Hp} {n : Nat} (k : Wr S h h') (hn : h.next ≤ n) (hn' : n ≤ h'.next) : Adds ⟨h'.get, n⟩ h' := ⟨⟨hn', fun _ _ => rfl⟩, fun o h1 h2 hl => k.new o (Nat.le_trans hn h1) h2 hl⟩
theorem wr_app1 {S : Nat → Prop} {h h' h2 : Hp} {n : Nat} (k : Wr S h h') (hn : h.next ≤ n) (hn' : n ≤ h'.next) (a : Adds ⟨h'.get, n⟩ h2) : Wr S h h2 where
  upd := ⟨Nat.le_trans hn a.1.1, fun o ho hs => (a.1.2 o (Nat.lt_of_lt_of_le ho hn)).trans (k.upd.2 o ho hs)⟩
  own o ho hs hl := by
    have e : h2.get o = h'.get o := a.1.2 o (Nat.lt_of_lt_of_le ho hn)
    rw [e] at hl ⊢
    exact k.own o ho hs hl
  new o h1 h2' hl := by
    by_cases e : o < n
    · have e2 : h2.get o = h'.get o := a.1.2 o e
      rw [e2] at hl ⊢
      exact k.new o h1 (by omega) hl
    · exact a.2 o (Nat.le_of_not_lt e) h2' hl
theorem asRunT_ok (base ot o1 o2 n wd : Nat) (bt : Value) (xs : List Nat) (g : SpGood n xs) (hm2 : wd = 2 * n) (h : Hp) (v : Value) (set : Nat) (hT : TabOK base ot o1 o2 n wd bt xs h) (hb : base ≤ h.next) (hv : Space h v n (toN xs)) (hF : ∃ b, v = .agg #[.int .i64 (n : Int), b] ∧ IntsF (fun x => x < h.next ∧ x ≠ o1 ∧ x ≠ o2) h b (toN xs)) (hset : set ∈ xs) :
    ∃ v' h', CallOK Try.prog 166 #[v, .pointer (some ⟨ot, 0, none⟩), .int .i64 (set : Int), .bool false] h v' h' ∧ Wr (fun q => q = o1 ∨ q = o2) h h' ∧ TabOK base ot o1 o2 n wd bt xs h' ∧ IntsO (Btw h.next h'.next) h' v' (toN (runF bestN set xs.length xs)) := by
  refine callY_L (args := [v, .pointer (some ⟨ot, 0, none⟩), .int .i64 (set : Int), .bool false]) 44 _ [.tmp 8] Try.func166 rfl rfl rfl ?_
  obtain ⟨b, rfl, hX⟩ := hF
  have hXi := hX.ints
  have nt := hXi.nt
  have cs := hXi.cs
  refine WD_first ?_
  try simp (disch := first | omega | (simp; done) | fail) [wrap64c, if_pos, if_neg, opAnd, opOr, opXor, opDiff, opShr, opBit, nt, cs]
  refine stopK_heap fun h0 q_h0 => ?_
  refine stopK_go ?_
  have g_h0 : h0.get h.next = .cells [.int .i64 (n : Int), b] true true 1 := by simp [q_h0]
  have k_h0 : Adds h h0 := by rw [q_h0]; exact (by first | exact aK | exact kK)
  have n_h0 : h.next < h0.next := by simp [q_h0]; try omega
  have hX0 := hX.keep k_h0.1
  have n7 := g.n7
  have hl7 := g.len7
  have hset7 := g.lt7 _ hset
  have hb1 := hT.b1
  have hb2 := hT.b2
  try simp (disch := first | omega | (simp; done) | fail) [wrap64c, if_pos, if_neg, opAnd, opOr, opXor, opDiff, opShr, opBit, nt, cs, g_h0]
  refine WD_loopC [1, 2, 3, 4] (fun m tm h' => ∃ k y z acc u, m = k + 0 * (leftN xs y z).length ∧ tm 9 = u ∧ tm 10 = .int .i64 (y : Int) ∧ tm 11 = .int .i64 (z : Int) ∧ (y < 128 ∧ z < 128) ∧ (Wr (fun q => q = o1 ∨ q = o2) h h') ∧ (h'.get h.next = .cells [.int .i64 (n : Int), b] true true 1) ∧ (h.next < h'.next) ∧ (IntsF (fun x => x < h.next ∧ x ≠ o1 ∧ x ≠ o2) h' b (toN xs)) ∧ (TabOK base ot o1 o2 n wd bt xs h') ∧ (IntsA (h.next + 1) h' u (toN acc)) ∧ ((leftN xs y z).length ≤ k) ∧ (acc.length + k = xs.length) ∧ (set ∈ leftN xs y z) ∧ (runF bestN set xs.length xs = acc ++ runF bestN set k (leftN xs y z))) _ ⟨xs.length, 0, 0, [], _, rfl, (by simp (disch := first | omega | (simp; done) | fail) [wrap64c, if_pos, if_neg, opAnd, opOr, opXor, opDiff, opShr, opBit, nt, cs, g_h0]), (by simp (disch := first | omega | (simp; done) | fail) [wrap64c, if_pos, if_neg, opAnd, opOr, opXor, opDiff, opShr, opBit, nt, cs, g_h0]), (by simp (disch := first | omega | (simp; done) | fail) [wrap64c, if_pos, if_neg, opAnd, opOr, opXor, opDiff, opShr, opBit, nt, cs, g_h0]), (by first | omega | assumption | (simp (disch := first | omega | (simp; done) | fail) [wrap64c, if_pos, if_neg, opAnd, opOr, opXor, opDiff, opShr, opBit, nt, cs, g_h0] <;> omega)), (Wr.of_adds k_h0), g_h0, n_h0, hX0, (hT.adds hb k_h0), (.nil _ _), (by rw [left_zero]; exact Nat.le_refl _), (by simp), (by rw [left_zero]; exact hset), (by rw [left_zero]; rfl)⟩ ?_
  rintro m tm h' hFr ⟨k, y, z, acc, u, rfl, e9, e10, e11, hyz, hW, hg1, hnx, hX1, hTT, hu, hk, hak, hin, hr⟩
  simp only [FrameL] at hFr
  obtain ⟨f1_0, f2_0, f3_0, f4_0, -⟩ := hFr
  try simp (disch := first | omega | (simp; done) | fail) [wrap64c, if_pos, if_neg, opAnd, opOr, opXor, opDiff, opShr, opBit, nt, cs, g_h0] at f1_0 f2_0 f3_0 f4_0
  have e1 := f1_0
  have e2 := f2_0
  have e3 := f3_0
  have e4 := f4_0
  have hg1 := hg1
  try simp (disch := first | omega | (simp; done) | fail) [wrap64c, if_pos, if_neg, opAnd, opOr, opXor, opDiff, opShr, opBit, nt, cs, g_h0, e1, e2, e3, e4, e9, e10, e11, hg1]
  obtain ⟨v1, h1, hc1, ha1, hi1⟩ := spLeft_ok h' (.agg #[.int .i64 (n : Int), b]) n xs y z (.mk hX1.ints) g.lt7 (by omega) hyz.1 hyz.2
  refine callG_c (by simp) (by simp) ?ha (hc1) ?_
  (case ha => simp (disch := first | omega | (simp; done) | fail) [wrap64c, if_pos, if_neg, opAnd, opOr, opXor, opDiff, opShr, opBit, nt, cs, g_h0, e1, e2, e3, e4, e9, e10, e11, hg1])
  obtain ⟨L, hLe⟩ : ∃ L, L = leftN xs y z := ⟨_, rfl⟩
  have hLn : ∀ x ∈ L, x < bit n := fun x hm => g.lt x (left_sub (hLe ▸ hm))
  have hLs : L.Pairwise (· < ·) := hLe ▸ left_srt g.srt y z
  have hLl : L.length ≤ 128 := by have := left_len xs y z; rw [hLe]; omega
  have hop := open_ne n7 hLs hLn
  rw [← hLe] at hi1 hk hin hr
  have hM1 := hi1.ints.lenD
  have hln1 := toN_length L
  have hg2 : h1.get h.next = .cells [.int .i64 (n : Int), b] true true 1 := by rw [ha1.1.2 _ hnx]; exact hg1
  have hu1 := hu.keep ha1.1
  have W1 := hW.trans (.of_adds ha1)
  have T1 := hTT.adds (by omega) ha1
  have hn1 := ha1.1.1
  have hX2 := hX1.keep ha1.1
  by_cases h1L : 1 < L.length
  · obtain ⟨i, hi1', hi2, _⟩ := bestN_mem (hop.2 h1L)
    have hi7 : i < 7 := (mem_openK.1 hi2).1
    have hlen := has_len (mem_openK.1 hi2).2
    obtain ⟨k1, hk1⟩ : ∃ q, k = q + 1 := ⟨k - 1, by omega⟩
    rw [hk1, runF_cons hi1'] at hr
    have hb7 := bit_lt7 hi7
    have hy2 := nOr128 (b := bit i) hyz.1 (by omega)
    have hz2 := nOr128 (b := bit i) hyz.2 (by omega)
    try simp (disch := first | omega | (simp; done) | fail) [wrap64c, if_pos, if_neg, opAnd, opOr, opXor, opDiff, opShr, opBit, nt, cs, g_h0, e1, e2, e3, e4, e9, e10, e11, hg1, hM1, hln1, h1L]
    obtain ⟨_, h2, hc2, rfl, W2, T2⟩ := spBest_ok base ot o1 o2 n wd bt xs g hm2 h1 y z T1 (by omega) hyz.1 hyz.2 (by rw [← hLe]; exact h1L)
    rw [← hLe, hi1'] at hc2
    refine callG_c (by simp) (by simp) ?ha (hc2) ?_
    (case ha => simp (disch := first | omega | (simp; done) | fail) [wrap64c, if_pos, if_neg, opAnd, opOr, opXor, opDiff, opShr, opBit, nt, cs, g_h0, e1, e2, e3, e4, e9, e10, e11, hg1, hM1, hln1, h1L])
    have WW := W1.trans W2
    have hn2 := W2.upd.1
    have hu2 := ia_upd hu1 W2.upd (fun o ho => by rcases ho with rfl | rfl <;> omega)
    have hg3 : h2.get h.next = .cells [.int .i64 (n : Int), b] true true 1 := by rw [W2.upd.2 _ (by omega) (by omega)]; exact hg2
    have hX3 := hX2.same (W2.upd.same fun x hx hx' => by rcases hx' with rfl | rfl <;> simp at hx)
    try simp (disch := first | omega | (simp; done) | fail) [wrap64c, if_pos, if_neg, opAnd, opOr, opXor, opDiff, opShr, opBit, nt, cs, g_h0, e1, e2, e3, e4, e9, e10, e11, hg1, hM1, hln1, h1L]
    obtain ⟨u3, h3, hap, hu3, ha3, hn3, hs3⟩ := appI hu2 (i : Int) (by simp; omega) (by omega) (wr_mid1 (n := h.next + 1) WW (by omega) (by omega)) (Nat.le_refl _)
    have hsm : ∀ q, q < h.next + 1 → h3.get q = h2.get q := fun q hq => ha3.1.2 q hq
    have W3 := wr_app1 WW (by omega) (by omega) ha3
    have T3 : TabOK base ot o1 o2 n wd bt xs h3 := by
      obtain ⟨W', T', q1, q2, q3, q4, q5⟩ := T2.ent
      have htb := T2.tb
      exact ⟨T2.tb, T2.b1, T2.b2, T2.n1, T2.n2, T2.n12, by rw [hsm _ (by omega)]; exact T2.tab, T2.ints.same ⟨by omega, fun q hq _ => hsm q (by omega)⟩, W', T', q1, q2, by rw [hsm _ (by omega)]; exact q3, by rw [hsm _ (by omega)]; exact q4, q5⟩
    have hg4 : h3.get h.next = .cells [.int .i64 (n : Int), b] true true 1 := by rw [hsm _ (by omega)]; exact hg3
    have hX4 : IntsF (fun x => x < h.next ∧ x ≠ o1 ∧ x ≠ o2) h3 b (toN xs) := hX3.same ⟨by omega, fun q hq _ => hsm q (by omega)⟩
    try simp (disch := first | omega | (simp; done) | fail) [wrap64c, if_pos, if_neg, opAnd, opOr, opXor, opDiff, opShr, opBit, nt, cs, g_h0, e1, e2, e3, e4, e9, e10, e11, hg1, hM1, hln1, h1L, hap]
    refine callG_c (by simp) (by simp) ?ha (spIn_ok h3 set i (by omega) (by omega)) ?_
    (case ha => simp (disch := first | omega | (simp; done) | fail) [wrap64c, if_pos, if_neg, opAnd, opOr, opXor, opDiff, opShr, opBit, nt, cs, g_h0, e1, e2, e3, e4, e9, e10, e11, hg1, hM1, hln1, h1L])
    cases hsb : set.testBit i
    · rw [hsb] at hr
      have hin' : set ∈ lacksL L i := List.mem_filter.2 ⟨hin, by simp [hsb]⟩
      try simp (disch := first | omega | (simp; done) | fail) [wrap64c, if_pos, if_neg, opAnd, opOr, opXor, opDiff, opShr, opBit, nt, cs, g_h0, e1, e2, e3, e4, e9, e10, e11, hg1, hM1, hln1, h1L, hsb]
      refine loopK_next _ ?hm ?hf ⟨k1, y, nOr z (bit i), acc ++ [i], u3, rfl, (by simp (disch := first | omega | (simp; done) | fail) [wrap64c, if_pos, if_neg, opAnd, opOr, opXor, opDiff, opShr, opBit, nt, cs, g_h0, e1, e2, e3, e4, e9, e10, e11, hg1, hM1, hln1, h1L, hsb] <;> omega), (by simp (disch := first | omega | (simp; done) | fail) [wrap64c, if_pos, if_neg, opAnd, opOr, opXor, opDiff, opShr, opBit, nt, cs, g_h0, e1, e2, e3, e4, e9, e10, e11, hg1, hM1, hln1, h1L, hsb] <;> omega), (by simp (disch := first | omega | (simp; done) | fail) [wrap64c, if_pos, if_neg, opAnd, opOr, opXor, opDiff, opShr, opBit, nt, cs, g_h0, e1, e2, e3, e4, e9, e10, e11, hg1, hM1, hln1, h1L, hsb] <;> omega), (by first | omega | assumption | (simp (disch := first | omega | (simp; done) | fail) [wrap64c, if_pos, if_neg, opAnd, opOr, opXor, opDiff, opShr, opBit, nt, cs, g_h0, e1, e2, e3, e4, e9, e10, e11, hg1, hM1, hln1, h1L, hsb] <;> omega)), W3, hg4, (by first | omega | assumption | (simp (disch := first | omega | (simp; done) | fail) [wrap64c, if_pos, if_neg, opAnd, opOr, opXor, opDiff, opShr, opBit, nt, cs, g_h0, e1, e2, e3, e4, e9, e10, e11, hg1, hM1, hln1, h1L, hsb] <;> omega)), hX4, T3, (by rw [toN_snoc]; exact hu3), (by rw [left_no, ← hLe]; omega), (by simp; omega), (by rw [left_no, ← hLe]; exact hin'), (by rw [left_no, ← hLe, hr]; simp)⟩
      (case hm => first | omega | (simp; omega))
      (case hf => simp [FrameL, nt, cs, g_h0, e1, e2, e3, e4, e9, e10, e11, hg1, hM1, hln1, h1L, hsb, f1_0, f2_0, f3_0, f4_0])
    · rw [hsb] at hr
      have hin' : set ∈ hasL L i := List.mem_filter.2 ⟨hin, hsb⟩
      try simp (disch := first | omega | (simp; done) | fail) [wrap64c, if_pos, if_neg, opAnd, opOr, opXor, opDiff, opShr, opBit, nt, cs, g_h0, e1, e2, e3, e4, e9, e10, e11, hg1, hM1, hln1, h1L, hsb]
      refine loopK_next _ ?hm ?hf ⟨k1, nOr y (bit i), z, acc ++ [i], u3, rfl, (by simp (disch := first | omega | (simp; done) | fail) [wrap64c, if_pos, if_neg, opAnd, opOr, opXor, opDiff, opShr, opBit, nt, cs, g_h0, e1, e2, e3, e4, e9, e10, e11, hg1, hM1, hln1, h1L, hsb] <;> omega), (by simp (disch := first | omega | (simp; done) | fail) [wrap64c, if_pos, if_neg, opAnd, opOr, opXor, opDiff, opShr, opBit, nt, cs, g_h0, e1, e2, e3, e4, e9, e10, e11, hg1, hM1, hln1, h1L, hsb] <;> omega), (by simp (disch := first | omega | (simp; done) | fail) [wrap64c, if_pos, if_neg, opAnd, opOr, opXor, opDiff, opShr, opBit, nt, cs, g_h0, e1, e2, e3, e4, e9, e10, e11, hg1, hM1, hln1, h1L, hsb] <;> omega), (by first | omega | assumption | (simp (disch := first | omega | (simp; done) | fail) [wrap64c, if_pos, if_neg, opAnd, opOr, opXor, opDiff, opShr, opBit, nt, cs, g_h0, e1, e2, e3, e4, e9, e10, e11, hg1, hM1, hln1, h1L, hsb] <;> omega)), W3, hg4, (by first | omega | assumption | (simp (disch := first | omega | (simp; done) | fail) [wrap64c, if_pos, if_neg, opAnd, opOr, opXor, opDiff, opShr, opBit, nt, cs, g_h0, e1, e2, e3, e4, e9, e10, e11, hg1, hM1, hln1, h1L, hsb] <;> omega)), hX4, T3, (by rw [toN_snoc]; exact hu3), (by rw [left_yes, ← hLe]; omega), (by simp; omega), (by rw [left_yes, ← hLe]; exact hin'), (by rw [left_yes, ← hLe, hr]; simp)⟩
      (case hm => first | omega | (simp; omega))
      (case hf => simp [FrameL, nt, cs, g_h0, e1, e2, e3, e4, e9, e10, e11, hg1, hM1, hln1, h1L, hsb, f1_0, f2_0, f3_0, f4_0])
  · have hon : openN L = [] := by
      apply Classical.byContradiction
      intro hn
      exact h1L (hop.1 hn)
    rw [runF_nil (L := L) (by rw [bestN_nil hon]; omega), List.append_nil] at hr
    try simp (disch := first | omega | (simp; done) | fail) [wrap64c, if_pos, if_neg, opAnd, opOr, opXor, opDiff, opShr, opBit, nt, cs, g_h0, e1, e2, e3, e4, e9, e10, e11, hg1, hM1, hln1, h1L]
    refine done_ret rfl ⟨W1, T1, ?_⟩
    rw [hr]
    exact (hu1.own (by simp; omega)).sub fun o ho => ⟨by have := ho.1; omega, ho.2⟩
noncomputable def askR (N : Int) (X : List Int) (a : Int) : List Int := if oneB N X a = true then toN (runF bestN a.toNat X.length (natsOf X)) else []
theorem specAsk_ok (h : Hp) (v : Value) (N : Int) (X : List Int) (a : Int) (hv : Space h v N X) (hl : X.length < 2 ^ 40) :
    ∃ v' h', CallOK Try.prog 52 #[v, .int .i64 a] h v' h' ∧ Adds h h' ∧ ∃ u, v' = .tuple #[u, .bool (oneB N X a)] ∧ IntsO (Btw h.next h'.next) h' u (askR N X a) := by
  refine callY_L (args := [v, .int .i64 a]) 15 _ [.tmp 4, .tmp 5] Try.func52 rfl rfl rfl ?_
  obtain ⟨b, rfl, hX⟩ := hv
  refine WD_first ?_
  try simp (disch := first | omega | (simp; done) | fail) [wrap64c, if_pos, if_neg, opAnd, opOr, opXor, opDiff, opShr, opBit]
  refine stopK_heap fun h0 q_h0 => ?_
  refine stopK_go ?_
  have g_h0 : h0.get h.next = .cells [.int .i64 N, b] true true 1 := by simp [q_h0]
  have k_h0 : Adds h h0 := by rw [q_h0]; exact (by first | exact aK | exact kK)
  have n_h0 : h.next < h0.next := by simp [q_h0]; try omega
  have hX0 := hX.keep k_h0.1
  try simp (disch := first | omega | (simp; done) | fail) [wrap64c, if_pos, if_neg, opAnd, opOr, opXor, opDiff, opShr, opBit, g_h0]
  refine callG_c (by simp) (by simp) ?ha (spOne_ok h0 (.agg #[.int .i64 N, b]) N X a (.mk hX0) hl) ?_
  (case ha => simp (disch := first | omega | (simp; done) | fail) [wrap64c, if_pos, if_neg, opAnd, opOr, opXor, opDiff, opShr, opBit, g_h0])
  cases c1 : oneB N X a
  · try simp (disch := first | omega | (simp; done) | fail) [wrap64c, if_pos, if_neg, opAnd, opOr, opXor, opDiff, opShr, opBit, g_h0, c1]
    refine done_ret rfl ⟨k_h0, _, by simp [c1]; rfl, ?_⟩
    rw [askR, if_neg (by simp [c1])]
    exact .nil _ _
  · obtain ⟨n, xs, x, hN, hXe, hae, g, hx⟩ := oneB_true c1
    have hNt : N = (n : Int) := hN
    have hat : a = (x : Int) := hae
    have hX1 : Ints h0 b (toN xs) := hXe ▸ hX0
    try simp (disch := first | omega | (simp; done) | fail) [wrap64c, if_pos, if_neg, opAnd, opOr, opXor, opDiff, opShr, opBit, g_h0, c1, hNt, hat]
    refine WD_drawC 4 rfl (by kernel_rfl) ?_
    try simp (disch := first | omega | (simp; done) | fail) [wrap64c, if_pos, if_neg, opAnd, opOr, opXor, opDiff, opShr, opBit, g_h0, c1, hNt, hat]
    obtain ⟨_, h1, hc1, ot, o1, o2, b1, rfl, ha1, hlo, hT⟩ := asNew_ok h0 (.agg #[.int .i64 (n : Int), b]) n xs (.mk hX1) g.n7
    refine callP_c (by simp) (by simp) ?ha (hc1) ?hadd ?_
    (case ha => simp (disch := first | omega | (simp; done) | fail) [wrap64c, if_pos, if_neg, opAnd, opOr, opXor, opDiff, opShr, opBit, g_h0, c1, hNt, hat])
    (case hadd => first | assumption | exact adds_self _ | (simp; done))
    try simp (disch := first | omega | (simp; done) | fail) [wrap64c, if_pos, if_neg, opAnd, opOr, opXor, opDiff, opShr, opBit, g_h0, c1, hNt, hat]
    have hF : IntsF (fun x => x < h1.next ∧ x ≠ o1 ∧ x ≠ o2) h1 b (toN xs) := (hX1.old.keep ha1.1).sub fun q hq => by have := ha1.1.1; omega
    obtain ⟨u, h2, hc2, W2, T2, hi2⟩ := asRunT_ok h1.next ot o1 o2 n (2 * n) b1 xs g rfl h1 (.agg #[.int .i64 (n : Int), b]) x hT (Nat.le_refl _) (.mk hF.ints) ⟨b, rfl, hF⟩ hx
    refine callG_c (by simp) (by simp) ?ha (hc2) ?_
    (case ha => simp (disch := first | omega | (simp; done) | fail) [wrap64c, if_pos, if_neg, opAnd, opOr, opXor, opDiff, opShr, opBit, g_h0, c1, hNt, hat])
    have A2 : Adds h0 h2 := ha1.wr W2 fun o ho => by rcases ho with rfl | rfl <;> omega
    try simp (disch := first | omega | (simp; done) | fail) [wrap64c, if_pos, if_neg, opAnd, opOr, opXor, opDiff, opShr, opBit, g_h0, c1, hNt, hat]
    refine done_ret rfl ⟨k_h0.trans A2, _, by simp [c1]; rfl, ?_⟩
    rw [askR, if_pos c1, hXe, hae, natsOf_toN, toN_length, Int.toNat_natCast]
    exact hi2.sub fun o ho => ⟨by have := ho.1; have := ha1.1.1; omega, ho.2⟩
theorem askBest (L : List Nat) : bestN L < 0 ∨ ∃ i, bestN L = (i : Nat) ∧ i ∈ openN L := by
  by_cases he : openN L = []
  · left; rw [bestN_nil he]; omega
  · right
    obtain ⟨i, h1, h2, _⟩ := bestN_mem he
    exact ⟨i, h1, h2⟩
theorem runBest_ok (base o p : Nat) (N : Int) (b m2 : Value) (xs : List Nat) (hx : ∀ x ∈ xs, x < 128) (hl : xs.length < 2 ^ 39) (h : Hp) (hA : AskOK base o p N b m2 xs h) (hb : base ≤ h.next) (set : Nat) (hset : set < 128) :
    ∃ v' h', CallOK Try.prog 165 #[.int .i64 (set : Int), .func (.func 162) #[.pointer (some ⟨o, 0, none⟩)] #[]] h v' h' ∧ Wr (fun q => q = p) h h' ∧ AskOK base o p N b m2 xs h' ∧ IntsO (Btw h.next h'.next) h' v' (toN (runF bestN set xs.length xs)) :=
  run_ok bestN askBest 162 (.pointer (some ⟨o, 0, none⟩)) (fun q => q = p) (AskOK base o p N b m2 xs) base xs
    (fun h h' hp _ h2 hs => hp.stab h2 hs) (fun h y z hp hb hy hz => best_ok base o p N b m2 xs hx hl h y z hp hb hy hz) (fun o ho => by have := hA.pb; omega) (by simp) h hA hb set hset hl
theorem implAsk_ok (h : Hp) (v : Value) (N : Int) (X : List Int) (a : Int) (hv : Space h v N X) (hl : X.length < 2 ^ 40) :
    ∃ v' h', CallOK Try.prog 51 #[v, .int .i64 a] h v' h' ∧ Adds h h' ∧ ∃ u, v' = .tuple #[u, .bool (oneB N X a)] ∧ IntsO (Btw h.next h'.next) h' u (askR N X a) := by
  refine callY_L (args := [v, .int .i64 a]) 15 _ [.tmp 4, .tmp 5] Try.func51 rfl rfl rfl ?_
  obtain ⟨b, rfl, hX⟩ := hv
  refine WD_first ?_
  try simp (disch := first | omega | (simp; done) | fail) [wrap64c, if_pos, if_neg, opAnd, opOr, opXor, opDiff, opShr, opBit]
  refine stopK_heap fun h0 q_h0 => ?_
  refine stopK_go ?_
  have g_h0 : h0.get h.next = .cells [.int .i64 N, b] true true 1 := by simp [q_h0]
  have k_h0 : Adds h h0 := by rw [q_h0]; exact (by first | exact aK | exact kK)
  have n_h0 : h.next < h0.next := by simp [q_h0]; try omega
  have hX0 := hX.keep k_h0.1
  try simp (disch := first | omega | (simp; done) | fail) [wrap64c, if_pos, if_neg, opAnd, opOr, opXor, opDiff, opShr, opBit, g_h0]
  refine callG_c (by simp) (by simp) ?ha (isKnown_ok h0 (.agg #[.int .i64 N, b]) N X a (.mk hX0) hl) ?_
  (case ha => simp (disch := first | omega | (simp; done) | fail) [wrap64c, if_pos, if_neg, opAnd, opOr, opXor, opDiff, opShr, opBit, g_h0])
  cases c1 : oneB N X a
  · try simp (disch := first | omega | (simp; done) | fail) [wrap64c, if_pos, if_neg, opAnd, opOr, opXor, opDiff, opShr, opBit, g_h0, c1]
    refine done_ret rfl ⟨k_h0, _, by simp [c1]; rfl, ?_⟩
    rw [askR, if_neg (by simp [c1])]
    exact .nil _ _
  · obtain ⟨n, xs, x, hN, hXe, hae, g, hx⟩ := oneB_true c1
    have hNt : N = (n : Int) := hN
    have hat : a = (x : Int) := hae
    have hX1 : Ints h0 b (toN xs) := hXe ▸ hX0
    have hl7 := g.len7
    try simp (disch := first | omega | (simp; done) | fail) [wrap64c, if_pos, if_neg, opAnd, opOr, opXor, opDiff, opShr, opBit, g_h0, c1, hNt, hat]
    obtain ⟨_, h1, hc1, o, p, q, b1, rfl, ha1, hopq, hgo, hgp, hgq, hb1⟩ := newAsker_ok h0 (.agg #[.int .i64 (n : Int), b]) n (toN xs) (.mk hX1)
    refine callG_c (by simp) (by simp) ?ha (hc1) ?_
    (case ha => simp (disch := first | omega | (simp; done) | fail) [wrap64c, if_pos, if_neg, opAnd, opOr, opXor, opDiff, opShr, opBit, g_h0, c1, hNt, hat])
    try simp (disch := first | omega | (simp; done) | fail) [wrap64c, if_pos, if_neg, opAnd, opOr, opXor, opDiff, opShr, opBit, g_h0, c1, hNt, hat]
    have hA : AskOK h1.next o p n b1 (.map (some q)) xs h1 := ⟨by omega, by omega, by omega, hgo, hb1.sub fun x hx => by omega, [], hgp, fun e he => by cases he⟩
    obtain ⟨u, h2, hc2, W2, A2, hi2⟩ := runBest_ok h1.next o p n b1 (.map (some q)) xs g.lt7 (by omega) h1 hA (Nat.le_refl _) x (g.lt7 _ hx)
    refine callG_c (by simp) (by simp) ?ha (hc2) ?_
    (case ha => simp (disch := first | omega | (simp; done) | fail) [wrap64c, if_pos, if_neg, opAnd, opOr, opXor, opDiff, opShr, opBit, g_h0, c1, hNt, hat])
    try simp (disch := first | omega | (simp; done) | fail) [wrap64c, if_pos, if_neg, opAnd, opOr, opXor, opDiff, opShr, opBit, g_h0, c1, hNt, hat]
    have AA : Adds h0 h2 := ha1.wr W2 fun o ho => by omega
    refine done_ret rfl ⟨k_h0.trans AA, _, by simp [c1]; rfl, ?_⟩
    rw [askR, if_pos c1, hXe, hae, natsOf_toN, toN_length, Int.toNat_natCast]
    exact hi2.sub fun o ho => ⟨by have := ho.1; have := ha1.1.1; omega, ho.2⟩
def runLen (xs : List Nat) (x : Nat) : Nat := (runF bestN x xs.length xs).length
def wsS (xs l : List Nat) : Nat × Int := l.foldl (fun s x => if (runLen xs x : Int) > s.2 then (x, (runLen xs x : Int)) else s) (0, -1)
noncomputable def worstR (N : Int) (X : List Int) : Int := if spB N X = true then (((wsS (natsOf X) (natsOf X)).1 : Nat) : Int) else 0
end Go.Proofs.Ytnncipcldbopgaa
namespace Go.Proofs.Ytnncipcldbopgaa
set_option linter.unusedSimpArgs false
set_option linter.unusedVariables false
set_option maxHeartbeats 4000000
open Go Go.Eng
attribute [local irreducible] WD RunD PreD Runs CallOK
noncomputable def askB (N : Int) (X : List Int) (y z : Int) : Bool := goB N X y z && !decide ((leftN (natsOf X) y.toNat z.toNat).length = 1)
noncomputable def halfQR (N : Int) (X : List Int) (y z : Int) : Int := if askB N X y z = true then halfN (leftN (natsOf X) y.toNat z.toNat) else 0
noncomputable def worstQR (N : Int) (X : List Int) (y z : Int) : Int := if goB N X y z = true then ((worstN (leftN (natsOf X) y.toNat z.toNat) : Nat) : Int) else 0
noncomputable def bestQR (N : Int) (X : List Int) (y z : Int) : Int := if askB N X y z = true then bestN (leftN (natsOf X) y.toNat z.toNat) else 0
theorem implWorstQ_ok (h : Hp) (v : Value) (N : Int) (X : List Int) (y z : Int) (hv : Space h v N X) (hl : X.length < 2 ^ 39) :
    CallOK Try.prog 45 #[v, .int .i64 y, .int .i64 z] h (.tuple #[.int .i64 (worstQR N X y z), .bool (goB N X y z)]) h := by
  refine callY_P 18 _ [.tmp 6, .tmp 7] Try.func45 rfl rfl rfl (by first | rfl | simp) ?_
  obtain ⟨b, rfl, hX⟩ := hv
  refine WD_first ?_
  try simp (disch := first | omega | (simp; done) | fail) [wrap64c, if_pos, if_neg, opAnd, opOr, opXor, opDiff, opShr, opBit]
  refine stopK_heap fun h0 q_h0 => ?_
  refine stopK_go ?_
  have g_h0 : h0.get h.next = .cells [.int .i64 N, b] true true 1 := by simp [q_h0]
  have k_h0 : Adds h h0 := by rw [q_h0]; exact (by first | exact aK | exact kK)
  have n_h0 : h.next < h0.next := by simp [q_h0]; try omega
  have hX0 := hX.keep k_h0.1
  have K0 := k_h0.1
  try simp (disch := first | omega | (simp; done) | fail) [wrap64c, if_pos, if_neg, opAnd, opOr, opXor, opDiff, opShr, opBit, g_h0]
  refine callG_c (by simp) (by simp) ?ha (goOn_ok h0 (.agg #[.int .i64 N, b]) N X y z (.mk hX0) hl) ?_
  (case ha => simp (disch := first | omega | (simp; done) | fail) [wrap64c, if_pos, if_neg, opAnd, opOr, opXor, opDiff, opShr, opBit, g_h0])
  cases c1 : goB N X y z
  · try simp (disch := first | omega | (simp; done) | fail) [wrap64c, if_pos, if_neg, opAnd, opOr, opXor, opDiff, opShr, opBit, g_h0, c1]
    exact done_ret rfl (by simp [worstQR, c1, K0])
  · obtain ⟨n, xs, a, c, hN, hXe, ha, hc, g, hx, hy, hac, hne⟩ := goB_true c1
    subst hN hXe ha hc
    have hb7 := bit7 g.n7
    have hl7 := g.len7
    obtain ⟨_, h1, p1, o, p, q, b1, rfl, a1, hopq, hgo, hgp, hgq, hb1⟩ := newAsker_ok h0 (.agg #[.int .i64 (n : Int), b]) n (toN xs) (.mk hX0)
    have hA : AskOK h1.next o p n b1 (.map (some q)) xs h1 := ⟨by omega, by omega, by omega, hgo, hb1.sub fun x hx => by omega, [], hgp, fun e he => by cases he⟩
    obtain ⟨_, h2, p2, rfl, W2, A2⟩ := least_ok h1.next o p n b1 (.map (some q)) xs g.lt7 (by omega) _ h1 a c hA (Nat.le_refl _) (by omega) (by omega) (Nat.lt_succ_self _)
    have K2 : Keeps h h2 := ⟨by have := a1.1.1; have := W2.upd.1; omega, fun r hr => by rw [W2.upd.2 r (by have := a1.1.1; omega) (by omega), a1.1.2 r (by omega)]; exact K0.2 r hr⟩
    try simp (disch := first | omega | (simp; done) | fail) [wrap64c, if_pos, if_neg, opAnd, opOr, opXor, opDiff, opShr, opBit, g_h0, c1]
    refine callG_c (by simp) (by simp) ?ha (p1) ?_
    (case ha => simp (disch := first | omega | (simp; done) | fail) [wrap64c, if_pos, if_neg, opAnd, opOr, opXor, opDiff, opShr, opBit, g_h0, c1])
    try simp (disch := first | omega | (simp; done) | fail) [wrap64c, if_pos, if_neg, opAnd, opOr, opXor, opDiff, opShr, opBit, g_h0, c1]
    refine callG_c (by simp) (by simp) ?ha (p2) ?_
    (case ha => simp (disch := first | omega | (simp; done) | fail) [wrap64c, if_pos, if_neg, opAnd, opOr, opXor, opDiff, opShr, opBit, g_h0, c1])
    try simp (disch := first | omega | (simp; done) | fail) [wrap64c, if_pos, if_neg, opAnd, opOr, opXor, opDiff, opShr, opBit, g_h0, c1]
    exact done_ret rfl (by simp [worstQR, c1, K2])
theorem specWorstQ_ok (h : Hp) (v : Value) (N : Int) (X : List Int) (y z : Int) (hv : Space h v N X) (hl : X.length < 2 ^ 39) :
    CallOK Try.prog 46 #[v, .int .i64 y, .int .i64 z] h (.tuple #[.int .i64 (worstQR N X y z), .bool (goB N X y z)]) h := by
  refine callY_P 24 _ [.tmp 6, .tmp 7] Try.func46 rfl rfl rfl (by first | rfl | simp) ?_
  obtain ⟨b, rfl, hX⟩ := hv
  refine WD_first ?_
  try simp (disch := first | omega | (simp; done) | fail) [wrap64c, if_pos, if_neg, opAnd, opOr, opXor, opDiff, opShr, opBit]
  refine stopK_heap fun h0 q_h0 => ?_
  refine stopK_go ?_
  have g_h0 : h0.get h.next = .cells [.int .i64 N, b] true true 1 := by simp [q_h0]
  have k_h0 : Adds h h0 := by rw [q_h0]; exact (by first | exact aK | exact kK)
  have n_h0 : h.next < h0.next := by simp [q_h0]; try omega
  have hX0 := hX.keep k_h0.1
  have K0 := k_h0.1
  try simp (disch := first | omega | (simp; done) | fail) [wrap64c, if_pos, if_neg, opAnd, opOr, opXor, opDiff, opShr, opBit, g_h0]
  refine callG_c (by simp) (by simp) ?ha (asGood_ok h0 (.agg #[.int .i64 N, b]) N X y z (.mk hX0) hl) ?_
  (case ha => simp (disch := first | omega | (simp; done) | fail) [wrap64c, if_pos, if_neg, opAnd, opOr, opXor, opDiff, opShr, opBit, g_h0])
  cases c1 : goB N X y z
  · try simp (disch := first | omega | (simp; done) | fail) [wrap64c, if_pos, if_neg, opAnd, opOr, opXor, opDiff, opShr, opBit, g_h0, c1]
    exact done_ret rfl (by simp [worstQR, c1, K0])
  · obtain ⟨n, xs, a, c, hN, hXe, ha, hc, g, hx, hy, hac, hne⟩ := goB_true c1
    subst hN hXe ha hc
    have hb7 := bit7 g.n7
    have hl7 := g.len7
    obtain ⟨_, h1, p1, ot, o1, o2, b1, rfl, a1, hlo, hT⟩ := asNew_ok h0 (.agg #[.int .i64 (n : Int), b]) n xs (.mk hX0) g.n7
    obtain ⟨_, h2, p2, ⟨t0, rfl, ht0⟩, W2, T2⟩ := spLeast_ok h1.next ot o1 o2 n (2 * n) b1 xs g rfl _ h1 a c hT (Nat.le_refl _) (by omega) (by omega) hne (Nat.lt_succ_self _)
    have K2 : Keeps h h2 := ⟨by have := a1.1.1; have := W2.upd.1; omega, fun r hr => by rw [W2.upd.2 r (by have := a1.1.1; omega) (by omega), a1.1.2 r (by omega)]; exact K0.2 r hr⟩
    try simp (disch := first | omega | (simp; done) | fail) [wrap64c, if_pos, if_neg, opAnd, opOr, opXor, opDiff, opShr, opBit, g_h0, c1]
    refine callG_c (by simp) (by simp) ?ha (p1) ?_
    (case ha => simp (disch := first | omega | (simp; done) | fail) [wrap64c, if_pos, if_neg, opAnd, opOr, opXor, opDiff, opShr, opBit, g_h0, c1])
    try simp (disch := first | omega | (simp; done) | fail) [wrap64c, if_pos, if_neg, opAnd, opOr, opXor, opDiff, opShr, opBit, g_h0, c1]
    refine callG_c (by simp) (by simp) ?ha (p2) ?_
    (case ha => simp (disch := first | omega | (simp; done) | fail) [wrap64c, if_pos, if_neg, opAnd, opOr, opXor, opDiff, opShr, opBit, g_h0, c1])
    try simp (disch := first | omega | (simp; done) | fail) [wrap64c, if_pos, if_neg, opAnd, opOr, opXor, opDiff, opShr, opBit, g_h0, c1]
    exact done_ret rfl (by simp [worstQR, c1, K2])
theorem implBestQ_ok (h : Hp) (v : Value) (N : Int) (X : List Int) (y z : Int) (hv : Space h v N X) (hl : X.length < 2 ^ 39) :
    CallOK Try.prog 47 #[v, .int .i64 y, .int .i64 z] h (.tuple #[.int .i64 (bestQR N X y z), .bool (askB N X y z)]) h := by
  refine callY_P 26 _ [.tmp 6, .tmp 7] Try.func47 rfl rfl rfl (by first | rfl | simp) ?_
  obtain ⟨b, rfl, hX⟩ := hv
  refine WD_first ?_
  try simp (disch := first | omega | (simp; done) | fail) [wrap64c, if_pos, if_neg, opAnd, opOr, opXor, opDiff, opShr, opBit]
  refine stopK_heap fun h0 q_h0 => ?_
  refine stopK_go ?_
  have g_h0 : h0.get h.next = .cells [.int .i64 N, b] true true 1 := by simp [q_h0]
  have k_h0 : Adds h h0 := by rw [q_h0]; exact (by first | exact aK | exact kK)
  have n_h0 : h.next < h0.next := by simp [q_h0]; try omega
  have hX0 := hX.keep k_h0.1
  have K0 := k_h0.1
  try simp (disch := first | omega | (simp; done) | fail) [wrap64c, if_pos, if_neg, opAnd, opOr, opXor, opDiff, opShr, opBit, g_h0]
  refine callG_c (by simp) (by simp) ?ha (goOn_ok h0 (.agg #[.int .i64 N, b]) N X y z (.mk hX0) hl) ?_
  (case ha => simp (disch := first | omega | (simp; done) | fail) [wrap64c, if_pos, if_neg, opAnd, opOr, opXor, opDiff, opShr, opBit, g_h0])
  cases c1 : goB N X y z
  · try simp (disch := first | omega | (simp; done) | fail) [wrap64c, if_pos, if_neg, opAnd, opOr, opXor, opDiff, opShr, opBit, g_h0, c1]
    exact done_ret rfl (by simp [bestQR, askB, c1, K0])
  · obtain ⟨n, xs, a, c, hN, hXe, ha, hc, g, hx, hy, hac, hne⟩ := goB_true c1
    subst hN hXe ha hc
    have hb7 := bit7 g.n7
    have hl7 := g.len7
    have hll := left_len xs a c
    obtain ⟨u, h1, p1, a1, i1⟩ := imLeft_ok h0 (.agg #[.int .i64 n, b]) n xs a c (.mk hX0) g.lt7 (by omega) (by omega) (by omega)
    have K1 := K0.trans a1.1
    have hX1 := hX0.keep a1.1
    have gb : h1.get h.next = .cells [.int .i64 n, b] true true 1 := by rw [a1.1.2 _ (by omega)]; exact g_h0
    have hlu := i1.ints.lenD
    have hln := toN_length (leftN xs a c)
    obtain ⟨L, hLe⟩ : ∃ L, L = leftN xs a c := ⟨_, rfl⟩
    have hk : askB (n : Int) (toN xs) (a : Int) (c : Int) = !decide (L.length = 1) := by simp [askB, c1, hLe]
    have hv : bestQR (n : Int) (toN xs) (a : Int) (c : Int) = if (L.length = 1) then 0 else bestN L := by
      rw [bestQR, hk, natsOf_toN, Int.toNat_natCast, Int.toNat_natCast, ← hLe]
      by_cases h : L.length = 1 <;> simp [h]
    rw [← hLe] at hln hll
    by_cases hone : L.length = 1
    · have hone' : (((leftN xs a c).length : Int) == 1) = true := by rw [← hLe]; simp [hone]
      try simp (disch := first | omega | (simp; done) | fail) [wrap64c, if_pos, if_neg, opAnd, opOr, opXor, opDiff, opShr, opBit, g_h0, c1, gb, hlu, hone']
      refine callG_c (by simp) (by simp) ?ha (p1) ?_
      (case ha => simp (disch := first | omega | (simp; done) | fail) [wrap64c, if_pos, if_neg, opAnd, opOr, opXor, opDiff, opShr, opBit, g_h0, c1, gb, hlu, hone'])
      try simp (disch := first | omega | (simp; done) | fail) [wrap64c, if_pos, if_neg, opAnd, opOr, opXor, opDiff, opShr, opBit, g_h0, c1, gb, hlu, hone']
      exact done_ret rfl (by simp [hv, hk, hone, K1])
    · have hone' : (((leftN xs a c).length : Int) == 1) = false := beq_false_of_ne (by rw [← hLe]; omega)
      obtain ⟨_, h2, p2, o, p, q, b1, rfl, a2, hopq, hgo, hgp, hgq, hb1⟩ := newAsker_ok h1 (.agg #[.int .i64 (n : Int), b]) n (toN xs) (.mk hX1)
      have hA : AskOK h2.next o p n b1 (.map (some q)) xs h2 := ⟨by omega, by omega, by omega, hgo, hb1.sub fun x hx => by omega, [], hgp, fun e he => by cases he⟩
      obtain ⟨_, h3, p3, rfl, W3, A3⟩ := best_ok h2.next o p n b1 (.map (some q)) xs g.lt7 (by omega) h2 a c hA (Nat.le_refl _) (by omega) (by omega)
      rw [← hLe] at p3
      have K3 : Keeps h h3 := ⟨by have := K1.1; have := a2.1.1; have := W3.upd.1; omega, fun r hr => by rw [W3.upd.2 r (by have := K1.1; have := a2.1.1; omega) (by have := K1.1; omega), a2.1.2 r (by have := K1.1; omega)]; exact K1.2 r hr⟩
      try simp (disch := first | omega | (simp; done) | fail) [wrap64c, if_pos, if_neg, opAnd, opOr, opXor, opDiff, opShr, opBit, g_h0, c1, gb, hlu, hone']
      refine callG_c (by simp) (by simp) ?ha (p1) ?_
      (case ha => simp (disch := first | omega | (simp; done) | fail) [wrap64c, if_pos, if_neg, opAnd, opOr, opXor, opDiff, opShr, opBit, g_h0, c1, gb, hlu, hone'])
      try simp (disch := first | omega | (simp; done) | fail) [wrap64c, if_pos, if_neg, opAnd, opOr, opXor, opDiff, opShr, opBit, g_h0, c1, gb, hlu, hone']
      refine callG_c (by simp) (by simp) ?ha (p2) ?_
      (case ha => simp (disch := first | omega | (simp; done) | fail) [wrap64c, if_pos, if_neg, opAnd, opOr, opXor, opDiff, opShr, opBit, g_h0, c1, gb, hlu, hone'])
      try simp (disch := first | omega | (simp; done) | fail) [wrap64c, if_pos, if_neg, opAnd, opOr, opXor, opDiff, opShr, opBit, g_h0, c1, gb, hlu, hone']
      refine callG_c (by simp) (by simp) ?ha (p3) ?_
      (case ha => simp (disch := first | omega | (simp; done) | fail) [wrap64c, if_pos, if_neg, opAnd, opOr, opXor, opDiff, opShr, opBit, g_h0, c1, gb, hlu, hone'])
      try simp (disch := first | omega | (simp; done) | fail) [wrap64c, if_pos, if_neg, opAnd, opOr, opXor, opDiff, opShr, opBit, g_h0, c1, gb, hlu, hone']
      exact done_ret rfl (by simp [hv, hk, hone, K3])
theorem specBestQ_ok (h : Hp) (v : Value) (N : Int) (X : List Int) (y z : Int) (hv : Space h v N X) (hl : X.length < 2 ^ 39) :
    CallOK Try.prog 48 #[v, .int .i64 y, .int .i64 z] h (.tuple #[.int .i64 (bestQR N X y z), .bool (askB N X y z)]) h := by
  refine callY_P 26 _ [.tmp 6, .tmp 7] Try.func48 rfl rfl rfl (by first | rfl | simp) ?_
  obtain ⟨b, rfl, hX⟩ := hv
  refine WD_first ?_
  try simp (disch := first | omega | (simp; done) | fail) [wrap64c, if_pos, if_neg, opAnd, opOr, opXor, opDiff, opShr, opBit]
  refine stopK_heap fun h0 q_h0 => ?_
  refine stopK_go ?_
  have g_h0 : h0.get h.next = .cells [.int .i64 N, b] true true 1 := by simp [q_h0]
  have k_h0 : Adds h h0 := by rw [q_h0]; exact (by first | exact aK | exact kK)
  have n_h0 : h.next < h0.next := by simp [q_h0]; try omega
  have hX0 := hX.keep k_h0.1
  have K0 := k_h0.1
  try simp (disch := first | omega | (simp; done) | fail) [wrap64c, if_pos, if_neg, opAnd, opOr, opXor, opDiff, opShr, opBit, g_h0]
  refine callG_c (by simp) (by simp) ?ha (asGood_ok h0 (.agg #[.int .i64 N, b]) N X y z (.mk hX0) hl) ?_
  (case ha => simp (disch := first | omega | (simp; done) | fail) [wrap64c, if_pos, if_neg, opAnd, opOr, opXor, opDiff, opShr, opBit, g_h0])
  cases c1 : goB N X y z
  · try simp (disch := first | omega | (simp; done) | fail) [wrap64c, if_pos, if_neg, opAnd, opOr, opXor, opDiff, opShr, opBit, g_h0, c1]
    exact done_ret rfl (by simp [bestQR, askB, c1, K0])
  · obtain ⟨n, xs, a, c, hN, hXe, ha, hc, g, hx, hy, hac, hne⟩ := goB_true c1
    subst hN hXe ha hc
    have hb7 := bit7 g.n7
    have hl7 := g.len7
    have hll := left_len xs a c
    obtain ⟨u, h1, p1, a1, i1⟩ := spLeft_ok h0 (.agg #[.int .i64 n, b]) n xs a c (.mk hX0) g.lt7 (by omega) (by omega) (by omega)
    have K1 := K0.trans a1.1
    have hX1 := hX0.keep a1.1
    have gb : h1.get h.next = .cells [.int .i64 n, b] true true 1 := by rw [a1.1.2 _ (by omega)]; exact g_h0
    have hlu := i1.ints.lenD
    have hln := toN_length (leftN xs a c)
    obtain ⟨L, hLe⟩ : ∃ L, L = leftN xs a c := ⟨_, rfl⟩
    have hk : askB (n : Int) (toN xs) (a : Int) (c : Int) = !decide (L.length = 1) := by simp [askB, c1, hLe]
    have hv : bestQR (n : Int) (toN xs) (a : Int) (c : Int) = if (L.length = 1) then 0 else bestN L := by
      rw [bestQR, hk, natsOf_toN, Int.toNat_natCast, Int.toNat_natCast, ← hLe]
      by_cases h : L.length = 1 <;> simp [h]
    rw [← hLe] at hln hll
    by_cases hone : L.length = 1
    · have hone' : (((leftN xs a c).length : Int) == 1) = true := by rw [← hLe]; simp [hone]
      try simp (disch := first | omega | (simp; done) | fail) [wrap64c, if_pos, if_neg, opAnd, opOr, opXor, opDiff, opShr, opBit, g_h0, c1, gb, hlu, hone']
      refine callG_c (by simp) (by simp) ?ha (p1) ?_
      (case ha => simp (disch := first | omega | (simp; done) | fail) [wrap64c, if_pos, if_neg, opAnd, opOr, opXor, opDiff, opShr, opBit, g_h0, c1, gb, hlu, hone'])
      try simp (disch := first | omega | (simp; done) | fail) [wrap64c, if_pos, if_neg, opAnd, opOr, opXor, opDiff, opShr, opBit, g_h0, c1, gb, hlu, hone']
      exact done_ret rfl (by simp [hv, hk, hone, K1])
    · have hone' : (((leftN xs a c).length : Int) == 1) = false := beq_false_of_ne (by rw [← hLe]; omega)
      have hl0 := List.length_pos_iff.2 hne
      rw [← hLe] at hl0
      obtain ⟨_, h2, p2, ot, o1, o2, b1, rfl, a2, hlo, hT⟩ := asNew_ok h1 (.agg #[.int .i64 (n : Int), b]) n xs (.mk hX1) g.n7
      obtain ⟨_, h3, p3, rfl, W3, T3⟩ := spBest_ok h2.next ot o1 o2 n (2 * n) b1 xs g rfl h2 a c hT (Nat.le_refl _) (by omega) (by omega) (by rw [← hLe]; omega)
      rw [← hLe] at p3
      have K3 : Keeps h h3 := ⟨by have := K1.1; have := a2.1.1; have := W3.upd.1; omega, fun r hr => by rw [W3.upd.2 r (by have := K1.1; have := a2.1.1; omega) (by have := K1.1; omega), a2.1.2 r (by have := K1.1; omega)]; exact K1.2 r hr⟩
      try simp (disch := first | omega | (simp; done) | fail) [wrap64c, if_pos, if_neg, opAnd, opOr, opXor, opDiff, opShr, opBit, g_h0, c1, gb, hlu, hone']
      refine callG_c (by simp) (by simp) ?ha (p1) ?_
      (case ha => simp (disch := first | omega | (simp; done) | fail) [wrap64c, if_pos, if_neg, opAnd, opOr, opXor, opDiff, opShr, opBit, g_h0, c1, gb, hlu, hone'])
      try simp (disch := first | omega | (simp; done) | fail) [wrap64c, if_pos, if_neg, opAnd, opOr, opXor, opDiff, opShr, opBit, g_h0, c1, gb, hlu, hone']
      refine callG_c (by simp) (by simp) ?ha (p2) ?_
      (case ha => simp (disch := first | omega | (simp; done) | fail) [wrap64c, if_pos, if_neg, opAnd, opOr, opXor, opDiff, opShr, opBit, g_h0, c1, gb, hlu, hone'])
      try simp (disch := first | omega | (simp; done) | fail) [wrap64c, if_pos, if_neg, opAnd, opOr, opXor, opDiff, opShr, opBit, g_h0, c1, gb, hlu, hone']
      refine callG_c (by simp) (by simp) ?ha (p3) ?_
      (case ha => simp (disch := first | omega | (simp; done) | fail) [wrap64c, if_pos, if_neg, opAnd, opOr, opXor, opDiff, opShr, opBit, g_h0, c1, gb, hlu, hone'])
      try simp (disch := first | omega | (simp; done) | fail) [wrap64c, if_pos, if_neg, opAnd, opOr, opXor, opDiff, opShr, opBit, g_h0, c1, gb, hlu, hone']
      exact done_ret rfl (by simp [hv, hk, hone, K3])
end Go.Proofs.Ytnncipcldbopgaa
namespace Go.Proofs.Ytnncipcldbopgaa
set_option linter.unusedSimpArgs false
set_option linter.unusedVariables false
set_option maxHeartbeats 4000000
open Go Go.Eng
attribute [local irreducible] WD RunD PreD Runs CallOK
theorem ask_go {fs : List Nat} {a b i : Nat} (hab : nAnd a b = 0) (ho : opB (leftN fs a b) i = true) : nAnd (nOr a (bit i)) b = 0 ∧ nAnd a (nOr b (bit i)) = 0 := by
  obtain ⟨⟨x, hx, hxi⟩, ⟨y, hy, hyi⟩⟩ := opB_iff.1 ho
  have h1 := leftB_iff.1 (List.mem_filter.1 hx).2
  have h2 := leftB_iff.1 (List.mem_filter.1 hy).2
  rw [nAnd_zero] at hab
  constructor
  · rw [nAnd_zero]
    intro j hj
    rw [nOr_bit, bit_bit, Bool.or_eq_true] at hj
    rcases hj with hj | hj
    · exact hab j hj
    · have := of_decide_eq_true hj; subst this
      cases hb : b.testBit i
      · rfl
      · have := h1.2 i hb; rw [hxi] at this; cases this
  · rw [nAnd_zero]
    intro j hj
    rw [nOr_bit, bit_bit, hab j hj, Bool.false_or]
    by_cases e : i = j
    · subst e
      have := h2.1 i hj; rw [hyi] at this; cases this
    · simp [e]
theorem worst_with {n : Nat} {fs : List Nat} (gd : SpGood n fs) {a b i : Nat} (ha : a < bit n) (hb : b < bit n) (hab : nAnd a b = 0) (hi : i < n) (ho : opB (leftN fs a b) i = true) :
    (goB (n : Int) (toN fs) ((nOr a (bit i) : Nat) : Int) (b : Int) = true ∧ worstQR (n : Int) (toN fs) ((nOr a (bit i) : Nat) : Int) (b : Int) = ((worstN (hasL (leftN fs a b) i) : Nat) : Int)) ∧
    (goB (n : Int) (toN fs) (a : Int) ((nOr b (bit i) : Nat) : Int) = true ∧ worstQR (n : Int) (toN fs) (a : Int) ((nOr b (bit i) : Nat) : Int) = ((worstN (lacksL (leftN fs a b) i) : Nat) : Int)) := by
  obtain ⟨y1, y2⟩ := ask_go hab ho
  have hlen := has_len ho
  have la : nOr a (bit i) < bit n := nOr_lt ha (bit_lt_bit hi)
  have lb : nOr b (bit i) < bit n := nOr_lt hb (bit_lt_bit hi)
  have g1 : goB (n : Int) (toN fs) ((nOr a (bit i) : Nat) : Int) (b : Int) = true := goB_of gd la hb y1 (by rw [left_yes]; exact List.length_pos_iff.1 hlen.2.2.1)
  have g2 : goB (n : Int) (toN fs) (a : Int) ((nOr b (bit i) : Nat) : Int) = true := goB_of gd ha lb y2 (by rw [left_no]; exact List.length_pos_iff.1 hlen.2.2.2.1)
  refine ⟨⟨g1, ?_⟩, g2, ?_⟩
  · rw [worstQR, if_pos g1, natsOf_toN, Int.toNat_natCast, Int.toNat_natCast, left_yes]
  · rw [worstQR, if_pos g2, natsOf_toN, Int.toNat_natCast, Int.toNat_natCast, left_no]
theorem go_none {n : Nat} {fs : List Nat} (gd : SpGood n fs) : goB (n : Int) (toN fs) 0 0 = true ∧ worstQR (n : Int) (toN fs) 0 0 = ((worstN fs : Nat) : Int) := by
  have hb := bit_pos n
  have g : goB (n : Int) (toN fs) ((0 : Nat) : Int) ((0 : Nat) : Int) = true := goB_of gd (by omega) (by omega) rfl (by rw [left_zero]; exact List.ne_nil_of_mem gd.zero)
  have g' : goB (n : Int) (toN fs) 0 0 = true := g
  refine ⟨g', ?_⟩
  rw [worstQR, if_pos g', natsOf_toN]
  show ((worstN (leftN fs 0 0) : Nat) : Int) = _
  rw [left_zero]
theorem op_sub {L : List Nat} {q : Nat → Bool} {i : Nat} (h : i ∈ openN (L.filter q)) : i ∈ openN L := by
  rw [open_filter] at h
  exact (List.mem_filter.1 h).1
theorem run_mem {ask : List Nat → Int} (hask : ∀ L, ask L < 0 ∨ ∃ i, ask L = (i : Nat) ∧ i ∈ openN L) (x : Nat) : ∀ (k : Nat) (L : List Nat), ∀ i ∈ runF ask x k L, i ∈ openN L
  | 0, L, i, hi => by simp [runF] at hi
  | k + 1, L, i, hi => by
    rcases hask L with hn | ⟨j, hj, ho⟩
    · rw [runF_nil hn] at hi; cases hi
    · rw [runF_cons hj] at hi
      rcases List.mem_cons.1 hi with rfl | hi
      · exact ho
      · have := run_mem hask x k _ i hi
        split at this
        · exact op_sub this
        · exact op_sub this
theorem tellP_snoc (x i : Nat) : ∀ (l : List Nat) (p : Nat), tellP x (l ++ [i]) p = if x.testBit i = true then nOr (tellP x l p) (bit i) else tellP x l p
  | [], p => rfl
  | a :: l, p => by rw [List.cons_append, tellP, tellP, tellP_snoc x i l]
theorem tellQ_snoc (x i : Nat) : ∀ (l : List Nat) (q : Nat), tellQ x (l ++ [i]) q = if x.testBit i = true then tellQ x l q else nOr (tellQ x l q) (bit i)
  | [], q => rfl
  | a :: l, q => by rw [List.cons_append, tellQ, tellQ, tellQ_snoc x i l]
theorem tellP_lt {n x : Nat} {l : List Nat} (h : ∀ i ∈ l, i < n) : tellP x l 0 < bit n := by
  apply lt_bit_of
  intro i hi
  rw [tellP_bit]
  have : i ∉ l := fun hm => by have := h i hm; omega
  simp [this]
theorem tellQ_lt {n x : Nat} {l : List Nat} (h : ∀ i ∈ l, i < n) : tellQ x l 0 < bit n := by
  apply lt_bit_of
  intro i hi
  rw [tellQ_bit]
  have : i ∉ l := fun hm => by have := h i hm; omega
  simp [this]
theorem open_lt {n : Nat} {L : List Nat} (s : SLn n L) {i : Nat} (h : i ∈ openN L) : i < n := by
  rw [← openK_eq s.n7 s.lt] at h
  exact (mem_openK.1 h).1
theorem run_proof {n : Nat} {fs : List Nat} (gd : SpGood n fs) {x : Nat} (hx : x ∈ fs) : leftN fs (tellP x (runF bestN x fs.length fs) 0) (tellQ x (runF bestN x fs.length fs) 0) = [x] := by
  obtain ⟨R, hR⟩ : ∃ R, R = runF bestN x fs.length fs := ⟨_, rfl⟩
  have h1 := tell_left bestN askBest fs x fs.length fs 0 0 (left_zero fs) (Nat.le_refl _)
  rw [← hR] at h1 ⊢
  rcases h1 with h1 | h1
  · obtain ⟨M, hM⟩ : ∃ M, M = leftN fs (tellP x R 0) (tellQ x R 0) := ⟨_, rfl⟩
    have sM : SLn n M := hM ▸ gd.sl.left _ _
    rw [← hM] at h1 ⊢
    have hmem : x ∈ M := by
      rw [hM]
      refine List.mem_filter.2 ⟨hx, leftB_iff.2 ⟨fun i hi => ?_, fun i hi => ?_⟩⟩
      · rw [tellP_bit] at hi; simp at hi; exact hi.2
      · rw [tellQ_bit] at hi; simp at hi; exact hi.2
    have hlen : M.length ≤ 1 := by
      apply Classical.byContradiction
      intro hn
      obtain ⟨i, hi, _⟩ := bestN_mem (sM.open1.2 (by omega))
      rw [hi] at h1
      omega
    match M, hlen, hmem with
    | [y], _, hmem => rw [List.mem_singleton.1 hmem]
  · rw [h1] at hx; cases hx
theorem worst_pos {n : Nat} {L : List Nat} (s : SLn n L) (h0 : 0 < L.length) : (0 < worstN L) ↔ ¬ L.length = 1 := by
  have := s.worst0
  omega
end Go.Proofs.Ytnncipcldbopgaa
namespace Go.Proofs.Ytnncipcldbopgaa
set_option linter.unusedSimpArgs false
set_option linter.unusedVariables false
set_option maxHeartbeats 4000000
open Go Go.Eng
attribute [local irreducible] WD RunD PreD Runs CallOK
theorem slEq_ok (h : Hp) (v w : Value) (X Y : List Int) (hv : Ints h v X) (hw : Ints h w Y) : CallOK Try.prog 169 #[v, w] h (.bool (decide (X = Y))) h := by
  refine callY_P 26 _ [.tmp 4] Try.func169 rfl rfl rfl (by first | rfl | simp) ?_
  have hL := hv.lenD
  have hM := hw.lenD
  have hlx := hv.len
  have hly := hw.len
  by_cases hl : X.length = Y.length
  · have hlb : ((X.length : Int) != (Y.length : Int)) = false := by simp [hl]
    try simp (disch := first | omega | (simp; done) | fail) [wrap64c, if_pos, if_neg, opAnd, opOr, opXor, opDiff, opShr, opBit, hL, hM, hlb]
    refine WD_loopC [0, 1, 12] (fun m tm h' => ∃ j, m = X.length - j ∧ h = h' ∧ tm 13 = .int .i64 (j : Int) ∧ (j ≤ X.length) ∧ (∀ i (h1 : i < X.length) (h2 : i < Y.length), i < j → X[i] = Y[i])) _ ⟨0, rfl, rfl, (by simp (disch := first | omega | (simp; done) | fail) [wrap64c, if_pos, if_neg, opAnd, opOr, opXor, opDiff, opShr, opBit, hL, hM, hlb]), (by first | omega | assumption | (simp (disch := first | omega | (simp; done) | fail) [wrap64c, if_pos, if_neg, opAnd, opOr, opXor, opDiff, opShr, opBit, hL, hM, hlb] <;> omega)), (by intro i h1 h2 h3; omega)⟩ ?_
    rintro m tm h' hFr ⟨j, rfl, rfl, e13, hj, hx⟩
    simp only [FrameL] at hFr
    obtain ⟨f0_0, f1_0, f12_0, -⟩ := hFr
    try simp (disch := first | omega | (simp; done) | fail) [wrap64c, if_pos, if_neg, opAnd, opOr, opXor, opDiff, opShr, opBit, hL, hM, hlb] at f0_0 f1_0 f12_0
    have e0 := f0_0
    have e1 := f1_0
    have e12 := f12_0
    by_cases hlt : j < X.length
    · have hlt2 : j < Y.length := by omega
      obtain ⟨o_x, i_x, c_x, cs_x, own_x, ex_x, es_x, q_x, b_x, g_x, l_x, r_x⟩ := hv.open ((by omega))
      have z_x : ∀ h2 : i_x < cs_x.length, cs_x[i_x] = _ := fun h2 => r_x 0 ((by omega)) h2
      obtain ⟨o_y, i_y, c_y, cs_y, own_y, ex_y, es_y, q_y, b_y, g_y, l_y, r_y⟩ := hw.open ((by omega))
      have z_y : ∀ h2 : i_y < cs_y.length, cs_y[i_y] = _ := fun h2 => r_y 0 ((by omega)) h2
      try simp (disch := first | omega | (simp; done) | fail) [wrap64c, if_pos, if_neg, opAnd, opOr, opXor, opDiff, opShr, opBit, hL, hM, hlb, e0, e1, e12, e13, hlt, hlt2, q_x, g_x, l_x, r_x, z_x, q_y, g_y, l_y, r_y, z_y]
      refine WD_drawC 8 rfl (by kernel_rfl) ?_
      by_cases he : X[j] = Y[j]
      · have hb : (X[j] != Y[j]) = false := by simp [he]
        try simp (disch := first | omega | (simp; done) | fail) [wrap64c, if_pos, if_neg, opAnd, opOr, opXor, opDiff, opShr, opBit, hL, hM, hlb, e0, e1, e12, e13, hlt, hlt2, q_x, g_x, l_x, r_x, z_x, q_y, g_y, l_y, r_y, z_y, hb]
        refine loopK_next _ ?hm ?hf ⟨j + 1, rfl, rfl, (by simp (disch := first | omega | (simp; done) | fail) [wrap64c, if_pos, if_neg, opAnd, opOr, opXor, opDiff, opShr, opBit, hL, hM, hlb, e0, e1, e12, e13, hlt, hlt2, q_x, g_x, l_x, r_x, z_x, q_y, g_y, l_y, r_y, z_y] <;> omega), (by first | omega | assumption | (simp (disch := first | omega | (simp; done) | fail) [wrap64c, if_pos, if_neg, opAnd, opOr, opXor, opDiff, opShr, opBit, hL, hM, hlb, e0, e1, e12, e13, hlt, hlt2, q_x, g_x, l_x, r_x, z_x, q_y, g_y, l_y, r_y, z_y] <;> omega)), ?c_hx⟩
        (case hm => first | omega | (simp; omega))
        (case hf => simp [FrameL, hL, hM, hlb, e0, e1, e12, e13, hlt, hlt2, q_x, g_x, l_x, r_x, z_x, q_y, g_y, l_y, r_y, z_y, f0_0, f1_0, f12_0])
        case c_hx =>
          exact (fun i h1 h2 hi => by
            by_cases e : i = j
            · subst e; exact he
            · exact hx i h1 h2 (by omega))
      · have hb : (X[j] != Y[j]) = true := by simp [he]
        have hne : ¬ X = Y := fun e => he (by subst e; rfl)
        try simp (disch := first | omega | (simp; done) | fail) [wrap64c, if_pos, if_neg, opAnd, opOr, opXor, opDiff, opShr, opBit, hL, hM, hlb, e0, e1, e12, e13, hlt, hlt2, q_x, g_x, l_x, r_x, z_x, q_y, g_y, l_y, r_y, z_y, hb]
        exact done_ret rfl (by simp [hne])
    · try simp (disch := first | omega | (simp; done) | fail) [wrap64c, if_pos, if_neg, opAnd, opOr, opXor, opDiff, opShr, opBit, hL, hM, hlb, e0, e1, e12, e13, hlt]
      have e : X = Y := List.ext_getElem hl fun i h1 h2 => hx i h1 h2 (by omega)
      exact done_ret rfl (by simp [e])
  · have hlb : ((X.length : Int) != (Y.length : Int)) = true := by simp; omega
    have hne : ¬ X = Y := fun e => hl (by rw [e])
    try simp (disch := first | omega | (simp; done) | fail) [wrap64c, if_pos, if_neg, opAnd, opOr, opXor, opDiff, opShr, opBit, hL, hM, hlb]
    exact done_ret rfl (by simp [hne])
noncomputable def prfOK (N : Int) (X : List Int) (a y z : Int) : Bool := oneB N X a && ansB N X y z
noncomputable def prfB (N : Int) (X : List Int) (a y z : Int) : Bool := prfOK N X a y z && decide (leftN (natsOf X) y.toNat z.toNat = [a.toNat])
theorem toN_one {L : List Nat} {x : Nat} : toN L = [(x : Int)] ↔ L = [x] := by
  rw [show [(x : Int)] = toN [x] from rfl, toN_inj]
theorem implIsProof_ok (h : Hp) (v : Value) (N : Int) (X : List Int) (a y z : Int) (hv : Space h v N X) (hl : X.length < 2 ^ 39) : CallOK Try.prog 56 #[v, .int .i64 a, .int .i64 y, .int .i64 z] h (.tuple #[.bool (prfB N X a y z), .bool (prfOK N X a y z)]) h := by
  refine callY_P 28 _ [.tmp 8, .tmp 9] Try.func56 rfl rfl rfl (by first | rfl | simp) ?_
  obtain ⟨b, rfl, hX⟩ := hv
  refine WD_first ?_
  try simp (disch := first | omega | (simp; done) | fail) [wrap64c, if_pos, if_neg, opAnd, opOr, opXor, opDiff, opShr, opBit]
  refine stopK_heap fun h0 q_h0 => ?_
  refine stopK_go ?_
  have g_h0 : h0.get h.next = .cells [.int .i64 N, b] true true 1 := by simp [q_h0]
  have k_h0 : Adds h h0 := by rw [q_h0]; exact (by first | exact aK | exact kK)
  have n_h0 : h.next < h0.next := by simp [q_h0]; try omega
  have hX0 := hX.keep k_h0.1
  have K0 := k_h0.1
  try simp (disch := first | omega | (simp; done) | fail) [wrap64c, if_pos, if_neg, opAnd, opOr, opXor, opDiff, opShr, opBit, g_h0]
  refine callG_c (by simp) (by simp) ?ha (isKnown_ok h0 (.agg #[.int .i64 N, b]) N X a (.mk hX0) (by omega)) ?_
  (case ha => simp (disch := first | omega | (simp; done) | fail) [wrap64c, if_pos, if_neg, opAnd, opOr, opXor, opDiff, opShr, opBit, g_h0])
  cases c1 : oneB N X a
  · try simp (disch := first | omega | (simp; done) | fail) [wrap64c, if_pos, if_neg, opAnd, opOr, opXor, opDiff, opShr, opBit, g_h0, c1]
    exact done_ret rfl (by simp [prfB, prfOK, c1, K0])
  · try simp (disch := first | omega | (simp; done) | fail) [wrap64c, if_pos, if_neg, opAnd, opOr, opXor, opDiff, opShr, opBit, g_h0, c1]
    refine callG_c (by simp) (by simp) ?ha (areAns_ok h0 (.agg #[.int .i64 N, b]) N X y z (.mk hX0) (by omega)) ?_
    (case ha => simp (disch := first | omega | (simp; done) | fail) [wrap64c, if_pos, if_neg, opAnd, opOr, opXor, opDiff, opShr, opBit, g_h0, c1])
    cases c2 : ansB N X y z
    · try simp (disch := first | omega | (simp; done) | fail) [wrap64c, if_pos, if_neg, opAnd, opOr, opXor, opDiff, opShr, opBit, g_h0, c1, c2]
      exact done_ret rfl (by simp [prfB, prfOK, c1, c2, K0])
    · obtain ⟨n, xs, x, hN, hXe, ha, g, hx⟩ := oneB_true c1
      subst hN hXe ha
      obtain ⟨n', xs', p, q, e1, e2, rfl, rfl, _, hp, hq, hpq⟩ := ansB_true c2
      have e1' : n' = n := by omega
      have e2' := toN_inj.1 e2
      subst e1' e2'
      have hb7 := bit7 g.n7
      have hl7 := g.len7
      obtain ⟨u, h1, p1, a1, i1⟩ := imLeft_ok h0 (.agg #[.int .i64 n', b]) n' xs p q (.mk hX0) g.lt7 (by omega) (by omega) (by omega)
      have K1 := K0.trans a1.1
      obtain ⟨L, hLe⟩ : ∃ L, L = leftN xs p q := ⟨_, rfl⟩
      rw [← hLe] at i1
      have hnt := i1.ints.nt
      try simp (disch := first | omega | (simp; done) | fail) [wrap64c, if_pos, if_neg, opAnd, opOr, opXor, opDiff, opShr, opBit, g_h0, c1, c2, hnt]
      refine callG_c (by simp) (by simp) ?ha (p1) ?_
      (case ha => simp (disch := first | omega | (simp; done) | fail) [wrap64c, if_pos, if_neg, opAnd, opOr, opXor, opDiff, opShr, opBit, g_h0, c1, c2, hnt])
      try simp (disch := first | omega | (simp; done) | fail) [wrap64c, if_pos, if_neg, opAnd, opOr, opXor, opDiff, opShr, opBit, g_h0, c1, c2, hnt]
      first | refine WY_heap fun h2 q_h2 => ?_ | refine callG_heap fun h2 q_h2 => ?_ | refine callP_heap fun h2 q_h2 => ?_ | refine callS_heap fun h2 q_h2 => ?_ | refine RY_heap fun h2 q_h2 => ?_ | refine PY_heap fun h2 q_h2 => ?_ | refine SY_heap fun h2 q_h2 => ?_ | refine doneY_heap fun h2 q_h2 => ?_ | refine loopK_heap fun h2 q_h2 => ?_ | refine thenY_heap fun h2 q_h2 => ?_ | refine thenM_heap fun h2 q_h2 => ?_
      have k2 : Adds h1 h2 := by rw [q_h2]; exact (by first | exact aK | exact kK)
      have hi2 := i1.ints.keep k2.1
      have hi3 : Ints h2 (.slice (some ⟨h1.next, 0, none⟩) 1 1) [(x : Int)] := (lit_ints (F := fun _ => True) (xs := [(x : Int)]) (own := true) (ex := true) (es := 1) (by simp [q_h2]) (by simp [q_h2]) trivial (by simp)).ints
      refine callG_c (by simp) (by simp) ?ha (slEq_ok h2 _ _ _ _ hi2 hi3) ?_
      (case ha => simp (disch := first | omega | (simp; done) | fail) [wrap64c, if_pos, if_neg, opAnd, opOr, opXor, opDiff, opShr, opBit, g_h0, c1, c2, hnt])
      try simp (disch := first | omega | (simp; done) | fail) [wrap64c, if_pos, if_neg, opAnd, opOr, opXor, opDiff, opShr, opBit, g_h0, c1, c2, hnt]
      refine done_ret rfl ⟨?_, K1.trans k2.1⟩
      simp [prfB, prfOK, c1, c2, ← hLe, toN_one]
def lpN (n : Nat) (xs l : List Nat) : Nat := l.foldl (fun m x => max m (pcN (innerN (fam xs) x) + pcN (outerN (fam xs) n x))) 0
noncomputable def lpR (N : Int) (X : List Int) : Int := if spB N X = true then ((lpN N.toNat (natsOf X) (natsOf X) : Nat) : Int) else 0
end Go.Proofs.Ytnncipcldbopgaa
