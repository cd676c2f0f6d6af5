/- What a space is, by the program; sets of a space; numbers of items. -/
import Derived.Test.YtnjabaeajjhliaaS4
namespace Go.Proofs.Ytnjabaeajjhliaa
set_option linter.unusedSimpArgs false
set_option linter.unusedVariables false
set_option maxHeartbeats 4000000
open Go Go.Eng
attribute [local irreducible] WD RunD PreD Runs CallOK

theorem Space.mk {h : Hp} {b : Value} {N : Int} {X : List Int} (hX : Ints h b X) : Space h (.agg #[.int .i64 N, b]) N X := ⟨b, rfl, hX⟩

theorem isSpace_ok (h : Hp) (v : Value) (N : Int) (X : List Int) (hv : Space h v N X) (hl : X.length < 2 ^ 40) : CallOK Try.prog 71 #[v] h (.bool (spB N X)) h := by
  refine callY_P 99 _ [.tmp 2] Try.func71 rfl rfl rfl (by first | rfl | simp) ?_
  obtain ⟨b, rfl, hX⟩ := hv
  refine WD_first ?_
  try simp (disch := first | omega | (simp; done) | fail) [wrap64c, if_pos, if_neg, opAnd, opOr, opXor, opDiff, opShr, opBit]
  refine stopK_heap fun h0 q_h0 => ?_
  refine stopK_go ?_
  have g_h0 : h0.get h.next = .cells [.int .i64 N, b] true true 1 := by simp [q_h0]
  have k_h0 : Adds h h0 := by rw [q_h0]; exact (by first | exact aK | exact kK)
  have n_h0 : h.next < h0.next := by simp [q_h0]; try omega
  have hX0 := hX.keep k_h0.1
  have hL := hX0.lenD
  have K0 := k_h0.1
  try simp (disch := first | omega | (simp; done) | fail) [wrap64c, if_pos, if_neg, opAnd, opOr, opXor, opDiff, opShr, opBit, g_h0, hL]
  refine WD_drawC 11 rfl (by kernel_rfl) ?_
  try simp (disch := first | omega | (simp; done) | fail) [wrap64c, if_pos, if_neg, opAnd, opOr, opXor, opDiff, opShr, opBit, g_h0, hL]
  refine callP_c (by simp) (by simp) ?ha (isSize_ok h0 N) ?hadd ?_
  (case ha => simp (disch := first | omega | (simp; done) | fail) [wrap64c, if_pos, if_neg, opAnd, opOr, opXor, opDiff, opShr, opBit, g_h0, hL])
  (case hadd => first | assumption | exact adds_self _ | (simp; done))
  cases c1 : sizeB N
  · try simp (disch := first | omega | (simp; done) | fail) [wrap64c, if_pos, if_neg, opAnd, opOr, opXor, opDiff, opShr, opBit, g_h0, hL, c1]
    have : spB N X = false := spB_false (fun n xs e1 e2 g => by subst e1; rw [sizeB_of g.n1 g.n7] at c1; cases c1)
    exact done_ret rfl (by simp [this, K0])
  · obtain ⟨n, hN, n1, n7⟩ := sizeB_true c1
    have hb := bit7 n7
    by_cases c2 : (bit n : Int) < (X.length : Int)
    · try simp (disch := first | omega | (simp; done) | fail) [wrap64c, if_pos, if_neg, opAnd, opOr, opXor, opDiff, opShr, opBit, g_h0, hL, c1, hN, c2]
      have : spB N X = false := hN ▸ spB_noX (fun hr => by obtain ⟨xs, e, _, _, hle⟩ := hr.nats; rw [e, toN_length] at c2; omega)
      exact done_ret rfl (by simp [this, K0])
    · try simp (disch := first | omega | (simp; done) | fail) [wrap64c, if_pos, if_neg, opAnd, opOr, opXor, opDiff, opShr, opBit, g_h0, hL, c1, hN, c2]
      refine WD_loopC [1, 24, 25] (fun m tm h' => ∃ j, m = X.length - j ∧ h0 = h' ∧ tm 26 = .int .i64 (j : Int) ∧ (j ≤ X.length) ∧ (∀ i (h1 : i < X.length), i < j → (0 ≤ X[i] ∧ X[i] ≤ ((bit n : Nat) : Int) - 1) ∧ (0 < i → X[i - 1] < X[i]))) _ ⟨0, rfl, rfl, (by simp (disch := first | omega | (simp; done) | fail) [wrap64c, if_pos, if_neg, opAnd, opOr, opXor, opDiff, opShr, opBit, g_h0, hL, c1, hN, c2]), (by first | omega | assumption | (simp (disch := first | omega | (simp; done) | fail) [wrap64c, if_pos, if_neg, opAnd, opOr, opXor, opDiff, opShr, opBit, g_h0, hL, c1, hN, c2] <;> omega)), (by intro i h1 h0; omega)⟩ ?_
      rintro m tm h' hFr ⟨j, rfl, rfl, e26, hj, hx⟩
      simp only [FrameL] at hFr
      obtain ⟨f1_0, f24_0, f25_0, -⟩ := hFr
      try simp (disch := first | omega | (simp; done) | fail) [wrap64c, if_pos, if_neg, opAnd, opOr, opXor, opDiff, opShr, opBit, g_h0, hL, c1, hN, c2] at f1_0 f24_0 f25_0
      have e1 := f1_0
      have e24 := f24_0
      have e25 := f25_0
      by_cases hlt : j < X.length
      · obtain ⟨o_x, i_x, c_x, cs_x, own_x, ex_x, es_x, q_x, b_x, g_x, l_x, r_x⟩ := hX0.open ((by omega))
        have z_x : ∀ h2 : i_x < cs_x.length, cs_x[i_x] = _ := fun h2 => r_x 0 ((by omega)) h2
        try simp (disch := first | omega | (simp; done) | fail) [wrap64c, if_pos, if_neg, opAnd, opOr, opXor, opDiff, opShr, opBit, g_h0, hL, c1, hN, c2, e1, e24, e25, e26, hlt, q_x, g_x, l_x, r_x, z_x]
        refine callG_c (by simp) (by simp) ?ha (isSet_ok h0 n X[j] (by omega)) ?_
        (case ha => simp (disch := first | omega | (simp; done) | fail) [wrap64c, if_pos, if_neg, opAnd, opOr, opXor, opDiff, opShr, opBit, g_h0, hL, c1, hN, c2, e1, e24, e25, e26, hlt, q_x, g_x, l_x, r_x, z_x])
        cases c : setB n X[j]
        · try simp (disch := first | omega | (simp; done) | fail) [wrap64c, if_pos, if_neg, opAnd, opOr, opXor, opDiff, opShr, opBit, g_h0, hL, c1, hN, c2, e1, e24, e25, e26, hlt, q_x, g_x, l_x, r_x, z_x, c]
          have : spB N X = false := hN ▸ spB_noX (fun hr => by
            have h1 := (ris_at.1 hr j hlt).1
            have h2 : setB n X[j] = true := setB_iff.2 (by omega)
            rw [h2] at c; cases c)
          exact done_ret rfl (by simp [this, K0])
        · have hc := setB_iff.1 c
          by_cases hp : 0 < j
          · have hp' : ((j : Int) - 1) = ((j - 1 : Nat) : Int) := by omega
            by_cases hd : X[j - 1] < X[j]
            · have hd2 : ¬ X[j] ≤ X[j - 1] := by omega
              try simp (disch := first | omega | (simp; done) | fail) [wrap64c, if_pos, if_neg, opAnd, opOr, opXor, opDiff, opShr, opBit, g_h0, hL, c1, hN, c2, e1, e24, e25, e26, hlt, q_x, g_x, l_x, r_x, z_x, c, hp, hp', hd2]
              refine loopK_next _ ?hm ?hf ⟨j + 1, rfl, rfl, (by simp (disch := first | omega | (simp; done) | fail) [wrap64c, if_pos, if_neg, opAnd, opOr, opXor, opDiff, opShr, opBit, g_h0, hL, c1, hN, c2, e1, e24, e25, e26, hlt, q_x, g_x, l_x, r_x, z_x, c, hp, hp', hd2] <;> omega), (by first | omega | assumption | (simp (disch := first | omega | (simp; done) | fail) [wrap64c, if_pos, if_neg, opAnd, opOr, opXor, opDiff, opShr, opBit, g_h0, hL, c1, hN, c2, e1, e24, e25, e26, hlt, q_x, g_x, l_x, r_x, z_x, c, hp, hp', hd2] <;> omega)), ?c_hx⟩
              (case hm => first | omega | (simp; omega))
              (case hf => simp [FrameL, g_h0, hL, c1, hN, c2, e1, e24, e25, e26, hlt, q_x, g_x, l_x, r_x, z_x, c, hp, hp', hd2, f1_0, f24_0, f25_0])
              case c_hx =>
                exact (fun i h1 hi' => by
                  by_cases e : i = j
                  · subst e; exact ⟨by omega, fun _ => hd⟩
                  · exact hx i h1 (by omega))
            · have hd2 : X[j] ≤ X[j - 1] := by omega
              try simp (disch := first | omega | (simp; done) | fail) [wrap64c, if_pos, if_neg, opAnd, opOr, opXor, opDiff, opShr, opBit, g_h0, hL, c1, hN, c2, e1, e24, e25, e26, hlt, q_x, g_x, l_x, r_x, z_x, c, hp, hp', hd2]
              have : spB N X = false := hN ▸ spB_noX (fun hr => hd ((ris_at.1 hr j hlt).2 hp))
              exact done_ret rfl (by simp [this, K0])
          · try simp (disch := first | omega | (simp; done) | fail) [wrap64c, if_pos, if_neg, opAnd, opOr, opXor, opDiff, opShr, opBit, g_h0, hL, c1, hN, c2, e1, e24, e25, e26, hlt, q_x, g_x, l_x, r_x, z_x, c, hp]
            refine loopK_next _ ?hm ?hf ⟨j + 1, rfl, rfl, (by simp (disch := first | omega | (simp; done) | fail) [wrap64c, if_pos, if_neg, opAnd, opOr, opXor, opDiff, opShr, opBit, g_h0, hL, c1, hN, c2, e1, e24, e25, e26, hlt, q_x, g_x, l_x, r_x, z_x, c, hp] <;> omega), (by first | omega | assumption | (simp (disch := first | omega | (simp; done) | fail) [wrap64c, if_pos, if_neg, opAnd, opOr, opXor, opDiff, opShr, opBit, g_h0, hL, c1, hN, c2, e1, e24, e25, e26, hlt, q_x, g_x, l_x, r_x, z_x, c, hp] <;> omega)), ?c_hx⟩
            (case hm => first | omega | (simp; omega))
            (case hf => simp [FrameL, g_h0, hL, c1, hN, c2, e1, e24, e25, e26, hlt, q_x, g_x, l_x, r_x, z_x, c, hp, f1_0, f24_0, f25_0])
            case c_hx =>
              exact (fun i h1 hi' => by
                by_cases e : i = j
                · subst e; exact ⟨by omega, fun q => absurd q hp⟩
                · exact hx i h1 (by omega))
      · try simp (disch := first | omega | (simp; done) | fail) [wrap64c, if_pos, if_neg, opAnd, opOr, opXor, opDiff, opShr, opBit, g_h0, hL, c1, hN, c2, e1, e24, e25, e26, hlt]
        obtain ⟨xs, hXe, hs, hlt', hle⟩ := (ris_at.2 fun i h1 => hx i h1 (by omega) : Rising X 0 _).nats
        have hX1 : Ints h0 b (toN xs) := hXe ▸ hX0
        have hgt := toN_get xs
        have hln := toN_length xs
        have hXl : X.length = xs.length := by rw [hXe, toN_length]
        have h128 : ∀ x ∈ xs, x < 128 := fun x hx => by have := hlt' x hx; omega
        obtain ⟨_, h1, hc1, o1, rfl, ha1, ho1, ho2, hg1⟩ := family_ok h0 (.agg #[.int .i64 (n : Int), b]) n xs (.mk hX1) h128 (by omega)
        refine callG_c (by simp) (by simp) ?ha (hc1) ?_
        (case ha => simp (disch := first | omega | (simp; done) | fail) [wrap64c, if_pos, if_neg, opAnd, opOr, opXor, opDiff, opShr, opBit, g_h0, hL, c1, hN, c2, e1, e24, e25, e26, hlt, hgt, hXl, hg1])
        have g1 : h1.get h.next = .cells [.int .i64 N, b] true true 1 := by rw [ha1.1.2 _ (by omega)]; exact g_h0
        have hX2 := hX1.keep ha1.1
        have hL1 := hX2.lenD
        have hf := famC_getD (fam xs)
        have hf2 := famC_at (fam xs)
        have K1 := K0.trans ha1.1
        try simp (disch := first | omega | (simp; done) | fail) [wrap64c, if_pos, if_neg, opAnd, opOr, opXor, opDiff, opShr, opBit, g_h0, hL, c1, hN, c2, e1, e24, e25, e26, hlt, hgt, hXl, hg1, g1, hL1, hf, hf2]
        refine WD_drawC 14 rfl (by kernel_rfl) ?_
        try simp (disch := first | omega | (simp; done) | fail) [wrap64c, if_pos, if_neg, opAnd, opOr, opXor, opDiff, opShr, opBit, g_h0, hL, c1, hN, c2, e1, e24, e25, e26, hlt, hgt, hXl, hg1, g1, hL1, hf, hf2]
        cases c4 : fam xs 0
        · try simp (disch := first | omega | (simp; done) | fail) [wrap64c, if_pos, if_neg, opAnd, opOr, opXor, opDiff, opShr, opBit, g_h0, hL, c1, hN, c2, e1, e24, e25, e26, hlt, hgt, hXl, hg1, g1, hL1, hf, hf2, c4]
          have : spB N X = false := hN ▸ hXe ▸ spB_no fun g => by have := decide_eq_true g.zero; unfold fam at c4; rw [this] at c4; cases c4
          exact done_ret rfl (by simp [this, K1])
        · try simp (disch := first | omega | (simp; done) | fail) [wrap64c, if_pos, if_neg, opAnd, opOr, opXor, opDiff, opShr, opBit, g_h0, hL, c1, hN, c2, e1, e24, e25, e26, hlt, hgt, hXl, hg1, g1, hL1, hf, hf2, c4]
          refine callP_c (by simp) (by simp) ?ha (all_ok h1 (.agg #[.int .i64 (n : Int), b]) n _ (.mk hX2) (by omega)) ?hadd ?_
          (case ha => simp (disch := first | omega | (simp; done) | fail) [wrap64c, if_pos, if_neg, opAnd, opOr, opXor, opDiff, opShr, opBit, g_h0, hL, c1, hN, c2, e1, e24, e25, e26, hlt, hgt, hXl, hg1, g1, hL1, hf, hf2, c4])
          (case hadd => first | assumption | exact adds_self _ | (simp; done))
          have hbl : bit n - 1 < 128 := by omega
          cases c5 : fam xs (bit n - 1)
          · try simp (disch := first | omega | (simp; done) | fail) [wrap64c, if_pos, if_neg, opAnd, opOr, opXor, opDiff, opShr, opBit, g_h0, hL, c1, hN, c2, e1, e24, e25, e26, hlt, hgt, hXl, hg1, g1, hL1, hf, hf2, c4, c5]
            have : spB N X = false := hN ▸ hXe ▸ spB_no fun g => by have := decide_eq_true g.full; unfold fam at c5; rw [this] at c5; cases c5
            exact done_ret rfl (by simp [this, K1])
          · try simp (disch := first | omega | (simp; done) | fail) [wrap64c, if_pos, if_neg, opAnd, opOr, opXor, opDiff, opShr, opBit, g_h0, hL, c1, hN, c2, e1, e24, e25, e26, hlt, hgt, hXl, hg1, g1, hL1, hf, hf2, c4, c5]
            refine WD_loopC [1, 5, 68, 69] (fun m tm h' => ∃ j, m = xs.length - j ∧ h1 = h' ∧ tm 70 = .int .i64 (j : Int) ∧ (j ≤ xs.length) ∧ (∀ i (h1 : i < xs.length), i < j → (xs[i] ≠ 0 → innerN (fam xs) xs[i] ≠ 0) ∧ ∀ k (h : k < xs.length), fam xs (nOr xs[i] xs[k]) = true)) _ ⟨0, rfl, rfl, (by simp (disch := first | omega | (simp; done) | fail) [wrap64c, if_pos, if_neg, opAnd, opOr, opXor, opDiff, opShr, opBit, g_h0, hL, c1, hN, c2, e1, e24, e25, e26, hlt, hgt, hXl, hg1, g1, hL1, hf, hf2, c4, c5]), (by first | omega | assumption | (simp (disch := first | omega | (simp; done) | fail) [wrap64c, if_pos, if_neg, opAnd, opOr, opXor, opDiff, opShr, opBit, g_h0, hL, c1, hN, c2, e1, e24, e25, e26, hlt, hgt, hXl, hg1, g1, hL1, hf, hf2, c4, c5] <;> omega)), (by intro i h1 h0; omega)⟩ ?_
            rintro m tm h' hFr ⟨j, rfl, rfl, e70, hj, hx⟩
            simp only [FrameL] at hFr
            obtain ⟨f1_1, f5_1, f68_1, f69_1, -⟩ := hFr
            try simp (disch := first | omega | (simp; done) | fail) [wrap64c, if_pos, if_neg, opAnd, opOr, opXor, opDiff, opShr, opBit, g_h0, hL, c1, hN, c2, e1, e24, e25, e26, hlt, hgt, hXl, hg1, g1, hL1, hf, hf2, c4, c5] at f1_1 f5_1 f68_1 f69_1
            have e1 := f1_1
            have e5 := f5_1
            have e68 := f68_1
            have e69 := f69_1
            by_cases hlj : j < xs.length
            · obtain ⟨o_x, i_x, c_x, cs_x, own_x, ex_x, es_x, q_x, b_x, g_x, l_x, r_x⟩ := hX2.open ((by simp; omega))
              have z_x : ∀ h2 : i_x < cs_x.length, cs_x[i_x] = _ := fun h2 => r_x 0 ((by simp; omega)) h2
              have hxj := h128 _ (List.getElem_mem hlj)
              by_cases z : xs[j] = 0
              · have hne : xs[j] ≠ 0 → innerN (fam xs) xs[j] ≠ 0 := fun q => absurd z q
                have z1 : ((xs[j] : Int) != 0) = false := by simp [z]
                try simp (disch := first | omega | (simp; done) | fail) [wrap64c, if_pos, if_neg, opAnd, opOr, opXor, opDiff, opShr, opBit, g_h0, hL, c1, hN, c2, e1, e24, e25, e26, hlt, hgt, hXl, hg1, g1, hL1, hf, hf2, c4, c5, e5, e68, e69, e70, hlj, q_x, g_x, l_x, r_x, z_x, z1]
                refine WD_loopC [1, 5, 7, 68, 69, 70, 83, 84] (fun m tm h' => ∃ k, m = xs.length - k ∧ h1 = h' ∧ tm 85 = .int .i64 (k : Int) ∧ (k ≤ xs.length) ∧ (∀ i (h1 : i < xs.length), i < k → fam xs (nOr xs[j] xs[i]) = true)) _ ⟨0, rfl, rfl, (by simp (disch := first | omega | (simp; done) | fail) [wrap64c, if_pos, if_neg, opAnd, opOr, opXor, opDiff, opShr, opBit, g_h0, hL, c1, hN, c2, e1, e24, e25, e26, hlt, hgt, hXl, hg1, g1, hL1, hf, hf2, c4, c5, e5, e68, e69, e70, hlj, q_x, g_x, l_x, r_x, z_x, z1]), (by first | omega | assumption | (simp (disch := first | omega | (simp; done) | fail) [wrap64c, if_pos, if_neg, opAnd, opOr, opXor, opDiff, opShr, opBit, g_h0, hL, c1, hN, c2, e1, e24, e25, e26, hlt, hgt, hXl, hg1, g1, hL1, hf, hf2, c4, c5, e5, e68, e69, e70, hlj, q_x, g_x, l_x, r_x, z_x, z1] <;> omega)), (by intro i h1 h0; omega)⟩ ?_
                rintro m tm h' hFr ⟨k, rfl, rfl, e85, hk, hy⟩
                simp only [FrameL] at hFr
                obtain ⟨f1_2, f5_2, f7_2, f68_2, f69_2, f70_2, f83_2, f84_2, -⟩ := hFr
                try simp (disch := first | omega | (simp; done) | fail) [wrap64c, if_pos, if_neg, opAnd, opOr, opXor, opDiff, opShr, opBit, g_h0, hL, c1, hN, c2, e1, e24, e25, e26, hlt, hgt, hXl, hg1, g1, hL1, hf, hf2, c4, c5, e5, e68, e69, e70, hlj, q_x, g_x, l_x, r_x, z_x, z1] at f1_2 f5_2 f7_2 f68_2 f69_2 f70_2 f83_2 f84_2
                have e1 := f1_2
                have e5 := f5_2
                have e7 := f7_2
                have e68 := f68_2
                have e69 := f69_2
                have e70 := f70_2
                have e83 := f83_2
                have e84 := f84_2
                by_cases hlk : k < xs.length
                · obtain ⟨o_y, i_y, c_y, cs_y, own_y, ex_y, es_y, q_y, b_y, g_y, l_y, r_y⟩ := hX2.open ((by simp; omega))
                  have z_y : ∀ h2 : i_y < cs_y.length, cs_y[i_y] = _ := fun h2 => r_y 0 ((by simp; omega)) h2
                  have hxk := h128 _ (List.getElem_mem hlk)
                  have hor := nOr128 hxj hxk
                  cases c7 : fam xs (nOr xs[j] xs[k])
                  · try simp (disch := first | omega | (simp; done) | fail) [wrap64c, if_pos, if_neg, opAnd, opOr, opXor, opDiff, opShr, opBit, g_h0, hL, c1, hN, c2, e1, e24, e25, e26, hlt, hgt, hXl, hg1, g1, hL1, hf, hf2, c4, c5, e5, e68, e69, e70, hlj, q_x, g_x, l_x, r_x, z_x, z1, e7, e83, e84, e85, hlk, q_y, g_y, l_y, r_y, z_y, c7]
                    have : spB N X = false := hN ▸ hXe ▸ spB_no fun g => by
                      have := decide_eq_true (g.uni _ (List.getElem_mem hlj) _ (List.getElem_mem hlk)); unfold fam at c7; rw [this] at c7; cases c7
                    exact done_ret rfl (by simp [this, K1])
                  · try simp (disch := first | omega | (simp; done) | fail) [wrap64c, if_pos, if_neg, opAnd, opOr, opXor, opDiff, opShr, opBit, g_h0, hL, c1, hN, c2, e1, e24, e25, e26, hlt, hgt, hXl, hg1, g1, hL1, hf, hf2, c4, c5, e5, e68, e69, e70, hlj, q_x, g_x, l_x, r_x, z_x, z1, e7, e83, e84, e85, hlk, q_y, g_y, l_y, r_y, z_y, c7]
                    refine loopK_next _ ?hm ?hf ⟨k + 1, rfl, rfl, (by simp (disch := first | omega | (simp; done) | fail) [wrap64c, if_pos, if_neg, opAnd, opOr, opXor, opDiff, opShr, opBit, g_h0, hL, c1, hN, c2, e1, e24, e25, e26, hlt, hgt, hXl, hg1, g1, hL1, hf, hf2, c4, c5, e5, e68, e69, e70, hlj, q_x, g_x, l_x, r_x, z_x, z1, e7, e83, e84, e85, hlk, q_y, g_y, l_y, r_y, z_y, c7] <;> omega), (by first | omega | assumption | (simp (disch := first | omega | (simp; done) | fail) [wrap64c, if_pos, if_neg, opAnd, opOr, opXor, opDiff, opShr, opBit, g_h0, hL, c1, hN, c2, e1, e24, e25, e26, hlt, hgt, hXl, hg1, g1, hL1, hf, hf2, c4, c5, e5, e68, e69, e70, hlj, q_x, g_x, l_x, r_x, z_x, z1, e7, e83, e84, e85, hlk, q_y, g_y, l_y, r_y, z_y, c7] <;> omega)), ?c_hy⟩
                    (case hm => first | omega | (simp; omega))
                    (case hf => simp [FrameL, g_h0, hL, c1, hN, c2, e1, e24, e25, e26, hlt, hgt, hXl, hg1, g1, hL1, hf, hf2, c4, c5, e5, e68, e69, e70, hlj, q_x, g_x, l_x, r_x, z_x, z1, e7, e83, e84, e85, hlk, q_y, g_y, l_y, r_y, z_y, c7, f1_2, f5_2, f7_2, f68_2, f69_2, f70_2, f83_2, f84_2])
                    case c_hy =>
                      exact (fun i h1 hi => by
                        by_cases e : i = k
                        · subst e; exact c7
                        · exact hy i h1 (by omega))
                · try simp (disch := first | omega | (simp; done) | fail) [wrap64c, if_pos, if_neg, opAnd, opOr, opXor, opDiff, opShr, opBit, g_h0, hL, c1, hN, c2, e1, e24, e25, e26, hlt, hgt, hXl, hg1, g1, hL1, hf, hf2, c4, c5, e5, e68, e69, e70, hlj, q_x, g_x, l_x, r_x, z_x, z1, e7, e83, e84, e85, hlk]
                  refine loopK_next _ ?hm ?hf ⟨j + 1, rfl, rfl, (by simp (disch := first | omega | (simp; done) | fail) [wrap64c, if_pos, if_neg, opAnd, opOr, opXor, opDiff, opShr, opBit, g_h0, hL, c1, hN, c2, e1, e24, e25, e26, hlt, hgt, hXl, hg1, g1, hL1, hf, hf2, c4, c5, e5, e68, e69, e70, hlj, q_x, g_x, l_x, r_x, z_x, z1, e7, e83, e84, e85, hlk] <;> omega), (by first | omega | assumption | (simp (disch := first | omega | (simp; done) | fail) [wrap64c, if_pos, if_neg, opAnd, opOr, opXor, opDiff, opShr, opBit, g_h0, hL, c1, hN, c2, e1, e24, e25, e26, hlt, hgt, hXl, hg1, g1, hL1, hf, hf2, c4, c5, e5, e68, e69, e70, hlj, q_x, g_x, l_x, r_x, z_x, z1, e7, e83, e84, e85, hlk] <;> omega)), ?c_hx⟩
                  (case hm => first | omega | (simp; omega))
                  (case hf => simp [FrameL, g_h0, hL, c1, hN, c2, e1, e24, e25, e26, hlt, hgt, hXl, hg1, g1, hL1, hf, hf2, c4, c5, e5, e68, e69, e70, hlj, q_x, g_x, l_x, r_x, z_x, z1, e7, e83, e84, e85, hlk, f1_1, f5_1, f68_1, f69_1])
                  case c_hx =>
                    exact (fun i h1 hi => by
                      by_cases e : i = j
                      · subst e; exact ⟨hne, fun k hk' => hy k hk' (by omega)⟩
                      · exact hx i h1 (by omega))
              · have z1 : ((xs[j] : Int) != 0) = true := by simp [z]
                have hin := maskN_lt (fun i => xs[j].testBit i && fam xs (nXor xs[j] (bit i))) 7
                try simp (disch := first | omega | (simp; done) | fail) [wrap64c, if_pos, if_neg, opAnd, opOr, opXor, opDiff, opShr, opBit, g_h0, hL, c1, hN, c2, e1, e24, e25, e26, hlt, hgt, hXl, hg1, g1, hL1, hf, hf2, c4, c5, e5, e68, e69, e70, hlj, q_x, g_x, l_x, r_x, z_x, z1]
                refine callG_c (by simp) (by simp) ?ha (imInner_ok h1 o1 (fam xs) _ _ _ xs[j] ho2 hg1 (by omega)) ?_
                (case ha => simp (disch := first | omega | (simp; done) | fail) [wrap64c, if_pos, if_neg, opAnd, opOr, opXor, opDiff, opShr, opBit, g_h0, hL, c1, hN, c2, e1, e24, e25, e26, hlt, hgt, hXl, hg1, g1, hL1, hf, hf2, c4, c5, e5, e68, e69, e70, hlj, q_x, g_x, l_x, r_x, z_x, z1])
                by_cases c6 : innerN (fam xs) xs[j] = 0
                · try simp (disch := first | omega | (simp; done) | fail) [wrap64c, if_pos, if_neg, opAnd, opOr, opXor, opDiff, opShr, opBit, g_h0, hL, c1, hN, c2, e1, e24, e25, e26, hlt, hgt, hXl, hg1, g1, hL1, hf, hf2, c4, c5, e5, e68, e69, e70, hlj, q_x, g_x, l_x, r_x, z_x, z1, c6]
                  have : spB N X = false := hN ▸ hXe ▸ spB_no fun g => g.inn _ (List.getElem_mem hlj) z c6
                  exact done_ret rfl (by simp [this, K1])
                · have hne : xs[j] ≠ 0 → innerN (fam xs) xs[j] ≠ 0 := fun _ => c6
                  try simp (disch := first | omega | (simp; done) | fail) [wrap64c, if_pos, if_neg, opAnd, opOr, opXor, opDiff, opShr, opBit, g_h0, hL, c1, hN, c2, e1, e24, e25, e26, hlt, hgt, hXl, hg1, g1, hL1, hf, hf2, c4, c5, e5, e68, e69, e70, hlj, q_x, g_x, l_x, r_x, z_x, z1, c6]
                  refine WD_loopC [1, 5, 7, 68, 69, 70, 83, 84] (fun m tm h' => ∃ k, m = xs.length - k ∧ h1 = h' ∧ tm 85 = .int .i64 (k : Int) ∧ (k ≤ xs.length) ∧ (∀ i (h1 : i < xs.length), i < k → fam xs (nOr xs[j] xs[i]) = true)) _ ⟨0, rfl, rfl, (by simp (disch := first | omega | (simp; done) | fail) [wrap64c, if_pos, if_neg, opAnd, opOr, opXor, opDiff, opShr, opBit, g_h0, hL, c1, hN, c2, e1, e24, e25, e26, hlt, hgt, hXl, hg1, g1, hL1, hf, hf2, c4, c5, e5, e68, e69, e70, hlj, q_x, g_x, l_x, r_x, z_x, z1, c6]), (by first | omega | assumption | (simp (disch := first | omega | (simp; done) | fail) [wrap64c, if_pos, if_neg, opAnd, opOr, opXor, opDiff, opShr, opBit, g_h0, hL, c1, hN, c2, e1, e24, e25, e26, hlt, hgt, hXl, hg1, g1, hL1, hf, hf2, c4, c5, e5, e68, e69, e70, hlj, q_x, g_x, l_x, r_x, z_x, z1, c6] <;> omega)), (by intro i h1 h0; omega)⟩ ?_
                  rintro m tm h' hFr ⟨k, rfl, rfl, e85, hk, hy⟩
                  simp only [FrameL] at hFr
                  obtain ⟨f1_3, f5_3, f7_3, f68_3, f69_3, f70_3, f83_3, f84_3, -⟩ := hFr
                  try simp (disch := first | omega | (simp; done) | fail) [wrap64c, if_pos, if_neg, opAnd, opOr, opXor, opDiff, opShr, opBit, g_h0, hL, c1, hN, c2, e1, e24, e25, e26, hlt, hgt, hXl, hg1, g1, hL1, hf, hf2, c4, c5, e5, e68, e69, e70, hlj, q_x, g_x, l_x, r_x, z_x, z1, c6] at f1_3 f5_3 f7_3 f68_3 f69_3 f70_3 f83_3 f84_3
                  have e1 := f1_3
                  have e5 := f5_3
                  have e7 := f7_3
                  have e68 := f68_3
                  have e69 := f69_3
                  have e70 := f70_3
                  have e83 := f83_3
                  have e84 := f84_3
                  by_cases hlk : k < xs.length
                  · obtain ⟨o_y, i_y, c_y, cs_y, own_y, ex_y, es_y, q_y, b_y, g_y, l_y, r_y⟩ := hX2.open ((by simp; omega))
                    have z_y : ∀ h2 : i_y < cs_y.length, cs_y[i_y] = _ := fun h2 => r_y 0 ((by simp; omega)) h2
                    have hxk := h128 _ (List.getElem_mem hlk)
                    have hor := nOr128 hxj hxk
                    cases c7 : fam xs (nOr xs[j] xs[k])
                    · try simp (disch := first | omega | (simp; done) | fail) [wrap64c, if_pos, if_neg, opAnd, opOr, opXor, opDiff, opShr, opBit, g_h0, hL, c1, hN, c2, e1, e24, e25, e26, hlt, hgt, hXl, hg1, g1, hL1, hf, hf2, c4, c5, e5, e68, e69, e70, hlj, q_x, g_x, l_x, r_x, z_x, z1, c6, e7, e83, e84, e85, hlk, q_y, g_y, l_y, r_y, z_y, c7]
                      have : spB N X = false := hN ▸ hXe ▸ spB_no fun g => by
                        have := decide_eq_true (g.uni _ (List.getElem_mem hlj) _ (List.getElem_mem hlk)); unfold fam at c7; rw [this] at c7; cases c7
                      exact done_ret rfl (by simp [this, K1])
                    · try simp (disch := first | omega | (simp; done) | fail) [wrap64c, if_pos, if_neg, opAnd, opOr, opXor, opDiff, opShr, opBit, g_h0, hL, c1, hN, c2, e1, e24, e25, e26, hlt, hgt, hXl, hg1, g1, hL1, hf, hf2, c4, c5, e5, e68, e69, e70, hlj, q_x, g_x, l_x, r_x, z_x, z1, c6, e7, e83, e84, e85, hlk, q_y, g_y, l_y, r_y, z_y, c7]
                      refine loopK_next _ ?hm ?hf ⟨k + 1, rfl, rfl, (by simp (disch := first | omega | (simp; done) | fail) [wrap64c, if_pos, if_neg, opAnd, opOr, opXor, opDiff, opShr, opBit, g_h0, hL, c1, hN, c2, e1, e24, e25, e26, hlt, hgt, hXl, hg1, g1, hL1, hf, hf2, c4, c5, e5, e68, e69, e70, hlj, q_x, g_x, l_x, r_x, z_x, z1, c6, e7, e83, e84, e85, hlk, q_y, g_y, l_y, r_y, z_y, c7] <;> omega), (by first | omega | assumption | (simp (disch := first | omega | (simp; done) | fail) [wrap64c, if_pos, if_neg, opAnd, opOr, opXor, opDiff, opShr, opBit, g_h0, hL, c1, hN, c2, e1, e24, e25, e26, hlt, hgt, hXl, hg1, g1, hL1, hf, hf2, c4, c5, e5, e68, e69, e70, hlj, q_x, g_x, l_x, r_x, z_x, z1, c6, e7, e83, e84, e85, hlk, q_y, g_y, l_y, r_y, z_y, c7] <;> omega)), ?c_hy⟩
                      (case hm => first | omega | (simp; omega))
                      (case hf => simp [FrameL, g_h0, hL, c1, hN, c2, e1, e24, e25, e26, hlt, hgt, hXl, hg1, g1, hL1, hf, hf2, c4, c5, e5, e68, e69, e70, hlj, q_x, g_x, l_x, r_x, z_x, z1, c6, e7, e83, e84, e85, hlk, q_y, g_y, l_y, r_y, z_y, c7, f1_3, f5_3, f7_3, f68_3, f69_3, f70_3, f83_3, f84_3])
                      case c_hy =>
                        exact (fun i h1 hi => by
                          by_cases e : i = k
                          · subst e; exact c7
                          · exact hy i h1 (by omega))
                  · try simp (disch := first | omega | (simp; done) | fail) [wrap64c, if_pos, if_neg, opAnd, opOr, opXor, opDiff, opShr, opBit, g_h0, hL, c1, hN, c2, e1, e24, e25, e26, hlt, hgt, hXl, hg1, g1, hL1, hf, hf2, c4, c5, e5, e68, e69, e70, hlj, q_x, g_x, l_x, r_x, z_x, z1, c6, e7, e83, e84, e85, hlk]
                    refine loopK_next _ ?hm ?hf ⟨j + 1, rfl, rfl, (by simp (disch := first | omega | (simp; done) | fail) [wrap64c, if_pos, if_neg, opAnd, opOr, opXor, opDiff, opShr, opBit, g_h0, hL, c1, hN, c2, e1, e24, e25, e26, hlt, hgt, hXl, hg1, g1, hL1, hf, hf2, c4, c5, e5, e68, e69, e70, hlj, q_x, g_x, l_x, r_x, z_x, z1, c6, e7, e83, e84, e85, hlk] <;> omega), (by first | omega | assumption | (simp (disch := first | omega | (simp; done) | fail) [wrap64c, if_pos, if_neg, opAnd, opOr, opXor, opDiff, opShr, opBit, g_h0, hL, c1, hN, c2, e1, e24, e25, e26, hlt, hgt, hXl, hg1, g1, hL1, hf, hf2, c4, c5, e5, e68, e69, e70, hlj, q_x, g_x, l_x, r_x, z_x, z1, c6, e7, e83, e84, e85, hlk] <;> omega)), ?c_hx⟩
                    (case hm => first | omega | (simp; omega))
                    (case hf => simp [FrameL, g_h0, hL, c1, hN, c2, e1, e24, e25, e26, hlt, hgt, hXl, hg1, g1, hL1, hf, hf2, c4, c5, e5, e68, e69, e70, hlj, q_x, g_x, l_x, r_x, z_x, z1, c6, e7, e83, e84, e85, hlk, f1_1, f5_1, f68_1, f69_1])
                    case c_hx =>
                      exact (fun i h1 hi => by
                        by_cases e : i = j
                        · subst e; exact ⟨hne, fun k hk' => hy k hk' (by omega)⟩
                        · exact hx i h1 (by omega))
            · try simp (disch := first | omega | (simp; done) | fail) [wrap64c, if_pos, if_neg, opAnd, opOr, opXor, opDiff, opShr, opBit, g_h0, hL, c1, hN, c2, e1, e24, e25, e26, hlt, hgt, hXl, hg1, g1, hL1, hf, hf2, c4, c5, e5, e68, e69, e70, hlj]
              have : spB N X = true := hN ▸ hXe ▸ spB_mk n1 n7 hs hlt' c4 c5 fun i h1 => hx i h1 (by omega)
              exact done_ret rfl (by simp [this, K1])

/-- A set of a space; one of its sets. -/
noncomputable def setSB (N : Int) (X : List Int) (a : Int) : Bool := spB N X && decide (0 ≤ a ∧ a < ((2 ^ N.toNat : Nat) : Int))
noncomputable def oneB (N : Int) (X : List Int) (a : Int) : Bool := spB N X && decide (a ∈ X)
theorem oneB_true {N : Int} {X : List Int} {a : Int} (h : oneB N X a = true) : ∃ n xs x, N = (n : Nat) ∧ X = toN xs ∧ a = (x : Nat) ∧ SpGood n xs ∧ x ∈ xs := by
  unfold oneB at h
  simp only [Bool.and_eq_true, decide_eq_true_eq] at h
  obtain ⟨n, xs, rfl, rfl, g⟩ := spB_true h.1
  obtain ⟨x, rfl, hx⟩ := mem_toN' h.2
  exact ⟨n, xs, x, rfl, rfl, rfl, g, hx⟩

theorem fam_toN {n : Nat} {xs : List Nat} {a : Nat} : fam xs a = decide ((a : Int) ∈ toN xs) := by
  unfold fam; rw [decide_eq_decide]; exact mem_toN.symm

end Go.Proofs.Ytnjabaeajjhliaa
