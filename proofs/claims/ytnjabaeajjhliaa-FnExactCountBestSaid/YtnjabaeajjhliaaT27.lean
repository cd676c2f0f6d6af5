/- CountBest by the reference. -/
import Derived.Test.YtnjabaeajjhliaaT26
namespace Go.Proofs.Ytnjabaeajjhliaa
set_option linter.unusedSimpArgs false
set_option linter.unusedVariables false
set_option maxHeartbeats 4000000
open Go Go.Eng
attribute [local irreducible] WD RunD PreD Runs CallOK

theorem tab_init {n : Nat} {xs : List Nat} (g : SpGood n xs) (c : Nat → Nat → Int) (lim : Int) : Tab (fam xs) n c lim xs (xs.length - 1) (List.replicate ((xs.length - 1) * 2) (.int .i64 0) ++ [.int .i64 (-10000), .int .i64 1]) := by
  obtain ⟨hl1, hlast⟩ := good_last g
  refine ⟨by simp; omega, fun i hi hq => ?_⟩
  have : i = xs.length - 1 := by omega
  subst this
  refine ⟨⟨-10000, by simp⟩, ?_⟩
  rw [List.getElem?_append_right (by simp), hlast, pcN_full g.n7, Nat.sub_self]
  simp [waysF]
  decide
/-- What a place adds for an item. -/
def addN (M : Nat → Bool) (n : Nat) (c : Nat → Nat → Int) (lim : Int) (k s i : Nat) (b : Bool) : Nat := if s.testBit i = false ∧ b = true then (if c s i ≤ lim then waysF M n c lim k (nOr s (bit i)) else 0) else 0

theorem wrap_zero : IntKind.wrap .i64 0 = 0 := by decide
theorem tab_before {n : Nat} {xs : List Nat} (g : SpGood n xs) (c : Nat → Nat → Int) (lim : Int) (kk i : Nat) {s q : Nat} (hq : q - 1 < xs.length) (h0 : 0 < q) (hs : s = xs[q - 1]) : addN (fam xs) n c lim kk s i (decide (nOr s (bit i) ∈ xs.take q)) = 0 := by
  unfold addN
  cases hb : s.testBit i
  · rw [if_neg]
    rintro ⟨-, hm⟩
    rw [decide_eq_true_eq] at hm
    obtain ⟨x, hx, e⟩ := List.getElem_of_mem hm
    rw [List.getElem_take] at e
    have hx2 : x < q := by simp at hx; omega
    have h1 : s < nOr s (bit i) := by
      have h2 : s ≤ nOr s (bit i) := Nat.left_le_or
      have h3 : s ≠ nOr s (bit i) := fun e => by
        have : (nOr s (bit i)).testBit i = true := by rw [nOr_bit, bit_bit]; simp
        rw [← e, hb] at this; cases this
      omega
    rcases Nat.lt_or_ge x (q - 1) with h | h
    · have := List.pairwise_iff_getElem.1 g.srt x (q - 1) (by omega) hq h
      omega
    · have : x = q - 1 := by omega
      subst this
      omega
  · simp

theorem grTable_ok (h : Hp) (v w : Value) (n : Nat) (xs : List Nat) (L : List Job) (lim : Int) (hv : Space h v n (toN xs)) (hw : Jobs h w L) (g : SpGood n xs) (gj : JobsOK L) (hn : L.length = n) :
    ∃ v' h', CallOK Try.prog 85 #[v, w, .int .i64 lim] h v' h' ∧ Adds h h' ∧ ∃ o cs, v' = .slice (some ⟨o, 0, none⟩) xs.length xs.length ∧ o < h'.next ∧ h'.get o = .cells cs true true 2 ∧ Tab (fam xs) n (costN L) lim xs 0 cs := by
  have n7 := g.n7
  have n1 := g.n1
  have hb7 := bit7 n7
  have hlx := g.len7
  obtain ⟨hl0, hfirst⟩ := good_first g
  obtain ⟨hl1, hlast⟩ := good_last g
  have hz := zcells_2 xs.length
  refine callY_L (args := [v, w, .int .i64 lim]) 101 _ [.tmp 6] Try.func85 rfl rfl rfl ?_
  obtain ⟨b, rfl, hX⟩ := hv
  have ntw := hw.nt
  have csw := hw.cs
  have hL := hX.lenD
  have htl : (toN xs).length = xs.length := toN_length xs
  have hwr1 : ((xs.length : Int) - 1).toNat = xs.length - 1 := by omega
  have hi1 : ((xs.length : Int) - 1) = ((xs.length - 1 : Nat) : Int) := by omega
  try simp (disch := first | omega | (simp; done) | fail) [wrap64c, if_pos, if_neg, opAnd, opOr, opXor, opDiff, opShr, opBit, hz, ntw, csw, hL, htl, hwr1, hi1, putCells]
  refine WD_loopC [1, 2, 3, 7] (fun m tm h' => ∃ q cs, m = q + 0 * xs.length ∧ tm 8 = .int .i64 ((q : Int) - 1) ∧ (q ≤ xs.length - 1) ∧ (Adds h h') ∧ (h.next + 2 ≤ h'.next) ∧ (h'.get h.next = .cells [.int .i64 (n : Int), b] true true 1) ∧ (h'.get (h.next + 1) = .cells cs true true 2) ∧ (Tab (fam xs) n (costN L) lim xs q cs)) _ ⟨xs.length - 1, _, rfl, (by simp; omega), (by first | omega | assumption | (simp (disch := first | omega | (simp; done) | fail) [wrap64c, if_pos, if_neg, opAnd, opOr, opXor, opDiff, opShr, opBit, hz, ntw, csw, hL, htl, hwr1, hi1] <;> omega)), (by first | exact aK | exact kK), (by simp), (by simp), (by simp), (tab_init g _ _)⟩ ?_
  rintro m tm h' hFr ⟨q, cs, rfl, e8, hq, ha, hn1, hs, hg, ht⟩
  simp only [FrameL] at hFr
  obtain ⟨f1_0, f2_0, f3_0, f7_0, -⟩ := hFr
  try simp (disch := first | omega | (simp; done) | fail) [wrap64c, if_pos, if_neg, opAnd, opOr, opXor, opDiff, opShr, opBit, hz, ntw, csw, hL, htl, hwr1, hi1] at f1_0 f2_0 f3_0 f7_0
  have e1 := f1_0
  have e2 := f2_0
  have e3 := f3_0
  have e7 := f7_0
  rename Hp => hq0
  have hcs := ht.1
  by_cases hlt : 0 < q
  · have hge : (0 : Int) ≤ (q : Int) - 1 := by omega
    have hX1 := hX.keep ha.1
    have hw1 := hw.keep ha.1
    have hLw := hw1.lenD
    have hgt := toN_get xs
    obtain ⟨o_x, i_x, c_x, cs_x, own_x, ex_x, es_x, q_x, b_x, g_x, l_x, r_x⟩ := hX1.open ((by simp; omega))
    have z_x : ∀ h2 : i_x < cs_x.length, cs_x[i_x] = _ := fun h2 => r_x 0 ((by simp; omega)) h2
    have hi2 : ((q : Int) - 1) = ((q - 1 : Nat) : Int) := by omega
    have hqx : q - 1 < xs.length := by omega
    obtain ⟨s, hsd⟩ : ∃ s, s = xs[q - 1] := ⟨_, rfl⟩
    have hsd2 := hsd.symm
    have hs128 : s < 128 := by rw [hsd]; exact g.lt7 _ (List.getElem_mem hqx)
    have hsb : s < bit n := by rw [hsd]; exact g.lt _ (List.getElem_mem hqx)
    have hsn : pcN s < n := by
      have h1 := pcN_lt n7 hsb
      rcases Nat.lt_or_ge (pcN s) n with h | h
      · exact h
      · have h2 := h1.2 (by omega)
        have h3 := List.pairwise_iff_getElem.1 g.srt (q - 1) (xs.length - 1) hqx hl1 (by omega)
        omega
    obtain ⟨kk, hkk⟩ : ∃ kk, kk = n - pcN s - 1 := ⟨_, rfl⟩
    have hLn : (L.length : Int) = (n : Int) := by omega
    try simp (disch := first | omega | (simp; done) | fail) [wrap64c, if_pos, if_neg, opAnd, opOr, opXor, opDiff, opShr, opBit, hz, ntw, csw, hL, htl, hwr1, hi1, e1, e2, e3, e7, e8, hs, hg, hcs, hge, hLw, hgt, q_x, g_x, l_x, r_x, z_x, hi2, hqx, hsd2, hLn, putCells]
    refine WD_loopC [1, 2, 3, 7, 8, 9, 10, 39] (fun m tm h' => ∃ i a, m = n - i ∧ tm 40 = .int .i64 (i : Int) ∧ (i ≤ n) ∧ (Adds hq0 h') ∧ (h'.next = hq0.next + 1) ∧ (h'.get hq0.next = .cells [.int .i64 a, .int .i64 (IntKind.wrap .i64 (partS (fam xs) n (costN L) lim kk s i : Int))] true true 1)) _ ⟨0, 10000, rfl, (by simp (disch := first | omega | (simp; done) | fail) [wrap64c, if_pos, if_neg, opAnd, opOr, opXor, opDiff, opShr, opBit, hz, ntw, csw, hL, htl, hwr1, hi1, e1, e2, e3, e7, e8, hs, hg, hcs, hge, hLw, hgt, q_x, g_x, l_x, r_x, z_x, hi2, hqx, hsd2, hLn]), (by first | omega | assumption | (simp (disch := first | omega | (simp; done) | fail) [wrap64c, if_pos, if_neg, opAnd, opOr, opXor, opDiff, opShr, opBit, hz, ntw, csw, hL, htl, hwr1, hi1, e1, e2, e3, e7, e8, hs, hg, hcs, hge, hLw, hgt, q_x, g_x, l_x, r_x, z_x, hi2, hqx, hsd2, hLn] <;> omega)), (by first | exact aK | exact kK), (by simp), (by simp [partS, wrap_zero])⟩ ?_
    rintro m tm h' hFr ⟨i, a, rfl, e40, hi, hk, hn2, hp⟩
    simp only [FrameL] at hFr
    obtain ⟨f1_1, f2_1, f3_1, f7_1, f8_1, f9_1, f10_1, f39_1, -⟩ := hFr
    try simp (disch := first | omega | (simp; done) | fail) [wrap64c, if_pos, if_neg, opAnd, opOr, opXor, opDiff, opShr, opBit, hz, ntw, csw, hL, htl, hwr1, hi1, e1, e2, e3, e7, e8, hs, hg, hcs, hge, hLw, hgt, q_x, g_x, l_x, r_x, z_x, hi2, hqx, hsd2, hLn] at f1_1 f2_1 f3_1 f7_1 f8_1 f9_1 f10_1 f39_1
    have e1 := f1_1
    have e2 := f2_1
    have e3 := f3_1
    have e7 := f7_1
    have e8 := f8_1
    have e9 := f9_1
    have e10 := f10_1
    have e39 := f39_1
    rename Hp => hq1
    have ha1 := ha.trans hk
    have hs1 : hq1.get h.next = .cells [.int .i64 (n : Int), b] true true 1 := by rw [hk.1.2 _ (by omega)]; exact hs
    have hg1 : hq1.get (h.next + 1) = .cells cs true true 2 := by rw [hk.1.2 _ (by omega)]; exact hg
    by_cases hli : i < n
    · have hbi := bit_lt7 (i := i) (by omega)
      have hor := nOr128 (a := s) (b := bit i) hs128 (by omega)
      have hst := tab_before g (costN L) lim kk i hqx hlt hsd
      try simp (disch := first | omega | (simp; done) | fail) [wrap64c, if_pos, if_neg, opAnd, opOr, opXor, opDiff, opShr, opBit, hz, ntw, csw, hL, htl, hwr1, hi1, e1, e2, e3, e7, e8, hs, hg, hcs, hge, hLw, hgt, q_x, g_x, l_x, r_x, z_x, hi2, hqx, hsd2, hLn, e9, e10, e39, e40, hp, hg1, hli]
      refine WD_loopC [1, 2, 3, 7, 8, 9, 10, 11, 39, 40] (fun m tm h' => ∃ j a2, m = xs.length - j ∧ tm 12 = .int .i64 (j : Int) ∧ (q ≤ j ∧ j ≤ xs.length) ∧ (Adds hq0 h') ∧ (h'.next = hq0.next + 1) ∧ (h'.get hq0.next = .cells [.int .i64 a2, .int .i64 (IntKind.wrap .i64 ((partS (fam xs) n (costN L) lim kk s i : Int) + (addN (fam xs) n (costN L) lim kk s i (decide (nOr s (bit i) ∈ xs.take j)) : Int)))] true true 1)) _ ⟨q, a, rfl, (by simp; omega), (by first | omega | assumption | (simp (disch := first | omega | (simp; done) | fail) [wrap64c, if_pos, if_neg, opAnd, opOr, opXor, opDiff, opShr, opBit, hz, ntw, csw, hL, htl, hwr1, hi1, e1, e2, e3, e7, e8, hs, hg, hcs, hge, hLw, hgt, q_x, g_x, l_x, r_x, z_x, hi2, hqx, hsd2, hLn, e9, e10, e39, e40, hp, hg1, hli] <;> omega)), hk, hn2, (by rw [hp, hst]; simp)⟩ ?_
      rintro m tm h' hFr ⟨j, a2, rfl, e12, hj, hk2, hn3, hp2⟩
      simp only [FrameL] at hFr
      obtain ⟨f1_2, f2_2, f3_2, f7_2, f8_2, f9_2, f10_2, f11_2, f39_2, f40_2, -⟩ := hFr
      try simp (disch := first | omega | (simp; done) | fail) [wrap64c, if_pos, if_neg, opAnd, opOr, opXor, opDiff, opShr, opBit, hz, ntw, csw, hL, htl, hwr1, hi1, e1, e2, e3, e7, e8, hs, hg, hcs, hge, hLw, hgt, q_x, g_x, l_x, r_x, z_x, hi2, hqx, hsd2, hLn, e9, e10, e39, e40, hp, hg1, hli] at f1_2 f2_2 f3_2 f7_2 f8_2 f9_2 f10_2 f11_2 f39_2 f40_2
      have e1 := f1_2
      have e2 := f2_2
      have e3 := f3_2
      have e7 := f7_2
      have e8 := f8_2
      have e9 := f9_2
      have e10 := f10_2
      have e11 := f11_2
      have e39 := f39_2
      have e40 := f40_2
      rename Hp => hq2
      have hs2 : hq2.get h.next = .cells [.int .i64 (n : Int), b] true true 1 := by rw [hk2.1.2 _ (by omega)]; exact hs
      have hg2 : hq2.get (h.next + 1) = .cells cs true true 2 := by rw [hk2.1.2 _ (by omega)]; exact hg
      have gx2 : hq2.get o_x = .cells cs_x own_x ex_x es_x := by rw [hk2.1.2 _ b_x]; exact g_x
      have hw3 := hw1.keep hk2.1
      obtain ⟨wX, hwX⟩ : ∃ wX, wX = IntKind.wrap .i64 ((partS (fam xs) n (costN L) lim kk s i : Int) + (addN (fam xs) n (costN L) lim kk s i (decide (nOr s (bit i) ∈ xs.take j)) : Int)) := ⟨_, rfl⟩
      rw [← hwX] at hp2
      by_cases hlj : j < xs.length
      · obtain ⟨⟨aj, t1⟩, t2⟩ := ht.2 j hlj hj.1
        obtain ⟨wY, hwY⟩ : ∃ wY, wY = IntKind.wrap .i64 (waysF (fam xs) n (costN L) lim (n - pcN xs[j]) xs[j] : Int) := ⟨_, rfl⟩
        rw [← hwY] at t2
        have hj2 : j * 2 < cs.length := by omega
        have hj3 : j * 2 + 1 < cs.length := by omega
        have g5 : ∀ h2 : j * 2 < cs.length, cs[j * 2] = .int .i64 aj := fun h2 => (List.getElem?_eq_some_iff.1 t1).2
        have g6 : ∀ h2 : j * 2 + 1 < cs.length, cs[j * 2 + 1] = .int .i64 wY := fun h2 => (List.getElem?_eq_some_iff.1 t2).2
        have htk : xs.take (j + 1) = xs.take j ++ [xs[j]] := List.take_succ_eq_append_getElem hlj
        try simp (disch := first | omega | (simp; done) | fail) [wrap64c, if_pos, if_neg, opAnd, opOr, opXor, opDiff, opShr, opBit, hz, ntw, csw, hL, htl, hwr1, hi1, e1, e2, e3, e7, e8, hs, hg, hcs, hge, hLw, hgt, q_x, g_x, l_x, r_x, z_x, hi2, hqx, hsd2, hLn, e9, e10, e39, e40, hp, hg1, hli, e11, e12, hp2, hs2, hg2, gx2, hlj, hj2, hj3, g5, g6]
        refine WD_drawC 14 rfl (by kernel_rfl) ?_
        try simp (disch := first | omega | (simp; done) | fail) [wrap64c, if_pos, if_neg, opAnd, opOr, opXor, opDiff, opShr, opBit, hz, ntw, csw, hL, htl, hwr1, hi1, e1, e2, e3, e7, e8, hs, hg, hcs, hge, hLw, hgt, q_x, g_x, l_x, r_x, z_x, hi2, hqx, hsd2, hLn, e9, e10, e39, e40, hp, hg1, hli, e11, e12, hp2, hs2, hg2, gx2, hlj, hj2, hj3, g5, g6]
        refine callP_c (by simp) (by simp) ?ha (spIn_ok hq2 s i (by omega) (by omega)) ?hadd ?_
        (case ha => simp (disch := first | omega | (simp; done) | fail) [wrap64c, if_pos, if_neg, opAnd, opOr, opXor, opDiff, opShr, opBit, hz, ntw, csw, hL, htl, hwr1, hi1, e1, e2, e3, e7, e8, hs, hg, hcs, hge, hLw, hgt, q_x, g_x, l_x, r_x, z_x, hi2, hqx, hsd2, hLn, e9, e10, e39, e40, hp, hg1, hli, e11, e12, hp2, hs2, hg2, gx2, hlj, hj2, hj3, g5, g6])
        (case hadd => first | assumption | exact adds_self _ | (simp; done))
        cases hb : s.testBit i
        · by_cases he : xs[j] = nOr s (bit i)
          · have hno : ¬ nOr s (bit i) ∈ xs.take j := fun hm => by
              obtain ⟨x, hx, e⟩ := List.getElem_of_mem hm
              rw [List.getElem_take] at e
              have := List.pairwise_iff_getElem.1 g.srt x j (by simp at hx; omega) hlj (by simp at hx; omega)
              omega
            have hpc : n - pcN (nOr s (bit i)) = kk := by rw [pcN_or hs128 (by omega) hb, hkk]; omega
            rw [he, hpc] at hwY
            try simp (disch := first | omega | (simp; done) | fail) [wrap64c, if_pos, if_neg, opAnd, opOr, opXor, opDiff, opShr, opBit, hz, ntw, csw, hL, htl, hwr1, hi1, e1, e2, e3, e7, e8, hs, hg, hcs, hge, hLw, hgt, q_x, g_x, l_x, r_x, z_x, hi2, hqx, hsd2, hLn, e9, e10, e39, e40, hp, hg1, hli, e11, e12, hp2, hs2, hg2, gx2, hlj, hj2, hj3, g5, g6, hb, he]
            refine callG_c (by simp) (by simp) ?ha (grCost_ok hq2 w L s i hw3 gj hs128 (by omega)) ?_
            (case ha => simp (disch := first | omega | (simp; done) | fail) [wrap64c, if_pos, if_neg, opAnd, opOr, opXor, opDiff, opShr, opBit, hz, ntw, csw, hL, htl, hwr1, hi1, e1, e2, e3, e7, e8, hs, hg, hcs, hge, hLw, hgt, q_x, g_x, l_x, r_x, z_x, hi2, hqx, hsd2, hLn, e9, e10, e39, e40, hp, hg1, hli, e11, e12, hp2, hs2, hg2, gx2, hlj, hj2, hj3, g5, g6, hb, he])
            try simp (disch := first | omega | (simp; done) | fail) [wrap64c, if_pos, if_neg, opAnd, opOr, opXor, opDiff, opShr, opBit, hz, ntw, csw, hL, htl, hwr1, hi1, e1, e2, e3, e7, e8, hs, hg, hcs, hge, hLw, hgt, q_x, g_x, l_x, r_x, z_x, hi2, hqx, hsd2, hLn, e9, e10, e39, e40, hp, hg1, hli, e11, e12, hp2, hs2, hg2, gx2, hlj, hj2, hj3, g5, g6, hb, he]
            refine WD_drawC 9 rfl (by kernel_rfl) ?_
            try simp (disch := first | omega | (simp; done) | fail) [wrap64c, if_pos, if_neg, opAnd, opOr, opXor, opDiff, opShr, opBit, hz, ntw, csw, hL, htl, hwr1, hi1, e1, e2, e3, e7, e8, hs, hg, hcs, hge, hLw, hgt, q_x, g_x, l_x, r_x, z_x, hi2, hqx, hsd2, hLn, e9, e10, e39, e40, hp, hg1, hli, e11, e12, hp2, hs2, hg2, gx2, hlj, hj2, hj3, g5, g6, hb, he]
            refine callP_c (by simp) (by simp) ?ha (most2_ok hq2 (costN L s i) aj) ?hadd ?_
            (case ha => simp (disch := first | omega | (simp; done) | fail) [wrap64c, if_pos, if_neg, opAnd, opOr, opXor, opDiff, opShr, opBit, hz, ntw, csw, hL, htl, hwr1, hi1, e1, e2, e3, e7, e8, hs, hg, hcs, hge, hLw, hgt, q_x, g_x, l_x, r_x, z_x, hi2, hqx, hsd2, hLn, e9, e10, e39, e40, hp, hg1, hli, e11, e12, hp2, hs2, hg2, gx2, hlj, hj2, hj3, g5, g6, hb, he])
            (case hadd => first | assumption | exact adds_self _ | (simp; done))
            try simp (disch := first | omega | (simp; done) | fail) [wrap64c, if_pos, if_neg, opAnd, opOr, opXor, opDiff, opShr, opBit, hz, ntw, csw, hL, htl, hwr1, hi1, e1, e2, e3, e7, e8, hs, hg, hcs, hge, hLw, hgt, q_x, g_x, l_x, r_x, z_x, hi2, hqx, hsd2, hLn, e9, e10, e39, e40, hp, hg1, hli, e11, e12, hp2, hs2, hg2, gx2, hlj, hj2, hj3, g5, g6, hb, he]
            refine callG_c (by simp) (by simp) ?ha (least2_ok hq2 a2 (if aj < costN L s i then costN L s i else aj)) ?_
            (case ha => simp (disch := first | omega | (simp; done) | fail) [wrap64c, if_pos, if_neg, opAnd, opOr, opXor, opDiff, opShr, opBit, hz, ntw, csw, hL, htl, hwr1, hi1, e1, e2, e3, e7, e8, hs, hg, hcs, hge, hLw, hgt, q_x, g_x, l_x, r_x, z_x, hi2, hqx, hsd2, hLn, e9, e10, e39, e40, hp, hg1, hli, e11, e12, hp2, hs2, hg2, gx2, hlj, hj2, hj3, g5, g6, hb, he])
            by_cases hle : costN L s i ≤ lim
            · try simp (disch := first | omega | (simp; done) | fail) [wrap64c, if_pos, if_neg, opAnd, opOr, opXor, opDiff, opShr, opBit, hz, ntw, csw, hL, htl, hwr1, hi1, e1, e2, e3, e7, e8, hs, hg, hcs, hge, hLw, hgt, q_x, g_x, l_x, r_x, z_x, hi2, hqx, hsd2, hLn, e9, e10, e39, e40, hp, hg1, hli, e11, e12, hp2, hs2, hg2, gx2, hlj, hj2, hj3, g5, g6, hb, he, hle, putCells]
              refine WD_drawC 7 rfl (by kernel_rfl) ?_
              try simp (disch := first | omega | (simp; done) | fail) [wrap64c, if_pos, if_neg, opAnd, opOr, opXor, opDiff, opShr, opBit, hz, ntw, csw, hL, htl, hwr1, hi1, e1, e2, e3, e7, e8, hs, hg, hcs, hge, hLw, hgt, q_x, g_x, l_x, r_x, z_x, hi2, hqx, hsd2, hLn, e9, e10, e39, e40, hp, hg1, hli, e11, e12, hp2, hs2, hg2, gx2, hlj, hj2, hj3, g5, g6, hb, he, hle, putCells]
              have hsum : IntKind.wrap .i64 (wX + wY) = IntKind.wrap .i64 ((partS (fam xs) n (costN L) lim kk s i : Int) + (addN (fam xs) n (costN L) lim kk s i (decide (nOr s (bit i) ∈ xs.take (j + 1))) : Int)) := by
                rw [hwX, hwY, wrap_add, htk, he]
                congr 1
                simp [hno, addN, hle, hb, -List.take_append_getElem]
              refine loopK_next _ ?hm ?hf ⟨j + 1, (if a2 < (if aj < costN L s i then costN L s i else aj) then a2 else if aj < costN L s i then costN L s i else aj), rfl, (by simp (disch := first | omega | (simp; done) | fail) [wrap64c, if_pos, if_neg, opAnd, opOr, opXor, opDiff, opShr, opBit, hz, ntw, csw, hL, htl, hwr1, hi1, e1, e2, e3, e7, e8, hs, hg, hcs, hge, hLw, hgt, q_x, g_x, l_x, r_x, z_x, hi2, hqx, hsd2, hLn, e9, e10, e39, e40, hp, hg1, hli, e11, e12, hp2, hs2, hg2, gx2, hlj, hj2, hj3, g5, g6, hb, he, hle] <;> omega), (by first | omega | assumption | (simp (disch := first | omega | (simp; done) | fail) [wrap64c, if_pos, if_neg, opAnd, opOr, opXor, opDiff, opShr, opBit, hz, ntw, csw, hL, htl, hwr1, hi1, e1, e2, e3, e7, e8, hs, hg, hcs, hge, hLw, hgt, q_x, g_x, l_x, r_x, z_x, hi2, hqx, hsd2, hLn, e9, e10, e39, e40, hp, hg1, hli, e11, e12, hp2, hs2, hg2, gx2, hlj, hj2, hj3, g5, g6, hb, he, hle] <;> omega)), (by first | exact aK | exact kK), (by simpa using hn3), (by rw [← hsum]; simp)⟩
              (case hm => first | omega | (simp; omega))
              (case hf => simp [FrameL, hz, ntw, csw, hL, htl, hwr1, hi1, e1, e2, e3, e7, e8, hs, hg, hcs, hge, hLw, hgt, q_x, g_x, l_x, r_x, z_x, hi2, hqx, hsd2, hLn, e9, e10, e39, e40, hp, hg1, hli, e11, e12, hp2, hs2, hg2, gx2, hlj, hj2, hj3, g5, g6, hb, he, hle, f1_2, f2_2, f3_2, f7_2, f8_2, f9_2, f10_2, f11_2, f39_2, f40_2])
            · have hsame : wX = IntKind.wrap .i64 ((partS (fam xs) n (costN L) lim kk s i : Int) + (addN (fam xs) n (costN L) lim kk s i (decide (nOr s (bit i) ∈ xs.take (j + 1))) : Int)) := by
                rw [hwX, htk, he]
                congr 1
                simp [hno, addN, hle, hb, -List.take_append_getElem]
              try simp (disch := first | omega | (simp; done) | fail) [wrap64c, if_pos, if_neg, opAnd, opOr, opXor, opDiff, opShr, opBit, hz, ntw, csw, hL, htl, hwr1, hi1, e1, e2, e3, e7, e8, hs, hg, hcs, hge, hLw, hgt, q_x, g_x, l_x, r_x, z_x, hi2, hqx, hsd2, hLn, e9, e10, e39, e40, hp, hg1, hli, e11, e12, hp2, hs2, hg2, gx2, hlj, hj2, hj3, g5, g6, hb, he, hle, putCells]
              refine loopK_next _ ?hm ?hf ⟨j + 1, (if a2 < (if aj < costN L s i then costN L s i else aj) then a2 else if aj < costN L s i then costN L s i else aj), rfl, (by simp (disch := first | omega | (simp; done) | fail) [wrap64c, if_pos, if_neg, opAnd, opOr, opXor, opDiff, opShr, opBit, hz, ntw, csw, hL, htl, hwr1, hi1, e1, e2, e3, e7, e8, hs, hg, hcs, hge, hLw, hgt, q_x, g_x, l_x, r_x, z_x, hi2, hqx, hsd2, hLn, e9, e10, e39, e40, hp, hg1, hli, e11, e12, hp2, hs2, hg2, gx2, hlj, hj2, hj3, g5, g6, hb, he, hle] <;> omega), (by first | omega | assumption | (simp (disch := first | omega | (simp; done) | fail) [wrap64c, if_pos, if_neg, opAnd, opOr, opXor, opDiff, opShr, opBit, hz, ntw, csw, hL, htl, hwr1, hi1, e1, e2, e3, e7, e8, hs, hg, hcs, hge, hLw, hgt, q_x, g_x, l_x, r_x, z_x, hi2, hqx, hsd2, hLn, e9, e10, e39, e40, hp, hg1, hli, e11, e12, hp2, hs2, hg2, gx2, hlj, hj2, hj3, g5, g6, hb, he, hle] <;> omega)), (by first | exact aK | exact kK), (by simpa using hn3), (by rw [← hsame]; simp)⟩
              (case hm => first | omega | (simp; omega))
              (case hf => simp [FrameL, hz, ntw, csw, hL, htl, hwr1, hi1, e1, e2, e3, e7, e8, hs, hg, hcs, hge, hLw, hgt, q_x, g_x, l_x, r_x, z_x, hi2, hqx, hsd2, hLn, e9, e10, e39, e40, hp, hg1, hli, e11, e12, hp2, hs2, hg2, gx2, hlj, hj2, hj3, g5, g6, hb, he, hle, f1_2, f2_2, f3_2, f7_2, f8_2, f9_2, f10_2, f11_2, f39_2, f40_2])
          · try simp (disch := first | omega | (simp; done) | fail) [wrap64c, if_pos, if_neg, opAnd, opOr, opXor, opDiff, opShr, opBit, hz, ntw, csw, hL, htl, hwr1, hi1, e1, e2, e3, e7, e8, hs, hg, hcs, hge, hLw, hgt, q_x, g_x, l_x, r_x, z_x, hi2, hqx, hsd2, hLn, e9, e10, e39, e40, hp, hg1, hli, e11, e12, hp2, hs2, hg2, gx2, hlj, hj2, hj3, g5, g6, hb, he]
            refine loopK_next _ ?hm ?hf ⟨j + 1, a2, rfl, (by simp (disch := first | omega | (simp; done) | fail) [wrap64c, if_pos, if_neg, opAnd, opOr, opXor, opDiff, opShr, opBit, hz, ntw, csw, hL, htl, hwr1, hi1, e1, e2, e3, e7, e8, hs, hg, hcs, hge, hLw, hgt, q_x, g_x, l_x, r_x, z_x, hi2, hqx, hsd2, hLn, e9, e10, e39, e40, hp, hg1, hli, e11, e12, hp2, hs2, hg2, gx2, hlj, hj2, hj3, g5, g6, hb, he] <;> omega), (by first | omega | assumption | (simp (disch := first | omega | (simp; done) | fail) [wrap64c, if_pos, if_neg, opAnd, opOr, opXor, opDiff, opShr, opBit, hz, ntw, csw, hL, htl, hwr1, hi1, e1, e2, e3, e7, e8, hs, hg, hcs, hge, hLw, hgt, q_x, g_x, l_x, r_x, z_x, hi2, hqx, hsd2, hLn, e9, e10, e39, e40, hp, hg1, hli, e11, e12, hp2, hs2, hg2, gx2, hlj, hj2, hj3, g5, g6, hb, he] <;> omega)), (by first | omega | assumption | (simp (disch := first | omega | (simp; done) | fail) [wrap64c, if_pos, if_neg, opAnd, opOr, opXor, opDiff, opShr, opBit, hz, ntw, csw, hL, htl, hwr1, hi1, e1, e2, e3, e7, e8, hs, hg, hcs, hge, hLw, hgt, q_x, g_x, l_x, r_x, z_x, hi2, hqx, hsd2, hLn, e9, e10, e39, e40, hp, hg1, hli, e11, e12, hp2, hs2, hg2, gx2, hlj, hj2, hj3, g5, g6, hb, he] <;> omega)), (by first | omega | assumption | (simp (disch := first | omega | (simp; done) | fail) [wrap64c, if_pos, if_neg, opAnd, opOr, opXor, opDiff, opShr, opBit, hz, ntw, csw, hL, htl, hwr1, hi1, e1, e2, e3, e7, e8, hs, hg, hcs, hge, hLw, hgt, q_x, g_x, l_x, r_x, z_x, hi2, hqx, hsd2, hLn, e9, e10, e39, e40, hp, hg1, hli, e11, e12, hp2, hs2, hg2, gx2, hlj, hj2, hj3, g5, g6, hb, he] <;> omega)), (by rw [hp2, hwX, htk]; simp [he, Ne.symm he, -List.take_append_getElem])⟩
            (case hm => first | omega | (simp; omega))
            (case hf => simp [FrameL, hz, ntw, csw, hL, htl, hwr1, hi1, e1, e2, e3, e7, e8, hs, hg, hcs, hge, hLw, hgt, q_x, g_x, l_x, r_x, z_x, hi2, hqx, hsd2, hLn, e9, e10, e39, e40, hp, hg1, hli, e11, e12, hp2, hs2, hg2, gx2, hlj, hj2, hj3, g5, g6, hb, he, f1_2, f2_2, f3_2, f7_2, f8_2, f9_2, f10_2, f11_2, f39_2, f40_2])
        · try simp (disch := first | omega | (simp; done) | fail) [wrap64c, if_pos, if_neg, opAnd, opOr, opXor, opDiff, opShr, opBit, hz, ntw, csw, hL, htl, hwr1, hi1, e1, e2, e3, e7, e8, hs, hg, hcs, hge, hLw, hgt, q_x, g_x, l_x, r_x, z_x, hi2, hqx, hsd2, hLn, e9, e10, e39, e40, hp, hg1, hli, e11, e12, hp2, hs2, hg2, gx2, hlj, hj2, hj3, g5, g6, hb]
          refine loopK_next _ ?hm ?hf ⟨j + 1, a2, rfl, (by simp (disch := first | omega | (simp; done) | fail) [wrap64c, if_pos, if_neg, opAnd, opOr, opXor, opDiff, opShr, opBit, hz, ntw, csw, hL, htl, hwr1, hi1, e1, e2, e3, e7, e8, hs, hg, hcs, hge, hLw, hgt, q_x, g_x, l_x, r_x, z_x, hi2, hqx, hsd2, hLn, e9, e10, e39, e40, hp, hg1, hli, e11, e12, hp2, hs2, hg2, gx2, hlj, hj2, hj3, g5, g6, hb] <;> omega), (by first | omega | assumption | (simp (disch := first | omega | (simp; done) | fail) [wrap64c, if_pos, if_neg, opAnd, opOr, opXor, opDiff, opShr, opBit, hz, ntw, csw, hL, htl, hwr1, hi1, e1, e2, e3, e7, e8, hs, hg, hcs, hge, hLw, hgt, q_x, g_x, l_x, r_x, z_x, hi2, hqx, hsd2, hLn, e9, e10, e39, e40, hp, hg1, hli, e11, e12, hp2, hs2, hg2, gx2, hlj, hj2, hj3, g5, g6, hb] <;> omega)), (by first | omega | assumption | (simp (disch := first | omega | (simp; done) | fail) [wrap64c, if_pos, if_neg, opAnd, opOr, opXor, opDiff, opShr, opBit, hz, ntw, csw, hL, htl, hwr1, hi1, e1, e2, e3, e7, e8, hs, hg, hcs, hge, hLw, hgt, q_x, g_x, l_x, r_x, z_x, hi2, hqx, hsd2, hLn, e9, e10, e39, e40, hp, hg1, hli, e11, e12, hp2, hs2, hg2, gx2, hlj, hj2, hj3, g5, g6, hb] <;> omega)), (by first | omega | assumption | (simp (disch := first | omega | (simp; done) | fail) [wrap64c, if_pos, if_neg, opAnd, opOr, opXor, opDiff, opShr, opBit, hz, ntw, csw, hL, htl, hwr1, hi1, e1, e2, e3, e7, e8, hs, hg, hcs, hge, hLw, hgt, q_x, g_x, l_x, r_x, z_x, hi2, hqx, hsd2, hLn, e9, e10, e39, e40, hp, hg1, hli, e11, e12, hp2, hs2, hg2, gx2, hlj, hj2, hj3, g5, g6, hb] <;> omega)), (by rw [hp2, hwX]; simp [addN, hb])⟩
          (case hm => first | omega | (simp; omega))
          (case hf => simp [FrameL, hz, ntw, csw, hL, htl, hwr1, hi1, e1, e2, e3, e7, e8, hs, hg, hcs, hge, hLw, hgt, q_x, g_x, l_x, r_x, z_x, hi2, hqx, hsd2, hLn, e9, e10, e39, e40, hp, hg1, hli, e11, e12, hp2, hs2, hg2, gx2, hlj, hj2, hj3, g5, g6, hb, f1_2, f2_2, f3_2, f7_2, f8_2, f9_2, f10_2, f11_2, f39_2, f40_2])
      · have hje : j = xs.length := by omega
        try simp (disch := first | omega | (simp; done) | fail) [wrap64c, if_pos, if_neg, opAnd, opOr, opXor, opDiff, opShr, opBit, hz, ntw, csw, hL, htl, hwr1, hi1, e1, e2, e3, e7, e8, hs, hg, hcs, hge, hLw, hgt, q_x, g_x, l_x, r_x, z_x, hi2, hqx, hsd2, hLn, e9, e10, e39, e40, hp, hg1, hli, e11, e12, hp2, hs2, hg2, gx2, hlj]
        refine loopK_next _ ?hm ?hf ⟨i + 1, a2, rfl, (by simp (disch := first | omega | (simp; done) | fail) [wrap64c, if_pos, if_neg, opAnd, opOr, opXor, opDiff, opShr, opBit, hz, ntw, csw, hL, htl, hwr1, hi1, e1, e2, e3, e7, e8, hs, hg, hcs, hge, hLw, hgt, q_x, g_x, l_x, r_x, z_x, hi2, hqx, hsd2, hLn, e9, e10, e39, e40, hp, hg1, hli, e11, e12, hp2, hs2, hg2, gx2, hlj] <;> omega), (by first | omega | assumption | (simp (disch := first | omega | (simp; done) | fail) [wrap64c, if_pos, if_neg, opAnd, opOr, opXor, opDiff, opShr, opBit, hz, ntw, csw, hL, htl, hwr1, hi1, e1, e2, e3, e7, e8, hs, hg, hcs, hge, hLw, hgt, q_x, g_x, l_x, r_x, z_x, hi2, hqx, hsd2, hLn, e9, e10, e39, e40, hp, hg1, hli, e11, e12, hp2, hs2, hg2, gx2, hlj] <;> omega)), (by first | omega | assumption | (simp (disch := first | omega | (simp; done) | fail) [wrap64c, if_pos, if_neg, opAnd, opOr, opXor, opDiff, opShr, opBit, hz, ntw, csw, hL, htl, hwr1, hi1, e1, e2, e3, e7, e8, hs, hg, hcs, hge, hLw, hgt, q_x, g_x, l_x, r_x, z_x, hi2, hqx, hsd2, hLn, e9, e10, e39, e40, hp, hg1, hli, e11, e12, hp2, hs2, hg2, gx2, hlj] <;> omega)), (by first | omega | assumption | (simp (disch := first | omega | (simp; done) | fail) [wrap64c, if_pos, if_neg, opAnd, opOr, opXor, opDiff, opShr, opBit, hz, ntw, csw, hL, htl, hwr1, hi1, e1, e2, e3, e7, e8, hs, hg, hcs, hge, hLw, hgt, q_x, g_x, l_x, r_x, z_x, hi2, hqx, hsd2, hLn, e9, e10, e39, e40, hp, hg1, hli, e11, e12, hp2, hs2, hg2, gx2, hlj] <;> omega)), (by rw [hp2, hwX, hje, List.take_length]; simp [partS, addN, fam])⟩
        (case hm => first | omega | (simp; omega))
        (case hf => simp [FrameL, hz, ntw, csw, hL, htl, hwr1, hi1, e1, e2, e3, e7, e8, hs, hg, hcs, hge, hLw, hgt, q_x, g_x, l_x, r_x, z_x, hi2, hqx, hsd2, hLn, e9, e10, e39, e40, hp, hg1, hli, e11, e12, hp2, hs2, hg2, gx2, hlj, f1_1, f2_1, f3_1, f7_1, f8_1, f9_1, f10_1, f39_1])
    · have hie : i = n := by omega
      try simp (disch := first | omega | (simp; done) | fail) [wrap64c, if_pos, if_neg, opAnd, opOr, opXor, opDiff, opShr, opBit, hz, ntw, csw, hL, htl, hwr1, hi1, e1, e2, e3, e7, e8, hs, hg, hcs, hge, hLw, hgt, q_x, g_x, l_x, r_x, z_x, hi2, hqx, hsd2, hLn, e9, e10, e39, e40, hp, hg1, hli]
      refine loopK_next _ ?hm ?hf ⟨q - 1, putCells cs ((q - 1) * 2) [.int .i64 a, .int .i64 (IntKind.wrap .i64 (partS (fam xs) n (costN L) lim kk s i : Int))], rfl, (by simp <;> omega), (by first | omega | assumption | (simp (disch := first | omega | (simp; done) | fail) [wrap64c, if_pos, if_neg, opAnd, opOr, opXor, opDiff, opShr, opBit, hz, ntw, csw, hL, htl, hwr1, hi1, e1, e2, e3, e7, e8, hs, hg, hcs, hge, hLw, hgt, q_x, g_x, l_x, r_x, z_x, hi2, hqx, hsd2, hLn, e9, e10, e39, e40, hp, hg1, hli] <;> omega)), (by first | exact aK | exact kK), (by simp; omega), (by simp [show ¬ h.next = h.next + 1 by omega, hs1]), (by simp), (Tab.put (q := q - 1) (by rw [show q - 1 + 1 = q by omega]; exact ht) hqx a (IntKind.wrap .i64 (partS (fam xs) n (costN L) lim kk s i : Int)) (by rw [hie, ← ways_part _ n7, hkk, ← hsd, show n - pcN s - 1 + 1 = n - pcN s by omega]))⟩
      (case hm => first | omega | (simp; omega))
      (case hf => simp [FrameL, hz, ntw, csw, hL, htl, hwr1, hi1, e1, e2, e3, e7, e8, hs, hg, hcs, hge, hLw, hgt, q_x, g_x, l_x, r_x, z_x, hi2, hqx, hsd2, hLn, e9, e10, e39, e40, hp, hg1, hli, f1_0, f2_0, f3_0, f7_0])
  · have hge : ¬ (0 : Int) ≤ (q : Int) - 1 := by omega
    try simp (disch := first | omega | (simp; done) | fail) [wrap64c, if_pos, if_neg, opAnd, opOr, opXor, opDiff, opShr, opBit, hz, ntw, csw, hL, htl, hwr1, hi1, e1, e2, e3, e7, e8, hs, hg, hcs, hge]
    have hq0e : q = 0 := by omega
    exact done_ret rfl ⟨ha, h.next + 1, cs, by simp, by omega, hg, hq0e ▸ ht⟩

theorem specCount_ok (h : Hp) (v w : Value) (N : Int) (X : List Int) (L : List Job) (hv : Space h v N X) (hw : Jobs h w L) (hl : X.length < 2 ^ 40) :
    CallOK Try.prog 40 #[v, w] h (.tuple #[.int .i64 (cntB N X L), .bool (spB N X && jobsB L N)]) h := by
  refine callY_P 21 _ [.tmp 4, .tmp 5] Try.func40 rfl rfl rfl (by first | rfl | simp) ?_
  obtain ⟨b, rfl, hX⟩ := hv
  have ntw := hw.nt
  have csw := hw.cs
  refine WD_first ?_
  try simp (disch := first | omega | (simp; done) | fail) [wrap64c, if_pos, if_neg, opAnd, opOr, opXor, opDiff, opShr, opBit, ntw, csw]
  refine stopK_heap fun h0 q_h0 => ?_
  refine stopK_go ?_
  have g_h0 : h0.get h.next = .cells [.int .i64 N, b] true true 1 := by simp [q_h0]
  have k_h0 : Adds h h0 := by rw [q_h0]; exact (by first | exact aK | exact kK)
  have n_h0 : h.next < h0.next := by simp [q_h0]; try omega
  have hX0 := hX.keep k_h0.1
  have hw0 := hw.keep k_h0.1
  have K0 := k_h0.1
  try simp (disch := first | omega | (simp; done) | fail) [wrap64c, if_pos, if_neg, opAnd, opOr, opXor, opDiff, opShr, opBit, ntw, csw, g_h0]
  refine callG_c (by simp) (by simp) ?ha (grGiven_ok h0 (.agg #[.int .i64 N, b]) w N X L (.mk hX0) hw0 hl) ?_
  (case ha => simp (disch := first | omega | (simp; done) | fail) [wrap64c, if_pos, if_neg, opAnd, opOr, opXor, opDiff, opShr, opBit, ntw, csw, g_h0])
  cases c1 : (spB N X && jobsB L N)
  · try simp (disch := first | omega | (simp; done) | fail) [wrap64c, if_pos, if_neg, opAnd, opOr, opXor, opDiff, opShr, opBit, ntw, csw, g_h0, c1]
    exact done_ret rfl (by simp [cntB, c1, K0])
  · have cc := c1
    rw [Bool.and_eq_true] at cc
    obtain ⟨n, xs, hN, hXe, g⟩ := spB_true cc.1
    obtain ⟨hLN, gj⟩ := jobsB_ok cc.2
    have hNt : N = (n : Int) := hN
    have hLn : L.length = n := by omega
    have hX1 : Ints h0 b (toN xs) := hXe ▸ hX0
    have hB : cntB N X L = IntKind.wrap .i64 (waysF (fam xs) n (costN L) (topN (costN L) (greedN (costN L) xs n)) n 0 : Int) := by rw [cntB, if_pos c1, hXe, natsOf_toN, hN, Int.toNat_natCast]
    have n7 := g.n7
    have n1 := g.n1
    obtain ⟨u, h1, hc1, ha1, hi1⟩ := grGreedy_ok h0 (.agg #[.int .i64 n, b]) w n xs L (.mk hX1) hw0 g gj hLn
    obtain ⟨hgl, _⟩ := greedN_costs g gj hLn
    obtain ⟨_, h2, hc2, ha2, o, cs, rfl, ho, ht1, ht2⟩ := grTable_ok h1 (.agg #[.int .i64 n, b]) w n xs L (topN (costN L) (greedN (costN L) xs n)) (.mk (hX1.keep ha1.1)) (hw0.keep ha1.1) g gj hLn
    obtain ⟨hl0, hfirst⟩ := good_first g
    have hr := (ht2.2 0 hl0 (Nat.le_refl _)).2
    rw [hfirst, show pcN 0 = 0 by decide, Nat.sub_zero] at hr
    obtain ⟨wY, hwY⟩ : ∃ wY, wY = IntKind.wrap .i64 (waysF (fam xs) n (costN L) (topN (costN L) (greedN (costN L) xs n)) n 0 : Int) := ⟨_, rfl⟩
    rw [← hwY] at hr hB
    have hlc := ht2.1
    have hl1 : 1 < cs.length := by omega
    have hr1 : ∀ h2 : 1 < cs.length, cs[1] = .int .i64 wY := fun h2 => (List.getElem?_eq_some_iff.1 hr).2
    try simp (disch := first | omega | (simp; done) | fail) [wrap64c, if_pos, if_neg, opAnd, opOr, opXor, opDiff, opShr, opBit, ntw, csw, g_h0, c1, hNt, hl1, hl0, hr1, ht1]
    refine WD_drawC 11 rfl (by kernel_rfl) ?_
    try simp (disch := first | omega | (simp; done) | fail) [wrap64c, if_pos, if_neg, opAnd, opOr, opXor, opDiff, opShr, opBit, ntw, csw, g_h0, c1, hNt, hl1, hl0, hr1, ht1]
    refine callP_c (by simp) (by simp) ?ha (hc1) ?hadd ?_
    (case ha => simp (disch := first | omega | (simp; done) | fail) [wrap64c, if_pos, if_neg, opAnd, opOr, opXor, opDiff, opShr, opBit, ntw, csw, g_h0, c1, hNt, hl1, hl0, hr1, ht1])
    (case hadd => first | assumption | exact adds_self _ | (simp; done))
    try simp (disch := first | omega | (simp; done) | fail) [wrap64c, if_pos, if_neg, opAnd, opOr, opXor, opDiff, opShr, opBit, ntw, csw, g_h0, c1, hNt, hl1, hl0, hr1, ht1]
    refine callP_c (by simp) (by simp) ?ha (grOf_ok h1 w u L (greedN (costN L) xs n) (hw0.keep ha1.1) hi1.ints gj hgl (by simp; omega)) ?hadd ?_
    (case ha => simp (disch := first | omega | (simp; done) | fail) [wrap64c, if_pos, if_neg, opAnd, opOr, opXor, opDiff, opShr, opBit, ntw, csw, g_h0, c1, hNt, hl1, hl0, hr1, ht1])
    (case hadd => first | assumption | exact adds_self _ | (simp; done))
    try simp (disch := first | omega | (simp; done) | fail) [wrap64c, if_pos, if_neg, opAnd, opOr, opXor, opDiff, opShr, opBit, ntw, csw, g_h0, c1, hNt, hl1, hl0, hr1, ht1]
    refine callP_c (by simp) (by simp) ?ha (hc2) ?hadd ?_
    (case ha => simp (disch := first | omega | (simp; done) | fail) [wrap64c, if_pos, if_neg, opAnd, opOr, opXor, opDiff, opShr, opBit, ntw, csw, g_h0, c1, hNt, hl1, hl0, hr1, ht1])
    (case hadd => first | assumption | exact adds_self _ | (simp; done))
    try simp (disch := first | omega | (simp; done) | fail) [wrap64c, if_pos, if_neg, opAnd, opOr, opXor, opDiff, opShr, opBit, ntw, csw, g_h0, c1, hNt, hl1, hl0, hr1, ht1]
    exact done_ret rfl (by simp [hB, c1, (K0.trans ha1.1).trans ha2.1])
end Go.Proofs.Ytnjabaeajjhliaa
