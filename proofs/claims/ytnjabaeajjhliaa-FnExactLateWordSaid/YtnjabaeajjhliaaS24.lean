/- CriticalItem: what both sides hand back. -/
import Derived.Test.YtnjabaeajjhliaaS23
namespace Go.Proofs.Ytnjabaeajjhliaa
set_option linter.unusedSimpArgs false
set_option linter.unusedVariables false
set_option maxHeartbeats 4000000
open Go Go.Eng
attribute [local irreducible] WD RunD PreD Runs CallOK

theorem greedN_costs {n : Nat} {xs : List Nat} {L : List Job} (g : SpGood n xs) (gj : JobsOK L) (hn : L.length = n) : (∀ i ∈ greedN (costN L) xs n, i < L.length) ∧ ∀ j, j < (greedN (costN L) xs n).length → -10000 < costW (costN L) (greedN (costN L) xs n) j := by
  have h1 : ∀ i ∈ greedN (costN L) xs n, i < L.length := fun i hi => by rw [hn]; exact greed_lt g _ n (Nat.le_refl _) i hi
  refine ⟨h1, fun j hj => ?_⟩
  have h2 := costN_le gj (setW ((greedN (costN L) xs n).take j) 0) (h1 _ (List.getElem_mem hj))
  have e : (greedN (costN L) xs n).getD j 0 = (greedN (costN L) xs n)[j] := by rw [List.getD_eq_getElem?_getD, List.getElem?_eq_getElem hj]; rfl
  rw [costW, e]
  omega

noncomputable def critI (N : Int) (X : List Int) (L : List Job) : Int := if (spB N X && jobsB L N) = true then (((greedN (costN L) (natsOf X) N.toNat).getD (critJ (costN L) (greedN (costN L) (natsOf X) N.toNat)) 0 : Nat) : Int) else 0
noncomputable def critS (N : Int) (X : List Int) (L : List Job) : Int := if (spB N X && jobsB L N) = true then ((setW ((greedN (costN L) (natsOf X) N.toNat).take (critJ (costN L) (greedN (costN L) (natsOf X) N.toNat))) 0 : Nat) : Int) else 0
noncomputable def bestC (N : Int) (X : List Int) (L : List Job) : Int := if (spB N X && jobsB L N) = true then topN (costN L) (greedN (costN L) (natsOf X) N.toNat) else 0

theorem bestCost_ok (h : Hp) (v w : Value) (N : Int) (X : List Int) (L : List Job) (hv : Space h v N X) (hw : Jobs h w L) (hl : X.length < 2 ^ 40) :
    CallOK Try.prog 89 #[v, w] h (.tuple #[.int .i64 (bestC N X L), .bool (spB N X && jobsB L N)]) h := by
  refine callY_P 15 _ [.tmp 4, .tmp 5] Try.func89 rfl rfl rfl (by first | rfl | simp) ?_
  obtain ⟨b, rfl, hX⟩ := hv
  have ntw := hw.nt
  have csw := hw.cs
  refine WD_first ?_
  try simp (disch := first | omega | (simp; done) | fail) [wrap64c, if_pos, if_neg, opAnd, opOr, opXor, opDiff, opShr, opBit, ntw, csw]
  refine stopK_heap fun h0 q_h0 => ?_
  refine stopK_go ?_
  have g_h0 : h0.get h.next = .cells [.int .i64 N, b] true true 1 := by simp [q_h0]
  have k_h0 : Adds h h0 := by rw [q_h0]; exact (by first | exact aK | exact kK)
  have n_h0 : h.next < h0.next := by simp [q_h0]; try omega
  have hX0 := hX.keep k_h0.1
  have hw0 := hw.keep k_h0.1
  have K0 := k_h0.1
  try simp (disch := first | omega | (simp; done) | fail) [wrap64c, if_pos, if_neg, opAnd, opOr, opXor, opDiff, opShr, opBit, ntw, csw, g_h0]
  refine callG_c (by simp) (by simp) ?ha (together_ok h0 (.agg #[.int .i64 N, b]) w N X L (.mk hX0) hw0 hl) ?_
  (case ha => simp (disch := first | omega | (simp; done) | fail) [wrap64c, if_pos, if_neg, opAnd, opOr, opXor, opDiff, opShr, opBit, ntw, csw, g_h0])
  cases c1 : (spB N X && jobsB L N)
  · try simp (disch := first | omega | (simp; done) | fail) [wrap64c, if_pos, if_neg, opAnd, opOr, opXor, opDiff, opShr, opBit, ntw, csw, g_h0, c1]
    exact done_ret rfl (by simp [bestC, c1, K0])
  · have cc := c1
    rw [Bool.and_eq_true] at cc
    obtain ⟨n, xs, hN, hXe, g⟩ := spB_true cc.1
    obtain ⟨hLN, gj⟩ := jobsB_ok cc.2
    have hNt : N = (n : Int) := hN
    have hLn : L.length = n := by omega
    have hX1 : Ints h0 b (toN xs) := hXe ▸ hX0
    have hA : bestC N X L = topN (costN L) (greedN (costN L) xs n) := by rw [bestC, if_pos c1, hXe, natsOf_toN, hN, Int.toNat_natCast]
    have n7 := g.n7
    have n1 := g.n1
    obtain ⟨u, h1, hc1, ha1, hi1⟩ := best_ok h0 (.agg #[.int .i64 n, b]) w n xs L (.mk hX1) hw0 g gj hLn
    obtain ⟨hgl, _⟩ := greedN_costs g gj hLn
    try simp (disch := first | omega | (simp; done) | fail) [wrap64c, if_pos, if_neg, opAnd, opOr, opXor, opDiff, opShr, opBit, ntw, csw, g_h0, c1, hNt]
    refine callG_c (by simp) (by simp) ?ha (hc1) ?_
    (case ha => simp (disch := first | omega | (simp; done) | fail) [wrap64c, if_pos, if_neg, opAnd, opOr, opXor, opDiff, opShr, opBit, ntw, csw, g_h0, c1, hNt])
    try simp (disch := first | omega | (simp; done) | fail) [wrap64c, if_pos, if_neg, opAnd, opOr, opXor, opDiff, opShr, opBit, ntw, csw, g_h0, c1, hNt]
    refine callG_c (by simp) (by simp) ?ha (costOf_ok h1 w u L (greedN (costN L) xs n) (hw0.keep ha1.1) hi1.ints gj hgl (by simp; omega) (by simp; omega)) ?_
    (case ha => simp (disch := first | omega | (simp; done) | fail) [wrap64c, if_pos, if_neg, opAnd, opOr, opXor, opDiff, opShr, opBit, ntw, csw, g_h0, c1, hNt])
    try simp (disch := first | omega | (simp; done) | fail) [wrap64c, if_pos, if_neg, opAnd, opOr, opXor, opDiff, opShr, opBit, ntw, csw, g_h0, c1, hNt]
    exact done_ret rfl (by simp [hA, c1, K0.trans ha1.1])

theorem grGreedy_ok (h : Hp) (v w : Value) (n : Nat) (xs : List Nat) (L : List Job) (hv : Space h v n (toN xs)) (hw : Jobs h w L) (g : SpGood n xs) (gj : JobsOK L) (hn : L.length = n) :
    ∃ v' h', CallOK Try.prog 87 #[v, w] h v' h' ∧ Adds h h' ∧ IntsO (Btw h.next h'.next) h' v' (toN (greedN (costN L) xs n)) := by
  refine callY_L (args := [v, w]) 52 _ [.tmp 4] Try.func87 rfl rfl rfl ?_
  obtain ⟨b, rfl, hX⟩ := hv
  have ntw := hw.nt
  have csw := hw.cs
  refine WD_first ?_
  try simp (disch := first | omega | (simp; done) | fail) [wrap64c, if_pos, if_neg, opAnd, opOr, opXor, opDiff, opShr, opBit, ntw, csw]
  refine stopK_heap fun h0 q_h0 => ?_
  refine stopK_go ?_
  have g_h0 : h0.get h.next = .cells [.int .i64 n, b] true true 1 := by simp [q_h0]
  have k_h0 : Adds h h0 := by rw [q_h0]; exact (by first | exact aK | exact kK)
  have n_h0 : h.next < h0.next := by simp [q_h0]; try omega
  have hX0 := hX.keep k_h0.1
  have hw0 := hw.keep k_h0.1
  have n7 := g.n7
  have hb7 := bit7 n7
  have hlx := g.len7
  try simp (disch := first | omega | (simp; done) | fail) [wrap64c, if_pos, if_neg, opAnd, opOr, opXor, opDiff, opShr, opBit, ntw, csw, g_h0]
  refine WD_loopC [1, 2] (fun m tm h' => ∃ k u, m = n - k ∧ tm 5 = u ∧ tm 6 = .int .i64 (((greedS (costN L) (fam xs) n k).2 : Nat) : Int) ∧ (k ≤ n) ∧ (Adds h h') ∧ (Adds h0 h') ∧ (IntsA h0.next h' u (toN (greedS (costN L) (fam xs) n k).1))) _ ⟨0, .slice none 0 0, rfl, (by simp (disch := first | omega | (simp; done) | fail) [wrap64c, if_pos, if_neg, opAnd, opOr, opXor, opDiff, opShr, opBit, ntw, csw, g_h0]), (by simp [greedS]), (by first | omega | assumption | (simp (disch := first | omega | (simp; done) | fail) [wrap64c, if_pos, if_neg, opAnd, opOr, opXor, opDiff, opShr, opBit, ntw, csw, g_h0] <;> omega)), (by first | exact aK | exact kK), (adds_self _), (by simp [greedS, toN]; exact IntsA.nil _ _)⟩ ?_
  rintro m tm h' hFr ⟨k, u, rfl, e5, e6, hk, ha, ha0, hu⟩
  simp only [FrameL] at hFr
  obtain ⟨f1_0, f2_0, -⟩ := hFr
  try simp (disch := first | omega | (simp; done) | fail) [wrap64c, if_pos, if_neg, opAnd, opOr, opXor, opDiff, opShr, opBit, ntw, csw, g_h0] at f1_0 f2_0
  have e1 := f1_0
  have e2 := f2_0
  rename Hp => hA
  have hlu := greed_len (costN L) (fam xs) n k
  have hlU := hu.lenD
  have hlu2 : (toN (greedS (costN L) (fam xs) n k).1).length = k := by rw [toN_length, hlu]
  have hn2 := ha0.1.1
  have g1' : hA.get h.next = .cells [.int .i64 n, b] true true 1 := by rw [ha0.1.2 _ (by omega)]; exact g_h0
  have hX2 := hX0.keep ha0.1
  have hw2 := hw0.keep ha0.1
  have hLw := hw2.lenD
  by_cases hlt : k < n
  · obtain ⟨hi1, hi2⟩ := greed_inv g (costN L) k hk
    have hs128 := g.lt7 _ hi1
    obtain ⟨s, hs⟩ : ∃ s, s = (greedS (costN L) (fam xs) n k).2 := ⟨_, rfl⟩
    have hout := outerN_lt (fam xs) n s
    have hwn := greed_ne g (costN L) hlt
    rw [← hs] at hwn hs128
    obtain ⟨hlo, hmem⟩ := nextG_mem (costN L) hwn
    obtain ⟨l1, l2, l3⟩ := g.learn hmem
    have hp64 := bit_lt7 (i := nextG (costN L) (fam xs) n s) (by omega)
    have hor := g.lt7 _ l3
    have hs2 := hs.symm
    try simp (disch := first | omega | (simp; done) | fail) [wrap64c, if_pos, if_neg, opAnd, opOr, opXor, opDiff, opShr, opBit, ntw, csw, g_h0, e1, e2, e5, e6, hlU, hlu2, g1', hLw, hlt, hs2]
    refine callG_c (by simp) (by simp) ?ha (spOuter_ok hA (.agg #[.int .i64 n, b]) n xs s (.mk hX2) n7 (by omega) g.srt hs128) ?_
    (case ha => simp (disch := first | omega | (simp; done) | fail) [wrap64c, if_pos, if_neg, opAnd, opOr, opXor, opDiff, opShr, opBit, ntw, csw, g_h0, e1, e2, e5, e6, hlU, hlu2, g1', hLw, hlt, hs2])
    try simp (disch := first | omega | (simp; done) | fail) [wrap64c, if_pos, if_neg, opAnd, opOr, opXor, opDiff, opShr, opBit, ntw, csw, g_h0, e1, e2, e5, e6, hlU, hlu2, g1', hLw, hlt, hs2]
    refine WD_loopC [1, 2, 5, 6, 8, 19] (fun m tm h' => ∃ j, m = n - j ∧ hA = h' ∧ tm 7 = .int .i64 (optI (leastO (costN L s) (itemsK (outerN (fam xs) n s) j) none)) ∧ tm 20 = .int .i64 (j : Int) ∧ (j ≤ n)) _ ⟨0, rfl, rfl, (by simp [itemsK, leastO, optI]), (by simp (disch := first | omega | (simp; done) | fail) [wrap64c, if_pos, if_neg, opAnd, opOr, opXor, opDiff, opShr, opBit, ntw, csw, g_h0, e1, e2, e5, e6, hlU, hlu2, g1', hLw, hlt, hs2]), (by first | omega | assumption | (simp (disch := first | omega | (simp; done) | fail) [wrap64c, if_pos, if_neg, opAnd, opOr, opXor, opDiff, opShr, opBit, ntw, csw, g_h0, e1, e2, e5, e6, hlU, hlu2, g1', hLw, hlt, hs2] <;> omega))⟩ ?_
    rintro m tm h' hFr ⟨j, rfl, rfl, e7, e20, hj⟩
    simp only [FrameL] at hFr
    obtain ⟨f1_1, f2_1, f5_1, f6_1, f8_1, f19_1, -⟩ := hFr
    try simp (disch := first | omega | (simp; done) | fail) [wrap64c, if_pos, if_neg, opAnd, opOr, opXor, opDiff, opShr, opBit, ntw, csw, g_h0, e1, e2, e5, e6, hlU, hlu2, g1', hLw, hlt, hs2] at f1_1 f2_1 f5_1 f6_1 f8_1 f19_1
    have e1 := f1_1
    have e2 := f2_1
    have e5 := f5_1
    have e6 := f6_1
    have e8 := f8_1
    have e19 := f19_1
    by_cases hlt2 : j < n
    · have hjL : j < L.length := by omega
      have hks := itemsK_succ (outerN (fam xs) n s) j
      try simp (disch := first | omega | (simp; done) | fail) [wrap64c, if_pos, if_neg, opAnd, opOr, opXor, opDiff, opShr, opBit, ntw, csw, g_h0, e1, e2, e5, e6, hlU, hlu2, g1', hLw, hlt, hs2, e7, e8, e19, e20, hlt2, hjL]
      refine callG_c (by simp) (by simp) ?ha (spIn_ok hA (outerN (fam xs) n s) j (by omega) (by omega)) ?_
      (case ha => simp (disch := first | omega | (simp; done) | fail) [wrap64c, if_pos, if_neg, opAnd, opOr, opXor, opDiff, opShr, opBit, ntw, csw, g_h0, e1, e2, e5, e6, hlU, hlu2, g1', hLw, hlt, hs2, e7, e8, e19, e20, hlt2, hjL])
      cases hb : (outerN (fam xs) n s).testBit j
      · rw [hb, if_neg (by simp)] at hks
        try simp (disch := first | omega | (simp; done) | fail) [wrap64c, if_pos, if_neg, opAnd, opOr, opXor, opDiff, opShr, opBit, ntw, csw, g_h0, e1, e2, e5, e6, hlU, hlu2, g1', hLw, hlt, hs2, e7, e8, e19, e20, hlt2, hjL, hb]
        refine loopK_next _ ?hm ?hf ⟨j + 1, rfl, rfl, (by simp [hks, e7]), (by simp (disch := first | omega | (simp; done) | fail) [wrap64c, if_pos, if_neg, opAnd, opOr, opXor, opDiff, opShr, opBit, ntw, csw, g_h0, e1, e2, e5, e6, hlU, hlu2, g1', hLw, hlt, hs2, e7, e8, e19, e20, hlt2, hjL, hb] <;> omega), (by first | omega | assumption | (simp (disch := first | omega | (simp; done) | fail) [wrap64c, if_pos, if_neg, opAnd, opOr, opXor, opDiff, opShr, opBit, ntw, csw, g_h0, e1, e2, e5, e6, hlU, hlu2, g1', hLw, hlt, hs2, e7, e8, e19, e20, hlt2, hjL, hb] <;> omega))⟩
        (case hm => first | omega | (simp; omega))
        (case hf => simp [FrameL, ntw, csw, g_h0, e1, e2, e5, e6, hlU, hlu2, g1', hLw, hlt, hs2, e7, e8, e19, e20, hlt2, hjL, hb, f1_1, f2_1, f5_1, f6_1, f8_1, f19_1])
      · rw [hb, if_pos rfl] at hks
        have hsn := leastO_snoc (costN L s) j (itemsK (outerN (fam xs) n s) j) none
        rw [← hks] at hsn
        rcases ho : leastO (costN L s) (itemsK (outerN (fam xs) n s) j) none with _ | b'
        · rw [ho] at hsn
          have hq1 : optI none = -1 := rfl
          try simp (disch := first | omega | (simp; done) | fail) [wrap64c, if_pos, if_neg, opAnd, opOr, opXor, opDiff, opShr, opBit, ntw, csw, g_h0, e1, e2, e5, e6, hlU, hlu2, g1', hLw, hlt, hs2, e7, e8, e19, e20, hlt2, hjL, hb, ho, hq1]
          refine loopK_next _ ?hm ?hf ⟨j + 1, rfl, rfl, (by simp [hsn, lessO, optI]), (by simp (disch := first | omega | (simp; done) | fail) [wrap64c, if_pos, if_neg, opAnd, opOr, opXor, opDiff, opShr, opBit, ntw, csw, g_h0, e1, e2, e5, e6, hlU, hlu2, g1', hLw, hlt, hs2, e7, e8, e19, e20, hlt2, hjL, hb] <;> omega), (by first | omega | assumption | (simp (disch := first | omega | (simp; done) | fail) [wrap64c, if_pos, if_neg, opAnd, opOr, opXor, opDiff, opShr, opBit, ntw, csw, g_h0, e1, e2, e5, e6, hlU, hlu2, g1', hLw, hlt, hs2, e7, e8, e19, e20, hlt2, hjL, hb] <;> omega))⟩
          (case hm => first | omega | (simp; omega))
          (case hf => simp [FrameL, ntw, csw, g_h0, e1, e2, e5, e6, hlU, hlu2, g1', hLw, hlt, hs2, e7, e8, e19, e20, hlt2, hjL, hb, f1_1, f2_1, f5_1, f6_1, f8_1, f19_1])
        · rw [ho] at hsn
          have hq1 : optI (some b') = (b' : Int) := rfl
          have hq3 : ¬ (b' : Int) < 0 := by omega
          have hbm := leastO_mem _ _ _ ho
          have hbL : b' < L.length := by
            have : b' < j := by simp only [itemsK, List.mem_filter, List.mem_range] at hbm; exact hbm.1
            omega
          try simp (disch := first | omega | (simp; done) | fail) [wrap64c, if_pos, if_neg, opAnd, opOr, opXor, opDiff, opShr, opBit, ntw, csw, g_h0, e1, e2, e5, e6, hlU, hlu2, g1', hLw, hlt, hs2, e7, e8, e19, e20, hlt2, hjL, hb, ho, hq1, hq3]
          refine callG_c (by simp) (by simp) ?ha (grCost_ok hA w L s j hw2 gj hs128 hjL) ?_
          (case ha => simp (disch := first | omega | (simp; done) | fail) [wrap64c, if_pos, if_neg, opAnd, opOr, opXor, opDiff, opShr, opBit, ntw, csw, g_h0, e1, e2, e5, e6, hlU, hlu2, g1', hLw, hlt, hs2, e7, e8, e19, e20, hlt2, hjL, hb, ho, hq1, hq3])
          try simp (disch := first | omega | (simp; done) | fail) [wrap64c, if_pos, if_neg, opAnd, opOr, opXor, opDiff, opShr, opBit, ntw, csw, g_h0, e1, e2, e5, e6, hlU, hlu2, g1', hLw, hlt, hs2, e7, e8, e19, e20, hlt2, hjL, hb, ho, hq1, hq3]
          refine callG_c (by simp) (by simp) ?ha (grCost_ok hA w L s b' hw2 gj hs128 hbL) ?_
          (case ha => simp (disch := first | omega | (simp; done) | fail) [wrap64c, if_pos, if_neg, opAnd, opOr, opXor, opDiff, opShr, opBit, ntw, csw, g_h0, e1, e2, e5, e6, hlU, hlu2, g1', hLw, hlt, hs2, e7, e8, e19, e20, hlt2, hjL, hb, ho, hq1, hq3])
          by_cases hcb : costN L s j < costN L s b'
          · try simp (disch := first | omega | (simp; done) | fail) [wrap64c, if_pos, if_neg, opAnd, opOr, opXor, opDiff, opShr, opBit, ntw, csw, g_h0, e1, e2, e5, e6, hlU, hlu2, g1', hLw, hlt, hs2, e7, e8, e19, e20, hlt2, hjL, hb, ho, hq1, hq3, hcb]
            refine loopK_next _ ?hm ?hf ⟨j + 1, rfl, rfl, (by simp [hsn, lessO, optI, hcb]), (by simp (disch := first | omega | (simp; done) | fail) [wrap64c, if_pos, if_neg, opAnd, opOr, opXor, opDiff, opShr, opBit, ntw, csw, g_h0, e1, e2, e5, e6, hlU, hlu2, g1', hLw, hlt, hs2, e7, e8, e19, e20, hlt2, hjL, hb] <;> omega), (by first | omega | assumption | (simp (disch := first | omega | (simp; done) | fail) [wrap64c, if_pos, if_neg, opAnd, opOr, opXor, opDiff, opShr, opBit, ntw, csw, g_h0, e1, e2, e5, e6, hlU, hlu2, g1', hLw, hlt, hs2, e7, e8, e19, e20, hlt2, hjL, hb] <;> omega))⟩
            (case hm => first | omega | (simp; omega))
            (case hf => simp [FrameL, ntw, csw, g_h0, e1, e2, e5, e6, hlU, hlu2, g1', hLw, hlt, hs2, e7, e8, e19, e20, hlt2, hjL, hb, f1_1, f2_1, f5_1, f6_1, f8_1, f19_1])
          · try simp (disch := first | omega | (simp; done) | fail) [wrap64c, if_pos, if_neg, opAnd, opOr, opXor, opDiff, opShr, opBit, ntw, csw, g_h0, e1, e2, e5, e6, hlU, hlu2, g1', hLw, hlt, hs2, e7, e8, e19, e20, hlt2, hjL, hb, ho, hq1, hq3, hcb]
            refine loopK_next _ ?hm ?hf ⟨j + 1, rfl, rfl, (by simp [hsn, lessO, optI, hcb, e7, ho]), (by simp (disch := first | omega | (simp; done) | fail) [wrap64c, if_pos, if_neg, opAnd, opOr, opXor, opDiff, opShr, opBit, ntw, csw, g_h0, e1, e2, e5, e6, hlU, hlu2, g1', hLw, hlt, hs2, e7, e8, e19, e20, hlt2, hjL, hb] <;> omega), (by first | omega | assumption | (simp (disch := first | omega | (simp; done) | fail) [wrap64c, if_pos, if_neg, opAnd, opOr, opXor, opDiff, opShr, opBit, ntw, csw, g_h0, e1, e2, e5, e6, hlU, hlu2, g1', hLw, hlt, hs2, e7, e8, e19, e20, hlt2, hjL, hb] <;> omega))⟩
            (case hm => first | omega | (simp; omega))
            (case hf => simp [FrameL, ntw, csw, g_h0, e1, e2, e5, e6, hlU, hlu2, g1', hLw, hlt, hs2, e7, e8, e19, e20, hlt2, hjL, hb, f1_1, f2_1, f5_1, f6_1, f8_1, f19_1])
    · rw [show j = n by omega, itemsK_eq hout n7, hlo] at e7
      have hq1 : optI (some (nextG (costN L) (fam xs) n s)) = ((nextG (costN L) (fam xs) n s : Nat) : Int) := rfl
      try simp (disch := first | omega | (simp; done) | fail) [wrap64c, if_pos, if_neg, opAnd, opOr, opXor, opDiff, opShr, opBit, ntw, csw, g_h0, e1, e2, e5, e6, hlU, hlu2, g1', hLw, hlt, hs2, e7, e8, e19, e20, hlt2, hq1]
      obtain ⟨u3, h3, hap, hu3, ha3, hn4, hs3⟩ := appI hu ((nextG (costN L) (fam xs) n s : Nat) : Int) (by rw [hlu2]; omega) (by omega) ha (by omega)
      have k3 : Adds h0 h3 := ⟨⟨by omega, fun o ho => (hs3 o (by omega) ho).trans (ha0.1.2 o ho)⟩, fun o h1 h2 => ha3.2 o (by omega) h2⟩
      try simp (disch := first | omega | (simp; done) | fail) [wrap64c, if_pos, if_neg, opAnd, opOr, opXor, opDiff, opShr, opBit, ntw, csw, g_h0, e1, e2, e5, e6, hlU, hlu2, g1', hLw, hlt, hs2, e7, e8, e19, e20, hlt2, hq1, hap]
      refine loopK_next _ ?hm ?hf ⟨k + 1, u3, rfl, (by simp (disch := first | omega | (simp; done) | fail) [wrap64c, if_pos, if_neg, opAnd, opOr, opXor, opDiff, opShr, opBit, ntw, csw, g_h0, e1, e2, e5, e6, hlU, hlu2, g1', hLw, hlt, hs2, e7, e8, e19, e20, hlt2, hq1] <;> omega), (by simp [greedS, ← hs]), (by first | omega | assumption | (simp (disch := first | omega | (simp; done) | fail) [wrap64c, if_pos, if_neg, opAnd, opOr, opXor, opDiff, opShr, opBit, ntw, csw, g_h0, e1, e2, e5, e6, hlU, hlu2, g1', hLw, hlt, hs2, e7, e8, e19, e20, hlt2, hq1] <;> omega)), ha3, k3, (by simp only [greedS, ← hs]; rw [toN_snoc]; exact hu3)⟩
      (case hm => first | omega | (simp; omega))
      (case hf => simp [FrameL, ntw, csw, g_h0, e1, e2, e5, e6, hlU, hlu2, g1', hLw, hlt, hs2, e7, e8, e19, e20, hlt2, hq1, f1_0, f2_0])
  · have hke : k = n := by omega
    try simp (disch := first | omega | (simp; done) | fail) [wrap64c, if_pos, if_neg, opAnd, opOr, opXor, opDiff, opShr, opBit, ntw, csw, g_h0, e1, e2, e5, e6, hlU, hlu2, g1', hLw, hlt]
    refine done_ret rfl ⟨ha, ?_⟩
    rw [hke] at hu
    exact (hu.own (by simp [greed_len]; omega)).sub fun o ho => ⟨by have := ho.1; omega, ho.2⟩

end Go.Proofs.Ytnjabaeajjhliaa
