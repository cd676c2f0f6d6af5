/- All spaces, by the reference: each put into its place. -/
import Derived.Test.YtnjabaeajjhliaaT17
namespace Go.Proofs.Ytnjabaeajjhliaa
set_option linter.unusedSimpArgs false
set_option linter.unusedVariables false
set_option maxHeartbeats 4000000
open Go Go.Eng
attribute [local irreducible] WD RunD PreD Runs CallOK

theorem alSpaces_ok (h : Hp) (n : Nat) (p1 : 1 ≤ n) (p4 : n ≤ 4) :
    ∃ v' h', CallOK Try.prog 67 #[.int .i64 (n : Int)] h v' h' ∧ Adds h h' ∧ GL 2 (spO n) h.next h' v' (spacesL n) := by
  refine callY_L (args := [.int .i64 (n : Int)]) 78 _ [.tmp 2] Try.func67 rfl rfl rfl ?_
  have hb16 : 2 ≤ bit n ∧ bit n ≤ 16 := ⟨bit_mono (i := 1) p1, bit_mono (j := 4) p4⟩
  have hbb : bit (bit n - 2) ≤ 16384 := bit_mono (j := 14) (by omega)
  have hbp := bit_pos (bit n - 2)
  have hu2 : IntKind.wrap .i64 (((bit n : Nat) : Int) - 1) = ((bit n - 1 : Nat) : Int) := by rw [wrap64c _ (by omega) (by omega)]; omega
  have hu3 : IntKind.wrap .i64 (((bit n - 1 : Nat) : Int) - 1) = ((bit n - 2 : Nat) : Int) := by rw [wrap64c _ (by omega) (by omega)]; omega
  try simp (disch := first | omega | (simp; done) | fail) [wrap64c, if_pos, if_neg, opAnd, opOr, opXor, opDiff, opShr, opBit, hu2, hu3]
  refine WD_loopC [0, 3] (fun m tm h' => ∃ f u O, m = bit (bit n - 2) - f ∧ tm 4 = u ∧ tm 5 = .int .i64 (f : Int) ∧ (f ≤ bit (bit n - 2)) ∧ (Adds h h') ∧ (GL 2 (spO n) h.next h' u O) ∧ (O.Pairwise (fun x y => cmpN x y < 0)) ∧ (O.Perm (candK n f))) _ ⟨0, _, [], rfl, (by simp (disch := first | omega | (simp; done) | fail) [wrap64c, if_pos, if_neg, opAnd, opOr, opXor, opDiff, opShr, opBit, hu2, hu3]), (by simp (disch := first | omega | (simp; done) | fail) [wrap64c, if_pos, if_neg, opAnd, opOr, opXor, opDiff, opShr, opBit, hu2, hu3]), (by first | omega | assumption | (simp (disch := first | omega | (simp; done) | fail) [wrap64c, if_pos, if_neg, opAnd, opOr, opXor, opDiff, opShr, opBit, hu2, hu3] <;> omega)), (adds_self _), (.nil _ _), .nil, (by simp [candK])⟩ ?_
  rintro m tm h' hFr ⟨f, u, O, rfl, e4, e5, hf, ha, hu, hO1, hO2⟩
  simp only [FrameL] at hFr
  obtain ⟨f0_0, f3_0, -⟩ := hFr
  try simp (disch := first | omega | (simp; done) | fail) [wrap64c, if_pos, if_neg, opAnd, opOr, opXor, opDiff, opShr, opBit, hu2, hu3] at f0_0 f3_0
  have e0 := f0_0
  have e3 := f3_0
  have hcl := candK_len n f
  have hcs := candK_succ n f
  have hOl : O.length ≤ f := by rw [hO2.length_eq]; exact hcl
  by_cases hlt : f < bit (bit n - 2)
  · rename Hp => hq
    try simp (disch := first | omega | (simp; done) | fail) [wrap64c, if_pos, if_neg, opAnd, opOr, opXor, opDiff, opShr, opBit, hu2, hu3, e0, e3, e4, e5, hlt, putCells]
    first | refine WY_heap fun h1 q_h1 => ?_ | refine callG_heap fun h1 q_h1 => ?_ | refine callP_heap fun h1 q_h1 => ?_ | refine RY_heap fun h1 q_h1 => ?_ | refine PY_heap fun h1 q_h1 => ?_ | refine doneY_heap fun h1 q_h1 => ?_ | refine loopK_heap fun h1 q_h1 => ?_ | refine thenY_heap fun h1 q_h1 => ?_ | refine thenM_heap fun h1 q_h1 => ?_
    have k1 : Adds hq h1 := by rw [q_h1]; exact (by first | exact aK | exact kK)
    have n1 : h1.next = hq.next + 2 := by simp [q_h1]
    have gb1 : h1.get (hq.next + 1) = .cells [.int .i64 (n : Int), .slice (some ⟨hq.next, 0, none⟩) 1 1] true true 1 := by simp [q_h1]
    have gl1 : h1.get hq.next = .cells [.int .i64 0] true true 1 := by simp [q_h1]
    refine WD_loopC [0, 3, 4, 5, 6] (fun m tm h' => ∃ x w, m = bit n - 1 - x ∧ tm 7 = .int .i64 (x : Int) ∧ (x ≤ bit n - 1 ∧ 1 ≤ x) ∧ (Adds hq h') ∧ (IntsA hq.next h' w (toN (0 :: famS f (x - 1)))) ∧ (h'.get (hq.next + 1) = .cells [.int .i64 (n : Int), w] true true 1) ∧ (OffF (fun o => o = hq.next + 1) w) ∧ (hq.next + 1 < h'.next)) _ ⟨1, .slice (some ⟨hq.next, 0, none⟩) 1 1, rfl, (by simp (disch := first | omega | (simp; done) | fail) [wrap64c, if_pos, if_neg, opAnd, opOr, opXor, opDiff, opShr, opBit, hu2, hu3, e0, e3, e4, e5, hlt]), (by first | omega | assumption | (simp (disch := first | omega | (simp; done) | fail) [wrap64c, if_pos, if_neg, opAnd, opOr, opXor, opDiff, opShr, opBit, hu2, hu3, e0, e3, e4, e5, hlt] <;> omega)), k1, (.inr ⟨hq.next, true, by simp, Nat.le_refl _, by omega, by simp [gl1, toN]⟩), gb1, (.mk (by omega)), (by omega)⟩ ?_
    rintro m tm h' hFr ⟨x, w, rfl, e7, hx, ha2, hw, hg, ho, hnn⟩
    simp only [FrameL] at hFr
    obtain ⟨f0_1, f3_1, f4_1, f5_1, f6_1, -⟩ := hFr
    try simp (disch := first | omega | (simp; done) | fail) [wrap64c, if_pos, if_neg, opAnd, opOr, opXor, opDiff, opShr, opBit, hu2, hu3, e0, e3, e4, e5, hlt] at f0_1 f3_1 f4_1 f5_1 f6_1
    have e0 := f0_1
    have e3 := f3_1
    have e4 := f4_1
    have e5 := f5_1
    have e6 := f6_1
    have hfl := famS_len f (x - 1)
    rename Hp => hr
    by_cases hlx : x < bit n - 1
    · have hlx' : (x : Int) < ((bit n - 1 : Nat) : Int) := by omega
      have hx1 : IntKind.wrap .i64 ((x : Int) - 1) = ((x - 1 : Nat) : Int) := by rw [wrap64c _ (by omega) (by omega)]; omega
      have hfs := famS_succ f (x - 1)
      rw [show x - 1 + 1 = x by omega] at hfs
      try simp (disch := first | omega | (simp; done) | fail) [wrap64c, if_pos, if_neg, opAnd, opOr, opXor, opDiff, opShr, opBit, hu2, hu3, e0, e3, e4, e5, hlt, e6, e7, hg, hlx', hx1]
      refine callG_c (by simp) (by simp) ?ha (spIn_ok hr f (x - 1) (by omega) (by omega)) ?_
      (case ha => simp (disch := first | omega | (simp; done) | fail) [wrap64c, if_pos, if_neg, opAnd, opOr, opXor, opDiff, opShr, opBit, hu2, hu3, e0, e3, e4, e5, hlt, e6, e7, hg, hlx', hx1])
      cases hc : f.testBit (x - 1)
      · rw [hc] at hfs
        try simp (disch := first | omega | (simp; done) | fail) [wrap64c, if_pos, if_neg, opAnd, opOr, opXor, opDiff, opShr, opBit, hu2, hu3, e0, e3, e4, e5, hlt, e6, e7, hg, hlx', hx1, hc]
        refine loopK_next _ ?hm ?hf ⟨x + 1, w, rfl, (by simp (disch := first | omega | (simp; done) | fail) [wrap64c, if_pos, if_neg, opAnd, opOr, opXor, opDiff, opShr, opBit, hu2, hu3, e0, e3, e4, e5, hlt, e6, e7, hg, hlx', hx1, hc] <;> omega), (by first | omega | assumption | (simp (disch := first | omega | (simp; done) | fail) [wrap64c, if_pos, if_neg, opAnd, opOr, opXor, opDiff, opShr, opBit, hu2, hu3, e0, e3, e4, e5, hlt, e6, e7, hg, hlx', hx1, hc] <;> omega)), (by first | omega | assumption | (simp (disch := first | omega | (simp; done) | fail) [wrap64c, if_pos, if_neg, opAnd, opOr, opXor, opDiff, opShr, opBit, hu2, hu3, e0, e3, e4, e5, hlt, e6, e7, hg, hlx', hx1, hc] <;> omega)), (by rw [show x + 1 - 1 = x by omega, hfs]; exact hw), (by first | omega | assumption | (simp (disch := first | omega | (simp; done) | fail) [wrap64c, if_pos, if_neg, opAnd, opOr, opXor, opDiff, opShr, opBit, hu2, hu3, e0, e3, e4, e5, hlt, e6, e7, hg, hlx', hx1, hc] <;> omega)), (by first | omega | assumption | (simp (disch := first | omega | (simp; done) | fail) [wrap64c, if_pos, if_neg, opAnd, opOr, opXor, opDiff, opShr, opBit, hu2, hu3, e0, e3, e4, e5, hlt, e6, e7, hg, hlx', hx1, hc] <;> omega)), (by first | omega | assumption | (simp (disch := first | omega | (simp; done) | fail) [wrap64c, if_pos, if_neg, opAnd, opOr, opXor, opDiff, opShr, opBit, hu2, hu3, e0, e3, e4, e5, hlt, e6, e7, hg, hlx', hx1, hc] <;> omega))⟩
        (case hm => first | omega | (simp; omega))
        (case hf => simp [FrameL, hu2, hu3, e0, e3, e4, e5, hlt, e6, e7, hg, hlx', hx1, hc, f0_1, f3_1, f4_1, f5_1, f6_1])
      · rw [hc] at hfs
        have ntw := (hw.own (by simp; omega)).nt
        have csw := (hw.own (by simp; omega)).cs
        try simp (disch := first | omega | (simp; done) | fail) [wrap64c, if_pos, if_neg, opAnd, opOr, opXor, opDiff, opShr, opBit, hu2, hu3, e0, e3, e4, e5, hlt, e6, e7, hg, hlx', hx1, hc, ntw, csw]
        obtain ⟨w2, h2, hap, hw2, ha3, hn3, hs3⟩ := appI3 hw (x : Int) (by simp; omega) ha2.1.1 ha2 (Nat.le_refl _)
        obtain ⟨hsm, ho2⟩ := hs3 (fun o => o = hq.next + 1) (fun o e => by omega) ho
        have gb2 : h2.get (hq.next + 1) = .cells [.int .i64 (n : Int), w] true true 1 := by rw [hsm.2 _ rfl hnn]; exact hg
        have ntw2 := (hw2.own (by simp; omega)).nt
        have csw2 := (hw2.own (by simp; omega)).cs
        try simp (disch := first | omega | (simp; done) | fail) [wrap64c, if_pos, if_neg, opAnd, opOr, opXor, opDiff, opShr, opBit, hu2, hu3, e0, e3, e4, e5, hlt, e6, e7, hg, hlx', hx1, hc, ntw, csw, gb2, ntw2, csw2, hap, putCells]
        refine loopK_next _ ?hm ?hf ⟨x + 1, w2, rfl, (by simp (disch := first | omega | (simp; done) | fail) [wrap64c, if_pos, if_neg, opAnd, opOr, opXor, opDiff, opShr, opBit, hu2, hu3, e0, e3, e4, e5, hlt, e6, e7, hg, hlx', hx1, hc, ntw, csw, gb2, ntw2, csw2] <;> omega), (by first | omega | assumption | (simp (disch := first | omega | (simp; done) | fail) [wrap64c, if_pos, if_neg, opAnd, opOr, opXor, opDiff, opShr, opBit, hu2, hu3, e0, e3, e4, e5, hlt, e6, e7, hg, hlx', hx1, hc, ntw, csw, gb2, ntw2, csw2] <;> omega)), (by first | exact aK | exact kK), ?c_hw, (by simp), ho2, (by simp; omega)⟩
        (case hm => first | omega | (simp; omega))
        (case hf => simp [FrameL, hu2, hu3, e0, e3, e4, e5, hlt, e6, e7, hg, hlx', hx1, hc, ntw, csw, gb2, ntw2, csw2, f0_1, f3_1, f4_1, f5_1, f6_1])
        case c_hw =>
          exact (by
            rw [show x + 1 - 1 = x by omega, hfs, if_pos rfl, show (0 :: (famS f (x - 1) ++ [x])) = (0 :: famS f (x - 1)) ++ [x] from rfl, toN_snoc]
            exact ia_putoff hw2 ho2 _)
    · have hxe : x = bit n - 1 := by omega
      have hlx' : ¬ (x : Int) < ((bit n - 1 : Nat) : Int) := by omega
      rw [show x - 1 = bit n - 2 by omega] at hw hfl
      have ntw := (hw.own (by simp; omega)).nt
      have csw := (hw.own (by simp; omega)).cs
      try simp (disch := first | omega | (simp; done) | fail) [wrap64c, if_pos, if_neg, opAnd, opOr, opXor, opDiff, opShr, opBit, hu2, hu3, e0, e3, e4, e5, hlt, e6, e7, hg, hlx', ntw, csw]
      obtain ⟨w2, h2, hap, hw2, ha3, hn3, hs3⟩ := appI3 hw ((bit n - 1 : Nat) : Int) (by simp; omega) ha2.1.1 ha2 (Nat.le_refl _)
      obtain ⟨hsm, ho2⟩ := hs3 (fun o => o = hq.next + 1) (fun o e => by omega) ho
      have gb2 : h2.get (hq.next + 1) = .cells [.int .i64 (n : Int), w] true true 1 := by rw [hsm.2 _ rfl hnn]; exact hg
      rw [← toN_snoc] at hw2
      have hfe : 0 :: famS f (bit n - 2) ++ [bit n - 1] = famL n f := rfl
      rw [hfe] at hw2
      have hfll := famL_len n f p1
      have ntw2 := (hw2.own (by simp; omega)).nt
      have csw2 := (hw2.own (by simp; omega)).cs
      try simp (disch := first | omega | (simp; done) | fail) [wrap64c, if_pos, if_neg, opAnd, opOr, opXor, opDiff, opShr, opBit, hu2, hu3, e0, e3, e4, e5, hlt, e6, e7, hg, hlx', ntw, csw, gb2, ntw2, csw2, hap, putCells]
      first | refine WY_heap fun h3 q_h3 => ?_ | refine callG_heap fun h3 q_h3 => ?_ | refine callP_heap fun h3 q_h3 => ?_ | refine RY_heap fun h3 q_h3 => ?_ | refine PY_heap fun h3 q_h3 => ?_ | refine doneY_heap fun h3 q_h3 => ?_ | refine loopK_heap fun h3 q_h3 => ?_ | refine thenY_heap fun h3 q_h3 => ?_ | refine thenM_heap fun h3 q_h3 => ?_
      have k3 : Adds hq h3 := by rw [q_h3]; exact (by first | exact aK | exact kK)
      have n3 : h3.next = h2.next := by simp [q_h3]
      have n4 : hq.next + 1 < h3.next := by omega
      have gb3 : h3.get (hq.next + 1) = .cells [.int .i64 (n : Int), w2] true true 1 := by simp [q_h3]
      have hw3 : IntsA hq.next h3 w2 (toN (famL n f)) := by rw [q_h3]; exact ia_putoff hw2 ho2 _
      have hO3 := hw3.own (by simp; omega)
      try simp (disch := first | omega | (simp; done) | fail) [wrap64c, if_pos, if_neg, opAnd, opOr, opXor, opDiff, opShr, opBit, hu2, hu3, e0, e3, e4, e5, hlt, e6, e7, hg, hlx', ntw, csw, gb2, ntw2, csw2, gb3]
      refine callG_c (by simp) (by simp) ?ha (alGood_ok h3 (.agg #[.int .i64 (n : Int), w2]) n (famL n f) (.mk hO3.ints) (famL_srt p1) (fun y hy => by have := famL_lt p1 y hy; omega) (by omega) (by simp [famL])) ?_
      (case ha => simp (disch := first | omega | (simp; done) | fail) [wrap64c, if_pos, if_neg, opAnd, opOr, opXor, opDiff, opShr, opBit, hu2, hu3, e0, e3, e4, e5, hlt, e6, e7, hg, hlx', ntw, csw, gb2, ntw2, csw2, gb3])
      cases hc : spB n (toN (famL n f))
      · rw [hc] at hcs
        try simp (disch := first | omega | (simp; done) | fail) [wrap64c, if_pos, if_neg, opAnd, opOr, opXor, opDiff, opShr, opBit, hu2, hu3, e0, e3, e4, e5, hlt, e6, e7, hg, hlx', ntw, csw, gb2, ntw2, csw2, gb3, hc]
        refine loopK_next _ ?hm ?hf ⟨f + 1, u, O, rfl, (by simp (disch := first | omega | (simp; done) | fail) [wrap64c, if_pos, if_neg, opAnd, opOr, opXor, opDiff, opShr, opBit, hu2, hu3, e0, e3, e4, e5, hlt, e6, e7, hg, hlx', ntw, csw, gb2, ntw2, csw2, gb3, hc] <;> omega), (by simp (disch := first | omega | (simp; done) | fail) [wrap64c, if_pos, if_neg, opAnd, opOr, opXor, opDiff, opShr, opBit, hu2, hu3, e0, e3, e4, e5, hlt, e6, e7, hg, hlx', ntw, csw, gb2, ntw2, csw2, gb3, hc] <;> omega), (by first | omega | assumption | (simp (disch := first | omega | (simp; done) | fail) [wrap64c, if_pos, if_neg, opAnd, opOr, opXor, opDiff, opShr, opBit, hu2, hu3, e0, e3, e4, e5, hlt, e6, e7, hg, hlx', ntw, csw, gb2, ntw2, csw2, gb3, hc] <;> omega)), (ha.trans k3), (hu.keep (spO_steady n) k3.1), (by first | omega | assumption | (simp (disch := first | omega | (simp; done) | fail) [wrap64c, if_pos, if_neg, opAnd, opOr, opXor, opDiff, opShr, opBit, hu2, hu3, e0, e3, e4, e5, hlt, e6, e7, hg, hlx', ntw, csw, gb2, ntw2, csw2, gb3, hc] <;> omega)), (by rw [hcs]; exact hO2)⟩
        (case hm => first | omega | (simp; omega))
        (case hf => simp [FrameL, hu2, hu3, e0, e3, e4, e5, hlt, e6, e7, hg, hlx', ntw, csw, gb2, ntw2, csw2, gb3, hc, f0_0, f3_0])
      · rw [hc, if_pos rfl] at hcs
        have hnin : ¬ famL n f ∈ O := fun hm => by
          obtain ⟨⟨m, hm1, hm2⟩, _⟩ := candK_mem.1 (hO2.mem_iff.1 hm)
          have := famL_inj p1 (show m < 2 ^ (bit n - 2) by unfold bit at *; omega) (show f < 2 ^ (bit n - 2) from hlt) hm2
          omega
        have hu3' := hu.keep (spO_steady n) k3.1
        have hLu := hu3'.lenD
        rcases hu with ⟨y1, y2⟩ | ⟨o, ex, cs, y2, y3, y4, y5, y6, y7⟩
        · have y2' := y2
          have hOn : O.length = 0 := by rw [y1]; rfl
          try simp (disch := first | omega | (simp; done) | fail) [wrap64c, if_pos, if_neg, opAnd, opOr, opXor, opDiff, opShr, opBit, hu2, hu3, e0, e3, e4, e5, hlt, e6, e7, hg, hlx', ntw, csw, gb2, ntw2, csw2, gb3, hc, hLu, y2', hOn]
          refine WD_loopC [0, 3, 4, 5, 6] (fun m tm h' => ∃ k, m = k + 0 * O.length ∧ h3 = h' ∧ tm 8 = .int .i64 (k : Int) ∧ (k ≤ O.length) ∧ (∀ j (hj : j < O.length), k ≤ j → cmpN (famL n f) O[j] < 0)) _ ⟨0, rfl, rfl, (by simp (disch := first | omega | (simp; done) | fail) [wrap64c, if_pos, if_neg, opAnd, opOr, opXor, opDiff, opShr, opBit, hu2, hu3, e0, e3, e4, e5, hlt, e6, e7, hg, hlx', ntw, csw, gb2, ntw2, csw2, gb3, hc, hLu, y2', hOn]), (by first | omega | assumption | (simp (disch := first | omega | (simp; done) | fail) [wrap64c, if_pos, if_neg, opAnd, opOr, opXor, opDiff, opShr, opBit, hu2, hu3, e0, e3, e4, e5, hlt, e6, e7, hg, hlx', ntw, csw, gb2, ntw2, csw2, gb3, hc, hLu, y2', hOn] <;> omega)), (by intro j h1 h2; omega)⟩ ?_
          rintro m tm h' hFr ⟨k, rfl, rfl, e8, hk, hkk⟩
          simp only [FrameL] at hFr
          obtain ⟨f0_2, f3_2, f4_2, f5_2, f6_2, -⟩ := hFr
          try simp (disch := first | omega | (simp; done) | fail) [wrap64c, if_pos, if_neg, opAnd, opOr, opXor, opDiff, opShr, opBit, hu2, hu3, e0, e3, e4, e5, hlt, e6, e7, hg, hlx', ntw, csw, gb2, ntw2, csw2, gb3, hc, hLu, y2', hOn] at f0_2 f3_2 f4_2 f5_2 f6_2
          have e0 := f0_2
          have e3 := f3_2
          have e4 := f4_2
          have e5 := f5_2
          have e6 := f6_2
          have hk0 : k = 0 := by omega
          have hkf : ¬ (0 < (k : Int)) := by omega
          have hkz : (k : Int) = 0 := by omega
          try simp (disch := first | omega | (simp; done) | fail) [wrap64c, if_pos, if_neg, opAnd, opOr, opXor, opDiff, opShr, opBit, hu2, hu3, e0, e3, e4, e5, hlt, e6, e7, hg, hlx', ntw, csw, gb2, ntw2, csw2, gb3, hc, hLu, y2', hOn, e8, hkf, hkz]
          refine WD_drawC 13 rfl (by kernel_rfl) ?_
          try simp (disch := first | omega | (simp; done) | fail) [wrap64c, if_pos, if_neg, opAnd, opOr, opXor, opDiff, opShr, opBit, hu2, hu3, e0, e3, e4, e5, hlt, e6, e7, hg, hlx', ntw, csw, gb2, ntw2, csw2, gb3, hc, hLu, y2', hOn, e8, hkf, hkz]
          obtain ⟨hs1, hs2⟩ := put_in (k := k) hO1 hk hkk (fun h => by omega) hnin
          try simp (disch := first | omega | (simp; done) | fail) [wrap64c, if_pos, if_neg, opAnd, opOr, opXor, opDiff, opShr, opBit, hu2, hu3, e0, e3, e4, e5, hlt, e6, e7, hg, hlx', ntw, csw, gb2, ntw2, csw2, gb3, hc, hLu, y2', hOn, e8, hkf, hkz]
          first | refine WY_heap fun h6 q_h6 => ?_ | refine callG_heap fun h6 q_h6 => ?_ | refine callP_heap fun h6 q_h6 => ?_ | refine RY_heap fun h6 q_h6 => ?_ | refine PY_heap fun h6 q_h6 => ?_ | refine doneY_heap fun h6 q_h6 => ?_ | refine loopK_heap fun h6 q_h6 => ?_ | refine thenY_heap fun h6 q_h6 => ?_ | refine thenM_heap fun h6 q_h6 => ?_
          have k6 : Adds h3 h6 := by rw [q_h6]; exact (by first | exact aK | exact kK)
          have n6 : h6.next = h3.next + 1 := by simp [q_h6]
          have hA6 : GL 2 (spO n) h.next h6 (.slice (some ⟨h3.next, 0, none⟩) 0 0) [] := .lit (ex := true) (by have := ha.1.1; omega) (by omega) (by simp [q_h6])
          have hsm6 : Same (fun x => h.next ≤ x) hq h6 := ⟨(k3.trans k6).1.1, fun x _ hx => (k3.trans k6).1.2 x hx⟩
          obtain ⟨src1, len1, el1⟩ : srcV h6 2 (.slice none 0 0) = some ((O.take k).length, []) ∧ ([] : List Value).length = (O.take k).length * 2 ∧ ∀ i (hi : i < (O.take k).length), spO n (fun x => h.next ≤ x ∧ x < hq.next) h6 (chunk 2 [] i) (O.take k)[i] := ⟨by rw [y1]; simp [srcV, srcW], by rw [y1]; simp, fun i hi => by rw [List.length_take] at hi; omega⟩
          obtain ⟨v7, h7, hap7, hG7, A7, n7, S7, O7⟩ := GL.append2 (P := Try.prog) (t := 25) (t' := 25) (z := .agg #[.int .i64 0, .slice none 0 0]) (b := 32) (e := 32) (F := fun x => h.next ≤ x ∧ x < hq.next) (h0 := h) (K := O.take k) (spO_steady n) hA6 src1 len1 el1 (fun x hx => ⟨hx.1, by omega, fun e => absurd (show h3.next = _ from e) (by omega)⟩)
            (by simp) (by simp) (by simp) rfl (by simp) (by decide) (by decide) (by simp) (by simp <;> omega) (by have := ha.1.1; omega) ((ha.trans k3).trans k6) (Nat.le_refl _)
          rw [List.nil_append] at hG7
          try simp (disch := first | omega | (simp; done) | fail) [wrap64c, if_pos, if_neg, opAnd, opOr, opXor, opDiff, opShr, opBit, hu2, hu3, e0, e3, e4, e5, hlt, e6, e7, hg, hlx', ntw, csw, gb2, ntw2, csw2, gb3, hc, hLu, y2', hOn, e8, hkf, hkz, hap7]
          have gb7 : h7.get (hq.next + 1) = .cells [.int .i64 (n : Int), w2] true true 1 := by rw [S7 _ (by omega) (fun e => absurd (show h3.next = _ from e) (by omega)), k6.1.2 _ (by omega)]; exact gb3
          refine WD_chainC rfl (by kernel_rfl) (by kernel_rfl) ?_
          try simp (disch := first | omega | (simp; done) | fail) [wrap64c, if_pos, if_neg, opAnd, opOr, opXor, opDiff, opShr, opBit, hu2, hu3, e0, e3, e4, e5, hlt, e6, e7, hg, hlx', ntw, csw, gb2, ntw2, csw2, gb3, hc, hLu, y2', hOn, e8, hkf, hkz, gb7]
          first | refine WY_heap fun h8 q_h8 => ?_ | refine callG_heap fun h8 q_h8 => ?_ | refine callP_heap fun h8 q_h8 => ?_ | refine RY_heap fun h8 q_h8 => ?_ | refine PY_heap fun h8 q_h8 => ?_ | refine doneY_heap fun h8 q_h8 => ?_ | refine loopK_heap fun h8 q_h8 => ?_ | refine thenY_heap fun h8 q_h8 => ?_ | refine thenM_heap fun h8 q_h8 => ?_
          have k8 : Adds h7 h8 := by rw [q_h8]; exact (by first | exact aK | exact kK)
          have n8 : h8.next = h7.next + 1 := by simp [q_h8]
          have hsmw : Same (Btw hq.next h3.next) h3 h8 := ⟨by omega, fun x hx hl => by
            unfold Btw at hx
            rw [k8.1.2 _ (by omega), S7 _ (by omega) (fun e => absurd (show h3.next = _ from e) (by omega)), k6.1.2 _ hl]⟩
          have hw8 := hO3.same hsmw
          obtain ⟨v9, h9, hap9, hG9, A9, n9, S9, O9⟩ := GL.append2 (P := Try.prog) (t := 25) (t' := 25) (z := .agg #[.int .i64 0, .slice none 0 0]) (b := 32) (e := 32) (K := [famL n f]) (ys := [.int .i64 (n : Int), w2]) (F := Btw hq.next h3.next) (y := .slice (some ⟨h7.next, 0, none⟩) 1 1) (h0 := h) (spO_steady n) (hG7.keep (spO_steady n) k8.1)
            (by simp [srcV, srcW, q_h8]) rfl (fun i hi => by
              have : i = 0 := by simp at hi; exact hi
              subst this
              exact ⟨w2, rfl, hw8⟩) (fun x hx => ⟨by have := hx.1; have := ha.1.1; omega, by have := hx.2; omega, fun e => by
              have := hx.2
              rcases O7 _ e with e | e
              · exact absurd (show h3.next = x from e) (by omega)
              · omega⟩) (by simp) (by simp) (by simp) rfl (by simp) (by decide) (by decide) (by simp) (by simp <;> omega) (by have := ha.1.1; omega) (A7.trans k8) (Nat.le_refl _)
          try simp (disch := first | omega | (simp; done) | fail) [wrap64c, if_pos, if_neg, opAnd, opOr, opXor, opDiff, opShr, opBit, hu2, hu3, e0, e3, e4, e5, hlt, e6, e7, hg, hlx', ntw, csw, gb2, ntw2, csw2, gb3, hc, hLu, y2', hOn, e8, hkf, hkz, gb7, hap9]
          have hsm9 : Same (fun x => h.next ≤ x) hq h9 := ⟨by have := k3.1.1; omega, fun x _ hx => by
            have hx3 := k3.1.1
            have hno : ¬ ObjIn v7 x := fun e => by
              rcases O7 _ e with e | e
              · exact absurd (show h3.next = x from e) (by omega)
              · omega
            rw [S9 _ (by omega) hno, k8.1.2 _ (by omega), S7 _ (by omega) (fun e => absurd (show h3.next = _ from e) (by omega))]
            exact (k3.trans k6).1.2 x hx⟩
          obtain ⟨src2, len2, el2⟩ : srcV h9 2 (.slice none 0 0) = some ((O.drop k).length, []) ∧ ([] : List Value).length = (O.drop k).length * 2 ∧ ∀ i (hi : i < (O.drop k).length), spO n (fun x => h.next ≤ x ∧ x < hq.next) h9 (chunk 2 [] i) (O.drop k)[i] := ⟨by rw [y1]; simp [srcV, srcW], by rw [y1]; simp, fun i hi => by rw [List.length_drop] at hi; omega⟩
          obtain ⟨v10, h10, hap10, hG10, A10, n10, S10, O10⟩ := GL.append2 (P := Try.prog) (t := 25) (t' := 25) (z := .agg #[.int .i64 0, .slice none 0 0]) (b := 32) (e := 32) (F := fun x => h.next ≤ x ∧ x < hq.next) (h0 := h) (K := O.drop k) (spO_steady n) hG9 src2 len2 el2 (fun x hx => ⟨hx.1, by have := k3.1.1; omega, fun e => by
              have hx3 := k3.1.1
              rcases O9 _ e with e | e
              · rcases O7 _ e with e | e
                · exact absurd (show h3.next = x from e) (by omega)
                · omega
              · omega⟩)
            (by simp) (by simp) (by simp) rfl (by simp) (by decide) (by decide) (by simp) (by simp <;> omega) (by have := ha.1.1; have := k3.1.1; omega) A9 (Nat.le_refl _)
          try simp (disch := first | omega | (simp; done) | fail) [wrap64c, if_pos, if_neg, opAnd, opOr, opXor, opDiff, opShr, opBit, hu2, hu3, e0, e3, e4, e5, hlt, e6, e7, hg, hlx', ntw, csw, gb2, ntw2, csw2, gb3, hc, hLu, y2', hOn, e8, hkf, hkz, gb7, hap10]
          refine loopK_next _ ?hm ?hf ⟨f + 1, v10, O.take k ++ [famL n f] ++ O.drop k, rfl, (by simp (disch := first | omega | (simp; done) | fail) [wrap64c, if_pos, if_neg, opAnd, opOr, opXor, opDiff, opShr, opBit, hu2, hu3, e0, e3, e4, e5, hlt, e6, e7, hg, hlx', ntw, csw, gb2, ntw2, csw2, gb3, hc, hLu, y2', hOn, e8, hkf, hkz, gb7] <;> omega), (by simp (disch := first | omega | (simp; done) | fail) [wrap64c, if_pos, if_neg, opAnd, opOr, opXor, opDiff, opShr, opBit, hu2, hu3, e0, e3, e4, e5, hlt, e6, e7, hg, hlx', ntw, csw, gb2, ntw2, csw2, gb3, hc, hLu, y2', hOn, e8, hkf, hkz, gb7] <;> omega), (by first | omega | assumption | (simp (disch := first | omega | (simp; done) | fail) [wrap64c, if_pos, if_neg, opAnd, opOr, opXor, opDiff, opShr, opBit, hu2, hu3, e0, e3, e4, e5, hlt, e6, e7, hg, hlx', ntw, csw, gb2, ntw2, csw2, gb3, hc, hLu, y2', hOn, e8, hkf, hkz, gb7] <;> omega)), A10, hG10, hs1, (by rw [hcs]; exact hs2.trans (List.Perm.append_right _ hO2))⟩
          (case hm => first | omega | (simp; omega))
          (case hf => simp [FrameL, hu2, hu3, e0, e3, e4, e5, hlt, e6, e7, hg, hlx', ntw, csw, gb2, ntw2, csw2, gb3, hc, hLu, y2', hOn, e8, hkf, hkz, gb7, f0_0, f3_0])
        · have hu : GL 2 (spO n) h.next hq u O := .inr ⟨o, ex, cs, y2, y3, y4, y5, y6, y7⟩
          have y2' := y2
          have g3o : h3.get o = .cells cs true ex 2 := by rw [k3.1.2 _ y4]; exact y5
          try simp (disch := first | omega | (simp; done) | fail) [wrap64c, if_pos, if_neg, opAnd, opOr, opXor, opDiff, opShr, opBit, hu2, hu3, e0, e3, e4, e5, hlt, e6, e7, hg, hlx', ntw, csw, gb2, ntw2, csw2, gb3, hc, hLu, y2', g3o]
          refine WD_loopC [0, 3, 4, 5, 6] (fun m tm h' => ∃ k, m = k + 0 * O.length ∧ h3 = h' ∧ tm 8 = .int .i64 (k : Int) ∧ (k ≤ O.length) ∧ (∀ j (hj : j < O.length), k ≤ j → cmpN (famL n f) O[j] < 0)) _ ⟨O.length, rfl, rfl, (by simp (disch := first | omega | (simp; done) | fail) [wrap64c, if_pos, if_neg, opAnd, opOr, opXor, opDiff, opShr, opBit, hu2, hu3, e0, e3, e4, e5, hlt, e6, e7, hg, hlx', ntw, csw, gb2, ntw2, csw2, gb3, hc, hLu, y2', g3o]), (by first | omega | assumption | (simp (disch := first | omega | (simp; done) | fail) [wrap64c, if_pos, if_neg, opAnd, opOr, opXor, opDiff, opShr, opBit, hu2, hu3, e0, e3, e4, e5, hlt, e6, e7, hg, hlx', ntw, csw, gb2, ntw2, csw2, gb3, hc, hLu, y2', g3o] <;> omega)), (by intro j h1 h2; omega)⟩ ?_
          rintro m tm h' hFr ⟨k, rfl, rfl, e8, hk, hkk⟩
          simp only [FrameL] at hFr
          obtain ⟨f0_3, f3_3, f4_3, f5_3, f6_3, -⟩ := hFr
          try simp (disch := first | omega | (simp; done) | fail) [wrap64c, if_pos, if_neg, opAnd, opOr, opXor, opDiff, opShr, opBit, hu2, hu3, e0, e3, e4, e5, hlt, e6, e7, hg, hlx', ntw, csw, gb2, ntw2, csw2, gb3, hc, hLu, y2', g3o] at f0_3 f3_3 f4_3 f5_3 f6_3
          have e0 := f0_3
          have e3 := f3_3
          have e4 := f4_3
          have e5 := f5_3
          have e6 := f6_3
          by_cases hk0 : k = 0
          · have hk0' := hk0
            try simp (disch := first | omega | (simp; done) | fail) [wrap64c, if_pos, if_neg, opAnd, opOr, opXor, opDiff, opShr, opBit, hu2, hu3, e0, e3, e4, e5, hlt, e6, e7, hg, hlx', ntw, csw, gb2, ntw2, csw2, gb3, hc, hLu, y2', g3o, e8, hk0']
            refine WD_drawC 13 rfl (by kernel_rfl) ?_
            try simp (disch := first | omega | (simp; done) | fail) [wrap64c, if_pos, if_neg, opAnd, opOr, opXor, opDiff, opShr, opBit, hu2, hu3, e0, e3, e4, e5, hlt, e6, e7, hg, hlx', ntw, csw, gb2, ntw2, csw2, gb3, hc, hLu, y2', g3o, e8, hk0']
            obtain ⟨hs1, hs2⟩ := put_in (k := 0) hO1 (Nat.zero_le _) (fun j hj _ => hkk j hj (by omega)) (fun h => by omega) hnin
            try simp (disch := first | omega | (simp; done) | fail) [wrap64c, if_pos, if_neg, opAnd, opOr, opXor, opDiff, opShr, opBit, hu2, hu3, e0, e3, e4, e5, hlt, e6, e7, hg, hlx', ntw, csw, gb2, ntw2, csw2, gb3, hc, hLu, y2', g3o, e8, hk0']
            first | refine WY_heap fun h6 q_h6 => ?_ | refine callG_heap fun h6 q_h6 => ?_ | refine callP_heap fun h6 q_h6 => ?_ | refine RY_heap fun h6 q_h6 => ?_ | refine PY_heap fun h6 q_h6 => ?_ | refine doneY_heap fun h6 q_h6 => ?_ | refine loopK_heap fun h6 q_h6 => ?_ | refine thenY_heap fun h6 q_h6 => ?_ | refine thenM_heap fun h6 q_h6 => ?_
            have k6 : Adds h3 h6 := by rw [q_h6]; exact (by first | exact aK | exact kK)
            have n6 : h6.next = h3.next + 1 := by simp [q_h6]
            have hA6 : GL 2 (spO n) h.next h6 (.slice (some ⟨h3.next, 0, none⟩) 0 0) [] := .lit (ex := true) (by have := ha.1.1; omega) (by omega) (by simp [q_h6])
            have hsm6 : Same (fun x => h.next ≤ x) hq h6 := ⟨(k3.trans k6).1.1, fun x _ hx => (k3.trans k6).1.2 x hx⟩
            obtain ⟨ys1, src1, len1, el1⟩ := (hu.partsAt (spO_steady n) y2 hsm6).1 0 (Nat.zero_le _)
            obtain ⟨v7, h7, hap7, hG7, A7, n7, S7, O7⟩ := GL.append2 (P := Try.prog) (t := 25) (t' := 25) (z := .agg #[.int .i64 0, .slice none 0 0]) (b := 32) (e := 32) (F := fun x => h.next ≤ x ∧ x < hq.next) (h0 := h) (K := O.take 0) (spO_steady n) hA6 src1 len1 el1 (fun x hx => ⟨hx.1, by omega, fun e => absurd (show h3.next = _ from e) (by omega)⟩)
              (by simp) (by simp) (by simp) rfl (by simp) (by decide) (by decide) (by simp) (by simp <;> omega) (by have := ha.1.1; omega) ((ha.trans k3).trans k6) (Nat.le_refl _)
            rw [List.nil_append] at hG7
            try simp (disch := first | omega | (simp; done) | fail) [wrap64c, if_pos, if_neg, opAnd, opOr, opXor, opDiff, opShr, opBit, hu2, hu3, e0, e3, e4, e5, hlt, e6, e7, hg, hlx', ntw, csw, gb2, ntw2, csw2, gb3, hc, hLu, y2', g3o, e8, hk0', hap7]
            have gb7 : h7.get (hq.next + 1) = .cells [.int .i64 (n : Int), w2] true true 1 := by rw [S7 _ (by omega) (fun e => absurd (show h3.next = _ from e) (by omega)), k6.1.2 _ (by omega)]; exact gb3
            refine WD_chainC rfl (by kernel_rfl) (by kernel_rfl) ?_
            try simp (disch := first | omega | (simp; done) | fail) [wrap64c, if_pos, if_neg, opAnd, opOr, opXor, opDiff, opShr, opBit, hu2, hu3, e0, e3, e4, e5, hlt, e6, e7, hg, hlx', ntw, csw, gb2, ntw2, csw2, gb3, hc, hLu, y2', g3o, e8, hk0', gb7]
            first | refine WY_heap fun h8 q_h8 => ?_ | refine callG_heap fun h8 q_h8 => ?_ | refine callP_heap fun h8 q_h8 => ?_ | refine RY_heap fun h8 q_h8 => ?_ | refine PY_heap fun h8 q_h8 => ?_ | refine doneY_heap fun h8 q_h8 => ?_ | refine loopK_heap fun h8 q_h8 => ?_ | refine thenY_heap fun h8 q_h8 => ?_ | refine thenM_heap fun h8 q_h8 => ?_
            have k8 : Adds h7 h8 := by rw [q_h8]; exact (by first | exact aK | exact kK)
            have n8 : h8.next = h7.next + 1 := by simp [q_h8]
            have hsmw : Same (Btw hq.next h3.next) h3 h8 := ⟨by omega, fun x hx hl => by
              unfold Btw at hx
              rw [k8.1.2 _ (by omega), S7 _ (by omega) (fun e => absurd (show h3.next = _ from e) (by omega)), k6.1.2 _ hl]⟩
            have hw8 := hO3.same hsmw
            obtain ⟨v9, h9, hap9, hG9, A9, n9, S9, O9⟩ := GL.append2 (P := Try.prog) (t := 25) (t' := 25) (z := .agg #[.int .i64 0, .slice none 0 0]) (b := 32) (e := 32) (K := [famL n f]) (ys := [.int .i64 (n : Int), w2]) (F := Btw hq.next h3.next) (y := .slice (some ⟨h7.next, 0, none⟩) 1 1) (h0 := h) (spO_steady n) (hG7.keep (spO_steady n) k8.1)
              (by simp [srcV, srcW, q_h8]) rfl (fun i hi => by
                have : i = 0 := by simp at hi; exact hi
                subst this
                exact ⟨w2, rfl, hw8⟩) (fun x hx => ⟨by have := hx.1; have := ha.1.1; omega, by have := hx.2; omega, fun e => by
                have := hx.2
                rcases O7 _ e with e | e
                · exact absurd (show h3.next = x from e) (by omega)
                · omega⟩) (by simp) (by simp) (by simp) rfl (by simp) (by decide) (by decide) (by simp) (by simp <;> omega) (by have := ha.1.1; omega) (A7.trans k8) (Nat.le_refl _)
            try simp (disch := first | omega | (simp; done) | fail) [wrap64c, if_pos, if_neg, opAnd, opOr, opXor, opDiff, opShr, opBit, hu2, hu3, e0, e3, e4, e5, hlt, e6, e7, hg, hlx', ntw, csw, gb2, ntw2, csw2, gb3, hc, hLu, y2', g3o, e8, hk0', gb7, hap9]
            have hsm9 : Same (fun x => h.next ≤ x) hq h9 := ⟨by have := k3.1.1; omega, fun x _ hx => by
              have hx3 := k3.1.1
              have hno : ¬ ObjIn v7 x := fun e => by
                rcases O7 _ e with e | e
                · exact absurd (show h3.next = x from e) (by omega)
                · omega
              rw [S9 _ (by omega) hno, k8.1.2 _ (by omega), S7 _ (by omega) (fun e => absurd (show h3.next = _ from e) (by omega))]
              exact (k3.trans k6).1.2 x hx⟩
            obtain ⟨ys2, src2, len2, el2⟩ := (by have := (hu.partsAt (spO_steady n) y2 hsm9).2 0 (Nat.zero_le _); rw [Nat.zero_mul, Nat.sub_zero] at this; exact this : _)
            obtain ⟨v10, h10, hap10, hG10, A10, n10, S10, O10⟩ := GL.append2 (P := Try.prog) (t := 25) (t' := 25) (z := .agg #[.int .i64 0, .slice none 0 0]) (b := 32) (e := 32) (F := fun x => h.next ≤ x ∧ x < hq.next) (h0 := h) (K := O.drop 0) (spO_steady n) hG9 src2 len2 el2 (fun x hx => ⟨hx.1, by have := k3.1.1; omega, fun e => by
                have hx3 := k3.1.1
                rcases O9 _ e with e | e
                · rcases O7 _ e with e | e
                  · exact absurd (show h3.next = x from e) (by omega)
                  · omega
                · omega⟩)
              (by simp) (by simp) (by simp) rfl (by simp) (by decide) (by decide) (by simp) (by simp <;> omega) (by have := ha.1.1; have := k3.1.1; omega) A9 (Nat.le_refl _)
            try simp (disch := first | omega | (simp; done) | fail) [wrap64c, if_pos, if_neg, opAnd, opOr, opXor, opDiff, opShr, opBit, hu2, hu3, e0, e3, e4, e5, hlt, e6, e7, hg, hlx', ntw, csw, gb2, ntw2, csw2, gb3, hc, hLu, y2', g3o, e8, hk0', gb7, hap10]
            refine loopK_next _ ?hm ?hf ⟨f + 1, v10, O.take 0 ++ [famL n f] ++ O.drop 0, rfl, (by simp (disch := first | omega | (simp; done) | fail) [wrap64c, if_pos, if_neg, opAnd, opOr, opXor, opDiff, opShr, opBit, hu2, hu3, e0, e3, e4, e5, hlt, e6, e7, hg, hlx', ntw, csw, gb2, ntw2, csw2, gb3, hc, hLu, y2', g3o, e8, hk0', gb7] <;> omega), (by simp (disch := first | omega | (simp; done) | fail) [wrap64c, if_pos, if_neg, opAnd, opOr, opXor, opDiff, opShr, opBit, hu2, hu3, e0, e3, e4, e5, hlt, e6, e7, hg, hlx', ntw, csw, gb2, ntw2, csw2, gb3, hc, hLu, y2', g3o, e8, hk0', gb7] <;> omega), (by first | omega | assumption | (simp (disch := first | omega | (simp; done) | fail) [wrap64c, if_pos, if_neg, opAnd, opOr, opXor, opDiff, opShr, opBit, hu2, hu3, e0, e3, e4, e5, hlt, e6, e7, hg, hlx', ntw, csw, gb2, ntw2, csw2, gb3, hc, hLu, y2', g3o, e8, hk0', gb7] <;> omega)), A10, hG10, hs1, (by rw [hcs]; exact hs2.trans (List.Perm.append_right _ hO2))⟩
            (case hm => first | omega | (simp; omega))
            (case hf => simp [FrameL, hu2, hu3, e0, e3, e4, e5, hlt, e6, e7, hg, hlx', ntw, csw, gb2, ntw2, csw2, gb3, hc, hLu, y2', g3o, e8, hk0', gb7, f0_0, f3_0])
          · obtain ⟨kk, hkk1⟩ : ∃ kk, k = kk + 1 := ⟨k - 1, by omega⟩
            have hkl : kk < O.length := by omega
            have hkp : 0 < k := by omega
            have hk1 : IntKind.wrap .i64 ((k : Int) - 1) = (kk : Int) := by rw [wrap64c _ (by omega) (by omega)]; omega
            obtain ⟨wk, hwk, hIk⟩ := y7 kk hkl
            obtain ⟨c1, c2⟩ := chunk2_at hwk
            have c3 : ∀ h2 : kk * 2 + 1 < cs.length, cs[kk * 2 + 1] = wk := fun h2 => by rw [List.getElem?_eq_getElem h2] at c2; exact Option.some.inj c2
            have hIk3 := hIk.keep k3.1
            try simp (disch := first | omega | (simp; done) | fail) [wrap64c, if_pos, if_neg, opAnd, opOr, opXor, opDiff, opShr, opBit, hu2, hu3, e0, e3, e4, e5, hlt, e6, e7, hg, hlx', ntw, csw, gb2, ntw2, csw2, gb3, hc, hLu, y2', g3o, e8, hkl, hkp, hk1, c3, y6]
            refine WD_drawC 13 rfl (by kernel_rfl) ?_
            try simp (disch := first | omega | (simp; done) | fail) [wrap64c, if_pos, if_neg, opAnd, opOr, opXor, opDiff, opShr, opBit, hu2, hu3, e0, e3, e4, e5, hlt, e6, e7, hg, hlx', ntw, csw, gb2, ntw2, csw2, gb3, hc, hLu, y2', g3o, e8, hkl, hkp, hk1, c3, y6]
            refine callP_c (by simp) (by simp) ?ha (alBefore_ok h3 w2 wk _ _ hO3.ints hIk3.ints) ?hadd ?_
            (case ha => simp (disch := first | omega | (simp; done) | fail) [wrap64c, if_pos, if_neg, opAnd, opOr, opXor, opDiff, opShr, opBit, hu2, hu3, e0, e3, e4, e5, hlt, e6, e7, hg, hlx', ntw, csw, gb2, ntw2, csw2, gb3, hc, hLu, y2', g3o, e8, hkl, hkp, hk1, c3, y6])
            (case hadd => first | assumption | exact adds_self _ | (simp; done))
            by_cases hcb : cmpL (toN (famL n f)) (toN O[kk]) < 0
            · try simp (disch := first | omega | (simp; done) | fail) [wrap64c, if_pos, if_neg, opAnd, opOr, opXor, opDiff, opShr, opBit, hu2, hu3, e0, e3, e4, e5, hlt, e6, e7, hg, hlx', ntw, csw, gb2, ntw2, csw2, gb3, hc, hLu, y2', g3o, e8, hkl, hkp, hk1, c3, y6, hcb]
              refine loopK_next _ ?hm ?hf ⟨kk, rfl, rfl, (by simp (disch := first | omega | (simp; done) | fail) [wrap64c, if_pos, if_neg, opAnd, opOr, opXor, opDiff, opShr, opBit, hu2, hu3, e0, e3, e4, e5, hlt, e6, e7, hg, hlx', ntw, csw, gb2, ntw2, csw2, gb3, hc, hLu, y2', g3o, e8, hkl, hkp, hk1, c3, y6, hcb] <;> omega), (by first | omega | assumption | (simp (disch := first | omega | (simp; done) | fail) [wrap64c, if_pos, if_neg, opAnd, opOr, opXor, opDiff, opShr, opBit, hu2, hu3, e0, e3, e4, e5, hlt, e6, e7, hg, hlx', ntw, csw, gb2, ntw2, csw2, gb3, hc, hLu, y2', g3o, e8, hkl, hkp, hk1, c3, y6, hcb] <;> omega)), ?c_hkk⟩
              (case hm => first | omega | (simp; omega))
              (case hf => simp [FrameL, hu2, hu3, e0, e3, e4, e5, hlt, e6, e7, hg, hlx', ntw, csw, gb2, ntw2, csw2, gb3, hc, hLu, y2', g3o, e8, hkl, hkp, hk1, c3, y6, hcb, f0_3, f3_3, f4_3, f5_3, f6_3])
              case c_hkk =>
                exact (fun j hj hkj => by
                  by_cases e : j = kk
                  · subst e; exact hcb
                  · exact hkk j hj (by omega))
            · try simp (disch := first | omega | (simp; done) | fail) [wrap64c, if_pos, if_neg, opAnd, opOr, opXor, opDiff, opShr, opBit, hu2, hu3, e0, e3, e4, e5, hlt, e6, e7, hg, hlx', ntw, csw, gb2, ntw2, csw2, gb3, hc, hLu, y2', g3o, e8, hkl, hkp, hk1, c3, y6, hcb]
              obtain ⟨hs1, hs2⟩ := put_in (k := k) hO1 hk hkk (fun h9 => by rw [getElem_congr_idx (show k - 1 = kk by omega)]; exact hcb) hnin
              try simp (disch := first | omega | (simp; done) | fail) [wrap64c, if_pos, if_neg, opAnd, opOr, opXor, opDiff, opShr, opBit, hu2, hu3, e0, e3, e4, e5, hlt, e6, e7, hg, hlx', ntw, csw, gb2, ntw2, csw2, gb3, hc, hLu, y2', g3o, e8, hkl, hkp, hk1, c3, y6, hcb]
              first | refine WY_heap fun h6 q_h6 => ?_ | refine callG_heap fun h6 q_h6 => ?_ | refine callP_heap fun h6 q_h6 => ?_ | refine RY_heap fun h6 q_h6 => ?_ | refine PY_heap fun h6 q_h6 => ?_ | refine doneY_heap fun h6 q_h6 => ?_ | refine loopK_heap fun h6 q_h6 => ?_ | refine thenY_heap fun h6 q_h6 => ?_ | refine thenM_heap fun h6 q_h6 => ?_
              have k6 : Adds h3 h6 := by rw [q_h6]; exact (by first | exact aK | exact kK)
              have n6 : h6.next = h3.next + 1 := by simp [q_h6]
              have hA6 : GL 2 (spO n) h.next h6 (.slice (some ⟨h3.next, 0, none⟩) 0 0) [] := .lit (ex := true) (by have := ha.1.1; omega) (by omega) (by simp [q_h6])
              have hsm6 : Same (fun x => h.next ≤ x) hq h6 := ⟨(k3.trans k6).1.1, fun x _ hx => (k3.trans k6).1.2 x hx⟩
              obtain ⟨ys1, src1, len1, el1⟩ := (hu.partsAt (spO_steady n) y2 hsm6).1 k hk
              obtain ⟨v7, h7, hap7, hG7, A7, n7, S7, O7⟩ := GL.append2 (P := Try.prog) (t := 25) (t' := 25) (z := .agg #[.int .i64 0, .slice none 0 0]) (b := 32) (e := 32) (F := fun x => h.next ≤ x ∧ x < hq.next) (h0 := h) (K := O.take k) (spO_steady n) hA6 src1 len1 el1 (fun x hx => ⟨hx.1, by omega, fun e => absurd (show h3.next = _ from e) (by omega)⟩)
                (by simp) (by simp) (by simp) rfl (by simp) (by decide) (by decide) (by simp) (by simp <;> omega) (by have := ha.1.1; omega) ((ha.trans k3).trans k6) (Nat.le_refl _)
              rw [List.nil_append] at hG7
              try simp (disch := first | omega | (simp; done) | fail) [wrap64c, if_pos, if_neg, opAnd, opOr, opXor, opDiff, opShr, opBit, hu2, hu3, e0, e3, e4, e5, hlt, e6, e7, hg, hlx', ntw, csw, gb2, ntw2, csw2, gb3, hc, hLu, y2', g3o, e8, hkl, hkp, hk1, c3, y6, hcb, hap7]
              have gb7 : h7.get (hq.next + 1) = .cells [.int .i64 (n : Int), w2] true true 1 := by rw [S7 _ (by omega) (fun e => absurd (show h3.next = _ from e) (by omega)), k6.1.2 _ (by omega)]; exact gb3
              refine WD_chainC rfl (by kernel_rfl) (by kernel_rfl) ?_
              try simp (disch := first | omega | (simp; done) | fail) [wrap64c, if_pos, if_neg, opAnd, opOr, opXor, opDiff, opShr, opBit, hu2, hu3, e0, e3, e4, e5, hlt, e6, e7, hg, hlx', ntw, csw, gb2, ntw2, csw2, gb3, hc, hLu, y2', g3o, e8, hkl, hkp, hk1, c3, y6, hcb, gb7]
              first | refine WY_heap fun h8 q_h8 => ?_ | refine callG_heap fun h8 q_h8 => ?_ | refine callP_heap fun h8 q_h8 => ?_ | refine RY_heap fun h8 q_h8 => ?_ | refine PY_heap fun h8 q_h8 => ?_ | refine doneY_heap fun h8 q_h8 => ?_ | refine loopK_heap fun h8 q_h8 => ?_ | refine thenY_heap fun h8 q_h8 => ?_ | refine thenM_heap fun h8 q_h8 => ?_
              have k8 : Adds h7 h8 := by rw [q_h8]; exact (by first | exact aK | exact kK)
              have n8 : h8.next = h7.next + 1 := by simp [q_h8]
              have hsmw : Same (Btw hq.next h3.next) h3 h8 := ⟨by omega, fun x hx hl => by
                unfold Btw at hx
                rw [k8.1.2 _ (by omega), S7 _ (by omega) (fun e => absurd (show h3.next = _ from e) (by omega)), k6.1.2 _ hl]⟩
              have hw8 := hO3.same hsmw
              obtain ⟨v9, h9, hap9, hG9, A9, n9, S9, O9⟩ := GL.append2 (P := Try.prog) (t := 25) (t' := 25) (z := .agg #[.int .i64 0, .slice none 0 0]) (b := 32) (e := 32) (K := [famL n f]) (ys := [.int .i64 (n : Int), w2]) (F := Btw hq.next h3.next) (y := .slice (some ⟨h7.next, 0, none⟩) 1 1) (h0 := h) (spO_steady n) (hG7.keep (spO_steady n) k8.1)
                (by simp [srcV, srcW, q_h8]) rfl (fun i hi => by
                  have : i = 0 := by simp at hi; exact hi
                  subst this
                  exact ⟨w2, rfl, hw8⟩) (fun x hx => ⟨by have := hx.1; have := ha.1.1; omega, by have := hx.2; omega, fun e => by
                  have := hx.2
                  rcases O7 _ e with e | e
                  · exact absurd (show h3.next = x from e) (by omega)
                  · omega⟩) (by simp) (by simp) (by simp) rfl (by simp) (by decide) (by decide) (by simp) (by simp <;> omega) (by have := ha.1.1; omega) (A7.trans k8) (Nat.le_refl _)
              try simp (disch := first | omega | (simp; done) | fail) [wrap64c, if_pos, if_neg, opAnd, opOr, opXor, opDiff, opShr, opBit, hu2, hu3, e0, e3, e4, e5, hlt, e6, e7, hg, hlx', ntw, csw, gb2, ntw2, csw2, gb3, hc, hLu, y2', g3o, e8, hkl, hkp, hk1, c3, y6, hcb, gb7, hap9]
              have hsm9 : Same (fun x => h.next ≤ x) hq h9 := ⟨by have := k3.1.1; omega, fun x _ hx => by
                have hx3 := k3.1.1
                have hno : ¬ ObjIn v7 x := fun e => by
                  rcases O7 _ e with e | e
                  · exact absurd (show h3.next = x from e) (by omega)
                  · omega
                rw [S9 _ (by omega) hno, k8.1.2 _ (by omega), S7 _ (by omega) (fun e => absurd (show h3.next = _ from e) (by omega))]
                exact (k3.trans k6).1.2 x hx⟩
              obtain ⟨ys2, src2, len2, el2⟩ := (hu.partsAt (spO_steady n) y2 hsm9).2 k hk
              obtain ⟨v10, h10, hap10, hG10, A10, n10, S10, O10⟩ := GL.append2 (P := Try.prog) (t := 25) (t' := 25) (z := .agg #[.int .i64 0, .slice none 0 0]) (b := 32) (e := 32) (F := fun x => h.next ≤ x ∧ x < hq.next) (h0 := h) (K := O.drop k) (spO_steady n) hG9 src2 len2 el2 (fun x hx => ⟨hx.1, by have := k3.1.1; omega, fun e => by
                  have hx3 := k3.1.1
                  rcases O9 _ e with e | e
                  · rcases O7 _ e with e | e
                    · exact absurd (show h3.next = x from e) (by omega)
                    · omega
                  · omega⟩)
                (by simp) (by simp) (by simp) rfl (by simp) (by decide) (by decide) (by simp) (by simp <;> omega) (by have := ha.1.1; have := k3.1.1; omega) A9 (Nat.le_refl _)
              try simp (disch := first | omega | (simp; done) | fail) [wrap64c, if_pos, if_neg, opAnd, opOr, opXor, opDiff, opShr, opBit, hu2, hu3, e0, e3, e4, e5, hlt, e6, e7, hg, hlx', ntw, csw, gb2, ntw2, csw2, gb3, hc, hLu, y2', g3o, e8, hkl, hkp, hk1, c3, y6, hcb, gb7, hap10]
              refine loopK_next _ ?hm ?hf ⟨f + 1, v10, O.take k ++ [famL n f] ++ O.drop k, rfl, (by simp (disch := first | omega | (simp; done) | fail) [wrap64c, if_pos, if_neg, opAnd, opOr, opXor, opDiff, opShr, opBit, hu2, hu3, e0, e3, e4, e5, hlt, e6, e7, hg, hlx', ntw, csw, gb2, ntw2, csw2, gb3, hc, hLu, y2', g3o, e8, hkl, hkp, hk1, c3, y6, hcb, gb7] <;> omega), (by simp (disch := first | omega | (simp; done) | fail) [wrap64c, if_pos, if_neg, opAnd, opOr, opXor, opDiff, opShr, opBit, hu2, hu3, e0, e3, e4, e5, hlt, e6, e7, hg, hlx', ntw, csw, gb2, ntw2, csw2, gb3, hc, hLu, y2', g3o, e8, hkl, hkp, hk1, c3, y6, hcb, gb7] <;> omega), (by first | omega | assumption | (simp (disch := first | omega | (simp; done) | fail) [wrap64c, if_pos, if_neg, opAnd, opOr, opXor, opDiff, opShr, opBit, hu2, hu3, e0, e3, e4, e5, hlt, e6, e7, hg, hlx', ntw, csw, gb2, ntw2, csw2, gb3, hc, hLu, y2', g3o, e8, hkl, hkp, hk1, c3, y6, hcb, gb7] <;> omega)), A10, hG10, hs1, (by rw [hcs]; exact hs2.trans (List.Perm.append_right _ hO2))⟩
              (case hm => first | omega | (simp; omega))
              (case hf => simp [FrameL, hu2, hu3, e0, e3, e4, e5, hlt, e6, e7, hg, hlx', ntw, csw, gb2, ntw2, csw2, gb3, hc, hLu, y2', g3o, e8, hkl, hkp, hk1, c3, y6, hcb, gb7, f0_0, f3_0])
  · have hfe : f = bit (bit n - 2) := by omega
    have hOe : O = spacesL n := spacesL_uniq p1 hO1 (by rw [hfe] at hO2; exact hO2)
    rw [hOe] at hu
    try simp (disch := first | omega | (simp; done) | fail) [wrap64c, if_pos, if_neg, opAnd, opOr, opXor, opDiff, opShr, opBit, hu2, hu3, e0, e3, e4, e5, hlt]
    exact done_ret rfl ⟨ha, hu⟩
end Go.Proofs.Ytnjabaeajjhliaa
