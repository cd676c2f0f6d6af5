/- How many spaces there are: by both sides. -/
import Derived.Test.YtnjabaeajjhliaaT16
namespace Go.Proofs.Ytnjabaeajjhliaa
set_option linter.unusedSimpArgs false
set_option linter.unusedVariables false
set_option maxHeartbeats 4000000
open Go Go.Eng
attribute [local irreducible] WD RunD PreD Runs CallOK

theorem alGood_ok (h : Hp) (v : Value) (n : Nat) (xs : List Nat) (hv : Space h v n (toN xs)) (hs : xs.Pairwise (· < ·)) (hx : ∀ x ∈ xs, x < 128) (hl : xs.length < 2 ^ 30) (hne : 0 < xs.length) :
    CallOK Try.prog 116 #[v] h (.bool (spB n (toN xs))) h := by
  refine callY_P 21 _ [.tmp 2] Try.func116 rfl rfl rfl (by first | rfl | simp) ?_
  obtain ⟨b, rfl, hX⟩ := hv
  have hln := toN_length xs
  have hgt := toN_get xs
  obtain ⟨o_x, i_x, c_x, cs_x, own_x, ex_x, es_x, q_x, b_x, g_x, l_x, r_x⟩ := hX.open ((by omega))
  have z_x : ∀ h2 : i_x < cs_x.length, cs_x[i_x] = _ := fun h2 => r_x 0 ((by omega)) h2
  have hXq := hX
  rw [q_x] at hXq
  have hD := sl_drop (k := 1) hXq (by omega)
  have hcx : xs.length ≤ c_x ∧ c_x < 2 ^ 63 := by
    obtain ⟨s, c, e, h1, h2⟩ := Sl.form hXq
    cases e
    omega
  rw [hln] at hD q_x
  have hDI : Ints h (.slice (some ⟨o_x, i_x + 1, none⟩) (xs.length - 1) (c_x - 1)) ((toN xs).drop 1) := hD
  have hnl : ((xs.length - 1 : Nat) : Int) = (xs.length : Int) - 1 := by omega
  try simp (disch := first | omega | (simp; done) | fail) [wrap64c, if_pos, if_neg, opAnd, opOr, opXor, opDiff, opShr, opBit, hgt, q_x, g_x, l_x, r_x, z_x]
  first | refine WY_heap fun h0 q_h0 => ?_ | refine callG_heap fun h0 q_h0 => ?_ | refine callP_heap fun h0 q_h0 => ?_ | refine RY_heap fun h0 q_h0 => ?_ | refine PY_heap fun h0 q_h0 => ?_ | refine doneY_heap fun h0 q_h0 => ?_ | refine loopK_heap fun h0 q_h0 => ?_ | refine thenY_heap fun h0 q_h0 => ?_ | refine thenM_heap fun h0 q_h0 => ?_
  have k0 : Adds h h0 := by rw [q_h0]; exact (by first | exact aK | exact kK)
  have g0 : h0.get h.next = .cells [.int .i64 (n : Int), .slice (some ⟨o_x, i_x, none⟩) xs.length c_x] true true 1 := by simp [q_h0]
  have hD0 := hDI.keep k0.1
  have hX0 : Ints h0 (.slice (some ⟨o_x, i_x, none⟩) xs.length c_x) (toN xs) := by have := hX.keep k0.1; rw [q_x] at this; exact this
  have hdl : ((toN xs).drop 1).length = xs.length - 1 := by simp
  try simp (disch := first | omega | (simp; done) | fail) [wrap64c, if_pos, if_neg, opAnd, opOr, opXor, opDiff, opShr, opBit, hgt, q_x, g_x, l_x, r_x, z_x, g0]
  refine WD_loopC [1, 7, 8] (fun m tm h' => ∃ j, m = xs.length - 1 - j ∧ h0 = h' ∧ tm 9 = .int .i64 (j : Int) ∧ (j ≤ xs.length - 1)) _ ⟨0, rfl, rfl, (by simp (disch := first | omega | (simp; done) | fail) [wrap64c, if_pos, if_neg, opAnd, opOr, opXor, opDiff, opShr, opBit, hgt, q_x, g_x, l_x, r_x, z_x, g0]), (by first | omega | assumption | (simp (disch := first | omega | (simp; done) | fail) [wrap64c, if_pos, if_neg, opAnd, opOr, opXor, opDiff, opShr, opBit, hgt, q_x, g_x, l_x, r_x, z_x, g0] <;> omega))⟩ ?_
  rintro m tm h' hFr ⟨j, rfl, rfl, e9, hj⟩
  simp only [FrameL] at hFr
  obtain ⟨f1_0, f7_0, f8_0, -⟩ := hFr
  try simp (disch := first | omega | (simp; done) | fail) [wrap64c, if_pos, if_neg, opAnd, opOr, opXor, opDiff, opShr, opBit, hgt, q_x, g_x, l_x, r_x, z_x, g0] at f1_0 f7_0 f8_0
  have e1 := f1_0
  have e7 := f7_0
  have e8 := f8_0
  by_cases hlt : j < xs.length - 1
  · obtain ⟨y, hy⟩ : ∃ y, y = xs[j + 1]'(by omega) := ⟨_, rfl⟩
    have hyx : y ∈ xs := hy ▸ List.getElem_mem _
    have hy7 := hx y hyx
    have hd1 : ((toN xs).drop 1)[j]'(by rw [hdl]; exact hlt) = (y : Int) := by rw [List.getElem_drop, hgt _ (by simp; omega), hy]; congr 2; omega
    have hjl : (j : Int) < ((xs.length - 1 : Nat) : Int) := by omega
    obtain ⟨o, i, c, cs, own, ex, es, e1, e2, e3, e4⟩ := hD0.at (k := j) (by rw [hdl]; exact hlt)
    simp only [Value.slice.injEq, Option.some.injEq, Addr.mk.injEq] at e1
    obtain ⟨⟨y1, y2, _⟩, _, y3⟩ := e1
    subst y1 y2 y3
    have e2 := e2
    rw [hd1] at e4
    have e5 : ∀ h2 : i_x + 1 + j < cs.length, cs[i_x + 1 + j] = .int .i64 (y : Int) := fun _ => e4
    try simp (disch := first | omega | (simp; done) | fail) [wrap64c, if_pos, if_neg, opAnd, opOr, opXor, opDiff, opShr, opBit, hgt, q_x, g_x, l_x, r_x, z_x, g0, e1, e7, e8, e9, hlt, hjl, e2, e5, e3]
    refine callG_c (by simp) (by simp) ?ha (spInner_ok h0 _ xs y hX0 (by omega) hs hy7) ?_
    (case ha => simp (disch := first | omega | (simp; done) | fail) [wrap64c, if_pos, if_neg, opAnd, opOr, opXor, opDiff, opShr, opBit, hgt, q_x, g_x, l_x, r_x, z_x, g0, e1, e7, e8, e9, hlt, hjl, e2, e5, e3])
    by_cases hin : innerN (fam xs) y = 0
    · have hz : ((innerN (fam xs) y : Nat) : Int) == 0 := by simp [hin]
      have hb : spB n (toN xs) = false := spB_no fun g => g.inn y hyx (fun e => by
        have := List.pairwise_iff_getElem.1 hs 0 (j + 1) (by omega) (by omega) (by omega)
        omega) hin
      try simp (disch := first | omega | (simp; done) | fail) [wrap64c, if_pos, if_neg, opAnd, opOr, opXor, opDiff, opShr, opBit, hgt, q_x, g_x, l_x, r_x, z_x, g0, e1, e7, e8, e9, hlt, hjl, e2, e5, e3, hin]
      exact done_ret rfl (by simp [hb, k0.1])
    · have hz : (((innerN (fam xs) y : Nat) : Int) == 0) = false := by simp [hin]
      try simp (disch := first | omega | (simp; done) | fail) [wrap64c, if_pos, if_neg, opAnd, opOr, opXor, opDiff, opShr, opBit, hgt, q_x, g_x, l_x, r_x, z_x, g0, e1, e7, e8, e9, hlt, hjl, e2, e5, e3, hz, hin]
      refine loopK_next _ ?hm ?hf ⟨j + 1, rfl, rfl, (by simp (disch := first | omega | (simp; done) | fail) [wrap64c, if_pos, if_neg, opAnd, opOr, opXor, opDiff, opShr, opBit, hgt, q_x, g_x, l_x, r_x, z_x, g0, e1, e7, e8, e9, hlt, hjl, e2, e5, e3] <;> omega), (by first | omega | assumption | (simp (disch := first | omega | (simp; done) | fail) [wrap64c, if_pos, if_neg, opAnd, opOr, opXor, opDiff, opShr, opBit, hgt, q_x, g_x, l_x, r_x, z_x, g0, e1, e7, e8, e9, hlt, hjl, e2, e5, e3] <;> omega))⟩
      (case hm => first | omega | (simp; omega))
      (case hf => simp [FrameL, hgt, q_x, g_x, l_x, r_x, z_x, g0, e1, e7, e8, e9, hlt, hjl, e2, e5, e3, f1_0, f7_0, f8_0])
  · try simp (disch := first | omega | (simp; done) | fail) [wrap64c, if_pos, if_neg, opAnd, opOr, opXor, opDiff, opShr, opBit, hgt, q_x, g_x, l_x, r_x, z_x, g0, e1, e7, e8, e9, hlt]
    refine callG_c (by simp) (by simp) ?ha (spGood_ok h0 (.agg #[.int .i64 (n : Int), .slice (some ⟨o_x, i_x, none⟩) xs.length c_x]) n (toN xs) (.mk hX0) (by omega)) ?_
    (case ha => simp (disch := first | omega | (simp; done) | fail) [wrap64c, if_pos, if_neg, opAnd, opOr, opXor, opDiff, opShr, opBit, hgt, q_x, g_x, l_x, r_x, z_x, g0, e1, e7, e8, e9, hlt])
    try simp (disch := first | omega | (simp; done) | fail) [wrap64c, if_pos, if_neg, opAnd, opOr, opXor, opDiff, opShr, opBit, hgt, q_x, g_x, l_x, r_x, z_x, g0, e1, e7, e8, e9, hlt]
    exact done_ret rfl (by simp [k0.1])

theorem alFamily_ok (h : Hp) (n f : Nat) (p1 : 1 ≤ n) (p4 : n ≤ 4) (hf : f < bit (bit n - 2)) :
    CallOK Try.prog 63 #[.int .i64 (f : Int), .int .i64 ((bit n - 1 : Nat) : Int)] h (.bool (spB n (toN (famL n f)))) h := by
  refine callY_P 44 _ [.tmp 4] Try.func63 rfl rfl rfl (by first | rfl | simp) ?_
  have hb16 : 2 ≤ bit n ∧ bit n ≤ 16 := ⟨bit_mono (i := 1) p1, bit_mono (j := 4) p4⟩
  have hbb : bit (bit n - 2) ≤ 16384 := bit_mono (j := 14) (by omega)
  try simp (disch := first | omega | (simp; done) | fail) [wrap64c, if_pos, if_neg, opAnd, opOr, opXor, opDiff, opShr, opBit, putCells]
  first | refine WY_heap fun h1 q_h1 => ?_ | refine callG_heap fun h1 q_h1 => ?_ | refine callP_heap fun h1 q_h1 => ?_ | refine RY_heap fun h1 q_h1 => ?_ | refine PY_heap fun h1 q_h1 => ?_ | refine doneY_heap fun h1 q_h1 => ?_ | refine loopK_heap fun h1 q_h1 => ?_ | refine thenY_heap fun h1 q_h1 => ?_ | refine thenM_heap fun h1 q_h1 => ?_
  have k1 : Adds h h1 := by rw [q_h1]; exact (by first | exact aK | exact kK)
  have n1 : h1.next = h.next + 2 := by simp [q_h1]
  have gb1 : h1.get (h.next + 1) = .cells [.int .i64 1, .slice (some ⟨h.next, 0, none⟩) 1 1] true true 1 := by simp [q_h1]
  have gl1 : h1.get h.next = .cells [.int .i64 0] true true 1 := by simp [q_h1]
  refine WD_loopC [0, 1, 5] (fun m tm h' => ∃ i, m = n - i ∧ (1 ≤ i ∧ i ≤ n) ∧ (Adds h h') ∧ (h'.next = h.next + 2) ∧ (h'.get (h.next + 1) = .cells [.int .i64 (i : Int), .slice (some ⟨h.next, 0, none⟩) 1 1] true true 1) ∧ (h'.get h.next = .cells [.int .i64 0] true true 1)) _ ⟨1, rfl, (by first | omega | assumption | (simp (disch := first | omega | (simp; done) | fail) [wrap64c, if_pos, if_neg, opAnd, opOr, opXor, opDiff, opShr, opBit] <;> omega)), k1, n1, gb1, gl1⟩ ?_
  rintro m tm h' hFr ⟨i, rfl, hi, ha, hnx, hgA, hgl⟩
  simp only [FrameL] at hFr
  obtain ⟨f0_0, f1_0, f5_0, -⟩ := hFr
  try simp (disch := first | omega | (simp; done) | fail) [wrap64c, if_pos, if_neg, opAnd, opOr, opXor, opDiff, opShr, opBit] at f0_0 f1_0 f5_0
  have e0 := f0_0
  have e1 := f1_0
  have e5 := f5_0
  have hbi : 1 ≤ bit i ∧ bit i ≤ bit n := ⟨bit_pos i, bit_mono hi.2⟩
  have hbi16 : bit i ≤ 16 := by omega
  have hbs : ((bit n - 1 : Nat) : Int) = (bit n : Int) - 1 := by omega
  by_cases hlt : i < n
  · have hbl := bit_lt_bit hlt
    have hg := hgA
    have hc : ((bit i : Nat) : Int) - 1 < ((bit n - 1 : Nat) : Int) := by omega
    try simp (disch := first | omega | (simp; done) | fail) [wrap64c, if_pos, if_neg, opAnd, opOr, opXor, opDiff, opShr, opBit, e0, e1, e5, hg, hc, putCells]
    refine loopK_next _ ?hm ?hf ⟨i + 1, rfl, (by first | omega | assumption | (simp (disch := first | omega | (simp; done) | fail) [wrap64c, if_pos, if_neg, opAnd, opOr, opXor, opDiff, opShr, opBit, e0, e1, e5, hg, hc] <;> omega)), (by first | exact aK | exact kK), (by simpa using hnx), (by simp), (by simp [hgl])⟩
    (case hm => first | omega | (simp; omega))
    (case hf => simp [FrameL, e0, e1, e5, hg, hc, f0_0, f1_0, f5_0])
  · have hin : i = n := by omega
    have hc : ¬ (((bit i : Nat) : Int) - 1 < ((bit n - 1 : Nat) : Int)) := by rw [hin]; omega
    rename Hp => hq
    have hg2 : hq.get (h.next + 1) = .cells [.int .i64 (n : Int), .slice (some ⟨h.next, 0, none⟩) 1 1] true true 1 := by rw [← hin]; exact hgA
    try simp (disch := first | omega | (simp; done) | fail) [wrap64c, if_pos, if_neg, opAnd, opOr, opXor, opDiff, opShr, opBit, e0, e1, e5, hc, hgA, hin]
    refine WD_loopC [0, 1, 5] (fun m tm h' => ∃ x w, m = bit n - 1 - x ∧ tm 6 = .int .i64 (x : Int) ∧ (x ≤ bit n - 1 ∧ 1 ≤ x) ∧ (Adds h h') ∧ (IntsA h.next h' w (toN (0 :: famS f (x - 1)))) ∧ (h'.get (h.next + 1) = .cells [.int .i64 (n : Int), w] true true 1) ∧ (OffF (fun o => o = h.next + 1) w) ∧ (h.next + 1 < h'.next)) _ ⟨1, .slice (some ⟨h.next, 0, none⟩) 1 1, rfl, (by simp (disch := first | omega | (simp; done) | fail) [wrap64c, if_pos, if_neg, opAnd, opOr, opXor, opDiff, opShr, opBit, e0, e1, e5, hc]), (by first | omega | assumption | (simp (disch := first | omega | (simp; done) | fail) [wrap64c, if_pos, if_neg, opAnd, opOr, opXor, opDiff, opShr, opBit, e0, e1, e5, hc] <;> omega)), ha, (.inr ⟨h.next, true, by simp, Nat.le_refl _, by omega, by simp [hgl, toN]⟩), hg2, (.mk (by omega)), (by omega)⟩ ?_
    rintro m tm h' hFr ⟨x, w, rfl, e6, hx, ha2, hw, hg, ho, hnn⟩
    simp only [FrameL] at hFr
    obtain ⟨f0_1, f1_1, f5_1, -⟩ := hFr
    try simp (disch := first | omega | (simp; done) | fail) [wrap64c, if_pos, if_neg, opAnd, opOr, opXor, opDiff, opShr, opBit, e0, e1, e5, hc] at f0_1 f1_1 f5_1
    have e0 := f0_1
    have e1 := f1_1
    have e5 := f5_1
    have hfl := famS_len f (x - 1)
    rename Hp => hr
    by_cases hlx : x < bit n - 1
    · have hlx' : (x : Int) < ((bit n - 1 : Nat) : Int) := by omega
      have hx1 : IntKind.wrap .i64 ((x : Int) - 1) = ((x - 1 : Nat) : Int) := by rw [wrap64c _ (by omega) (by omega)]; omega
      have hfs := famS_succ f (x - 1)
      rw [show x - 1 + 1 = x by omega] at hfs
      try simp (disch := first | omega | (simp; done) | fail) [wrap64c, if_pos, if_neg, opAnd, opOr, opXor, opDiff, opShr, opBit, e0, e1, e5, hc, e6, hg, hlx', hx1]
      refine callG_c (by simp) (by simp) ?ha (spIn_ok hr f (x - 1) (by omega) (by omega)) ?_
      (case ha => simp (disch := first | omega | (simp; done) | fail) [wrap64c, if_pos, if_neg, opAnd, opOr, opXor, opDiff, opShr, opBit, e0, e1, e5, hc, e6, hg, hlx', hx1])
      cases hc : f.testBit (x - 1)
      · rw [hc] at hfs
        try simp (disch := first | omega | (simp; done) | fail) [wrap64c, if_pos, if_neg, opAnd, opOr, opXor, opDiff, opShr, opBit, e0, e1, e5, hc, e6, hg, hlx', hx1]
        refine loopK_next _ ?hm ?hf ⟨x + 1, w, rfl, (by simp (disch := first | omega | (simp; done) | fail) [wrap64c, if_pos, if_neg, opAnd, opOr, opXor, opDiff, opShr, opBit, e0, e1, e5, hc, e6, hg, hlx', hx1] <;> omega), (by first | omega | assumption | (simp (disch := first | omega | (simp; done) | fail) [wrap64c, if_pos, if_neg, opAnd, opOr, opXor, opDiff, opShr, opBit, e0, e1, e5, hc, e6, hg, hlx', hx1] <;> omega)), (by first | omega | assumption | (simp (disch := first | omega | (simp; done) | fail) [wrap64c, if_pos, if_neg, opAnd, opOr, opXor, opDiff, opShr, opBit, e0, e1, e5, hc, e6, hg, hlx', hx1] <;> omega)), (by rw [show x + 1 - 1 = x by omega, hfs]; exact hw), (by first | omega | assumption | (simp (disch := first | omega | (simp; done) | fail) [wrap64c, if_pos, if_neg, opAnd, opOr, opXor, opDiff, opShr, opBit, e0, e1, e5, hc, e6, hg, hlx', hx1] <;> omega)), (by first | omega | assumption | (simp (disch := first | omega | (simp; done) | fail) [wrap64c, if_pos, if_neg, opAnd, opOr, opXor, opDiff, opShr, opBit, e0, e1, e5, hc, e6, hg, hlx', hx1] <;> omega)), (by first | omega | assumption | (simp (disch := first | omega | (simp; done) | fail) [wrap64c, if_pos, if_neg, opAnd, opOr, opXor, opDiff, opShr, opBit, e0, e1, e5, hc, e6, hg, hlx', hx1] <;> omega))⟩
        (case hm => first | omega | (simp; omega))
        (case hf => simp [FrameL, e0, e1, e5, hc, e6, hg, hlx', hx1, f0_1, f1_1, f5_1])
      · rw [hc] at hfs
        have ntw := (hw.own (by simp; omega)).nt
        have csw := (hw.own (by simp; omega)).cs
        try simp (disch := first | omega | (simp; done) | fail) [wrap64c, if_pos, if_neg, opAnd, opOr, opXor, opDiff, opShr, opBit, e0, e1, e5, hc, e6, hg, hlx', hx1, ntw, csw]
        obtain ⟨w2, h2, hap, hw2, ha3, hn3, hs3⟩ := appI3 hw (x : Int) (by simp; omega) ha2.1.1 ha2 (Nat.le_refl _)
        obtain ⟨hsm, ho2⟩ := hs3 (fun o => o = h.next + 1) (fun o e => by omega) ho
        have gb2 : h2.get (h.next + 1) = .cells [.int .i64 (n : Int), w] true true 1 := by rw [hsm.2 _ rfl hnn]; exact hg
        have ntw2 := (hw2.own (by simp; omega)).nt
        have csw2 := (hw2.own (by simp; omega)).cs
        try simp (disch := first | omega | (simp; done) | fail) [wrap64c, if_pos, if_neg, opAnd, opOr, opXor, opDiff, opShr, opBit, e0, e1, e5, hc, e6, hg, hlx', hx1, ntw, csw, gb2, ntw2, csw2, hap, putCells]
        refine loopK_next _ ?hm ?hf ⟨x + 1, w2, rfl, (by simp (disch := first | omega | (simp; done) | fail) [wrap64c, if_pos, if_neg, opAnd, opOr, opXor, opDiff, opShr, opBit, e0, e1, e5, hc, e6, hg, hlx', hx1, ntw, csw, gb2, ntw2, csw2] <;> omega), (by first | omega | assumption | (simp (disch := first | omega | (simp; done) | fail) [wrap64c, if_pos, if_neg, opAnd, opOr, opXor, opDiff, opShr, opBit, e0, e1, e5, hc, e6, hg, hlx', hx1, ntw, csw, gb2, ntw2, csw2] <;> omega)), (by first | exact aK | exact kK), ?c_hw, (by simp), ho2, (by simp; omega)⟩
        (case hm => first | omega | (simp; omega))
        (case hf => simp [FrameL, e0, e1, e5, hc, e6, hg, hlx', hx1, ntw, csw, gb2, ntw2, csw2, f0_1, f1_1, f5_1])
        case c_hw =>
          exact (by
            rw [show x + 1 - 1 = x by omega, hfs, if_pos rfl, show (0 :: (famS f (x - 1) ++ [x])) = (0 :: famS f (x - 1)) ++ [x] from rfl, toN_snoc]
            exact ia_putoff hw2 ho2 _)
    · have hxe : x = bit n - 1 := by omega
      have hlx' : ¬ (x : Int) < ((bit n - 1 : Nat) : Int) := by omega
      rw [show x - 1 = bit n - 2 by omega] at hw hfl
      have ntw := (hw.own (by simp; omega)).nt
      have csw := (hw.own (by simp; omega)).cs
      have hpos : 0 < ((bit n - 1 : Nat) : Int) := by omega
      try simp (disch := first | omega | (simp; done) | fail) [wrap64c, if_pos, if_neg, opAnd, opOr, opXor, opDiff, opShr, opBit, e0, e1, e5, hc, e6, hg, hlx', ntw, csw, hpos]
      obtain ⟨w2, h2, hap, hw2, ha3, hn3, hs3⟩ := appI3 hw ((bit n - 1 : Nat) : Int) (by simp; omega) ha2.1.1 ha2 (Nat.le_refl _)
      obtain ⟨hsm, ho2⟩ := hs3 (fun o => o = h.next + 1) (fun o e => by omega) ho
      have gb2 : h2.get (h.next + 1) = .cells [.int .i64 (n : Int), w] true true 1 := by rw [hsm.2 _ rfl hnn]; exact hg
      rw [← toN_snoc] at hw2
      have hfe : 0 :: famS f (bit n - 2) ++ [bit n - 1] = famL n f := rfl
      rw [hfe] at hw2
      have hfll := famL_len n f p1
      have ntw2 := (hw2.own (by simp; omega)).nt
      have csw2 := (hw2.own (by simp; omega)).cs
      try simp (disch := first | omega | (simp; done) | fail) [wrap64c, if_pos, if_neg, opAnd, opOr, opXor, opDiff, opShr, opBit, e0, e1, e5, hc, e6, hg, hlx', ntw, csw, hpos, gb2, ntw2, csw2, hap, putCells]
      first | refine WY_heap fun h3 q_h3 => ?_ | refine callG_heap fun h3 q_h3 => ?_ | refine callP_heap fun h3 q_h3 => ?_ | refine RY_heap fun h3 q_h3 => ?_ | refine PY_heap fun h3 q_h3 => ?_ | refine doneY_heap fun h3 q_h3 => ?_ | refine loopK_heap fun h3 q_h3 => ?_ | refine thenY_heap fun h3 q_h3 => ?_ | refine thenM_heap fun h3 q_h3 => ?_
      have k3 : Adds h h3 := by rw [q_h3]; exact (by first | exact aK | exact kK)
      have hw3 : IntsA h.next h3 w2 (toN (famL n f)) := by rw [q_h3]; exact ia_putoff hw2 ho2 _
      have hO3 := hw3.own (by simp; omega)
      have gb3 : h3.get (h.next + 1) = .cells [.int .i64 (n : Int), w2] true true 1 := by simp [q_h3]
      try simp (disch := first | omega | (simp; done) | fail) [wrap64c, if_pos, if_neg, opAnd, opOr, opXor, opDiff, opShr, opBit, e0, e1, e5, hc, e6, hg, hlx', ntw, csw, hpos, gb2, ntw2, csw2, gb3]
      refine callG_c (by simp) (by simp) ?ha (alGood_ok h3 (.agg #[.int .i64 (n : Int), w2]) n (famL n f) (.mk hO3.ints) (famL_srt p1) (fun y hy => by have := famL_lt p1 y hy; omega) (by omega) (by simp [famL])) ?_
      (case ha => simp (disch := first | omega | (simp; done) | fail) [wrap64c, if_pos, if_neg, opAnd, opOr, opXor, opDiff, opShr, opBit, e0, e1, e5, hc, e6, hg, hlx', ntw, csw, hpos, gb2, ntw2, csw2, gb3])
      try simp (disch := first | omega | (simp; done) | fail) [wrap64c, if_pos, if_neg, opAnd, opOr, opXor, opDiff, opShr, opBit, e0, e1, e5, hc, e6, hg, hlx', ntw, csw, hpos, gb2, ntw2, csw2, gb3]
      exact done_ret rfl (by simp [k3.1])

noncomputable def cntSpR (N : Int) : Int := if 1 ≤ N ∧ N ≤ 4 then ((spacesL N.toNat).length : Int) else 0
theorem specCount_ok (h : Hp) (N : Int) : CallOK Try.prog 15 #[.int .i64 N] h (.tuple #[.int .i64 (cntSpR N), .bool (decide (1 ≤ N ∧ N ≤ 4))]) h := by
  by_cases hc : 1 ≤ N ∧ N ≤ 4
  · obtain ⟨n, rfl⟩ := Int.eq_ofNat_of_zero_le (show 0 ≤ N by omega)
    have hc1 := hc
    refine callY_P 26 _ [.tmp 2, .tmp 3] Try.func15 rfl rfl rfl (by first | rfl | simp) ?_
    try simp (disch := first | omega | (simp; done) | fail) [wrap64c, if_pos, if_neg, opAnd, opOr, opXor, opDiff, opShr, opBit, hc1]
    refine callG_c (by simp) (by simp) ?ha (l1In_ok h n 1 4) ?_
    (case ha => simp (disch := first | omega | (simp; done) | fail) [wrap64c, if_pos, if_neg, opAnd, opOr, opXor, opDiff, opShr, opBit, hc1])
    have p1 : 1 ≤ n := by omega
    have p4 : n ≤ 4 := by omega
    have hb16 : 2 ≤ bit n ∧ bit n ≤ 16 := ⟨bit_mono (i := 1) p1, bit_mono (j := 4) p4⟩
    have hbb : bit (bit n - 2) ≤ 16384 := bit_mono (j := 14) (by omega)
    have hu2 : IntKind.wrap .i64 (((bit n : Nat) : Int) - 1) = ((bit n - 1 : Nat) : Int) := by rw [wrap64c _ (by omega) (by omega)]; omega
    have hu3 : IntKind.wrap .i64 (((bit n - 1 : Nat) : Int) - 1) = ((bit n - 2 : Nat) : Int) := by rw [wrap64c _ (by omega) (by omega)]; omega
    try simp (disch := first | omega | (simp; done) | fail) [wrap64c, if_pos, if_neg, opAnd, opOr, opXor, opDiff, opShr, opBit, hc1, hu2, hu3]
    refine WD_loopC [5] (fun m tm h' => ∃ f, m = bit (bit n - 2) - f ∧ h = h' ∧ tm 4 = .int .i64 ((candK n f).length : Int) ∧ tm 6 = .int .i64 (f : Int) ∧ (f ≤ bit (bit n - 2))) _ ⟨0, rfl, rfl, (by simp [candK]), (by simp (disch := first | omega | (simp; done) | fail) [wrap64c, if_pos, if_neg, opAnd, opOr, opXor, opDiff, opShr, opBit, hc1, hu2, hu3]), (by first | omega | assumption | (simp (disch := first | omega | (simp; done) | fail) [wrap64c, if_pos, if_neg, opAnd, opOr, opXor, opDiff, opShr, opBit, hc1, hu2, hu3] <;> omega))⟩ ?_
    rintro m tm h' hFr ⟨f, rfl, rfl, e4, e6, hf⟩
    simp only [FrameL] at hFr
    obtain ⟨f5_0, -⟩ := hFr
    try simp (disch := first | omega | (simp; done) | fail) [wrap64c, if_pos, if_neg, opAnd, opOr, opXor, opDiff, opShr, opBit, hc1, hu2, hu3] at f5_0
    have e5 := f5_0
    have hcl := candK_len n f
    have hcs := candK_succ n f
    by_cases hlt : f < bit (bit n - 2)
    · try simp (disch := first | omega | (simp; done) | fail) [wrap64c, if_pos, if_neg, opAnd, opOr, opXor, opDiff, opShr, opBit, hc1, hu2, hu3, e4, e5, e6, hlt]
      refine callG_c (by simp) (by simp) ?ha (alFamily_ok h n f p1 p4 hlt) ?_
      (case ha => simp (disch := first | omega | (simp; done) | fail) [wrap64c, if_pos, if_neg, opAnd, opOr, opXor, opDiff, opShr, opBit, hc1, hu2, hu3, e4, e5, e6, hlt])
      cases hc2 : spB n (toN (famL n f))
      · rw [hc2] at hcs
        try simp (disch := first | omega | (simp; done) | fail) [wrap64c, if_pos, if_neg, opAnd, opOr, opXor, opDiff, opShr, opBit, hc1, hu2, hu3, e4, e5, e6, hlt, hc2]
        refine loopK_next _ ?hm ?hf ⟨f + 1, rfl, rfl, (by simp [hcs, e4]), (by simp (disch := first | omega | (simp; done) | fail) [wrap64c, if_pos, if_neg, opAnd, opOr, opXor, opDiff, opShr, opBit, hc1, hu2, hu3, e4, e5, e6, hlt, hc2] <;> omega), (by first | omega | assumption | (simp (disch := first | omega | (simp; done) | fail) [wrap64c, if_pos, if_neg, opAnd, opOr, opXor, opDiff, opShr, opBit, hc1, hu2, hu3, e4, e5, e6, hlt, hc2] <;> omega))⟩
        (case hm => first | omega | (simp; omega))
        (case hf => simp [FrameL, hc1, hu2, hu3, e4, e5, e6, hlt, hc2, f5_0])
      · rw [hc2] at hcs
        try simp (disch := first | omega | (simp; done) | fail) [wrap64c, if_pos, if_neg, opAnd, opOr, opXor, opDiff, opShr, opBit, hc1, hu2, hu3, e4, e5, e6, hlt, hc2]
        refine loopK_next _ ?hm ?hf ⟨f + 1, rfl, rfl, (by simp [hcs]), (by simp (disch := first | omega | (simp; done) | fail) [wrap64c, if_pos, if_neg, opAnd, opOr, opXor, opDiff, opShr, opBit, hc1, hu2, hu3, e4, e5, e6, hlt, hc2] <;> omega), (by first | omega | assumption | (simp (disch := first | omega | (simp; done) | fail) [wrap64c, if_pos, if_neg, opAnd, opOr, opXor, opDiff, opShr, opBit, hc1, hu2, hu3, e4, e5, e6, hlt, hc2] <;> omega))⟩
        (case hm => first | omega | (simp; omega))
        (case hf => simp [FrameL, hc1, hu2, hu3, e4, e5, e6, hlt, hc2, f5_0])
    · have hfe : f = bit (bit n - 2) := by omega
      try simp (disch := first | omega | (simp; done) | fail) [wrap64c, if_pos, if_neg, opAnd, opOr, opXor, opDiff, opShr, opBit, hc1, hu2, hu3, e4, e5, e6, hlt]
      have hc3 : 1 ≤ (n : Int) ∧ (n : Int) ≤ 4 := hc
      exact done_ret rfl (by simp [cntSpR, hc3.1, hc3.2, spacesL_len, hfe, bit])
  · have hc1 := hc
    refine callY_P 26 _ [.tmp 2, .tmp 3] Try.func15 rfl rfl rfl (by first | rfl | simp) ?_
    try simp (disch := first | omega | (simp; done) | fail) [wrap64c, if_pos, if_neg, opAnd, opOr, opXor, opDiff, opShr, opBit, hc1]
    refine callG_c (by simp) (by simp) ?ha (l1In_ok h N 1 4) ?_
    (case ha => simp (disch := first | omega | (simp; done) | fail) [wrap64c, if_pos, if_neg, opAnd, opOr, opXor, opDiff, opShr, opBit, hc1])
    have hc' : (decide (1 ≤ N ∧ N ≤ 4)) = false := decide_eq_false hc
    try simp (disch := first | omega | (simp; done) | fail) [wrap64c, if_pos, if_neg, opAnd, opOr, opXor, opDiff, opShr, opBit, hc1, hc']
    exact done_ret rfl (by simp [cntSpR, hc])
theorem implCount_ok (h : Hp) (N : Int) : CallOK Try.prog 16 #[.int .i64 N] h (.tuple #[.int .i64 (cntSpR N), .bool (decide (1 ≤ N ∧ N ≤ 4))]) h := by
  by_cases hc : 1 ≤ N ∧ N ≤ 4
  · obtain ⟨n, rfl⟩ := Int.eq_ofNat_of_zero_le (show 0 ≤ N by omega)
    have hc1 := hc
    refine callY_P 10 _ [.tmp 2, .tmp 3] Try.func16 rfl rfl rfl (by first | rfl | simp) ?_
    try simp (disch := first | omega | (simp; done) | fail) [wrap64c, if_pos, if_neg, opAnd, opOr, opXor, opDiff, opShr, opBit, hc1]
    refine callG_c (by simp) (by simp) ?ha (within_ok h n 1 4) ?_
    (case ha => simp (disch := first | omega | (simp; done) | fail) [wrap64c, if_pos, if_neg, opAnd, opOr, opXor, opDiff, opShr, opBit, hc1])
    obtain ⟨v, h2, hc2, ha2, hG⟩ := spaces_ok h n (by omega) (by omega)
    have hL := hG.lenD
    try simp (disch := first | omega | (simp; done) | fail) [wrap64c, if_pos, if_neg, opAnd, opOr, opXor, opDiff, opShr, opBit, hc1, hL]
    refine callG_c (by simp) (by simp) ?ha (hc2) ?_
    (case ha => simp (disch := first | omega | (simp; done) | fail) [wrap64c, if_pos, if_neg, opAnd, opOr, opXor, opDiff, opShr, opBit, hc1, hL])
    try simp (disch := first | omega | (simp; done) | fail) [wrap64c, if_pos, if_neg, opAnd, opOr, opXor, opDiff, opShr, opBit, hc1, hL]
    have hc3 : 1 ≤ (n : Int) ∧ (n : Int) ≤ 4 := hc
    exact done_ret rfl (by simp [cntSpR, hc3.1, hc3.2, ha2.1])
  · have hc1 := hc
    refine callY_P 10 _ [.tmp 2, .tmp 3] Try.func16 rfl rfl rfl (by first | rfl | simp) ?_
    try simp (disch := first | omega | (simp; done) | fail) [wrap64c, if_pos, if_neg, opAnd, opOr, opXor, opDiff, opShr, opBit, hc1]
    refine callG_c (by simp) (by simp) ?ha (within_ok h N 1 4) ?_
    (case ha => simp (disch := first | omega | (simp; done) | fail) [wrap64c, if_pos, if_neg, opAnd, opOr, opXor, opDiff, opShr, opBit, hc1])
    have hc' : (decide (1 ≤ N ∧ N ≤ 4)) = false := decide_eq_false hc
    try simp (disch := first | omega | (simp; done) | fail) [wrap64c, if_pos, if_neg, opAnd, opOr, opXor, opDiff, opShr, opBit, hc1, hc']
    exact done_ret rfl (by simp [cntSpR, hc])
end Go.Proofs.Ytnjabaeajjhliaa
